import Derived.Test.YteomgedahkpnlaaZFeedMelts2
section
set_option linter.unusedVariables false
set_option linter.unusedSimpArgs false
set_option maxRecDepth 100000
namespace Go.Proofs.Yteomgedahkpnlaa
open Go.Proofs
theorem F97 (l : List Guard) (f : FuncId) (caps : List AV) (es : List Ent) (p : Guard → Bool) (hcall : Callable Try.prog f) (hf : ∀ x : Guard, x ∈ l → EffR Try.prog f ([] ++ [Guard.av x] ++ caps) es (.bool (p x))) (hl : (l.length : Int) ≤ 9223372036854775807) : EffR Try.prog 97 [.slice ((l).map Guard.av) none, .func f [] caps] es (.int .i64 (idxI p l)) := by
 intro mem hes
 refine Meets.body 0 Try.func97 rfl rfl ?_
 refine AC.rq (fun σ0 => RegOK.m1 [0, 1] ⟨[(0, .slice ((l).map Guard.av) none), (1, .func f [] caps)], mem⟩ (.cons (s_assign (.int .i64 (0))) .nil) ?_)
 refine AC.seq ?_
 refine AC.rq (fun σ1 => RegOK.m1 [0, 1, 7, 8] ⟨[(0, .slice ((l).map Guard.av) none), (1, .func f [] caps), (7, I (l.length : Int)), (8, I 0)], mem⟩ (.cons (s_move (.tmp 0 (.slice ((l).map Guard.av) none))) (.cons (s_lenM (l := l) slc90 (.tmp 6 (.slice ((l).map Guard.av) none))) (.cons (s_move (.int .i64 (0))) .nil))) ?_)
 refine AC.block ?_
 refine AC.loopW (fun mz T => ∃ (k : Nat), mz = l.length - k ∧ ((k ≤ l.length) ∧ (∀ j : Nat, j < k → p (l.getD j default) = false)) ∧ T = ⟨[(0, .slice ((l).map Guard.av) none), (1, .func f [] caps), (7, I (l.length : Int)), (8, I (k : Int))], mem⟩) _ ⟨[(0, .slice ((l).map Guard.av) none), (1, .func f [] caps), (7, I (l.length : Int)), (8, I ((0) : Int))], mem⟩ ⟨0, rfl, ⟨(by omega), (by intro j hj; omega)⟩, rfl⟩ (Weak.of [] (by kernel_rfl) (by kernel_rfl)) ?_ Fr.plain
 rintro _ _ ⟨k, rfl, ⟨hk, hn⟩, rfl⟩
 refine AC.rq (fun σ2 => RegOK.m1 [0, 1, 7, 8, 9] ⟨[(0, .slice ((l).map Guard.av) none), (1, .func f [] caps), (7, I (l.length : Int)), (8, I (k : Int)), (9, .bool (decide ((k : Int) < (l.length : Int))))], mem⟩ (.cons (s_lss (.tmp 8 (I (k : Int))) (.tmp 7 (I (l.length : Int)))) .nil) ?_)
 refine AC.cseq (decide ((k : Int) < (l.length : Int))) rfl rfl (fun hc => ?_) (fun hc => ?_)
 ·have q1 := iD.1 hc
  refine AC.skip ?_
  refine thenQ_n ?_
  refine AC.bseq ?_
  refine AC.rq (fun σ3 => RegOK.m1 [0, 1, 5, 7, 8] ⟨[(0, .slice ((l).map Guard.av) none), (1, .func f [] caps), (5, I (k : Int)), (7, I (l.length : Int)), (8, I (k : Int))], mem⟩ (.cons (s_move (.tmp 8 (I (k : Int)))) (.cons (s_assign (.tmp 10 (I (k : Int)))) .nil)) ?_)
  refine AC.rq (fun σ4 => RegOK.mkN [0, 1, 5, 7, 8, 16] ⟨[(0, .slice ((l).map Guard.av) none), (1, .func f [] caps), (5, I (k : Int)), (7, I (l.length : Int)), (8, I (k : Int)), (16, .bool ((p (l.getD k default))))], mem⟩ (.cons (s_move (.tmp 1 (.func f [] caps))) (.cons (s_move (.tmp 0 (.slice ((l).map Guard.av) none))) (.cons (s_move (.tmp 5 (I (k : Int)))) (.cons (s_ixM (l := l) (f := Guard.av) (default) slc90 (.tmp 12 (.slice ((l).map Guard.av) none)) (.tmp 13 (I (k : Int))) (by omega) rfl) (.cons (s_loadAe (l := (Guard.av (l.getD k default)).cells) tyA96 (.tmp 14 (.eptr (Guard.av (l.getD k default)) 0)) rfl rfl) (.cons (s_callR (r := .bool ((p (l.getD k default)))) (es := (es)) (.tmp 11 (.func f [] caps)) (.cons (.tmp 15 (Guard.av (l.getD k default))) .nil) hcall (hf (l.getD k default) (getD_mem (by omega)))) .nil)))))) (by kernel_rfl) (by kernel_rfl) (by kernel_rfl) ⟨trivial, trivial, trivial, trivial, trivial, (fun lq => (Has.left (Has.right (pre := []) hes))), trivial⟩ (by kernel_rfl) (by kernel_rfl) (by kernel_rfl) ?_)
  refine AC.cend ((p (l.getD k default))) rfl rfl (fun hc => ?_) (fun hc => ?_)
  ·have q2 := iB.1 hc
   refine AC.rq (fun σ5 => RegOK.m1 [4] ⟨[(4, I (k : Int))], mem⟩ (.cons (s_move (.tmp 5 (I (k : Int)))) (.cons (s_assign (.tmp 17 (I (k : Int)))) .nil)) ?_)
   refine AC.ret ?_
   refine blockQ_r ?_
   refine thenQ_r ?_
   refine thenQ_r ?_
   refine blockQ_r ?_
   refine thenQ_r ?_
   exact FinQ.ret (result1 rfl (res_tmp (v := I (k : Int)) rfl rfl)) ⟨by first | exact congrArg I (idx_found default (by omega) hn hc) | exact congrArg I (idx_none default (by intro j hj; exact hn j (by omega))), rfl⟩
  ·have q3 := iF iB hc
   refine AC.skip ?_
   refine blockQ_n ?_
   refine thenQ_n ?_
   refine AC.re (fun σ6 => RegOK.m1 [0, 1, 7, 8] ⟨[(0, .slice ((l).map Guard.av) none), (1, .func f [] caps), (7, I (l.length : Int)), (8, I ((k : Int) + 1))], mem⟩ (.cons (s_add (.tmp 8 (I (k : Int))) (.int .i64 (1)) (inK_i64 (by omega))) (.cons (s_move (.tmp 18 (I ((k : Int) + 1)))) .nil)) ?_)
   refine thenQ_n ⟨_, ?_, _, ⟨(k + 1), rfl, ⟨(by omega), (by intro j hj; rcases Decidable.em (j = k) with h | h; (subst h; exact hc); exact hn j (by omega))⟩, rfl⟩, Weak.of [] (by kernel_rfl) (by kernel_rfl)⟩
   omega
 ·have q4 := iF iD hc
  refine AC.exit ?_
  refine thenQ_x ?_
  refine thenQ_x ?_
  refine blockQ_x ?_
  refine thenQ_n ?_
  refine AC.rq (fun σ7 => RegOK.m1 [4] ⟨[(4, I (-1))], mem⟩ (.cons (s_assign (.int .i64 (-1))) .nil) ?_)
  refine AC.ret ?_
  exact FinQ.ret (result1 rfl (res_tmp (v := I (-1)) rfl rfl)) ⟨by first | exact congrArg I (idx_found default (by omega) hn hc) | exact congrArg I (idx_none default (by intro j hj; exact hn j (by omega))), rfl⟩
theorem F55 (l : List Guard) (f : FuncId) (caps : List AV) (es : List Ent) (p : Guard → Bool) (hcall : Callable Try.prog f) (hf : ∀ x : Guard, x ∈ l → EffR Try.prog f ([] ++ [Guard.av x] ++ caps) es (.bool (p x))) (hl : (l.length : Int) ≤ 9223372036854775807) : EffR Try.prog 55 [.slice ((l).map Guard.av) none, .func f [] caps] es (.bool (l.any p)) := by
 intro mem hes
 refine Meets.body 0 Try.func55 rfl rfl ?_
 refine AC.rq (fun σ0 => RegOK.m1 [0, 1] ⟨[(0, .slice ((l).map Guard.av) none), (1, .func f [] caps)], mem⟩ (.cons (s_assign (.bool false)) .nil) ?_)
 refine AC.rq (fun σ1 => RegOK.mkN [4] ⟨[(4, .bool (decide (0 ≤ (idxI p l))))], mem⟩ (.cons (s_move (.tmp 0 (.slice ((l).map Guard.av) none))) (.cons (s_move (.tmp 1 (.func f [] caps))) (.cons (s_callR (r := I (idxI p l)) (es := (es)) (.func 97) (.cons (.tmp 5 (.slice ((l).map Guard.av) none)) (.cons (.tmp 6 (.func f [] caps)) .nil)) call97 (F97 l f caps es p hcall hf hl)) (.cons (s_geq (.tmp 7 (I (idxI p l))) (.int .i64 (0))) (.cons (s_assign (.tmp 8 (.bool (decide (0 ≤ (idxI p l)))))) .nil))))) (by kernel_rfl) (by kernel_rfl) (by kernel_rfl) ⟨trivial, trivial, (fun lq => (Has.left (Has.right (pre := []) hes))), trivial, trivial, trivial⟩ (by kernel_rfl) (by kernel_rfl) (by kernel_rfl) ?_)
 refine AC.ret ?_
 exact FinQ.ret (result1 rfl (res_tmp (v := .bool (decide (0 ≤ (idxI p l)))) rfl rfl)) ⟨by exact congrArg AV.bool (idx_any p l), rfl⟩
theorem F126 (l : List Cable) (f : FuncId) (caps : List AV) (es : List Ent) (p : Cable → Bool) (hcall : Callable Try.prog f) (hf : ∀ x : Cable, x ∈ l → EffR Try.prog f ([] ++ [Cable.av x] ++ caps) es (.bool (p x))) (hl : (l.length : Int) ≤ 9223372036854775807) : EffR Try.prog 126 [.slice ((l).map Cable.av) none, .func f [] caps] es (.int .i64 (idxI p l)) := by
 intro mem hes
 refine Meets.body 0 Try.func126 rfl rfl ?_
 refine AC.rq (fun σ0 => RegOK.m1 [0, 1] ⟨[(0, .slice ((l).map Cable.av) none), (1, .func f [] caps)], mem⟩ (.cons (s_assign (.int .i64 (0))) .nil) ?_)
 refine AC.seq ?_
 refine AC.rq (fun σ1 => RegOK.m1 [0, 1, 7, 8] ⟨[(0, .slice ((l).map Cable.av) none), (1, .func f [] caps), (7, I (l.length : Int)), (8, I 0)], mem⟩ (.cons (s_move (.tmp 0 (.slice ((l).map Cable.av) none))) (.cons (s_lenM (l := l) slc22 (.tmp 6 (.slice ((l).map Cable.av) none))) (.cons (s_move (.int .i64 (0))) .nil))) ?_)
 refine AC.block ?_
 refine AC.loopW (fun mz T => ∃ (k : Nat), mz = l.length - k ∧ ((k ≤ l.length) ∧ (∀ j : Nat, j < k → p (l.getD j default) = false)) ∧ T = ⟨[(0, .slice ((l).map Cable.av) none), (1, .func f [] caps), (7, I (l.length : Int)), (8, I (k : Int))], mem⟩) _ ⟨[(0, .slice ((l).map Cable.av) none), (1, .func f [] caps), (7, I (l.length : Int)), (8, I ((0) : Int))], mem⟩ ⟨0, rfl, ⟨(by omega), (by intro j hj; omega)⟩, rfl⟩ (Weak.of [] (by kernel_rfl) (by kernel_rfl)) ?_ Fr.plain
 rintro _ _ ⟨k, rfl, ⟨hk, hn⟩, rfl⟩
 refine AC.rq (fun σ2 => RegOK.m1 [0, 1, 7, 8, 9] ⟨[(0, .slice ((l).map Cable.av) none), (1, .func f [] caps), (7, I (l.length : Int)), (8, I (k : Int)), (9, .bool (decide ((k : Int) < (l.length : Int))))], mem⟩ (.cons (s_lss (.tmp 8 (I (k : Int))) (.tmp 7 (I (l.length : Int)))) .nil) ?_)
 refine AC.cseq (decide ((k : Int) < (l.length : Int))) rfl rfl (fun hc => ?_) (fun hc => ?_)
 ·have q1 := iD.1 hc
  refine AC.skip ?_
  refine thenQ_n ?_
  refine AC.bseq ?_
  refine AC.rq (fun σ3 => RegOK.m1 [0, 1, 5, 7, 8] ⟨[(0, .slice ((l).map Cable.av) none), (1, .func f [] caps), (5, I (k : Int)), (7, I (l.length : Int)), (8, I (k : Int))], mem⟩ (.cons (s_move (.tmp 8 (I (k : Int)))) (.cons (s_assign (.tmp 10 (I (k : Int)))) .nil)) ?_)
  refine AC.rq (fun σ4 => RegOK.mkN [0, 1, 5, 7, 8, 16] ⟨[(0, .slice ((l).map Cable.av) none), (1, .func f [] caps), (5, I (k : Int)), (7, I (l.length : Int)), (8, I (k : Int)), (16, .bool ((p (l.getD k default))))], mem⟩ (.cons (s_move (.tmp 1 (.func f [] caps))) (.cons (s_move (.tmp 0 (.slice ((l).map Cable.av) none))) (.cons (s_move (.tmp 5 (I (k : Int)))) (.cons (s_ixM (l := l) (f := Cable.av) (default) slc22 (.tmp 12 (.slice ((l).map Cable.av) none)) (.tmp 13 (I (k : Int))) (by omega) rfl) (.cons (s_loadAe (l := (Cable.av (l.getD k default)).cells) tyA71 (.tmp 14 (.eptr (Cable.av (l.getD k default)) 0)) rfl rfl) (.cons (s_callR (r := .bool ((p (l.getD k default)))) (es := (es)) (.tmp 11 (.func f [] caps)) (.cons (.tmp 15 (Cable.av (l.getD k default))) .nil) hcall (hf (l.getD k default) (getD_mem (by omega)))) .nil)))))) (by kernel_rfl) (by kernel_rfl) (by kernel_rfl) ⟨trivial, trivial, trivial, trivial, trivial, (fun lq => (Has.left (Has.right (pre := []) hes))), trivial⟩ (by kernel_rfl) (by kernel_rfl) (by kernel_rfl) ?_)
  refine AC.cend ((p (l.getD k default))) rfl rfl (fun hc => ?_) (fun hc => ?_)
  ·have q2 := iB.1 hc
   refine AC.rq (fun σ5 => RegOK.m1 [4] ⟨[(4, I (k : Int))], mem⟩ (.cons (s_move (.tmp 5 (I (k : Int)))) (.cons (s_assign (.tmp 17 (I (k : Int)))) .nil)) ?_)
   refine AC.ret ?_
   refine blockQ_r ?_
   refine thenQ_r ?_
   refine thenQ_r ?_
   refine blockQ_r ?_
   refine thenQ_r ?_
   exact FinQ.ret (result1 rfl (res_tmp (v := I (k : Int)) rfl rfl)) ⟨by first | exact congrArg I (idx_found default (by omega) hn hc) | exact congrArg I (idx_none default (by intro j hj; exact hn j (by omega))), rfl⟩
  ·have q3 := iF iB hc
   refine AC.skip ?_
   refine blockQ_n ?_
   refine thenQ_n ?_
   refine AC.re (fun σ6 => RegOK.m1 [0, 1, 7, 8] ⟨[(0, .slice ((l).map Cable.av) none), (1, .func f [] caps), (7, I (l.length : Int)), (8, I ((k : Int) + 1))], mem⟩ (.cons (s_add (.tmp 8 (I (k : Int))) (.int .i64 (1)) (inK_i64 (by omega))) (.cons (s_move (.tmp 18 (I ((k : Int) + 1)))) .nil)) ?_)
   refine thenQ_n ⟨_, ?_, _, ⟨(k + 1), rfl, ⟨(by omega), (by intro j hj; rcases Decidable.em (j = k) with h | h; (subst h; exact hc); exact hn j (by omega))⟩, rfl⟩, Weak.of [] (by kernel_rfl) (by kernel_rfl)⟩
   omega
 ·have q4 := iF iD hc
  refine AC.exit ?_
  refine thenQ_x ?_
  refine thenQ_x ?_
  refine blockQ_x ?_
  refine thenQ_n ?_
  refine AC.rq (fun σ7 => RegOK.m1 [4] ⟨[(4, I (-1))], mem⟩ (.cons (s_assign (.int .i64 (-1))) .nil) ?_)
  refine AC.ret ?_
  exact FinQ.ret (result1 rfl (res_tmp (v := I (-1)) rfl rfl)) ⟨by first | exact congrArg I (idx_found default (by omega) hn hc) | exact congrArg I (idx_none default (by intro j hj; exact hn j (by omega))), rfl⟩
theorem F105 (l : List Cable) (f : FuncId) (caps : List AV) (es : List Ent) (p : Cable → Bool) (hcall : Callable Try.prog f) (hf : ∀ x : Cable, x ∈ l → EffR Try.prog f ([] ++ [Cable.av x] ++ caps) es (.bool (p x))) (hl : (l.length : Int) ≤ 9223372036854775807) : EffR Try.prog 105 [.slice ((l).map Cable.av) none, .func f [] caps] es (.bool (l.any p)) := by
 intro mem hes
 refine Meets.body 0 Try.func105 rfl rfl ?_
 refine AC.rq (fun σ0 => RegOK.m1 [0, 1] ⟨[(0, .slice ((l).map Cable.av) none), (1, .func f [] caps)], mem⟩ (.cons (s_assign (.bool false)) .nil) ?_)
 refine AC.rq (fun σ1 => RegOK.mkN [4] ⟨[(4, .bool (decide (0 ≤ (idxI p l))))], mem⟩ (.cons (s_move (.tmp 0 (.slice ((l).map Cable.av) none))) (.cons (s_move (.tmp 1 (.func f [] caps))) (.cons (s_callR (r := I (idxI p l)) (es := (es)) (.func 126) (.cons (.tmp 5 (.slice ((l).map Cable.av) none)) (.cons (.tmp 6 (.func f [] caps)) .nil)) call126 (F126 l f caps es p hcall hf hl)) (.cons (s_geq (.tmp 7 (I (idxI p l))) (.int .i64 (0))) (.cons (s_assign (.tmp 8 (.bool (decide (0 ≤ (idxI p l)))))) .nil))))) (by kernel_rfl) (by kernel_rfl) (by kernel_rfl) ⟨trivial, trivial, (fun lq => (Has.left (Has.right (pre := []) hes))), trivial, trivial, trivial⟩ (by kernel_rfl) (by kernel_rfl) (by kernel_rfl) ?_)
 refine AC.ret ?_
 exact FinQ.ret (result1 rfl (res_tmp (v := .bool (decide (0 ≤ (idxI p l)))) rfl rfl)) ⟨by exact congrArg AV.bool (idx_any p l), rfl⟩
theorem F127 (l : List Fuse) (f : FuncId) (caps : List AV) (es : List Ent) (p : Fuse → Bool) (hcall : Callable Try.prog f) (hf : ∀ x : Fuse, x ∈ l → EffR Try.prog f ([] ++ [Fuse.av x] ++ caps) es (.bool (p x))) (hl : (l.length : Int) ≤ 9223372036854775807) : EffR Try.prog 127 [.slice ((l).map Fuse.av) none, .func f [] caps] es (.int .i64 (idxI p l)) := by
 intro mem hes
 refine Meets.body 0 Try.func127 rfl rfl ?_
 refine AC.rq (fun σ0 => RegOK.m1 [0, 1] ⟨[(0, .slice ((l).map Fuse.av) none), (1, .func f [] caps)], mem⟩ (.cons (s_assign (.int .i64 (0))) .nil) ?_)
 refine AC.seq ?_
 refine AC.rq (fun σ1 => RegOK.m1 [0, 1, 7, 8] ⟨[(0, .slice ((l).map Fuse.av) none), (1, .func f [] caps), (7, I (l.length : Int)), (8, I 0)], mem⟩ (.cons (s_move (.tmp 0 (.slice ((l).map Fuse.av) none))) (.cons (s_lenM (l := l) slc23 (.tmp 6 (.slice ((l).map Fuse.av) none))) (.cons (s_move (.int .i64 (0))) .nil))) ?_)
 refine AC.block ?_
 refine AC.loopW (fun mz T => ∃ (k : Nat), mz = l.length - k ∧ ((k ≤ l.length) ∧ (∀ j : Nat, j < k → p (l.getD j default) = false)) ∧ T = ⟨[(0, .slice ((l).map Fuse.av) none), (1, .func f [] caps), (7, I (l.length : Int)), (8, I (k : Int))], mem⟩) _ ⟨[(0, .slice ((l).map Fuse.av) none), (1, .func f [] caps), (7, I (l.length : Int)), (8, I ((0) : Int))], mem⟩ ⟨0, rfl, ⟨(by omega), (by intro j hj; omega)⟩, rfl⟩ (Weak.of [] (by kernel_rfl) (by kernel_rfl)) ?_ Fr.plain
 rintro _ _ ⟨k, rfl, ⟨hk, hn⟩, rfl⟩
 refine AC.rq (fun σ2 => RegOK.m1 [0, 1, 7, 8, 9] ⟨[(0, .slice ((l).map Fuse.av) none), (1, .func f [] caps), (7, I (l.length : Int)), (8, I (k : Int)), (9, .bool (decide ((k : Int) < (l.length : Int))))], mem⟩ (.cons (s_lss (.tmp 8 (I (k : Int))) (.tmp 7 (I (l.length : Int)))) .nil) ?_)
 refine AC.cseq (decide ((k : Int) < (l.length : Int))) rfl rfl (fun hc => ?_) (fun hc => ?_)
 ·have q1 := iD.1 hc
  refine AC.skip ?_
  refine thenQ_n ?_
  refine AC.bseq ?_
  refine AC.rq (fun σ3 => RegOK.m1 [0, 1, 5, 7, 8] ⟨[(0, .slice ((l).map Fuse.av) none), (1, .func f [] caps), (5, I (k : Int)), (7, I (l.length : Int)), (8, I (k : Int))], mem⟩ (.cons (s_move (.tmp 8 (I (k : Int)))) (.cons (s_assign (.tmp 10 (I (k : Int)))) .nil)) ?_)
  refine AC.rq (fun σ4 => RegOK.mkN [0, 1, 5, 7, 8, 16] ⟨[(0, .slice ((l).map Fuse.av) none), (1, .func f [] caps), (5, I (k : Int)), (7, I (l.length : Int)), (8, I (k : Int)), (16, .bool ((p (l.getD k default))))], mem⟩ (.cons (s_move (.tmp 1 (.func f [] caps))) (.cons (s_move (.tmp 0 (.slice ((l).map Fuse.av) none))) (.cons (s_move (.tmp 5 (I (k : Int)))) (.cons (s_ixM (l := l) (f := Fuse.av) (default) slc23 (.tmp 12 (.slice ((l).map Fuse.av) none)) (.tmp 13 (I (k : Int))) (by omega) rfl) (.cons (s_loadAe (l := (Fuse.av (l.getD k default)).cells) tyA94 (.tmp 14 (.eptr (Fuse.av (l.getD k default)) 0)) rfl rfl) (.cons (s_callR (r := .bool ((p (l.getD k default)))) (es := (es)) (.tmp 11 (.func f [] caps)) (.cons (.tmp 15 (Fuse.av (l.getD k default))) .nil) hcall (hf (l.getD k default) (getD_mem (by omega)))) .nil)))))) (by kernel_rfl) (by kernel_rfl) (by kernel_rfl) ⟨trivial, trivial, trivial, trivial, trivial, (fun lq => (Has.left (Has.right (pre := []) hes))), trivial⟩ (by kernel_rfl) (by kernel_rfl) (by kernel_rfl) ?_)
  refine AC.cend ((p (l.getD k default))) rfl rfl (fun hc => ?_) (fun hc => ?_)
  ·have q2 := iB.1 hc
   refine AC.rq (fun σ5 => RegOK.m1 [4] ⟨[(4, I (k : Int))], mem⟩ (.cons (s_move (.tmp 5 (I (k : Int)))) (.cons (s_assign (.tmp 17 (I (k : Int)))) .nil)) ?_)
   refine AC.ret ?_
   refine blockQ_r ?_
   refine thenQ_r ?_
   refine thenQ_r ?_
   refine blockQ_r ?_
   refine thenQ_r ?_
   exact FinQ.ret (result1 rfl (res_tmp (v := I (k : Int)) rfl rfl)) ⟨by first | exact congrArg I (idx_found default (by omega) hn hc) | exact congrArg I (idx_none default (by intro j hj; exact hn j (by omega))), rfl⟩
  ·have q3 := iF iB hc
   refine AC.skip ?_
   refine blockQ_n ?_
   refine thenQ_n ?_
   refine AC.re (fun σ6 => RegOK.m1 [0, 1, 7, 8] ⟨[(0, .slice ((l).map Fuse.av) none), (1, .func f [] caps), (7, I (l.length : Int)), (8, I ((k : Int) + 1))], mem⟩ (.cons (s_add (.tmp 8 (I (k : Int))) (.int .i64 (1)) (inK_i64 (by omega))) (.cons (s_move (.tmp 18 (I ((k : Int) + 1)))) .nil)) ?_)
   refine thenQ_n ⟨_, ?_, _, ⟨(k + 1), rfl, ⟨(by omega), (by intro j hj; rcases Decidable.em (j = k) with h | h; (subst h; exact hc); exact hn j (by omega))⟩, rfl⟩, Weak.of [] (by kernel_rfl) (by kernel_rfl)⟩
   omega
 ·have q4 := iF iD hc
  refine AC.exit ?_
  refine thenQ_x ?_
  refine thenQ_x ?_
  refine blockQ_x ?_
  refine thenQ_n ?_
  refine AC.rq (fun σ7 => RegOK.m1 [4] ⟨[(4, I (-1))], mem⟩ (.cons (s_assign (.int .i64 (-1))) .nil) ?_)
  refine AC.ret ?_
  exact FinQ.ret (result1 rfl (res_tmp (v := I (-1)) rfl rfl)) ⟨by first | exact congrArg I (idx_found default (by omega) hn hc) | exact congrArg I (idx_none default (by intro j hj; exact hn j (by omega))), rfl⟩
theorem F107 (l : List Fuse) (f : FuncId) (caps : List AV) (es : List Ent) (p : Fuse → Bool) (hcall : Callable Try.prog f) (hf : ∀ x : Fuse, x ∈ l → EffR Try.prog f ([] ++ [Fuse.av x] ++ caps) es (.bool (p x))) (hl : (l.length : Int) ≤ 9223372036854775807) : EffR Try.prog 107 [.slice ((l).map Fuse.av) none, .func f [] caps] es (.bool (l.any p)) := by
 intro mem hes
 refine Meets.body 0 Try.func107 rfl rfl ?_
 refine AC.rq (fun σ0 => RegOK.m1 [0, 1] ⟨[(0, .slice ((l).map Fuse.av) none), (1, .func f [] caps)], mem⟩ (.cons (s_assign (.bool false)) .nil) ?_)
 refine AC.rq (fun σ1 => RegOK.mkN [4] ⟨[(4, .bool (decide (0 ≤ (idxI p l))))], mem⟩ (.cons (s_move (.tmp 0 (.slice ((l).map Fuse.av) none))) (.cons (s_move (.tmp 1 (.func f [] caps))) (.cons (s_callR (r := I (idxI p l)) (es := (es)) (.func 127) (.cons (.tmp 5 (.slice ((l).map Fuse.av) none)) (.cons (.tmp 6 (.func f [] caps)) .nil)) call127 (F127 l f caps es p hcall hf hl)) (.cons (s_geq (.tmp 7 (I (idxI p l))) (.int .i64 (0))) (.cons (s_assign (.tmp 8 (.bool (decide (0 ≤ (idxI p l)))))) .nil))))) (by kernel_rfl) (by kernel_rfl) (by kernel_rfl) ⟨trivial, trivial, (fun lq => (Has.left (Has.right (pre := []) hes))), trivial, trivial, trivial⟩ (by kernel_rfl) (by kernel_rfl) (by kernel_rfl) ?_)
 refine AC.ret ?_
 exact FinQ.ret (result1 rfl (res_tmp (v := .bool (decide (0 ≤ (idxI p l)))) rfl rfl)) ⟨by exact congrArg AV.bool (idx_any p l), rfl⟩
theorem F128 (l : List Point) (f : FuncId) (caps : List AV) (es : List Ent) (p : Point → Bool) (hcall : Callable Try.prog f) (hf : ∀ x : Point, x ∈ l → EffR Try.prog f ([] ++ [Point.av x] ++ caps) es (.bool (p x))) (hl : (l.length : Int) ≤ 9223372036854775807) : EffR Try.prog 128 [.slice ((l).map Point.av) none, .func f [] caps] es (.int .i64 (idxI p l)) := by
 intro mem hes
 refine Meets.body 0 Try.func128 rfl rfl ?_
 refine AC.rq (fun σ0 => RegOK.m1 [0, 1] ⟨[(0, .slice ((l).map Point.av) none), (1, .func f [] caps)], mem⟩ (.cons (s_assign (.int .i64 (0))) .nil) ?_)
 refine AC.seq ?_
 refine AC.rq (fun σ1 => RegOK.m1 [0, 1, 7, 8] ⟨[(0, .slice ((l).map Point.av) none), (1, .func f [] caps), (7, I (l.length : Int)), (8, I 0)], mem⟩ (.cons (s_move (.tmp 0 (.slice ((l).map Point.av) none))) (.cons (s_lenM (l := l) slc92 (.tmp 6 (.slice ((l).map Point.av) none))) (.cons (s_move (.int .i64 (0))) .nil))) ?_)
 refine AC.block ?_
 refine AC.loopW (fun mz T => ∃ (k : Nat), mz = l.length - k ∧ ((k ≤ l.length) ∧ (∀ j : Nat, j < k → p (l.getD j default) = false)) ∧ T = ⟨[(0, .slice ((l).map Point.av) none), (1, .func f [] caps), (7, I (l.length : Int)), (8, I (k : Int))], mem⟩) _ ⟨[(0, .slice ((l).map Point.av) none), (1, .func f [] caps), (7, I (l.length : Int)), (8, I ((0) : Int))], mem⟩ ⟨0, rfl, ⟨(by omega), (by intro j hj; omega)⟩, rfl⟩ (Weak.of [] (by kernel_rfl) (by kernel_rfl)) ?_ Fr.plain
 rintro _ _ ⟨k, rfl, ⟨hk, hn⟩, rfl⟩
 refine AC.rq (fun σ2 => RegOK.m1 [0, 1, 7, 8, 9] ⟨[(0, .slice ((l).map Point.av) none), (1, .func f [] caps), (7, I (l.length : Int)), (8, I (k : Int)), (9, .bool (decide ((k : Int) < (l.length : Int))))], mem⟩ (.cons (s_lss (.tmp 8 (I (k : Int))) (.tmp 7 (I (l.length : Int)))) .nil) ?_)
 refine AC.cseq (decide ((k : Int) < (l.length : Int))) rfl rfl (fun hc => ?_) (fun hc => ?_)
 ·have q1 := iD.1 hc
  refine AC.skip ?_
  refine thenQ_n ?_
  refine AC.bseq ?_
  refine AC.rq (fun σ3 => RegOK.m1 [0, 1, 5, 7, 8] ⟨[(0, .slice ((l).map Point.av) none), (1, .func f [] caps), (5, I (k : Int)), (7, I (l.length : Int)), (8, I (k : Int))], mem⟩ (.cons (s_move (.tmp 8 (I (k : Int)))) (.cons (s_assign (.tmp 10 (I (k : Int)))) .nil)) ?_)
  refine AC.rq (fun σ4 => RegOK.mkN [0, 1, 5, 7, 8, 16] ⟨[(0, .slice ((l).map Point.av) none), (1, .func f [] caps), (5, I (k : Int)), (7, I (l.length : Int)), (8, I (k : Int)), (16, .bool ((p (l.getD k default))))], mem⟩ (.cons (s_move (.tmp 1 (.func f [] caps))) (.cons (s_move (.tmp 0 (.slice ((l).map Point.av) none))) (.cons (s_move (.tmp 5 (I (k : Int)))) (.cons (s_ixM (l := l) (f := Point.av) (default) slc92 (.tmp 12 (.slice ((l).map Point.av) none)) (.tmp 13 (I (k : Int))) (by omega) rfl) (.cons (s_loadAe (l := (Point.av (l.getD k default)).cells) tyA141 (.tmp 14 (.eptr (Point.av (l.getD k default)) 0)) rfl rfl) (.cons (s_callR (r := .bool ((p (l.getD k default)))) (es := (es)) (.tmp 11 (.func f [] caps)) (.cons (.tmp 15 (Point.av (l.getD k default))) .nil) hcall (hf (l.getD k default) (getD_mem (by omega)))) .nil)))))) (by kernel_rfl) (by kernel_rfl) (by kernel_rfl) ⟨trivial, trivial, trivial, trivial, trivial, (fun lq => (Has.left (Has.right (pre := []) hes))), trivial⟩ (by kernel_rfl) (by kernel_rfl) (by kernel_rfl) ?_)
  refine AC.cend ((p (l.getD k default))) rfl rfl (fun hc => ?_) (fun hc => ?_)
  ·have q2 := iB.1 hc
   refine AC.rq (fun σ5 => RegOK.m1 [4] ⟨[(4, I (k : Int))], mem⟩ (.cons (s_move (.tmp 5 (I (k : Int)))) (.cons (s_assign (.tmp 17 (I (k : Int)))) .nil)) ?_)
   refine AC.ret ?_
   refine blockQ_r ?_
   refine thenQ_r ?_
   refine thenQ_r ?_
   refine blockQ_r ?_
   refine thenQ_r ?_
   exact FinQ.ret (result1 rfl (res_tmp (v := I (k : Int)) rfl rfl)) ⟨by first | exact congrArg I (idx_found default (by omega) hn hc) | exact congrArg I (idx_none default (by intro j hj; exact hn j (by omega))), rfl⟩
  ·have q3 := iF iB hc
   refine AC.skip ?_
   refine blockQ_n ?_
   refine thenQ_n ?_
   refine AC.re (fun σ6 => RegOK.m1 [0, 1, 7, 8] ⟨[(0, .slice ((l).map Point.av) none), (1, .func f [] caps), (7, I (l.length : Int)), (8, I ((k : Int) + 1))], mem⟩ (.cons (s_add (.tmp 8 (I (k : Int))) (.int .i64 (1)) (inK_i64 (by omega))) (.cons (s_move (.tmp 18 (I ((k : Int) + 1)))) .nil)) ?_)
   refine thenQ_n ⟨_, ?_, _, ⟨(k + 1), rfl, ⟨(by omega), (by intro j hj; rcases Decidable.em (j = k) with h | h; (subst h; exact hc); exact hn j (by omega))⟩, rfl⟩, Weak.of [] (by kernel_rfl) (by kernel_rfl)⟩
   omega
 ·have q4 := iF iD hc
  refine AC.exit ?_
  refine thenQ_x ?_
  refine thenQ_x ?_
  refine blockQ_x ?_
  refine thenQ_n ?_
  refine AC.rq (fun σ7 => RegOK.m1 [4] ⟨[(4, I (-1))], mem⟩ (.cons (s_assign (.int .i64 (-1))) .nil) ?_)
  refine AC.ret ?_
  exact FinQ.ret (result1 rfl (res_tmp (v := I (-1)) rfl rfl)) ⟨by first | exact congrArg I (idx_found default (by omega) hn hc) | exact congrArg I (idx_none default (by intro j hj; exact hn j (by omega))), rfl⟩
theorem F109 (l : List Point) (f : FuncId) (caps : List AV) (es : List Ent) (p : Point → Bool) (hcall : Callable Try.prog f) (hf : ∀ x : Point, x ∈ l → EffR Try.prog f ([] ++ [Point.av x] ++ caps) es (.bool (p x))) (hl : (l.length : Int) ≤ 9223372036854775807) : EffR Try.prog 109 [.slice ((l).map Point.av) none, .func f [] caps] es (.bool (l.any p)) := by
 intro mem hes
 refine Meets.body 0 Try.func109 rfl rfl ?_
 refine AC.rq (fun σ0 => RegOK.m1 [0, 1] ⟨[(0, .slice ((l).map Point.av) none), (1, .func f [] caps)], mem⟩ (.cons (s_assign (.bool false)) .nil) ?_)
 refine AC.rq (fun σ1 => RegOK.mkN [4] ⟨[(4, .bool (decide (0 ≤ (idxI p l))))], mem⟩ (.cons (s_move (.tmp 0 (.slice ((l).map Point.av) none))) (.cons (s_move (.tmp 1 (.func f [] caps))) (.cons (s_callR (r := I (idxI p l)) (es := (es)) (.func 128) (.cons (.tmp 5 (.slice ((l).map Point.av) none)) (.cons (.tmp 6 (.func f [] caps)) .nil)) call128 (F128 l f caps es p hcall hf hl)) (.cons (s_geq (.tmp 7 (I (idxI p l))) (.int .i64 (0))) (.cons (s_assign (.tmp 8 (.bool (decide (0 ≤ (idxI p l)))))) .nil))))) (by kernel_rfl) (by kernel_rfl) (by kernel_rfl) ⟨trivial, trivial, (fun lq => (Has.left (Has.right (pre := []) hes))), trivial, trivial, trivial⟩ (by kernel_rfl) (by kernel_rfl) (by kernel_rfl) ?_)
 refine AC.ret ?_
 exact FinQ.ret (result1 rfl (res_tmp (v := .bool (decide (0 ≤ (idxI p l)))) rfl rfl)) ⟨by exact congrArg AV.bool (idx_any p l), rfl⟩
theorem F129 (l : List Node) (f : FuncId) (caps : List AV) (es : List Ent) (p : Node → Bool) (hcall : Callable Try.prog f) (hf : ∀ x : Node, x ∈ l → EffR Try.prog f ([] ++ [Node.av x] ++ caps) es (.bool (p x))) (hl : (l.length : Int) ≤ 9223372036854775807) : EffR Try.prog 129 [.slice ((l).map Node.av) none, .func f [] caps] es (.int .i64 (idxI p l)) := by
 intro mem hes
 refine Meets.body 0 Try.func129 rfl rfl ?_
 refine AC.rq (fun σ0 => RegOK.m1 [0, 1] ⟨[(0, .slice ((l).map Node.av) none), (1, .func f [] caps)], mem⟩ (.cons (s_assign (.int .i64 (0))) .nil) ?_)
 refine AC.seq ?_
 refine AC.rq (fun σ1 => RegOK.m1 [0, 1, 7, 8] ⟨[(0, .slice ((l).map Node.av) none), (1, .func f [] caps), (7, I (l.length : Int)), (8, I 0)], mem⟩ (.cons (s_move (.tmp 0 (.slice ((l).map Node.av) none))) (.cons (s_lenM (l := l) slc24 (.tmp 6 (.slice ((l).map Node.av) none))) (.cons (s_move (.int .i64 (0))) .nil))) ?_)
 refine AC.block ?_
 refine AC.loopW (fun mz T => ∃ (k : Nat), mz = l.length - k ∧ ((k ≤ l.length) ∧ (∀ j : Nat, j < k → p (l.getD j default) = false)) ∧ T = ⟨[(0, .slice ((l).map Node.av) none), (1, .func f [] caps), (7, I (l.length : Int)), (8, I (k : Int))], mem⟩) _ ⟨[(0, .slice ((l).map Node.av) none), (1, .func f [] caps), (7, I (l.length : Int)), (8, I ((0) : Int))], mem⟩ ⟨0, rfl, ⟨(by omega), (by intro j hj; omega)⟩, rfl⟩ (Weak.of [] (by kernel_rfl) (by kernel_rfl)) ?_ Fr.plain
 rintro _ _ ⟨k, rfl, ⟨hk, hn⟩, rfl⟩
 refine AC.rq (fun σ2 => RegOK.m1 [0, 1, 7, 8, 9] ⟨[(0, .slice ((l).map Node.av) none), (1, .func f [] caps), (7, I (l.length : Int)), (8, I (k : Int)), (9, .bool (decide ((k : Int) < (l.length : Int))))], mem⟩ (.cons (s_lss (.tmp 8 (I (k : Int))) (.tmp 7 (I (l.length : Int)))) .nil) ?_)
 refine AC.cseq (decide ((k : Int) < (l.length : Int))) rfl rfl (fun hc => ?_) (fun hc => ?_)
 ·have q1 := iD.1 hc
  refine AC.skip ?_
  refine thenQ_n ?_
  refine AC.bseq ?_
  refine AC.rq (fun σ3 => RegOK.m1 [0, 1, 5, 7, 8] ⟨[(0, .slice ((l).map Node.av) none), (1, .func f [] caps), (5, I (k : Int)), (7, I (l.length : Int)), (8, I (k : Int))], mem⟩ (.cons (s_move (.tmp 8 (I (k : Int)))) (.cons (s_assign (.tmp 10 (I (k : Int)))) .nil)) ?_)
  refine AC.rq (fun σ4 => RegOK.mkN [0, 1, 5, 7, 8, 16] ⟨[(0, .slice ((l).map Node.av) none), (1, .func f [] caps), (5, I (k : Int)), (7, I (l.length : Int)), (8, I (k : Int)), (16, .bool ((p (l.getD k default))))], mem⟩ (.cons (s_move (.tmp 1 (.func f [] caps))) (.cons (s_move (.tmp 0 (.slice ((l).map Node.av) none))) (.cons (s_move (.tmp 5 (I (k : Int)))) (.cons (s_ixM (l := l) (f := Node.av) (default) slc24 (.tmp 12 (.slice ((l).map Node.av) none)) (.tmp 13 (I (k : Int))) (by omega) rfl) (.cons (s_loadAe (l := (Node.av (l.getD k default)).cells) tyA47 (.tmp 14 (.eptr (Node.av (l.getD k default)) 0)) rfl rfl) (.cons (s_callR (r := .bool ((p (l.getD k default)))) (es := (es)) (.tmp 11 (.func f [] caps)) (.cons (.tmp 15 (Node.av (l.getD k default))) .nil) hcall (hf (l.getD k default) (getD_mem (by omega)))) .nil)))))) (by kernel_rfl) (by kernel_rfl) (by kernel_rfl) ⟨trivial, trivial, trivial, trivial, trivial, (fun lq => (Has.left (Has.right (pre := []) hes))), trivial⟩ (by kernel_rfl) (by kernel_rfl) (by kernel_rfl) ?_)
  refine AC.cend ((p (l.getD k default))) rfl rfl (fun hc => ?_) (fun hc => ?_)
  ·have q2 := iB.1 hc
   refine AC.rq (fun σ5 => RegOK.m1 [4] ⟨[(4, I (k : Int))], mem⟩ (.cons (s_move (.tmp 5 (I (k : Int)))) (.cons (s_assign (.tmp 17 (I (k : Int)))) .nil)) ?_)
   refine AC.ret ?_
   refine blockQ_r ?_
   refine thenQ_r ?_
   refine thenQ_r ?_
   refine blockQ_r ?_
   refine thenQ_r ?_
   exact FinQ.ret (result1 rfl (res_tmp (v := I (k : Int)) rfl rfl)) ⟨by first | exact congrArg I (idx_found default (by omega) hn hc) | exact congrArg I (idx_none default (by intro j hj; exact hn j (by omega))), rfl⟩
  ·have q3 := iF iB hc
   refine AC.skip ?_
   refine blockQ_n ?_
   refine thenQ_n ?_
   refine AC.re (fun σ6 => RegOK.m1 [0, 1, 7, 8] ⟨[(0, .slice ((l).map Node.av) none), (1, .func f [] caps), (7, I (l.length : Int)), (8, I ((k : Int) + 1))], mem⟩ (.cons (s_add (.tmp 8 (I (k : Int))) (.int .i64 (1)) (inK_i64 (by omega))) (.cons (s_move (.tmp 18 (I ((k : Int) + 1)))) .nil)) ?_)
   refine thenQ_n ⟨_, ?_, _, ⟨(k + 1), rfl, ⟨(by omega), (by intro j hj; rcases Decidable.em (j = k) with h | h; (subst h; exact hc); exact hn j (by omega))⟩, rfl⟩, Weak.of [] (by kernel_rfl) (by kernel_rfl)⟩
   omega
 ·have q4 := iF iD hc
  refine AC.exit ?_
  refine thenQ_x ?_
  refine thenQ_x ?_
  refine blockQ_x ?_
  refine thenQ_n ?_
  refine AC.rq (fun σ7 => RegOK.m1 [4] ⟨[(4, I (-1))], mem⟩ (.cons (s_assign (.int .i64 (-1))) .nil) ?_)
  refine AC.ret ?_
  exact FinQ.ret (result1 rfl (res_tmp (v := I (-1)) rfl rfl)) ⟨by first | exact congrArg I (idx_found default (by omega) hn hc) | exact congrArg I (idx_none default (by intro j hj; exact hn j (by omega))), rfl⟩
theorem F111 (l : List Node) (f : FuncId) (caps : List AV) (es : List Ent) (p : Node → Bool) (hcall : Callable Try.prog f) (hf : ∀ x : Node, x ∈ l → EffR Try.prog f ([] ++ [Node.av x] ++ caps) es (.bool (p x))) (hl : (l.length : Int) ≤ 9223372036854775807) : EffR Try.prog 111 [.slice ((l).map Node.av) none, .func f [] caps] es (.bool (l.any p)) := by
 intro mem hes
 refine Meets.body 0 Try.func111 rfl rfl ?_
 refine AC.rq (fun σ0 => RegOK.m1 [0, 1] ⟨[(0, .slice ((l).map Node.av) none), (1, .func f [] caps)], mem⟩ (.cons (s_assign (.bool false)) .nil) ?_)
 refine AC.rq (fun σ1 => RegOK.mkN [4] ⟨[(4, .bool (decide (0 ≤ (idxI p l))))], mem⟩ (.cons (s_move (.tmp 0 (.slice ((l).map Node.av) none))) (.cons (s_move (.tmp 1 (.func f [] caps))) (.cons (s_callR (r := I (idxI p l)) (es := (es)) (.func 129) (.cons (.tmp 5 (.slice ((l).map Node.av) none)) (.cons (.tmp 6 (.func f [] caps)) .nil)) call129 (F129 l f caps es p hcall hf hl)) (.cons (s_geq (.tmp 7 (I (idxI p l))) (.int .i64 (0))) (.cons (s_assign (.tmp 8 (.bool (decide (0 ≤ (idxI p l)))))) .nil))))) (by kernel_rfl) (by kernel_rfl) (by kernel_rfl) ⟨trivial, trivial, (fun lq => (Has.left (Has.right (pre := []) hes))), trivial, trivial, trivial⟩ (by kernel_rfl) (by kernel_rfl) (by kernel_rfl) ?_)
 refine AC.ret ?_
 exact FinQ.ret (result1 rfl (res_tmp (v := .bool (decide (0 ≤ (idxI p l)))) rfl rfl)) ⟨by exact congrArg AV.bool (idx_any p l), rfl⟩
theorem F130 (l : List (Int × Int)) (f : FuncId) (caps : List AV) (es : List Ent) (p : (Int × Int) → Bool) (hcall : Callable Try.prog f) (hf : ∀ x : (Int × Int), x ∈ l → EffR Try.prog f ([] ++ [encA x] ++ caps) es (.bool (p x))) (hl : (l.length : Int) ≤ 9223372036854775807) : EffR Try.prog 130 [.slice ((l).map encA) none, .func f [] caps] es (.int .i64 (idxI p l)) := by
 intro mem hes
 refine Meets.body 0 Try.func130 rfl rfl ?_
 refine AC.rq (fun σ0 => RegOK.m1 [0, 1] ⟨[(0, .slice ((l).map encA) none), (1, .func f [] caps)], mem⟩ (.cons (s_assign (.int .i64 (0))) .nil) ?_)
 refine AC.seq ?_
 refine AC.rq (fun σ1 => RegOK.m1 [0, 1, 7, 8] ⟨[(0, .slice ((l).map encA) none), (1, .func f [] caps), (7, I (l.length : Int)), (8, I 0)], mem⟩ (.cons (s_move (.tmp 0 (.slice ((l).map encA) none))) (.cons (s_lenM (l := l) slc160 (.tmp 6 (.slice ((l).map encA) none))) (.cons (s_move (.int .i64 (0))) .nil))) ?_)
 refine AC.block ?_
 refine AC.loopW (fun mz T => ∃ (k : Nat), mz = l.length - k ∧ ((k ≤ l.length) ∧ (∀ j : Nat, j < k → p (l.getD j (0, 0)) = false)) ∧ T = ⟨[(0, .slice ((l).map encA) none), (1, .func f [] caps), (7, I (l.length : Int)), (8, I (k : Int))], mem⟩) _ ⟨[(0, .slice ((l).map encA) none), (1, .func f [] caps), (7, I (l.length : Int)), (8, I ((0) : Int))], mem⟩ ⟨0, rfl, ⟨(by omega), (by intro j hj; omega)⟩, rfl⟩ (Weak.of [] (by kernel_rfl) (by kernel_rfl)) ?_ Fr.plain
 rintro _ _ ⟨k, rfl, ⟨hk, hn⟩, rfl⟩
 refine AC.rq (fun σ2 => RegOK.m1 [0, 1, 7, 8, 9] ⟨[(0, .slice ((l).map encA) none), (1, .func f [] caps), (7, I (l.length : Int)), (8, I (k : Int)), (9, .bool (decide ((k : Int) < (l.length : Int))))], mem⟩ (.cons (s_lss (.tmp 8 (I (k : Int))) (.tmp 7 (I (l.length : Int)))) .nil) ?_)
 refine AC.cseq (decide ((k : Int) < (l.length : Int))) rfl rfl (fun hc => ?_) (fun hc => ?_)
 ·have q1 := iD.1 hc
  refine AC.skip ?_
  refine thenQ_n ?_
  refine AC.bseq ?_
  refine AC.rq (fun σ3 => RegOK.m1 [0, 1, 5, 7, 8] ⟨[(0, .slice ((l).map encA) none), (1, .func f [] caps), (5, I (k : Int)), (7, I (l.length : Int)), (8, I (k : Int))], mem⟩ (.cons (s_move (.tmp 8 (I (k : Int)))) (.cons (s_assign (.tmp 10 (I (k : Int)))) .nil)) ?_)
  refine AC.rq (fun σ4 => RegOK.mkN [0, 1, 5, 7, 8, 16] ⟨[(0, .slice ((l).map encA) none), (1, .func f [] caps), (5, I (k : Int)), (7, I (l.length : Int)), (8, I (k : Int)), (16, .bool ((p (l.getD k (0, 0)))))], mem⟩ (.cons (s_move (.tmp 1 (.func f [] caps))) (.cons (s_move (.tmp 0 (.slice ((l).map encA) none))) (.cons (s_move (.tmp 5 (I (k : Int)))) (.cons (s_ixM (l := l) (f := encA) ((0, 0)) slc160 (.tmp 12 (.slice ((l).map encA) none)) (.tmp 13 (I (k : Int))) (by omega) rfl) (.cons (s_loadAe (l := [I ((l.getD k (0, 0)).1), I ((l.getD k (0, 0)).2)]) tyA26 (.tmp 14 (.eptr (.agg [I ((l.getD k (0, 0)).1), I ((l.getD k (0, 0)).2)]) 0)) rfl rfl) (.cons (s_callR (r := .bool ((p (l.getD k (0, 0))))) (es := (es)) (.tmp 11 (.func f [] caps)) (.cons (.tmp 15 (.agg [I ((l.getD k (0, 0)).1), I ((l.getD k (0, 0)).2)])) .nil) hcall (hf (l.getD k (0, 0)) (getD_mem (by omega)))) .nil)))))) (by kernel_rfl) (by kernel_rfl) (by kernel_rfl) ⟨trivial, trivial, trivial, trivial, trivial, (fun lq => (Has.left (Has.right (pre := []) hes))), trivial⟩ (by kernel_rfl) (by kernel_rfl) (by kernel_rfl) ?_)
  refine AC.cend ((p (l.getD k (0, 0)))) rfl rfl (fun hc => ?_) (fun hc => ?_)
  ·have q2 := iB.1 hc
   refine AC.rq (fun σ5 => RegOK.m1 [4] ⟨[(4, I (k : Int))], mem⟩ (.cons (s_move (.tmp 5 (I (k : Int)))) (.cons (s_assign (.tmp 17 (I (k : Int)))) .nil)) ?_)
   refine AC.ret ?_
   refine blockQ_r ?_
   refine thenQ_r ?_
   refine thenQ_r ?_
   refine blockQ_r ?_
   refine thenQ_r ?_
   exact FinQ.ret (result1 rfl (res_tmp (v := I (k : Int)) rfl rfl)) ⟨by first | exact congrArg I (idx_found (0, 0) (by omega) hn hc) | exact congrArg I (idx_none (0, 0) (by intro j hj; exact hn j (by omega))), rfl⟩
  ·have q3 := iF iB hc
   refine AC.skip ?_
   refine blockQ_n ?_
   refine thenQ_n ?_
   refine AC.re (fun σ6 => RegOK.m1 [0, 1, 7, 8] ⟨[(0, .slice ((l).map encA) none), (1, .func f [] caps), (7, I (l.length : Int)), (8, I ((k : Int) + 1))], mem⟩ (.cons (s_add (.tmp 8 (I (k : Int))) (.int .i64 (1)) (inK_i64 (by omega))) (.cons (s_move (.tmp 18 (I ((k : Int) + 1)))) .nil)) ?_)
   refine thenQ_n ⟨_, ?_, _, ⟨(k + 1), rfl, ⟨(by omega), (by intro j hj; rcases Decidable.em (j = k) with h | h; (subst h; exact hc); exact hn j (by omega))⟩, rfl⟩, Weak.of [] (by kernel_rfl) (by kernel_rfl)⟩
   omega
 ·have q4 := iF iD hc
  refine AC.exit ?_
  refine thenQ_x ?_
  refine thenQ_x ?_
  refine blockQ_x ?_
  refine thenQ_n ?_
  refine AC.rq (fun σ7 => RegOK.m1 [4] ⟨[(4, I (-1))], mem⟩ (.cons (s_assign (.int .i64 (-1))) .nil) ?_)
  refine AC.ret ?_
  exact FinQ.ret (result1 rfl (res_tmp (v := I (-1)) rfl rfl)) ⟨by first | exact congrArg I (idx_found (0, 0) (by omega) hn hc) | exact congrArg I (idx_none (0, 0) (by intro j hj; exact hn j (by omega))), rfl⟩
theorem F113 (l : List (Int × Int)) (f : FuncId) (caps : List AV) (es : List Ent) (p : (Int × Int) → Bool) (hcall : Callable Try.prog f) (hf : ∀ x : (Int × Int), x ∈ l → EffR Try.prog f ([] ++ [encA x] ++ caps) es (.bool (p x))) (hl : (l.length : Int) ≤ 9223372036854775807) : EffR Try.prog 113 [.slice ((l).map encA) none, .func f [] caps] es (.bool (l.any p)) := by
 intro mem hes
 refine Meets.body 0 Try.func113 rfl rfl ?_
 refine AC.rq (fun σ0 => RegOK.m1 [0, 1] ⟨[(0, .slice ((l).map encA) none), (1, .func f [] caps)], mem⟩ (.cons (s_assign (.bool false)) .nil) ?_)
 refine AC.rq (fun σ1 => RegOK.mkN [4] ⟨[(4, .bool (decide (0 ≤ (idxI p l))))], mem⟩ (.cons (s_move (.tmp 0 (.slice ((l).map encA) none))) (.cons (s_move (.tmp 1 (.func f [] caps))) (.cons (s_callR (r := I (idxI p l)) (es := (es)) (.func 130) (.cons (.tmp 5 (.slice ((l).map encA) none)) (.cons (.tmp 6 (.func f [] caps)) .nil)) call130 (F130 l f caps es p hcall hf hl)) (.cons (s_geq (.tmp 7 (I (idxI p l))) (.int .i64 (0))) (.cons (s_assign (.tmp 8 (.bool (decide (0 ≤ (idxI p l)))))) .nil))))) (by kernel_rfl) (by kernel_rfl) (by kernel_rfl) ⟨trivial, trivial, (fun lq => (Has.left (Has.right (pre := []) hes))), trivial, trivial, trivial⟩ (by kernel_rfl) (by kernel_rfl) (by kernel_rfl) ?_)
 refine AC.ret ?_
 exact FinQ.ret (result1 rfl (res_tmp (v := .bool (decide (0 ≤ (idxI p l)))) rfl rfl)) ⟨by exact congrArg AV.bool (idx_any p l), rfl⟩
theorem F131 (l : List Int) (f : FuncId) (caps : List AV) (es : List Ent) (p : Int → Bool) (hcall : Callable Try.prog f) (hf : ∀ x : Int, x ∈ l → EffR Try.prog f ([] ++ [I x] ++ caps) es (.bool (p x))) (hl : (l.length : Int) ≤ 9223372036854775807) : EffR Try.prog 131 [.slice ((l).map I) none, .func f [] caps] es (.int .i64 (idxI p l)) := by
 intro mem hes
 refine Meets.body 0 Try.func131 rfl rfl ?_
 refine AC.rq (fun σ0 => RegOK.m1 [0, 1] ⟨[(0, .slice ((l).map I) none), (1, .func f [] caps)], mem⟩ (.cons (s_assign (.int .i64 (0))) .nil) ?_)
 refine AC.seq ?_
 refine AC.rq (fun σ1 => RegOK.m1 [0, 1, 7, 8] ⟨[(0, .slice ((l).map I) none), (1, .func f [] caps), (7, I (l.length : Int)), (8, I 0)], mem⟩ (.cons (s_move (.tmp 0 (.slice ((l).map I) none))) (.cons (s_lenM (l := l) slc48 (.tmp 6 (.slice ((l).map I) none))) (.cons (s_move (.int .i64 (0))) .nil))) ?_)
 refine AC.block ?_
 refine AC.loopW (fun mz T => ∃ (k : Nat), mz = l.length - k ∧ ((k ≤ l.length) ∧ (∀ j : Nat, j < k → p (l.getD j 0) = false)) ∧ T = ⟨[(0, .slice ((l).map I) none), (1, .func f [] caps), (7, I (l.length : Int)), (8, I (k : Int))], mem⟩) _ ⟨[(0, .slice ((l).map I) none), (1, .func f [] caps), (7, I (l.length : Int)), (8, I ((0) : Int))], mem⟩ ⟨0, rfl, ⟨(by omega), (by intro j hj; omega)⟩, rfl⟩ (Weak.of [] (by kernel_rfl) (by kernel_rfl)) ?_ Fr.plain
 rintro _ _ ⟨k, rfl, ⟨hk, hn⟩, rfl⟩
 refine AC.rq (fun σ2 => RegOK.m1 [0, 1, 7, 8, 9] ⟨[(0, .slice ((l).map I) none), (1, .func f [] caps), (7, I (l.length : Int)), (8, I (k : Int)), (9, .bool (decide ((k : Int) < (l.length : Int))))], mem⟩ (.cons (s_lss (.tmp 8 (I (k : Int))) (.tmp 7 (I (l.length : Int)))) .nil) ?_)
 refine AC.cseq (decide ((k : Int) < (l.length : Int))) rfl rfl (fun hc => ?_) (fun hc => ?_)
 ·have q1 := iD.1 hc
  refine AC.skip ?_
  refine thenQ_n ?_
  refine AC.bseq ?_
  refine AC.rq (fun σ3 => RegOK.m1 [0, 1, 5, 7, 8] ⟨[(0, .slice ((l).map I) none), (1, .func f [] caps), (5, I (k : Int)), (7, I (l.length : Int)), (8, I (k : Int))], mem⟩ (.cons (s_move (.tmp 8 (I (k : Int)))) (.cons (s_assign (.tmp 10 (I (k : Int)))) .nil)) ?_)
  refine AC.rq (fun σ4 => RegOK.mkN [0, 1, 5, 7, 8, 16] ⟨[(0, .slice ((l).map I) none), (1, .func f [] caps), (5, I (k : Int)), (7, I (l.length : Int)), (8, I (k : Int)), (16, .bool ((p (l.getD k 0))))], mem⟩ (.cons (s_move (.tmp 1 (.func f [] caps))) (.cons (s_move (.tmp 0 (.slice ((l).map I) none))) (.cons (s_move (.tmp 5 (I (k : Int)))) (.cons (s_ixM (l := l) (f := I) (0) slc48 (.tmp 12 (.slice ((l).map I) none)) (.tmp 13 (I (k : Int))) (by omega) rfl) (.cons (s_load1e (c := I (l.getD k 0)) tyS3 (.tmp 14 (.eptr (I (l.getD k 0)) 0)) rfl) (.cons (s_callR (r := .bool ((p (l.getD k 0)))) (es := (es)) (.tmp 11 (.func f [] caps)) (.cons (.tmp 15 (I (l.getD k 0))) .nil) hcall (hf (l.getD k 0) (getD_mem (by omega)))) .nil)))))) (by kernel_rfl) (by kernel_rfl) (by kernel_rfl) ⟨trivial, trivial, trivial, trivial, trivial, (fun lq => (Has.left (Has.right (pre := []) hes))), trivial⟩ (by kernel_rfl) (by kernel_rfl) (by kernel_rfl) ?_)
  refine AC.cend ((p (l.getD k 0))) rfl rfl (fun hc => ?_) (fun hc => ?_)
  ·have q2 := iB.1 hc
   refine AC.rq (fun σ5 => RegOK.m1 [4] ⟨[(4, I (k : Int))], mem⟩ (.cons (s_move (.tmp 5 (I (k : Int)))) (.cons (s_assign (.tmp 17 (I (k : Int)))) .nil)) ?_)
   refine AC.ret ?_
   refine blockQ_r ?_
   refine thenQ_r ?_
   refine thenQ_r ?_
   refine blockQ_r ?_
   refine thenQ_r ?_
   exact FinQ.ret (result1 rfl (res_tmp (v := I (k : Int)) rfl rfl)) ⟨by first | exact congrArg I (idx_found 0 (by omega) hn hc) | exact congrArg I (idx_none 0 (by intro j hj; exact hn j (by omega))), rfl⟩
  ·have q3 := iF iB hc
   refine AC.skip ?_
   refine blockQ_n ?_
   refine thenQ_n ?_
   refine AC.re (fun σ6 => RegOK.m1 [0, 1, 7, 8] ⟨[(0, .slice ((l).map I) none), (1, .func f [] caps), (7, I (l.length : Int)), (8, I ((k : Int) + 1))], mem⟩ (.cons (s_add (.tmp 8 (I (k : Int))) (.int .i64 (1)) (inK_i64 (by omega))) (.cons (s_move (.tmp 18 (I ((k : Int) + 1)))) .nil)) ?_)
   refine thenQ_n ⟨_, ?_, _, ⟨(k + 1), rfl, ⟨(by omega), (by intro j hj; rcases Decidable.em (j = k) with h | h; (subst h; exact hc); exact hn j (by omega))⟩, rfl⟩, Weak.of [] (by kernel_rfl) (by kernel_rfl)⟩
   omega
 ·have q4 := iF iD hc
  refine AC.exit ?_
  refine thenQ_x ?_
  refine thenQ_x ?_
  refine blockQ_x ?_
  refine thenQ_n ?_
  refine AC.rq (fun σ7 => RegOK.m1 [4] ⟨[(4, I (-1))], mem⟩ (.cons (s_assign (.int .i64 (-1))) .nil) ?_)
  refine AC.ret ?_
  exact FinQ.ret (result1 rfl (res_tmp (v := I (-1)) rfl rfl)) ⟨by first | exact congrArg I (idx_found 0 (by omega) hn hc) | exact congrArg I (idx_none 0 (by intro j hj; exact hn j (by omega))), rfl⟩
theorem F121 (l : List Int) (f : FuncId) (caps : List AV) (es : List Ent) (p : Int → Bool) (hcall : Callable Try.prog f) (hf : ∀ x : Int, x ∈ l → EffR Try.prog f ([] ++ [I x] ++ caps) es (.bool (p x))) (hl : (l.length : Int) ≤ 9223372036854775807) : EffR Try.prog 121 [.slice ((l).map I) none, .func f [] caps] es (.bool (l.any p)) := by
 intro mem hes
 refine Meets.body 0 Try.func121 rfl rfl ?_
 refine AC.rq (fun σ0 => RegOK.m1 [0, 1] ⟨[(0, .slice ((l).map I) none), (1, .func f [] caps)], mem⟩ (.cons (s_assign (.bool false)) .nil) ?_)
 refine AC.rq (fun σ1 => RegOK.mkN [4] ⟨[(4, .bool (decide (0 ≤ (idxI p l))))], mem⟩ (.cons (s_move (.tmp 0 (.slice ((l).map I) none))) (.cons (s_move (.tmp 1 (.func f [] caps))) (.cons (s_callR (r := I (idxI p l)) (es := (es)) (.func 131) (.cons (.tmp 5 (.slice ((l).map I) none)) (.cons (.tmp 6 (.func f [] caps)) .nil)) call131 (F131 l f caps es p hcall hf hl)) (.cons (s_geq (.tmp 7 (I (idxI p l))) (.int .i64 (0))) (.cons (s_assign (.tmp 8 (.bool (decide (0 ≤ (idxI p l)))))) .nil))))) (by kernel_rfl) (by kernel_rfl) (by kernel_rfl) ⟨trivial, trivial, (fun lq => (Has.left (Has.right (pre := []) hes))), trivial, trivial, trivial⟩ (by kernel_rfl) (by kernel_rfl) (by kernel_rfl) ?_)
 refine AC.ret ?_
 exact FinQ.ret (result1 rfl (res_tmp (v := .bool (decide (0 ≤ (idxI p l)))) rfl rfl)) ⟨by exact congrArg AV.bool (idx_any p l), rfl⟩
end Go.Proofs.Yteomgedahkpnlaa
end
section
set_option linter.unusedVariables false
set_option linter.unusedSimpArgs false
set_option maxRecDepth 100000
namespace Go.Proofs.Yteomgedahkpnlaa
open Go.Proofs
theorem F64 (x : Cable) : Pure Try.prog 64 [Cable.av x] (.str (x.name)) := by
 intro mem
 refine Meets.body 1 Try.func64 rfl rfl ?_
 refine AC.rq (fun σ0 => RegOK.m1 [1] ⟨[(1, .ptr (σ0 0) 0)], (.box (σ0 0) (Cable.av x).cells) :: mem⟩ (.cons (s_box 0 (σ0 0) (.tmp 0 (Cable.av x)) rfl) (.cons (s_assign (.str ⟨#[]⟩)) .nil)) ?_)
 refine AC.rq (fun σ1 => RegOK.m1 [2] ⟨[(2, .str (x.name))], (.box (σ0 0) (Cable.av x).cells) :: mem⟩ (.cons (s_fieldAddr fld71_0 (.tmp 1 (.ptr (σ0 0) 0))) (.cons (s_load1 (cs := (Cable.av x).cells) (c := .str (x.name)) 0 tyS9 (.tmp 3 (.ptr (σ0 0) 0)) rfl) (.cons (s_assign (.tmp 4 (.str (x.name)))) .nil))) ?_)
 refine AC.ret ?_
 exact FinQ.ret (result1 rfl (res_tmp (v := .str (x.name)) rfl rfl)) ⟨by rfl, rfl⟩
theorem F67 (x : Fuse) : Pure Try.prog 67 [Fuse.av x] (.str (x.name)) := by
 intro mem
 refine Meets.body 1 Try.func67 rfl rfl ?_
 refine AC.rq (fun σ0 => RegOK.m1 [1] ⟨[(1, .ptr (σ0 0) 0)], (.box (σ0 0) (Fuse.av x).cells) :: mem⟩ (.cons (s_box 0 (σ0 0) (.tmp 0 (Fuse.av x)) rfl) (.cons (s_assign (.str ⟨#[]⟩)) .nil)) ?_)
 refine AC.rq (fun σ1 => RegOK.m1 [2] ⟨[(2, .str (x.name))], (.box (σ0 0) (Fuse.av x).cells) :: mem⟩ (.cons (s_fieldAddr fld94_0 (.tmp 1 (.ptr (σ0 0) 0))) (.cons (s_load1 (cs := (Fuse.av x).cells) (c := .str (x.name)) 0 tyS9 (.tmp 3 (.ptr (σ0 0) 0)) rfl) (.cons (s_assign (.tmp 4 (.str (x.name)))) .nil))) ?_)
 refine AC.ret ?_
 exact FinQ.ret (result1 rfl (res_tmp (v := .str (x.name)) rfl rfl)) ⟨by rfl, rfl⟩
theorem F70 (x : Node) : Pure Try.prog 70 [Node.av x] (.str (x.name)) := by
 intro mem
 refine Meets.body 1 Try.func70 rfl rfl ?_
 refine AC.rq (fun σ0 => RegOK.m1 [1] ⟨[(1, .ptr (σ0 0) 0)], (.box (σ0 0) (Node.av x).cells) :: mem⟩ (.cons (s_box 0 (σ0 0) (.tmp 0 (Node.av x)) rfl) (.cons (s_assign (.str ⟨#[]⟩)) .nil)) ?_)
 refine AC.rq (fun σ1 => RegOK.m1 [2] ⟨[(2, .str (x.name))], (.box (σ0 0) (Node.av x).cells) :: mem⟩ (.cons (s_fieldAddr fld47_0 (.tmp 1 (.ptr (σ0 0) 0))) (.cons (s_load1 (cs := (Node.av x).cells) (c := .str (x.name)) 0 tyS9 (.tmp 3 (.ptr (σ0 0) 0)) rfl) (.cons (s_assign (.tmp 4 (.str (x.name)))) .nil))) ?_)
 refine AC.ret ?_
 exact FinQ.ret (result1 rfl (res_tmp (v := .str (x.name)) rfl rfl)) ⟨by rfl, rfl⟩
theorem F103 (y x : Cable) (s0 s1 : Nat) : EffR Try.prog 103 [Cable.av y, .ptr s0 0, .ptr s1 0] [Ent.box s0 [.func 64 [] []], Ent.box s1 (Cable.av x).cells] (.bool (decide (y.name = x.name))) := by
 intro mem hes
 obtain ⟨p0, hm0⟩ := List.mem_iff_getElem?.1 (hes (Ent.box s0 [.func 64 [] []]) (by simp))
 obtain ⟨p1, hm1⟩ := List.mem_iff_getElem?.1 (hes (Ent.box s1 (Cable.av x).cells) (by simp))
 refine Meets.body 1 Try.func103 rfl rfl ?_
 refine AC.rq (fun σ0 => RegOK.m1 [1, 2, 3] ⟨[(1, .ptr s0 0), (2, .ptr s1 0), (3, .ptr (σ0 0) 0)], (.box (σ0 0) (Cable.av y).cells) :: mem⟩ (.cons (s_box 0 (σ0 0) (.tmp 0 (Cable.av y)) rfl) (.cons (s_assign (.bool false)) .nil)) ?_)
 refine AC.rq (fun σ1 => RegOK.mk [4] ⟨[(4, .bool (decide (y.name = x.name)))], (.box (σ0 0) (Cable.av y).cells) :: mem⟩ (.cons (s_load1 (cs := [.func 64 [] []]) (c := .func 64 [] []) (p0 + 1) tyS113 (.tmp 1 (.ptr s0 0)) rfl) (.cons (s_loadA (cs := (Cable.av y).cells) (l := (Cable.av y).cells) 0 tyA71 (.tmp 3 (.ptr (σ0 0) 0)) rfl rfl) (.cons (s_call (r := .str (y.name)) (.tmp 5 (.func 64 [] [])) (.cons (.tmp 6 (Cable.av y)) .nil) call64 (F64 (y))) (.cons (s_load1 (cs := [.func 64 [] []]) (c := .func 64 [] []) (p0 + 1) tyS113 (.tmp 1 (.ptr s0 0)) rfl) (.cons (s_loadA (cs := (Cable.av x).cells) (l := (Cable.av x).cells) (p1 + 1) tyA71 (.tmp 2 (.ptr s1 0)) rfl rfl) (.cons (s_call (r := .str (x.name)) (.tmp 8 (.func 64 [] [])) (.cons (.tmp 9 (Cable.av x)) .nil) call64 (F64 (x))) (.cons (s_bytes_eql (.tmp 7 (.str (y.name))) (.tmp 10 (.str (x.name)))) (.cons (s_assign (.tmp 11 (.bool (decide (y.name = x.name))))) .nil)))))))) (by kernel_rfl) (show _ = _ from cg2 (fun z0 z1 => [z0, some (Ent.box (σ0 0) (Cable.av y).cells), z0, z1]) hm0 hm1) (by kernel_rfl) (by kernel_rfl) (by kernel_rfl) (by kernel_rfl) (by kernel_rfl) ?_)
 refine AC.ret ?_
 exact FinQ.ret (result1 rfl (res_tmp (v := .bool (decide (y.name = x.name))) rfl rfl)) ⟨by rfl, rfl⟩
theorem F106 (y x : Fuse) (s0 s1 : Nat) : EffR Try.prog 106 [Fuse.av y, .ptr s0 0, .ptr s1 0] [Ent.box s0 [.func 67 [] []], Ent.box s1 (Fuse.av x).cells] (.bool (decide (y.name = x.name))) := by
 intro mem hes
 obtain ⟨p0, hm0⟩ := List.mem_iff_getElem?.1 (hes (Ent.box s0 [.func 67 [] []]) (by simp))
 obtain ⟨p1, hm1⟩ := List.mem_iff_getElem?.1 (hes (Ent.box s1 (Fuse.av x).cells) (by simp))
 refine Meets.body 1 Try.func106 rfl rfl ?_
 refine AC.rq (fun σ0 => RegOK.m1 [1, 2, 3] ⟨[(1, .ptr s0 0), (2, .ptr s1 0), (3, .ptr (σ0 0) 0)], (.box (σ0 0) (Fuse.av y).cells) :: mem⟩ (.cons (s_box 0 (σ0 0) (.tmp 0 (Fuse.av y)) rfl) (.cons (s_assign (.bool false)) .nil)) ?_)
 refine AC.rq (fun σ1 => RegOK.mk [4] ⟨[(4, .bool (decide (y.name = x.name)))], (.box (σ0 0) (Fuse.av y).cells) :: mem⟩ (.cons (s_load1 (cs := [.func 67 [] []]) (c := .func 67 [] []) (p0 + 1) tyS116 (.tmp 1 (.ptr s0 0)) rfl) (.cons (s_loadA (cs := (Fuse.av y).cells) (l := (Fuse.av y).cells) 0 tyA94 (.tmp 3 (.ptr (σ0 0) 0)) rfl rfl) (.cons (s_call (r := .str (y.name)) (.tmp 5 (.func 67 [] [])) (.cons (.tmp 6 (Fuse.av y)) .nil) call67 (F67 (y))) (.cons (s_load1 (cs := [.func 67 [] []]) (c := .func 67 [] []) (p0 + 1) tyS116 (.tmp 1 (.ptr s0 0)) rfl) (.cons (s_loadA (cs := (Fuse.av x).cells) (l := (Fuse.av x).cells) (p1 + 1) tyA94 (.tmp 2 (.ptr s1 0)) rfl rfl) (.cons (s_call (r := .str (x.name)) (.tmp 8 (.func 67 [] [])) (.cons (.tmp 9 (Fuse.av x)) .nil) call67 (F67 (x))) (.cons (s_bytes_eql (.tmp 7 (.str (y.name))) (.tmp 10 (.str (x.name)))) (.cons (s_assign (.tmp 11 (.bool (decide (y.name = x.name))))) .nil)))))))) (by kernel_rfl) (show _ = _ from cg2 (fun z0 z1 => [z0, some (Ent.box (σ0 0) (Fuse.av y).cells), z0, z1]) hm0 hm1) (by kernel_rfl) (by kernel_rfl) (by kernel_rfl) (by kernel_rfl) (by kernel_rfl) ?_)
 refine AC.ret ?_
 exact FinQ.ret (result1 rfl (res_tmp (v := .bool (decide (y.name = x.name))) rfl rfl)) ⟨by rfl, rfl⟩
theorem F110 (y x : Node) (s0 s1 : Nat) : EffR Try.prog 110 [Node.av y, .ptr s0 0, .ptr s1 0] [Ent.box s0 [.func 70 [] []], Ent.box s1 (Node.av x).cells] (.bool (decide (y.name = x.name))) := by
 intro mem hes
 obtain ⟨p0, hm0⟩ := List.mem_iff_getElem?.1 (hes (Ent.box s0 [.func 70 [] []]) (by simp))
 obtain ⟨p1, hm1⟩ := List.mem_iff_getElem?.1 (hes (Ent.box s1 (Node.av x).cells) (by simp))
 refine Meets.body 1 Try.func110 rfl rfl ?_
 refine AC.rq (fun σ0 => RegOK.m1 [1, 2, 3] ⟨[(1, .ptr s0 0), (2, .ptr s1 0), (3, .ptr (σ0 0) 0)], (.box (σ0 0) (Node.av y).cells) :: mem⟩ (.cons (s_box 0 (σ0 0) (.tmp 0 (Node.av y)) rfl) (.cons (s_assign (.bool false)) .nil)) ?_)
 refine AC.rq (fun σ1 => RegOK.mk [4] ⟨[(4, .bool (decide (y.name = x.name)))], (.box (σ0 0) (Node.av y).cells) :: mem⟩ (.cons (s_load1 (cs := [.func 70 [] []]) (c := .func 70 [] []) (p0 + 1) tyS119 (.tmp 1 (.ptr s0 0)) rfl) (.cons (s_loadA (cs := (Node.av y).cells) (l := (Node.av y).cells) 0 tyA47 (.tmp 3 (.ptr (σ0 0) 0)) rfl rfl) (.cons (s_call (r := .str (y.name)) (.tmp 5 (.func 70 [] [])) (.cons (.tmp 6 (Node.av y)) .nil) call70 (F70 (y))) (.cons (s_load1 (cs := [.func 70 [] []]) (c := .func 70 [] []) (p0 + 1) tyS119 (.tmp 1 (.ptr s0 0)) rfl) (.cons (s_loadA (cs := (Node.av x).cells) (l := (Node.av x).cells) (p1 + 1) tyA47 (.tmp 2 (.ptr s1 0)) rfl rfl) (.cons (s_call (r := .str (x.name)) (.tmp 8 (.func 70 [] [])) (.cons (.tmp 9 (Node.av x)) .nil) call70 (F70 (x))) (.cons (s_bytes_eql (.tmp 7 (.str (y.name))) (.tmp 10 (.str (x.name)))) (.cons (s_assign (.tmp 11 (.bool (decide (y.name = x.name))))) .nil)))))))) (by kernel_rfl) (show _ = _ from cg2 (fun z0 z1 => [z0, some (Ent.box (σ0 0) (Node.av y).cells), z0, z1]) hm0 hm1) (by kernel_rfl) (by kernel_rfl) (by kernel_rfl) (by kernel_rfl) (by kernel_rfl) ?_)
 refine AC.ret ?_
 exact FinQ.ret (result1 rfl (res_tmp (v := .bool (decide (y.name = x.name))) rfl rfl)) ⟨by rfl, rfl⟩
theorem F65 (i : Int) (x : Cable) : Pure Try.prog 65 [I i, Cable.av x] (I (cableErr x)) := by
 intro mem
 refine Meets.body 1 Try.func65 rfl rfl ?_
 refine AC.rq (fun σ0 => RegOK.m1 [3] ⟨[(3, .ptr (σ0 0) 0)], (.box (σ0 0) (Cable.av x).cells) :: mem⟩ (.cons (s_box 0 (σ0 0) (.tmp 1 (Cable.av x)) rfl) (.cons (s_assign (.int .i64 (0))) .nil)) ?_)
 refine AC.seq ?_
 refine AC.rq (fun σ1 => RegOK.m1 [20] ⟨[(20, .bool ((((!((decide (1 ≤ x.coreLo) && decide (x.coreLo ≤ x.coreHi)) && decide (x.coreHi ≤ 1000000))) || (!((decide (1 ≤ x.earthLo) && decide (x.earthLo ≤ x.earthHi)) && decide (x.earthHi ≤ 1000000)))) || (!(decide (1 ≤ x.rated) && decide (x.rated ≤ 100000000))))))], (.box (σ0 0) (Cable.av x).cells) :: mem⟩ (.cons (s_fieldAddr fld71_1 (.tmp 3 (.ptr (σ0 0) 0))) (.cons (s_loadA (cs := (Cable.av x).cells) (l := [I x.coreLo, I x.coreHi]) 0 tyA26 (.tmp 5 (.ptr (σ0 0) 1)) rfl rfl) (.cons (s_call (r := .bool (((decide (1 ≤ x.coreLo) && decide (x.coreLo ≤ x.coreHi)) && decide (x.coreHi ≤ 1000000)))) (.func 62) (.cons (.tmp 6 (.agg [I x.coreLo, I x.coreHi])) (.cons (.int .i64 (1)) (.cons (.int .i64 (1000000)) .nil))) call62 (F62 (x.coreLo) (x.coreHi) (1) (1000000))) (.cons (s_not (.tmp 7 (.bool (((decide (1 ≤ x.coreLo) && decide (x.coreLo ≤ x.coreHi)) && decide (x.coreHi ≤ 1000000)))))) (.cons (s_move (.tmp 8 (.bool ((!((decide (1 ≤ x.coreLo) && decide (x.coreLo ≤ x.coreHi)) && decide (x.coreHi ≤ 1000000))))))) (.cons (Step.guard _ rfl (.bool ((!((decide (1 ≤ x.coreLo) && decide (x.coreLo ≤ x.coreHi)) && decide (x.coreHi ≤ 1000000))))) gF (fun hb => s_fieldAddr fld71_2 (.tmp 3 (.ptr (σ0 0) 0)))) (.cons (Step.guard _ rfl (.bool ((!((decide (1 ≤ x.coreLo) && decide (x.coreLo ≤ x.coreHi)) && decide (x.coreHi ≤ 1000000))))) gF (fun hb => s_loadA (cs := (Cable.av x).cells) (l := [I x.earthLo, I x.earthHi]) 0 tyA26 (.tmpC hb 10 (.ptr (σ0 0) 3)) rfl rfl)) (.cons (Step.guard _ rfl (.bool ((!((decide (1 ≤ x.coreLo) && decide (x.coreLo ≤ x.coreHi)) && decide (x.coreHi ≤ 1000000))))) gF (fun hb => s_call (r := .bool (((decide (1 ≤ x.earthLo) && decide (x.earthLo ≤ x.earthHi)) && decide (x.earthHi ≤ 1000000)))) (.func 62) (.cons (.tmpC hb 11 (.agg [I x.earthLo, I x.earthHi])) (.cons (.int .i64 (1)) (.cons (.int .i64 (1000000)) .nil))) call62 (F62 (x.earthLo) (x.earthHi) (1) (1000000)))) (.cons (Step.guard _ rfl (.bool ((!((decide (1 ≤ x.coreLo) && decide (x.coreLo ≤ x.coreHi)) && decide (x.coreHi ≤ 1000000))))) gF (fun hb => s_not (.tmpC hb 12 (.bool (((decide (1 ≤ x.earthLo) && decide (x.earthLo ≤ x.earthHi)) && decide (x.earthHi ≤ 1000000))))))) (.cons (s_or' (e := (!(!((decide (1 ≤ x.coreLo) && decide (x.coreLo ≤ x.coreHi)) && decide (x.coreHi ≤ 1000000))))) (q := (!((decide (1 ≤ x.earthLo) && decide (x.earthLo ≤ x.earthHi)) && decide (x.earthHi ≤ 1000000)))) (fun h => (notMk h)) (.tmp 9 (.bool ((!((decide (1 ≤ x.coreLo) && decide (x.coreLo ≤ x.coreHi)) && decide (x.coreHi ≤ 1000000))))))) (.cons (s_move (.tmp 14 (.bool (((!((decide (1 ≤ x.coreLo) && decide (x.coreLo ≤ x.coreHi)) && decide (x.coreHi ≤ 1000000))) || (!((decide (1 ≤ x.earthLo) && decide (x.earthLo ≤ x.earthHi)) && decide (x.earthHi ≤ 1000000)))))))) (.cons (Step.guard _ rfl (.bool (((!((decide (1 ≤ x.coreLo) && decide (x.coreLo ≤ x.coreHi)) && decide (x.coreHi ≤ 1000000))) || (!((decide (1 ≤ x.earthLo) && decide (x.earthLo ≤ x.earthHi)) && decide (x.earthHi ≤ 1000000)))))) gF (fun hb => s_fieldAddr fld71_3 (.tmp 3 (.ptr (σ0 0) 0)))) (.cons (Step.guard _ rfl (.bool (((!((decide (1 ≤ x.coreLo) && decide (x.coreLo ≤ x.coreHi)) && decide (x.coreHi ≤ 1000000))) || (!((decide (1 ≤ x.earthLo) && decide (x.earthLo ≤ x.earthHi)) && decide (x.earthHi ≤ 1000000)))))) gF (fun hb => s_load1 (cs := (Cable.av x).cells) (c := I x.rated) 0 tyS3 (.tmpC hb 16 (.ptr (σ0 0) 5)) rfl)) (.cons (Step.guard _ rfl (.bool (((!((decide (1 ≤ x.coreLo) && decide (x.coreLo ≤ x.coreHi)) && decide (x.coreHi ≤ 1000000))) || (!((decide (1 ≤ x.earthLo) && decide (x.earthLo ≤ x.earthHi)) && decide (x.earthHi ≤ 1000000)))))) gF (fun hb => s_call (r := .bool ((decide (1 ≤ x.rated) && decide (x.rated ≤ 100000000)))) (.func 51) (.cons (.tmpC hb 17 (I x.rated)) (.cons (.int .i64 (1)) (.cons (.int .i64 (100000000)) .nil))) call51 (F51 (x.rated) (1) (100000000)))) (.cons (Step.guard _ rfl (.bool (((!((decide (1 ≤ x.coreLo) && decide (x.coreLo ≤ x.coreHi)) && decide (x.coreHi ≤ 1000000))) || (!((decide (1 ≤ x.earthLo) && decide (x.earthLo ≤ x.earthHi)) && decide (x.earthHi ≤ 1000000)))))) gF (fun hb => s_not (.tmpC hb 18 (.bool ((decide (1 ≤ x.rated) && decide (x.rated ≤ 100000000))))))) (.cons (s_or' (e := (!((!((decide (1 ≤ x.coreLo) && decide (x.coreLo ≤ x.coreHi)) && decide (x.coreHi ≤ 1000000))) || (!((decide (1 ≤ x.earthLo) && decide (x.earthLo ≤ x.earthHi)) && decide (x.earthHi ≤ 1000000)))))) (q := (!(decide (1 ≤ x.rated) && decide (x.rated ≤ 100000000)))) (fun h => (notMk h)) (.tmp 15 (.bool (((!((decide (1 ≤ x.coreLo) && decide (x.coreLo ≤ x.coreHi)) && decide (x.coreHi ≤ 1000000))) || (!((decide (1 ≤ x.earthLo) && decide (x.earthLo ≤ x.earthHi)) && decide (x.earthHi ≤ 1000000)))))))) .nil)))))))))))))))) ?_)
 refine AC.cend ((((!((decide (1 ≤ x.coreLo) && decide (x.coreLo ≤ x.coreHi)) && decide (x.coreHi ≤ 1000000))) || (!((decide (1 ≤ x.earthLo) && decide (x.earthLo ≤ x.earthHi)) && decide (x.earthHi ≤ 1000000)))) || (!(decide (1 ≤ x.rated) && decide (x.rated ≤ 100000000))))) rfl rfl (fun hc => ?_) (fun hc => ?_)
 ·have q1 := (iO (iO (iN (iA (iA iD iD) iD)) (iN (iA (iA iD iD) iD))) (iN (iA iD iD))).1 hc
  refine AC.rq (fun σ2 => RegOK.m1 [4] ⟨[(4, I 7)], (.box (σ0 0) (Cable.av x).cells) :: mem⟩ (.cons (s_assign (.int .i64 (7))) .nil) ?_)
  refine AC.ret ?_
  refine thenQ_r ?_
  exact FinQ.ret (result1 rfl (res_tmp (v := I 7) rfl rfl)) ⟨by refine congrArg I ?_; unfold cableErr; (repeat' split) <;> first | rfl | (exfalso; omega), rfl⟩
 ·have q2 := iF (iO (iO (iN (iA (iA iD iD) iD)) (iN (iA (iA iD iD) iD))) (iN (iA iD iD))) hc
  refine AC.skip ?_
  refine thenQ_n ?_
  refine AC.rq (fun σ3 => RegOK.m1 [4] ⟨[(4, I 0)], (.box (σ0 0) (Cable.av x).cells) :: mem⟩ (.cons (s_assign (.int .i64 (0))) .nil) ?_)
  refine AC.ret ?_
  exact FinQ.ret (result1 rfl (res_tmp (v := I 0) rfl rfl)) ⟨by refine congrArg I ?_; unfold cableErr; (repeat' split) <;> first | rfl | (exfalso; omega), rfl⟩
theorem F108 (p : Point) : Pure Try.prog 108 [Point.av p] (.bool ((wildP p))) := by
 intro mem
 refine Meets.body 1 Try.func108 rfl rfl ?_
 refine AC.rq (fun σ0 => RegOK.m1 [1] ⟨[(1, .ptr (σ0 0) 0)], (.box (σ0 0) (Point.av p).cells) :: mem⟩ (.cons (s_box 0 (σ0 0) (.tmp 0 (Point.av p)) rfl) (.cons (s_assign (.bool false)) .nil)) ?_)
 refine AC.rq (fun σ1 => RegOK.m1 [2] ⟨[(2, .bool (((!(decide (1 ≤ p.cur) && decide (p.cur ≤ 100000000))) || (!((decide (1 ≤ p.lo) && decide (p.lo ≤ p.hi)) && decide (p.hi ≤ 100000000))))))], (.box (σ0 0) (Point.av p).cells) :: mem⟩ (.cons (s_fieldAddr fld141_0 (.tmp 1 (.ptr (σ0 0) 0))) (.cons (s_load1 (cs := (Point.av p).cells) (c := I p.cur) 0 tyS3 (.tmp 3 (.ptr (σ0 0) 0)) rfl) (.cons (s_call (r := .bool ((decide (1 ≤ p.cur) && decide (p.cur ≤ 100000000)))) (.func 51) (.cons (.tmp 4 (I p.cur)) (.cons (.int .i64 (1)) (.cons (.int .i64 (100000000)) .nil))) call51 (F51 (p.cur) (1) (100000000))) (.cons (s_not (.tmp 5 (.bool ((decide (1 ≤ p.cur) && decide (p.cur ≤ 100000000)))))) (.cons (s_move (.tmp 6 (.bool ((!(decide (1 ≤ p.cur) && decide (p.cur ≤ 100000000))))))) (.cons (Step.guard _ rfl (.bool ((!(decide (1 ≤ p.cur) && decide (p.cur ≤ 100000000))))) gF (fun hb => s_fieldAddr fld141_1 (.tmp 1 (.ptr (σ0 0) 0)))) (.cons (Step.guard _ rfl (.bool ((!(decide (1 ≤ p.cur) && decide (p.cur ≤ 100000000))))) gF (fun hb => s_loadA (cs := (Point.av p).cells) (l := [I p.lo, I p.hi]) 0 tyA26 (.tmpC hb 8 (.ptr (σ0 0) 1)) rfl rfl)) (.cons (Step.guard _ rfl (.bool ((!(decide (1 ≤ p.cur) && decide (p.cur ≤ 100000000))))) gF (fun hb => s_call (r := .bool (((decide (1 ≤ p.lo) && decide (p.lo ≤ p.hi)) && decide (p.hi ≤ 100000000)))) (.func 62) (.cons (.tmpC hb 9 (.agg [I p.lo, I p.hi])) (.cons (.int .i64 (1)) (.cons (.int .i64 (100000000)) .nil))) call62 (F62 (p.lo) (p.hi) (1) (100000000)))) (.cons (Step.guard _ rfl (.bool ((!(decide (1 ≤ p.cur) && decide (p.cur ≤ 100000000))))) gF (fun hb => s_not (.tmpC hb 10 (.bool (((decide (1 ≤ p.lo) && decide (p.lo ≤ p.hi)) && decide (p.hi ≤ 100000000))))))) (.cons (s_or' (e := (!(!(decide (1 ≤ p.cur) && decide (p.cur ≤ 100000000))))) (q := (!((decide (1 ≤ p.lo) && decide (p.lo ≤ p.hi)) && decide (p.hi ≤ 100000000)))) (fun h => (notMk h)) (.tmp 7 (.bool ((!(decide (1 ≤ p.cur) && decide (p.cur ≤ 100000000))))))) (.cons (s_assign (.tmp 12 (.bool (((!(decide (1 ≤ p.cur) && decide (p.cur ≤ 100000000))) || (!((decide (1 ≤ p.lo) && decide (p.lo ≤ p.hi)) && decide (p.hi ≤ 100000000)))))))) .nil))))))))))) ?_)
 refine AC.ret ?_
 exact FinQ.ret (result1 rfl (res_tmp (v := .bool (((!(decide (1 ≤ p.cur) && decide (p.cur ≤ 100000000))) || (!((decide (1 ≤ p.lo) && decide (p.lo ≤ p.hi)) && decide (p.hi ≤ 100000000)))))) rfl rfl)) ⟨by rfl, rfl⟩
theorem F68 (i : Int) (x : Fuse) (hok : x.ok) : Pure Try.prog 68 [I i, Fuse.av x] (I (fuseErr x)) := by
 intro mem
 have ⟨ho1, ho2⟩ := hok
 have hd : (x.points.drop 1).length = x.points.length - 1 := List.length_drop
 refine Meets.body 3 Try.func68 rfl rfl ?_
 refine AC.rq (fun σ0 => RegOK.m1 [3] ⟨[(3, .ptr (σ0 0) 0)], (.box (σ0 0) (Fuse.av x).cells) :: .hole :: .hole :: mem⟩ (.cons (s_box 0 (σ0 0) (.tmp 1 (Fuse.av x)) rfl) (.cons (s_assign (.int .i64 (0))) .nil)) ?_)
 refine AC.seq ?_
 refine AC.rq (fun σ1 => RegOK.m1 [3, 13] ⟨[(3, .ptr (σ0 0) 0), (13, .bool ((!(decide (1 ≤ (x.points.length : Int)) && decide ((x.points.length : Int) ≤ 8)))))], (.box (σ0 0) (Fuse.av x).cells) :: .hole :: .hole :: mem⟩ (.cons (s_fieldAddr fld94_2 (.tmp 3 (.ptr (σ0 0) 0))) (.cons (s_load1 (cs := (Fuse.av x).cells) (c := .slice ((x.points).map Point.av) none) 0 tyS92 (.tmp 9 (.ptr (σ0 0) 2)) rfl) (.cons (s_lenM (l := x.points) slc92 (.tmp 10 (.slice ((x.points).map Point.av) none))) (.cons (s_call (r := .bool ((decide (1 ≤ (x.points.length : Int)) && decide ((x.points.length : Int) ≤ 8)))) (.func 51) (.cons (.tmp 11 (I (x.points.length : Int))) (.cons (.int .i64 (1)) (.cons (.int .i64 (8)) .nil))) call51 (F51 ((x.points.length : Int)) (1) (8))) (.cons (s_not (.tmp 12 (.bool ((decide (1 ≤ (x.points.length : Int)) && decide ((x.points.length : Int) ≤ 8)))))) .nil))))) ?_)
 refine AC.cend ((!(decide (1 ≤ (x.points.length : Int)) && decide ((x.points.length : Int) ≤ 8)))) rfl rfl (fun hc => ?_) (fun hc => ?_)
 ·have q1 := (iN (iA iD iD)).1 hc
  refine AC.rq (fun σ2 => RegOK.m1 [4] ⟨[(4, I 3)], (.box (σ0 0) (Fuse.av x).cells) :: .hole :: .hole :: mem⟩ (.cons (s_assign (.int .i64 (3))) .nil) ?_)
  refine AC.ret ?_
  refine thenQ_r ?_
  exact FinQ.ret (result1 rfl (res_tmp (v := I 3) rfl rfl)) ⟨by refine congrArg I ?_; unfold fuseErr; grind, rfl⟩
 ·have q2 := iF (iN (iA iD iD)) hc
  refine AC.skip ?_
  refine thenQ_n ?_
  refine AC.rq (fun σ3 => RegOK.m1 [3, 5] ⟨[(3, .ptr (σ0 0) 0), (5, .func 108 [] [])], (.box (σ0 0) (Fuse.av x).cells) :: .hole :: .hole :: mem⟩ (.cons (s_assign (.func 108)) .nil) ?_)
  refine AC.seq ?_
  refine AC.rq (fun σ4 => RegOK.mkN [3, 23] ⟨[(3, .ptr (σ0 0) 0), (23, .bool (((!(decide (1 ≤ x.rated) && decide (x.rated ≤ 100000000))) || (x.points.any (wildP)))))], (.box (σ0 0) (Fuse.av x).cells) :: .hole :: .hole :: mem⟩ (.cons (s_fieldAddr fld94_1 (.tmp 3 (.ptr (σ0 0) 0))) (.cons (s_load1 (cs := (Fuse.av x).cells) (c := I x.rated) 0 tyS3 (.tmp 14 (.ptr (σ0 0) 1)) rfl) (.cons (s_call (r := .bool ((decide (1 ≤ x.rated) && decide (x.rated ≤ 100000000)))) (.func 51) (.cons (.tmp 15 (I x.rated)) (.cons (.int .i64 (1)) (.cons (.int .i64 (100000000)) .nil))) call51 (F51 (x.rated) (1) (100000000))) (.cons (s_not (.tmp 16 (.bool ((decide (1 ≤ x.rated) && decide (x.rated ≤ 100000000)))))) (.cons (s_move (.tmp 17 (.bool ((!(decide (1 ≤ x.rated) && decide (x.rated ≤ 100000000))))))) (.cons (Step.guard _ rfl (.bool ((!(decide (1 ≤ x.rated) && decide (x.rated ≤ 100000000))))) gF (fun hb => s_fieldAddr fld94_2 (.tmp 3 (.ptr (σ0 0) 0)))) (.cons (Step.guard _ rfl (.bool ((!(decide (1 ≤ x.rated) && decide (x.rated ≤ 100000000))))) gF (fun hb => s_load1 (cs := (Fuse.av x).cells) (c := .slice ((x.points).map Point.av) none) 0 tyS92 (.tmpC hb 19 (.ptr (σ0 0) 2)) rfl)) (.cons (Step.guard _ rfl (.bool ((!(decide (1 ≤ x.rated) && decide (x.rated ≤ 100000000))))) gF (fun hb => s_move (.tmp 5 (.func 108 [] [])))) (.cons (Step.guard _ rfl (.bool ((!(decide (1 ≤ x.rated) && decide (x.rated ≤ 100000000))))) gF (fun hb => s_callR (r := .bool ((x.points.any (wildP)))) (es := ([])) (.func 109) (.cons (.tmpC hb 20 (.slice ((x.points).map Point.av) none)) (.cons (.tmpC hb 21 (.func 108 [] [])) .nil)) call109 (F109 (x.points) 108 [] ([]) (wildP) call108 (fun x _ => (F108 x).effR) (by have hq := (iN (iN (iA iD iD))).1 hb; omega)))) (.cons (s_or' (e := (!(!(decide (1 ≤ x.rated) && decide (x.rated ≤ 100000000))))) (q := (x.points.any (wildP))) (fun h => (notMk h)) (.tmp 18 (.bool ((!(decide (1 ≤ x.rated) && decide (x.rated ≤ 100000000))))))) .nil)))))))))) (by kernel_rfl) (by kernel_rfl) (by kernel_rfl) ⟨trivial, trivial, trivial, trivial, trivial, trivial, trivial, trivial, (fun lq => (Has.nil _)), trivial, trivial⟩ (by kernel_rfl) (by kernel_rfl) (by kernel_rfl) ?_)
  refine AC.cend (((!(decide (1 ≤ x.rated) && decide (x.rated ≤ 100000000))) || (x.points.any (wildP)))) rfl rfl (fun hc => ?_) (fun hc => ?_)
  ·have q3 := (iO (iN (iA iD iD)) iB).1 hc
   refine AC.rq (fun σ5 => RegOK.m1 [4] ⟨[(4, I 7)], (.box (σ0 0) (Fuse.av x).cells) :: .hole :: .hole :: mem⟩ (.cons (s_assign (.int .i64 (7))) .nil) ?_)
   refine AC.ret ?_
   refine thenQ_r ?_
   exact FinQ.ret (result1 rfl (res_tmp (v := I 7) rfl rfl)) ⟨by refine congrArg I ?_; unfold fuseErr; grind, rfl⟩
  ·have q4 := iF (iO (iN (iA iD iD)) iB) hc
   refine AC.skip ?_
   refine thenQ_n ?_
   refine AC.seq ?_
   refine AC.rq (fun σ6 => RegOK.m1 [3, 26, 27, 28] ⟨[(3, .ptr (σ0 0) 0), (26, .slice (((x.points.drop 1)).map Point.av) none), (27, I ((x.points.drop 1).length : Int)), (28, I 0)], (.box (σ0 0) (Fuse.av x).cells) :: .hole :: .hole :: mem⟩ (.cons (s_fieldAddr fld94_2 (.tmp 3 (.ptr (σ0 0) 0))) (.cons (s_load1 (cs := (Fuse.av x).cells) (c := .slice ((x.points).map Point.av) none) 0 tyS92 (.tmp 24 (.ptr (σ0 0) 2)) rfl) (.cons (s_fromM (l := x.points) (f := Point.av) slc92 (.tmp 25 (.slice ((x.points).map Point.av) none)) (.int .i64 (1)) (by omega) (fun _ => rfl)) (.cons (s_lenM (l := (x.points.drop 1)) slc92 (.tmp 26 (.slice (((x.points.drop 1)).map Point.av) none))) (.cons (s_move (.int .i64 (0))) .nil))))) ?_)
   refine AC.block ?_
   refine AC.loopW (fun mz T => ∃ (k : Nat), mz = x.points.length - 1 - k ∧ ((k ≤ x.points.length - 1) ∧ (∀ j : Nat, j < k → badP (x.points.getD j default) (x.points.getD (j + 1) default) = false)) ∧ T = ⟨[(3, .ptr (σ0 0) 0), (26, .slice (((x.points.drop 1)).map Point.av) none), (27, I ((x.points.drop 1).length : Int)), (28, I (k : Int))], (.box (σ0 0) (Fuse.av x).cells) :: .hole :: .hole :: mem⟩) _ ⟨[(3, .ptr (σ0 0) 0), (26, .slice (((x.points.drop 1)).map Point.av) none), (27, I ((x.points.drop 1).length : Int)), (28, I ((0) : Int))], (.box (σ0 0) (Fuse.av x).cells) :: .hole :: .hole :: mem⟩ ⟨0, rfl, ⟨(by omega), (by intro j hj; omega)⟩, rfl⟩ (Weak.of [] (by kernel_rfl) (by kernel_rfl)) ?_ Fr.plain
   rintro _ _ ⟨k, rfl, ⟨hk, hn⟩, rfl⟩
   refine AC.rq (fun σ7 => RegOK.m1 [3, 26, 27, 28, 29] ⟨[(3, .ptr (σ0 0) 0), (26, .slice (((x.points.drop 1)).map Point.av) none), (27, I ((x.points.drop 1).length : Int)), (28, I (k : Int)), (29, .bool (decide ((k : Int) < ((x.points.drop 1).length : Int))))], (.box (σ0 0) (Fuse.av x).cells) :: .hole :: .hole :: mem⟩ (.cons (s_lss (.tmp 28 (I (k : Int))) (.tmp 27 (I ((x.points.drop 1).length : Int)))) .nil) ?_)
   refine AC.cseq (decide ((k : Int) < ((x.points.drop 1).length : Int))) rfl rfl (fun hc => ?_) (fun hc => ?_)
   ·have q5 := iD.1 hc
    refine AC.skip ?_
    refine thenQ_n ?_
    refine AC.bseq ?_
    refine AC.rq (fun σ8 => RegOK.m1 [3, 6, 7, 26, 27, 28] ⟨[(3, .ptr (σ0 0) 0), (6, I (k : Int)), (7, .ptr (σ8 3) 0), (26, .slice (((x.points.drop 1)).map Point.av) none), (27, I ((x.points.drop 1).length : Int)), (28, I (k : Int))], (.box (σ0 0) (Fuse.av x).cells) :: (.box (σ8 3) (Point.av ((x.points.drop 1).getD k default)).cells) :: .hole :: mem⟩ (.cons (s_move (.tmp 28 (I (k : Int)))) (.cons (s_ixM (l := (x.points.drop 1)) (f := Point.av) (default) slc92 (.tmp 26 (.slice (((x.points.drop 1)).map Point.av) none)) (.tmp 28 (I (k : Int))) (by omega) rfl) (.cons (s_loadAe (l := (Point.av ((x.points.drop 1).getD k default)).cells) tyA141 (.tmp 31 (.eptr (Point.av ((x.points.drop 1).getD k default)) 0)) rfl rfl) (.cons (s_alloc 1 (σ8 3) zero141) (.cons (s_assign (.tmp 30 (I (k : Int)))) (.cons (s_store (cs := [I 0, I 0, I 0]) 1 sz141 (.tmp 7 (.ptr (σ8 3) 0)) (.tmp 32 (Point.av ((x.points.drop 1).getD k default))) rfl rfl rfl (Nat.le_of_ble_eq_true rfl)) .nil)))))) ?_)
    refine AC.rq (fun σ9 => RegOK.m1 [3, 7, 8, 26, 27, 28] ⟨[(3, .ptr (σ0 0) 0), (7, .ptr (σ8 3) 0), (8, .ptr (σ9 5) 0), (26, .slice (((x.points.drop 1)).map Point.av) none), (27, I ((x.points.drop 1).length : Int)), (28, I (k : Int))], (.box (σ0 0) (Fuse.av x).cells) :: (.box (σ8 3) (Point.av ((x.points.drop 1).getD k default)).cells) :: (.box (σ9 5) (Point.av (x.points.getD k default)).cells) :: mem⟩ (.cons (s_fieldAddr fld94_2 (.tmp 3 (.ptr (σ0 0) 0))) (.cons (s_load1 (cs := (Fuse.av x).cells) (c := .slice ((x.points).map Point.av) none) 0 tyS92 (.tmp 33 (.ptr (σ0 0) 2)) rfl) (.cons (s_move (.tmp 6 (I (k : Int)))) (.cons (s_ixM (l := x.points) (f := Point.av) (default) slc92 (.tmp 34 (.slice ((x.points).map Point.av) none)) (.tmp 35 (I (k : Int))) (by omega) rfl) (.cons (s_loadAe (l := (Point.av (x.points.getD k default)).cells) tyA141 (.tmp 36 (.eptr (Point.av (x.points.getD k default)) 0)) rfl rfl) (.cons (s_alloc 2 (σ9 5) zero141) (.cons (s_store (cs := [I 0, I 0, I 0]) 2 sz141 (.tmp 8 (.ptr (σ9 5) 0)) (.tmp 37 (Point.av (x.points.getD k default))) rfl rfl rfl (Nat.le_of_ble_eq_true rfl)) .nil))))))) ?_)
    refine AC.rq (fun σ10 => RegOK.m1 [3, 26, 27, 28, 60] ⟨[(3, .ptr (σ0 0) 0), (26, .slice (((x.points.drop 1)).map Point.av) none), (27, I ((x.points.drop 1).length : Int)), (28, I (k : Int)), (60, .bool (((decide (((x.points.drop 1).getD k default).cur ≤ (x.points.getD k default).cur) || decide ((x.points.getD k default).lo < ((x.points.drop 1).getD k default).lo)) || decide ((x.points.getD k default).hi < ((x.points.drop 1).getD k default).hi))))], (.box (σ0 0) (Fuse.av x).cells) :: (.box (σ8 3) (Point.av ((x.points.drop 1).getD k default)).cells) :: (.box (σ9 5) (Point.av (x.points.getD k default)).cells) :: mem⟩ (.cons (s_fieldAddr fld141_0 (.tmp 7 (.ptr (σ8 3) 0))) (.cons (s_load1 (cs := (Point.av ((x.points.drop 1).getD k default)).cells) (c := I (((x.points.drop 1).getD k default).cur)) 1 tyS3 (.tmp 38 (.ptr (σ8 3) 0)) rfl) (.cons (s_fieldAddr fld141_0 (.tmp 8 (.ptr (σ9 5) 0))) (.cons (s_load1 (cs := (Point.av (x.points.getD k default)).cells) (c := I ((x.points.getD k default).cur)) 2 tyS3 (.tmp 40 (.ptr (σ9 5) 0)) rfl) (.cons (s_leq (.tmp 39 (I (((x.points.drop 1).getD k default).cur))) (.tmp 41 (I ((x.points.getD k default).cur)))) (.cons (s_move (.tmp 42 (.bool (decide (((x.points.drop 1).getD k default).cur ≤ (x.points.getD k default).cur))))) (.cons (Step.guard _ rfl (.bool (decide (((x.points.drop 1).getD k default).cur ≤ (x.points.getD k default).cur))) gF (fun hb => s_fieldAddr fld141_1 (.tmp 7 (.ptr (σ8 3) 0)))) (.cons (Step.guard _ rfl (.bool (decide (((x.points.drop 1).getD k default).cur ≤ (x.points.getD k default).cur))) gF (fun hb => s_fieldAddr fld26_0 (.tmpC hb 44 (.ptr (σ8 3) 1)))) (.cons (Step.guard _ rfl (.bool (decide (((x.points.drop 1).getD k default).cur ≤ (x.points.getD k default).cur))) gF (fun hb => s_load1 (cs := (Point.av ((x.points.drop 1).getD k default)).cells) (c := I (((x.points.drop 1).getD k default).lo)) 1 tyS3 (.tmpC hb 45 (.ptr (σ8 3) 1)) rfl)) (.cons (Step.guard _ rfl (.bool (decide (((x.points.drop 1).getD k default).cur ≤ (x.points.getD k default).cur))) gF (fun hb => s_fieldAddr fld141_1 (.tmp 8 (.ptr (σ9 5) 0)))) (.cons (Step.guard _ rfl (.bool (decide (((x.points.drop 1).getD k default).cur ≤ (x.points.getD k default).cur))) gF (fun hb => s_fieldAddr fld26_0 (.tmpC hb 47 (.ptr (σ9 5) 1)))) (.cons (Step.guard _ rfl (.bool (decide (((x.points.drop 1).getD k default).cur ≤ (x.points.getD k default).cur))) gF (fun hb => s_load1 (cs := (Point.av (x.points.getD k default)).cells) (c := I ((x.points.getD k default).lo)) 2 tyS3 (.tmpC hb 48 (.ptr (σ9 5) 1)) rfl)) (.cons (Step.guard _ rfl (.bool (decide (((x.points.drop 1).getD k default).cur ≤ (x.points.getD k default).cur))) gF (fun hb => s_gtr (.tmpC hb 46 (I (((x.points.drop 1).getD k default).lo))) (.tmpC hb 49 (I ((x.points.getD k default).lo))))) (.cons (s_or' (e := (!(decide (((x.points.drop 1).getD k default).cur ≤ (x.points.getD k default).cur)))) (q := decide ((x.points.getD k default).lo < ((x.points.drop 1).getD k default).lo)) (fun h => (notMk h)) (.tmp 43 (.bool (decide (((x.points.drop 1).getD k default).cur ≤ (x.points.getD k default).cur))))) (.cons (s_move (.tmp 51 (.bool ((decide (((x.points.drop 1).getD k default).cur ≤ (x.points.getD k default).cur) || decide ((x.points.getD k default).lo < ((x.points.drop 1).getD k default).lo)))))) (.cons (Step.guard _ rfl (.bool ((decide (((x.points.drop 1).getD k default).cur ≤ (x.points.getD k default).cur) || decide ((x.points.getD k default).lo < ((x.points.drop 1).getD k default).lo)))) gF (fun hb => s_fieldAddr fld141_1 (.tmp 7 (.ptr (σ8 3) 0)))) (.cons (Step.guard _ rfl (.bool ((decide (((x.points.drop 1).getD k default).cur ≤ (x.points.getD k default).cur) || decide ((x.points.getD k default).lo < ((x.points.drop 1).getD k default).lo)))) gF (fun hb => s_fieldAddr fld26_1 (.tmpC hb 53 (.ptr (σ8 3) 1)))) (.cons (Step.guard _ rfl (.bool ((decide (((x.points.drop 1).getD k default).cur ≤ (x.points.getD k default).cur) || decide ((x.points.getD k default).lo < ((x.points.drop 1).getD k default).lo)))) gF (fun hb => s_load1 (cs := (Point.av ((x.points.drop 1).getD k default)).cells) (c := I (((x.points.drop 1).getD k default).hi)) 1 tyS3 (.tmpC hb 54 (.ptr (σ8 3) 2)) rfl)) (.cons (Step.guard _ rfl (.bool ((decide (((x.points.drop 1).getD k default).cur ≤ (x.points.getD k default).cur) || decide ((x.points.getD k default).lo < ((x.points.drop 1).getD k default).lo)))) gF (fun hb => s_fieldAddr fld141_1 (.tmp 8 (.ptr (σ9 5) 0)))) (.cons (Step.guard _ rfl (.bool ((decide (((x.points.drop 1).getD k default).cur ≤ (x.points.getD k default).cur) || decide ((x.points.getD k default).lo < ((x.points.drop 1).getD k default).lo)))) gF (fun hb => s_fieldAddr fld26_1 (.tmpC hb 56 (.ptr (σ9 5) 1)))) (.cons (Step.guard _ rfl (.bool ((decide (((x.points.drop 1).getD k default).cur ≤ (x.points.getD k default).cur) || decide ((x.points.getD k default).lo < ((x.points.drop 1).getD k default).lo)))) gF (fun hb => s_load1 (cs := (Point.av (x.points.getD k default)).cells) (c := I ((x.points.getD k default).hi)) 2 tyS3 (.tmpC hb 57 (.ptr (σ9 5) 2)) rfl)) (.cons (Step.guard _ rfl (.bool ((decide (((x.points.drop 1).getD k default).cur ≤ (x.points.getD k default).cur) || decide ((x.points.getD k default).lo < ((x.points.drop 1).getD k default).lo)))) gF (fun hb => s_gtr (.tmpC hb 55 (I (((x.points.drop 1).getD k default).hi))) (.tmpC hb 58 (I ((x.points.getD k default).hi))))) (.cons (s_or' (e := (!(decide (((x.points.drop 1).getD k default).cur ≤ (x.points.getD k default).cur) || decide ((x.points.getD k default).lo < ((x.points.drop 1).getD k default).lo)))) (q := decide ((x.points.getD k default).hi < ((x.points.drop 1).getD k default).hi)) (fun h => (notMk h)) (.tmp 52 (.bool ((decide (((x.points.drop 1).getD k default).cur ≤ (x.points.getD k default).cur) || decide ((x.points.getD k default).lo < ((x.points.drop 1).getD k default).lo)))))) .nil))))))))))))))))))))))) ?_)
    refine AC.cend (((decide (((x.points.drop 1).getD k default).cur ≤ (x.points.getD k default).cur) || decide ((x.points.getD k default).lo < ((x.points.drop 1).getD k default).lo)) || decide ((x.points.getD k default).hi < ((x.points.drop 1).getD k default).hi))) rfl rfl (fun hc => ?_) (fun hc => ?_)
    ·have q6 := (iO (iO iD iD) iD).1 hc
     have hb : badPs x.points = true := badPs_of (j := k) (by omega) (by unfold badP; rw [← drop1_getD]; exact hc)
     refine AC.rq (fun σ11 => RegOK.m1 [4] ⟨[(4, I 2)], (.box (σ0 0) (Fuse.av x).cells) :: (.box (σ8 3) (Point.av ((x.points.drop 1).getD k default)).cells) :: (.box (σ9 5) (Point.av (x.points.getD k default)).cells) :: mem⟩ (.cons (s_assign (.int .i64 (2))) .nil) ?_)
     refine AC.ret ?_
     refine blockQ_r ?_
     refine thenQ_r ?_
     refine thenQ_r ?_
     refine blockQ_r ?_
     refine thenQ_r ?_
     exact FinQ.ret (result1 rfl (res_tmp (v := I 2) rfl rfl)) ⟨by refine congrArg I ?_; unfold fuseErr; grind, rfl⟩
    ·have q7 := iF (iO (iO iD iD) iD) hc
     refine AC.skip ?_
     refine blockQ_n ?_
     refine thenQ_n ?_
     refine AC.re (fun σ12 => RegOK.m1 [3, 26, 27, 28] ⟨[(3, .ptr (σ0 0) 0), (26, .slice (((x.points.drop 1)).map Point.av) none), (27, I ((x.points.drop 1).length : Int)), (28, I ((k : Int) + 1))], (.box (σ0 0) (Fuse.av x).cells) :: (.box (σ8 3) (Point.av ((x.points.drop 1).getD k default)).cells) :: (.box (σ9 5) (Point.av (x.points.getD k default)).cells) :: mem⟩ (.cons (s_add (.tmp 28 (I (k : Int))) (.int .i64 (1)) (inK_i64 (by omega))) (.cons (s_move (.tmp 61 (I ((k : Int) + 1)))) .nil)) ?_)
     refine thenQ_n ⟨_, ?_, _, ⟨(k + 1), rfl, ⟨(by omega), (by intro j hj; rcases Decidable.em (j = k) with e | e; (subst e; unfold badP; rw [← drop1_getD]; exact hc); exact hn j (by omega))⟩, rfl⟩, Weak.of [1, 2] (by kernel_rfl) (by kernel_rfl)⟩
     omega
   ·have q8 := iF iD hc
    refine AC.exit ?_
    refine thenQ_x ?_
    refine thenQ_x ?_
    refine blockQ_x ?_
    refine thenQ_n ?_
    refine AC.rq (fun σ13 => RegOK.m1 [4] ⟨[(4, I 0)], (.box (σ0 0) (Fuse.av x).cells) :: .hole :: .hole :: mem⟩ (.cons (s_assign (.int .i64 (0))) .nil) ?_)
    refine AC.ret ?_
    exact FinQ.ret (result1 rfl (res_tmp (v := I 0) rfl rfl)) ⟨by refine congrArg I ?_; unfold fuseErr; (have hb : badPs x.points = false := badPs_not (fun j hj => hn j (by omega))); grind, rfl⟩
theorem F112 (a b : Int) : Pure Try.prog 112 [.agg [I a, I b]] (.bool ((!((decide (0 ≤ a) && decide (a ≤ b)) && decide (b ≤ 1000000))))) := by
 intro mem
 refine Meets.body 1 Try.func112 rfl rfl ?_
 refine AC.rq (fun σ0 => RegOK.m1 [1] ⟨[(1, .ptr (σ0 0) 0)], (.box (σ0 0) [I a, I b]) :: mem⟩ (.cons (s_box 0 (σ0 0) (.tmp 0 (.agg [I a, I b])) rfl) (.cons (s_assign (.bool false)) .nil)) ?_)
 refine AC.rq (fun σ1 => RegOK.m1 [2] ⟨[(2, .bool ((!((decide (0 ≤ a) && decide (a ≤ b)) && decide (b ≤ 1000000)))))], (.box (σ0 0) [I a, I b]) :: mem⟩ (.cons (s_loadA (cs := [I a, I b]) (l := [I a, I b]) 0 tyA26 (.tmp 1 (.ptr (σ0 0) 0)) rfl rfl) (.cons (s_call (r := .bool (((decide (0 ≤ a) && decide (a ≤ b)) && decide (b ≤ 1000000)))) (.func 62) (.cons (.tmp 3 (.agg [I a, I b])) (.cons (.int .i64 (0)) (.cons (.int .i64 (1000000)) .nil))) call62 (F62 (a) (b) (0) (1000000))) (.cons (s_not (.tmp 4 (.bool (((decide (0 ≤ a) && decide (a ≤ b)) && decide (b ≤ 1000000)))))) (.cons (s_assign (.tmp 5 (.bool ((!((decide (0 ≤ a) && decide (a ≤ b)) && decide (b ≤ 1000000))))))) .nil)))) ?_)
 refine AC.ret ?_
 exact FinQ.ret (result1 rfl (res_tmp (v := .bool ((!((decide (0 ≤ a) && decide (a ≤ b)) && decide (b ≤ 1000000))))) rfl rfl)) ⟨by rfl, rfl⟩
theorem F72 (f : Feeder) (i : Nat) (x : Node) (hok : f.ok) (hi : (i : Int) ≤ 9223372036854775807) : Pure Try.prog 72 [Feeder.av f, I (i : Int), Node.av x] (I (nodeErr f i x)) := by
 intro mem
 have ⟨hc1, hc2, hc3, hc4, hc5, hc6⟩ := hok
 refine Meets.body 2 Try.func72 rfl rfl ?_
 refine AC.rq (fun σ0 => RegOK.m1 [1, 3, 5] ⟨[(1, I (i : Int)), (3, .ptr (σ0 0) 0), (5, .ptr (σ0 1) 0)], (.box (σ0 0) (Feeder.av f).cells) :: (.box (σ0 1) (Node.av x).cells) :: mem⟩ (.cons (s_box 0 (σ0 0) (.tmp 0 (Feeder.av f)) rfl) (.cons (s_box 1 (σ0 1) (.tmp 2 (Node.av x)) rfl) (.cons (s_assign (.int .i64 (0))) .nil))) ?_)
 refine AC.seq ?_
 refine AC.rq (fun σ1 => RegOK.m1 [1, 3, 5, 9] ⟨[(1, I (i : Int)), (3, .ptr (σ0 0) 0), (5, .ptr (σ0 1) 0), (9, .bool (decide ((i : Int) = 0)))], (.box (σ0 0) (Feeder.av f).cells) :: (.box (σ0 1) (Node.av x).cells) :: mem⟩ (.cons (s_move (.tmp 1 (I (i : Int)))) (.cons (s_eql (.tmp 8 (I (i : Int))) (.int .i64 (0))) .nil)) ?_)
 refine AC.cend (decide ((i : Int) = 0)) rfl rfl (fun hc => ?_) (fun hc => ?_)
 ·have q1 := iD.1 hc
  refine AC.seq ?_
  refine AC.rq (fun σ2 => RegOK.m1 [14] ⟨[(14, .bool ((!(decide (x.name = x.name) && (decide (x.parent = (-1)) && (decide (x.cable = (-1)) && (decide (x.length = 0) && (decide (x.fuse = (-1)) && (((decide (x.lo0 = 0) && (decide (x.hi0 = 0) && true)) && ((decide (x.lo1 = 0) && (decide (x.hi1 = 0) && true)) && (decide (x.lo2 = 0) && (decide (x.hi2 = 0) && true)))) && true)))))))))], (.box (σ0 0) (Feeder.av f).cells) :: (.box (σ0 1) (Node.av x).cells) :: mem⟩ (.cons (s_loadA (cs := (Node.av x).cells) (l := (Node.av x).cells) 1 tyA47 (.tmp 5 (.ptr (σ0 1) 0)) rfl rfl) (.cons (s_fieldAddr fld47_0 (.tmp 5 (.ptr (σ0 1) 0))) (.cons (s_load1 (cs := (Node.av x).cells) (c := .str (x.name)) 1 tyS9 (.tmp 11 (.ptr (σ0 1) 0)) rfl) (.cons (s_build (l := [.str (x.name), I (-1), I (-1), I 0, I (-1), I 0, I 0, I 0, I 0, I 0, I 0]) zero47 plc47 (.cons rfl (.tmp 12 (.str (x.name))) (.cons rfl (.int .i64 (-1)) (.cons rfl (.int .i64 (-1)) (.cons rfl (.int .i64 (-1)) .nil)))) rfl) (.cons (s_data_neq (.tmp 10 (Node.av x)) (.tmp 13 (.agg [.str (x.name), I (-1), I (-1), I 0, I (-1), I 0, I 0, I 0, I 0, I 0, I 0])) (eqT47 (x.name) (x.parent) (x.cable) (x.length) (x.fuse) (x.lo0) (x.hi0) (x.lo1) (x.hi1) (x.lo2) (x.hi2) (x.name) ((-1)) ((-1)) (0) ((-1)) (0) (0) (0) (0) (0) (0)) rfl rfl rfl) .nil))))) ?_)
  refine AC.cend ((!(decide (x.name = x.name) && (decide (x.parent = (-1)) && (decide (x.cable = (-1)) && (decide (x.length = 0) && (decide (x.fuse = (-1)) && (((decide (x.lo0 = 0) && (decide (x.hi0 = 0) && true)) && ((decide (x.lo1 = 0) && (decide (x.hi1 = 0) && true)) && (decide (x.lo2 = 0) && (decide (x.hi2 = 0) && true)))) && true)))))))) rfl rfl (fun hc => ?_) (fun hc => ?_)
  ·have q2 := (iN (iA iD (iA iD (iA iD (iA iD (iA iD (iA (iA (iA iD (iA iD iB)) (iA (iA iD (iA iD iB)) (iA iD (iA iD iB)))) iB))))))).1 hc
   simp only [eq_self, and_true, true_and] at q2
   refine AC.rq (fun σ3 => RegOK.m1 [6] ⟨[(6, I 2)], (.box (σ0 0) (Feeder.av f).cells) :: (.box (σ0 1) (Node.av x).cells) :: mem⟩ (.cons (s_assign (.int .i64 (2))) .nil) ?_)
   refine AC.ret ?_
   refine thenQ_r ?_
   refine thenQ_r ?_
   exact FinQ.ret (result1 rfl (res_tmp (v := I 2) rfl rfl)) ⟨by refine congrArg I ?_; unfold nodeErr; (try simp only [List.any_cons, List.any_nil, Bool.or_false, Bool.or_eq_true, Bool.not_eq_true', Bool.and_eq_false_iff, decide_eq_false_iff_not, not_or] at *); (repeat' split) <;> first | rfl | (exfalso; omega), rfl⟩
  ·have q3 := iF (iN (iA iD (iA iD (iA iD (iA iD (iA iD (iA (iA (iA iD (iA iD iB)) (iA (iA iD (iA iD iB)) (iA iD (iA iD iB)))) iB))))))) hc
   simp only [eq_self, and_true, true_and] at q3
   refine AC.skip ?_
   refine thenQ_n ?_
   refine AC.rq (fun σ4 => RegOK.m1 [6] ⟨[(6, I 0)], (.box (σ0 0) (Feeder.av f).cells) :: (.box (σ0 1) (Node.av x).cells) :: mem⟩ (.cons (s_assign (.int .i64 (0))) .nil) ?_)
   refine AC.ret ?_
   refine thenQ_r ?_
   exact FinQ.ret (result1 rfl (res_tmp (v := I 0) rfl rfl)) ⟨by refine congrArg I ?_; unfold nodeErr; (try simp only [List.any_cons, List.any_nil, Bool.or_false, Bool.or_eq_true, Bool.not_eq_true', Bool.and_eq_false_iff, decide_eq_false_iff_not, not_or] at *); (repeat' split) <;> first | rfl | (exfalso; omega), rfl⟩
 ·have q4 := iF iD hc
  refine AC.skip ?_
  refine thenQ_n ?_
  refine AC.rq (fun σ5 => RegOK.m1 [1, 3, 5, 7] ⟨[(1, I (i : Int)), (3, .ptr (σ0 0) 0), (5, .ptr (σ0 1) 0), (7, .func 112 [] [])], (.box (σ0 0) (Feeder.av f).cells) :: (.box (σ0 1) (Node.av x).cells) :: mem⟩ (.cons (s_assign (.func 112)) .nil) ?_)
  refine AC.sealed 5 1 (σ0 1) 0 (Node.av x).cells rfl rfl ?_ rfl
  refine AC.bseq ?_
  refine AC.rq (fun σ6 => RegOK.m1 [5, 7, 15] ⟨[(5, .eptr (Node.av x) 0), (7, .func 112 [] []), (15, .bool ((((!(decide (0 ≤ x.parent) && decide (x.parent ≤ ((i : Int) - 1)))) || (!(decide (0 ≤ x.cable) && decide (x.cable ≤ ((f.cables.length : Int) - 1))))) || (!(decide ((-1) ≤ x.fuse) && decide (x.fuse ≤ ((f.fuses.length : Int) - 1)))))))], (.box (σ0 0) (Feeder.av f).cells) :: .hole :: mem⟩ (.cons (s_fieldAddre fld47_1 (.tmp 5 (.eptr (Node.av x) 0))) (.cons (s_load1e (c := I x.parent) tyS3 (.tmp 16 (.eptr (Node.av x) 1)) rfl) (.cons (s_move (.tmp 1 (I (i : Int)))) (.cons (s_sub (.tmp 18 (I (i : Int))) (.int .i64 (1)) (inK_i64 (by omega))) (.cons (s_call (r := .bool ((decide (0 ≤ x.parent) && decide (x.parent ≤ ((i : Int) - 1))))) (.func 51) (.cons (.tmp 17 (I x.parent)) (.cons (.int .i64 (0)) (.cons (.tmp 19 (I ((i : Int) - 1))) .nil))) call51 (F51 (x.parent) (0) (((i : Int) - 1)))) (.cons (s_not (.tmp 20 (.bool ((decide (0 ≤ x.parent) && decide (x.parent ≤ ((i : Int) - 1))))))) (.cons (s_move (.tmp 21 (.bool ((!(decide (0 ≤ x.parent) && decide (x.parent ≤ ((i : Int) - 1)))))))) (.cons (Step.guard _ rfl (.bool ((!(decide (0 ≤ x.parent) && decide (x.parent ≤ ((i : Int) - 1)))))) gF (fun hb => s_fieldAddre fld47_2 (.tmp 5 (.eptr (Node.av x) 0)))) (.cons (Step.guard _ rfl (.bool ((!(decide (0 ≤ x.parent) && decide (x.parent ≤ ((i : Int) - 1)))))) gF (fun hb => s_load1e (c := I x.cable) tyS3 (.tmpC hb 23 (.eptr (Node.av x) 2)) rfl)) (.cons (Step.guard _ rfl (.bool ((!(decide (0 ≤ x.parent) && decide (x.parent ≤ ((i : Int) - 1)))))) gF (fun hb => s_fieldAddr fld28_0 (.tmp 3 (.ptr (σ0 0) 0)))) (.cons (Step.guard _ rfl (.bool ((!(decide (0 ≤ x.parent) && decide (x.parent ≤ ((i : Int) - 1)))))) gF (fun hb => s_load1 (cs := (Feeder.av f).cells) (c := .slice ((f.cables).map Cable.av) none) 0 tyS22 (.tmpC hb 25 (.ptr (σ0 0) 0)) rfl)) (.cons (Step.guard _ rfl (.bool ((!(decide (0 ≤ x.parent) && decide (x.parent ≤ ((i : Int) - 1)))))) gF (fun hb => s_lenM (l := f.cables) slc22 (.tmpC hb 26 (.slice ((f.cables).map Cable.av) none)))) (.cons (Step.guard _ rfl (.bool ((!(decide (0 ≤ x.parent) && decide (x.parent ≤ ((i : Int) - 1)))))) gF (fun hb => s_sub (.tmpC hb 27 (I (f.cables.length : Int))) (.int .i64 (1)) (inK_i64 (by have hq := (iN (iN (iA iD iD))).1 hb; omega)))) (.cons (Step.guard _ rfl (.bool ((!(decide (0 ≤ x.parent) && decide (x.parent ≤ ((i : Int) - 1)))))) gF (fun hb => s_call (r := .bool ((decide (0 ≤ x.cable) && decide (x.cable ≤ ((f.cables.length : Int) - 1))))) (.func 51) (.cons (.tmpC hb 24 (I x.cable)) (.cons (.int .i64 (0)) (.cons (.tmpC hb 28 (I ((f.cables.length : Int) - 1))) .nil))) call51 (F51 (x.cable) (0) (((f.cables.length : Int) - 1))))) (.cons (Step.guard _ rfl (.bool ((!(decide (0 ≤ x.parent) && decide (x.parent ≤ ((i : Int) - 1)))))) gF (fun hb => s_not (.tmpC hb 29 (.bool ((decide (0 ≤ x.cable) && decide (x.cable ≤ ((f.cables.length : Int) - 1)))))))) (.cons (s_or' (e := (!(!(decide (0 ≤ x.parent) && decide (x.parent ≤ ((i : Int) - 1)))))) (q := (!(decide (0 ≤ x.cable) && decide (x.cable ≤ ((f.cables.length : Int) - 1))))) (fun h => (notMk h)) (.tmp 22 (.bool ((!(decide (0 ≤ x.parent) && decide (x.parent ≤ ((i : Int) - 1)))))))) (.cons (s_move (.tmp 31 (.bool (((!(decide (0 ≤ x.parent) && decide (x.parent ≤ ((i : Int) - 1)))) || (!(decide (0 ≤ x.cable) && decide (x.cable ≤ ((f.cables.length : Int) - 1))))))))) (.cons (Step.guard _ rfl (.bool (((!(decide (0 ≤ x.parent) && decide (x.parent ≤ ((i : Int) - 1)))) || (!(decide (0 ≤ x.cable) && decide (x.cable ≤ ((f.cables.length : Int) - 1))))))) gF (fun hb => s_fieldAddre fld47_4 (.tmp 5 (.eptr (Node.av x) 0)))) (.cons (Step.guard _ rfl (.bool (((!(decide (0 ≤ x.parent) && decide (x.parent ≤ ((i : Int) - 1)))) || (!(decide (0 ≤ x.cable) && decide (x.cable ≤ ((f.cables.length : Int) - 1))))))) gF (fun hb => s_load1e (c := I x.fuse) tyS3 (.tmpC hb 33 (.eptr (Node.av x) 4)) rfl)) (.cons (Step.guard _ rfl (.bool (((!(decide (0 ≤ x.parent) && decide (x.parent ≤ ((i : Int) - 1)))) || (!(decide (0 ≤ x.cable) && decide (x.cable ≤ ((f.cables.length : Int) - 1))))))) gF (fun hb => s_fieldAddr fld28_1 (.tmp 3 (.ptr (σ0 0) 0)))) (.cons (Step.guard _ rfl (.bool (((!(decide (0 ≤ x.parent) && decide (x.parent ≤ ((i : Int) - 1)))) || (!(decide (0 ≤ x.cable) && decide (x.cable ≤ ((f.cables.length : Int) - 1))))))) gF (fun hb => s_load1 (cs := (Feeder.av f).cells) (c := .slice ((f.fuses).map Fuse.av) none) 0 tyS23 (.tmpC hb 35 (.ptr (σ0 0) 1)) rfl)) (.cons (Step.guard _ rfl (.bool (((!(decide (0 ≤ x.parent) && decide (x.parent ≤ ((i : Int) - 1)))) || (!(decide (0 ≤ x.cable) && decide (x.cable ≤ ((f.cables.length : Int) - 1))))))) gF (fun hb => s_lenM (l := f.fuses) slc23 (.tmpC hb 36 (.slice ((f.fuses).map Fuse.av) none)))) (.cons (Step.guard _ rfl (.bool (((!(decide (0 ≤ x.parent) && decide (x.parent ≤ ((i : Int) - 1)))) || (!(decide (0 ≤ x.cable) && decide (x.cable ≤ ((f.cables.length : Int) - 1))))))) gF (fun hb => s_sub (.tmpC hb 37 (I (f.fuses.length : Int))) (.int .i64 (1)) (inK_i64 (by have hq := (iN (iO (iN (iA iD iD)) (iN (iA iD iD)))).1 hb; omega)))) (.cons (Step.guard _ rfl (.bool (((!(decide (0 ≤ x.parent) && decide (x.parent ≤ ((i : Int) - 1)))) || (!(decide (0 ≤ x.cable) && decide (x.cable ≤ ((f.cables.length : Int) - 1))))))) gF (fun hb => s_call (r := .bool ((decide ((-1) ≤ x.fuse) && decide (x.fuse ≤ ((f.fuses.length : Int) - 1))))) (.func 51) (.cons (.tmpC hb 34 (I x.fuse)) (.cons (.int .i64 (-1)) (.cons (.tmpC hb 38 (I ((f.fuses.length : Int) - 1))) .nil))) call51 (F51 (x.fuse) ((-1)) (((f.fuses.length : Int) - 1))))) (.cons (Step.guard _ rfl (.bool (((!(decide (0 ≤ x.parent) && decide (x.parent ≤ ((i : Int) - 1)))) || (!(decide (0 ≤ x.cable) && decide (x.cable ≤ ((f.cables.length : Int) - 1))))))) gF (fun hb => s_not (.tmpC hb 39 (.bool ((decide ((-1) ≤ x.fuse) && decide (x.fuse ≤ ((f.fuses.length : Int) - 1)))))))) (.cons (s_or' (e := (!((!(decide (0 ≤ x.parent) && decide (x.parent ≤ ((i : Int) - 1)))) || (!(decide (0 ≤ x.cable) && decide (x.cable ≤ ((f.cables.length : Int) - 1))))))) (q := (!(decide ((-1) ≤ x.fuse) && decide (x.fuse ≤ ((f.fuses.length : Int) - 1))))) (fun h => (notMk h)) (.tmp 32 (.bool (((!(decide (0 ≤ x.parent) && decide (x.parent ≤ ((i : Int) - 1)))) || (!(decide (0 ≤ x.cable) && decide (x.cable ≤ ((f.cables.length : Int) - 1))))))))) (.cons (s_assign (.tmp 41 (.bool ((((!(decide (0 ≤ x.parent) && decide (x.parent ≤ ((i : Int) - 1)))) || (!(decide (0 ≤ x.cable) && decide (x.cable ≤ ((f.cables.length : Int) - 1))))) || (!(decide ((-1) ≤ x.fuse) && decide (x.fuse ≤ ((f.fuses.length : Int) - 1))))))))) .nil))))))))))))))))))))))))))) ?_)
  refine AC.cend ((((!(decide (0 ≤ x.parent) && decide (x.parent ≤ ((i : Int) - 1)))) || (!(decide (0 ≤ x.cable) && decide (x.cable ≤ ((f.cables.length : Int) - 1))))) || (!(decide ((-1) ≤ x.fuse) && decide (x.fuse ≤ ((f.fuses.length : Int) - 1)))))) rfl rfl (fun hc => ?_) (fun hc => ?_)
  ·have q5 := (iO (iO (iN (iA iD iD)) (iN (iA iD iD))) (iN (iA iD iD))).1 hc
   refine AC.rq (fun σ7 => RegOK.m1 [6] ⟨[(6, I 4)], (.box (σ0 0) (Feeder.av f).cells) :: .hole :: mem⟩ (.cons (s_assign (.int .i64 (4))) .nil) ?_)
   refine AC.ret ?_
   refine blockQ_r ?_
   refine thenQ_r ?_
   exact FinQ.ret (result1 rfl (res_tmp (v := I 4) rfl rfl)) ⟨by refine congrArg I ?_; unfold nodeErr; (try simp only [List.any_cons, List.any_nil, Bool.or_false, Bool.or_eq_true, Bool.not_eq_true', Bool.and_eq_false_iff, decide_eq_false_iff_not, not_or] at *); (repeat' split) <;> first | rfl | (exfalso; omega), rfl⟩
  ·have q6 := iF (iO (iO (iN (iA iD iD)) (iN (iA iD iD))) (iN (iA iD iD))) hc
   refine AC.rq (fun σ8 => RegOK.mkN [42] ⟨[(42, .bool (((!(decide (1 ≤ x.length) && decide (x.length ≤ 5000))) || ([(x.lo0, x.hi0), (x.lo1, x.hi1), (x.lo2, x.hi2)].any (fun e => !((decide (0 ≤ e.1) && decide (e.1 ≤ e.2)) && decide (e.2 ≤ 1000000)))))))], (.box (σ0 0) (Feeder.av f).cells) :: .hole :: mem⟩ (.cons (s_fieldAddre fld47_3 (.tmp 5 (.eptr (Node.av x) 0))) (.cons (s_load1e (c := I x.length) tyS3 (.tmp 43 (.eptr (Node.av x) 3)) rfl) (.cons (s_call (r := .bool ((decide (1 ≤ x.length) && decide (x.length ≤ 5000)))) (.func 51) (.cons (.tmp 44 (I x.length)) (.cons (.int .i64 (1)) (.cons (.int .i64 (5000)) .nil))) call51 (F51 (x.length) (1) (5000))) (.cons (s_not (.tmp 45 (.bool ((decide (1 ≤ x.length) && decide (x.length ≤ 5000)))))) (.cons (s_move (.tmp 46 (.bool ((!(decide (1 ≤ x.length) && decide (x.length ≤ 5000))))))) (.cons (Step.guard _ rfl (.bool ((!(decide (1 ≤ x.length) && decide (x.length ≤ 5000))))) gF (fun hb => s_fieldAddre fld47_5 (.tmp 5 (.eptr (Node.av x) 0)))) (.cons (Step.guard _ rfl (.bool ((!(decide (1 ≤ x.length) && decide (x.length ≤ 5000))))) gF (fun hb => s_sliceArrE (es := ([(x.lo0, x.hi0), (x.lo1, x.hi1), (x.lo2, x.hi2)]).map encA) arr45 (.tmpC hb 48 (.eptr (Node.av x) 5)) (by decide) rfl rfl)) (.cons (Step.guard _ rfl (.bool ((!(decide (1 ≤ x.length) && decide (x.length ≤ 5000))))) gF (fun hb => s_move (.tmp 7 (.func 112 [] [])))) (.cons (Step.guard _ rfl (.bool ((!(decide (1 ≤ x.length) && decide (x.length ≤ 5000))))) gF (fun hb => s_callR (r := .bool (([(x.lo0, x.hi0), (x.lo1, x.hi1), (x.lo2, x.hi2)].any (fun e => !((decide (0 ≤ e.1) && decide (e.1 ≤ e.2)) && decide (e.2 ≤ 1000000)))))) (es := ([])) (.func 113) (.cons (.tmpC hb 49 (.slice (([(x.lo0, x.hi0), (x.lo1, x.hi1), (x.lo2, x.hi2)]).map encA) none)) (.cons (.tmpC hb 50 (.func 112 [] [])) .nil)) call113 (F113 ([(x.lo0, x.hi0), (x.lo1, x.hi1), (x.lo2, x.hi2)]) 112 [] ([]) (fun e => !((decide (0 ≤ e.1) && decide (e.1 ≤ e.2)) && decide (e.2 ≤ 1000000))) call112 (fun x _ => (F112 x.1 x.2).effR) (by have hq := (iN (iN (iA iD iD))).1 hb; simp)))) (.cons (s_or' (e := (!(!(decide (1 ≤ x.length) && decide (x.length ≤ 5000))))) (q := ([(x.lo0, x.hi0), (x.lo1, x.hi1), (x.lo2, x.hi2)].any (fun e => !((decide (0 ≤ e.1) && decide (e.1 ≤ e.2)) && decide (e.2 ≤ 1000000))))) (fun h => (notMk h)) (.tmp 47 (.bool ((!(decide (1 ≤ x.length) && decide (x.length ≤ 5000))))))) (.cons (s_assign (.tmp 52 (.bool (((!(decide (1 ≤ x.length) && decide (x.length ≤ 5000))) || ([(x.lo0, x.hi0), (x.lo1, x.hi1), (x.lo2, x.hi2)].any (fun e => !((decide (0 ≤ e.1) && decide (e.1 ≤ e.2)) && decide (e.2 ≤ 1000000))))))))) .nil))))))))))) (by kernel_rfl) (by kernel_rfl) (by kernel_rfl) ⟨trivial, trivial, trivial, trivial, trivial, trivial, trivial, trivial, (fun lq => (Has.nil _)), trivial, trivial, trivial⟩ (by kernel_rfl) (by kernel_rfl) (by kernel_rfl) ?_)
   refine AC.cend (((!(decide (1 ≤ x.length) && decide (x.length ≤ 5000))) || ([(x.lo0, x.hi0), (x.lo1, x.hi1), (x.lo2, x.hi2)].any (fun e => !((decide (0 ≤ e.1) && decide (e.1 ≤ e.2)) && decide (e.2 ≤ 1000000)))))) rfl rfl (fun hc => ?_) (fun hc => ?_)
   ·have q7 := (iO (iN (iA iD iD)) iB).1 hc
    refine AC.rq (fun σ9 => RegOK.m1 [6] ⟨[(6, I 7)], (.box (σ0 0) (Feeder.av f).cells) :: .hole :: mem⟩ (.cons (s_assign (.int .i64 (7))) .nil) ?_)
    refine AC.ret ?_
    refine blockQ_r ?_
    refine thenQ_r ?_
    exact FinQ.ret (result1 rfl (res_tmp (v := I 7) rfl rfl)) ⟨by refine congrArg I ?_; unfold nodeErr; (try simp only [List.any_cons, List.any_nil, Bool.or_false, Bool.or_eq_true, Bool.not_eq_true', Bool.and_eq_false_iff, decide_eq_false_iff_not, not_or] at *); (repeat' split) <;> first | rfl | (exfalso; omega), rfl⟩
   ·have q8 := iF (iO (iN (iA iD iD)) iB) hc
    refine AC.skip ?_
    refine blockQ_n ?_
    refine thenQ_n ?_
    refine AC.rq (fun σ10 => RegOK.m1 [6] ⟨[(6, I 0)], (.box (σ0 0) (Feeder.av f).cells) :: .hole :: mem⟩ (.cons (s_assign (.int .i64 (0))) .nil) ?_)
    refine AC.ret ?_
    exact FinQ.ret (result1 rfl (res_tmp (v := I 0) rfl rfl)) ⟨by refine congrArg I ?_; unfold nodeErr; (try simp only [List.any_cons, List.any_nil, Bool.or_false, Bool.or_eq_true, Bool.not_eq_true', Bool.and_eq_false_iff, decide_eq_false_iff_not, not_or] at *); (repeat' split) <;> first | rfl | (exfalso; omega), rfl⟩
theorem F71 (i : Nat) (x : Node) (f : Feeder) (s0 : Nat) (hok : f.ok) (hi : (i : Int) ≤ 9223372036854775807) : EffR Try.prog 71 [I (i : Int), Node.av x, .ptr s0 0] [Ent.box s0 (Feeder.av f).cells] (.int .i64 (nodeErr f i x)) := by
 intro mem hes
 obtain ⟨p0, hm0⟩ := List.mem_iff_getElem?.1 (hes (Ent.box s0 (Feeder.av f).cells) (by simp))
 refine Meets.body 1 Try.func71 rfl rfl ?_
 refine AC.rq (fun σ0 => RegOK.m1 [0, 2, 4] ⟨[(0, I (i : Int)), (2, .ptr s0 0), (4, .ptr (σ0 0) 0)], (.box (σ0 0) (Node.av x).cells) :: mem⟩ (.cons (s_box 0 (σ0 0) (.tmp 1 (Node.av x)) rfl) (.cons (s_assign (.int .i64 (0))) .nil)) ?_)
 refine AC.rq (fun σ1 => RegOK.mk [5] ⟨[(5, I (nodeErr f i x))], (.box (σ0 0) (Node.av x).cells) :: mem⟩ (.cons (s_loadA (cs := (Feeder.av f).cells) (l := (Feeder.av f).cells) (p0 + 1) tyA28 (.tmp 2 (.ptr s0 0)) rfl rfl) (.cons (s_move (.tmp 0 (I (i : Int)))) (.cons (s_loadA (cs := (Node.av x).cells) (l := (Node.av x).cells) 0 tyA47 (.tmp 4 (.ptr (σ0 0) 0)) rfl rfl) (.cons (s_call (r := I (nodeErr f i x)) (.func 72) (.cons (.tmp 6 (Feeder.av f)) (.cons (.tmp 7 (I (i : Int))) (.cons (.tmp 8 (Node.av x)) .nil))) call72 (F72 (f) (i) (x) (by exact hok) (by omega))) (.cons (s_assign (.tmp 9 (I (nodeErr f i x)))) .nil))))) (by kernel_rfl) (show _ = _ from cg1 (fun z0 => [z0, some (Ent.box (σ0 0) (Node.av x).cells)]) hm0) (by kernel_rfl) (by kernel_rfl) (by kernel_rfl) (by kernel_rfl) (by kernel_rfl) ?_)
 refine AC.ret ?_
 exact FinQ.ret (result1 rfl (res_tmp (v := I (nodeErr f i x)) rfl rfl)) ⟨by rfl, rfl⟩
theorem F63 (l : List Cable) (hl : (l.length : Int) ≤ 9223372036854775807) (hok : ∀ x : Cable, x ∈ l → x.ok) : Pure Try.prog 63 [.slice ((l).map Cable.av) none, .func 64 [] [], .func 65 [] []] (.tuple [I (cabsE l).1, I (cabsE l).2]) := by
 intro mem
 refine Meets.body 2 Try.func63 rfl rfl ?_
 refine AC.rq (fun σ0 => RegOK.m1 [0, 2, 4] ⟨[(0, .slice ((l).map Cable.av) none), (2, .func 65 [] []), (4, .ptr (σ0 0) 0)], (.box (σ0 0) [.func 64 [] []]) :: .hole :: mem⟩ (.cons (s_box 0 (σ0 0) (.tmp 1 (.func 64 [] [])) rfl) (.cons (s_assign (.int .i64 (0))) (.cons (s_assign (.int .i64 (0))) .nil))) ?_)
 refine AC.seq ?_
 refine AC.rq (fun σ1 => RegOK.m1 [0, 2, 4, 12, 13, 14] ⟨[(0, .slice ((l).map Cable.av) none), (2, .func 65 [] []), (4, .ptr (σ0 0) 0), (12, .slice ((l).map Cable.av) none), (13, I (l.length : Int)), (14, I 0)], (.box (σ0 0) [.func 64 [] []]) :: .hole :: mem⟩ (.cons (s_move (.tmp 0 (.slice ((l).map Cable.av) none))) (.cons (s_lenM (l := l) slc22 (.tmp 12 (.slice ((l).map Cable.av) none))) (.cons (s_move (.int .i64 (0))) .nil))) ?_)
 refine AC.block ?_
 refine AC.loopW (fun mz T => ∃ (k : Nat), mz = l.length - k ∧ ((k ≤ l.length) ∧ (∀ j : Nat, j < k → (cabE l) j = 0)) ∧ T = ⟨[(0, .slice ((l).map Cable.av) none), (2, .func 65 [] []), (4, .ptr (σ0 0) 0), (12, .slice ((l).map Cable.av) none), (13, I (l.length : Int)), (14, I (k : Int))], (.box (σ0 0) [.func 64 [] []]) :: .hole :: mem⟩) _ ⟨[(0, .slice ((l).map Cable.av) none), (2, .func 65 [] []), (4, .ptr (σ0 0) 0), (12, .slice ((l).map Cable.av) none), (13, I (l.length : Int)), (14, I ((0) : Int))], (.box (σ0 0) [.func 64 [] []]) :: .hole :: mem⟩ ⟨0, rfl, ⟨(by omega), (by intro j hj; omega)⟩, rfl⟩ (Weak.of [] (by kernel_rfl) (by kernel_rfl)) ?_ Fr.plain
 rintro _ _ ⟨k, rfl, ⟨hk, hn⟩, rfl⟩
 refine AC.rq (fun σ2 => RegOK.m1 [0, 2, 4, 12, 13, 14, 15] ⟨[(0, .slice ((l).map Cable.av) none), (2, .func 65 [] []), (4, .ptr (σ0 0) 0), (12, .slice ((l).map Cable.av) none), (13, I (l.length : Int)), (14, I (k : Int)), (15, .bool (decide ((k : Int) < (l.length : Int))))], (.box (σ0 0) [.func 64 [] []]) :: .hole :: mem⟩ (.cons (s_lss (.tmp 14 (I (k : Int))) (.tmp 13 (I (l.length : Int)))) .nil) ?_)
 refine AC.cseq (decide ((k : Int) < (l.length : Int))) rfl rfl (fun hc => ?_) (fun hc => ?_)
 ·have q1 := iD.1 hc
  refine AC.skip ?_
  refine thenQ_n ?_
  refine AC.bseq ?_
  refine AC.rq (fun σ3 => RegOK.m1 [0, 2, 4, 8, 9, 12, 13, 14] ⟨[(0, .slice ((l).map Cable.av) none), (2, .func 65 [] []), (4, .ptr (σ0 0) 0), (8, I (k : Int)), (9, .ptr (σ3 3) 0), (12, .slice ((l).map Cable.av) none), (13, I (l.length : Int)), (14, I (k : Int))], (.box (σ0 0) [.func 64 [] []]) :: (.box (σ3 3) (Cable.av (l.getD k default)).cells) :: mem⟩ (.cons (s_move (.tmp 14 (I (k : Int)))) (.cons (s_ixM (l := l) (f := Cable.av) (default) slc22 (.tmp 12 (.slice ((l).map Cable.av) none)) (.tmp 14 (I (k : Int))) (by omega) rfl) (.cons (s_loadAe (l := (Cable.av (l.getD k default)).cells) tyA71 (.tmp 17 (.eptr (Cable.av (l.getD k default)) 0)) rfl rfl) (.cons (s_alloc 1 (σ3 3) zero71) (.cons (s_assign (.tmp 16 (I (k : Int)))) (.cons (s_store (cs := [.str (⟨#[]⟩), I 0, I 0, I 0, I 0, I 0]) 1 sz71 (.tmp 9 (.ptr (σ3 3) 0)) (.tmp 18 (Cable.av (l.getD k default))) rfl rfl rfl (Nat.le_of_ble_eq_true rfl)) .nil)))))) ?_)
  refine AC.rq (fun σ4 => RegOK.m1 [0, 2, 4, 8, 9, 10, 12, 13, 14] ⟨[(0, .slice ((l).map Cable.av) none), (2, .func 65 [] []), (4, .ptr (σ0 0) 0), (8, I (k : Int)), (9, .ptr (σ3 3) 0), (10, .func 103 [] [.ptr (σ0 0) 0, .ptr (σ3 3) 0]), (12, .slice ((l).map Cable.av) none), (13, I (l.length : Int)), (14, I (k : Int))], (.box (σ0 0) [.func 64 [] []]) :: (.box (σ3 3) (Cable.av (l.getD k default)).cells) :: mem⟩ (.cons (s_makeFunc .nil (.cons (.tmp 4 (.ptr (σ0 0) 0)) (.cons (.tmp 9 (.ptr (σ3 3) 0)) .nil))) (.cons (s_assign (.tmp 19 (.func 103 [] [.ptr (σ0 0) 0, .ptr (σ3 3) 0]))) .nil)) ?_)
  refine AC.bseq ?_
  refine AC.rq (fun σ5 => RegOK.m1 [0, 2, 4, 8, 9, 10, 12, 13, 14, 20] ⟨[(0, .slice ((l).map Cable.av) none), (2, .func 65 [] []), (4, .ptr (σ0 0) 0), (8, I (k : Int)), (9, .ptr (σ3 3) 0), (10, .func 103 [] [.ptr (σ0 0) 0, .ptr (σ3 3) 0]), (12, .slice ((l).map Cable.av) none), (13, I (l.length : Int)), (14, I (k : Int)), (20, .bool ((!nameOK (l.getD k default).name)))], (.box (σ0 0) [.func 64 [] []]) :: (.box (σ3 3) (Cable.av (l.getD k default)).cells) :: mem⟩ (.cons (s_load1 (cs := [.func 64 [] []]) (c := .func 64 [] []) 0 tyS113 (.tmp 4 (.ptr (σ0 0) 0)) rfl) (.cons (s_loadA (cs := (Cable.av (l.getD k default)).cells) (l := (Cable.av (l.getD k default)).cells) 1 tyA71 (.tmp 9 (.ptr (σ3 3) 0)) rfl rfl) (.cons (s_call (r := .str ((l.getD k default).name)) (.tmp 21 (.func 64 [] [])) (.cons (.tmp 22 (Cable.av (l.getD k default))) .nil) call64 (F64 ((l.getD k default)))) (.cons (s_call (r := .bool (nameOK (l.getD k default).name)) (.func 104) (.cons (.tmp 23 (.str ((l.getD k default).name))) .nil) call104 (F104 ((l.getD k default).name) (by exact (hok _ (getD_mem (by omega)))))) (.cons (s_not (.tmp 24 (.bool (nameOK (l.getD k default).name)))) (.cons (s_assign (.tmp 25 (.bool ((!nameOK (l.getD k default).name))))) .nil)))))) ?_)
  refine AC.cend ((!nameOK (l.getD k default).name)) rfl rfl (fun hc => ?_) (fun hc => ?_)
  ·have q2 := (iN iB).1 hc
   refine AC.rq (fun σ6 => RegOK.m1 [6, 7] ⟨[(6, I (k : Int)), (7, I 6)], (.box (σ0 0) [.func 64 [] []]) :: (.box (σ3 3) (Cable.av (l.getD k default)).cells) :: mem⟩ (.cons (s_move (.tmp 8 (I (k : Int)))) (.cons (s_assign (.tmp 26 (I (k : Int)))) (.cons (s_assign (.int .i64 (6))) .nil))) ?_)
   refine AC.ret ?_
   refine blockQ_r ?_
   refine thenQ_r ?_
   refine blockQ_r ?_
   refine thenQ_r ?_
   refine thenQ_r ?_
   refine blockQ_r ?_
   refine thenQ_r ?_
   exact FinQ.ret (result2 rfl (res_tmp (v := I (k : Int)) rfl rfl) (res_tmp (v := I 6) rfl rfl)) ⟨by (have he : (cabE l) k = 6 := by unfold cabE errOf; grind); (have hF := firstErr_found (e := (cabE l)) (k := k) (by rw [he]; omega) l.length 0 (by omega) (by omega) (fun j _ hj => hn j hj)); show _ = AV.tuple [I (firstErr ((cabE l)) l.length 0).1, I (firstErr ((cabE l)) l.length 0).2]; rw [hF, he], rfl⟩
  ·have q3 := iF (iN iB) hc
   refine AC.rq (fun σ7 => RegOK.mkN [0, 2, 4, 8, 9, 12, 13, 14, 27] ⟨[(0, .slice ((l).map Cable.av) none), (2, .func 65 [] []), (4, .ptr (σ0 0) 0), (8, I (k : Int)), (9, .ptr (σ3 3) 0), (12, .slice ((l).map Cable.av) none), (13, I (l.length : Int)), (14, I (k : Int)), (27, .bool (((l.take k).any (fun y => decide (y.name = (l.getD k default).name)))))], (.box (σ0 0) [.func 64 [] []]) :: (.box (σ3 3) (Cable.av (l.getD k default)).cells) :: mem⟩ (.cons (s_move (.tmp 0 (.slice ((l).map Cable.av) none))) (.cons (s_move (.tmp 8 (I (k : Int)))) (.cons (s_toM (l := l) (f := Cable.av) slc22 (.tmp 28 (.slice ((l).map Cable.av) none)) (.tmp 29 (I (k : Int))) (by omega) (fun _ => rfl)) (.cons (s_move (.tmp 10 (.func 103 [] [.ptr (σ0 0) 0, .ptr (σ3 3) 0]))) (.cons (s_callR (r := .bool (((l.take k).any (fun y => decide (y.name = (l.getD k default).name))))) (es := ([Ent.box (σ0 0) [.func 64 [] []], Ent.box (σ3 3) (Cable.av (l.getD k default)).cells])) (.func 105) (.cons (.tmp 30 (.slice (((l.take k)).map Cable.av) none)) (.cons (.tmp 31 (.func 103 [] [.ptr (σ0 0) 0, .ptr (σ3 3) 0])) .nil)) call105 (F105 ((l.take k)) 103 [.ptr (σ0 0) 0, .ptr (σ3 3) 0] ([Ent.box (σ0 0) [.func 64 [] []], Ent.box (σ3 3) (Cable.av (l.getD k default)).cells]) (fun y => decide (y.name = (l.getD k default).name)) call103 (fun y _ => F103 y (l.getD k default) (σ0 0) (σ3 3)) (by rw [List.length_take]; omega))) (.cons (s_assign (.tmp 32 (.bool (((l.take k).any (fun y => decide (y.name = (l.getD k default).name))))))) .nil)))))) (by kernel_rfl) (by kernel_rfl) (by kernel_rfl) ⟨trivial, trivial, trivial, trivial, (fun lq => (Has.cons (List.mem_of_getElem? (i := 0) rfl) (Has.cons (List.mem_of_getElem? (i := 1) rfl) (Has.nil _)))), trivial, trivial⟩ (by kernel_rfl) (by kernel_rfl) (by kernel_rfl) ?_)
   refine AC.cend (((l.take k).any (fun y => decide (y.name = (l.getD k default).name)))) rfl rfl (fun hc => ?_) (fun hc => ?_)
   ·have q4 := iB.1 hc
    refine AC.rq (fun σ8 => RegOK.m1 [6, 7] ⟨[(6, I (k : Int)), (7, I 5)], (.box (σ0 0) [.func 64 [] []]) :: (.box (σ3 3) (Cable.av (l.getD k default)).cells) :: mem⟩ (.cons (s_move (.tmp 8 (I (k : Int)))) (.cons (s_assign (.tmp 33 (I (k : Int)))) (.cons (s_assign (.int .i64 (5))) .nil))) ?_)
    refine AC.ret ?_
    refine blockQ_r ?_
    refine thenQ_r ?_
    refine blockQ_r ?_
    refine thenQ_r ?_
    refine thenQ_r ?_
    refine blockQ_r ?_
    refine thenQ_r ?_
    exact FinQ.ret (result2 rfl (res_tmp (v := I (k : Int)) rfl rfl) (res_tmp (v := I 5) rfl rfl)) ⟨by (have he : (cabE l) k = 5 := by unfold cabE errOf; grind); (have hF := firstErr_found (e := (cabE l)) (k := k) (by rw [he]; omega) l.length 0 (by omega) (by omega) (fun j _ hj => hn j hj)); show _ = AV.tuple [I (firstErr ((cabE l)) l.length 0).1, I (firstErr ((cabE l)) l.length 0).2]; rw [hF, he], rfl⟩
   ·have q5 := iF iB hc
    refine AC.skip ?_
    refine blockQ_n ?_
    refine thenQ_n ?_
    refine AC.rq (fun σ9 => RegOK.m1 [0, 2, 4, 8, 11, 12, 13, 14] ⟨[(0, .slice ((l).map Cable.av) none), (2, .func 65 [] []), (4, .ptr (σ0 0) 0), (8, I (k : Int)), (11, I (cableErr (l.getD k default))), (12, .slice ((l).map Cable.av) none), (13, I (l.length : Int)), (14, I (k : Int))], (.box (σ0 0) [.func 64 [] []]) :: (.box (σ3 3) (Cable.av (l.getD k default)).cells) :: mem⟩ (.cons (s_move (.tmp 2 (.func 65 [] []))) (.cons (s_move (.tmp 8 (I (k : Int)))) (.cons (s_loadA (cs := (Cable.av (l.getD k default)).cells) (l := (Cable.av (l.getD k default)).cells) 1 tyA71 (.tmp 9 (.ptr (σ3 3) 0)) rfl rfl) (.cons (s_call (r := I (cableErr (l.getD k default))) (.tmp 34 (.func 65 [] [])) (.cons (.tmp 35 (I (k : Int))) (.cons (.tmp 36 (Cable.av (l.getD k default))) .nil)) call65 (F65 ((k : Int)) ((l.getD k default)))) (.cons (s_assign (.tmp 37 (I (cableErr (l.getD k default))))) .nil))))) ?_)
    refine AC.rq (fun σ10 => RegOK.m1 [0, 2, 4, 8, 11, 12, 13, 14, 39] ⟨[(0, .slice ((l).map Cable.av) none), (2, .func 65 [] []), (4, .ptr (σ0 0) 0), (8, I (k : Int)), (11, I (cableErr (l.getD k default))), (12, .slice ((l).map Cable.av) none), (13, I (l.length : Int)), (14, I (k : Int)), (39, .bool (decide ((cableErr (l.getD k default)) ≠ 0)))], (.box (σ0 0) [.func 64 [] []]) :: (.box (σ3 3) (Cable.av (l.getD k default)).cells) :: mem⟩ (.cons (s_move (.tmp 11 (I (cableErr (l.getD k default))))) (.cons (s_neq (.tmp 38 (I (cableErr (l.getD k default)))) (.int .i64 (0))) .nil)) ?_)
    refine AC.cend (decide ((cableErr (l.getD k default)) ≠ 0)) rfl rfl (fun hc => ?_) (fun hc => ?_)
    ·have q6 := iD.1 hc
     refine AC.rq (fun σ11 => RegOK.m1 [6, 7] ⟨[(6, I (k : Int)), (7, I (cableErr (l.getD k default)))], (.box (σ0 0) [.func 64 [] []]) :: (.box (σ3 3) (Cable.av (l.getD k default)).cells) :: mem⟩ (.cons (s_move (.tmp 8 (I (k : Int)))) (.cons (s_move (.tmp 11 (I (cableErr (l.getD k default))))) (.cons (s_assign (.tmp 40 (I (k : Int)))) (.cons (s_assign (.tmp 41 (I (cableErr (l.getD k default))))) .nil)))) ?_)
     refine AC.ret ?_
     refine blockQ_r ?_
     refine thenQ_r ?_
     refine thenQ_r ?_
     refine blockQ_r ?_
     refine thenQ_r ?_
     exact FinQ.ret (result2 rfl (res_tmp (v := I (k : Int)) rfl rfl) (res_tmp (v := I (cableErr (l.getD k default))) rfl rfl)) ⟨by (have he : (cabE l) k = (cableErr (l.getD k default)) := by unfold cabE errOf; grind); (have hF := firstErr_found (e := (cabE l)) (k := k) (by rw [he]; omega) l.length 0 (by omega) (by omega) (fun j _ hj => hn j hj)); show _ = AV.tuple [I (firstErr ((cabE l)) l.length 0).1, I (firstErr ((cabE l)) l.length 0).2]; rw [hF, he], rfl⟩
    ·have q7 := iF iD hc
     refine AC.skip ?_
     refine blockQ_n ?_
     refine thenQ_n ?_
     refine AC.re (fun σ12 => RegOK.m1 [0, 2, 4, 12, 13, 14] ⟨[(0, .slice ((l).map Cable.av) none), (2, .func 65 [] []), (4, .ptr (σ0 0) 0), (12, .slice ((l).map Cable.av) none), (13, I (l.length : Int)), (14, I ((k : Int) + 1))], (.box (σ0 0) [.func 64 [] []]) :: (.box (σ3 3) (Cable.av (l.getD k default)).cells) :: mem⟩ (.cons (s_add (.tmp 14 (I (k : Int))) (.int .i64 (1)) (inK_i64 (by omega))) (.cons (s_move (.tmp 42 (I ((k : Int) + 1)))) .nil)) ?_)
     refine thenQ_n ⟨_, ?_, _, ⟨(k + 1), rfl, ⟨(by omega), (by intro j hj; rcases Decidable.em (j = k) with h | h; (subst h; unfold cabE errOf; grind); exact hn j (by omega))⟩, rfl⟩, Weak.of [1] (by kernel_rfl) (by kernel_rfl)⟩
     omega
 ·have q8 := iF iD hc
  refine AC.exit ?_
  refine thenQ_x ?_
  refine thenQ_x ?_
  refine blockQ_x ?_
  refine thenQ_n ?_
  refine AC.rq (fun σ13 => RegOK.m1 [6, 7] ⟨[(6, I 0), (7, I 0)], (.box (σ0 0) [.func 64 [] []]) :: .hole :: mem⟩ (.cons (s_assign (.int .i64 (0))) (.cons (s_assign (.int .i64 (0))) .nil)) ?_)
  refine AC.ret ?_
  exact FinQ.ret (result2 rfl (res_tmp (v := I 0) rfl rfl) (res_tmp (v := I 0) rfl rfl)) ⟨by (have hF := firstErr_none (e := (cabE l)) l.length 0 (fun j _ hj => hn j (by omega))); show _ = AV.tuple [I (firstErr ((cabE l)) l.length 0).1, I (firstErr ((cabE l)) l.length 0).2]; rw [hF], rfl⟩
theorem F66 (l : List Fuse) (hl : (l.length : Int) ≤ 9223372036854775807) (hok : ∀ x : Fuse, x ∈ l → x.ok) : Pure Try.prog 66 [.slice ((l).map Fuse.av) none, .func 67 [] [], .func 68 [] []] (.tuple [I (fussE l).1, I (fussE l).2]) := by
 intro mem
 refine Meets.body 2 Try.func66 rfl rfl ?_
 refine AC.rq (fun σ0 => RegOK.m1 [0, 2, 4] ⟨[(0, .slice ((l).map Fuse.av) none), (2, .func 68 [] []), (4, .ptr (σ0 0) 0)], (.box (σ0 0) [.func 67 [] []]) :: .hole :: mem⟩ (.cons (s_box 0 (σ0 0) (.tmp 1 (.func 67 [] [])) rfl) (.cons (s_assign (.int .i64 (0))) (.cons (s_assign (.int .i64 (0))) .nil))) ?_)
 refine AC.seq ?_
 refine AC.rq (fun σ1 => RegOK.m1 [0, 2, 4, 12, 13, 14] ⟨[(0, .slice ((l).map Fuse.av) none), (2, .func 68 [] []), (4, .ptr (σ0 0) 0), (12, .slice ((l).map Fuse.av) none), (13, I (l.length : Int)), (14, I 0)], (.box (σ0 0) [.func 67 [] []]) :: .hole :: mem⟩ (.cons (s_move (.tmp 0 (.slice ((l).map Fuse.av) none))) (.cons (s_lenM (l := l) slc23 (.tmp 12 (.slice ((l).map Fuse.av) none))) (.cons (s_move (.int .i64 (0))) .nil))) ?_)
 refine AC.block ?_
 refine AC.loopW (fun mz T => ∃ (k : Nat), mz = l.length - k ∧ ((k ≤ l.length) ∧ (∀ j : Nat, j < k → (fusE l) j = 0)) ∧ T = ⟨[(0, .slice ((l).map Fuse.av) none), (2, .func 68 [] []), (4, .ptr (σ0 0) 0), (12, .slice ((l).map Fuse.av) none), (13, I (l.length : Int)), (14, I (k : Int))], (.box (σ0 0) [.func 67 [] []]) :: .hole :: mem⟩) _ ⟨[(0, .slice ((l).map Fuse.av) none), (2, .func 68 [] []), (4, .ptr (σ0 0) 0), (12, .slice ((l).map Fuse.av) none), (13, I (l.length : Int)), (14, I ((0) : Int))], (.box (σ0 0) [.func 67 [] []]) :: .hole :: mem⟩ ⟨0, rfl, ⟨(by omega), (by intro j hj; omega)⟩, rfl⟩ (Weak.of [] (by kernel_rfl) (by kernel_rfl)) ?_ Fr.plain
 rintro _ _ ⟨k, rfl, ⟨hk, hn⟩, rfl⟩
 refine AC.rq (fun σ2 => RegOK.m1 [0, 2, 4, 12, 13, 14, 15] ⟨[(0, .slice ((l).map Fuse.av) none), (2, .func 68 [] []), (4, .ptr (σ0 0) 0), (12, .slice ((l).map Fuse.av) none), (13, I (l.length : Int)), (14, I (k : Int)), (15, .bool (decide ((k : Int) < (l.length : Int))))], (.box (σ0 0) [.func 67 [] []]) :: .hole :: mem⟩ (.cons (s_lss (.tmp 14 (I (k : Int))) (.tmp 13 (I (l.length : Int)))) .nil) ?_)
 refine AC.cseq (decide ((k : Int) < (l.length : Int))) rfl rfl (fun hc => ?_) (fun hc => ?_)
 ·have q1 := iD.1 hc
  refine AC.skip ?_
  refine thenQ_n ?_
  refine AC.bseq ?_
  refine AC.rq (fun σ3 => RegOK.m1 [0, 2, 4, 8, 9, 12, 13, 14] ⟨[(0, .slice ((l).map Fuse.av) none), (2, .func 68 [] []), (4, .ptr (σ0 0) 0), (8, I (k : Int)), (9, .ptr (σ3 3) 0), (12, .slice ((l).map Fuse.av) none), (13, I (l.length : Int)), (14, I (k : Int))], (.box (σ0 0) [.func 67 [] []]) :: (.box (σ3 3) (Fuse.av (l.getD k default)).cells) :: mem⟩ (.cons (s_move (.tmp 14 (I (k : Int)))) (.cons (s_ixM (l := l) (f := Fuse.av) (default) slc23 (.tmp 12 (.slice ((l).map Fuse.av) none)) (.tmp 14 (I (k : Int))) (by omega) rfl) (.cons (s_loadAe (l := (Fuse.av (l.getD k default)).cells) tyA94 (.tmp 17 (.eptr (Fuse.av (l.getD k default)) 0)) rfl rfl) (.cons (s_alloc 1 (σ3 3) zero94) (.cons (s_assign (.tmp 16 (I (k : Int)))) (.cons (s_store (cs := [.str (⟨#[]⟩), I 0, .nils]) 1 sz94 (.tmp 9 (.ptr (σ3 3) 0)) (.tmp 18 (Fuse.av (l.getD k default))) rfl rfl rfl (Nat.le_of_ble_eq_true rfl)) .nil)))))) ?_)
  refine AC.rq (fun σ4 => RegOK.m1 [0, 2, 4, 8, 9, 10, 12, 13, 14] ⟨[(0, .slice ((l).map Fuse.av) none), (2, .func 68 [] []), (4, .ptr (σ0 0) 0), (8, I (k : Int)), (9, .ptr (σ3 3) 0), (10, .func 106 [] [.ptr (σ0 0) 0, .ptr (σ3 3) 0]), (12, .slice ((l).map Fuse.av) none), (13, I (l.length : Int)), (14, I (k : Int))], (.box (σ0 0) [.func 67 [] []]) :: (.box (σ3 3) (Fuse.av (l.getD k default)).cells) :: mem⟩ (.cons (s_makeFunc .nil (.cons (.tmp 4 (.ptr (σ0 0) 0)) (.cons (.tmp 9 (.ptr (σ3 3) 0)) .nil))) (.cons (s_assign (.tmp 19 (.func 106 [] [.ptr (σ0 0) 0, .ptr (σ3 3) 0]))) .nil)) ?_)
  refine AC.bseq ?_
  refine AC.rq (fun σ5 => RegOK.m1 [0, 2, 4, 8, 9, 10, 12, 13, 14, 20] ⟨[(0, .slice ((l).map Fuse.av) none), (2, .func 68 [] []), (4, .ptr (σ0 0) 0), (8, I (k : Int)), (9, .ptr (σ3 3) 0), (10, .func 106 [] [.ptr (σ0 0) 0, .ptr (σ3 3) 0]), (12, .slice ((l).map Fuse.av) none), (13, I (l.length : Int)), (14, I (k : Int)), (20, .bool ((!nameOK (l.getD k default).name)))], (.box (σ0 0) [.func 67 [] []]) :: (.box (σ3 3) (Fuse.av (l.getD k default)).cells) :: mem⟩ (.cons (s_load1 (cs := [.func 67 [] []]) (c := .func 67 [] []) 0 tyS116 (.tmp 4 (.ptr (σ0 0) 0)) rfl) (.cons (s_loadA (cs := (Fuse.av (l.getD k default)).cells) (l := (Fuse.av (l.getD k default)).cells) 1 tyA94 (.tmp 9 (.ptr (σ3 3) 0)) rfl rfl) (.cons (s_call (r := .str ((l.getD k default).name)) (.tmp 21 (.func 67 [] [])) (.cons (.tmp 22 (Fuse.av (l.getD k default))) .nil) call67 (F67 ((l.getD k default)))) (.cons (s_call (r := .bool (nameOK (l.getD k default).name)) (.func 104) (.cons (.tmp 23 (.str ((l.getD k default).name))) .nil) call104 (F104 ((l.getD k default).name) (by exact (hok _ (getD_mem (by omega))).1))) (.cons (s_not (.tmp 24 (.bool (nameOK (l.getD k default).name)))) (.cons (s_assign (.tmp 25 (.bool ((!nameOK (l.getD k default).name))))) .nil)))))) ?_)
  refine AC.cend ((!nameOK (l.getD k default).name)) rfl rfl (fun hc => ?_) (fun hc => ?_)
  ·have q2 := (iN iB).1 hc
   refine AC.rq (fun σ6 => RegOK.m1 [6, 7] ⟨[(6, I (k : Int)), (7, I 6)], (.box (σ0 0) [.func 67 [] []]) :: (.box (σ3 3) (Fuse.av (l.getD k default)).cells) :: mem⟩ (.cons (s_move (.tmp 8 (I (k : Int)))) (.cons (s_assign (.tmp 26 (I (k : Int)))) (.cons (s_assign (.int .i64 (6))) .nil))) ?_)
   refine AC.ret ?_
   refine blockQ_r ?_
   refine thenQ_r ?_
   refine blockQ_r ?_
   refine thenQ_r ?_
   refine thenQ_r ?_
   refine blockQ_r ?_
   refine thenQ_r ?_
   exact FinQ.ret (result2 rfl (res_tmp (v := I (k : Int)) rfl rfl) (res_tmp (v := I 6) rfl rfl)) ⟨by (have he : (fusE l) k = 6 := by unfold fusE errOf; grind); (have hF := firstErr_found (e := (fusE l)) (k := k) (by rw [he]; omega) l.length 0 (by omega) (by omega) (fun j _ hj => hn j hj)); show _ = AV.tuple [I (firstErr ((fusE l)) l.length 0).1, I (firstErr ((fusE l)) l.length 0).2]; rw [hF, he], rfl⟩
  ·have q3 := iF (iN iB) hc
   refine AC.rq (fun σ7 => RegOK.mkN [0, 2, 4, 8, 9, 12, 13, 14, 27] ⟨[(0, .slice ((l).map Fuse.av) none), (2, .func 68 [] []), (4, .ptr (σ0 0) 0), (8, I (k : Int)), (9, .ptr (σ3 3) 0), (12, .slice ((l).map Fuse.av) none), (13, I (l.length : Int)), (14, I (k : Int)), (27, .bool (((l.take k).any (fun y => decide (y.name = (l.getD k default).name)))))], (.box (σ0 0) [.func 67 [] []]) :: (.box (σ3 3) (Fuse.av (l.getD k default)).cells) :: mem⟩ (.cons (s_move (.tmp 0 (.slice ((l).map Fuse.av) none))) (.cons (s_move (.tmp 8 (I (k : Int)))) (.cons (s_toM (l := l) (f := Fuse.av) slc23 (.tmp 28 (.slice ((l).map Fuse.av) none)) (.tmp 29 (I (k : Int))) (by omega) (fun _ => rfl)) (.cons (s_move (.tmp 10 (.func 106 [] [.ptr (σ0 0) 0, .ptr (σ3 3) 0]))) (.cons (s_callR (r := .bool (((l.take k).any (fun y => decide (y.name = (l.getD k default).name))))) (es := ([Ent.box (σ0 0) [.func 67 [] []], Ent.box (σ3 3) (Fuse.av (l.getD k default)).cells])) (.func 107) (.cons (.tmp 30 (.slice (((l.take k)).map Fuse.av) none)) (.cons (.tmp 31 (.func 106 [] [.ptr (σ0 0) 0, .ptr (σ3 3) 0])) .nil)) call107 (F107 ((l.take k)) 106 [.ptr (σ0 0) 0, .ptr (σ3 3) 0] ([Ent.box (σ0 0) [.func 67 [] []], Ent.box (σ3 3) (Fuse.av (l.getD k default)).cells]) (fun y => decide (y.name = (l.getD k default).name)) call106 (fun y _ => F106 y (l.getD k default) (σ0 0) (σ3 3)) (by rw [List.length_take]; omega))) (.cons (s_assign (.tmp 32 (.bool (((l.take k).any (fun y => decide (y.name = (l.getD k default).name))))))) .nil)))))) (by kernel_rfl) (by kernel_rfl) (by kernel_rfl) ⟨trivial, trivial, trivial, trivial, (fun lq => (Has.cons (List.mem_of_getElem? (i := 0) rfl) (Has.cons (List.mem_of_getElem? (i := 1) rfl) (Has.nil _)))), trivial, trivial⟩ (by kernel_rfl) (by kernel_rfl) (by kernel_rfl) ?_)
   refine AC.cend (((l.take k).any (fun y => decide (y.name = (l.getD k default).name)))) rfl rfl (fun hc => ?_) (fun hc => ?_)
   ·have q4 := iB.1 hc
    refine AC.rq (fun σ8 => RegOK.m1 [6, 7] ⟨[(6, I (k : Int)), (7, I 5)], (.box (σ0 0) [.func 67 [] []]) :: (.box (σ3 3) (Fuse.av (l.getD k default)).cells) :: mem⟩ (.cons (s_move (.tmp 8 (I (k : Int)))) (.cons (s_assign (.tmp 33 (I (k : Int)))) (.cons (s_assign (.int .i64 (5))) .nil))) ?_)
    refine AC.ret ?_
    refine blockQ_r ?_
    refine thenQ_r ?_
    refine blockQ_r ?_
    refine thenQ_r ?_
    refine thenQ_r ?_
    refine blockQ_r ?_
    refine thenQ_r ?_
    exact FinQ.ret (result2 rfl (res_tmp (v := I (k : Int)) rfl rfl) (res_tmp (v := I 5) rfl rfl)) ⟨by (have he : (fusE l) k = 5 := by unfold fusE errOf; grind); (have hF := firstErr_found (e := (fusE l)) (k := k) (by rw [he]; omega) l.length 0 (by omega) (by omega) (fun j _ hj => hn j hj)); show _ = AV.tuple [I (firstErr ((fusE l)) l.length 0).1, I (firstErr ((fusE l)) l.length 0).2]; rw [hF, he], rfl⟩
   ·have q5 := iF iB hc
    refine AC.skip ?_
    refine blockQ_n ?_
    refine thenQ_n ?_
    refine AC.rq (fun σ9 => RegOK.m1 [0, 2, 4, 8, 11, 12, 13, 14] ⟨[(0, .slice ((l).map Fuse.av) none), (2, .func 68 [] []), (4, .ptr (σ0 0) 0), (8, I (k : Int)), (11, I (fuseErr (l.getD k default))), (12, .slice ((l).map Fuse.av) none), (13, I (l.length : Int)), (14, I (k : Int))], (.box (σ0 0) [.func 67 [] []]) :: (.box (σ3 3) (Fuse.av (l.getD k default)).cells) :: mem⟩ (.cons (s_move (.tmp 2 (.func 68 [] []))) (.cons (s_move (.tmp 8 (I (k : Int)))) (.cons (s_loadA (cs := (Fuse.av (l.getD k default)).cells) (l := (Fuse.av (l.getD k default)).cells) 1 tyA94 (.tmp 9 (.ptr (σ3 3) 0)) rfl rfl) (.cons (s_call (r := I (fuseErr (l.getD k default))) (.tmp 34 (.func 68 [] [])) (.cons (.tmp 35 (I (k : Int))) (.cons (.tmp 36 (Fuse.av (l.getD k default))) .nil)) call68 (F68 ((k : Int)) ((l.getD k default)) (by exact hok _ (getD_mem (by omega))))) (.cons (s_assign (.tmp 37 (I (fuseErr (l.getD k default))))) .nil))))) ?_)
    refine AC.rq (fun σ10 => RegOK.m1 [0, 2, 4, 8, 11, 12, 13, 14, 39] ⟨[(0, .slice ((l).map Fuse.av) none), (2, .func 68 [] []), (4, .ptr (σ0 0) 0), (8, I (k : Int)), (11, I (fuseErr (l.getD k default))), (12, .slice ((l).map Fuse.av) none), (13, I (l.length : Int)), (14, I (k : Int)), (39, .bool (decide ((fuseErr (l.getD k default)) ≠ 0)))], (.box (σ0 0) [.func 67 [] []]) :: (.box (σ3 3) (Fuse.av (l.getD k default)).cells) :: mem⟩ (.cons (s_move (.tmp 11 (I (fuseErr (l.getD k default))))) (.cons (s_neq (.tmp 38 (I (fuseErr (l.getD k default)))) (.int .i64 (0))) .nil)) ?_)
    refine AC.cend (decide ((fuseErr (l.getD k default)) ≠ 0)) rfl rfl (fun hc => ?_) (fun hc => ?_)
    ·have q6 := iD.1 hc
     refine AC.rq (fun σ11 => RegOK.m1 [6, 7] ⟨[(6, I (k : Int)), (7, I (fuseErr (l.getD k default)))], (.box (σ0 0) [.func 67 [] []]) :: (.box (σ3 3) (Fuse.av (l.getD k default)).cells) :: mem⟩ (.cons (s_move (.tmp 8 (I (k : Int)))) (.cons (s_move (.tmp 11 (I (fuseErr (l.getD k default))))) (.cons (s_assign (.tmp 40 (I (k : Int)))) (.cons (s_assign (.tmp 41 (I (fuseErr (l.getD k default))))) .nil)))) ?_)
     refine AC.ret ?_
     refine blockQ_r ?_
     refine thenQ_r ?_
     refine thenQ_r ?_
     refine blockQ_r ?_
     refine thenQ_r ?_
     exact FinQ.ret (result2 rfl (res_tmp (v := I (k : Int)) rfl rfl) (res_tmp (v := I (fuseErr (l.getD k default))) rfl rfl)) ⟨by (have he : (fusE l) k = (fuseErr (l.getD k default)) := by unfold fusE errOf; grind); (have hF := firstErr_found (e := (fusE l)) (k := k) (by rw [he]; omega) l.length 0 (by omega) (by omega) (fun j _ hj => hn j hj)); show _ = AV.tuple [I (firstErr ((fusE l)) l.length 0).1, I (firstErr ((fusE l)) l.length 0).2]; rw [hF, he], rfl⟩
    ·have q7 := iF iD hc
     refine AC.skip ?_
     refine blockQ_n ?_
     refine thenQ_n ?_
     refine AC.re (fun σ12 => RegOK.m1 [0, 2, 4, 12, 13, 14] ⟨[(0, .slice ((l).map Fuse.av) none), (2, .func 68 [] []), (4, .ptr (σ0 0) 0), (12, .slice ((l).map Fuse.av) none), (13, I (l.length : Int)), (14, I ((k : Int) + 1))], (.box (σ0 0) [.func 67 [] []]) :: (.box (σ3 3) (Fuse.av (l.getD k default)).cells) :: mem⟩ (.cons (s_add (.tmp 14 (I (k : Int))) (.int .i64 (1)) (inK_i64 (by omega))) (.cons (s_move (.tmp 42 (I ((k : Int) + 1)))) .nil)) ?_)
     refine thenQ_n ⟨_, ?_, _, ⟨(k + 1), rfl, ⟨(by omega), (by intro j hj; rcases Decidable.em (j = k) with h | h; (subst h; unfold fusE errOf; grind); exact hn j (by omega))⟩, rfl⟩, Weak.of [1] (by kernel_rfl) (by kernel_rfl)⟩
     omega
 ·have q8 := iF iD hc
  refine AC.exit ?_
  refine thenQ_x ?_
  refine thenQ_x ?_
  refine blockQ_x ?_
  refine thenQ_n ?_
  refine AC.rq (fun σ13 => RegOK.m1 [6, 7] ⟨[(6, I 0), (7, I 0)], (.box (σ0 0) [.func 67 [] []]) :: .hole :: mem⟩ (.cons (s_assign (.int .i64 (0))) (.cons (s_assign (.int .i64 (0))) .nil)) ?_)
  refine AC.ret ?_
  exact FinQ.ret (result2 rfl (res_tmp (v := I 0) rfl rfl) (res_tmp (v := I 0) rfl rfl)) ⟨by (have hF := firstErr_none (e := (fusE l)) l.length 0 (fun j _ hj => hn j (by omega))); show _ = AV.tuple [I (firstErr ((fusE l)) l.length 0).1, I (firstErr ((fusE l)) l.length 0).2]; rw [hF], rfl⟩
theorem F69 (l : List Node) (f : Feeder) (s0 : Nat) (hfok : f.ok) (hl : (l.length : Int) ≤ 9223372036854775807) (hok : ∀ x : Node, x ∈ l → x.ok) : EffR Try.prog 69 [.slice ((l).map Node.av) none, .func 70 [] [], .func 71 [] [.ptr s0 0]] [Ent.box s0 (Feeder.av f).cells] (.tuple [I (nodsE f l).1, I (nodsE f l).2]) := by
 intro mem hes
 obtain ⟨p0, hm0⟩ := List.mem_iff_getElem?.1 (hes (Ent.box s0 (Feeder.av f).cells) (by simp))
 refine Meets.body 2 Try.func69 rfl rfl ?_
 refine AC.rq (fun σ0 => RegOK.m1 [0, 2, 4] ⟨[(0, .slice ((l).map Node.av) none), (2, .func 71 [] [.ptr s0 0]), (4, .ptr (σ0 0) 0)], (.box (σ0 0) [.func 70 [] []]) :: .hole :: mem⟩ (.cons (s_box 0 (σ0 0) (.tmp 1 (.func 70 [] [])) rfl) (.cons (s_assign (.int .i64 (0))) (.cons (s_assign (.int .i64 (0))) .nil))) ?_)
 refine AC.seq ?_
 refine AC.rq (fun σ1 => RegOK.m1 [0, 2, 4, 12, 13, 14] ⟨[(0, .slice ((l).map Node.av) none), (2, .func 71 [] [.ptr s0 0]), (4, .ptr (σ0 0) 0), (12, .slice ((l).map Node.av) none), (13, I (l.length : Int)), (14, I 0)], (.box (σ0 0) [.func 70 [] []]) :: .hole :: mem⟩ (.cons (s_move (.tmp 0 (.slice ((l).map Node.av) none))) (.cons (s_lenM (l := l) slc24 (.tmp 12 (.slice ((l).map Node.av) none))) (.cons (s_move (.int .i64 (0))) .nil))) ?_)
 refine AC.block ?_
 refine AC.loopW (fun mz T => ∃ (k : Nat), mz = l.length - k ∧ ((k ≤ l.length) ∧ (∀ j : Nat, j < k → (nodE f l) j = 0)) ∧ T = ⟨[(0, .slice ((l).map Node.av) none), (2, .func 71 [] [.ptr s0 0]), (4, .ptr (σ0 0) 0), (12, .slice ((l).map Node.av) none), (13, I (l.length : Int)), (14, I (k : Int))], (.box (σ0 0) [.func 70 [] []]) :: .hole :: mem⟩) _ ⟨[(0, .slice ((l).map Node.av) none), (2, .func 71 [] [.ptr s0 0]), (4, .ptr (σ0 0) 0), (12, .slice ((l).map Node.av) none), (13, I (l.length : Int)), (14, I ((0) : Int))], (.box (σ0 0) [.func 70 [] []]) :: .hole :: mem⟩ ⟨0, rfl, ⟨(by omega), (by intro j hj; omega)⟩, rfl⟩ (Weak.of [] (by kernel_rfl) (by kernel_rfl)) ?_ Fr.plain
 rintro _ _ ⟨k, rfl, ⟨hk, hn⟩, rfl⟩
 refine AC.rq (fun σ2 => RegOK.m1 [0, 2, 4, 12, 13, 14, 15] ⟨[(0, .slice ((l).map Node.av) none), (2, .func 71 [] [.ptr s0 0]), (4, .ptr (σ0 0) 0), (12, .slice ((l).map Node.av) none), (13, I (l.length : Int)), (14, I (k : Int)), (15, .bool (decide ((k : Int) < (l.length : Int))))], (.box (σ0 0) [.func 70 [] []]) :: .hole :: mem⟩ (.cons (s_lss (.tmp 14 (I (k : Int))) (.tmp 13 (I (l.length : Int)))) .nil) ?_)
 refine AC.cseq (decide ((k : Int) < (l.length : Int))) rfl rfl (fun hc => ?_) (fun hc => ?_)
 ·have q1 := iD.1 hc
  refine AC.skip ?_
  refine thenQ_n ?_
  refine AC.bseq ?_
  refine AC.rq (fun σ3 => RegOK.m1 [0, 2, 4, 8, 9, 12, 13, 14] ⟨[(0, .slice ((l).map Node.av) none), (2, .func 71 [] [.ptr s0 0]), (4, .ptr (σ0 0) 0), (8, I (k : Int)), (9, .ptr (σ3 3) 0), (12, .slice ((l).map Node.av) none), (13, I (l.length : Int)), (14, I (k : Int))], (.box (σ0 0) [.func 70 [] []]) :: (.box (σ3 3) (Node.av (l.getD k default)).cells) :: mem⟩ (.cons (s_move (.tmp 14 (I (k : Int)))) (.cons (s_ixM (l := l) (f := Node.av) (default) slc24 (.tmp 12 (.slice ((l).map Node.av) none)) (.tmp 14 (I (k : Int))) (by omega) rfl) (.cons (s_loadAe (l := (Node.av (l.getD k default)).cells) tyA47 (.tmp 17 (.eptr (Node.av (l.getD k default)) 0)) rfl rfl) (.cons (s_alloc 1 (σ3 3) zero47) (.cons (s_assign (.tmp 16 (I (k : Int)))) (.cons (s_store (cs := [.str (⟨#[]⟩), I 0, I 0, I 0, I 0, I 0, I 0, I 0, I 0, I 0, I 0]) 1 sz47 (.tmp 9 (.ptr (σ3 3) 0)) (.tmp 18 (Node.av (l.getD k default))) rfl rfl rfl (Nat.le_of_ble_eq_true rfl)) .nil)))))) ?_)
  refine AC.rq (fun σ4 => RegOK.m1 [0, 2, 4, 8, 9, 10, 12, 13, 14] ⟨[(0, .slice ((l).map Node.av) none), (2, .func 71 [] [.ptr s0 0]), (4, .ptr (σ0 0) 0), (8, I (k : Int)), (9, .ptr (σ3 3) 0), (10, .func 110 [] [.ptr (σ0 0) 0, .ptr (σ3 3) 0]), (12, .slice ((l).map Node.av) none), (13, I (l.length : Int)), (14, I (k : Int))], (.box (σ0 0) [.func 70 [] []]) :: (.box (σ3 3) (Node.av (l.getD k default)).cells) :: mem⟩ (.cons (s_makeFunc .nil (.cons (.tmp 4 (.ptr (σ0 0) 0)) (.cons (.tmp 9 (.ptr (σ3 3) 0)) .nil))) (.cons (s_assign (.tmp 19 (.func 110 [] [.ptr (σ0 0) 0, .ptr (σ3 3) 0]))) .nil)) ?_)
  refine AC.bseq ?_
  refine AC.rq (fun σ5 => RegOK.m1 [0, 2, 4, 8, 9, 10, 12, 13, 14, 20] ⟨[(0, .slice ((l).map Node.av) none), (2, .func 71 [] [.ptr s0 0]), (4, .ptr (σ0 0) 0), (8, I (k : Int)), (9, .ptr (σ3 3) 0), (10, .func 110 [] [.ptr (σ0 0) 0, .ptr (σ3 3) 0]), (12, .slice ((l).map Node.av) none), (13, I (l.length : Int)), (14, I (k : Int)), (20, .bool ((!nameOK (l.getD k default).name)))], (.box (σ0 0) [.func 70 [] []]) :: (.box (σ3 3) (Node.av (l.getD k default)).cells) :: mem⟩ (.cons (s_load1 (cs := [.func 70 [] []]) (c := .func 70 [] []) 0 tyS119 (.tmp 4 (.ptr (σ0 0) 0)) rfl) (.cons (s_loadA (cs := (Node.av (l.getD k default)).cells) (l := (Node.av (l.getD k default)).cells) 1 tyA47 (.tmp 9 (.ptr (σ3 3) 0)) rfl rfl) (.cons (s_call (r := .str ((l.getD k default).name)) (.tmp 21 (.func 70 [] [])) (.cons (.tmp 22 (Node.av (l.getD k default))) .nil) call70 (F70 ((l.getD k default)))) (.cons (s_call (r := .bool (nameOK (l.getD k default).name)) (.func 104) (.cons (.tmp 23 (.str ((l.getD k default).name))) .nil) call104 (F104 ((l.getD k default).name) (by exact (hok _ (getD_mem (by omega)))))) (.cons (s_not (.tmp 24 (.bool (nameOK (l.getD k default).name)))) (.cons (s_assign (.tmp 25 (.bool ((!nameOK (l.getD k default).name))))) .nil)))))) ?_)
  refine AC.cend ((!nameOK (l.getD k default).name)) rfl rfl (fun hc => ?_) (fun hc => ?_)
  ·have q2 := (iN iB).1 hc
   refine AC.rq (fun σ6 => RegOK.m1 [6, 7] ⟨[(6, I (k : Int)), (7, I 6)], (.box (σ0 0) [.func 70 [] []]) :: (.box (σ3 3) (Node.av (l.getD k default)).cells) :: mem⟩ (.cons (s_move (.tmp 8 (I (k : Int)))) (.cons (s_assign (.tmp 26 (I (k : Int)))) (.cons (s_assign (.int .i64 (6))) .nil))) ?_)
   refine AC.ret ?_
   refine blockQ_r ?_
   refine thenQ_r ?_
   refine blockQ_r ?_
   refine thenQ_r ?_
   refine thenQ_r ?_
   refine blockQ_r ?_
   refine thenQ_r ?_
   exact FinQ.ret (result2 rfl (res_tmp (v := I (k : Int)) rfl rfl) (res_tmp (v := I 6) rfl rfl)) ⟨by (have he : (nodE f l) k = 6 := by unfold nodE errOf; grind); (have hF := firstErr_found (e := (nodE f l)) (k := k) (by rw [he]; omega) l.length 0 (by omega) (by omega) (fun j _ hj => hn j hj)); show _ = AV.tuple [I (firstErr ((nodE f l)) l.length 0).1, I (firstErr ((nodE f l)) l.length 0).2]; rw [hF, he], rfl⟩
  ·have q3 := iF (iN iB) hc
   refine AC.rq (fun σ7 => RegOK.mkN [0, 2, 4, 8, 9, 12, 13, 14, 27] ⟨[(0, .slice ((l).map Node.av) none), (2, .func 71 [] [.ptr s0 0]), (4, .ptr (σ0 0) 0), (8, I (k : Int)), (9, .ptr (σ3 3) 0), (12, .slice ((l).map Node.av) none), (13, I (l.length : Int)), (14, I (k : Int)), (27, .bool (((l.take k).any (fun y => decide (y.name = (l.getD k default).name)))))], (.box (σ0 0) [.func 70 [] []]) :: (.box (σ3 3) (Node.av (l.getD k default)).cells) :: mem⟩ (.cons (s_move (.tmp 0 (.slice ((l).map Node.av) none))) (.cons (s_move (.tmp 8 (I (k : Int)))) (.cons (s_toM (l := l) (f := Node.av) slc24 (.tmp 28 (.slice ((l).map Node.av) none)) (.tmp 29 (I (k : Int))) (by omega) (fun _ => rfl)) (.cons (s_move (.tmp 10 (.func 110 [] [.ptr (σ0 0) 0, .ptr (σ3 3) 0]))) (.cons (s_callR (r := .bool (((l.take k).any (fun y => decide (y.name = (l.getD k default).name))))) (es := ([Ent.box (σ0 0) [.func 70 [] []], Ent.box (σ3 3) (Node.av (l.getD k default)).cells])) (.func 111) (.cons (.tmp 30 (.slice (((l.take k)).map Node.av) none)) (.cons (.tmp 31 (.func 110 [] [.ptr (σ0 0) 0, .ptr (σ3 3) 0])) .nil)) call111 (F111 ((l.take k)) 110 [.ptr (σ0 0) 0, .ptr (σ3 3) 0] ([Ent.box (σ0 0) [.func 70 [] []], Ent.box (σ3 3) (Node.av (l.getD k default)).cells]) (fun y => decide (y.name = (l.getD k default).name)) call110 (fun y _ => F110 y (l.getD k default) (σ0 0) (σ3 3)) (by rw [List.length_take]; omega))) (.cons (s_assign (.tmp 32 (.bool (((l.take k).any (fun y => decide (y.name = (l.getD k default).name))))))) .nil)))))) (by kernel_rfl) (by kernel_rfl) (by kernel_rfl) ⟨trivial, trivial, trivial, trivial, (fun lq => (Has.cons (List.mem_of_getElem? (i := 0) rfl) (Has.cons (List.mem_of_getElem? (i := 1) rfl) (Has.nil _)))), trivial, trivial⟩ (by kernel_rfl) (by kernel_rfl) (by kernel_rfl) ?_)
   refine AC.cend (((l.take k).any (fun y => decide (y.name = (l.getD k default).name)))) rfl rfl (fun hc => ?_) (fun hc => ?_)
   ·have q4 := iB.1 hc
    refine AC.rq (fun σ8 => RegOK.m1 [6, 7] ⟨[(6, I (k : Int)), (7, I 5)], (.box (σ0 0) [.func 70 [] []]) :: (.box (σ3 3) (Node.av (l.getD k default)).cells) :: mem⟩ (.cons (s_move (.tmp 8 (I (k : Int)))) (.cons (s_assign (.tmp 33 (I (k : Int)))) (.cons (s_assign (.int .i64 (5))) .nil))) ?_)
    refine AC.ret ?_
    refine blockQ_r ?_
    refine thenQ_r ?_
    refine blockQ_r ?_
    refine thenQ_r ?_
    refine thenQ_r ?_
    refine blockQ_r ?_
    refine thenQ_r ?_
    exact FinQ.ret (result2 rfl (res_tmp (v := I (k : Int)) rfl rfl) (res_tmp (v := I 5) rfl rfl)) ⟨by (have he : (nodE f l) k = 5 := by unfold nodE errOf; grind); (have hF := firstErr_found (e := (nodE f l)) (k := k) (by rw [he]; omega) l.length 0 (by omega) (by omega) (fun j _ hj => hn j hj)); show _ = AV.tuple [I (firstErr ((nodE f l)) l.length 0).1, I (firstErr ((nodE f l)) l.length 0).2]; rw [hF, he], rfl⟩
   ·have q5 := iF iB hc
    refine AC.skip ?_
    refine blockQ_n ?_
    refine thenQ_n ?_
    refine AC.rq (fun σ9 => RegOK.mkN [0, 2, 4, 8, 11, 12, 13, 14] ⟨[(0, .slice ((l).map Node.av) none), (2, .func 71 [] [.ptr s0 0]), (4, .ptr (σ0 0) 0), (8, I (k : Int)), (11, I (nodeErr f k (l.getD k default))), (12, .slice ((l).map Node.av) none), (13, I (l.length : Int)), (14, I (k : Int))], (.box (σ0 0) [.func 70 [] []]) :: (.box (σ3 3) (Node.av (l.getD k default)).cells) :: mem⟩ (.cons (s_move (.tmp 2 (.func 71 [] [.ptr s0 0]))) (.cons (s_move (.tmp 8 (I (k : Int)))) (.cons (s_loadA (cs := (Node.av (l.getD k default)).cells) (l := (Node.av (l.getD k default)).cells) 1 tyA47 (.tmp 9 (.ptr (σ3 3) 0)) rfl rfl) (.cons (s_callR (r := I (nodeErr f k (l.getD k default))) (es := ([Ent.box s0 (Feeder.av f).cells])) (.tmp 34 (.func 71 [] [.ptr s0 0])) (.cons (.tmp 35 (I (k : Int))) (.cons (.tmp 36 (Node.av (l.getD k default))) .nil)) call71 (F71 k (l.getD k default) f s0 (by exact hfok) (by omega))) (.cons (s_assign (.tmp 37 (I (nodeErr f k (l.getD k default))))) .nil))))) (by kernel_rfl) (by kernel_rfl) (by kernel_rfl) ⟨trivial, trivial, trivial, (fun lq => (Has.cons (Has.left (Has.right (pre := [Ent.box (σ0 0) [.func 70 [] []], Ent.box (σ3 3) (Node.av (l.getD k default)).cells]) (Has.at_ p0 hm0 (Has.nil _))) _ (List.mem_singleton.2 rfl)) (Has.nil _))), trivial, trivial⟩ (by kernel_rfl) (by kernel_rfl) (by kernel_rfl) ?_)
    refine AC.rq (fun σ10 => RegOK.m1 [0, 2, 4, 8, 11, 12, 13, 14, 39] ⟨[(0, .slice ((l).map Node.av) none), (2, .func 71 [] [.ptr s0 0]), (4, .ptr (σ0 0) 0), (8, I (k : Int)), (11, I (nodeErr f k (l.getD k default))), (12, .slice ((l).map Node.av) none), (13, I (l.length : Int)), (14, I (k : Int)), (39, .bool (decide ((nodeErr f k (l.getD k default)) ≠ 0)))], (.box (σ0 0) [.func 70 [] []]) :: (.box (σ3 3) (Node.av (l.getD k default)).cells) :: mem⟩ (.cons (s_move (.tmp 11 (I (nodeErr f k (l.getD k default))))) (.cons (s_neq (.tmp 38 (I (nodeErr f k (l.getD k default)))) (.int .i64 (0))) .nil)) ?_)
    refine AC.cend (decide ((nodeErr f k (l.getD k default)) ≠ 0)) rfl rfl (fun hc => ?_) (fun hc => ?_)
    ·have q6 := iD.1 hc
     refine AC.rq (fun σ11 => RegOK.m1 [6, 7] ⟨[(6, I (k : Int)), (7, I (nodeErr f k (l.getD k default)))], (.box (σ0 0) [.func 70 [] []]) :: (.box (σ3 3) (Node.av (l.getD k default)).cells) :: mem⟩ (.cons (s_move (.tmp 8 (I (k : Int)))) (.cons (s_move (.tmp 11 (I (nodeErr f k (l.getD k default))))) (.cons (s_assign (.tmp 40 (I (k : Int)))) (.cons (s_assign (.tmp 41 (I (nodeErr f k (l.getD k default))))) .nil)))) ?_)
     refine AC.ret ?_
     refine blockQ_r ?_
     refine thenQ_r ?_
     refine thenQ_r ?_
     refine blockQ_r ?_
     refine thenQ_r ?_
     exact FinQ.ret (result2 rfl (res_tmp (v := I (k : Int)) rfl rfl) (res_tmp (v := I (nodeErr f k (l.getD k default))) rfl rfl)) ⟨by (have he : (nodE f l) k = (nodeErr f k (l.getD k default)) := by unfold nodE errOf; grind); (have hF := firstErr_found (e := (nodE f l)) (k := k) (by rw [he]; omega) l.length 0 (by omega) (by omega) (fun j _ hj => hn j hj)); show _ = AV.tuple [I (firstErr ((nodE f l)) l.length 0).1, I (firstErr ((nodE f l)) l.length 0).2]; rw [hF, he], rfl⟩
    ·have q7 := iF iD hc
     refine AC.skip ?_
     refine blockQ_n ?_
     refine thenQ_n ?_
     refine AC.re (fun σ12 => RegOK.m1 [0, 2, 4, 12, 13, 14] ⟨[(0, .slice ((l).map Node.av) none), (2, .func 71 [] [.ptr s0 0]), (4, .ptr (σ0 0) 0), (12, .slice ((l).map Node.av) none), (13, I (l.length : Int)), (14, I ((k : Int) + 1))], (.box (σ0 0) [.func 70 [] []]) :: (.box (σ3 3) (Node.av (l.getD k default)).cells) :: mem⟩ (.cons (s_add (.tmp 14 (I (k : Int))) (.int .i64 (1)) (inK_i64 (by omega))) (.cons (s_move (.tmp 42 (I ((k : Int) + 1)))) .nil)) ?_)
     refine thenQ_n ⟨_, ?_, _, ⟨(k + 1), rfl, ⟨(by omega), (by intro j hj; rcases Decidable.em (j = k) with h | h; (subst h; unfold nodE errOf; grind); exact hn j (by omega))⟩, rfl⟩, Weak.of [1] (by kernel_rfl) (by kernel_rfl)⟩
     omega
 ·have q8 := iF iD hc
  refine AC.exit ?_
  refine thenQ_x ?_
  refine thenQ_x ?_
  refine blockQ_x ?_
  refine thenQ_n ?_
  refine AC.rq (fun σ13 => RegOK.m1 [6, 7] ⟨[(6, I 0), (7, I 0)], (.box (σ0 0) [.func 70 [] []]) :: .hole :: mem⟩ (.cons (s_assign (.int .i64 (0))) (.cons (s_assign (.int .i64 (0))) .nil)) ?_)
  refine AC.ret ?_
  exact FinQ.ret (result2 rfl (res_tmp (v := I 0) rfl rfl) (res_tmp (v := I 0) rfl rfl)) ⟨by (have hF := firstErr_none (e := (nodE f l)) l.length 0 (fun j _ hj => hn j (by omega))); show _ = AV.tuple [I (firstErr ((nodE f l)) l.length 0).1, I (firstErr ((nodE f l)) l.length 0).2]; rw [hF], rfl⟩
theorem F25 (f : Feeder) (hok : f.ok) : Pure Try.prog 25 [Feeder.av f] (.tuple [I ((check f).1), I ((check f).2.1), I ((check f).2.2)]) := by
 intro mem
 have ⟨hc1, hc2, hc3, hc4, hc5, hc6⟩ := hok
 refine Meets.body 1 Try.func25 rfl rfl ?_
 refine AC.rq (fun σ0 => RegOK.m1 [1] ⟨[(1, .ptr (σ0 0) 0)], (.box (σ0 0) (Feeder.av f).cells) :: mem⟩ (.cons (s_box 0 (σ0 0) (.tmp 0 (Feeder.av f)) rfl) (.cons (s_assign (.int .i64 (0))) (.cons (s_assign (.int .i64 (0))) (.cons (s_assign (.int .i64 (0))) .nil)))) ?_)
 refine AC.bseq ?_
 refine AC.rq (fun σ1 => RegOK.m1 [1, 5] ⟨[(1, .ptr (σ0 0) 0), (5, .bool (((decide (10 < (f.cables.length : Int)) || decide (10 < (f.fuses.length : Int))) || decide (40 < (f.nodes.length : Int)))))], (.box (σ0 0) (Feeder.av f).cells) :: mem⟩ (.cons (s_fieldAddr fld28_0 (.tmp 1 (.ptr (σ0 0) 0))) (.cons (s_load1 (cs := (Feeder.av f).cells) (c := .slice ((f.cables).map Cable.av) none) 0 tyS22 (.tmp 6 (.ptr (σ0 0) 0)) rfl) (.cons (s_lenM (l := f.cables) slc22 (.tmp 7 (.slice ((f.cables).map Cable.av) none))) (.cons (s_gtr (.tmp 8 (I (f.cables.length : Int))) (.int .i64 (10))) (.cons (s_move (.tmp 9 (.bool (decide (10 < (f.cables.length : Int)))))) (.cons (Step.guard _ rfl (.bool (decide (10 < (f.cables.length : Int)))) gF (fun hb => s_fieldAddr fld28_1 (.tmp 1 (.ptr (σ0 0) 0)))) (.cons (Step.guard _ rfl (.bool (decide (10 < (f.cables.length : Int)))) gF (fun hb => s_load1 (cs := (Feeder.av f).cells) (c := .slice ((f.fuses).map Fuse.av) none) 0 tyS23 (.tmpC hb 11 (.ptr (σ0 0) 1)) rfl)) (.cons (Step.guard _ rfl (.bool (decide (10 < (f.cables.length : Int)))) gF (fun hb => s_lenM (l := f.fuses) slc23 (.tmpC hb 12 (.slice ((f.fuses).map Fuse.av) none)))) (.cons (Step.guard _ rfl (.bool (decide (10 < (f.cables.length : Int)))) gF (fun hb => s_gtr (.tmpC hb 13 (I (f.fuses.length : Int))) (.int .i64 (10)))) (.cons (s_or' (e := (!(decide (10 < (f.cables.length : Int))))) (q := decide (10 < (f.fuses.length : Int))) (fun h => (notMk h)) (.tmp 10 (.bool (decide (10 < (f.cables.length : Int)))))) (.cons (s_move (.tmp 15 (.bool ((decide (10 < (f.cables.length : Int)) || decide (10 < (f.fuses.length : Int))))))) (.cons (Step.guard _ rfl (.bool ((decide (10 < (f.cables.length : Int)) || decide (10 < (f.fuses.length : Int))))) gF (fun hb => s_fieldAddr fld28_2 (.tmp 1 (.ptr (σ0 0) 0)))) (.cons (Step.guard _ rfl (.bool ((decide (10 < (f.cables.length : Int)) || decide (10 < (f.fuses.length : Int))))) gF (fun hb => s_load1 (cs := (Feeder.av f).cells) (c := .slice ((f.nodes).map Node.av) none) 0 tyS24 (.tmpC hb 17 (.ptr (σ0 0) 2)) rfl)) (.cons (Step.guard _ rfl (.bool ((decide (10 < (f.cables.length : Int)) || decide (10 < (f.fuses.length : Int))))) gF (fun hb => s_lenM (l := f.nodes) slc24 (.tmpC hb 18 (.slice ((f.nodes).map Node.av) none)))) (.cons (Step.guard _ rfl (.bool ((decide (10 < (f.cables.length : Int)) || decide (10 < (f.fuses.length : Int))))) gF (fun hb => s_gtr (.tmpC hb 19 (I (f.nodes.length : Int))) (.int .i64 (40)))) (.cons (s_or' (e := (!(decide (10 < (f.cables.length : Int)) || decide (10 < (f.fuses.length : Int))))) (q := decide (40 < (f.nodes.length : Int))) (fun h => (notMk h)) (.tmp 16 (.bool ((decide (10 < (f.cables.length : Int)) || decide (10 < (f.fuses.length : Int))))))) (.cons (s_assign (.tmp 21 (.bool (((decide (10 < (f.cables.length : Int)) || decide (10 < (f.fuses.length : Int))) || decide (40 < (f.nodes.length : Int))))))) .nil))))))))))))))))) ?_)
 refine AC.cend (((decide (10 < (f.cables.length : Int)) || decide (10 < (f.fuses.length : Int))) || decide (40 < (f.nodes.length : Int)))) rfl rfl (fun hc => ?_) (fun hc => ?_)
 ·have q1 := (iO (iO iD iD) iD).1 hc
  refine AC.rq (fun σ2 => RegOK.m1 [2, 3, 4] ⟨[(2, I 0), (3, I 0), (4, I 3)], (.box (σ0 0) (Feeder.av f).cells) :: mem⟩ (.cons (s_assign (.int .i64 (0))) (.cons (s_assign (.int .i64 (0))) (.cons (s_assign (.int .i64 (3))) .nil))) ?_)
  refine AC.ret ?_
  refine blockQ_r ?_
  refine thenQ_r ?_
  exact FinQ.ret (result3 rfl (res_tmp (v := I 0) rfl rfl) (res_tmp (v := I 0) rfl rfl) (res_tmp (v := I 3) rfl rfl)) ⟨by unfold check headErr; grind, rfl⟩
 ·have q2 := iF (iO (iO iD iD) iD) hc
  refine AC.rq (fun σ3 => RegOK.m1 [1, 22] ⟨[(1, .ptr (σ0 0) 0), (22, .bool (decide ((f.nodes.length : Int) = 0)))], (.box (σ0 0) (Feeder.av f).cells) :: mem⟩ (.cons (s_fieldAddr fld28_2 (.tmp 1 (.ptr (σ0 0) 0))) (.cons (s_load1 (cs := (Feeder.av f).cells) (c := .slice ((f.nodes).map Node.av) none) 0 tyS24 (.tmp 23 (.ptr (σ0 0) 2)) rfl) (.cons (s_lenM (l := f.nodes) slc24 (.tmp 24 (.slice ((f.nodes).map Node.av) none))) (.cons (s_eql (.tmp 25 (I (f.nodes.length : Int))) (.int .i64 (0))) (.cons (s_assign (.tmp 26 (.bool (decide ((f.nodes.length : Int) = 0))))) .nil))))) ?_)
  refine AC.cend (decide ((f.nodes.length : Int) = 0)) rfl rfl (fun hc => ?_) (fun hc => ?_)
  ·have q3 := iD.1 hc
   refine AC.rq (fun σ4 => RegOK.m1 [2, 3, 4] ⟨[(2, I 0), (3, I 0), (4, I 4)], (.box (σ0 0) (Feeder.av f).cells) :: mem⟩ (.cons (s_assign (.int .i64 (0))) (.cons (s_assign (.int .i64 (0))) (.cons (s_assign (.int .i64 (4))) .nil))) ?_)
   refine AC.ret ?_
   refine blockQ_r ?_
   refine thenQ_r ?_
   exact FinQ.ret (result3 rfl (res_tmp (v := I 0) rfl rfl) (res_tmp (v := I 0) rfl rfl) (res_tmp (v := I 4) rfl rfl)) ⟨by unfold check headErr; grind, rfl⟩
  ·have q4 := iF iD hc
   refine AC.rq (fun σ5 => RegOK.m1 [1, 27] ⟨[(1, .ptr (σ0 0) 0), (27, .bool (((((!((decide (1 ≤ f.vLo) && decide (f.vLo ≤ f.vHi)) && decide (f.vHi ≤ 1000000))) || (!((decide (1 ≤ f.sLo) && decide (f.sLo ≤ f.sHi)) && decide (f.sHi ≤ 1000000000)))) || (!(decide (0 ≤ f.drop) && decide (f.drop ≤ 1000000)))) || (!(decide (1 ≤ f.limit) && decide (f.limit ≤ 100000000))))))], (.box (σ0 0) (Feeder.av f).cells) :: mem⟩ (.cons (s_fieldAddr fld28_3 (.tmp 1 (.ptr (σ0 0) 0))) (.cons (s_loadA (cs := (Feeder.av f).cells) (l := [I f.vLo, I f.vHi]) 0 tyA26 (.tmp 28 (.ptr (σ0 0) 3)) rfl rfl) (.cons (s_call (r := .bool (((decide (1 ≤ f.vLo) && decide (f.vLo ≤ f.vHi)) && decide (f.vHi ≤ 1000000)))) (.func 62) (.cons (.tmp 29 (.agg [I f.vLo, I f.vHi])) (.cons (.int .i64 (1)) (.cons (.int .i64 (1000000)) .nil))) call62 (F62 (f.vLo) (f.vHi) (1) (1000000))) (.cons (s_not (.tmp 30 (.bool (((decide (1 ≤ f.vLo) && decide (f.vLo ≤ f.vHi)) && decide (f.vHi ≤ 1000000)))))) (.cons (s_move (.tmp 31 (.bool ((!((decide (1 ≤ f.vLo) && decide (f.vLo ≤ f.vHi)) && decide (f.vHi ≤ 1000000))))))) (.cons (Step.guard _ rfl (.bool ((!((decide (1 ≤ f.vLo) && decide (f.vLo ≤ f.vHi)) && decide (f.vHi ≤ 1000000))))) gF (fun hb => s_fieldAddr fld28_4 (.tmp 1 (.ptr (σ0 0) 0)))) (.cons (Step.guard _ rfl (.bool ((!((decide (1 ≤ f.vLo) && decide (f.vLo ≤ f.vHi)) && decide (f.vHi ≤ 1000000))))) gF (fun hb => s_loadA (cs := (Feeder.av f).cells) (l := [I f.sLo, I f.sHi]) 0 tyA26 (.tmpC hb 33 (.ptr (σ0 0) 5)) rfl rfl)) (.cons (Step.guard _ rfl (.bool ((!((decide (1 ≤ f.vLo) && decide (f.vLo ≤ f.vHi)) && decide (f.vHi ≤ 1000000))))) gF (fun hb => s_call (r := .bool (((decide (1 ≤ f.sLo) && decide (f.sLo ≤ f.sHi)) && decide (f.sHi ≤ 1000000000)))) (.func 62) (.cons (.tmpC hb 34 (.agg [I f.sLo, I f.sHi])) (.cons (.int .i64 (1)) (.cons (.int .i64 (1000000000)) .nil))) call62 (F62 (f.sLo) (f.sHi) (1) (1000000000)))) (.cons (Step.guard _ rfl (.bool ((!((decide (1 ≤ f.vLo) && decide (f.vLo ≤ f.vHi)) && decide (f.vHi ≤ 1000000))))) gF (fun hb => s_not (.tmpC hb 35 (.bool (((decide (1 ≤ f.sLo) && decide (f.sLo ≤ f.sHi)) && decide (f.sHi ≤ 1000000000))))))) (.cons (s_or' (e := (!(!((decide (1 ≤ f.vLo) && decide (f.vLo ≤ f.vHi)) && decide (f.vHi ≤ 1000000))))) (q := (!((decide (1 ≤ f.sLo) && decide (f.sLo ≤ f.sHi)) && decide (f.sHi ≤ 1000000000)))) (fun h => (notMk h)) (.tmp 32 (.bool ((!((decide (1 ≤ f.vLo) && decide (f.vLo ≤ f.vHi)) && decide (f.vHi ≤ 1000000))))))) (.cons (s_move (.tmp 37 (.bool (((!((decide (1 ≤ f.vLo) && decide (f.vLo ≤ f.vHi)) && decide (f.vHi ≤ 1000000))) || (!((decide (1 ≤ f.sLo) && decide (f.sLo ≤ f.sHi)) && decide (f.sHi ≤ 1000000000)))))))) (.cons (Step.guard _ rfl (.bool (((!((decide (1 ≤ f.vLo) && decide (f.vLo ≤ f.vHi)) && decide (f.vHi ≤ 1000000))) || (!((decide (1 ≤ f.sLo) && decide (f.sLo ≤ f.sHi)) && decide (f.sHi ≤ 1000000000)))))) gF (fun hb => s_fieldAddr fld28_5 (.tmp 1 (.ptr (σ0 0) 0)))) (.cons (Step.guard _ rfl (.bool (((!((decide (1 ≤ f.vLo) && decide (f.vLo ≤ f.vHi)) && decide (f.vHi ≤ 1000000))) || (!((decide (1 ≤ f.sLo) && decide (f.sLo ≤ f.sHi)) && decide (f.sHi ≤ 1000000000)))))) gF (fun hb => s_load1 (cs := (Feeder.av f).cells) (c := I f.drop) 0 tyS3 (.tmpC hb 39 (.ptr (σ0 0) 7)) rfl)) (.cons (Step.guard _ rfl (.bool (((!((decide (1 ≤ f.vLo) && decide (f.vLo ≤ f.vHi)) && decide (f.vHi ≤ 1000000))) || (!((decide (1 ≤ f.sLo) && decide (f.sLo ≤ f.sHi)) && decide (f.sHi ≤ 1000000000)))))) gF (fun hb => s_call (r := .bool ((decide (0 ≤ f.drop) && decide (f.drop ≤ 1000000)))) (.func 51) (.cons (.tmpC hb 40 (I f.drop)) (.cons (.int .i64 (0)) (.cons (.int .i64 (1000000)) .nil))) call51 (F51 (f.drop) (0) (1000000)))) (.cons (Step.guard _ rfl (.bool (((!((decide (1 ≤ f.vLo) && decide (f.vLo ≤ f.vHi)) && decide (f.vHi ≤ 1000000))) || (!((decide (1 ≤ f.sLo) && decide (f.sLo ≤ f.sHi)) && decide (f.sHi ≤ 1000000000)))))) gF (fun hb => s_not (.tmpC hb 41 (.bool ((decide (0 ≤ f.drop) && decide (f.drop ≤ 1000000))))))) (.cons (s_or' (e := (!((!((decide (1 ≤ f.vLo) && decide (f.vLo ≤ f.vHi)) && decide (f.vHi ≤ 1000000))) || (!((decide (1 ≤ f.sLo) && decide (f.sLo ≤ f.sHi)) && decide (f.sHi ≤ 1000000000)))))) (q := (!(decide (0 ≤ f.drop) && decide (f.drop ≤ 1000000)))) (fun h => (notMk h)) (.tmp 38 (.bool (((!((decide (1 ≤ f.vLo) && decide (f.vLo ≤ f.vHi)) && decide (f.vHi ≤ 1000000))) || (!((decide (1 ≤ f.sLo) && decide (f.sLo ≤ f.sHi)) && decide (f.sHi ≤ 1000000000)))))))) (.cons (s_move (.tmp 43 (.bool ((((!((decide (1 ≤ f.vLo) && decide (f.vLo ≤ f.vHi)) && decide (f.vHi ≤ 1000000))) || (!((decide (1 ≤ f.sLo) && decide (f.sLo ≤ f.sHi)) && decide (f.sHi ≤ 1000000000)))) || (!(decide (0 ≤ f.drop) && decide (f.drop ≤ 1000000)))))))) (.cons (Step.guard _ rfl (.bool ((((!((decide (1 ≤ f.vLo) && decide (f.vLo ≤ f.vHi)) && decide (f.vHi ≤ 1000000))) || (!((decide (1 ≤ f.sLo) && decide (f.sLo ≤ f.sHi)) && decide (f.sHi ≤ 1000000000)))) || (!(decide (0 ≤ f.drop) && decide (f.drop ≤ 1000000)))))) gF (fun hb => s_fieldAddr fld28_6 (.tmp 1 (.ptr (σ0 0) 0)))) (.cons (Step.guard _ rfl (.bool ((((!((decide (1 ≤ f.vLo) && decide (f.vLo ≤ f.vHi)) && decide (f.vHi ≤ 1000000))) || (!((decide (1 ≤ f.sLo) && decide (f.sLo ≤ f.sHi)) && decide (f.sHi ≤ 1000000000)))) || (!(decide (0 ≤ f.drop) && decide (f.drop ≤ 1000000)))))) gF (fun hb => s_load1 (cs := (Feeder.av f).cells) (c := I f.limit) 0 tyS3 (.tmpC hb 45 (.ptr (σ0 0) 8)) rfl)) (.cons (Step.guard _ rfl (.bool ((((!((decide (1 ≤ f.vLo) && decide (f.vLo ≤ f.vHi)) && decide (f.vHi ≤ 1000000))) || (!((decide (1 ≤ f.sLo) && decide (f.sLo ≤ f.sHi)) && decide (f.sHi ≤ 1000000000)))) || (!(decide (0 ≤ f.drop) && decide (f.drop ≤ 1000000)))))) gF (fun hb => s_call (r := .bool ((decide (1 ≤ f.limit) && decide (f.limit ≤ 100000000)))) (.func 51) (.cons (.tmpC hb 46 (I f.limit)) (.cons (.int .i64 (1)) (.cons (.int .i64 (100000000)) .nil))) call51 (F51 (f.limit) (1) (100000000)))) (.cons (Step.guard _ rfl (.bool ((((!((decide (1 ≤ f.vLo) && decide (f.vLo ≤ f.vHi)) && decide (f.vHi ≤ 1000000))) || (!((decide (1 ≤ f.sLo) && decide (f.sLo ≤ f.sHi)) && decide (f.sHi ≤ 1000000000)))) || (!(decide (0 ≤ f.drop) && decide (f.drop ≤ 1000000)))))) gF (fun hb => s_not (.tmpC hb 47 (.bool ((decide (1 ≤ f.limit) && decide (f.limit ≤ 100000000))))))) (.cons (s_or' (e := (!(((!((decide (1 ≤ f.vLo) && decide (f.vLo ≤ f.vHi)) && decide (f.vHi ≤ 1000000))) || (!((decide (1 ≤ f.sLo) && decide (f.sLo ≤ f.sHi)) && decide (f.sHi ≤ 1000000000)))) || (!(decide (0 ≤ f.drop) && decide (f.drop ≤ 1000000)))))) (q := (!(decide (1 ≤ f.limit) && decide (f.limit ≤ 100000000)))) (fun h => (notMk h)) (.tmp 44 (.bool ((((!((decide (1 ≤ f.vLo) && decide (f.vLo ≤ f.vHi)) && decide (f.vHi ≤ 1000000))) || (!((decide (1 ≤ f.sLo) && decide (f.sLo ≤ f.sHi)) && decide (f.sHi ≤ 1000000000)))) || (!(decide (0 ≤ f.drop) && decide (f.drop ≤ 1000000)))))))) (.cons (s_assign (.tmp 49 (.bool (((((!((decide (1 ≤ f.vLo) && decide (f.vLo ≤ f.vHi)) && decide (f.vHi ≤ 1000000))) || (!((decide (1 ≤ f.sLo) && decide (f.sLo ≤ f.sHi)) && decide (f.sHi ≤ 1000000000)))) || (!(decide (0 ≤ f.drop) && decide (f.drop ≤ 1000000)))) || (!(decide (1 ≤ f.limit) && decide (f.limit ≤ 100000000)))))))) .nil))))))))))))))))))))))) ?_)
   refine AC.cend (((((!((decide (1 ≤ f.vLo) && decide (f.vLo ≤ f.vHi)) && decide (f.vHi ≤ 1000000))) || (!((decide (1 ≤ f.sLo) && decide (f.sLo ≤ f.sHi)) && decide (f.sHi ≤ 1000000000)))) || (!(decide (0 ≤ f.drop) && decide (f.drop ≤ 1000000)))) || (!(decide (1 ≤ f.limit) && decide (f.limit ≤ 100000000))))) rfl rfl (fun hc => ?_) (fun hc => ?_)
   ·have q5 := (iO (iO (iO (iN (iA (iA iD iD) iD)) (iN (iA (iA iD iD) iD))) (iN (iA iD iD))) (iN (iA iD iD))).1 hc
    refine AC.rq (fun σ6 => RegOK.m1 [2, 3, 4] ⟨[(2, I 0), (3, I 0), (4, I 7)], (.box (σ0 0) (Feeder.av f).cells) :: mem⟩ (.cons (s_assign (.int .i64 (0))) (.cons (s_assign (.int .i64 (0))) (.cons (s_assign (.int .i64 (7))) .nil))) ?_)
    refine AC.ret ?_
    refine blockQ_r ?_
    refine thenQ_r ?_
    exact FinQ.ret (result3 rfl (res_tmp (v := I 0) rfl rfl) (res_tmp (v := I 0) rfl rfl) (res_tmp (v := I 7) rfl rfl)) ⟨by unfold check headErr; grind, rfl⟩
   ·have q6 := iF (iO (iO (iO (iN (iA (iA iD iD) iD)) (iN (iA (iA iD iD) iD))) (iN (iA iD iD))) (iN (iA iD iD))) hc
    refine AC.skip ?_
    refine blockQ_n ?_
    refine thenQ_n ?_
    refine AC.rq (fun σ7 => RegOK.m1 [1, 3, 4] ⟨[(1, .ptr (σ0 0) 0), (3, I ((cabsE f.cables).1)), (4, I ((cabsE f.cables).2))], (.box (σ0 0) (Feeder.av f).cells) :: mem⟩ (.cons (s_fieldAddr fld28_0 (.tmp 1 (.ptr (σ0 0) 0))) (.cons (s_load1 (cs := (Feeder.av f).cells) (c := .slice ((f.cables).map Cable.av) none) 0 tyS22 (.tmp 51 (.ptr (σ0 0) 0)) rfl) (.cons (s_call (r := .tuple [I ((cabsE f.cables).1), I ((cabsE f.cables).2)]) (.func 63) (.cons (.tmp 52 (.slice ((f.cables).map Cable.av) none)) (.cons (.func 64) (.cons (.func 65) .nil))) call63 (F63 (f.cables) (by omega) (by exact hc4))) (.cons (s_move (.tmp 53 (.tuple [I ((cabsE f.cables).1), I ((cabsE f.cables).2)]))) (.cons (s_extract (v := I ((cabsE f.cables).1)) (.tmp 50 (.tuple [I ((cabsE f.cables).1), I ((cabsE f.cables).2)])) rfl) (.cons (s_extract (v := I ((cabsE f.cables).2)) (.tmp 50 (.tuple [I ((cabsE f.cables).1), I ((cabsE f.cables).2)])) rfl) (.cons (s_assign (.tmp 54 (I ((cabsE f.cables).1)))) (.cons (s_assign (.tmp 55 (I ((cabsE f.cables).2)))) .nil)))))))) ?_)
    refine AC.seq ?_
    refine AC.rq (fun σ8 => RegOK.m1 [1, 3, 4, 57] ⟨[(1, .ptr (σ0 0) 0), (3, I ((cabsE f.cables).1)), (4, I ((cabsE f.cables).2)), (57, .bool (decide ((cabsE f.cables).2 ≠ 0)))], (.box (σ0 0) (Feeder.av f).cells) :: mem⟩ (.cons (s_move (.tmp 4 (I ((cabsE f.cables).2)))) (.cons (s_neq (.tmp 56 (I ((cabsE f.cables).2))) (.int .i64 (0))) .nil)) ?_)
    refine AC.cend (decide ((cabsE f.cables).2 ≠ 0)) rfl rfl (fun hc => ?_) (fun hc => ?_)
    ·have q7 := iD.1 hc
     refine AC.rq (fun σ9 => RegOK.m1 [2, 3, 4] ⟨[(2, I 1), (3, I ((cabsE f.cables).1)), (4, I ((cabsE f.cables).2))], (.box (σ0 0) (Feeder.av f).cells) :: mem⟩ (.cons (s_move (.tmp 3 (I ((cabsE f.cables).1)))) (.cons (s_move (.tmp 4 (I ((cabsE f.cables).2)))) (.cons (s_assign (.int .i64 (1))) (.cons (s_assign (.tmp 58 (I ((cabsE f.cables).1)))) (.cons (s_assign (.tmp 59 (I ((cabsE f.cables).2)))) .nil))))) ?_)
     refine AC.ret ?_
     refine thenQ_r ?_
     exact FinQ.ret (result3 rfl (res_tmp (v := I 1) rfl rfl) (res_tmp (v := I ((cabsE f.cables).1)) rfl rfl) (res_tmp (v := I ((cabsE f.cables).2)) rfl rfl)) ⟨by unfold check headErr; grind, rfl⟩
    ·have q8 := iF iD hc
     refine AC.skip ?_
     refine thenQ_n ?_
     refine AC.seq ?_
     refine AC.rq (fun σ10 => RegOK.m1 [1, 3, 4] ⟨[(1, .ptr (σ0 0) 0), (3, I ((fussE f.fuses).1)), (4, I ((fussE f.fuses).2))], (.box (σ0 0) (Feeder.av f).cells) :: mem⟩ (.cons (s_fieldAddr fld28_1 (.tmp 1 (.ptr (σ0 0) 0))) (.cons (s_load1 (cs := (Feeder.av f).cells) (c := .slice ((f.fuses).map Fuse.av) none) 0 tyS23 (.tmp 61 (.ptr (σ0 0) 1)) rfl) (.cons (s_call (r := .tuple [I ((fussE f.fuses).1), I ((fussE f.fuses).2)]) (.func 66) (.cons (.tmp 62 (.slice ((f.fuses).map Fuse.av) none)) (.cons (.func 67) (.cons (.func 68) .nil))) call66 (F66 (f.fuses) (by omega) (by exact hc5))) (.cons (s_move (.tmp 63 (.tuple [I ((fussE f.fuses).1), I ((fussE f.fuses).2)]))) (.cons (s_extract (v := I ((fussE f.fuses).1)) (.tmp 60 (.tuple [I ((fussE f.fuses).1), I ((fussE f.fuses).2)])) rfl) (.cons (s_extract (v := I ((fussE f.fuses).2)) (.tmp 60 (.tuple [I ((fussE f.fuses).1), I ((fussE f.fuses).2)])) rfl) (.cons (s_assign (.tmp 64 (I ((fussE f.fuses).1)))) (.cons (s_assign (.tmp 65 (I ((fussE f.fuses).2)))) .nil)))))))) ?_)
     refine AC.rq (fun σ11 => RegOK.m1 [1, 3, 4, 67] ⟨[(1, .ptr (σ0 0) 0), (3, I ((fussE f.fuses).1)), (4, I ((fussE f.fuses).2)), (67, .bool (decide ((fussE f.fuses).2 ≠ 0)))], (.box (σ0 0) (Feeder.av f).cells) :: mem⟩ (.cons (s_move (.tmp 4 (I ((fussE f.fuses).2)))) (.cons (s_neq (.tmp 66 (I ((fussE f.fuses).2))) (.int .i64 (0))) .nil)) ?_)
     refine AC.cend (decide ((fussE f.fuses).2 ≠ 0)) rfl rfl (fun hc => ?_) (fun hc => ?_)
     ·have q9 := iD.1 hc
      refine AC.rq (fun σ12 => RegOK.m1 [2, 3, 4] ⟨[(2, I 2), (3, I ((fussE f.fuses).1)), (4, I ((fussE f.fuses).2))], (.box (σ0 0) (Feeder.av f).cells) :: mem⟩ (.cons (s_move (.tmp 3 (I ((fussE f.fuses).1)))) (.cons (s_move (.tmp 4 (I ((fussE f.fuses).2)))) (.cons (s_assign (.int .i64 (2))) (.cons (s_assign (.tmp 68 (I ((fussE f.fuses).1)))) (.cons (s_assign (.tmp 69 (I ((fussE f.fuses).2)))) .nil))))) ?_)
      refine AC.ret ?_
      refine thenQ_r ?_
      exact FinQ.ret (result3 rfl (res_tmp (v := I 2) rfl rfl) (res_tmp (v := I ((fussE f.fuses).1)) rfl rfl) (res_tmp (v := I ((fussE f.fuses).2)) rfl rfl)) ⟨by unfold check headErr; grind, rfl⟩
     ·have q10 := iF iD hc
      refine AC.skip ?_
      refine thenQ_n ?_
      refine AC.rq (fun σ13 => RegOK.mkN [3, 4] ⟨[(3, I ((nodsE f f.nodes).1)), (4, I ((nodsE f f.nodes).2))], (.box (σ0 0) (Feeder.av f).cells) :: mem⟩ (.cons (s_fieldAddr fld28_2 (.tmp 1 (.ptr (σ0 0) 0))) (.cons (s_load1 (cs := (Feeder.av f).cells) (c := .slice ((f.nodes).map Node.av) none) 0 tyS24 (.tmp 71 (.ptr (σ0 0) 2)) rfl) (.cons (s_makeFunc .nil (.cons (.tmp 1 (.ptr (σ0 0) 0)) .nil)) (.cons (s_callR (r := .tuple [I ((nodsE f f.nodes).1), I ((nodsE f f.nodes).2)]) (es := ([Ent.box (σ0 0) (Feeder.av f).cells])) (.func 69) (.cons (.tmp 72 (.slice ((f.nodes).map Node.av) none)) (.cons (.func 70) (.cons (.tmp 73 (.func 71 [] [.ptr (σ0 0) 0])) .nil))) call69 (F69 (f.nodes) f (σ0 0) (by exact hok) (by omega) (by exact hc6))) (.cons (s_move (.tmp 74 (.tuple [I ((nodsE f f.nodes).1), I ((nodsE f f.nodes).2)]))) (.cons (s_extract (v := I ((nodsE f f.nodes).1)) (.tmp 70 (.tuple [I ((nodsE f f.nodes).1), I ((nodsE f f.nodes).2)])) rfl) (.cons (s_extract (v := I ((nodsE f f.nodes).2)) (.tmp 70 (.tuple [I ((nodsE f f.nodes).1), I ((nodsE f f.nodes).2)])) rfl) (.cons (s_assign (.tmp 75 (I ((nodsE f f.nodes).1)))) (.cons (s_assign (.tmp 76 (I ((nodsE f f.nodes).2)))) .nil))))))))) (by kernel_rfl) (by kernel_rfl) (by kernel_rfl) ⟨trivial, trivial, trivial, (fun lq => (Has.cons (List.mem_of_getElem? (i := 0) rfl) (Has.nil _))), trivial, trivial, trivial, trivial, trivial, trivial⟩ (by kernel_rfl) (by kernel_rfl) (by kernel_rfl) ?_)
      refine AC.seq ?_
      refine AC.rq (fun σ14 => RegOK.m1 [3, 4, 78] ⟨[(3, I ((nodsE f f.nodes).1)), (4, I ((nodsE f f.nodes).2)), (78, .bool (decide ((nodsE f f.nodes).2 ≠ 0)))], (.box (σ0 0) (Feeder.av f).cells) :: mem⟩ (.cons (s_move (.tmp 4 (I ((nodsE f f.nodes).2)))) (.cons (s_neq (.tmp 77 (I ((nodsE f f.nodes).2))) (.int .i64 (0))) .nil)) ?_)
      refine AC.cend (decide ((nodsE f f.nodes).2 ≠ 0)) rfl rfl (fun hc => ?_) (fun hc => ?_)
      ·have q11 := iD.1 hc
       refine AC.rq (fun σ15 => RegOK.m1 [2, 3, 4] ⟨[(2, I 3), (3, I ((nodsE f f.nodes).1)), (4, I ((nodsE f f.nodes).2))], (.box (σ0 0) (Feeder.av f).cells) :: mem⟩ (.cons (s_move (.tmp 3 (I ((nodsE f f.nodes).1)))) (.cons (s_move (.tmp 4 (I ((nodsE f f.nodes).2)))) (.cons (s_assign (.int .i64 (3))) (.cons (s_assign (.tmp 79 (I ((nodsE f f.nodes).1)))) (.cons (s_assign (.tmp 80 (I ((nodsE f f.nodes).2)))) .nil))))) ?_)
       refine AC.ret ?_
       refine thenQ_r ?_
       exact FinQ.ret (result3 rfl (res_tmp (v := I 3) rfl rfl) (res_tmp (v := I ((nodsE f f.nodes).1)) rfl rfl) (res_tmp (v := I ((nodsE f f.nodes).2)) rfl rfl)) ⟨by unfold check headErr; grind, rfl⟩
      ·have q12 := iF iD hc
       refine AC.skip ?_
       refine thenQ_n ?_
       refine AC.rq (fun σ16 => RegOK.m1 [2, 3, 4] ⟨[(2, I 0), (3, I 0), (4, I 0)], (.box (σ0 0) (Feeder.av f).cells) :: mem⟩ (.cons (s_assign (.int .i64 (0))) (.cons (s_assign (.int .i64 (0))) (.cons (s_assign (.int .i64 (0))) .nil))) ?_)
       refine AC.ret ?_
       exact FinQ.ret (result3 rfl (res_tmp (v := I 0) rfl rfl) (res_tmp (v := I 0) rfl rfl) (res_tmp (v := I 0) rfl rfl)) ⟨by unfold check headErr; grind, rfl⟩
end Go.Proofs.Yteomgedahkpnlaa
end
section
set_option linter.unusedVariables false
set_option linter.unusedSimpArgs false
set_option maxRecDepth 100000
namespace Go.Proofs.Yteomgedahkpnlaa
open Go.Proofs
theorem F47 (f : Feeder) (c : Int) (hok : f.ok) : Pure Try.prog 47 [Feeder.av f, I c] (I (askedOf f c)) := by
 intro mem
 have hln := hok.2.2.1
 refine Meets.body 1 Try.func47 rfl rfl ?_
 refine AC.rq (fun σ0 => RegOK.m1 [1, 2] ⟨[(1, I c), (2, .ptr (σ0 0) 0)], (.box (σ0 0) (Feeder.av f).cells) :: mem⟩ (.cons (s_box 0 (σ0 0) (.tmp 0 (Feeder.av f)) rfl) (.cons (s_assign (.int .i64 (0))) .nil)) ?_)
 refine AC.rq (fun σ1 => RegOK.m1 [1, 2, 7] ⟨[(1, I c), (2, .ptr (σ0 0) 0), (7, I ((check f).2.2))], (.box (σ0 0) (Feeder.av f).cells) :: mem⟩ (.cons (s_loadA (cs := (Feeder.av f).cells) (l := (Feeder.av f).cells) 0 tyA28 (.tmp 2 (.ptr (σ0 0) 0)) rfl rfl) (.cons (s_call (r := .tuple [I ((check f).1), I ((check f).2.1), I ((check f).2.2)]) (.func 25) (.cons (.tmp 9 (Feeder.av f)) .nil) call25 (F25 (f) (by exact hok))) (.cons (s_move (.tmp 10 (.tuple [I ((check f).1), I ((check f).2.1), I ((check f).2.2)]))) (.cons (s_extract (v := I ((check f).1)) (.tmp 8 (.tuple [I ((check f).1), I ((check f).2.1), I ((check f).2.2)])) rfl) (.cons (s_extract (v := I ((check f).2.1)) (.tmp 8 (.tuple [I ((check f).1), I ((check f).2.1), I ((check f).2.2)])) rfl) (.cons (s_extract (v := I ((check f).2.2)) (.tmp 8 (.tuple [I ((check f).1), I ((check f).2.1), I ((check f).2.2)])) rfl) (.cons (s_assign (.tmp 11 (I ((check f).1)))) (.cons (s_assign (.tmp 12 (I ((check f).2.1)))) (.cons (s_assign (.tmp 13 (I ((check f).2.2)))) .nil))))))))) ?_)
 refine AC.seq ?_
 refine AC.rq (fun σ2 => RegOK.m1 [7, 24] ⟨[(7, I ((check f).2.2)), (24, .bool ((decide ((check f).2.2 = 0) && (!(decide (0 ≤ c) && decide (c ≤ ((f.nodes.length : Int) - 1)))))))], (.box (σ0 0) (Feeder.av f).cells) :: mem⟩ (.cons (s_move (.tmp 7 (I ((check f).2.2)))) (.cons (s_eql (.tmp 14 (I ((check f).2.2))) (.int .i64 (0))) (.cons (s_move (.tmp 15 (.bool (decide ((check f).2.2 = 0))))) (.cons (Step.guard _ rfl (.bool (decide ((check f).2.2 = 0))) gT (fun hb => s_move (.tmp 1 (I c)))) (.cons (Step.guard _ rfl (.bool (decide ((check f).2.2 = 0))) gT (fun hb => s_fieldAddr fld28_2 (.tmp 2 (.ptr (σ0 0) 0)))) (.cons (Step.guard _ rfl (.bool (decide ((check f).2.2 = 0))) gT (fun hb => s_load1 (cs := (Feeder.av f).cells) (c := .slice ((f.nodes).map Node.av) none) 0 tyS24 (.tmpC hb 18 (.ptr (σ0 0) 2)) rfl)) (.cons (Step.guard _ rfl (.bool (decide ((check f).2.2 = 0))) gT (fun hb => s_lenM (l := f.nodes) slc24 (.tmpC hb 19 (.slice ((f.nodes).map Node.av) none)))) (.cons (Step.guard _ rfl (.bool (decide ((check f).2.2 = 0))) gT (fun hb => s_sub (.tmpC hb 20 (I (f.nodes.length : Int))) (.int .i64 (1)) (inK_i64 (by have hq := iD.1 hb; omega)))) (.cons (Step.guard _ rfl (.bool (decide ((check f).2.2 = 0))) gT (fun hb => s_call (r := .bool ((decide (0 ≤ c) && decide (c ≤ ((f.nodes.length : Int) - 1))))) (.func 51) (.cons (.tmpC hb 17 (I c)) (.cons (.int .i64 (0)) (.cons (.tmpC hb 21 (I ((f.nodes.length : Int) - 1))) .nil))) call51 (F51 (c) (0) (((f.nodes.length : Int) - 1))))) (.cons (Step.guard _ rfl (.bool (decide ((check f).2.2 = 0))) gT (fun hb => s_not (.tmpC hb 22 (.bool ((decide (0 ≤ c) && decide (c ≤ ((f.nodes.length : Int) - 1)))))))) (.cons (s_and' (q := (!(decide (0 ≤ c) && decide (c ≤ ((f.nodes.length : Int) - 1))))) (fun h => h) (.tmp 16 (.bool (decide ((check f).2.2 = 0))))) .nil))))))))))) ?_)
 refine AC.cend ((decide ((check f).2.2 = 0) && (!(decide (0 ≤ c) && decide (c ≤ ((f.nodes.length : Int) - 1)))))) rfl rfl (fun hc => ?_) (fun hc => ?_)
 ·have q1 := (iA iD (iN (iA iD iD))).1 hc
  refine AC.re (fun σ3 => RegOK.m1 [7] ⟨[(7, I 4)], (.box (σ0 0) (Feeder.av f).cells) :: mem⟩ (.cons (s_assign (.int .i64 (4))) .nil) ?_)
  refine thenQ_n ?_
  refine AC.rq (fun σ4 => RegOK.m1 [4] ⟨[(4, I 4)], (.box (σ0 0) (Feeder.av f).cells) :: mem⟩ (.cons (s_move (.tmp 7 (I 4))) (.cons (s_assign (.tmp 25 (I 4))) .nil)) ?_)
  refine AC.ret ?_
  exact FinQ.ret (result1 rfl (res_tmp (v := I 4) rfl rfl)) ⟨by refine congrArg I ?_; unfold askedOf; grind, rfl⟩
 ·have q2 := iF (iA iD (iN (iA iD iD))) hc
  refine AC.skip ?_
  refine thenQ_n ?_
  refine AC.rq (fun σ4 => RegOK.m1 [4] ⟨[(4, I ((check f).2.2))], (.box (σ0 0) (Feeder.av f).cells) :: mem⟩ (.cons (s_move (.tmp 7 (I ((check f).2.2)))) (.cons (s_assign (.tmp 25 (I ((check f).2.2)))) .nil)) ?_)
  refine AC.ret ?_
  exact FinQ.ret (result1 rfl (res_tmp (v := I ((check f).2.2)) rfl rfl)) ⟨by refine congrArg I ?_; unfold askedOf; grind, rfl⟩
theorem F45 (f : Feeder) (c : Int) (hok : f.ok) : Pure Try.prog 45 [Feeder.av f, I c] (I (innerOf f c)) := by
 intro mem
 refine Meets.body 1 Try.func45 rfl rfl ?_
 refine AC.rq (fun σ0 => RegOK.m1 [1, 2] ⟨[(1, I c), (2, .ptr (σ0 0) 0)], (.box (σ0 0) (Feeder.av f).cells) :: mem⟩ (.cons (s_box 0 (σ0 0) (.tmp 0 (Feeder.av f)) rfl) (.cons (s_assign (.int .i64 (0))) .nil)) ?_)
 refine AC.rq (fun σ1 => RegOK.m1 [1, 5] ⟨[(1, I c), (5, I (askedOf f c))], (.box (σ0 0) (Feeder.av f).cells) :: mem⟩ (.cons (s_loadA (cs := (Feeder.av f).cells) (l := (Feeder.av f).cells) 0 tyA28 (.tmp 2 (.ptr (σ0 0) 0)) rfl rfl) (.cons (s_move (.tmp 1 (I c))) (.cons (s_call (r := I (askedOf f c)) (.func 47) (.cons (.tmp 6 (Feeder.av f)) (.cons (.tmp 7 (I c)) .nil)) call47 (F47 (f) (c) (by exact hok))) (.cons (s_assign (.tmp 8 (I (askedOf f c)))) .nil)))) ?_)
 refine AC.seq ?_
 refine AC.rq (fun σ2 => RegOK.m1 [5, 14] ⟨[(5, I (askedOf f c)), (14, .bool ((decide ((askedOf f c) = 0) && decide (c = 0))))], (.box (σ0 0) (Feeder.av f).cells) :: mem⟩ (.cons (s_move (.tmp 5 (I (askedOf f c)))) (.cons (s_eql (.tmp 9 (I (askedOf f c))) (.int .i64 (0))) (.cons (s_move (.tmp 10 (.bool (decide ((askedOf f c) = 0))))) (.cons (Step.guard _ rfl (.bool (decide ((askedOf f c) = 0))) gT (fun hb => s_move (.tmp 1 (I c)))) (.cons (Step.guard _ rfl (.bool (decide ((askedOf f c) = 0))) gT (fun hb => s_eql (.tmpC hb 12 (I c)) (.int .i64 (0)))) (.cons (s_and' (q := decide (c = 0)) (fun h => h) (.tmp 11 (.bool (decide ((askedOf f c) = 0))))) .nil)))))) ?_)
 refine AC.cend ((decide ((askedOf f c) = 0) && decide (c = 0))) rfl rfl (fun hc => ?_) (fun hc => ?_)
 ·have q1 := (iA iD iD).1 hc
  refine AC.re (fun σ3 => RegOK.m1 [5] ⟨[(5, I 2)], (.box (σ0 0) (Feeder.av f).cells) :: mem⟩ (.cons (s_assign (.int .i64 (2))) .nil) ?_)
  refine thenQ_n ?_
  refine AC.rq (fun σ4 => RegOK.m1 [4] ⟨[(4, I 2)], (.box (σ0 0) (Feeder.av f).cells) :: mem⟩ (.cons (s_move (.tmp 5 (I 2))) (.cons (s_assign (.tmp 15 (I 2))) .nil)) ?_)
  refine AC.ret ?_
  exact FinQ.ret (result1 rfl (res_tmp (v := I 2) rfl rfl)) ⟨by refine congrArg I ?_; unfold innerOf; grind, rfl⟩
 ·have q2 := iF (iA iD iD) hc
  refine AC.skip ?_
  refine thenQ_n ?_
  refine AC.rq (fun σ4 => RegOK.m1 [4] ⟨[(4, I (askedOf f c))], (.box (σ0 0) (Feeder.av f).cells) :: mem⟩ (.cons (s_move (.tmp 5 (I (askedOf f c)))) (.cons (s_assign (.tmp 15 (I (askedOf f c)))) .nil)) ?_)
  refine AC.ret ?_
  exact FinQ.ret (result1 rfl (res_tmp (v := I (askedOf f c)) rfl rfl)) ⟨by refine congrArg I ?_; unfold innerOf; grind, rfl⟩
end Go.Proofs.Yteomgedahkpnlaa
end
section
set_option linter.unusedVariables false
set_option linter.unusedSimpArgs false
set_option maxRecDepth 100000
namespace Go.Proofs.Yteomgedahkpnlaa
open Go.Proofs
theorem F17 (f : Feeder) (c : Int) (hok : f.ok) : Pure Try.prog 17 [Feeder.av f, I c] (.tuple [I ((ownRes f c).1), I ((ownRes f c).2)]) := by
 intro mem
 refine Meets.body 2 Try.func17 rfl rfl ?_
 refine AC.rq (fun σ0 => RegOK.m1 [1, 2] ⟨[(1, I c), (2, .ptr (σ0 0) 0)], (.box (σ0 0) (Feeder.av f).cells) :: .hole :: mem⟩ (.cons (s_box 0 (σ0 0) (.tmp 0 (Feeder.av f)) rfl) (.cons (s_assign (.int .i64 (0))) (.cons (s_assign (.int .i64 (0))) .nil))) ?_)
 refine AC.seq ?_
 refine AC.rq (fun σ1 => RegOK.m1 [1, 2, 6] ⟨[(1, I c), (2, .ptr (σ0 0) 0), (6, I (askedOf f c))], (.box (σ0 0) (Feeder.av f).cells) :: .hole :: mem⟩ (.cons (s_loadA (cs := (Feeder.av f).cells) (l := (Feeder.av f).cells) 0 tyA28 (.tmp 2 (.ptr (σ0 0) 0)) rfl rfl) (.cons (s_move (.tmp 1 (I c))) (.cons (s_call (r := I (askedOf f c)) (.func 47) (.cons (.tmp 9 (Feeder.av f)) (.cons (.tmp 10 (I c)) .nil)) call47 (F47 (f) (c) (by exact hok))) (.cons (s_assign (.tmp 11 (I (askedOf f c)))) .nil)))) ?_)
 refine AC.rq (fun σ2 => RegOK.m1 [1, 2, 6, 13] ⟨[(1, I c), (2, .ptr (σ0 0) 0), (6, I (askedOf f c)), (13, .bool (decide ((askedOf f c) ≠ 0)))], (.box (σ0 0) (Feeder.av f).cells) :: .hole :: mem⟩ (.cons (s_move (.tmp 6 (I (askedOf f c)))) (.cons (s_neq (.tmp 12 (I (askedOf f c))) (.int .i64 (0))) .nil)) ?_)
 refine AC.cend (decide ((askedOf f c) ≠ 0)) rfl rfl (fun hc => ?_) (fun hc => ?_)
 ·have q1 := iD.1 hc
  refine AC.rq (fun σ3 => RegOK.m1 [4, 5] ⟨[(4, I 0), (5, I (askedOf f c))], (.box (σ0 0) (Feeder.av f).cells) :: .hole :: mem⟩ (.cons (s_move (.tmp 6 (I (askedOf f c)))) (.cons (s_assign (.int .i64 (0))) (.cons (s_assign (.tmp 14 (I (askedOf f c)))) .nil))) ?_)
  refine AC.ret ?_
  refine thenQ_r ?_
  exact FinQ.ret (result2 rfl (res_tmp (v := I 0) rfl rfl) (res_tmp (v := I (askedOf f c)) rfl rfl)) ⟨by unfold ownRes; first | rw [if_pos (by omega)] | (rw [if_neg (by omega)]; unfold ownOf; first | (rw [if_pos (by show (guardsOf f n).length = 0; omega)]; done) | (rw [if_neg (by show ¬ (guardsOf f n).length = 0; omega)]; rfl)), rfl⟩
 ·have q2 := iF iD hc
  have hz := asked_zero (f := f) (c := c) (by omega)
  obtain ⟨n, hcn⟩ : ∃ n : Nat, c = (n : Int) := ⟨c.toNat, by omega⟩
  subst hcn
  have g := FG.of hz.1
  refine AC.skip ?_
  refine thenQ_n ?_
  refine AC.seq ?_
  refine AC.rq (fun σ4 => RegOK.m1 [17, 18, 19] ⟨[(17, .slice (((guardsOf f n)).map Guard.av) none), (18, I ((guardsOf f n).length : Int)), (19, I 0)], (.box (σ0 0) (Feeder.av f).cells) :: .hole :: mem⟩ (.cons (s_loadA (cs := (Feeder.av f).cells) (l := (Feeder.av f).cells) 0 tyA28 (.tmp 2 (.ptr (σ0 0) 0)) rfl rfl) (.cons (s_move (.tmp 1 (I (n : Int)))) (.cons (s_call (r := .slice (((guardsOf f n)).map Guard.av) none) (.func 48) (.cons (.tmp 15 (Feeder.av f)) (.cons (.tmp 16 (I (n : Int))) .nil)) call48 (F48 (f) (n) (by assumption) (by omega))) (.cons (s_lenM (l := (guardsOf f n)) slc90 (.tmp 17 (.slice (((guardsOf f n)).map Guard.av) none))) (.cons (s_move (.int .i64 (0))) .nil))))) ?_)
  refine AC.block ?_
  refine AC.turns (ACL.turn ?_)
  refine AC.rq (fun σ5 => RegOK.m1 [17, 19, 20] ⟨[(17, .slice (((guardsOf f n)).map Guard.av) none), (19, I 0), (20, .bool (decide (0 < ((guardsOf f n).length : Int))))], (.box (σ0 0) (Feeder.av f).cells) :: .hole :: mem⟩ (.cons (s_lss (.tmp 19 (I 0)) (.tmp 18 (I ((guardsOf f n).length : Int)))) .nil) ?_)
  refine AC.cseq (decide (0 < ((guardsOf f n).length : Int))) rfl rfl (fun hc => ?_) (fun hc => ?_)
  ·have q3 := iD.1 hc
   refine AC.skip ?_
   refine thenQ_n ?_
   refine AC.bseq ?_
   refine AC.rq (fun σ6 => RegOK.m1 [8] ⟨[(8, .ptr (σ6 2) 0)], (.box (σ0 0) (Feeder.av f).cells) :: (.box (σ6 2) (Guard.av ((guardsOf f n).getD 0 default)).cells) :: mem⟩ (.cons (s_ixM (l := (guardsOf f n)) (f := Guard.av) (default) slc90 (.tmp 17 (.slice (((guardsOf f n)).map Guard.av) none)) (.tmp 19 (I 0)) (by omega) rfl) (.cons (s_loadAe (l := (Guard.av ((guardsOf f n).getD 0 default)).cells) tyA96 (.tmp 21 (.eptr (Guard.av ((guardsOf f n).getD 0 default)) 0)) rfl rfl) (.cons (s_alloc 1 (σ6 2) zero96) (.cons (s_store (cs := [I 0, .str (⟨#[]⟩), I 0, .nils, I 0]) 1 sz96 (.tmp 8 (.ptr (σ6 2) 0)) (.tmp 22 (Guard.av ((guardsOf f n).getD 0 default))) rfl rfl rfl (Nat.le_of_ble_eq_true rfl)) .nil)))) ?_)
   refine AC.rq (fun σ7 => RegOK.m1 [4, 5] ⟨[(4, I (((guardsOf f n).getD 0 default).node)), (5, I 0)], (.box (σ0 0) (Feeder.av f).cells) :: (.box (σ6 2) (Guard.av ((guardsOf f n).getD 0 default)).cells) :: mem⟩ (.cons (s_fieldAddr fld96_0 (.tmp 8 (.ptr (σ6 2) 0))) (.cons (s_load1 (cs := (Guard.av ((guardsOf f n).getD 0 default)).cells) (c := I (((guardsOf f n).getD 0 default).node)) 1 tyS3 (.tmp 23 (.ptr (σ6 2) 0)) rfl) (.cons (s_assign (.tmp 24 (I (((guardsOf f n).getD 0 default).node)))) (.cons (s_assign (.int .i64 (0))) .nil)))) ?_)
   refine AC.ret ?_
   refine blockQ_r ?_
   refine thenQ_r ?_
   refine thenQ_r ?_
   refine blockQ_r ?_
   refine thenQ_r ?_
   exact FinQ.ret (result2 rfl (res_tmp (v := I (((guardsOf f n).getD 0 default).node)) rfl rfl) (res_tmp (v := I 0) rfl rfl)) ⟨by unfold ownRes; first | rw [if_pos (by omega)] | (rw [if_neg (by omega)]; unfold ownOf; first | (rw [if_pos (by show (guardsOf f n).length = 0; omega)]; done) | (rw [if_neg (by show ¬ (guardsOf f n).length = 0; omega)]; rfl)), rfl⟩
  ·have q4 := iF iD hc
   refine AC.exit ?_
   refine thenQ_x ?_
   refine thenQ_x ?_
   refine blockQ_x ?_
   refine thenQ_n ?_
   refine AC.rq (fun σ9 => RegOK.m1 [4, 5] ⟨[(4, I (-1)), (5, I 0)], (.box (σ0 0) (Feeder.av f).cells) :: .hole :: mem⟩ (.cons (s_assign (.int .i64 (-1))) (.cons (s_assign (.int .i64 (0))) .nil)) ?_)
   refine AC.ret ?_
   exact FinQ.ret (result2 rfl (res_tmp (v := I (-1)) rfl rfl) (res_tmp (v := I 0) rfl rfl)) ⟨by unfold ownRes; first | rw [if_pos (by omega)] | (rw [if_neg (by omega)]; unfold ownOf; first | (rw [if_pos (by show (guardsOf f n).length = 0; omega)]; done) | (rw [if_neg (by show ¬ (guardsOf f n).length = 0; omega)]; rfl)), rfl⟩
end Go.Proofs.Yteomgedahkpnlaa
end
section
set_option linter.unusedVariables false
set_option linter.unusedSimpArgs false
set_option maxRecDepth 100000
namespace Go.Proofs.Yteomgedahkpnlaa
open Go.Proofs
theorem F96 (l : List Point) : MeetsNew Try.prog 96 [.slice ((l).map Point.av) none] (fun r new => ∃ s0 : Nat, r = .func 124 [] [.ptr s0 0] ∧ new = [Ent.box s0 [.slice ((l).map Point.av) none]]) := by
 refine MeetsNew.body 1 Try.func96 rfl rfl ?_
 intro mem
 refine AC.rq (fun σ0 => RegOK.m1 [1] ⟨[(1, .ptr (σ0 0) 0)], (.box (σ0 0) [.slice ((l).map Point.av) none]) :: mem⟩ (.cons (s_box 0 (σ0 0) (.tmp 0 (.slice ((l).map Point.av) none)) rfl) (.cons (s_assign (.any _)) .nil)) ?_)
 refine AC.rq (fun σ1 => RegOK.m1 [2] ⟨[(2, .func 124 [] [.ptr (σ0 0) 0])], (.box (σ0 0) [.slice ((l).map Point.av) none]) :: mem⟩ (.cons (s_makeFunc .nil (.cons (.tmp 1 (.ptr (σ0 0) 0)) .nil)) (.cons (s_assign (.tmp 3 (.func 124 [] [.ptr (σ0 0) 0]))) .nil)) ?_)
 refine AC.ret ?_
 exact FinQ.ret (result1 rfl (res_tmp (v := .func 124 [] [.ptr (σ0 0) 0]) rfl rfl)) ⟨[Ent.box (σ0 0) [.slice ((l).map Point.av) none]], rfl, _, rfl, rfl⟩
theorem F124 (l : List Point) (hl : (l.length : Int) ≤ 9223372036854775807) (s1 y : Nat) (M : Nat → Nat → List Ent) (Z : List Ent → Prop)
    (hM : ∀ j x, j < l.length → Yields Try.prog y [I ((l.length : Int) - 1 - (j : Int)), Point.av (l.getD (l.length - 1 - j) default)] ((Ent.box s1 [.slice ((l).map Point.av) none]) :: M j x) (fun r m' => (r = .bool true ∧ ∃ z, m' = (Ent.box s1 [.slice ((l).map Point.av) none]) :: M (j + 1) z) ∨ (r = .bool false ∧ ∃ z, m' = (Ent.box s1 [.slice ((l).map Point.av) none]) :: z ∧ Z z))) (x0 : Nat) :
    MeetsT Try.prog 124 [.yieldf y, .ptr s1 0] ((Ent.box s1 [.slice ((l).map Point.av) none]) :: M 0 x0) (fun r m' => r = .tuple [] ∧ ((∃ z, m' = (Ent.box s1 [.slice ((l).map Point.av) none]) :: M l.length z) ∨ ∃ z, m' = (Ent.box s1 [.slice ((l).map Point.av) none]) :: z ∧ Z z)) := by
 intro tl
 refine Meets.body 0 Try.func124 rfl rfl ?_
 refine AC.rq (fun σ0 => RegOK.m1 [0, 1, 3] ⟨[(0, .yieldf y), (1, .ptr s1 0), (3, I ((l.length : Int) - 1))], (.box s1 [.slice ((l).map Point.av) none]) :: (M 0 x0 ++ tl)⟩ (.cons (s_load1 (cs := [.slice ((l).map Point.av) none]) (c := .slice ((l).map Point.av) none) 0 tyS92 (.tmp 1 (.ptr s1 0)) rfl) (.cons (s_lenM (l := l) slc92 (.tmp 4 (.slice ((l).map Point.av) none))) (.cons (s_sub (.tmp 5 (I (l.length : Int))) (.int .i64 (1)) (inK_i64 (by omega))) (.cons (s_assign (.tmp 6 (I ((l.length : Int) - 1)))) .nil)))) ?_)
 refine AC.block ?_
 refine AC.loopW (fun mz T => ∃ (j : Nat), ∃ (i : Int), ∃ (x : Nat), mz = l.length - j ∧ ((j ≤ l.length) ∧ (i = (l.length : Int) - 1 - (j : Int))) ∧ T = ⟨[(0, .yieldf y), (1, .ptr s1 0), (3, I i)], (.box s1 [.slice ((l).map Point.av) none]) :: (M j x ++ tl)⟩) _ ⟨[(0, .yieldf y), (1, .ptr s1 0), (3, I (((l.length : Int) - 1)))], (.box s1 [.slice ((l).map Point.av) none]) :: (M (0) (x0) ++ tl)⟩ ⟨0, ((l.length : Int) - 1), x0, rfl, ⟨(by omega), (by omega)⟩, rfl⟩ (Weak.of [] (by kernel_rfl) (by kernel_rfl)) ?_ Fr.plain
 rintro _ _ ⟨j, i, x, rfl, ⟨hj, hi⟩, rfl⟩
 refine AC.seq ?_
 refine AC.rq (fun σ1 => RegOK.m1 [0, 1, 3, 8] ⟨[(0, .yieldf y), (1, .ptr s1 0), (3, I i), (8, .bool (decide (0 ≤ i)))], (.box s1 [.slice ((l).map Point.av) none]) :: (M j x ++ tl)⟩ (.cons (s_move (.tmp 3 (I i))) (.cons (s_geq (.tmp 7 (I i)) (.int .i64 (0))) .nil)) ?_)
 refine AC.cend (decide (0 ≤ i)) rfl rfl (fun hc => ?_) (fun hc => ?_)
 ·have q1 := iD.1 hc
  refine AC.skip ?_
  refine thenQ_n ?_
  refine AC.bseq ?_
  refine AC.seq (RunL.region ?_)
  refine RunL.chunk Fr.plain 6 (fun σ3_0 => RegOKL.mk [0, 1, 3, 11, 12, 16] ⟨[(0, .yieldf y), (1, .ptr s1 0), (3, I i), (11, .yieldf y), (12, I i), (16, Point.av (l.getD (i).toNat default))], (.box s1 [.slice ((l).map Point.av) none]) :: (M j x ++ tl)⟩ (.cons (s_move (.tmp 0 (.yieldf y))) (.cons (s_move (.tmp 3 (I i))) (.cons (s_load1 (cs := [.slice ((l).map Point.av) none]) (c := .slice ((l).map Point.av) none) 0 tyS92 (.tmp 1 (.ptr s1 0)) rfl) (.cons (s_move (.tmp 3 (I i))) (.cons (s_ixM (l := l) (f := Point.av) (default) slc92 (.tmp 13 (.slice ((l).map Point.av) none)) (.tmp 14 (I i)) (by omega) rfl) (.cons (s_loadAe (l := (Point.av (l.getD (i).toNat default)).cells) tyA141 (.tmp 15 (.eptr (Point.av (l.getD (i).toNat default)) 0)) rfl rfl) .nil)))))) (by kernel_rfl) (by kernel_rfl) (by kernel_rfl) (noNeeds_of _ _ (by kernel_rfl)) (by kernel_rfl) (by kernel_rfl) (by kernel_rfl) ?_)
  have hy9 := hM j x (by omega)
  rw [← hi, show l.length - 1 - j = i.toNat by omega] at hy9
  refine RunL.yield Fr.plain [] ((Ent.box s1 [.slice ((l).map Point.av) none]) :: M j x) tl rfl (.tmp 11 (.yieldf y)) (.cons (.tmp 12 (I i)) (.cons (.tmp 16 (Point.av (l.getD (i).toNat default))) .nil)) ⟨by kernel_rfl, by kernel_rfl⟩ (fun _ _ _ _ _ => rfl) hy9 ?_
  rintro _ _ (⟨rfl, z, rfl⟩ | ⟨rfl, z, rfl, hz⟩)
  ·skip
   refine RunL.chunk Fr.plain 1 (fun σ3_7 => RegOKL.mk [0, 1, 3, 18] ⟨[(0, .yieldf y), (1, .ptr s1 0), (3, I i), (18, .bool ((!true)))], (.box s1 [.slice ((l).map Point.av) none]) :: (M (j + 1) z ++ tl)⟩ (.cons (s_not (.tmp 17 (.bool (true)))) .nil) (by kernel_rfl) (by kernel_rfl) (by kernel_rfl) (noNeeds_of _ _ (by kernel_rfl)) (by kernel_rfl) (by kernel_rfl) (by kernel_rfl) ?_)
   refine RunL.nil (thenQ_n ?_)
   refine AC.cend ((!true)) rfl rfl (fun hc => absurd hc (by simp)) (fun hc => ?_)
   refine AC.skip ?_
   refine blockQ_n ?_
   refine thenQ_n ?_
   refine AC.re (fun σ2 => RegOK.m1 [0, 1, 3] ⟨[(0, .yieldf y), (1, .ptr s1 0), (3, I (i - 1))], (.box s1 [.slice ((l).map Point.av) none]) :: (M (j + 1) z ++ tl)⟩ (.cons (s_move (.tmp 3 (I i))) (.cons (s_sub (.tmp 9 (I i)) (.int .i64 (1)) (inK_i64 (by omega))) (.cons (s_assign (.tmp 10 (I (i - 1)))) .nil))) ?_)
   refine thenQ_n ⟨_, ?_, _, ⟨(j + 1), (i - 1), z, rfl, ⟨(by omega), (by omega)⟩, rfl⟩, Weak.of [] (by kernel_rfl) (by kernel_rfl)⟩
   omega
  ·skip
   refine RunL.chunk Fr.plain 1 (fun σ3_7 => RegOKL.mk [0, 1, 3, 18] ⟨[(0, .yieldf y), (1, .ptr s1 0), (3, I i), (18, .bool ((!false)))], (.box s1 [.slice ((l).map Point.av) none]) :: (z ++ tl)⟩ (.cons (s_not (.tmp 17 (.bool (false)))) .nil) (by kernel_rfl) (by kernel_rfl) (by kernel_rfl) (noNeeds_of _ _ (by kernel_rfl)) (by kernel_rfl) (by kernel_rfl) (by kernel_rfl) ?_)
   refine RunL.nil (thenQ_n ?_)
   refine AC.cend ((!false)) rfl rfl (fun hc => ?_) (fun hc => absurd hc (by simp))
   refine AC.ret ?_
   refine blockQ_r ?_
   refine thenQ_r ?_
   refine thenQ_r ?_
   refine blockQ_r ?_
   exact FinQ.ret (result0 rfl ) ⟨(Ent.box s1 [.slice ((l).map Point.av) none]) :: z, rfl, rfl, .inr ⟨z, rfl, hz⟩⟩
 ·have q2 := iF iD hc
  refine AC.exit ?_
  refine thenQ_x ?_
  refine thenQ_x ?_
  refine blockQ_x ?_
  exact FinQ.normal (result0 rfl ) ⟨(Ent.box s1 [.slice ((l).map Point.av) none]) :: M j x, rfl, rfl, .inl ⟨x, by (have e : j = l.length := by omega); subst e; rfl⟩⟩
theorem F93 (l : List Guard) : MeetsNew Try.prog 93 [.slice ((l).map Guard.av) none] (fun r new => ∃ s0 : Nat, r = .func 120 [] [.ptr s0 0] ∧ new = [Ent.box s0 [.slice ((l).map Guard.av) none]]) := by
 refine MeetsNew.body 1 Try.func93 rfl rfl ?_
 intro mem
 refine AC.rq (fun σ0 => RegOK.m1 [1] ⟨[(1, .ptr (σ0 0) 0)], (.box (σ0 0) [.slice ((l).map Guard.av) none]) :: mem⟩ (.cons (s_box 0 (σ0 0) (.tmp 0 (.slice ((l).map Guard.av) none)) rfl) (.cons (s_assign (.any _)) .nil)) ?_)
 refine AC.rq (fun σ1 => RegOK.m1 [2] ⟨[(2, .func 120 [] [.ptr (σ0 0) 0])], (.box (σ0 0) [.slice ((l).map Guard.av) none]) :: mem⟩ (.cons (s_makeFunc .nil (.cons (.tmp 1 (.ptr (σ0 0) 0)) .nil)) (.cons (s_assign (.tmp 3 (.func 120 [] [.ptr (σ0 0) 0]))) .nil)) ?_)
 refine AC.ret ?_
 exact FinQ.ret (result1 rfl (res_tmp (v := .func 120 [] [.ptr (σ0 0) 0]) rfl rfl)) ⟨[Ent.box (σ0 0) [.slice ((l).map Guard.av) none]], rfl, _, rfl, rfl⟩
theorem F120 (l : List Guard) (hl : (l.length : Int) ≤ 9223372036854775807) (s1 y : Nat) (M : Nat → Nat → List Ent) (Z : List Ent → Prop)
    (hM : ∀ j x, j < l.length → Yields Try.prog y [I ((l.length : Int) - 1 - (j : Int)), Guard.av (l.getD (l.length - 1 - j) default)] ((Ent.box s1 [.slice ((l).map Guard.av) none]) :: M j x) (fun r m' => (r = .bool true ∧ ∃ z, m' = (Ent.box s1 [.slice ((l).map Guard.av) none]) :: M (j + 1) z) ∨ (r = .bool false ∧ ∃ z, m' = (Ent.box s1 [.slice ((l).map Guard.av) none]) :: z ∧ Z z))) (x0 : Nat) :
    MeetsT Try.prog 120 [.yieldf y, .ptr s1 0] ((Ent.box s1 [.slice ((l).map Guard.av) none]) :: M 0 x0) (fun r m' => r = .tuple [] ∧ ((∃ z, m' = (Ent.box s1 [.slice ((l).map Guard.av) none]) :: M l.length z) ∨ ∃ z, m' = (Ent.box s1 [.slice ((l).map Guard.av) none]) :: z ∧ Z z)) := by
 intro tl
 refine Meets.body 0 Try.func120 rfl rfl ?_
 refine AC.rq (fun σ0 => RegOK.m1 [0, 1, 3] ⟨[(0, .yieldf y), (1, .ptr s1 0), (3, I ((l.length : Int) - 1))], (.box s1 [.slice ((l).map Guard.av) none]) :: (M 0 x0 ++ tl)⟩ (.cons (s_load1 (cs := [.slice ((l).map Guard.av) none]) (c := .slice ((l).map Guard.av) none) 0 tyS90 (.tmp 1 (.ptr s1 0)) rfl) (.cons (s_lenM (l := l) slc90 (.tmp 4 (.slice ((l).map Guard.av) none))) (.cons (s_sub (.tmp 5 (I (l.length : Int))) (.int .i64 (1)) (inK_i64 (by omega))) (.cons (s_assign (.tmp 6 (I ((l.length : Int) - 1)))) .nil)))) ?_)
 refine AC.block ?_
 refine AC.loopW (fun mz T => ∃ (j : Nat), ∃ (i : Int), ∃ (x : Nat), mz = l.length - j ∧ ((j ≤ l.length) ∧ (i = (l.length : Int) - 1 - (j : Int))) ∧ T = ⟨[(0, .yieldf y), (1, .ptr s1 0), (3, I i)], (.box s1 [.slice ((l).map Guard.av) none]) :: (M j x ++ tl)⟩) _ ⟨[(0, .yieldf y), (1, .ptr s1 0), (3, I (((l.length : Int) - 1)))], (.box s1 [.slice ((l).map Guard.av) none]) :: (M (0) (x0) ++ tl)⟩ ⟨0, ((l.length : Int) - 1), x0, rfl, ⟨(by omega), (by omega)⟩, rfl⟩ (Weak.of [] (by kernel_rfl) (by kernel_rfl)) ?_ Fr.plain
 rintro _ _ ⟨j, i, x, rfl, ⟨hj, hi⟩, rfl⟩
 refine AC.seq ?_
 refine AC.rq (fun σ1 => RegOK.m1 [0, 1, 3, 8] ⟨[(0, .yieldf y), (1, .ptr s1 0), (3, I i), (8, .bool (decide (0 ≤ i)))], (.box s1 [.slice ((l).map Guard.av) none]) :: (M j x ++ tl)⟩ (.cons (s_move (.tmp 3 (I i))) (.cons (s_geq (.tmp 7 (I i)) (.int .i64 (0))) .nil)) ?_)
 refine AC.cend (decide (0 ≤ i)) rfl rfl (fun hc => ?_) (fun hc => ?_)
 ·have q1 := iD.1 hc
  refine AC.skip ?_
  refine thenQ_n ?_
  refine AC.bseq ?_
  refine AC.seq (RunL.region ?_)
  refine RunL.chunk Fr.plain 6 (fun σ3_0 => RegOKL.mk [0, 1, 3, 11, 12, 16] ⟨[(0, .yieldf y), (1, .ptr s1 0), (3, I i), (11, .yieldf y), (12, I i), (16, Guard.av (l.getD (i).toNat default))], (.box s1 [.slice ((l).map Guard.av) none]) :: (M j x ++ tl)⟩ (.cons (s_move (.tmp 0 (.yieldf y))) (.cons (s_move (.tmp 3 (I i))) (.cons (s_load1 (cs := [.slice ((l).map Guard.av) none]) (c := .slice ((l).map Guard.av) none) 0 tyS90 (.tmp 1 (.ptr s1 0)) rfl) (.cons (s_move (.tmp 3 (I i))) (.cons (s_ixM (l := l) (f := Guard.av) (default) slc90 (.tmp 13 (.slice ((l).map Guard.av) none)) (.tmp 14 (I i)) (by omega) rfl) (.cons (s_loadAe (l := (Guard.av (l.getD (i).toNat default)).cells) tyA96 (.tmp 15 (.eptr (Guard.av (l.getD (i).toNat default)) 0)) rfl rfl) .nil)))))) (by kernel_rfl) (by kernel_rfl) (by kernel_rfl) (noNeeds_of _ _ (by kernel_rfl)) (by kernel_rfl) (by kernel_rfl) (by kernel_rfl) ?_)
  have hy9 := hM j x (by omega)
  rw [← hi, show l.length - 1 - j = i.toNat by omega] at hy9
  refine RunL.yield Fr.plain [] ((Ent.box s1 [.slice ((l).map Guard.av) none]) :: M j x) tl rfl (.tmp 11 (.yieldf y)) (.cons (.tmp 12 (I i)) (.cons (.tmp 16 (Guard.av (l.getD (i).toNat default))) .nil)) ⟨by kernel_rfl, by kernel_rfl⟩ (fun _ _ _ _ _ => rfl) hy9 ?_
  rintro _ _ (⟨rfl, z, rfl⟩ | ⟨rfl, z, rfl, hz⟩)
  ·skip
   refine RunL.chunk Fr.plain 1 (fun σ3_7 => RegOKL.mk [0, 1, 3, 18] ⟨[(0, .yieldf y), (1, .ptr s1 0), (3, I i), (18, .bool ((!true)))], (.box s1 [.slice ((l).map Guard.av) none]) :: (M (j + 1) z ++ tl)⟩ (.cons (s_not (.tmp 17 (.bool (true)))) .nil) (by kernel_rfl) (by kernel_rfl) (by kernel_rfl) (noNeeds_of _ _ (by kernel_rfl)) (by kernel_rfl) (by kernel_rfl) (by kernel_rfl) ?_)
   refine RunL.nil (thenQ_n ?_)
   refine AC.cend ((!true)) rfl rfl (fun hc => absurd hc (by simp)) (fun hc => ?_)
   refine AC.skip ?_
   refine blockQ_n ?_
   refine thenQ_n ?_
   refine AC.re (fun σ2 => RegOK.m1 [0, 1, 3] ⟨[(0, .yieldf y), (1, .ptr s1 0), (3, I (i - 1))], (.box s1 [.slice ((l).map Guard.av) none]) :: (M (j + 1) z ++ tl)⟩ (.cons (s_move (.tmp 3 (I i))) (.cons (s_sub (.tmp 9 (I i)) (.int .i64 (1)) (inK_i64 (by omega))) (.cons (s_assign (.tmp 10 (I (i - 1)))) .nil))) ?_)
   refine thenQ_n ⟨_, ?_, _, ⟨(j + 1), (i - 1), z, rfl, ⟨(by omega), (by omega)⟩, rfl⟩, Weak.of [] (by kernel_rfl) (by kernel_rfl)⟩
   omega
  ·skip
   refine RunL.chunk Fr.plain 1 (fun σ3_7 => RegOKL.mk [0, 1, 3, 18] ⟨[(0, .yieldf y), (1, .ptr s1 0), (3, I i), (18, .bool ((!false)))], (.box s1 [.slice ((l).map Guard.av) none]) :: (z ++ tl)⟩ (.cons (s_not (.tmp 17 (.bool (false)))) .nil) (by kernel_rfl) (by kernel_rfl) (by kernel_rfl) (noNeeds_of _ _ (by kernel_rfl)) (by kernel_rfl) (by kernel_rfl) (by kernel_rfl) ?_)
   refine RunL.nil (thenQ_n ?_)
   refine AC.cend ((!false)) rfl rfl (fun hc => ?_) (fun hc => absurd hc (by simp))
   refine AC.ret ?_
   refine blockQ_r ?_
   refine thenQ_r ?_
   refine thenQ_r ?_
   refine blockQ_r ?_
   exact FinQ.ret (result0 rfl ) ⟨(Ent.box s1 [.slice ((l).map Guard.av) none]) :: z, rfl, rfl, .inr ⟨z, rfl, hz⟩⟩
 ·have q2 := iF iD hc
  refine AC.exit ?_
  refine thenQ_x ?_
  refine thenQ_x ?_
  refine blockQ_x ?_
  exact FinQ.normal (result0 rfl ) ⟨(Ent.box s1 [.slice ((l).map Guard.av) none]) :: M j x, rfl, rfl, .inl ⟨x, by (have e : j = l.length := by omega); subst e; rfl⟩⟩
theorem F52 (u : Fuse) (a : Int) (hl : (u.points.length : Int) ≤ 9223372036854775807) : Pure Try.prog 52 [Fuse.av u, I a] (.tuple [.agg [I (meltOf u a).1, I (meltOf u a).2.1], .bool (meltOf u a).2.2]) := by
 intro mem
 refine Meets.body 7 Try.func52 rfl rfl ?_
 refine AC.rq (fun σ0 => RegOK.m1 [2, 3, 4, 5] ⟨[(2, .ptr (σ0 0) 0), (3, .ptr (σ0 1) 0), (4, .ptr (σ0 2) 0), (5, .ptr (σ0 3) 0)], (.box (σ0 0) (Fuse.av u).cells) :: (.box (σ0 1) [I a]) :: (.box (σ0 2) [I 0, I 0]) :: (.box (σ0 3) [.bool (false)]) :: .hole :: .hole :: .hole :: mem⟩ (.cons (s_box 0 (σ0 0) (.tmp 0 (Fuse.av u)) rfl) (.cons (s_box 1 (σ0 1) (.tmp 1 (I a)) rfl) (.cons (s_alloc 2 (σ0 2) zero26) (.cons (s_alloc 3 (σ0 3) zero4) .nil)))) ?_)
 refine AC.seq ?_
 refine AC.seq (RunL.region ?_)
 refine RunL.chunk Fr.plain 2 (fun σ1_0 => RegOKL.mk [3, 4, 5, 9] ⟨[(3, .ptr (σ0 1) 0), (4, .ptr (σ0 2) 0), (5, .ptr (σ0 3) 0), (9, .slice ((u.points).map Point.av) none)], (.box (σ0 0) (Fuse.av u).cells) :: (.box (σ0 1) [I a]) :: (.box (σ0 2) [I 0, I 0]) :: (.box (σ0 3) [.bool (false)]) :: .hole :: .hole :: .hole :: mem⟩ (.cons (s_fieldAddr fld94_2 (.tmp 2 (.ptr (σ0 0) 0))) (.cons (s_load1 (cs := (Fuse.av u).cells) (c := .slice ((u.points).map Point.av) none) 0 tyS92 (.tmp 8 (.ptr (σ0 0) 2)) rfl) .nil)) (by kernel_rfl) (by kernel_rfl) (by kernel_rfl) (noNeeds_of _ _ (by kernel_rfl)) (by kernel_rfl) (by kernel_rfl) (by kernel_rfl) ?_)
 refine RunL.callNew Fr.plain (.func 96) (.cons (.tmp 9 (.slice ((u.points).map Point.av) none)) .nil) call96 ⟨by kernel_rfl, by kernel_rfl⟩ (F96 (u.points)) ?_
 rintro _ _ ⟨b96_1, rfl, rfl⟩
 refine ⟨_, (Move.cons 5 rfl (Move.nil _)), ?_⟩
 refine RunL.nil (thenQ_n ?_)
 refine AC.block ?_
 refine AC.range1 Fr.plain 6 (n := 124) (fs := []) (caps := [.ptr b96_1 0]) (len := u.points.length) (arg := (fun j1 => [I ((u.points.length : Int) - 1 - (j1 : Int)), Point.av (u.points.getD (u.points.length - 1 - j1) default)])) rfl rfl call124 rfl (.inl rfl) 5 0 [2, 3] (fun j1 x1 => [Ent.box (σ0 2) [I 0, I 0], Ent.box (σ0 3) [.bool (false)]]) (fun j1 es => es = [Ent.box (σ0 2) [I ((u.points.getD (u.points.length - 1 - j1) default).lo), I ((u.points.getD (u.points.length - 1 - j1) default).hi)], Ent.box (σ0 3) [.bool (true)]] ∧ (u.points.getD (u.points.length - 1 - j1) default).cur ≤ a) (fun j1 => ∀ i : Nat, i < j1 → ¬ (u.points.getD (u.points.length - 1 - i) default).cur ≤ a) (by intro i hi; omega) (by decide) rfl rfl (fun _ => rfl) (fun l M Z hM => F124 u.points hl b96_1 l M Z hM) (fun l1 L1 Lb1 hL1 hLb1 F1 hF1 hr1 tl1 j1 x1 hj1 kj1 => ?_) (fun x1 kj1 => ?_) (fun j1 es hj1 kj1 hP => ?_)
 ·skip
  refine AC.rend hF1 mixed (fun σ2 => RegOK.m1 [3, 4, 5, 7] ⟨[(3, .ptr (σ0 1) 0), (4, .ptr (σ0 2) 0), (5, .ptr (σ0 3) 0), (7, .ptr (σ2 0) 0)], (.box (σ0 0) (Fuse.av u).cells) :: (.box (σ0 1) [I a]) :: (.box (σ0 2) [I 0, I 0]) :: (.box (σ0 3) [.bool (false)]) :: (.box (σ2 0) (Point.av (u.points.getD (u.points.length - 1 - j1) default)).cells) :: (.box b96_1 [.slice ((u.points).map Point.av) none]) :: (L1) :: (mem ++ tl1)⟩ (.cons (s_alloc 4 (σ2 0) zero141) (.cons (s_store (cs := [I 0, I 0, I 0]) 4 sz141 (.tmp 7 (.ptr (σ2 0) 0)) (.tmp 12 (Point.av (u.points.getD (u.points.length - 1 - j1) default))) rfl rfl rfl (Nat.le_of_ble_eq_true rfl)) .nil)) ?_)
  refine thenQ_n ⟨(.box (σ0 0) (Fuse.av u).cells) :: (.box (σ0 1) [I a]) :: (.box (σ0 2) [I 0, I 0]) :: (.box (σ0 3) [.bool (false)]) :: (.box (σ2 0) (Point.av (u.points.getD (u.points.length - 1 - j1) default)).cells) :: (.box b96_1 [.slice ((u.points).map Point.av) none]) :: (L1) :: mem, rfl, rfl, ?_⟩
  refine AC.block ?_
  refine AC.rseq hF1 mixed (fun σ3 => RegOK.m1 [4, 5, 7, 16] ⟨[(4, .ptr (σ0 2) 0), (5, .ptr (σ0 3) 0), (7, .ptr (σ2 0) 0), (16, .bool (decide ((u.points.getD (u.points.length - 1 - j1) default).cur ≤ a)))], (.box (σ0 0) (Fuse.av u).cells) :: (.box (σ0 1) [I a]) :: (.box (σ0 2) [I 0, I 0]) :: (.box (σ0 3) [.bool (false)]) :: (.box (σ2 0) (Point.av (u.points.getD (u.points.length - 1 - j1) default)).cells) :: (.box b96_1 [.slice ((u.points).map Point.av) none]) :: (Lb1) :: (mem ++ tl1)⟩ (.cons (s_fieldAddr fld141_0 (.tmp 7 (.ptr (σ2 0) 0))) (.cons (s_load1 (cs := (Point.av (u.points.getD (u.points.length - 1 - j1) default)).cells) (c := I ((u.points.getD (u.points.length - 1 - j1) default).cur)) 4 tyS3 (.tmp 13 (.ptr (σ2 0) 0)) rfl) (.cons (s_load1 (cs := [I a]) (c := I a) 1 tyS3 (.tmp 3 (.ptr (σ0 1) 0)) rfl) (.cons (s_leq (.tmp 14 (I ((u.points.getD (u.points.length - 1 - j1) default).cur))) (.tmp 15 (I a))) .nil)))) ?_)
  refine AC.cend (decide ((u.points.getD (u.points.length - 1 - j1) default).cur ≤ a)) rfl rfl (fun hc => ?_) (fun hc => ?_)
  ·have q1 := iD.1 hc
   refine AC.rseq hF1 mixed (fun σ4 => RegOK.m1 [4, 5] ⟨[(4, .ptr (σ0 2) 0), (5, .ptr (σ0 3) 0)], (.box (σ0 0) (Fuse.av u).cells) :: (.box (σ0 1) [I a]) :: (.box (σ0 2) [I ((u.points.getD (u.points.length - 1 - j1) default).lo), I ((u.points.getD (u.points.length - 1 - j1) default).hi)]) :: (.box (σ0 3) [.bool (true)]) :: (.box (σ2 0) (Point.av (u.points.getD (u.points.length - 1 - j1) default)).cells) :: (.box b96_1 [.slice ((u.points).map Point.av) none]) :: (Lb1) :: (mem ++ tl1)⟩ (.cons (s_fieldAddr fld141_1 (.tmp 7 (.ptr (σ2 0) 0))) (.cons (s_loadA (cs := (Point.av (u.points.getD (u.points.length - 1 - j1) default)).cells) (l := [I ((u.points.getD (u.points.length - 1 - j1) default).lo), I ((u.points.getD (u.points.length - 1 - j1) default).hi)]) 4 tyA26 (.tmp 17 (.ptr (σ2 0) 1)) rfl rfl) (.cons (s_store (cs := [I 0, I 0]) 2 sz26 (.tmp 4 (.ptr (σ0 2) 0)) (.tmp 18 (.agg [I ((u.points.getD (u.points.length - 1 - j1) default).lo), I ((u.points.getD (u.points.length - 1 - j1) default).hi)])) rfl rfl rfl (Nat.le_of_ble_eq_true rfl)) (.cons (s_store (cs := [.bool (false)]) 3 sz4 (.tmp 5 (.ptr (σ0 3) 0)) (.bool true) rfl rfl rfl (Nat.le_of_ble_eq_true rfl)) .nil)))) ?_)
   refine AC.ret ?_
   refine blockQ_r ?_
   exact ⟨⟨[], (.box (σ0 0) (Fuse.av u).cells) :: (.box (σ0 1) [I a]) :: (.box (σ0 2) [I ((u.points.getD (u.points.length - 1 - j1) default).lo), I ((u.points.getD (u.points.length - 1 - j1) default).hi)]) :: (.box (σ0 3) [.bool (true)]) :: .hole :: (.box b96_1 [.slice ((u.points).map Point.av) none]) :: (Lb1) :: (mem ++ tl1)⟩, Weak.of [4] rfl (by kernel_rfl), (.box (σ0 0) (Fuse.av u).cells) :: (.box (σ0 1) [I a]) :: (.box (σ0 2) [I ((u.points.getD (u.points.length - 1 - j1) default).lo), I ((u.points.getD (u.points.length - 1 - j1) default).hi)]) :: (.box (σ0 3) [.bool (true)]) :: .hole :: (.box b96_1 [.slice ((u.points).map Point.av) none]) :: (Lb1) :: mem, rfl, rfl, [Ent.box (σ0 2) [I ((u.points.getD (u.points.length - 1 - j1) default).lo), I ((u.points.getD (u.points.length - 1 - j1) default).hi)], Ent.box (σ0 3) [.bool (true)]], rfl, rfl, by assumption⟩
  ·have q2 := iF iD hc
   refine AC.skip ?_
   refine blockQ_n ?_
   exact ⟨⟨[], (.box (σ0 0) (Fuse.av u).cells) :: (.box (σ0 1) [I a]) :: (.box (σ0 2) [I 0, I 0]) :: (.box (σ0 3) [.bool (false)]) :: .hole :: (.box b96_1 [.slice ((u.points).map Point.av) none]) :: (Lb1) :: (mem ++ tl1)⟩, Weak.of [4] rfl (by kernel_rfl), (.box (σ0 0) (Fuse.av u).cells) :: (.box (σ0 1) [I a]) :: (.box (σ0 2) [I 0, I 0]) :: (.box (σ0 3) [.bool (false)]) :: .hole :: (.box b96_1 [.slice ((u.points).map Point.av) none]) :: (Lb1) :: mem, rfl, rfl, ⟨0, by rfl, by intro i hi; rcases Nat.lt_or_ge i j1 with h9 | h9; (exact kj1 i h9); (have e9 : i = j1 := by omega); subst e9; assumption⟩⟩
 ·skip
  refine blockQ_n ?_
  refine thenQ_n ?_
  refine AC.rq (fun σ5 => RegOK.m1 [4, 5] ⟨[(4, .ptr (σ0 2) 0), (5, .ptr (σ0 3) 0)], (.box (σ0 0) (Fuse.av u).cells) :: (.box (σ0 1) [I a]) :: (.box (σ0 2) [I 0, I 0]) :: (.box (σ0 3) [.bool (false)]) :: .hole :: (.box b96_1 [.slice ((u.points).map Point.av) none]) :: .hole :: mem⟩ (.cons (s_build (l := [I 0, I 0]) zero26 plc26 .nil rfl) (.cons (s_store (cs := [I 0, I 0]) 2 sz26 (.tmp 4 (.ptr (σ0 2) 0)) (.tmp 19 (.agg [I 0, I 0])) rfl rfl rfl (Nat.le_of_ble_eq_true rfl)) (.cons (s_store (cs := [.bool (false)]) 3 sz4 (.tmp 5 (.ptr (σ0 3) 0)) (.bool false) rfl rfl rfl (Nat.le_of_ble_eq_true rfl)) .nil))) ?_)
  refine AC.ret ?_
  exact FinQ.ret (result2 rfl (res_cell (s := (σ0 2)) (cs := [I 0, I 0]) (l := [I 0, I 0]) 2 rfl rfl rfl tyA26 rfl rfl) (res_cell1 (s := (σ0 3)) (cs := [.bool (false)]) (c := .bool (false)) 3 rfl rfl rfl tyS4 rfl)) ⟨by first | rw [melt_found (by assumption) hcur kj1] | rw [melt_none kj1], rfl⟩
 ·obtain ⟨rfl, hcur⟩ := hP
  refine blockQ_r ?_
  refine thenQ_r ?_
  exact FinQ.ret (result2 rfl (res_cell (s := (σ0 2)) (cs := [I ((u.points.getD (u.points.length - 1 - j1) default).lo), I ((u.points.getD (u.points.length - 1 - j1) default).hi)]) (l := [I ((u.points.getD (u.points.length - 1 - j1) default).lo), I ((u.points.getD (u.points.length - 1 - j1) default).hi)]) 2 rfl rfl rfl tyA26 rfl rfl) (res_cell1 (s := (σ0 3)) (cs := [.bool (true)]) (c := .bool (true)) 3 rfl rfl rfl tyS4 rfl)) ⟨by first | rw [melt_found (by assumption) hcur kj1] | rw [melt_none kj1], rfl⟩
end Go.Proofs.Yteomgedahkpnlaa
end
section
set_option linter.unusedVariables false
set_option linter.unusedSimpArgs false
set_option maxRecDepth 100000
namespace Go.Proofs.Yteomgedahkpnlaa
open Go.Proofs
theorem F54 (x : Guard) (y : Guard) (a : Int) (hx : GG x) (hy : GG y) (ha : -1000000000000000 ≤ a ∧ a ≤ 1000000000000000) : Pure Try.prog 54 [Guard.av x, Guard.av y, I a] (.bool ((beatsOf x y (a)))) := by
 intro mem
 have lx := hx.u.len
 have ly := hy.u.len
 have bx := hx.bes
 have bY := hy.bes
 refine Meets.body 4 Try.func54 rfl rfl ?_
 refine AC.rq (fun σ0 => RegOK.m1 [2, 3, 4] ⟨[(2, I a), (3, .ptr (σ0 0) 0), (4, .ptr (σ0 1) 0)], (.box (σ0 0) (Guard.av x).cells) :: (.box (σ0 1) (Guard.av y).cells) :: .hole :: .hole :: mem⟩ (.cons (s_box 0 (σ0 0) (.tmp 0 (Guard.av x)) rfl) (.cons (s_box 1 (σ0 1) (.tmp 1 (Guard.av y)) rfl) (.cons (s_assign (.bool false)) .nil))) ?_)
 refine AC.rq (fun σ1 => RegOK.m1 [2, 4, 7] ⟨[(2, I a), (4, .ptr (σ0 1) 0), (7, .ptr (σ1 7) 0)], (.box (σ0 0) (Guard.av x).cells) :: (.box (σ0 1) (Guard.av y).cells) :: (.box (σ1 7) [I ((meltOf x.fuse (a)).1), I ((meltOf x.fuse (a)).2.1)]) :: .hole :: mem⟩ (.cons (s_fieldAddr fld96_1 (.tmp 3 (.ptr (σ0 0) 0))) (.cons (s_loadA (cs := (Guard.av x).cells) (l := (Fuse.av x.fuse).cells) 0 tyA94 (.tmp 12 (.ptr (σ0 0) 1)) rfl rfl) (.cons (s_move (.tmp 2 (I a))) (.cons (s_call (r := .tuple [.agg [I ((meltOf x.fuse (a)).1), I ((meltOf x.fuse (a)).2.1)], .bool ((meltOf x.fuse (a)).2.2)]) (.func 52) (.cons (.tmp 13 (Fuse.av x.fuse)) (.cons (.tmp 14 (I a)) .nil)) call52 (F52 x.fuse (a) (by omega))) (.cons (s_move (.tmp 15 (.tuple [.agg [I ((meltOf x.fuse (a)).1), I ((meltOf x.fuse (a)).2.1)], .bool ((meltOf x.fuse (a)).2.2)]))) (.cons (s_extract (v := .agg [I ((meltOf x.fuse (a)).1), I ((meltOf x.fuse (a)).2.1)]) (.tmp 11 (.tuple [.agg [I ((meltOf x.fuse (a)).1), I ((meltOf x.fuse (a)).2.1)], .bool ((meltOf x.fuse (a)).2.2)])) rfl) (.cons (s_extract (v := .bool ((meltOf x.fuse (a)).2.2)) (.tmp 11 (.tuple [.agg [I ((meltOf x.fuse (a)).1), I ((meltOf x.fuse (a)).2.1)], .bool ((meltOf x.fuse (a)).2.2)])) rfl) (.cons (s_alloc 2 (σ1 7) zero26) (.cons (s_store (cs := [I 0, I 0]) 2 sz26 (.tmp 7 (.ptr (σ1 7) 0)) (.tmp 16 (.agg [I ((meltOf x.fuse (a)).1), I ((meltOf x.fuse (a)).2.1)])) rfl rfl rfl (Nat.le_of_ble_eq_true rfl)) (.cons (s_assign (.tmp 17 (.bool ((meltOf x.fuse (a)).2.2)))) .nil)))))))))) ?_)
 refine AC.rq (fun σ2 => RegOK.m1 [7, 9, 10] ⟨[(7, .ptr (σ1 7) 0), (9, .ptr (σ2 10) 0), (10, .bool ((meltOf y.fuse ((a + y.bes))).2.2))], (.box (σ0 0) (Guard.av x).cells) :: (.box (σ0 1) (Guard.av y).cells) :: (.box (σ1 7) [I ((meltOf x.fuse (a)).1), I ((meltOf x.fuse (a)).2.1)]) :: (.box (σ2 10) [I ((meltOf y.fuse ((a + y.bes))).1), I ((meltOf y.fuse ((a + y.bes))).2.1)]) :: mem⟩ (.cons (s_fieldAddr fld96_1 (.tmp 4 (.ptr (σ0 1) 0))) (.cons (s_loadA (cs := (Guard.av y).cells) (l := (Fuse.av y.fuse).cells) 1 tyA94 (.tmp 19 (.ptr (σ0 1) 1)) rfl rfl) (.cons (s_move (.tmp 2 (I a))) (.cons (s_fieldAddr fld96_2 (.tmp 4 (.ptr (σ0 1) 0))) (.cons (s_load1 (cs := (Guard.av y).cells) (c := I y.bes) 1 tyS3 (.tmp 22 (.ptr (σ0 1) 4)) rfl) (.cons (s_add (.tmp 21 (I a)) (.tmp 23 (I y.bes)) (inK_i64 (by omega))) (.cons (s_call (r := .tuple [.agg [I ((meltOf y.fuse ((a + y.bes))).1), I ((meltOf y.fuse ((a + y.bes))).2.1)], .bool ((meltOf y.fuse ((a + y.bes))).2.2)]) (.func 52) (.cons (.tmp 20 (Fuse.av y.fuse)) (.cons (.tmp 24 (I (a + y.bes))) .nil)) call52 (F52 y.fuse ((a + y.bes)) (by omega))) (.cons (s_move (.tmp 25 (.tuple [.agg [I ((meltOf y.fuse ((a + y.bes))).1), I ((meltOf y.fuse ((a + y.bes))).2.1)], .bool ((meltOf y.fuse ((a + y.bes))).2.2)]))) (.cons (s_extract (v := .agg [I ((meltOf y.fuse ((a + y.bes))).1), I ((meltOf y.fuse ((a + y.bes))).2.1)]) (.tmp 18 (.tuple [.agg [I ((meltOf y.fuse ((a + y.bes))).1), I ((meltOf y.fuse ((a + y.bes))).2.1)], .bool ((meltOf y.fuse ((a + y.bes))).2.2)])) rfl) (.cons (s_extract (v := .bool ((meltOf y.fuse ((a + y.bes))).2.2)) (.tmp 18 (.tuple [.agg [I ((meltOf y.fuse ((a + y.bes))).1), I ((meltOf y.fuse ((a + y.bes))).2.1)], .bool ((meltOf y.fuse ((a + y.bes))).2.2)])) rfl) (.cons (s_alloc 3 (σ2 10) zero26) (.cons (s_store (cs := [I 0, I 0]) 3 sz26 (.tmp 9 (.ptr (σ2 10) 0)) (.tmp 26 (.agg [I ((meltOf y.fuse ((a + y.bes))).1), I ((meltOf y.fuse ((a + y.bes))).2.1)])) rfl rfl rfl (Nat.le_of_ble_eq_true rfl)) (.cons (s_assign (.tmp 27 (.bool ((meltOf y.fuse ((a + y.bes))).2.2)))) .nil))))))))))))) ?_)
 refine AC.rq (fun σ3 => RegOK.m1 [6] ⟨[(6, .bool (((!(meltOf y.fuse ((a + y.bes))).2.2) || decide ((meltOf x.fuse (a)).2.1 < (meltOf y.fuse ((a + y.bes))).1))))], (.box (σ0 0) (Guard.av x).cells) :: (.box (σ0 1) (Guard.av y).cells) :: (.box (σ1 7) [I ((meltOf x.fuse (a)).1), I ((meltOf x.fuse (a)).2.1)]) :: (.box (σ2 10) [I ((meltOf y.fuse ((a + y.bes))).1), I ((meltOf y.fuse ((a + y.bes))).2.1)]) :: mem⟩ (.cons (s_move (.tmp 10 (.bool ((meltOf y.fuse ((a + y.bes))).2.2)))) (.cons (s_not (.tmp 28 (.bool ((meltOf y.fuse ((a + y.bes))).2.2)))) (.cons (s_move (.tmp 29 (.bool ((!(meltOf y.fuse ((a + y.bes))).2.2))))) (.cons (Step.guard _ rfl (.bool ((!(meltOf y.fuse ((a + y.bes))).2.2))) gF (fun hb => s_fieldAddr fld26_1 (.tmp 7 (.ptr (σ1 7) 0)))) (.cons (Step.guard _ rfl (.bool ((!(meltOf y.fuse ((a + y.bes))).2.2))) gF (fun hb => s_load1 (cs := [I ((meltOf x.fuse (a)).1), I ((meltOf x.fuse (a)).2.1)]) (c := I ((meltOf x.fuse (a)).2.1)) 2 tyS3 (.tmpC hb 31 (.ptr (σ1 7) 1)) rfl)) (.cons (Step.guard _ rfl (.bool ((!(meltOf y.fuse ((a + y.bes))).2.2))) gF (fun hb => s_fieldAddr fld26_0 (.tmp 9 (.ptr (σ2 10) 0)))) (.cons (Step.guard _ rfl (.bool ((!(meltOf y.fuse ((a + y.bes))).2.2))) gF (fun hb => s_load1 (cs := [I ((meltOf y.fuse ((a + y.bes))).1), I ((meltOf y.fuse ((a + y.bes))).2.1)]) (c := I ((meltOf y.fuse ((a + y.bes))).1)) 3 tyS3 (.tmpC hb 33 (.ptr (σ2 10) 0)) rfl)) (.cons (Step.guard _ rfl (.bool ((!(meltOf y.fuse ((a + y.bes))).2.2))) gF (fun hb => s_lss (.tmpC hb 32 (I ((meltOf x.fuse (a)).2.1))) (.tmpC hb 34 (I ((meltOf y.fuse ((a + y.bes))).1))))) (.cons (s_or' (e := (!(!(meltOf y.fuse ((a + y.bes))).2.2))) (q := decide ((meltOf x.fuse (a)).2.1 < (meltOf y.fuse ((a + y.bes))).1)) (fun h => (notMk h)) (.tmp 30 (.bool ((!(meltOf y.fuse ((a + y.bes))).2.2))))) (.cons (s_assign (.tmp 36 (.bool (((!(meltOf y.fuse ((a + y.bes))).2.2) || decide ((meltOf x.fuse (a)).2.1 < (meltOf y.fuse ((a + y.bes))).1)))))) .nil)))))))))) ?_)
 refine AC.ret ?_
 exact FinQ.ret (result1 rfl (res_tmp (v := .bool (((!(meltOf y.fuse ((a + y.bes))).2.2) || decide ((meltOf x.fuse (a)).2.1 < (meltOf y.fuse ((a + y.bes))).1)))) rfl rfl)) ⟨by rfl, rfl⟩
theorem F122 (a : Int) (x : Guard) (lo hi : Int) (y : Guard) (s0 s1 s2 : Nat) (hx : GG x) (hy : GG y) (ha : -1000000000000000 ≤ a ∧ a ≤ 1000000000000000) : EffR Try.prog 122 [I a, .ptr s0 0, .ptr s1 0, .ptr s2 0] [Ent.box s0 (Guard.av x).cells, Ent.box s1 [I lo, I hi], Ent.box s2 (Guard.av y).cells] (.bool (yieldP x y lo hi a)) := by
 intro mem hes
 obtain ⟨p0, hm0⟩ := List.mem_iff_getElem?.1 (hes (Ent.box s0 (Guard.av x).cells) (by simp))
 obtain ⟨p1, hm1⟩ := List.mem_iff_getElem?.1 (hes (Ent.box s1 [I lo, I hi]) (by simp))
 obtain ⟨p2, hm2⟩ := List.mem_iff_getElem?.1 (hes (Ent.box s2 (Guard.av y).cells) (by simp))
 have lx := hx.u.len
 have ly := hy.u.len
 have bx := hx.bes
 have bY := hy.bes
 refine Meets.body 1 Try.func122 rfl rfl ?_
 refine AC.rq (fun σ0 => RegOK.m1 [0, 1, 2, 3] ⟨[(0, I a), (1, .ptr s0 0), (2, .ptr s1 0), (3, .ptr s2 0)], .hole :: mem⟩ (.cons (s_assign (.bool false)) .nil) ?_)
 refine AC.rq (fun σ1 => RegOK.mk [0, 1, 2, 3, 7] ⟨[(0, I a), (1, .ptr s0 0), (2, .ptr s1 0), (3, .ptr s2 0), (7, .bool ((meltOf x.fuse (a)).2.2))], (.box (σ1 7) [I ((meltOf x.fuse (a)).1), I ((meltOf x.fuse (a)).2.1)]) :: mem⟩ (.cons (s_fieldAddr fld96_1 (.tmp 1 (.ptr s0 0))) (.cons (s_loadA (cs := (Guard.av x).cells) (l := (Fuse.av x.fuse).cells) (p0 + 1) tyA94 (.tmp 9 (.ptr s0 1)) rfl rfl) (.cons (s_move (.tmp 0 (I a))) (.cons (s_call (r := .tuple [.agg [I ((meltOf x.fuse (a)).1), I ((meltOf x.fuse (a)).2.1)], .bool ((meltOf x.fuse (a)).2.2)]) (.func 52) (.cons (.tmp 10 (Fuse.av x.fuse)) (.cons (.tmp 11 (I a)) .nil)) call52 (F52 x.fuse (a) (by omega))) (.cons (s_move (.tmp 12 (.tuple [.agg [I ((meltOf x.fuse (a)).1), I ((meltOf x.fuse (a)).2.1)], .bool ((meltOf x.fuse (a)).2.2)]))) (.cons (s_extract (v := .agg [I ((meltOf x.fuse (a)).1), I ((meltOf x.fuse (a)).2.1)]) (.tmp 8 (.tuple [.agg [I ((meltOf x.fuse (a)).1), I ((meltOf x.fuse (a)).2.1)], .bool ((meltOf x.fuse (a)).2.2)])) rfl) (.cons (s_extract (v := .bool ((meltOf x.fuse (a)).2.2)) (.tmp 8 (.tuple [.agg [I ((meltOf x.fuse (a)).1), I ((meltOf x.fuse (a)).2.1)], .bool ((meltOf x.fuse (a)).2.2)])) rfl) (.cons (s_alloc 0 (σ1 7) zero26) (.cons (s_store (cs := [I 0, I 0]) 0 sz26 (.tmp 6 (.ptr (σ1 7) 0)) (.tmp 13 (.agg [I ((meltOf x.fuse (a)).1), I ((meltOf x.fuse (a)).2.1)])) rfl rfl rfl (Nat.le_of_ble_eq_true rfl)) (.cons (s_assign (.tmp 14 (.bool ((meltOf x.fuse (a)).2.2)))) .nil)))))))))) (by kernel_rfl) (show _ = _ from cg1 (fun z0 => [z0, some (Ent.box (σ1 7) [I 0, I 0])]) hm0) (by kernel_rfl) (by kernel_rfl) (by kernel_rfl) (by kernel_rfl) (by kernel_rfl) ?_)
 refine AC.rq (fun σ2 => RegOK.mk [5] ⟨[(5, .bool ((((decide (lo ≤ a) && decide (a ≤ hi)) && (meltOf x.fuse (a)).2.2) && (!(beatsOf x y (a))))))], (.box (σ1 7) [I ((meltOf x.fuse (a)).1), I ((meltOf x.fuse (a)).2.1)]) :: mem⟩ (.cons (s_move (.tmp 0 (I a))) (.cons (s_fieldAddr fld26_0 (.tmp 2 (.ptr s1 0))) (.cons (s_load1 (cs := [I lo, I hi]) (c := I lo) (p1 + 1) tyS3 (.tmp 16 (.ptr s1 0)) rfl) (.cons (s_fieldAddr fld26_1 (.tmp 2 (.ptr s1 0))) (.cons (s_load1 (cs := [I lo, I hi]) (c := I hi) (p1 + 1) tyS3 (.tmp 18 (.ptr s1 1)) rfl) (.cons (s_call (r := .bool ((decide (lo ≤ a) && decide (a ≤ hi)))) (.func 51) (.cons (.tmp 15 (I a)) (.cons (.tmp 17 (I lo)) (.cons (.tmp 19 (I hi)) .nil))) call51 (F51 (a) (lo) (hi))) (.cons (s_move (.tmp 20 (.bool ((decide (lo ≤ a) && decide (a ≤ hi)))))) (.cons (Step.guard _ rfl (.bool ((decide (lo ≤ a) && decide (a ≤ hi)))) gT (fun hb => s_move (.tmp 7 (.bool ((meltOf x.fuse (a)).2.2))))) (.cons (s_and' (q := (meltOf x.fuse (a)).2.2) (fun h => h) (.tmp 21 (.bool ((decide (lo ≤ a) && decide (a ≤ hi)))))) (.cons (s_move (.tmp 23 (.bool (((decide (lo ≤ a) && decide (a ≤ hi)) && (meltOf x.fuse (a)).2.2))))) (.cons (Step.guard _ rfl (.bool (((decide (lo ≤ a) && decide (a ≤ hi)) && (meltOf x.fuse (a)).2.2))) gT (fun hb => s_loadA (cs := (Guard.av x).cells) (l := (Guard.av x).cells) (p0 + 1) tyA96 (.tmp 1 (.ptr s0 0)) rfl rfl)) (.cons (Step.guard _ rfl (.bool (((decide (lo ≤ a) && decide (a ≤ hi)) && (meltOf x.fuse (a)).2.2))) gT (fun hb => s_loadA (cs := (Guard.av y).cells) (l := (Guard.av y).cells) (p2 + 1) tyA96 (.tmp 3 (.ptr s2 0)) rfl rfl)) (.cons (Step.guard _ rfl (.bool (((decide (lo ≤ a) && decide (a ≤ hi)) && (meltOf x.fuse (a)).2.2))) gT (fun hb => s_move (.tmp 0 (I a)))) (.cons (Step.guard _ rfl (.bool (((decide (lo ≤ a) && decide (a ≤ hi)) && (meltOf x.fuse (a)).2.2))) gT (fun hb => s_call (r := .bool ((beatsOf x y (a)))) (.func 54) (.cons (.tmpC hb 25 (Guard.av x)) (.cons (.tmpC hb 26 (Guard.av y)) (.cons (.tmpC hb 27 (I a)) .nil))) call54 (F54 (x) (y) (a) (by have hq := (iA (iA iD iD) iB).1 hb; assumption) (by have hq := (iA (iA iD iD) iB).1 hb; assumption) (by have hq := (iA (iA iD iD) iB).1 hb; omega)))) (.cons (Step.guard _ rfl (.bool (((decide (lo ≤ a) && decide (a ≤ hi)) && (meltOf x.fuse (a)).2.2))) gT (fun hb => s_not (.tmpC hb 28 (.bool ((beatsOf x y (a))))))) (.cons (s_and' (q := (!(beatsOf x y (a)))) (fun h => h) (.tmp 24 (.bool (((decide (lo ≤ a) && decide (a ≤ hi)) && (meltOf x.fuse (a)).2.2))))) (.cons (s_assign (.tmp 30 (.bool ((((decide (lo ≤ a) && decide (a ≤ hi)) && (meltOf x.fuse (a)).2.2) && (!(beatsOf x y (a)))))))) .nil))))))))))))))))) (by kernel_rfl) (show _ = _ from cg3 (fun z1 z0 z2 => [z1, z1, z0, z2]) hm1 hm0 hm2) (by kernel_rfl) (by kernel_rfl) (by kernel_rfl) (by kernel_rfl) (by kernel_rfl) ?_)
 refine AC.ret ?_
 exact FinQ.ret (result1 rfl (res_tmp (v := .bool ((((decide (lo ≤ a) && decide (a ≤ hi)) && (meltOf x.fuse (a)).2.2) && (!(beatsOf x y (a)))))) rfl rfl)) ⟨by rfl, rfl⟩
theorem F94 (x : Guard) (y : Guard) (lo hi : Int) (hx : GG x) (hy : GG y) (hlo : 0 ≤ lo ∧ lo ≤ 100000000000000) : Pure Try.prog 94 [Guard.av x, Guard.av y, .agg [I lo, I hi]] (.bool ((yieldsOf x y (lo) (hi)))) := by
 intro mem
 have lx := hx.u.len
 have ly := hy.u.len
 have bx := hx.bes
 have bY := hy.bes
 refine Meets.body 6 Try.func94 rfl rfl ?_
 refine AC.rq (fun σ0 => RegOK.m1 [3, 4, 5] ⟨[(3, .ptr (σ0 0) 0), (4, .ptr (σ0 1) 0), (5, .ptr (σ0 2) 0)], (.box (σ0 0) (Guard.av x).cells) :: (.box (σ0 1) (Guard.av y).cells) :: (.box (σ0 2) [I lo, I hi]) :: .hole :: .hole :: .hole :: mem⟩ (.cons (s_box 0 (σ0 0) (.tmp 0 (Guard.av x)) rfl) (.cons (s_box 1 (σ0 1) (.tmp 1 (Guard.av y)) rfl) (.cons (s_box 2 (σ0 2) (.tmp 2 (.agg [I lo, I hi])) rfl) (.cons (s_assign (.bool false)) .nil)))) ?_)
 refine AC.rq (fun σ1 => RegOK.m1 [3, 4, 5, 7] ⟨[(3, .ptr (σ0 0) 0), (4, .ptr (σ0 1) 0), (5, .ptr (σ0 2) 0), (7, .slice (([lo]).map I) (some (σ1 2)))], (.box (σ0 0) (Guard.av x).cells) :: (.box (σ0 1) (Guard.av y).cells) :: (.box (σ0 2) [I lo, I hi]) :: .hole :: .hole :: (.row (σ1 2) (1) 3 1) :: mem⟩ (.cons (s_fieldAddr fld26_0 (.tmp 5 (.ptr (σ0 2) 0))) (.cons (s_load1 (cs := [I lo, I hi]) (c := I lo) 2 tyS3 (.tmp 12 (.ptr (σ0 2) 0)) rfl) (.cons (s_buildSliceOwn (es := [I lo]) 5 (σ1 2) zero3 rfl slc48 rfl rfl rfl (.cons rfl (.tmp 13 (I lo)) .nil) rfl rfl) (.cons (s_assign (.tmp 14 (.slice (([lo]).map I) (some (σ1 2))))) .nil)))) ?_)
 refine AC.seq ?_
 refine AC.rq (fun σ2 => RegOK.m1 [3, 4, 5, 7, 17, 18, 19] ⟨[(3, .ptr (σ0 0) 0), (4, .ptr (σ0 1) 0), (5, .ptr (σ0 2) 0), (7, .slice (([lo]).map I) (some (σ1 2))), (17, .slice ((x.fuse.points).map Point.av) none), (18, I (x.fuse.points.length : Int)), (19, I 0)], (.box (σ0 0) (Guard.av x).cells) :: (.box (σ0 1) (Guard.av y).cells) :: (.box (σ0 2) [I lo, I hi]) :: .hole :: .hole :: (.row (σ1 2) (1) 3 1) :: mem⟩ (.cons (s_fieldAddr fld96_1 (.tmp 3 (.ptr (σ0 0) 0))) (.cons (s_fieldAddr fld94_2 (.tmp 15 (.ptr (σ0 0) 1))) (.cons (s_load1 (cs := (Guard.av x).cells) (c := .slice ((x.fuse.points).map Point.av) none) 0 tyS92 (.tmp 16 (.ptr (σ0 0) 3)) rfl) (.cons (s_lenM (l := x.fuse.points) slc92 (.tmp 17 (.slice ((x.fuse.points).map Point.av) none))) (.cons (s_move (.int .i64 (0))) .nil))))) ?_)
 refine AC.block ?_
 refine AC.loopW (fun mz T => ∃ (k : Nat), ∃ (s : Nat), ∃ (out : List Int), mz = x.fuse.points.length - k ∧ ((k ≤ x.fuse.points.length) ∧ (out = lo :: (x.fuse.points.take k).map Point.cur) ∧ (out.length = k + 1)) ∧ T = ⟨[(3, .ptr (σ0 0) 0), (4, .ptr (σ0 1) 0), (5, .ptr (σ0 2) 0), (7, .slice ((out).map I) (some s)), (17, .slice ((x.fuse.points).map Point.av) none), (18, I (x.fuse.points.length : Int)), (19, I (k : Int))], (.box (σ0 0) (Guard.av x).cells) :: (.box (σ0 1) (Guard.av y).cells) :: (.box (σ0 2) [I lo, I hi]) :: .hole :: .hole :: (.row s (out.length) 3 1) :: mem⟩) _ ⟨[(3, .ptr (σ0 0) 0), (4, .ptr (σ0 1) 0), (5, .ptr (σ0 2) 0), (7, .slice ((([lo])).map I) (some ((σ1 2)))), (17, .slice ((x.fuse.points).map Point.av) none), (18, I (x.fuse.points.length : Int)), (19, I ((0) : Int))], (.box (σ0 0) (Guard.av x).cells) :: (.box (σ0 1) (Guard.av y).cells) :: (.box (σ0 2) [I lo, I hi]) :: .hole :: .hole :: (.row ((σ1 2)) (([lo]).length) 3 1) :: mem⟩ ⟨0, (σ1 2), [lo], rfl, ⟨(by omega), (by rfl), (by rfl)⟩, rfl⟩ (Weak.of [] (by kernel_rfl) (by kernel_rfl)) ?_ Fr.plain
 rintro _ _ ⟨k, s, out, rfl, ⟨hk, ho, hl⟩, rfl⟩
 refine AC.rq (fun σ3 => RegOK.m1 [3, 4, 5, 7, 17, 18, 19, 20] ⟨[(3, .ptr (σ0 0) 0), (4, .ptr (σ0 1) 0), (5, .ptr (σ0 2) 0), (7, .slice ((out).map I) (some s)), (17, .slice ((x.fuse.points).map Point.av) none), (18, I (x.fuse.points.length : Int)), (19, I (k : Int)), (20, .bool (decide ((k : Int) < (x.fuse.points.length : Int))))], (.box (σ0 0) (Guard.av x).cells) :: (.box (σ0 1) (Guard.av y).cells) :: (.box (σ0 2) [I lo, I hi]) :: .hole :: .hole :: (.row s (out.length) 3 1) :: mem⟩ (.cons (s_lss (.tmp 19 (I (k : Int))) (.tmp 18 (I (x.fuse.points.length : Int)))) .nil) ?_)
 refine AC.cseq (decide ((k : Int) < (x.fuse.points.length : Int))) rfl rfl (fun hc => ?_) (fun hc => ?_)
 ·have q1 := iD.1 hc
  refine AC.skip ?_
  refine thenQ_n ?_
  refine AC.bseq ?_
  refine AC.rq (fun σ4 => RegOK.m1 [3, 4, 5, 7, 9, 17, 18, 19] ⟨[(3, .ptr (σ0 0) 0), (4, .ptr (σ0 1) 0), (5, .ptr (σ0 2) 0), (7, .slice ((out).map I) (some s)), (9, .ptr (σ4 2) 0), (17, .slice ((x.fuse.points).map Point.av) none), (18, I (x.fuse.points.length : Int)), (19, I (k : Int))], (.box (σ0 0) (Guard.av x).cells) :: (.box (σ0 1) (Guard.av y).cells) :: (.box (σ0 2) [I lo, I hi]) :: (.box (σ4 2) (Point.av (x.fuse.points.getD k default)).cells) :: .hole :: (.row s (out.length) 3 1) :: mem⟩ (.cons (s_ixM (l := x.fuse.points) (f := Point.av) (default) slc92 (.tmp 17 (.slice ((x.fuse.points).map Point.av) none)) (.tmp 19 (I (k : Int))) (by omega) rfl) (.cons (s_loadAe (l := (Point.av (x.fuse.points.getD k default)).cells) tyA141 (.tmp 21 (.eptr (Point.av (x.fuse.points.getD k default)) 0)) rfl rfl) (.cons (s_alloc 3 (σ4 2) zero141) (.cons (s_store (cs := [I 0, I 0, I 0]) 3 sz141 (.tmp 9 (.ptr (σ4 2) 0)) (.tmp 22 (Point.av (x.fuse.points.getD k default))) rfl rfl rfl (Nat.le_of_ble_eq_true rfl)) .nil)))) ?_)
  refine AC.re (fun σ5 => RegOK.m1 [3, 4, 5, 7, 17, 18, 19] ⟨[(3, .ptr (σ0 0) 0), (4, .ptr (σ0 1) 0), (5, .ptr (σ0 2) 0), (7, .slice (((out ++ [(x.fuse.points.getD k default).cur])).map I) (some (σ5 4))), (17, .slice ((x.fuse.points).map Point.av) none), (18, I (x.fuse.points.length : Int)), (19, I (k : Int))], (.box (σ0 0) (Guard.av x).cells) :: (.box (σ0 1) (Guard.av y).cells) :: (.box (σ0 2) [I lo, I hi]) :: (.box (σ4 2) (Point.av (x.fuse.points.getD k default)).cells) :: .hole :: (.row (σ5 4) ((out ++ [(x.fuse.points.getD k default).cur]).length) 3 1) :: mem⟩ (.cons (s_move (.tmp 7 (.slice ((out).map I) (some s)))) (.cons (s_fieldAddr fld141_0 (.tmp 9 (.ptr (σ4 2) 0))) (.cons (s_load1 (cs := (Point.av (x.fuse.points.getD k default)).cells) (c := I ((x.fuse.points.getD k default).cur)) 3 tyS3 (.tmp 24 (.ptr (σ4 2) 0)) rfl) (.cons (s_buildSlice' (es := [I ((x.fuse.points.getD k default).cur)]) zero3 slc48 rfl rfl (.cons rfl (.tmp 25 (I ((x.fuse.points.getD k default).cur))) .nil) rfl rfl) (.cons (s_appendM (l := out) (l2 := [(x.fuse.points.getD k default).cur]) (f := I) 5 (σ5 4) slc48 zero3 byt3 rfl (by decide) (.tmp 23 (.slice ((out).map I) (some s))) (.tmp 26 (.slice (([(x.fuse.points.getD k default).cur]).map I) none)) (by simp) (fun _ => rfl) (fun _ => rfl) (by simp only [List.length_cons, List.length_nil]; omega)) (.cons (s_assign (.tmp 27 (.slice (((out ++ [(x.fuse.points.getD k default).cur])).map I) (some (σ5 4))))) .nil)))))) ?_)
  refine blockQ_n ?_
  refine thenQ_n ?_
  refine AC.re (fun σ6 => RegOK.m1 [3, 4, 5, 7, 17, 18, 19] ⟨[(3, .ptr (σ0 0) 0), (4, .ptr (σ0 1) 0), (5, .ptr (σ0 2) 0), (7, .slice (((out ++ [(x.fuse.points.getD k default).cur])).map I) (some (σ5 4))), (17, .slice ((x.fuse.points).map Point.av) none), (18, I (x.fuse.points.length : Int)), (19, I ((k : Int) + 1))], (.box (σ0 0) (Guard.av x).cells) :: (.box (σ0 1) (Guard.av y).cells) :: (.box (σ0 2) [I lo, I hi]) :: (.box (σ4 2) (Point.av (x.fuse.points.getD k default)).cells) :: .hole :: (.row (σ5 4) ((out ++ [(x.fuse.points.getD k default).cur]).length) 3 1) :: mem⟩ (.cons (s_add (.tmp 19 (I (k : Int))) (.int .i64 (1)) (inK_i64 (by omega))) (.cons (s_move (.tmp 28 (I ((k : Int) + 1)))) .nil)) ?_)
  refine thenQ_n ⟨_, ?_, _, ⟨(k + 1), (σ5 4), (out ++ [(x.fuse.points.getD k default).cur]), rfl, ⟨(by omega), (by rw [ho, take_snoc default (by omega)]; simp), (by simp only [List.length_append, List.length_cons, List.length_nil]; omega)⟩, rfl⟩, Weak.of [3] (by kernel_rfl) (by kernel_rfl)⟩
  omega
 ·have q2 := iF iD hc
  refine AC.exit ?_
  refine thenQ_x ?_
  refine thenQ_x ?_
  refine blockQ_x ?_
  refine thenQ_n ?_
  refine AC.seq ?_
  refine AC.rq (fun σ7 => RegOK.m1 [3, 4, 5, 7, 31, 32, 33] ⟨[(3, .ptr (σ0 0) 0), (4, .ptr (σ0 1) 0), (5, .ptr (σ0 2) 0), (7, .slice ((out).map I) (some s)), (31, .slice ((y.fuse.points).map Point.av) none), (32, I (y.fuse.points.length : Int)), (33, I 0)], (.box (σ0 0) (Guard.av x).cells) :: (.box (σ0 1) (Guard.av y).cells) :: (.box (σ0 2) [I lo, I hi]) :: .hole :: .hole :: (.row s (out.length) 3 1) :: mem⟩ (.cons (s_fieldAddr fld96_1 (.tmp 4 (.ptr (σ0 1) 0))) (.cons (s_fieldAddr fld94_2 (.tmp 29 (.ptr (σ0 1) 1))) (.cons (s_load1 (cs := (Guard.av y).cells) (c := .slice ((y.fuse.points).map Point.av) none) 1 tyS92 (.tmp 30 (.ptr (σ0 1) 3)) rfl) (.cons (s_lenM (l := y.fuse.points) slc92 (.tmp 31 (.slice ((y.fuse.points).map Point.av) none))) (.cons (s_move (.int .i64 (0))) .nil))))) ?_)
  refine AC.block ?_
  have hkx : k = x.fuse.points.length := by omega
  subst hkx
  rw [List.take_length] at ho
  have lx2 := hx.u.len
  refine AC.loopW (fun mz T => ∃ (k : Nat), ∃ (s2 : Nat), ∃ (out2 : List Int), mz = y.fuse.points.length - k ∧ ((k ≤ y.fuse.points.length) ∧ (out2 = lo :: (x.fuse.points.map Point.cur ++ (y.fuse.points.take k).map fun p => p.cur - y.bes)) ∧ (out2.length ≤ 9 + k)) ∧ T = ⟨[(3, .ptr (σ0 0) 0), (4, .ptr (σ0 1) 0), (5, .ptr (σ0 2) 0), (7, .slice ((out2).map I) (some s2)), (31, .slice ((y.fuse.points).map Point.av) none), (32, I (y.fuse.points.length : Int)), (33, I (k : Int))], (.box (σ0 0) (Guard.av x).cells) :: (.box (σ0 1) (Guard.av y).cells) :: (.box (σ0 2) [I lo, I hi]) :: .hole :: .hole :: (.row s2 (out2.length) 3 1) :: mem⟩) _ ⟨[(3, .ptr (σ0 0) 0), (4, .ptr (σ0 1) 0), (5, .ptr (σ0 2) 0), (7, .slice (((out)).map I) (some (s))), (31, .slice ((y.fuse.points).map Point.av) none), (32, I (y.fuse.points.length : Int)), (33, I ((0) : Int))], (.box (σ0 0) (Guard.av x).cells) :: (.box (σ0 1) (Guard.av y).cells) :: (.box (σ0 2) [I lo, I hi]) :: .hole :: .hole :: (.row (s) ((out).length) 3 1) :: mem⟩ ⟨0, s, out, rfl, ⟨(by omega), (by rw [ho]; simp), (by rw [hl]; omega)⟩, rfl⟩ (Weak.of [] (by kernel_rfl) (by kernel_rfl)) ?_ Fr.plain
  rintro _ _ ⟨k, s2, out2, rfl, ⟨hk2, ho2, hl2⟩, rfl⟩
  have pty := fun h : k < y.fuse.points.length => hy.u.pt h
  refine AC.rq (fun σ8 => RegOK.m1 [3, 4, 5, 7, 31, 32, 33, 34] ⟨[(3, .ptr (σ0 0) 0), (4, .ptr (σ0 1) 0), (5, .ptr (σ0 2) 0), (7, .slice ((out2).map I) (some s2)), (31, .slice ((y.fuse.points).map Point.av) none), (32, I (y.fuse.points.length : Int)), (33, I (k : Int)), (34, .bool (decide ((k : Int) < (y.fuse.points.length : Int))))], (.box (σ0 0) (Guard.av x).cells) :: (.box (σ0 1) (Guard.av y).cells) :: (.box (σ0 2) [I lo, I hi]) :: .hole :: .hole :: (.row s2 (out2.length) 3 1) :: mem⟩ (.cons (s_lss (.tmp 33 (I (k : Int))) (.tmp 32 (I (y.fuse.points.length : Int)))) .nil) ?_)
  refine AC.cseq (decide ((k : Int) < (y.fuse.points.length : Int))) rfl rfl (fun hc => ?_) (fun hc => ?_)
  ·have q3 := iD.1 hc
   refine AC.skip ?_
   refine thenQ_n ?_
   refine AC.bseq ?_
   refine AC.rq (fun σ9 => RegOK.m1 [3, 4, 5, 7, 11, 31, 32, 33] ⟨[(3, .ptr (σ0 0) 0), (4, .ptr (σ0 1) 0), (5, .ptr (σ0 2) 0), (7, .slice ((out2).map I) (some s2)), (11, .ptr (σ9 2) 0), (31, .slice ((y.fuse.points).map Point.av) none), (32, I (y.fuse.points.length : Int)), (33, I (k : Int))], (.box (σ0 0) (Guard.av x).cells) :: (.box (σ0 1) (Guard.av y).cells) :: (.box (σ0 2) [I lo, I hi]) :: .hole :: (.box (σ9 2) (Point.av (y.fuse.points.getD k default)).cells) :: (.row s2 (out2.length) 3 1) :: mem⟩ (.cons (s_ixM (l := y.fuse.points) (f := Point.av) (default) slc92 (.tmp 31 (.slice ((y.fuse.points).map Point.av) none)) (.tmp 33 (I (k : Int))) (by omega) rfl) (.cons (s_loadAe (l := (Point.av (y.fuse.points.getD k default)).cells) tyA141 (.tmp 35 (.eptr (Point.av (y.fuse.points.getD k default)) 0)) rfl rfl) (.cons (s_alloc 4 (σ9 2) zero141) (.cons (s_store (cs := [I 0, I 0, I 0]) 4 sz141 (.tmp 11 (.ptr (σ9 2) 0)) (.tmp 36 (Point.av (y.fuse.points.getD k default))) rfl rfl rfl (Nat.le_of_ble_eq_true rfl)) .nil)))) ?_)
   refine AC.re (fun σ10 => RegOK.m1 [3, 4, 5, 7, 31, 32, 33] ⟨[(3, .ptr (σ0 0) 0), (4, .ptr (σ0 1) 0), (5, .ptr (σ0 2) 0), (7, .slice (((out2 ++ [((y.fuse.points.getD k default).cur - y.bes)])).map I) (some (σ10 7))), (31, .slice ((y.fuse.points).map Point.av) none), (32, I (y.fuse.points.length : Int)), (33, I (k : Int))], (.box (σ0 0) (Guard.av x).cells) :: (.box (σ0 1) (Guard.av y).cells) :: (.box (σ0 2) [I lo, I hi]) :: .hole :: (.box (σ9 2) (Point.av (y.fuse.points.getD k default)).cells) :: (.row (σ10 7) ((out2 ++ [((y.fuse.points.getD k default).cur - y.bes)]).length) 3 1) :: mem⟩ (.cons (s_move (.tmp 7 (.slice ((out2).map I) (some s2)))) (.cons (s_fieldAddr fld141_0 (.tmp 11 (.ptr (σ9 2) 0))) (.cons (s_load1 (cs := (Point.av (y.fuse.points.getD k default)).cells) (c := I ((y.fuse.points.getD k default).cur)) 4 tyS3 (.tmp 38 (.ptr (σ9 2) 0)) rfl) (.cons (s_fieldAddr fld96_2 (.tmp 4 (.ptr (σ0 1) 0))) (.cons (s_load1 (cs := (Guard.av y).cells) (c := I y.bes) 1 tyS3 (.tmp 40 (.ptr (σ0 1) 4)) rfl) (.cons (s_sub (.tmp 39 (I ((y.fuse.points.getD k default).cur))) (.tmp 41 (I y.bes)) (inK_i64 (by have := pty (by omega); omega))) (.cons (s_buildSlice' (es := [I ((y.fuse.points.getD k default).cur - y.bes)]) zero3 slc48 rfl rfl (.cons rfl (.tmp 42 (I ((y.fuse.points.getD k default).cur - y.bes))) .nil) rfl rfl) (.cons (s_appendM (l := out2) (l2 := [((y.fuse.points.getD k default).cur - y.bes)]) (f := I) 5 (σ10 7) slc48 zero3 byt3 rfl (by decide) (.tmp 37 (.slice ((out2).map I) (some s2))) (.tmp 43 (.slice (([((y.fuse.points.getD k default).cur - y.bes)]).map I) none)) (by simp) (fun _ => rfl) (fun _ => rfl) (by simp only [List.length_cons, List.length_nil]; omega)) (.cons (s_assign (.tmp 44 (.slice (((out2 ++ [((y.fuse.points.getD k default).cur - y.bes)])).map I) (some (σ10 7))))) .nil))))))))) ?_)
   refine blockQ_n ?_
   refine thenQ_n ?_
   refine AC.re (fun σ11 => RegOK.m1 [3, 4, 5, 7, 31, 32, 33] ⟨[(3, .ptr (σ0 0) 0), (4, .ptr (σ0 1) 0), (5, .ptr (σ0 2) 0), (7, .slice (((out2 ++ [((y.fuse.points.getD k default).cur - y.bes)])).map I) (some (σ10 7))), (31, .slice ((y.fuse.points).map Point.av) none), (32, I (y.fuse.points.length : Int)), (33, I ((k : Int) + 1))], (.box (σ0 0) (Guard.av x).cells) :: (.box (σ0 1) (Guard.av y).cells) :: (.box (σ0 2) [I lo, I hi]) :: .hole :: (.box (σ9 2) (Point.av (y.fuse.points.getD k default)).cells) :: (.row (σ10 7) ((out2 ++ [((y.fuse.points.getD k default).cur - y.bes)]).length) 3 1) :: mem⟩ (.cons (s_add (.tmp 33 (I (k : Int))) (.int .i64 (1)) (inK_i64 (by omega))) (.cons (s_move (.tmp 45 (I ((k : Int) + 1)))) .nil)) ?_)
   refine thenQ_n ⟨_, ?_, _, ⟨(k + 1), (σ10 7), (out2 ++ [((y.fuse.points.getD k default).cur - y.bes)]), rfl, ⟨(by omega), (by rw [ho2, take_snoc default (by omega)]; simp), (by simp only [List.length_append, List.length_cons, List.length_nil]; omega)⟩, rfl⟩, Weak.of [4] (by kernel_rfl) (by kernel_rfl)⟩
   omega
  ·have q4 := iF iD hc
   have hky : k = y.fuse.points.length := by omega
   subst hky
   have hout : out2 = yieldPts x y lo := by rw [ho2, List.take_length]; rfl
   refine AC.exit ?_
   refine thenQ_x ?_
   refine thenQ_x ?_
   refine blockQ_x ?_
   refine thenQ_n ?_
   refine AC.rq (fun σ12 => RegOK.mkN [6] ⟨[(6, .bool ((out2.any (yieldP x y (lo) (hi)))))], (.box (σ0 0) (Guard.av x).cells) :: (.box (σ0 1) (Guard.av y).cells) :: (.box (σ0 2) [I lo, I hi]) :: .hole :: .hole :: (.row s2 (out2.length) 3 1) :: mem⟩ (.cons (s_move (.tmp 7 (.slice ((out2).map I) (some s2)))) (.cons (s_makeFunc .nil (.cons (.tmp 3 (.ptr (σ0 0) 0)) (.cons (.tmp 5 (.ptr (σ0 2) 0)) (.cons (.tmp 4 (.ptr (σ0 1) 0)) .nil)))) (.cons (s_callR (r := .bool ((out2.any (yieldP x y (lo) (hi))))) (es := ([Ent.box (σ0 0) (Guard.av x).cells, Ent.box (σ0 2) [I lo, I hi], Ent.box (σ0 1) (Guard.av y).cells])) (.func 121) (.cons (Opd.free (.tmp 46 (.slice ((out2).map I) (some s2)))) (.cons (.tmp 47 (.func 122 [] [.ptr (σ0 0) 0, .ptr (σ0 2) 0, .ptr (σ0 1) 0])) .nil)) call121 (F121 (out2) 122 [.ptr (σ0 0) 0, .ptr (σ0 2) 0, .ptr (σ0 1) 0] ([Ent.box (σ0 0) (Guard.av x).cells, Ent.box (σ0 2) [I lo, I hi], Ent.box (σ0 1) (Guard.av y).cells]) (yieldP x y (lo) (hi)) call122 (fun a ha => F122 a x (lo) (hi) y (σ0 0) (σ0 2) (σ0 1) hx hy (by have := yieldPts_in hx hy hlo (by rw [← hout]; exact ha); omega)) (by omega))) (.cons (s_assign (.tmp 48 (.bool ((out2.any (yieldP x y (lo) (hi))))))) .nil)))) (by kernel_rfl) (by kernel_rfl) (by kernel_rfl) ⟨trivial, trivial, (fun lq => (Has.cons (List.mem_of_getElem? (i := 0) rfl) (Has.cons (List.mem_of_getElem? (i := 2) rfl) (Has.cons (List.mem_of_getElem? (i := 1) rfl) (Has.nil _))))), trivial, trivial⟩ (by kernel_rfl) (by kernel_rfl) (by kernel_rfl) ?_)
   refine AC.ret ?_
   exact FinQ.ret (result1 rfl (res_tmp (v := .bool ((out2.any (yieldP x y (lo) (hi))))) rfl rfl)) ⟨by rw [hout]; rfl, rfl⟩
end Go.Proofs.Yteomgedahkpnlaa
end
section
set_option linter.unusedVariables false
set_option linter.unusedSimpArgs false
set_option maxRecDepth 100000
namespace Go.Proofs.Yteomgedahkpnlaa
open Go.Proofs
theorem F53 (y x : Guard) (a : Int) (s0 s1 : Nat) (hx : GG x) (hy : GG y) (ha : -1000000000000000 ≤ a ∧ a ≤ 1000000000000000) : EffR Try.prog 53 [Guard.av y, .ptr s0 0, .ptr s1 0] [Ent.box s0 (Guard.av x).cells, Ent.box s1 [I a]] (.bool (!beatsOf x y a)) := by
 intro mem hes
 obtain ⟨p0, hm0⟩ := List.mem_iff_getElem?.1 (hes (Ent.box s0 (Guard.av x).cells) (by simp))
 obtain ⟨p1, hm1⟩ := List.mem_iff_getElem?.1 (hes (Ent.box s1 [I a]) (by simp))
 refine Meets.body 1 Try.func53 rfl rfl ?_
 refine AC.rq (fun σ0 => RegOK.m1 [1, 2, 3] ⟨[(1, .ptr s0 0), (2, .ptr s1 0), (3, .ptr (σ0 0) 0)], (.box (σ0 0) (Guard.av y).cells) :: mem⟩ (.cons (s_box 0 (σ0 0) (.tmp 0 (Guard.av y)) rfl) (.cons (s_assign (.bool false)) .nil)) ?_)
 refine AC.rq (fun σ1 => RegOK.mk [4] ⟨[(4, .bool ((!(beatsOf x y (a)))))], (.box (σ0 0) (Guard.av y).cells) :: mem⟩ (.cons (s_loadA (cs := (Guard.av x).cells) (l := (Guard.av x).cells) (p0 + 1) tyA96 (.tmp 1 (.ptr s0 0)) rfl rfl) (.cons (s_loadA (cs := (Guard.av y).cells) (l := (Guard.av y).cells) 0 tyA96 (.tmp 3 (.ptr (σ0 0) 0)) rfl rfl) (.cons (s_load1 (cs := [I a]) (c := I a) (p1 + 1) tyS3 (.tmp 2 (.ptr s1 0)) rfl) (.cons (s_call (r := .bool ((beatsOf x y (a)))) (.func 54) (.cons (.tmp 5 (Guard.av x)) (.cons (.tmp 6 (Guard.av y)) (.cons (.tmp 7 (I a)) .nil))) call54 (F54 (x) (y) (a) (by assumption) (by assumption) (by omega))) (.cons (s_not (.tmp 8 (.bool ((beatsOf x y (a)))))) (.cons (s_assign (.tmp 9 (.bool ((!(beatsOf x y (a))))))) .nil)))))) (by kernel_rfl) (show _ = _ from cg2 (fun z0 z1 => [z0, some (Ent.box (σ0 0) (Guard.av y).cells), z1]) hm0 hm1) (by kernel_rfl) (by kernel_rfl) (by kernel_rfl) (by kernel_rfl) (by kernel_rfl) ?_)
 refine AC.ret ?_
 exact FinQ.ret (result1 rfl (res_tmp (v := .bool ((!(beatsOf x y (a))))) rfl rfl)) ⟨by rfl, rfl⟩
theorem F19 (f : Feeder) (c : Int) (a : Int) (hok : f.ok) : Pure Try.prog 19 [Feeder.av f, I c, I a] (.tuple [I ((firstRes f c a).1), I ((firstRes f c a).2)]) := by
 intro mem
 refine Meets.body 4 Try.func19 rfl rfl ?_
 refine AC.rq (fun σ0 => RegOK.m1 [1, 3, 5] ⟨[(1, I c), (3, .ptr (σ0 0) 0), (5, .ptr (σ0 1) 0)], (.box (σ0 0) (Feeder.av f).cells) :: (.box (σ0 1) [I a]) :: .hole :: .hole :: mem⟩ (.cons (s_box 0 (σ0 0) (.tmp 0 (Feeder.av f)) rfl) (.cons (s_box 1 (σ0 1) (.tmp 2 (I a)) rfl) (.cons (s_assign (.int .i64 (0))) (.cons (s_assign (.int .i64 (0))) .nil)))) ?_)
 refine AC.rq (fun σ1 => RegOK.m1 [1, 3, 5, 8] ⟨[(1, I c), (3, .ptr (σ0 0) 0), (5, .ptr (σ0 1) 0), (8, I (askedOf f c))], (.box (σ0 0) (Feeder.av f).cells) :: (.box (σ0 1) [I a]) :: .hole :: .hole :: mem⟩ (.cons (s_loadA (cs := (Feeder.av f).cells) (l := (Feeder.av f).cells) 0 tyA28 (.tmp 3 (.ptr (σ0 0) 0)) rfl rfl) (.cons (s_move (.tmp 1 (I c))) (.cons (s_call (r := I (askedOf f c)) (.func 47) (.cons (.tmp 15 (Feeder.av f)) (.cons (.tmp 16 (I c)) .nil)) call47 (F47 (f) (c) (by exact hok))) (.cons (s_assign (.tmp 17 (I (askedOf f c)))) .nil)))) ?_)
 refine AC.bseq ?_
 refine AC.rq (fun σ2 => RegOK.m1 [1, 3, 5, 8, 18] ⟨[(1, I c), (3, .ptr (σ0 0) 0), (5, .ptr (σ0 1) 0), (8, I (askedOf f c)), (18, .bool (decide ((askedOf f c) ≠ 0)))], (.box (σ0 0) (Feeder.av f).cells) :: (.box (σ0 1) [I a]) :: .hole :: .hole :: mem⟩ (.cons (s_move (.tmp 8 (I (askedOf f c)))) (.cons (s_neq (.tmp 19 (I (askedOf f c))) (.int .i64 (0))) (.cons (s_assign (.tmp 20 (.bool (decide ((askedOf f c) ≠ 0))))) .nil))) ?_)
 refine AC.cend (decide ((askedOf f c) ≠ 0)) rfl rfl (fun hc => ?_) (fun hc => ?_)
 ·have q1 := iD.1 hc
  refine AC.rq (fun σ3 => RegOK.m1 [6, 7] ⟨[(6, I 0), (7, I (askedOf f c))], (.box (σ0 0) (Feeder.av f).cells) :: (.box (σ0 1) [I a]) :: .hole :: .hole :: mem⟩ (.cons (s_move (.tmp 8 (I (askedOf f c)))) (.cons (s_assign (.int .i64 (0))) (.cons (s_assign (.tmp 21 (I (askedOf f c)))) .nil))) ?_)
  refine AC.ret ?_
  refine blockQ_r ?_
  refine thenQ_r ?_
  exact FinQ.ret (result2 rfl (res_tmp (v := I 0) rfl rfl) (res_tmp (v := I (askedOf f c)) rfl rfl)) ⟨by unfold firstRes; first | rw [if_pos (by omega)] | (rw [if_neg (by omega)]; first | rw [if_pos (by omega)] | (rw [if_neg (by omega)]; first | (rw [show (n : Int).toNat = n from rfl, first_found (i := i) (by omega) hc hn]; done) | (rw [show (n : Int).toNat = n from rfl, first_none (fun j hj => hn j (by omega))]; done))), rfl⟩
 ·have q2 := iF iD hc
  have hz := asked_zero (f := f) (c := c) (by omega)
  obtain ⟨n, hcn⟩ : ∃ n : Nat, c = (n : Int) := ⟨c.toNat, by omega⟩
  subst hcn
  have g := FG.of hz.1
  refine AC.rq (fun σ4 => RegOK.m1 [1, 3, 5, 22] ⟨[(1, I (n : Int)), (3, .ptr (σ0 0) 0), (5, .ptr (σ0 1) 0), (22, .bool ((!(decide (0 ≤ a) && decide (a ≤ 1000000000)))))], (.box (σ0 0) (Feeder.av f).cells) :: (.box (σ0 1) [I a]) :: .hole :: .hole :: mem⟩ (.cons (s_load1 (cs := [I a]) (c := I a) 1 tyS3 (.tmp 5 (.ptr (σ0 1) 0)) rfl) (.cons (s_call (r := .bool ((decide (0 ≤ a) && decide (a ≤ 1000000000)))) (.func 51) (.cons (.tmp 23 (I a)) (.cons (.int .i64 (0)) (.cons (.int .i64 (1000000000)) .nil))) call51 (F51 (a) (0) (1000000000))) (.cons (s_not (.tmp 24 (.bool ((decide (0 ≤ a) && decide (a ≤ 1000000000)))))) (.cons (s_assign (.tmp 25 (.bool ((!(decide (0 ≤ a) && decide (a ≤ 1000000000))))))) .nil)))) ?_)
  refine AC.cend ((!(decide (0 ≤ a) && decide (a ≤ 1000000000)))) rfl rfl (fun hc => ?_) (fun hc => ?_)
  ·have q3 := (iN (iA iD iD)).1 hc
   refine AC.rq (fun σ5 => RegOK.m1 [6, 7] ⟨[(6, I 0), (7, I 7)], (.box (σ0 0) (Feeder.av f).cells) :: (.box (σ0 1) [I a]) :: .hole :: .hole :: mem⟩ (.cons (s_assign (.int .i64 (0))) (.cons (s_assign (.int .i64 (7))) .nil)) ?_)
   refine AC.ret ?_
   refine blockQ_r ?_
   refine thenQ_r ?_
   exact FinQ.ret (result2 rfl (res_tmp (v := I 0) rfl rfl) (res_tmp (v := I 7) rfl rfl)) ⟨by unfold firstRes; first | rw [if_pos (by omega)] | (rw [if_neg (by omega)]; first | rw [if_pos (by omega)] | (rw [if_neg (by omega)]; first | (rw [show (n : Int).toNat = n from rfl, first_found (i := i) (by omega) hc hn]; done) | (rw [show (n : Int).toNat = n from rfl, first_none (fun j hj => hn j (by omega))]; done))), rfl⟩
  ·have q4 := iF (iN (iA iD iD)) hc
   have gm := g.guards_mem (c := n) (by omega)
   have gl := (g.guards (c := n) (by omega)).1
   refine AC.skip ?_
   refine blockQ_n ?_
   refine thenQ_n ?_
   refine AC.rq (fun σ6 => RegOK.m1 [5, 9] ⟨[(5, .ptr (σ0 1) 0), (9, .slice (((guardsOf f n)).map Guard.av) none)], (.box (σ0 0) (Feeder.av f).cells) :: (.box (σ0 1) [I a]) :: .hole :: .hole :: mem⟩ (.cons (s_loadA (cs := (Feeder.av f).cells) (l := (Feeder.av f).cells) 0 tyA28 (.tmp 3 (.ptr (σ0 0) 0)) rfl rfl) (.cons (s_move (.tmp 1 (I (n : Int)))) (.cons (s_call (r := .slice (((guardsOf f n)).map Guard.av) none) (.func 48) (.cons (.tmp 26 (Feeder.av f)) (.cons (.tmp 27 (I (n : Int))) .nil)) call48 (F48 (f) (n) (by assumption) (by omega))) (.cons (s_assign (.tmp 28 (.slice (((guardsOf f n)).map Guard.av) none))) .nil)))) ?_)
   refine AC.seq ?_
   refine AC.rq (fun σ7 => RegOK.m1 [5, 9, 29, 30, 31] ⟨[(5, .ptr (σ0 1) 0), (9, .slice (((guardsOf f n)).map Guard.av) none), (29, .slice (((guardsOf f n)).map Guard.av) none), (30, I ((guardsOf f n).length : Int)), (31, I 0)], (.box (σ0 0) (Feeder.av f).cells) :: (.box (σ0 1) [I a]) :: .hole :: .hole :: mem⟩ (.cons (s_move (.tmp 9 (.slice (((guardsOf f n)).map Guard.av) none))) (.cons (s_lenM (l := (guardsOf f n)) slc90 (.tmp 29 (.slice (((guardsOf f n)).map Guard.av) none))) (.cons (s_move (.int .i64 (0))) .nil))) ?_)
   refine AC.block ?_
   refine AC.loopW (fun mz T => ∃ (i : Nat), mz = (guardsOf f n).length - i ∧ ((i ≤ (guardsOf f n).length) ∧ (∀ j : Nat, j < i → firstAt (guardsOf f n) a j = false)) ∧ T = ⟨[(5, .ptr (σ0 1) 0), (9, .slice (((guardsOf f n)).map Guard.av) none), (29, .slice (((guardsOf f n)).map Guard.av) none), (30, I ((guardsOf f n).length : Int)), (31, I (i : Int))], (.box (σ0 0) (Feeder.av f).cells) :: (.box (σ0 1) [I a]) :: .hole :: .hole :: mem⟩) _ ⟨[(5, .ptr (σ0 1) 0), (9, .slice (((guardsOf f n)).map Guard.av) none), (29, .slice (((guardsOf f n)).map Guard.av) none), (30, I ((guardsOf f n).length : Int)), (31, I ((0) : Int))], (.box (σ0 0) (Feeder.av f).cells) :: (.box (σ0 1) [I a]) :: .hole :: .hole :: mem⟩ ⟨0, rfl, ⟨(by omega), (by intro j hj; omega)⟩, rfl⟩ (Weak.of [] (by kernel_rfl) (by kernel_rfl)) ?_ Fr.plain
   rintro _ _ ⟨i, rfl, ⟨hi, hn⟩, rfl⟩
   refine AC.rq (fun σ8 => RegOK.m1 [5, 9, 29, 30, 31, 32] ⟨[(5, .ptr (σ0 1) 0), (9, .slice (((guardsOf f n)).map Guard.av) none), (29, .slice (((guardsOf f n)).map Guard.av) none), (30, I ((guardsOf f n).length : Int)), (31, I (i : Int)), (32, .bool (decide ((i : Int) < ((guardsOf f n).length : Int))))], (.box (σ0 0) (Feeder.av f).cells) :: (.box (σ0 1) [I a]) :: .hole :: .hole :: mem⟩ (.cons (s_lss (.tmp 31 (I (i : Int))) (.tmp 30 (I ((guardsOf f n).length : Int)))) .nil) ?_)
   refine AC.cseq (decide ((i : Int) < ((guardsOf f n).length : Int))) rfl rfl (fun hc => ?_) (fun hc => ?_)
   ·have q5 := iD.1 hc
    have gx := gm _ (getD_mem (d := default) (show i < (guardsOf f n).length by omega))
    have lx := gx.u.len
    refine AC.skip ?_
    refine thenQ_n ?_
    refine AC.bseq ?_
    refine AC.rq (fun σ9 => RegOK.m1 [5, 9, 10, 11, 29, 30, 31] ⟨[(5, .ptr (σ0 1) 0), (9, .slice (((guardsOf f n)).map Guard.av) none), (10, I (i : Int)), (11, .ptr (σ9 3) 0), (29, .slice (((guardsOf f n)).map Guard.av) none), (30, I ((guardsOf f n).length : Int)), (31, I (i : Int))], (.box (σ0 0) (Feeder.av f).cells) :: (.box (σ0 1) [I a]) :: (.box (σ9 3) (Guard.av ((guardsOf f n).getD i default)).cells) :: .hole :: mem⟩ (.cons (s_move (.tmp 31 (I (i : Int)))) (.cons (s_ixM (l := (guardsOf f n)) (f := Guard.av) (default) slc90 (.tmp 29 (.slice (((guardsOf f n)).map Guard.av) none)) (.tmp 31 (I (i : Int))) (by omega) rfl) (.cons (s_loadAe (l := (Guard.av ((guardsOf f n).getD i default)).cells) tyA96 (.tmp 34 (.eptr (Guard.av ((guardsOf f n).getD i default)) 0)) rfl rfl) (.cons (s_alloc 2 (σ9 3) zero96) (.cons (s_assign (.tmp 33 (I (i : Int)))) (.cons (s_store (cs := [I 0, .str (⟨#[]⟩), I 0, .nils, I 0]) 2 sz96 (.tmp 11 (.ptr (σ9 3) 0)) (.tmp 35 (Guard.av ((guardsOf f n).getD i default))) rfl rfl rfl (Nat.le_of_ble_eq_true rfl)) .nil)))))) ?_)
    refine AC.rq (fun σ10 => RegOK.m1 [5, 9, 10, 11, 13, 29, 30, 31] ⟨[(5, .ptr (σ0 1) 0), (9, .slice (((guardsOf f n)).map Guard.av) none), (10, I (i : Int)), (11, .ptr (σ9 3) 0), (13, .bool ((meltOf ((guardsOf f n).getD i default).fuse (a)).2.2)), (29, .slice (((guardsOf f n)).map Guard.av) none), (30, I ((guardsOf f n).length : Int)), (31, I (i : Int))], (.box (σ0 0) (Feeder.av f).cells) :: (.box (σ0 1) [I a]) :: (.box (σ9 3) (Guard.av ((guardsOf f n).getD i default)).cells) :: (.box (σ10 7) [I ((meltOf ((guardsOf f n).getD i default).fuse (a)).1), I ((meltOf ((guardsOf f n).getD i default).fuse (a)).2.1)]) :: mem⟩ (.cons (s_fieldAddr fld96_1 (.tmp 11 (.ptr (σ9 3) 0))) (.cons (s_loadA (cs := (Guard.av ((guardsOf f n).getD i default)).cells) (l := (Fuse.av ((guardsOf f n).getD i default).fuse).cells) 2 tyA94 (.tmp 37 (.ptr (σ9 3) 1)) rfl rfl) (.cons (s_load1 (cs := [I a]) (c := I a) 1 tyS3 (.tmp 5 (.ptr (σ0 1) 0)) rfl) (.cons (s_call (r := .tuple [.agg [I ((meltOf ((guardsOf f n).getD i default).fuse (a)).1), I ((meltOf ((guardsOf f n).getD i default).fuse (a)).2.1)], .bool ((meltOf ((guardsOf f n).getD i default).fuse (a)).2.2)]) (.func 52) (.cons (.tmp 38 (Fuse.av ((guardsOf f n).getD i default).fuse)) (.cons (.tmp 39 (I a)) .nil)) call52 (F52 ((guardsOf f n).getD i default).fuse (a) (by omega))) (.cons (s_move (.tmp 40 (.tuple [.agg [I ((meltOf ((guardsOf f n).getD i default).fuse (a)).1), I ((meltOf ((guardsOf f n).getD i default).fuse (a)).2.1)], .bool ((meltOf ((guardsOf f n).getD i default).fuse (a)).2.2)]))) (.cons (s_extract (v := .agg [I ((meltOf ((guardsOf f n).getD i default).fuse (a)).1), I ((meltOf ((guardsOf f n).getD i default).fuse (a)).2.1)]) (.tmp 36 (.tuple [.agg [I ((meltOf ((guardsOf f n).getD i default).fuse (a)).1), I ((meltOf ((guardsOf f n).getD i default).fuse (a)).2.1)], .bool ((meltOf ((guardsOf f n).getD i default).fuse (a)).2.2)])) rfl) (.cons (s_extract (v := .bool ((meltOf ((guardsOf f n).getD i default).fuse (a)).2.2)) (.tmp 36 (.tuple [.agg [I ((meltOf ((guardsOf f n).getD i default).fuse (a)).1), I ((meltOf ((guardsOf f n).getD i default).fuse (a)).2.1)], .bool ((meltOf ((guardsOf f n).getD i default).fuse (a)).2.2)])) rfl) (.cons (s_alloc 3 (σ10 7) zero26) (.cons (s_store (cs := [I 0, I 0]) 3 sz26 (.tmp 12 (.ptr (σ10 7) 0)) (.tmp 41 (.agg [I ((meltOf ((guardsOf f n).getD i default).fuse (a)).1), I ((meltOf ((guardsOf f n).getD i default).fuse (a)).2.1)])) rfl rfl rfl (Nat.le_of_ble_eq_true rfl)) (.cons (s_assign (.tmp 42 (.bool ((meltOf ((guardsOf f n).getD i default).fuse (a)).2.2)))) .nil)))))))))) ?_)
    refine AC.rq (fun σ11 => RegOK.m1 [5, 9, 10, 11, 13, 14, 29, 30, 31] ⟨[(5, .ptr (σ0 1) 0), (9, .slice (((guardsOf f n)).map Guard.av) none), (10, I (i : Int)), (11, .ptr (σ9 3) 0), (13, .bool ((meltOf ((guardsOf f n).getD i default).fuse (a)).2.2)), (14, .func 53 [] [.ptr (σ9 3) 0, .ptr (σ0 1) 0]), (29, .slice (((guardsOf f n)).map Guard.av) none), (30, I ((guardsOf f n).length : Int)), (31, I (i : Int))], (.box (σ0 0) (Feeder.av f).cells) :: (.box (σ0 1) [I a]) :: (.box (σ9 3) (Guard.av ((guardsOf f n).getD i default)).cells) :: (.box (σ10 7) [I ((meltOf ((guardsOf f n).getD i default).fuse (a)).1), I ((meltOf ((guardsOf f n).getD i default).fuse (a)).2.1)]) :: mem⟩ (.cons (s_makeFunc .nil (.cons (.tmp 11 (.ptr (σ9 3) 0)) (.cons (.tmp 5 (.ptr (σ0 1) 0)) .nil))) (.cons (s_assign (.tmp 43 (.func 53 [] [.ptr (σ9 3) 0, .ptr (σ0 1) 0]))) .nil)) ?_)
    refine AC.rq (fun σ12 => RegOK.mkN [5, 9, 11, 29, 30, 31, 61] ⟨[(5, .ptr (σ0 1) 0), (9, .slice (((guardsOf f n)).map Guard.av) none), (11, .ptr (σ9 3) 0), (29, .slice (((guardsOf f n)).map Guard.av) none), (30, I ((guardsOf f n).length : Int)), (31, I (i : Int)), (61, .bool ((((meltOf ((guardsOf f n).getD i default).fuse (a)).2.2 && (!(((guardsOf f n).take i).any (fun y => !beatsOf (((guardsOf f n).getD i default)) y (a))))) && (!(((guardsOf f n).drop (i + 1)).any (fun y => !beatsOf (((guardsOf f n).getD i default)) y (a)))))))], (.box (σ0 0) (Feeder.av f).cells) :: (.box (σ0 1) [I a]) :: (.box (σ9 3) (Guard.av ((guardsOf f n).getD i default)).cells) :: (.box (σ10 7) [I ((meltOf ((guardsOf f n).getD i default).fuse (a)).1), I ((meltOf ((guardsOf f n).getD i default).fuse (a)).2.1)]) :: mem⟩ (.cons (s_move (.tmp 13 (.bool ((meltOf ((guardsOf f n).getD i default).fuse (a)).2.2)))) (.cons (s_move (.tmp 44 (.bool ((meltOf ((guardsOf f n).getD i default).fuse (a)).2.2)))) (.cons (Step.guard _ rfl (.bool ((meltOf ((guardsOf f n).getD i default).fuse (a)).2.2)) gT (fun hb => s_move (.tmp 9 (.slice (((guardsOf f n)).map Guard.av) none)))) (.cons (Step.guard _ rfl (.bool ((meltOf ((guardsOf f n).getD i default).fuse (a)).2.2)) gT (fun hb => s_move (.tmp 10 (I (i : Int))))) (.cons (Step.guard _ rfl (.bool ((meltOf ((guardsOf f n).getD i default).fuse (a)).2.2)) gT (fun hb => s_toM (l := (guardsOf f n)) (f := Guard.av) slc90 (.tmpC hb 46 (.slice (((guardsOf f n)).map Guard.av) none)) (.tmpC hb 47 (I (i : Int))) (by have hq := iB.1 hb; omega) (fun _ => rfl))) (.cons (Step.guard _ rfl (.bool ((meltOf ((guardsOf f n).getD i default).fuse (a)).2.2)) gT (fun hb => s_move (.tmp 14 (.func 53 [] [.ptr (σ9 3) 0, .ptr (σ0 1) 0])))) (.cons (Step.guard _ rfl (.bool ((meltOf ((guardsOf f n).getD i default).fuse (a)).2.2)) gT (fun hb => s_callR (r := .bool ((((guardsOf f n).take i).any (fun y => !beatsOf (((guardsOf f n).getD i default)) y (a))))) (es := ([Ent.box (σ9 3) (Guard.av ((guardsOf f n).getD i default)).cells, Ent.box (σ0 1) [I a]])) (.func 55) (.cons (.tmpC hb 48 (.slice ((((guardsOf f n).take i)).map Guard.av) none)) (.cons (.tmpC hb 49 (.func 53 [] [.ptr (σ9 3) 0, .ptr (σ0 1) 0])) .nil)) call55 (F55 (((guardsOf f n).take i)) 53 [.ptr (σ9 3) 0, .ptr (σ0 1) 0] ([Ent.box (σ9 3) (Guard.av ((guardsOf f n).getD i default)).cells, Ent.box (σ0 1) [I a]]) (fun y => !beatsOf (((guardsOf f n).getD i default)) y (a)) call53 (fun y hy => F53 y (((guardsOf f n).getD i default)) (a) (σ9 3) (σ0 1) gx (by first | exact gm _ (List.mem_of_mem_take hy) | exact gm _ (List.mem_of_mem_drop hy)) (by omega)) (by have hq := iB.1 hb; rw [List.length_take]; omega)))) (.cons (Step.guard _ rfl (.bool ((meltOf ((guardsOf f n).getD i default).fuse (a)).2.2)) gT (fun hb => s_not (.tmpC hb 50 (.bool ((((guardsOf f n).take i).any (fun y => !beatsOf (((guardsOf f n).getD i default)) y (a)))))))) (.cons (s_and' (q := (!(((guardsOf f n).take i).any (fun y => !beatsOf (((guardsOf f n).getD i default)) y (a))))) (fun h => h) (.tmp 45 (.bool ((meltOf ((guardsOf f n).getD i default).fuse (a)).2.2)))) (.cons (s_move (.tmp 52 (.bool (((meltOf ((guardsOf f n).getD i default).fuse (a)).2.2 && (!(((guardsOf f n).take i).any (fun y => !beatsOf (((guardsOf f n).getD i default)) y (a))))))))) (.cons (Step.guard _ rfl (.bool (((meltOf ((guardsOf f n).getD i default).fuse (a)).2.2 && (!(((guardsOf f n).take i).any (fun y => !beatsOf (((guardsOf f n).getD i default)) y (a))))))) gT (fun hb => s_move (.tmp 9 (.slice (((guardsOf f n)).map Guard.av) none)))) (.cons (Step.guard _ rfl (.bool (((meltOf ((guardsOf f n).getD i default).fuse (a)).2.2 && (!(((guardsOf f n).take i).any (fun y => !beatsOf (((guardsOf f n).getD i default)) y (a))))))) gT (fun hb => s_move (.tmp 10 (I (i : Int))))) (.cons (Step.guard _ rfl (.bool (((meltOf ((guardsOf f n).getD i default).fuse (a)).2.2 && (!(((guardsOf f n).take i).any (fun y => !beatsOf (((guardsOf f n).getD i default)) y (a))))))) gT (fun hb => s_add (.tmpC hb 55 (I (i : Int))) (.int .i64 (1)) (inK_i64 (by have hq := (iA iB (iN iB)).1 hb; omega)))) (.cons (Step.guard _ rfl (.bool (((meltOf ((guardsOf f n).getD i default).fuse (a)).2.2 && (!(((guardsOf f n).take i).any (fun y => !beatsOf (((guardsOf f n).getD i default)) y (a))))))) gT (fun hb => s_fromM (l := (guardsOf f n)) (f := Guard.av) slc90 (.tmpC hb 54 (.slice (((guardsOf f n)).map Guard.av) none)) (.tmpC hb 56 (I ((i : Int) + 1))) (by have hq := (iA iB (iN iB)).1 hb; omega) (fun _ => rfl))) (.cons (Step.guard _ rfl (.bool (((meltOf ((guardsOf f n).getD i default).fuse (a)).2.2 && (!(((guardsOf f n).take i).any (fun y => !beatsOf (((guardsOf f n).getD i default)) y (a))))))) gT (fun hb => s_move (.tmp 14 (.func 53 [] [.ptr (σ9 3) 0, .ptr (σ0 1) 0])))) (.cons (Step.guard _ rfl (.bool (((meltOf ((guardsOf f n).getD i default).fuse (a)).2.2 && (!(((guardsOf f n).take i).any (fun y => !beatsOf (((guardsOf f n).getD i default)) y (a))))))) gT (fun hb => s_callR (r := .bool ((((guardsOf f n).drop (i + 1)).any (fun y => !beatsOf (((guardsOf f n).getD i default)) y (a))))) (es := ([Ent.box (σ9 3) (Guard.av ((guardsOf f n).getD i default)).cells, Ent.box (σ0 1) [I a]])) (.func 55) (.cons (.tmpC hb 57 (.slice ((((guardsOf f n).drop (i + 1))).map Guard.av) none)) (.cons (.tmpC hb 58 (.func 53 [] [.ptr (σ9 3) 0, .ptr (σ0 1) 0])) .nil)) call55 (F55 (((guardsOf f n).drop (i + 1))) 53 [.ptr (σ9 3) 0, .ptr (σ0 1) 0] ([Ent.box (σ9 3) (Guard.av ((guardsOf f n).getD i default)).cells, Ent.box (σ0 1) [I a]]) (fun y => !beatsOf (((guardsOf f n).getD i default)) y (a)) call53 (fun y hy => F53 y (((guardsOf f n).getD i default)) (a) (σ9 3) (σ0 1) gx (by first | exact gm _ (List.mem_of_mem_take hy) | exact gm _ (List.mem_of_mem_drop hy)) (by omega)) (by have hq := (iA iB (iN iB)).1 hb; rw [List.length_drop]; omega)))) (.cons (Step.guard _ rfl (.bool (((meltOf ((guardsOf f n).getD i default).fuse (a)).2.2 && (!(((guardsOf f n).take i).any (fun y => !beatsOf (((guardsOf f n).getD i default)) y (a))))))) gT (fun hb => s_not (.tmpC hb 59 (.bool ((((guardsOf f n).drop (i + 1)).any (fun y => !beatsOf (((guardsOf f n).getD i default)) y (a)))))))) (.cons (s_and' (q := (!(((guardsOf f n).drop (i + 1)).any (fun y => !beatsOf (((guardsOf f n).getD i default)) y (a))))) (fun h => h) (.tmp 53 (.bool (((meltOf ((guardsOf f n).getD i default).fuse (a)).2.2 && (!(((guardsOf f n).take i).any (fun y => !beatsOf (((guardsOf f n).getD i default)) y (a))))))))) .nil)))))))))))))))))) (by kernel_rfl) (by kernel_rfl) (by kernel_rfl) ⟨trivial, trivial, trivial, trivial, trivial, trivial, (fun lq => (Has.cons (List.mem_of_getElem? (i := 2) rfl) (Has.cons (List.mem_of_getElem? (i := 1) rfl) (Has.nil _)))), trivial, trivial, trivial, trivial, trivial, trivial, trivial, trivial, (fun lq => (Has.cons (List.mem_of_getElem? (i := 2) rfl) (Has.cons (List.mem_of_getElem? (i := 1) rfl) (Has.nil _)))), trivial, trivial, trivial⟩ (by kernel_rfl) (by kernel_rfl) (by kernel_rfl) ?_)
    refine AC.cend ((((meltOf ((guardsOf f n).getD i default).fuse (a)).2.2 && (!(((guardsOf f n).take i).any (fun y => !beatsOf (((guardsOf f n).getD i default)) y (a))))) && (!(((guardsOf f n).drop (i + 1)).any (fun y => !beatsOf (((guardsOf f n).getD i default)) y (a)))))) rfl rfl (fun hc => ?_) (fun hc => ?_)
    ·have q6 := (iA (iA iB (iN iB)) (iN iB)).1 hc
     refine AC.rq (fun σ13 => RegOK.m1 [6, 7] ⟨[(6, I (((guardsOf f n).getD i default).node)), (7, I 0)], (.box (σ0 0) (Feeder.av f).cells) :: (.box (σ0 1) [I a]) :: (.box (σ9 3) (Guard.av ((guardsOf f n).getD i default)).cells) :: (.box (σ10 7) [I ((meltOf ((guardsOf f n).getD i default).fuse (a)).1), I ((meltOf ((guardsOf f n).getD i default).fuse (a)).2.1)]) :: mem⟩ (.cons (s_fieldAddr fld96_0 (.tmp 11 (.ptr (σ9 3) 0))) (.cons (s_load1 (cs := (Guard.av ((guardsOf f n).getD i default)).cells) (c := I (((guardsOf f n).getD i default).node)) 2 tyS3 (.tmp 62 (.ptr (σ9 3) 0)) rfl) (.cons (s_assign (.tmp 63 (I (((guardsOf f n).getD i default).node)))) (.cons (s_assign (.int .i64 (0))) .nil)))) ?_)
     refine AC.ret ?_
     refine blockQ_r ?_
     refine thenQ_r ?_
     refine thenQ_r ?_
     refine blockQ_r ?_
     refine thenQ_r ?_
     exact FinQ.ret (result2 rfl (res_tmp (v := I (((guardsOf f n).getD i default).node)) rfl rfl) (res_tmp (v := I 0) rfl rfl)) ⟨by unfold firstRes; first | rw [if_pos (by omega)] | (rw [if_neg (by omega)]; first | rw [if_pos (by omega)] | (rw [if_neg (by omega)]; first | (rw [show (n : Int).toNat = n from rfl, first_found (i := i) (by omega) hc hn]; done) | (rw [show (n : Int).toNat = n from rfl, first_none (fun j hj => hn j (by omega))]; done))), rfl⟩
    ·have q7 := iF (iA (iA iB (iN iB)) (iN iB)) hc
     refine AC.skip ?_
     refine blockQ_n ?_
     refine thenQ_n ?_
     refine AC.re (fun σ14 => RegOK.m1 [5, 9, 29, 30, 31] ⟨[(5, .ptr (σ0 1) 0), (9, .slice (((guardsOf f n)).map Guard.av) none), (29, .slice (((guardsOf f n)).map Guard.av) none), (30, I ((guardsOf f n).length : Int)), (31, I ((i : Int) + 1))], (.box (σ0 0) (Feeder.av f).cells) :: (.box (σ0 1) [I a]) :: (.box (σ9 3) (Guard.av ((guardsOf f n).getD i default)).cells) :: (.box (σ10 7) [I ((meltOf ((guardsOf f n).getD i default).fuse (a)).1), I ((meltOf ((guardsOf f n).getD i default).fuse (a)).2.1)]) :: mem⟩ (.cons (s_add (.tmp 31 (I (i : Int))) (.int .i64 (1)) (inK_i64 (by omega))) (.cons (s_move (.tmp 64 (I ((i : Int) + 1)))) .nil)) ?_)
     refine thenQ_n ⟨_, ?_, _, ⟨(i + 1), rfl, ⟨(by omega), (by intro j hj; rcases Decidable.em (j = i) with e | e; (subst e; exact hc); exact hn j (by omega))⟩, rfl⟩, Weak.of [2, 3] (by kernel_rfl) (by kernel_rfl)⟩
     omega
   ·have q8 := iF iD hc
    refine AC.exit ?_
    refine thenQ_x ?_
    refine thenQ_x ?_
    refine blockQ_x ?_
    refine thenQ_n ?_
    refine AC.rq (fun σ15 => RegOK.m1 [6, 7] ⟨[(6, I (-1)), (7, I 0)], (.box (σ0 0) (Feeder.av f).cells) :: (.box (σ0 1) [I a]) :: .hole :: .hole :: mem⟩ (.cons (s_assign (.int .i64 (-1))) (.cons (s_assign (.int .i64 (0))) .nil)) ?_)
    refine AC.ret ?_
    exact FinQ.ret (result2 rfl (res_tmp (v := I (-1)) rfl rfl) (res_tmp (v := I 0) rfl rfl)) ⟨by unfold firstRes; first | rw [if_pos (by omega)] | (rw [if_neg (by omega)]; first | rw [if_pos (by omega)] | (rw [if_neg (by omega)]; first | (rw [show (n : Int).toNat = n from rfl, first_found (i := i) (by omega) hc hn]; done) | (rw [show (n : Int).toNat = n from rfl, first_none (fun j hj => hn j (by omega))]; done))), rfl⟩
end Go.Proofs.Yteomgedahkpnlaa
end
section
set_option linter.unusedVariables false
set_option linter.unusedSimpArgs false
set_option maxRecDepth 100000
namespace Go.Proofs.Yteomgedahkpnlaa
open Go.Proofs
theorem F20 (f : Feeder) (u : Int) (a : Int) (hok : f.ok) : Pure Try.prog 20 [Feeder.av f, I u, I a] (.tuple [.agg [I ((meltRes f u a).1.1), I ((meltRes f u a).1.2.1)], .bool ((meltRes f u a).1.2.2), I ((meltRes f u a).2)]) := by
 intro mem
 have hfl := hok.2.1
 refine Meets.body 2 Try.func20 rfl rfl ?_
 refine AC.rq (fun σ0 => RegOK.m1 [1, 2, 3, 6] ⟨[(1, I u), (2, I a), (3, .ptr (σ0 0) 0), (6, .ptr (σ0 1) 0)], (.box (σ0 0) (Feeder.av f).cells) :: (.box (σ0 1) [I 0, I 0]) :: mem⟩ (.cons (s_box 0 (σ0 0) (.tmp 0 (Feeder.av f)) rfl) (.cons (s_alloc 1 (σ0 1) zero26) (.cons (s_assign (.bool false)) (.cons (s_assign (.int .i64 (0))) .nil)))) ?_)
 refine AC.rq (fun σ1 => RegOK.m1 [1, 2, 3, 6, 8] ⟨[(1, I u), (2, I a), (3, .ptr (σ0 0) 0), (6, .ptr (σ0 1) 0), (8, I ((check f).2.2))], (.box (σ0 0) (Feeder.av f).cells) :: (.box (σ0 1) [I 0, I 0]) :: mem⟩ (.cons (s_loadA (cs := (Feeder.av f).cells) (l := (Feeder.av f).cells) 0 tyA28 (.tmp 3 (.ptr (σ0 0) 0)) rfl rfl) (.cons (s_call (r := .tuple [I ((check f).1), I ((check f).2.1), I ((check f).2.2)]) (.func 25) (.cons (.tmp 10 (Feeder.av f)) .nil) call25 (F25 (f) (by exact hok))) (.cons (s_move (.tmp 11 (.tuple [I ((check f).1), I ((check f).2.1), I ((check f).2.2)]))) (.cons (s_extract (v := I ((check f).1)) (.tmp 9 (.tuple [I ((check f).1), I ((check f).2.1), I ((check f).2.2)])) rfl) (.cons (s_extract (v := I ((check f).2.1)) (.tmp 9 (.tuple [I ((check f).1), I ((check f).2.1), I ((check f).2.2)])) rfl) (.cons (s_extract (v := I ((check f).2.2)) (.tmp 9 (.tuple [I ((check f).1), I ((check f).2.1), I ((check f).2.2)])) rfl) (.cons (s_assign (.tmp 14 (I ((check f).2.2)))) .nil))))))) ?_)
 refine AC.bseq ?_
 refine AC.rq (fun σ2 => RegOK.m1 [1, 2, 3, 6, 8, 15] ⟨[(1, I u), (2, I a), (3, .ptr (σ0 0) 0), (6, .ptr (σ0 1) 0), (8, I ((check f).2.2)), (15, .bool (decide ((check f).2.2 ≠ 0)))], (.box (σ0 0) (Feeder.av f).cells) :: (.box (σ0 1) [I 0, I 0]) :: mem⟩ (.cons (s_move (.tmp 8 (I ((check f).2.2)))) (.cons (s_neq (.tmp 16 (I ((check f).2.2))) (.int .i64 (0))) (.cons (s_assign (.tmp 17 (.bool (decide ((check f).2.2 ≠ 0))))) .nil))) ?_)
 refine AC.cend (decide ((check f).2.2 ≠ 0)) rfl rfl (fun hc => ?_) (fun hc => ?_)
 ·have q1 := iD.1 hc
  refine AC.rq (fun σ3 => RegOK.m1 [6, 7, 8] ⟨[(6, .ptr (σ0 1) 0), (7, .bool (false)), (8, I ((check f).2.2))], (.box (σ0 0) (Feeder.av f).cells) :: (.box (σ0 1) [I 0, I 0]) :: mem⟩ (.cons (s_build (l := [I 0, I 0]) zero26 plc26 .nil rfl) (.cons (s_move (.tmp 8 (I ((check f).2.2)))) (.cons (s_store (cs := [I 0, I 0]) 1 sz26 (.tmp 6 (.ptr (σ0 1) 0)) (.tmp 18 (.agg [I 0, I 0])) rfl rfl rfl (Nat.le_of_ble_eq_true rfl)) (.cons (s_assign (.bool false)) (.cons (s_assign (.tmp 19 (I ((check f).2.2)))) .nil))))) ?_)
  refine AC.ret ?_
  refine blockQ_r ?_
  refine thenQ_r ?_
  exact FinQ.ret (result3 rfl (res_cell (s := (σ0 1)) (cs := [I 0, I 0]) (l := [I 0, I 0]) 1 rfl rfl rfl tyA26 rfl rfl) (res_tmp (v := .bool (false)) rfl rfl) (res_tmp (v := I ((check f).2.2)) rfl rfl)) ⟨by unfold meltRes; first | rw [if_pos (by omega)] | (rw [if_neg (by omega)]; first | rw [if_pos (by omega)] | (rw [if_neg (by omega)]; first | rw [if_pos (by omega)] | (rw [if_neg (by omega)]; done))), rfl⟩
 ·have q2 := iF iD hc
  have g := FG.of (f := f) (by omega)
  refine AC.rq (fun σ4 => RegOK.m1 [1, 2, 3, 6, 20] ⟨[(1, I u), (2, I a), (3, .ptr (σ0 0) 0), (6, .ptr (σ0 1) 0), (20, .bool ((!(decide (0 ≤ u) && decide (u ≤ ((f.fuses.length : Int) - 1))))))], (.box (σ0 0) (Feeder.av f).cells) :: (.box (σ0 1) [I 0, I 0]) :: mem⟩ (.cons (s_move (.tmp 1 (I u))) (.cons (s_fieldAddr fld28_1 (.tmp 3 (.ptr (σ0 0) 0))) (.cons (s_load1 (cs := (Feeder.av f).cells) (c := .slice ((f.fuses).map Fuse.av) none) 0 tyS23 (.tmp 22 (.ptr (σ0 0) 1)) rfl) (.cons (s_lenM (l := f.fuses) slc23 (.tmp 23 (.slice ((f.fuses).map Fuse.av) none))) (.cons (s_sub (.tmp 24 (I (f.fuses.length : Int))) (.int .i64 (1)) (inK_i64 (by omega))) (.cons (s_call (r := .bool ((decide (0 ≤ u) && decide (u ≤ ((f.fuses.length : Int) - 1))))) (.func 51) (.cons (.tmp 21 (I u)) (.cons (.int .i64 (0)) (.cons (.tmp 25 (I ((f.fuses.length : Int) - 1))) .nil))) call51 (F51 (u) (0) (((f.fuses.length : Int) - 1)))) (.cons (s_not (.tmp 26 (.bool ((decide (0 ≤ u) && decide (u ≤ ((f.fuses.length : Int) - 1))))))) (.cons (s_assign (.tmp 27 (.bool ((!(decide (0 ≤ u) && decide (u ≤ ((f.fuses.length : Int) - 1)))))))) .nil)))))))) ?_)
  refine AC.cend ((!(decide (0 ≤ u) && decide (u ≤ ((f.fuses.length : Int) - 1))))) rfl rfl (fun hc => ?_) (fun hc => ?_)
  ·have q3 := (iN (iA iD iD)).1 hc
   refine AC.rq (fun σ5 => RegOK.m1 [6, 7, 8] ⟨[(6, .ptr (σ0 1) 0), (7, .bool (false)), (8, I 4)], (.box (σ0 0) (Feeder.av f).cells) :: (.box (σ0 1) [I 0, I 0]) :: mem⟩ (.cons (s_build (l := [I 0, I 0]) zero26 plc26 .nil rfl) (.cons (s_store (cs := [I 0, I 0]) 1 sz26 (.tmp 6 (.ptr (σ0 1) 0)) (.tmp 28 (.agg [I 0, I 0])) rfl rfl rfl (Nat.le_of_ble_eq_true rfl)) (.cons (s_assign (.bool false)) (.cons (s_assign (.int .i64 (4))) .nil)))) ?_)
   refine AC.ret ?_
   refine blockQ_r ?_
   refine thenQ_r ?_
   exact FinQ.ret (result3 rfl (res_cell (s := (σ0 1)) (cs := [I 0, I 0]) (l := [I 0, I 0]) 1 rfl rfl rfl tyA26 rfl rfl) (res_tmp (v := .bool (false)) rfl rfl) (res_tmp (v := I 4) rfl rfl)) ⟨by unfold meltRes; first | rw [if_pos (by omega)] | (rw [if_neg (by omega)]; first | rw [if_pos (by omega)] | (rw [if_neg (by omega)]; first | rw [if_pos (by omega)] | (rw [if_neg (by omega)]; done))), rfl⟩
  ·have q4 := iF (iN (iA iD iD)) hc
   refine AC.rq (fun σ6 => RegOK.m1 [1, 2, 3, 6, 29] ⟨[(1, I u), (2, I a), (3, .ptr (σ0 0) 0), (6, .ptr (σ0 1) 0), (29, .bool ((!(decide (0 ≤ a) && decide (a ≤ 1000000000)))))], (.box (σ0 0) (Feeder.av f).cells) :: (.box (σ0 1) [I 0, I 0]) :: mem⟩ (.cons (s_move (.tmp 2 (I a))) (.cons (s_call (r := .bool ((decide (0 ≤ a) && decide (a ≤ 1000000000)))) (.func 51) (.cons (.tmp 30 (I a)) (.cons (.int .i64 (0)) (.cons (.int .i64 (1000000000)) .nil))) call51 (F51 (a) (0) (1000000000))) (.cons (s_not (.tmp 31 (.bool ((decide (0 ≤ a) && decide (a ≤ 1000000000)))))) (.cons (s_assign (.tmp 32 (.bool ((!(decide (0 ≤ a) && decide (a ≤ 1000000000))))))) .nil)))) ?_)
   refine AC.cend ((!(decide (0 ≤ a) && decide (a ≤ 1000000000)))) rfl rfl (fun hc => ?_) (fun hc => ?_)
   ·have q5 := (iN (iA iD iD)).1 hc
    refine AC.rq (fun σ7 => RegOK.m1 [6, 7, 8] ⟨[(6, .ptr (σ0 1) 0), (7, .bool (false)), (8, I 7)], (.box (σ0 0) (Feeder.av f).cells) :: (.box (σ0 1) [I 0, I 0]) :: mem⟩ (.cons (s_build (l := [I 0, I 0]) zero26 plc26 .nil rfl) (.cons (s_store (cs := [I 0, I 0]) 1 sz26 (.tmp 6 (.ptr (σ0 1) 0)) (.tmp 33 (.agg [I 0, I 0])) rfl rfl rfl (Nat.le_of_ble_eq_true rfl)) (.cons (s_assign (.bool false)) (.cons (s_assign (.int .i64 (7))) .nil)))) ?_)
    refine AC.ret ?_
    refine blockQ_r ?_
    refine thenQ_r ?_
    exact FinQ.ret (result3 rfl (res_cell (s := (σ0 1)) (cs := [I 0, I 0]) (l := [I 0, I 0]) 1 rfl rfl rfl tyA26 rfl rfl) (res_tmp (v := .bool (false)) rfl rfl) (res_tmp (v := I 7) rfl rfl)) ⟨by unfold meltRes; first | rw [if_pos (by omega)] | (rw [if_neg (by omega)]; first | rw [if_pos (by omega)] | (rw [if_neg (by omega)]; first | rw [if_pos (by omega)] | (rw [if_neg (by omega)]; done))), rfl⟩
   ·have q6 := iF (iN (iA iD iD)) hc
    have lu := (g.fus u.toNat (by omega)).len
    unfold fusAt at lu
    refine AC.skip ?_
    refine blockQ_n ?_
    refine thenQ_n ?_
    refine AC.rq (fun σ8 => RegOK.m1 [6, 7] ⟨[(6, .ptr (σ0 1) 0), (7, .bool ((meltOf (f.fuses.getD (u).toNat default) (a)).2.2))], (.box (σ0 0) (Feeder.av f).cells) :: (.box (σ0 1) [I ((meltOf (f.fuses.getD (u).toNat default) (a)).1), I ((meltOf (f.fuses.getD (u).toNat default) (a)).2.1)]) :: mem⟩ (.cons (s_fieldAddr fld28_1 (.tmp 3 (.ptr (σ0 0) 0))) (.cons (s_load1 (cs := (Feeder.av f).cells) (c := .slice ((f.fuses).map Fuse.av) none) 0 tyS23 (.tmp 35 (.ptr (σ0 0) 1)) rfl) (.cons (s_move (.tmp 1 (I u))) (.cons (s_ixM (l := f.fuses) (f := Fuse.av) (default) slc23 (.tmp 36 (.slice ((f.fuses).map Fuse.av) none)) (.tmp 37 (I u)) (by omega) rfl) (.cons (s_loadAe (l := (Fuse.av (f.fuses.getD (u).toNat default)).cells) tyA94 (.tmp 38 (.eptr (Fuse.av (f.fuses.getD (u).toNat default)) 0)) rfl rfl) (.cons (s_move (.tmp 2 (I a))) (.cons (s_call (r := .tuple [.agg [I ((meltOf (f.fuses.getD (u).toNat default) (a)).1), I ((meltOf (f.fuses.getD (u).toNat default) (a)).2.1)], .bool ((meltOf (f.fuses.getD (u).toNat default) (a)).2.2)]) (.func 52) (.cons (.tmp 39 (Fuse.av (f.fuses.getD (u).toNat default))) (.cons (.tmp 40 (I a)) .nil)) call52 (F52 (f.fuses.getD (u).toNat default) (a) (by omega))) (.cons (s_move (.tmp 41 (.tuple [.agg [I ((meltOf (f.fuses.getD (u).toNat default) (a)).1), I ((meltOf (f.fuses.getD (u).toNat default) (a)).2.1)], .bool ((meltOf (f.fuses.getD (u).toNat default) (a)).2.2)]))) (.cons (s_extract (v := .agg [I ((meltOf (f.fuses.getD (u).toNat default) (a)).1), I ((meltOf (f.fuses.getD (u).toNat default) (a)).2.1)]) (.tmp 34 (.tuple [.agg [I ((meltOf (f.fuses.getD (u).toNat default) (a)).1), I ((meltOf (f.fuses.getD (u).toNat default) (a)).2.1)], .bool ((meltOf (f.fuses.getD (u).toNat default) (a)).2.2)])) rfl) (.cons (s_extract (v := .bool ((meltOf (f.fuses.getD (u).toNat default) (a)).2.2)) (.tmp 34 (.tuple [.agg [I ((meltOf (f.fuses.getD (u).toNat default) (a)).1), I ((meltOf (f.fuses.getD (u).toNat default) (a)).2.1)], .bool ((meltOf (f.fuses.getD (u).toNat default) (a)).2.2)])) rfl) (.cons (s_store (cs := [I 0, I 0]) 1 sz26 (.tmp 6 (.ptr (σ0 1) 0)) (.tmp 42 (.agg [I ((meltOf (f.fuses.getD (u).toNat default) (a)).1), I ((meltOf (f.fuses.getD (u).toNat default) (a)).2.1)])) rfl rfl rfl (Nat.le_of_ble_eq_true rfl)) (.cons (s_assign (.tmp 43 (.bool ((meltOf (f.fuses.getD (u).toNat default) (a)).2.2)))) .nil)))))))))))) ?_)
    refine AC.rq (fun σ9 => RegOK.m1 [6, 7, 8] ⟨[(6, .ptr (σ0 1) 0), (7, .bool ((meltOf (f.fuses.getD (u).toNat default) (a)).2.2)), (8, I 0)], (.box (σ0 0) (Feeder.av f).cells) :: (.box (σ0 1) [I ((meltOf (f.fuses.getD (u).toNat default) (a)).1), I ((meltOf (f.fuses.getD (u).toNat default) (a)).2.1)]) :: mem⟩ (.cons (s_loadA (cs := [I ((meltOf (f.fuses.getD (u).toNat default) (a)).1), I ((meltOf (f.fuses.getD (u).toNat default) (a)).2.1)]) (l := [I ((meltOf (f.fuses.getD (u).toNat default) (a)).1), I ((meltOf (f.fuses.getD (u).toNat default) (a)).2.1)]) 1 tyA26 (.tmp 6 (.ptr (σ0 1) 0)) rfl rfl) (.cons (s_move (.tmp 7 (.bool ((meltOf (f.fuses.getD (u).toNat default) (a)).2.2)))) (.cons (s_store (cs := [I ((meltOf (f.fuses.getD (u).toNat default) (a)).1), I ((meltOf (f.fuses.getD (u).toNat default) (a)).2.1)]) 1 sz26 (.tmp 6 (.ptr (σ0 1) 0)) (.tmp 44 (.agg [I ((meltOf (f.fuses.getD (u).toNat default) (a)).1), I ((meltOf (f.fuses.getD (u).toNat default) (a)).2.1)])) rfl rfl rfl (Nat.le_of_ble_eq_true rfl)) (.cons (s_assign (.tmp 45 (.bool ((meltOf (f.fuses.getD (u).toNat default) (a)).2.2)))) (.cons (s_assign (.int .i64 (0))) .nil))))) ?_)
    refine AC.ret ?_
    exact FinQ.ret (result3 rfl (res_cell (s := (σ0 1)) (cs := [I ((meltOf (f.fuses.getD (u).toNat default) (a)).1), I ((meltOf (f.fuses.getD (u).toNat default) (a)).2.1)]) (l := [I ((meltOf (f.fuses.getD (u).toNat default) (a)).1), I ((meltOf (f.fuses.getD (u).toNat default) (a)).2.1)]) 1 rfl rfl rfl tyA26 rfl rfl) (res_tmp (v := .bool ((meltOf (f.fuses.getD (u).toNat default) (a)).2.2)) rfl rfl) (res_tmp (v := I 0) rfl rfl)) ⟨by unfold meltRes; first | rw [if_pos (by omega)] | (rw [if_neg (by omega)]; first | rw [if_pos (by omega)] | (rw [if_neg (by omega)]; first | rw [if_pos (by omega)] | (rw [if_neg (by omega)]; done))), rfl⟩
end Go.Proofs.Yteomgedahkpnlaa
end
