/- Walks of functions, each once (written by wip/gen/gen.py). -/
import Derived.Test.YtjhecgiipajdpaaSp10
import Derived.Test.YtjhecgiipajdpaaWd
set_option linter.unusedVariables false
set_option linter.unusedSimpArgs false
set_option maxRecDepth 100000
namespace Go.Proofs.Ytjhecgiipajdpaa
open Go.Proofs
theorem F23 (c : Cat) (i : Int) (want : Int) (hcat : c.ok) : Pure Try.prog 23 [Cat.av c, I i, I want] (.tuple [I ((Level c i want).1), I ((Level c i want).2)]) := by
  intro mem
  have ⟨hc1, hc2, hc3, hc4⟩ := hcat
  refine Meets.body 2 Try.func23 rfl rfl ?_
  refine AC.rseq Fr.plain mixed (fun σ0 => RegOK.mk1 [1, 2, 3] ⟨[(1, I i), (2, I want), (3, .ptr (σ0 0) 0)], (Ent.box (σ0 0) (Cat.av c).cells) :: (Ent.hole) :: mem⟩ (.cons (s_box 0 (σ0 0) (.tmp 0 (Cat.av c)) rfl) (.cons (s_assign (.int .i64 (0))) (.cons (s_assign (.int .i64 (0))) .nil))) (by kernel_rfl) ?_)
  refine AC.rseq Fr.plain mixed (fun σ1 => RegOK.mk1 [2, 8, 9] ⟨[(2, I want), (8, .ptr (σ1 6) 0), (9, I (lampedE c i))], (Ent.box (σ0 0) (Cat.av c).cells) :: (Ent.box (σ1 6) (Lamp.av (lampedX c i)).cells) :: mem⟩ (.cons (s_loadA (cs := (Cat.av c).cells) (l := (Cat.av c).cells) 0 tyA25 (.tmp 3 (.ptr (σ0 0) 0)) rfl rfl) (.cons (s_move (.tmp 1 (I i))) (.cons (s_call (r := .tuple [Lamp.av (lampedX c i), I (lampedE c i)]) (.func 57) (.cons (.tmp 11 (Cat.av c)) (.cons (.tmp 12 (I i)) .nil)) call57 (F57 (c) (i) (by exact hcat))) (.cons (s_move (.tmp 13 (.tuple [Lamp.av (lampedX c i), I (lampedE c i)]))) (.cons (s_extract (v := Lamp.av (lampedX c i)) (.tmp 10 (.tuple [Lamp.av (lampedX c i), I (lampedE c i)])) rfl) (.cons (s_extract (v := I (lampedE c i)) (.tmp 10 (.tuple [Lamp.av (lampedX c i), I (lampedE c i)])) rfl) (.cons (s_alloc 1 (σ1 6) zero45) (.cons (s_store (cs := [.str (⟨#[]⟩), I 0, I 0, I 0, I 0, I 0, I 0, I 0, I 0, I 0, I 0, I 0, I 0, I 0]) 1 sz45 (.tmp 8 (.ptr (σ1 6) 0)) (.tmp 14 (Lamp.av (lampedX c i))) rfl rfl rfl (Nat.le_of_ble_eq_true rfl)) (.cons (s_assign (.tmp 15 (I (lampedE c i)))) .nil))))))))) (by kernel_rfl) ?_)
  refine AC.seq ?_
  refine AC.rseq Fr.plain mixed (fun σ2 => RegOK.mk1 [2, 8, 9, 21] ⟨[(2, I want), (8, .ptr (σ1 6) 0), (9, I (lampedE c i)), (21, .bool ((decide ((lampedE c i) ≠ 0) || decide (want ≤ 0))))], (Ent.box (σ0 0) (Cat.av c).cells) :: (Ent.box (σ1 6) (Lamp.av (lampedX c i)).cells) :: mem⟩ (.cons (s_move (.tmp 9 (I (lampedE c i)))) (.cons (s_neq (.tmp 16 (I (lampedE c i))) (.int .i64 (0))) (.cons (s_move (.tmp 17 (.bool (decide ((lampedE c i) ≠ 0))))) (.cons (Step.guard _ rfl (.bool (decide ((lampedE c i) ≠ 0))) gF (fun hb => s_move (.tmp 2 (I want)))) (.cons (Step.guard _ rfl (.bool (decide ((lampedE c i) ≠ 0))) gF (fun hb => s_leq (.tmpC hb 19 (I want)) (.int .i64 (0)))) (.cons (s_or' (e := (!(decide ((lampedE c i) ≠ 0)))) (q := decide (want ≤ 0)) (fun h => (notMk h)) (.tmp 18 (.bool (decide ((lampedE c i) ≠ 0))))) .nil)))))) (by kernel_rfl) ?_)
  refine AC.cend ((decide ((lampedE c i) ≠ 0) || decide (want ≤ 0))) rfl rfl (fun hc => ?_) (fun hc => ?_)
  · have q1 := (iO iD iD).1 hc
    refine AC.rseq Fr.plain mixed (fun σ3 => RegOK.mk1 [6, 7] ⟨[(6, I 0), (7, I (lampedE c i))], (Ent.box (σ0 0) (Cat.av c).cells) :: (Ent.box (σ1 6) (Lamp.av (lampedX c i)).cells) :: mem⟩ (.cons (s_move (.tmp 9 (I (lampedE c i)))) (.cons (s_assign (.int .i64 (0))) (.cons (s_assign (.tmp 22 (I (lampedE c i)))) .nil))) (by kernel_rfl) ?_)
    refine AC.ret ?_
    refine thenQ_r ?_
    exact FinQ.ret (result2 rfl (res_tmp (v := I 0) rfl rfl) (res_tmp (v := I (lampedE c i)) rfl rfl)) ⟨by unfold Level; (repeat' split) <;> first | rfl | (exfalso; omega) | (refine congrArg AV.tuple ?_; simp; omega), rfl⟩
  · have q2 := iF (iO iD iD) hc
    refine AC.skip ?_
    refine thenQ_n ?_
    refine AC.rseq Fr.plain mixed (fun σ4 => RegOK.mk1 [6, 7] ⟨[(6, I (min (max (max want 1) (lampedX c i).dim) 1000)), (7, I 0)], (Ent.box (σ0 0) (Cat.av c).cells) :: (Ent.box (σ1 6) (Lamp.av (lampedX c i)).cells) :: mem⟩ (.cons (s_move (.tmp 2 (I want))) (.cons (s_fieldAddr fld45_10 (.tmp 8 (.ptr (σ1 6) 0))) (.cons (s_load1 (cs := (Lamp.av (lampedX c i)).cells) (c := I ((lampedX c i).dim)) 1 tyS3 (.tmp 24 (.ptr (σ1 6) 12)) rfl) (.cons (s_maxF (x := want) (l := [1, (lampedX c i).dim]) (.cons (.tmp 23 (I want)) (.cons (.int .i64 (1)) (.cons (.tmp 25 (I ((lampedX c i).dim))) .nil)))) (.cons (s_minF (x := (max (max want 1) (lampedX c i).dim)) (l := [1000]) (.cons (.tmp 26 (I (max (max want 1) (lampedX c i).dim))) (.cons (.int .i64 (1000)) .nil))) (.cons (s_assign (.tmp 27 (I (min (max (max want 1) (lampedX c i).dim) 1000)))) (.cons (s_assign (.int .i64 (0))) .nil))))))) (by kernel_rfl) ?_)
    refine AC.ret ?_
    exact FinQ.ret (result2 rfl (res_tmp (v := I (min (max (max want 1) (lampedX c i).dim) 1000)) rfl rfl) (res_tmp (v := I 0) rfl rfl)) ⟨by unfold Level; (repeat' split) <;> first | rfl | (exfalso; omega) | (refine congrArg AV.tuple ?_; simp; omega), rfl⟩

end Go.Proofs.Ytjhecgiipajdpaa
