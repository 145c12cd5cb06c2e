import Derived.Test.YtahdgadjpkcnjaaZFeedOnly4
set_option linter.unusedVariables false
set_option linter.unusedSimpArgs false
section
set_option maxRecDepth 100000
namespace Go.Proofs.Ytahdgadjpkcnjaa
open Go.Proofs
theorem F23 (f : Feeder) (ws : List (Int × Int)) (hok : f.ok) (hws : (ws.length : Int) ≤ 9223372036854775807) : Pure Try.prog 23 [Feeder.av f, .slice ((ws).map encA) none] (.tuple [.slice (((darkRes f ws).1).map encA) none, I ((darkRes f ws).2)]) := by
 intro mem
 refine Meets.body 6 Try.func23 rfl rfl ?_
 refine AC.rq (fun σ0 => RegOK.m1 [1, 2] ⟨[(1, .slice ((ws).map encA) none), (2, .ptr (σ0 0) 0)], (.box (σ0 0) (fc f)) :: .hole :: .hole :: .hole :: .hole :: .hole :: mem⟩ (.cons (s_box 0 (σ0 0) (.tmp 0 (Feeder.av f)) rfl) (.cons (s_assign .nils) (.cons (s_assign (.int .i64 (0))) .nil))) ?_)
 refine AC.rq (fun σ1 => RegOK.m1 [1, 2, 8] ⟨[(1, .slice ((ws).map encA) none), (2, .ptr (σ0 0) 0), (8, I ((check f).2.2))], (.box (σ0 0) (fc f)) :: .hole :: .hole :: .hole :: .hole :: .hole :: mem⟩ (.cons (s_loadA (cs := (fc f)) (l := (fc f)) 0 tyA28 (.tmp 2 (.ptr (σ0 0) 0)) rfl rfl) (.cons (s_call (r := .tuple [I ((check f).1), I ((check f).2.1), I ((check f).2.2)]) (.func 25) (.cons (.tmp 18 (Feeder.av f)) .nil) call25 (F25 (f) (by exact hok))) (.cons (s_move (.tmp 19 (.tuple [I ((check f).1), I ((check f).2.1), I ((check f).2.2)]))) (.cons (s_extract (v := I ((check f).1)) (.tmp 17 (.tuple [I ((check f).1), I ((check f).2.1), I ((check f).2.2)])) rfl) (.cons (s_extract (v := I ((check f).2.1)) (.tmp 17 (.tuple [I ((check f).1), I ((check f).2.1), I ((check f).2.2)])) rfl) (.cons (s_extract (v := I ((check f).2.2)) (.tmp 17 (.tuple [I ((check f).1), I ((check f).2.1), I ((check f).2.2)])) rfl) (.cons (s_assign (.tmp 20 (I ((check f).1)))) (.cons (s_assign (.tmp 21 (I ((check f).2.1)))) (.cons (s_assign (.tmp 22 (I ((check f).2.2)))) .nil))))))))) ?_)
 refine AC.rq (fun σ2 => RegOK.m1 [1, 2, 8, 9] ⟨[(1, .slice ((ws).map encA) none), (2, .ptr (σ0 0) 0), (8, I ((check f).2.2)), (9, .func 58 [] [.ptr (σ0 0) 0])], (.box (σ0 0) (fc f)) :: .hole :: .hole :: .hole :: .hole :: .hole :: mem⟩ (.cons (s_makeFunc .nil (.cons (.tmp 2 (.ptr (σ0 0) 0)) .nil)) (.cons (s_assign (.tmp 23 (.func 58 [] [.ptr (σ0 0) 0]))) .nil)) ?_)
 refine AC.bseq ?_
 refine AC.rq (fun σ3 => RegOK.m1 [1, 2, 8, 9, 24] ⟨[(1, .slice ((ws).map encA) none), (2, .ptr (σ0 0) 0), (8, I ((check f).2.2)), (9, .func 58 [] [.ptr (σ0 0) 0]), (24, .bool (decide ((check f).2.2 ≠ 0)))], (.box (σ0 0) (fc f)) :: .hole :: .hole :: .hole :: .hole :: .hole :: mem⟩ (.cons (s_move (.tmp 8 (I ((check f).2.2)))) (.cons (s_neq (.tmp 25 (I ((check f).2.2))) (.int .i64 (0))) (.cons (s_assign (.tmp 26 (.bool (decide ((check f).2.2 ≠ 0))))) .nil))) ?_)
 refine AC.cend (decide ((check f).2.2 ≠ 0)) rfl rfl (fun hc => ?_) (fun hc => ?_)
 ·have q1 := iD.1 hc
  refine AC.rq (fun σ4 => RegOK.m1 [4, 5] ⟨[(4, .nils), (5, I ((check f).2.2))], (.box (σ0 0) (fc f)) :: .hole :: .hole :: .hole :: .hole :: .hole :: mem⟩ (.cons (s_move (.tmp 8 (I ((check f).2.2)))) (.cons (s_assign .nils) (.cons (s_assign (.tmp 27 (I ((check f).2.2)))) .nil))) ?_)
  refine AC.ret ?_
  refine blockQ_r ?_
  refine thenQ_r ?_
  exact FinQ.ret (result2 rfl (res_nils (res_tmp (v := .nils) rfl rfl)) (res_tmp (v := I ((check f).2.2)) rfl rfl)) ⟨by rw [darkRes_e (e := (check f).2.2) (by unfold darkErr; first | (rw [if_pos (by assumption)]; done) | (rw [if_neg (by assumption)]; first | (rw [if_pos (by assumption)]; done) | (rw [if_neg (by assumption)]; first | (rw [if_pos (by assumption)]; done) | (rw [if_neg (by assumption)]; done)))) (by first | decide | assumption)]; rfl, rfl⟩
 ·have q2 := iF iD hc
  refine AC.rq (fun σ5 => RegOK.m1 [1, 2, 9, 28] ⟨[(1, .slice ((ws).map encA) none), (2, .ptr (σ0 0) 0), (9, .func 58 [] [.ptr (σ0 0) 0]), (28, .bool (decide (120 < (ws.length : Int))))], (.box (σ0 0) (fc f)) :: .hole :: .hole :: .hole :: .hole :: .hole :: mem⟩ (.cons (s_move (.tmp 1 (.slice ((ws).map encA) none))) (.cons (s_lenM (l := ws) slc54 (.tmp 29 (.slice ((ws).map encA) none))) (.cons (s_gtr (.tmp 30 (I (ws.length : Int))) (.int .i64 (120))) (.cons (s_assign (.tmp 31 (.bool (decide (120 < (ws.length : Int)))))) .nil)))) ?_)
  refine AC.cend (decide (120 < (ws.length : Int))) rfl rfl (fun hc => ?_) (fun hc => ?_)
  ·have q3 := iD.1 hc
   refine AC.rq (fun σ6 => RegOK.m1 [4, 5] ⟨[(4, .nils), (5, I 3)], (.box (σ0 0) (fc f)) :: .hole :: .hole :: .hole :: .hole :: .hole :: mem⟩ (.cons (s_assign .nils) (.cons (s_assign (.int .i64 (3))) .nil)) ?_)
   refine AC.ret ?_
   refine blockQ_r ?_
   refine thenQ_r ?_
   exact FinQ.ret (result2 rfl (res_nils (res_tmp (v := .nils) rfl rfl)) (res_tmp (v := I 3) rfl rfl)) ⟨by rw [darkRes_e (e := 3) (by unfold darkErr; first | (rw [if_pos (by assumption)]; done) | (rw [if_neg (by assumption)]; first | (rw [if_pos (by assumption)]; done) | (rw [if_neg (by assumption)]; first | (rw [if_pos (by assumption)]; done) | (rw [if_neg (by assumption)]; done)))) (by first | decide | assumption)]; rfl, rfl⟩
  ·have q4 := iF iD hc
   refine AC.rq (fun σ7 => RegOK.mkN [1, 2, 32] ⟨[(1, .slice ((ws).map encA) none), (2, .ptr (σ0 0) 0), (32, .bool ((ws.any (opnBad f))))], (.box (σ0 0) (fc f)) :: .hole :: .hole :: .hole :: .hole :: .hole :: mem⟩ (.cons (s_move (.tmp 1 (.slice ((ws).map encA) none))) (.cons (s_move (.tmp 9 (.func 58 [] [.ptr (σ0 0) 0]))) (.cons (s_callR (r := .bool ((ws.any (opnBad f)))) (es := ([Ent.box (σ0 0) (fc f)])) (.func 59) (.cons (.tmp 33 (.slice ((ws).map encA) none)) (.cons (.tmp 34 (.func 58 [] [.ptr (σ0 0) 0])) .nil)) call59 (F59 (ws) 58 [.ptr (σ0 0) 0] ([Ent.box (σ0 0) (fc f)]) (opnBad f) call58 (fun x hx => F58 x.1 x.2 f (σ0 0) hok) (by omega))) (.cons (s_assign (.tmp 35 (.bool ((ws.any (opnBad f)))))) .nil)))) (by kernel_rfl) (by kernel_rfl) (by kernel_rfl) ⟨trivial, trivial, (fun lq => (Has.cons (List.mem_of_getElem? (i := 0) rfl) (Has.nil _))), trivial, trivial⟩ (by kernel_rfl) (by kernel_rfl) (by kernel_rfl) ?_)
   refine AC.cend ((ws.any (opnBad f))) rfl rfl (fun hc => ?_) (fun hc => ?_)
   ·have q5 := iB.1 hc
    refine AC.rq (fun σ8 => RegOK.m1 [4, 5] ⟨[(4, .nils), (5, I 4)], (.box (σ0 0) (fc f)) :: .hole :: .hole :: .hole :: .hole :: .hole :: mem⟩ (.cons (s_assign .nils) (.cons (s_assign (.int .i64 (4))) .nil)) ?_)
    refine AC.ret ?_
    refine blockQ_r ?_
    refine thenQ_r ?_
    exact FinQ.ret (result2 rfl (res_nils (res_tmp (v := .nils) rfl rfl)) (res_tmp (v := I 4) rfl rfl)) ⟨by rw [darkRes_e (e := 4) (by unfold darkErr; first | (rw [if_pos (by assumption)]; done) | (rw [if_neg (by assumption)]; first | (rw [if_pos (by assumption)]; done) | (rw [if_neg (by assumption)]; first | (rw [if_pos (by assumption)]; done) | (rw [if_neg (by assumption)]; done)))) (by first | decide | assumption)]; rfl, rfl⟩
   ·have q6 := iF iB hc
    have g := FG.of (f := f) (by omega)
    have hw := opn_ok (f := f) q6
    have gnn0 := g.nn
    refine AC.skip ?_
    refine blockQ_n ?_
    refine thenQ_n ?_
    refine AC.rq (fun σ9 => RegOK.m1 [1, 2, 10] ⟨[(1, .slice ((ws).map encA) none), (2, .ptr (σ0 0) 0), (10, .ptr (σ9 1) 0)], (.box (σ0 0) (fc f)) :: (Ent.obj (σ9 0) (MapIs [])) :: (.box (σ9 1) [.mp (σ9 0)]) :: .hole :: .hole :: .hole :: mem⟩ (.cons (s_makeMap 1 (σ9 0)) (.cons (s_alloc 2 (σ9 1) zero109) (.cons (s_store (cs := [.top]) 2 sz109 (.tmp 10 (.ptr (σ9 1) 0)) (.tmp 36 (.mp (σ9 0))) rfl rfl rfl (Nat.le_of_ble_eq_true rfl)) .nil))) ?_)
    refine AC.seq ?_
    refine AC.rq (fun σ10 => RegOK.m1 [2, 10, 37, 38, 39] ⟨[(2, .ptr (σ0 0) 0), (10, .ptr (σ9 1) 0), (37, .slice ((ws).map encA) none), (38, I (ws.length : Int)), (39, I 0)], (.box (σ0 0) (fc f)) :: (Ent.obj (σ9 0) (MapIs [])) :: (.box (σ9 1) [.mp (σ9 0)]) :: .hole :: .hole :: .hole :: mem⟩ (.cons (s_move (.tmp 1 (.slice ((ws).map encA) none))) (.cons (s_lenM (l := ws) slc54 (.tmp 37 (.slice ((ws).map encA) none))) (.cons (s_move (.int .i64 (0))) .nil))) ?_)
    refine AC.block ?_
    refine AC.loopW (fun mz T => ∃ (m : Nat), mz = ws.length - m ∧ ((m ≤ ws.length)) ∧ T = ⟨[(2, .ptr (σ0 0) 0), (10, .ptr (σ9 1) 0), (37, .slice ((ws).map encA) none), (38, I (ws.length : Int)), (39, I (m : Int))], (.box (σ0 0) (fc f)) :: (Ent.obj (σ9 0) (MapIs (ents (keysTo f ws m)))) :: (.box (σ9 1) [.mp (σ9 0)]) :: .hole :: .hole :: .hole :: mem⟩) _ ⟨[(2, .ptr (σ0 0) 0), (10, .ptr (σ9 1) 0), (37, .slice ((ws).map encA) none), (38, I (ws.length : Int)), (39, I ((0) : Int))], (.box (σ0 0) (fc f)) :: (Ent.obj (σ9 0) (MapIs (ents (keysTo f ws (0))))) :: (.box (σ9 1) [.mp (σ9 0)]) :: .hole :: .hole :: .hole :: mem⟩ ⟨0, rfl, (by omega), rfl⟩ (Weak.of [] (by kernel_rfl) (by kernel_rfl)) ?_ Fr.plain
    rintro _ _ ⟨m, rfl, hm, rfl⟩
    refine AC.rq (fun σ11 => RegOK.m1 [2, 10, 37, 38, 39, 40] ⟨[(2, .ptr (σ0 0) 0), (10, .ptr (σ9 1) 0), (37, .slice ((ws).map encA) none), (38, I (ws.length : Int)), (39, I (m : Int)), (40, .bool (decide ((m : Int) < (ws.length : Int))))], (.box (σ0 0) (fc f)) :: (Ent.obj (σ9 0) (MapIs (ents (keysTo f ws m)))) :: (.box (σ9 1) [.mp (σ9 0)]) :: .hole :: .hole :: .hole :: mem⟩ (.cons (s_lss (.tmp 39 (I (m : Int))) (.tmp 38 (I (ws.length : Int)))) .nil) ?_)
    refine AC.cseq (decide ((m : Int) < (ws.length : Int))) rfl rfl (fun hc => ?_) (fun hc => ?_)
    ·have q7 := iD.1 hc
     refine AC.skip ?_
     refine thenQ_n ?_
     refine AC.bseq ?_
     refine AC.rq (fun σ12 => RegOK.m1 [2, 10, 12, 37, 38, 39] ⟨[(2, .ptr (σ0 0) 0), (10, .ptr (σ9 1) 0), (12, .ptr (σ12 2) 0), (37, .slice ((ws).map encA) none), (38, I (ws.length : Int)), (39, I (m : Int))], (.box (σ0 0) (fc f)) :: (Ent.obj (σ9 0) (MapIs (ents (keysTo f ws m)))) :: (.box (σ9 1) [.mp (σ9 0)]) :: (.box (σ12 2) [I ((ws.getD m (0, 0)).1), I ((ws.getD m (0, 0)).2)]) :: .hole :: .hole :: mem⟩ (.cons (s_ixM (l := ws) (f := encA) ((0, 0)) slc54 (.tmp 37 (.slice ((ws).map encA) none)) (.tmp 39 (I (m : Int))) (by omega) rfl) (.cons (s_loadAe (l := [I ((ws.getD m (0, 0)).1), I ((ws.getD m (0, 0)).2)]) tyA58 (.tmp 41 (.eptr (.agg [I ((ws.getD m (0, 0)).1), I ((ws.getD m (0, 0)).2)]) 0)) rfl rfl) (.cons (s_alloc 3 (σ12 2) zero58) (.cons (s_store (cs := [I 0, I 0]) 3 sz58 (.tmp 12 (.ptr (σ12 2) 0)) (.tmp 42 (.agg [I ((ws.getD m (0, 0)).1), I ((ws.getD m (0, 0)).2)])) rfl rfl rfl (Nat.le_of_ble_eq_true rfl)) .nil)))) ?_)
     obtain ⟨n, hn⟩ : ∃ n : Nat, (List.getD ws m (0, 0)).1 = (n : Int) := ⟨(List.getD ws m (0, 0)).1.toNat, by have := (hw m (by omega)).1; omega⟩
     have hnl : n < f.nodes.length := by have := (hw m (by omega)).1; omega
     rw [hn]
     refine RunL.region ?_
     refine RunL.chunk Fr.plain 4 (fun σ13_0 => RegOKL.m1 [2, 10, 37, 38, 39, 43, 45, 46] ⟨[(2, .ptr (σ0 0) 0), (10, .ptr (σ9 1) 0), (37, .slice ((ws).map encA) none), (38, I (ws.length : Int)), (39, I (m : Int)), (43, Feeder.av f), (45, I (n : Int)), (46, .func 61 [] [.ptr (σ9 1) 0, .ptr (σ12 2) 0])], (.box (σ0 0) (fc f)) :: (Ent.obj (σ9 0) (MapIs (ents (keysTo f ws m)))) :: (.box (σ9 1) [.mp (σ9 0)]) :: (.box (σ12 2) [I (n : Int), I ((ws.getD m (0, 0)).2)]) :: .hole :: .hole :: mem⟩ (.cons (s_loadA (cs := (fc f)) (l := (fc f)) 0 tyA28 (.tmp 2 (.ptr (σ0 0) 0)) rfl rfl) (.cons (s_fieldAddr fld58_0 (.tmp 12 (.ptr (σ12 2) 0))) (.cons (s_load1 (cs := [I (n : Int), I ((ws.getD m (0, 0)).2)]) (c := I (n : Int)) 3 tyS3 (.tmp 44 (.ptr (σ12 2) 0)) rfl) (.cons (s_makeFunc .nil (.cons (.tmp 10 (.ptr (σ9 1) 0)) (.cons (.tmp 12 (.ptr (σ12 2) 0)) .nil))) .nil)))) ?_)
     refine RunL.callT Fr.plain [Ent.box (σ0 0) (fc f)] ((Ent.obj (σ9 0) (MapIs (ents (keysTo f ws m)))) :: (Ent.box (σ9 1) [.mp (σ9 0)]) :: (Ent.box (σ12 2) [I (n : Int), I ((ws.getD m (0, 0)).2)]) :: []) (.hole :: .hole :: mem) rfl (.func 60) (.cons (.tmp 43 (Feeder.av f)) (.cons (.tmp 45 (I (n : Int))) (.cons (.tmp 46 (.func 61 [] [.ptr (σ9 1) 0, .ptr (σ12 2) 0])) .nil))) call60 ⟨by kernel_rfl, by kernel_rfl⟩ (fun _ _ _ _ _ => rfl) (F60 f g 61 [.ptr (σ9 1) 0, .ptr (σ12 2) 0] (fun pre => [Ent.obj (σ9 0) (MapIs (ents (insAll (ws.getD m (0, 0)).2 (keysTo f ws m) pre))), Ent.box (σ9 1) [.mp (σ9 0)], Ent.box (σ12 2) [I (n : Int), I ((ws.getD m (0, 0)).2)]]) 40 call61 (fun pre i hi hp hl => by rw [insAll_snoc]; exact F61 i _ _ _ _ _ _) n [] (by omega) (by have := dfs_length g.tree (k := f.nodes.length) (c := n) (by omega) (by omega); have := g.nn; simp; omega) (fun x hx => by cases hx)) ?_
     rintro _ _ ⟨rfl, rfl⟩
     refine RunL.nil ?_
     refine blockQ_n ?_
     refine thenQ_n ?_
     refine AC.re (fun σ14 => RegOK.m1 [2, 10, 37, 38, 39] ⟨[(2, .ptr (σ0 0) 0), (10, .ptr (σ9 1) 0), (37, .slice ((ws).map encA) none), (38, I (ws.length : Int)), (39, I ((m : Int) + 1))], (.box (σ0 0) (fc f)) :: (Ent.obj (σ9 0) (MapIs (ents (insAll (ws.getD m (0, 0)).2 (keysTo f ws m) (dfs f.nodes f.nodes.length n))))) :: (.box (σ9 1) [.mp (σ9 0)]) :: (.box (σ12 2) [I (n : Int), I ((ws.getD m (0, 0)).2)]) :: .hole :: .hole :: mem⟩ (.cons (s_add (.tmp 39 (I (m : Int))) (.int .i64 (1)) (inK_i64 (by omega))) (.cons (s_move (.tmp 48 (I ((m : Int) + 1)))) .nil)) ?_)
     refine thenQ_n ⟨_, ?_, _, ⟨(m + 1), rfl, (by omega), rfl⟩, Weak.of [3] (by kernel_rfl) (by rw [keys_succ hn]; rfl)⟩
     omega
    ·have q8 := iF iD hc
     have hme : m = ws.length := by omega
     subst hme
     refine AC.exit ?_
     refine thenQ_x ?_
     refine thenQ_x ?_
     refine blockQ_x ?_
     refine thenQ_n ?_
     refine AC.rq (fun σ15 => RegOK.m1 [2, 10, 13] ⟨[(2, .ptr (σ0 0) 0), (10, .ptr (σ9 1) 0), (13, .nils)], (.box (σ0 0) (fc f)) :: (Ent.obj (σ9 0) (MapIs (ents (keysTo f ws ws.length)))) :: (.box (σ9 1) [.mp (σ9 0)]) :: .hole :: .hole :: .hole :: mem⟩ (.cons (s_assign .nils) .nil) ?_)
     refine AC.claim 13 5 58 2 rfl rfl (fun c13 => ?_)
     refine AC.seq ?_
     refine AC.rq (fun σ16 => RegOK.m1 [10, 13, 51, 52] ⟨[(10, .ptr (σ9 1) 0), (13, .slice ((([] : List (Int × Int))).map encA) (some c13)), (51, I (f.nodes.length : Int)), (52, I 0)], (.box (σ0 0) (fc f)) :: (Ent.obj (σ9 0) (MapIs (ents (keysTo f ws ws.length)))) :: (.box (σ9 1) [.mp (σ9 0)]) :: .hole :: .hole :: (.row c13 (0) 58 2) :: mem⟩ (.cons (s_fieldAddr fld28_2 (.tmp 2 (.ptr (σ0 0) 0))) (.cons (s_load1 (cs := (fc f)) (c := .slice ((f.nodes).map Node.av) none) 0 tyS24 (.tmp 49 (.ptr (σ0 0) 2)) rfl) (.cons (s_lenM (l := f.nodes) slc24 (.tmp 50 (.slice ((f.nodes).map Node.av) none))) (.cons (s_move (.int .i64 (0))) .nil)))) ?_)
     refine AC.block ?_
     refine AC.loopW (fun mz T => ∃ (i : Nat), ∃ (l : List Opn), ∃ (s : Nat), mz = f.nodes.length - i ∧ ((i ≤ f.nodes.length) ∧ (l = darkTo f ws i) ∧ (l.length ≤ 3 * i)) ∧ T = ⟨[(10, .ptr (σ9 1) 0), (13, .slice ((l).map encA) (some s)), (51, I (f.nodes.length : Int)), (52, I (i : Int))], (.box (σ0 0) (fc f)) :: (Ent.obj (σ9 0) (MapIs (ents (keysTo f ws ws.length)))) :: (.box (σ9 1) [.mp (σ9 0)]) :: .hole :: .hole :: (.row s (l.length) 58 2) :: mem⟩) _ ⟨[(10, .ptr (σ9 1) 0), (13, .slice (((([] : List (Int × Int)))).map encA) (some (c13))), (51, I (f.nodes.length : Int)), (52, I ((0) : Int))], (.box (σ0 0) (fc f)) :: (Ent.obj (σ9 0) (MapIs (ents (keysTo f ws ws.length)))) :: (.box (σ9 1) [.mp (σ9 0)]) :: .hole :: .hole :: (.row (c13) ((([] : List (Int × Int))).length) 58 2) :: mem⟩ ⟨0, ([] : List (Int × Int)), c13, rfl, ⟨(by omega), (by rfl), (by simp)⟩, rfl⟩ (Weak.of [] (by kernel_rfl) (by kernel_rfl)) ?_ Fr.plain
     rintro _ _ ⟨i, l, s, rfl, ⟨hi, hl, hll⟩, rfl⟩
     have gnn := g.nn
     refine AC.rq (fun σ17 => RegOK.m1 [10, 13, 51, 52, 53] ⟨[(10, .ptr (σ9 1) 0), (13, .slice ((l).map encA) (some s)), (51, I (f.nodes.length : Int)), (52, I (i : Int)), (53, .bool (decide ((i : Int) < (f.nodes.length : Int))))], (.box (σ0 0) (fc f)) :: (Ent.obj (σ9 0) (MapIs (ents (keysTo f ws ws.length)))) :: (.box (σ9 1) [.mp (σ9 0)]) :: .hole :: .hole :: (.row s (l.length) 58 2) :: mem⟩ (.cons (s_lss (.tmp 52 (I (i : Int))) (.tmp 51 (I (f.nodes.length : Int)))) .nil) ?_)
     refine AC.cseq (decide ((i : Int) < (f.nodes.length : Int))) rfl rfl (fun hc => ?_) (fun hc => ?_)
     ·have q9 := iD.1 hc
      have hil : i < f.nodes.length := by omega
      refine AC.skip ?_
      refine thenQ_n ?_
      refine AC.bseq ?_
      refine AC.rq (fun σ18 => RegOK.m1 [10, 13, 14, 51, 52] ⟨[(10, .ptr (σ9 1) 0), (13, .slice ((l).map encA) (some s)), (14, I (i : Int)), (51, I (f.nodes.length : Int)), (52, I (i : Int))], (.box (σ0 0) (fc f)) :: (Ent.obj (σ9 0) (MapIs (ents (keysTo f ws ws.length)))) :: (.box (σ9 1) [.mp (σ9 0)]) :: .hole :: .hole :: (.row s (l.length) 58 2) :: mem⟩ (.cons (s_move (.tmp 52 (I (i : Int)))) (.cons (s_assign (.tmp 54 (I (i : Int)))) .nil)) ?_)
      refine AC.rq (fun σ19 => RegOK.m1 [10, 13, 14, 51, 52, 55] ⟨[(10, .ptr (σ9 1) 0), (13, .slice ((l).map encA) (some s)), (14, I (i : Int)), (51, I (f.nodes.length : Int)), (52, I (i : Int)), (55, I 0)], (.box (σ0 0) (fc f)) :: (Ent.obj (σ9 0) (MapIs (ents (keysTo f ws ws.length)))) :: (.box (σ9 1) [.mp (σ9 0)]) :: .hole :: .hole :: (.row s (l.length) 58 2) :: mem⟩ (.cons (s_move (.int .i64 (0))) .nil) ?_)
      refine AC.block ?_
      refine AC.turns (ACL.turn ?_)
      refine AC.rq (fun σ20 => RegOK.m1 [10, 13, 14, 51, 52, 55, 56] ⟨[(10, .ptr (σ9 1) 0), (13, .slice ((l).map encA) (some s)), (14, I (i : Int)), (51, I (f.nodes.length : Int)), (52, I (i : Int)), (55, I 0), (56, .bool (decide ((0 : Int) < 3)))], (.box (σ0 0) (fc f)) :: (Ent.obj (σ9 0) (MapIs (ents (keysTo f ws ws.length)))) :: (.box (σ9 1) [.mp (σ9 0)]) :: .hole :: .hole :: (.row s (l.length) 58 2) :: mem⟩ (.cons (s_lss (.tmp 55 (I 0)) (.int .i64 (3))) .nil) ?_)
      refine AC.cseq (decide ((0 : Int) < 3)) rfl rfl (fun hc => ?_) (fun hc => absurd hc (by simp))
      refine AC.skip ?_
      refine thenQ_n ?_
      refine AC.join (fun T => ∃ (dk0 : List Opn), ∃ (sdk0 : Nat), ((dk0 = l ++ co (isDark f ws i 0) ((i : Int), 0)) ∧ (dk0.length ≤ l.length + 1)) ∧ T = ⟨[(10, .ptr (σ9 1) 0), (13, .slice ((dk0).map encA) (some sdk0)), (14, I (i : Int)), (51, I (f.nodes.length : Int)), (52, I (i : Int)), (55, I 0)], (.box (σ0 0) (fc f)) :: (Ent.obj (σ9 0) (MapIs (ents (keysTo f ws ws.length)))) :: (.box (σ9 1) [.mp (σ9 0)]) :: .hole :: .hole :: (.row sdk0 (dk0.length) 58 2) :: mem⟩) ?_ ?_
      ·skip
       refine AC.block ?_
       refine AC.rq (fun σ21 => RegOK.m1 [10, 13, 14, 15, 51, 52, 55] ⟨[(10, .ptr (σ9 1) 0), (13, .slice ((l).map encA) (some s)), (14, I (i : Int)), (15, I 0), (51, I (f.nodes.length : Int)), (52, I (i : Int)), (55, I 0)], (.box (σ0 0) (fc f)) :: (Ent.obj (σ9 0) (MapIs (ents (keysTo f ws ws.length)))) :: (.box (σ9 1) [.mp (σ9 0)]) :: .hole :: .hole :: (.row s (l.length) 58 2) :: mem⟩ (.cons (s_move (.tmp 55 (I 0))) (.cons (s_assign (.tmp 57 (I 0))) .nil)) ?_)
       refine AC.rq (fun σ22 => RegOK.m1 [10, 13, 14, 16, 51, 52, 55] ⟨[(10, .ptr (σ9 1) 0), (13, .slice ((l).map encA) (some s)), (14, I (i : Int)), (16, .ptr (σ22 3) 0), (51, I (f.nodes.length : Int)), (52, I (i : Int)), (55, I 0)], (.box (σ0 0) (fc f)) :: (Ent.obj (σ9 0) (MapIs (ents (keysTo f ws ws.length)))) :: (.box (σ9 1) [.mp (σ9 0)]) :: .hole :: (.box (σ22 3) [I (i : Int), I 0]) :: (.row s (l.length) 58 2) :: mem⟩ (.cons (s_move (.tmp 14 (I (i : Int)))) (.cons (s_move (.tmp 15 (I 0))) (.cons (s_build (l := [I (i : Int), I 0]) zero58 plc58 (.cons rfl (.tmp 58 (I (i : Int))) (.cons rfl (.tmp 59 (I 0)) .nil)) rfl) (.cons (s_alloc 4 (σ22 3) zero58) (.cons (s_store (cs := [I 0, I 0]) 4 sz58 (.tmp 16 (.ptr (σ22 3) 0)) (.tmp 60 (.agg [I (i : Int), I 0])) rfl rfl rfl (Nat.le_of_ble_eq_true rfl)) .nil))))) ?_)
       refine AC.rq (fun σ23 => RegOK.m1 [10, 13, 14, 16, 51, 52, 55, 63] ⟨[(10, .ptr (σ9 1) 0), (13, .slice ((l).map encA) (some s)), (14, I (i : Int)), (16, .ptr (σ22 3) 0), (51, I (f.nodes.length : Int)), (52, I (i : Int)), (55, I 0), (63, .bool (decide (((i : Int), 0) ∈ (keysTo f ws ws.length))))], (.box (σ0 0) (fc f)) :: (Ent.obj (σ9 0) (MapIs (ents (keysTo f ws ws.length)))) :: (.box (σ9 1) [.mp (σ9 0)]) :: .hole :: (.box (σ22 3) [I (i : Int), I 0]) :: (.row s (l.length) 58 2) :: mem⟩ (.cons (s_load1 (cs := [.mp (σ9 0)]) (c := .mp (σ9 0)) 2 tyS109 (.tmp 10 (.ptr (σ9 1) 0)) rfl) (.cons (s_loadA (cs := [I (i : Int), I 0]) (l := [I (i : Int), I 0]) 4 tyA58 (.tmp 16 (.ptr (σ22 3) 0)) rfl rfl) (.cons (s_mapHas (ks := (keysTo f ws ws.length)) (kv := ((i : Int), 0)) 1 Try.underlying109 Try.underlying58 zero4 keyEq58 keyOK58 (.tmp 61 (.mp (σ9 0))) (.tmp 62 (.agg [I (i : Int), I 0]))) .nil))) ?_)
       refine AC.cend (decide (((i : Int), 0) ∈ (keysTo f ws ws.length))) rfl rfl (fun hc => ?_) (fun hc => ?_)
       ·have q10 := iD.1 hc
        refine AC.re (fun σ24 => RegOK.m1 [10, 13, 14, 51, 52, 55] ⟨[(10, .ptr (σ9 1) 0), (13, .slice (((l ++ [((i : Int), 0)])).map encA) (some (σ24 3))), (14, I (i : Int)), (51, I (f.nodes.length : Int)), (52, I (i : Int)), (55, I 0)], (.box (σ0 0) (fc f)) :: (Ent.obj (σ9 0) (MapIs (ents (keysTo f ws ws.length)))) :: (.box (σ9 1) [.mp (σ9 0)]) :: .hole :: (.box (σ22 3) [I (i : Int), I 0]) :: (.row (σ24 3) ((l ++ [((i : Int), 0)]).length) 58 2) :: mem⟩ (.cons (s_move (.tmp 13 (.slice ((l).map encA) (some s)))) (.cons (s_loadA (cs := [I (i : Int), I 0]) (l := [I (i : Int), I 0]) 4 tyA58 (.tmp 16 (.ptr (σ22 3) 0)) rfl rfl) (.cons (s_buildSlice' (es := [.agg [I (i : Int), I 0]]) zero58 slc54 rfl rfl (.cons rfl (.tmp 65 (.agg [I (i : Int), I 0])) .nil) rfl rfl) (.cons (s_appendM (l := l) (l2 := [((i : Int), 0)]) (f := encA) 5 (σ24 3) slc54 zero58 byt58 rfl (by decide) (.tmp 64 (.slice ((l).map encA) (some s))) (.tmp 66 (.slice (([((i : Int), 0)]).map encA) none)) (by simp) (fun _ => rfl) (fun _ => rfl) (by simp only [List.length_cons, List.length_nil]; omega)) (.cons (s_assign (.tmp 67 (.slice (((l ++ [((i : Int), 0)])).map encA) (some (σ24 3))))) .nil))))) ?_)
        refine blockQ_n ?_
        exact thenQ_n ⟨_, ⟨(l ++ [((i : Int), 0)]), (σ24 3), ⟨(by first | (rw [show isDark f ws i 0 = true from (keys_iff g.tree (fun j hj => (hw j hj).1) hil 0).1 (by assumption)]; rfl) | (rw [show isDark f ws i 0 = false from Bool.eq_false_iff.2 (fun h => absurd ((keys_iff g.tree (fun j hj => (hw j hj).1) hil 0).2 h) (by assumption))]; exact (List.append_nil _).symm)), (by first | omega | (simp only [List.length_append, List.length_cons, List.length_nil]; omega))⟩, rfl⟩, Weak.of [4] (by kernel_rfl) (by kernel_rfl)⟩
       ·have q11 := iF iD hc
        refine AC.skip ?_
        refine blockQ_n ?_
        exact thenQ_n ⟨_, ⟨l, s, ⟨(by first | (rw [show isDark f ws i 0 = true from (keys_iff g.tree (fun j hj => (hw j hj).1) hil 0).1 (by assumption)]; rfl) | (rw [show isDark f ws i 0 = false from Bool.eq_false_iff.2 (fun h => absurd ((keys_iff g.tree (fun j hj => (hw j hj).1) hil 0).2 h) (by assumption))]; exact (List.append_nil _).symm)), (by first | omega | (simp only [List.length_append, List.length_cons, List.length_nil]; omega))⟩, rfl⟩, Weak.of [4] (by kernel_rfl) (by kernel_rfl)⟩
      ·rintro _ ⟨dk0, sdk0, ⟨Edk0, Hdk0⟩, rfl⟩
       refine AC.re (fun σ25 => RegOK.m1 [10, 13, 14, 51, 52, 55] ⟨[(10, .ptr (σ9 1) 0), (13, .slice ((dk0).map encA) (some sdk0)), (14, I (i : Int)), (51, I (f.nodes.length : Int)), (52, I (i : Int)), (55, I 1)], (.box (σ0 0) (fc f)) :: (Ent.obj (σ9 0) (MapIs (ents (keysTo f ws ws.length)))) :: (.box (σ9 1) [.mp (σ9 0)]) :: .hole :: .hole :: (.row sdk0 (dk0.length) 58 2) :: mem⟩ (.cons (s_add (.tmp 55 (I 0)) (.int .i64 (1)) (inK_i64 (by decide))) (.cons (s_move (.tmp 68 (I 1))) .nil)) ?_)
       refine thenQ_n (ACL.turn ?_)
       refine AC.rq (fun σ20 => RegOK.m1 [10, 13, 14, 51, 52, 55, 56] ⟨[(10, .ptr (σ9 1) 0), (13, .slice ((dk0).map encA) (some sdk0)), (14, I (i : Int)), (51, I (f.nodes.length : Int)), (52, I (i : Int)), (55, I 1), (56, .bool (decide ((1 : Int) < 3)))], (.box (σ0 0) (fc f)) :: (Ent.obj (σ9 0) (MapIs (ents (keysTo f ws ws.length)))) :: (.box (σ9 1) [.mp (σ9 0)]) :: .hole :: .hole :: (.row sdk0 (dk0.length) 58 2) :: mem⟩ (.cons (s_lss (.tmp 55 (I 1)) (.int .i64 (3))) .nil) ?_)
       refine AC.cseq (decide ((1 : Int) < 3)) rfl rfl (fun hc => ?_) (fun hc => absurd hc (by simp))
       refine AC.skip ?_
       refine thenQ_n ?_
       refine AC.join (fun T => ∃ (dk1 : List Opn), ∃ (sdk1 : Nat), ((dk1 = dk0 ++ co (isDark f ws i 1) ((i : Int), 1)) ∧ (dk1.length ≤ dk0.length + 1)) ∧ T = ⟨[(10, .ptr (σ9 1) 0), (13, .slice ((dk1).map encA) (some sdk1)), (14, I (i : Int)), (51, I (f.nodes.length : Int)), (52, I (i : Int)), (55, I 1)], (.box (σ0 0) (fc f)) :: (Ent.obj (σ9 0) (MapIs (ents (keysTo f ws ws.length)))) :: (.box (σ9 1) [.mp (σ9 0)]) :: .hole :: .hole :: (.row sdk1 (dk1.length) 58 2) :: mem⟩) ?_ ?_
       ·skip
        refine AC.block ?_
        refine AC.rq (fun σ21 => RegOK.m1 [10, 13, 14, 15, 51, 52, 55] ⟨[(10, .ptr (σ9 1) 0), (13, .slice ((dk0).map encA) (some sdk0)), (14, I (i : Int)), (15, I 1), (51, I (f.nodes.length : Int)), (52, I (i : Int)), (55, I 1)], (.box (σ0 0) (fc f)) :: (Ent.obj (σ9 0) (MapIs (ents (keysTo f ws ws.length)))) :: (.box (σ9 1) [.mp (σ9 0)]) :: .hole :: .hole :: (.row sdk0 (dk0.length) 58 2) :: mem⟩ (.cons (s_move (.tmp 55 (I 1))) (.cons (s_assign (.tmp 57 (I 1))) .nil)) ?_)
        refine AC.rq (fun σ22 => RegOK.m1 [10, 13, 14, 16, 51, 52, 55] ⟨[(10, .ptr (σ9 1) 0), (13, .slice ((dk0).map encA) (some sdk0)), (14, I (i : Int)), (16, .ptr (σ22 3) 0), (51, I (f.nodes.length : Int)), (52, I (i : Int)), (55, I 1)], (.box (σ0 0) (fc f)) :: (Ent.obj (σ9 0) (MapIs (ents (keysTo f ws ws.length)))) :: (.box (σ9 1) [.mp (σ9 0)]) :: .hole :: (.box (σ22 3) [I (i : Int), I 1]) :: (.row sdk0 (dk0.length) 58 2) :: mem⟩ (.cons (s_move (.tmp 14 (I (i : Int)))) (.cons (s_move (.tmp 15 (I 1))) (.cons (s_build (l := [I (i : Int), I 1]) zero58 plc58 (.cons rfl (.tmp 58 (I (i : Int))) (.cons rfl (.tmp 59 (I 1)) .nil)) rfl) (.cons (s_alloc 4 (σ22 3) zero58) (.cons (s_store (cs := [I 0, I 0]) 4 sz58 (.tmp 16 (.ptr (σ22 3) 0)) (.tmp 60 (.agg [I (i : Int), I 1])) rfl rfl rfl (Nat.le_of_ble_eq_true rfl)) .nil))))) ?_)
        refine AC.rq (fun σ23 => RegOK.m1 [10, 13, 14, 16, 51, 52, 55, 63] ⟨[(10, .ptr (σ9 1) 0), (13, .slice ((dk0).map encA) (some sdk0)), (14, I (i : Int)), (16, .ptr (σ22 3) 0), (51, I (f.nodes.length : Int)), (52, I (i : Int)), (55, I 1), (63, .bool (decide (((i : Int), 1) ∈ (keysTo f ws ws.length))))], (.box (σ0 0) (fc f)) :: (Ent.obj (σ9 0) (MapIs (ents (keysTo f ws ws.length)))) :: (.box (σ9 1) [.mp (σ9 0)]) :: .hole :: (.box (σ22 3) [I (i : Int), I 1]) :: (.row sdk0 (dk0.length) 58 2) :: mem⟩ (.cons (s_load1 (cs := [.mp (σ9 0)]) (c := .mp (σ9 0)) 2 tyS109 (.tmp 10 (.ptr (σ9 1) 0)) rfl) (.cons (s_loadA (cs := [I (i : Int), I 1]) (l := [I (i : Int), I 1]) 4 tyA58 (.tmp 16 (.ptr (σ22 3) 0)) rfl rfl) (.cons (s_mapHas (ks := (keysTo f ws ws.length)) (kv := ((i : Int), 1)) 1 Try.underlying109 Try.underlying58 zero4 keyEq58 keyOK58 (.tmp 61 (.mp (σ9 0))) (.tmp 62 (.agg [I (i : Int), I 1]))) .nil))) ?_)
        refine AC.cend (decide (((i : Int), 1) ∈ (keysTo f ws ws.length))) rfl rfl (fun hc => ?_) (fun hc => ?_)
        ·have q12 := iD.1 hc
         refine AC.re (fun σ24 => RegOK.m1 [10, 13, 14, 51, 52, 55] ⟨[(10, .ptr (σ9 1) 0), (13, .slice (((dk0 ++ [((i : Int), 1)])).map encA) (some (σ24 3))), (14, I (i : Int)), (51, I (f.nodes.length : Int)), (52, I (i : Int)), (55, I 1)], (.box (σ0 0) (fc f)) :: (Ent.obj (σ9 0) (MapIs (ents (keysTo f ws ws.length)))) :: (.box (σ9 1) [.mp (σ9 0)]) :: .hole :: (.box (σ22 3) [I (i : Int), I 1]) :: (.row (σ24 3) ((dk0 ++ [((i : Int), 1)]).length) 58 2) :: mem⟩ (.cons (s_move (.tmp 13 (.slice ((dk0).map encA) (some sdk0)))) (.cons (s_loadA (cs := [I (i : Int), I 1]) (l := [I (i : Int), I 1]) 4 tyA58 (.tmp 16 (.ptr (σ22 3) 0)) rfl rfl) (.cons (s_buildSlice' (es := [.agg [I (i : Int), I 1]]) zero58 slc54 rfl rfl (.cons rfl (.tmp 65 (.agg [I (i : Int), I 1])) .nil) rfl rfl) (.cons (s_appendM (l := dk0) (l2 := [((i : Int), 1)]) (f := encA) 5 (σ24 3) slc54 zero58 byt58 rfl (by decide) (.tmp 64 (.slice ((dk0).map encA) (some sdk0))) (.tmp 66 (.slice (([((i : Int), 1)]).map encA) none)) (by simp) (fun _ => rfl) (fun _ => rfl) (by simp only [List.length_cons, List.length_nil]; omega)) (.cons (s_assign (.tmp 67 (.slice (((dk0 ++ [((i : Int), 1)])).map encA) (some (σ24 3))))) .nil))))) ?_)
         refine blockQ_n ?_
         exact thenQ_n ⟨_, ⟨(dk0 ++ [((i : Int), 1)]), (σ24 3), ⟨(by first | (rw [show isDark f ws i 1 = true from (keys_iff g.tree (fun j hj => (hw j hj).1) hil 1).1 (by assumption)]; rfl) | (rw [show isDark f ws i 1 = false from Bool.eq_false_iff.2 (fun h => absurd ((keys_iff g.tree (fun j hj => (hw j hj).1) hil 1).2 h) (by assumption))]; exact (List.append_nil _).symm)), (by first | omega | (simp only [List.length_append, List.length_cons, List.length_nil]; omega))⟩, rfl⟩, Weak.of [4] (by kernel_rfl) (by kernel_rfl)⟩
        ·have q13 := iF iD hc
         refine AC.skip ?_
         refine blockQ_n ?_
         exact thenQ_n ⟨_, ⟨dk0, sdk0, ⟨(by first | (rw [show isDark f ws i 1 = true from (keys_iff g.tree (fun j hj => (hw j hj).1) hil 1).1 (by assumption)]; rfl) | (rw [show isDark f ws i 1 = false from Bool.eq_false_iff.2 (fun h => absurd ((keys_iff g.tree (fun j hj => (hw j hj).1) hil 1).2 h) (by assumption))]; exact (List.append_nil _).symm)), (by first | omega | (simp only [List.length_append, List.length_cons, List.length_nil]; omega))⟩, rfl⟩, Weak.of [4] (by kernel_rfl) (by kernel_rfl)⟩
       ·rintro _ ⟨dk1, sdk1, ⟨Edk1, Hdk1⟩, rfl⟩
        refine AC.re (fun σ25 => RegOK.m1 [10, 13, 14, 51, 52, 55] ⟨[(10, .ptr (σ9 1) 0), (13, .slice ((dk1).map encA) (some sdk1)), (14, I (i : Int)), (51, I (f.nodes.length : Int)), (52, I (i : Int)), (55, I 2)], (.box (σ0 0) (fc f)) :: (Ent.obj (σ9 0) (MapIs (ents (keysTo f ws ws.length)))) :: (.box (σ9 1) [.mp (σ9 0)]) :: .hole :: .hole :: (.row sdk1 (dk1.length) 58 2) :: mem⟩ (.cons (s_add (.tmp 55 (I 1)) (.int .i64 (1)) (inK_i64 (by decide))) (.cons (s_move (.tmp 68 (I 2))) .nil)) ?_)
        refine thenQ_n (ACL.turn ?_)
        refine AC.rq (fun σ20 => RegOK.m1 [10, 13, 14, 51, 52, 55, 56] ⟨[(10, .ptr (σ9 1) 0), (13, .slice ((dk1).map encA) (some sdk1)), (14, I (i : Int)), (51, I (f.nodes.length : Int)), (52, I (i : Int)), (55, I 2), (56, .bool (decide ((2 : Int) < 3)))], (.box (σ0 0) (fc f)) :: (Ent.obj (σ9 0) (MapIs (ents (keysTo f ws ws.length)))) :: (.box (σ9 1) [.mp (σ9 0)]) :: .hole :: .hole :: (.row sdk1 (dk1.length) 58 2) :: mem⟩ (.cons (s_lss (.tmp 55 (I 2)) (.int .i64 (3))) .nil) ?_)
        refine AC.cseq (decide ((2 : Int) < 3)) rfl rfl (fun hc => ?_) (fun hc => absurd hc (by simp))
        refine AC.skip ?_
        refine thenQ_n ?_
        refine AC.join (fun T => ∃ (dk2 : List Opn), ∃ (sdk2 : Nat), ((dk2 = dk1 ++ co (isDark f ws i 2) ((i : Int), 2)) ∧ (dk2.length ≤ dk1.length + 1)) ∧ T = ⟨[(10, .ptr (σ9 1) 0), (13, .slice ((dk2).map encA) (some sdk2)), (14, I (i : Int)), (51, I (f.nodes.length : Int)), (52, I (i : Int)), (55, I 2)], (.box (σ0 0) (fc f)) :: (Ent.obj (σ9 0) (MapIs (ents (keysTo f ws ws.length)))) :: (.box (σ9 1) [.mp (σ9 0)]) :: .hole :: .hole :: (.row sdk2 (dk2.length) 58 2) :: mem⟩) ?_ ?_
        ·skip
         refine AC.block ?_
         refine AC.rq (fun σ21 => RegOK.m1 [10, 13, 14, 15, 51, 52, 55] ⟨[(10, .ptr (σ9 1) 0), (13, .slice ((dk1).map encA) (some sdk1)), (14, I (i : Int)), (15, I 2), (51, I (f.nodes.length : Int)), (52, I (i : Int)), (55, I 2)], (.box (σ0 0) (fc f)) :: (Ent.obj (σ9 0) (MapIs (ents (keysTo f ws ws.length)))) :: (.box (σ9 1) [.mp (σ9 0)]) :: .hole :: .hole :: (.row sdk1 (dk1.length) 58 2) :: mem⟩ (.cons (s_move (.tmp 55 (I 2))) (.cons (s_assign (.tmp 57 (I 2))) .nil)) ?_)
         refine AC.rq (fun σ22 => RegOK.m1 [10, 13, 14, 16, 51, 52, 55] ⟨[(10, .ptr (σ9 1) 0), (13, .slice ((dk1).map encA) (some sdk1)), (14, I (i : Int)), (16, .ptr (σ22 3) 0), (51, I (f.nodes.length : Int)), (52, I (i : Int)), (55, I 2)], (.box (σ0 0) (fc f)) :: (Ent.obj (σ9 0) (MapIs (ents (keysTo f ws ws.length)))) :: (.box (σ9 1) [.mp (σ9 0)]) :: .hole :: (.box (σ22 3) [I (i : Int), I 2]) :: (.row sdk1 (dk1.length) 58 2) :: mem⟩ (.cons (s_move (.tmp 14 (I (i : Int)))) (.cons (s_move (.tmp 15 (I 2))) (.cons (s_build (l := [I (i : Int), I 2]) zero58 plc58 (.cons rfl (.tmp 58 (I (i : Int))) (.cons rfl (.tmp 59 (I 2)) .nil)) rfl) (.cons (s_alloc 4 (σ22 3) zero58) (.cons (s_store (cs := [I 0, I 0]) 4 sz58 (.tmp 16 (.ptr (σ22 3) 0)) (.tmp 60 (.agg [I (i : Int), I 2])) rfl rfl rfl (Nat.le_of_ble_eq_true rfl)) .nil))))) ?_)
         refine AC.rq (fun σ23 => RegOK.m1 [10, 13, 14, 16, 51, 52, 55, 63] ⟨[(10, .ptr (σ9 1) 0), (13, .slice ((dk1).map encA) (some sdk1)), (14, I (i : Int)), (16, .ptr (σ22 3) 0), (51, I (f.nodes.length : Int)), (52, I (i : Int)), (55, I 2), (63, .bool (decide (((i : Int), 2) ∈ (keysTo f ws ws.length))))], (.box (σ0 0) (fc f)) :: (Ent.obj (σ9 0) (MapIs (ents (keysTo f ws ws.length)))) :: (.box (σ9 1) [.mp (σ9 0)]) :: .hole :: (.box (σ22 3) [I (i : Int), I 2]) :: (.row sdk1 (dk1.length) 58 2) :: mem⟩ (.cons (s_load1 (cs := [.mp (σ9 0)]) (c := .mp (σ9 0)) 2 tyS109 (.tmp 10 (.ptr (σ9 1) 0)) rfl) (.cons (s_loadA (cs := [I (i : Int), I 2]) (l := [I (i : Int), I 2]) 4 tyA58 (.tmp 16 (.ptr (σ22 3) 0)) rfl rfl) (.cons (s_mapHas (ks := (keysTo f ws ws.length)) (kv := ((i : Int), 2)) 1 Try.underlying109 Try.underlying58 zero4 keyEq58 keyOK58 (.tmp 61 (.mp (σ9 0))) (.tmp 62 (.agg [I (i : Int), I 2]))) .nil))) ?_)
         refine AC.cend (decide (((i : Int), 2) ∈ (keysTo f ws ws.length))) rfl rfl (fun hc => ?_) (fun hc => ?_)
         ·have q14 := iD.1 hc
          refine AC.re (fun σ24 => RegOK.m1 [10, 13, 14, 51, 52, 55] ⟨[(10, .ptr (σ9 1) 0), (13, .slice (((dk1 ++ [((i : Int), 2)])).map encA) (some (σ24 3))), (14, I (i : Int)), (51, I (f.nodes.length : Int)), (52, I (i : Int)), (55, I 2)], (.box (σ0 0) (fc f)) :: (Ent.obj (σ9 0) (MapIs (ents (keysTo f ws ws.length)))) :: (.box (σ9 1) [.mp (σ9 0)]) :: .hole :: (.box (σ22 3) [I (i : Int), I 2]) :: (.row (σ24 3) ((dk1 ++ [((i : Int), 2)]).length) 58 2) :: mem⟩ (.cons (s_move (.tmp 13 (.slice ((dk1).map encA) (some sdk1)))) (.cons (s_loadA (cs := [I (i : Int), I 2]) (l := [I (i : Int), I 2]) 4 tyA58 (.tmp 16 (.ptr (σ22 3) 0)) rfl rfl) (.cons (s_buildSlice' (es := [.agg [I (i : Int), I 2]]) zero58 slc54 rfl rfl (.cons rfl (.tmp 65 (.agg [I (i : Int), I 2])) .nil) rfl rfl) (.cons (s_appendM (l := dk1) (l2 := [((i : Int), 2)]) (f := encA) 5 (σ24 3) slc54 zero58 byt58 rfl (by decide) (.tmp 64 (.slice ((dk1).map encA) (some sdk1))) (.tmp 66 (.slice (([((i : Int), 2)]).map encA) none)) (by simp) (fun _ => rfl) (fun _ => rfl) (by simp only [List.length_cons, List.length_nil]; omega)) (.cons (s_assign (.tmp 67 (.slice (((dk1 ++ [((i : Int), 2)])).map encA) (some (σ24 3))))) .nil))))) ?_)
          refine blockQ_n ?_
          exact thenQ_n ⟨_, ⟨(dk1 ++ [((i : Int), 2)]), (σ24 3), ⟨(by first | (rw [show isDark f ws i 2 = true from (keys_iff g.tree (fun j hj => (hw j hj).1) hil 2).1 (by assumption)]; rfl) | (rw [show isDark f ws i 2 = false from Bool.eq_false_iff.2 (fun h => absurd ((keys_iff g.tree (fun j hj => (hw j hj).1) hil 2).2 h) (by assumption))]; exact (List.append_nil _).symm)), (by first | omega | (simp only [List.length_append, List.length_cons, List.length_nil]; omega))⟩, rfl⟩, Weak.of [4] (by kernel_rfl) (by kernel_rfl)⟩
         ·have q15 := iF iD hc
          refine AC.skip ?_
          refine blockQ_n ?_
          exact thenQ_n ⟨_, ⟨dk1, sdk1, ⟨(by first | (rw [show isDark f ws i 2 = true from (keys_iff g.tree (fun j hj => (hw j hj).1) hil 2).1 (by assumption)]; rfl) | (rw [show isDark f ws i 2 = false from Bool.eq_false_iff.2 (fun h => absurd ((keys_iff g.tree (fun j hj => (hw j hj).1) hil 2).2 h) (by assumption))]; exact (List.append_nil _).symm)), (by first | omega | (simp only [List.length_append, List.length_cons, List.length_nil]; omega))⟩, rfl⟩, Weak.of [4] (by kernel_rfl) (by kernel_rfl)⟩
        ·rintro _ ⟨dk2, sdk2, ⟨Edk2, Hdk2⟩, rfl⟩
         refine AC.re (fun σ25 => RegOK.m1 [10, 13, 14, 51, 52, 55] ⟨[(10, .ptr (σ9 1) 0), (13, .slice ((dk2).map encA) (some sdk2)), (14, I (i : Int)), (51, I (f.nodes.length : Int)), (52, I (i : Int)), (55, I 3)], (.box (σ0 0) (fc f)) :: (Ent.obj (σ9 0) (MapIs (ents (keysTo f ws ws.length)))) :: (.box (σ9 1) [.mp (σ9 0)]) :: .hole :: .hole :: (.row sdk2 (dk2.length) 58 2) :: mem⟩ (.cons (s_add (.tmp 55 (I 2)) (.int .i64 (1)) (inK_i64 (by decide))) (.cons (s_move (.tmp 68 (I 3))) .nil)) ?_)
         refine thenQ_n (ACL.turn ?_)
         refine AC.rq (fun σ20 => RegOK.m1 [10, 13, 14, 51, 52, 55, 56] ⟨[(10, .ptr (σ9 1) 0), (13, .slice ((dk2).map encA) (some sdk2)), (14, I (i : Int)), (51, I (f.nodes.length : Int)), (52, I (i : Int)), (55, I 3), (56, .bool (decide ((3 : Int) < 3)))], (.box (σ0 0) (fc f)) :: (Ent.obj (σ9 0) (MapIs (ents (keysTo f ws ws.length)))) :: (.box (σ9 1) [.mp (σ9 0)]) :: .hole :: .hole :: (.row sdk2 (dk2.length) 58 2) :: mem⟩ (.cons (s_lss (.tmp 55 (I 3)) (.int .i64 (3))) .nil) ?_)
         refine AC.cseq (decide ((3 : Int) < 3)) rfl rfl (fun hc => absurd hc (by simp)) (fun hc => ?_)
         refine AC.exit ?_
         refine thenQ_x ?_
         refine thenQ_x ?_
         refine blockQ_x ?_
         refine blockQ_n ?_
         refine thenQ_n ?_
         refine AC.re (fun σ26 => RegOK.m1 [10, 13, 51, 52] ⟨[(10, .ptr (σ9 1) 0), (13, .slice ((dk2).map encA) (some sdk2)), (51, I (f.nodes.length : Int)), (52, I ((i : Int) + 1))], (.box (σ0 0) (fc f)) :: (Ent.obj (σ9 0) (MapIs (ents (keysTo f ws ws.length)))) :: (.box (σ9 1) [.mp (σ9 0)]) :: .hole :: .hole :: (.row sdk2 (dk2.length) 58 2) :: mem⟩ (.cons (s_add (.tmp 52 (I (i : Int))) (.int .i64 (1)) (inK_i64 (by omega))) (.cons (s_move (.tmp 69 (I ((i : Int) + 1)))) .nil)) ?_)
         refine thenQ_n ⟨_, ?_, _, ⟨(i + 1), dk2, sdk2, rfl, ⟨(by omega), (by rw [Edk2, Edk1, Edk0, hl]; show _ = darkTo f ws i ++ darkAt f ws i; unfold darkAt; simp only [List.append_assoc]), (by omega)⟩, rfl⟩, Weak.of [] (by kernel_rfl) (by kernel_rfl)⟩
         omega
     ·have q16 := iF iD hc
      refine AC.exit ?_
      refine thenQ_x ?_
      refine thenQ_x ?_
      refine blockQ_x ?_
      refine thenQ_n ?_
      refine AC.rq (fun σ27 => RegOK.m1 [4, 5] ⟨[(4, .slice ((l).map encA) (some s)), (5, I 0)], (.box (σ0 0) (fc f)) :: (Ent.obj (σ9 0) (MapIs (ents (keysTo f ws ws.length)))) :: (.box (σ9 1) [.mp (σ9 0)]) :: .hole :: .hole :: (.row s (l.length) 58 2) :: mem⟩ (.cons (s_move (.tmp 13 (.slice ((l).map encA) (some s)))) (.cons (s_assign (.tmp 70 (.slice ((l).map encA) (some s)))) (.cons (s_assign (.int .i64 (0))) .nil))) ?_)
      refine AC.ret ?_
      exact FinQ.ret (result2 rfl (res_free (res_tmp (v := .slice ((l).map encA) (some s)) rfl rfl)) (res_tmp (v := I 0) rfl rfl)) ⟨by (have ei : i = f.nodes.length := by omega); subst ei; rw [darkRes_0 (by unfold darkErr; first | (rw [if_pos (by assumption)]; done) | (rw [if_neg (by assumption)]; first | (rw [if_pos (by assumption)]; done) | (rw [if_neg (by assumption)]; first | (rw [if_pos (by assumption)]; done) | (rw [if_neg (by assumption)]; done)))), hl], rfl⟩
end Go.Proofs.Ytahdgadjpkcnjaa
end
section
set_option maxRecDepth 100000
namespace Go.Proofs.Ytahdgadjpkcnjaa
open Go.Proofs
theorem F125 (f : Feeder) (g : FG f) (c : Nat) (hcc : c < f.nodes.length) (s2 s1 : Nat) : MeetsT Try.prog 125 [.nils, .func 123 [] [.ptr s1 0, .ptr s2 0]] [Ent.box s2 (fc f), Ent.box s1 [I ((nd f.nodes c 0 : Nat) : Int)], Ent.hole] (fun r m' => ∃ σ : Nat, r = .sym σ ((upTo f.nodes c (anc f.nodes c).length).length) ∧ m' = [Ent.box s2 (fc f), Ent.box s1 [I ((nd f.nodes c (anc f.nodes c).length : Nat) : Int)], Ent.mrow σ (((upTo f.nodes c (anc f.nodes c).length)).map I) 3 1]) := by
 intro tl
 refine Meets.body 2 Try.func125 rfl rfl ?_
 refine AC.rq (fun σ0 => RegOK.m1 [1, 2] ⟨[(1, .func 123 [] [.ptr s1 0, .ptr s2 0]), (2, .ptr (σ0 0) 0)], (.box (σ0 0) [.nils]) :: .hole :: (.box s2 (fc f)) :: (.box s1 [I ((nd f.nodes c 0 : Nat) : Int)]) :: .hole :: tl⟩ (.cons (s_box 0 (σ0 0) (.tmp 0 (.nils)) rfl) (.cons (s_assign .nils) .nil)) ?_)
 refine AC.claimqB 0 (σ0 0) [.nils] 0 4 3 1 rfl rfl rfl (by decide) (fun cb => ?_)
 refine AC.seq ?_
 refine AC.rq (fun σ1 => RegOK.m1 [2, 6] ⟨[(2, .ptr (σ0 0) 0), (6, .func 123 [] [.ptr s1 0, .ptr s2 0])], (.box (σ0 0) [.sym cb (0)]) :: .hole :: (.box s2 (fc f)) :: (.box s1 [I ((nd f.nodes c 0 : Nat) : Int)]) :: (.mrow cb ((([] : List Int)).map I) 3 1) :: tl⟩ (.cons (s_move (.tmp 1 (.func 123 [] [.ptr s1 0, .ptr s2 0]))) .nil) ?_)
 refine AC.block ?_
 refine AC.range2 Fr.plain 1 (n := 123) (fs := []) (caps := [.ptr s1 0, .ptr s2 0]) (len := (anc f.nodes c).length) (arg := (fun j1 => [I ((nd f.nodes c j1 : Nat) : Int)])) (E1 := fun j1 => Ent.box s1 [I ((nd f.nodes c j1 : Nat) : Int)]) rfl rfl call123 rfl (.inl rfl) 3 2 cb [0, 4] (fun j1 x1 => [Ent.box (σ0 0) [.sym x1 ((upTo f.nodes c j1).length)], Ent.mrow x1 (((upTo f.nodes c j1)).map I) 3 1]) (by decide) rfl rfl rfl (fun _ => rfl) (fun l M hM => F123 f g c hcc s1 s2 l M hM) (fun l1 L1 Lb1 hL1 hLb1 F1 hF1 hr1 tl1 j1 x1 hj1 => ?_) (fun x1 => ?_)
 ·skip
  have ul := up_len (ns := f.nodes) (c := c) (j := j1) (Nat.le_of_lt hj1)
  have al := g.anc_len hcc
  refine AC.rend hF1 mixed (fun σ2 => RegOK.m1 [2, 5] ⟨[(2, .ptr (σ0 0) 0), (5, I ((nd f.nodes c j1 : Nat) : Int))], (.box (σ0 0) [.sym x1 ((upTo f.nodes c j1).length)]) :: (L1) :: (.box s2 (fc f)) :: (.box s1 [I ((nd f.nodes c j1 : Nat) : Int)]) :: (.mrow x1 (((upTo f.nodes c j1)).map I) 3 1) :: (tl ++ tl1)⟩ (.cons (s_assign (.tmp 7 (I ((nd f.nodes c j1 : Nat) : Int)))) .nil) ?_)
  refine thenQ_n ⟨(.box (σ0 0) [.sym x1 ((upTo f.nodes c j1).length)]) :: (L1) :: (.box s2 (fc f)) :: (.box s1 [I ((nd f.nodes c j1 : Nat) : Int)]) :: (.mrow x1 (((upTo f.nodes c j1)).map I) 3 1) :: tl, rfl, rfl, ?_⟩
  refine AC.block ?_
  refine AC.rend hF1 mixed (fun σ3 => RegOK.m1 [] ⟨[], (.box (σ0 0) [.sym (σ3 3) (((upTo f.nodes c j1) ++ [((nd f.nodes c j1 : Nat) : Int)]).length)]) :: (Lb1) :: (.box s2 (fc f)) :: (.box s1 [I ((nd f.nodes c j1 : Nat) : Int)]) :: (.mrow (σ3 3) ((((upTo f.nodes c j1) ++ [((nd f.nodes c j1 : Nat) : Int)])).map I) 3 1) :: (tl ++ tl1)⟩ (.cons (s_load1 (cs := [.sym x1 ((upTo f.nodes c j1).length)]) (c := .sym x1 ((upTo f.nodes c j1).length)) 0 tyS48 (.tmp 2 (.ptr (σ0 0) 0)) rfl) (.cons (s_move (.tmp 5 (I ((nd f.nodes c j1 : Nat) : Int)))) (.cons (s_buildSlice' (es := [I ((nd f.nodes c j1 : Nat) : Int)]) zero3 slc48 rfl rfl (.cons rfl (.tmp 9 (I ((nd f.nodes c j1 : Nat) : Int))) .nil) rfl rfl) (.cons (s_appendMq (l := (upTo f.nodes c j1)) (l2 := [((nd f.nodes c j1 : Nat) : Int)]) (f := I) 4 (σ3 3) slc48 zero3 byt3 rfl (by decide) (.tmp 8 (.sym x1 ((upTo f.nodes c j1).length))) (.tmp 10 (.slice (([((nd f.nodes c j1 : Nat) : Int)]).map I) none)) (by simp) (fun _ => rfl) (fun _ => rfl) (by simp only [List.length_cons, List.length_nil]; omega)) (.cons (s_store (cs := [.sym x1 ((upTo f.nodes c j1).length)]) 0 sz48 (.tmp 2 (.ptr (σ0 0) 0)) (.tmp 11 (.sym (σ3 3) (((upTo f.nodes c j1) ++ [((nd f.nodes c j1 : Nat) : Int)]).length))) rfl rfl rfl (Nat.le_of_ble_eq_true rfl)) .nil))))) ?_)
  refine blockQ_n ?_
  exact ⟨⟨[], (.box (σ0 0) [.sym (σ3 3) (((upTo f.nodes c j1) ++ [((nd f.nodes c j1 : Nat) : Int)]).length)]) :: (Lb1) :: (.box s2 (fc f)) :: (.box s1 [I ((nd f.nodes c j1 : Nat) : Int)]) :: (.mrow (σ3 3) ((((upTo f.nodes c j1) ++ [((nd f.nodes c j1 : Nat) : Int)])).map I) 3 1) :: (tl ++ tl1)⟩, Weak.of [] rfl (by kernel_rfl), (.box (σ0 0) [.sym (σ3 3) (((upTo f.nodes c j1) ++ [((nd f.nodes c j1 : Nat) : Int)]).length)]) :: (Lb1) :: (.box s2 (fc f)) :: (.box s1 [I ((nd f.nodes c j1 : Nat) : Int)]) :: (.mrow (σ3 3) ((((upTo f.nodes c j1) ++ [((nd f.nodes c j1 : Nat) : Int)])).map I) 3 1) :: tl, rfl, rfl, ⟨(σ3 3), by rw [up_step hj1]; rfl⟩⟩
 ·skip
  refine blockQ_n ?_
  refine thenQ_n ?_
  refine AC.rq (fun σ4 => RegOK.m1 [4] ⟨[(4, .sym x1 ((upTo f.nodes c (anc f.nodes c).length).length))], (.box (σ0 0) [.sym x1 ((upTo f.nodes c (anc f.nodes c).length).length)]) :: .hole :: (.box s2 (fc f)) :: (.box s1 [I ((nd f.nodes c (anc f.nodes c).length : Nat) : Int)]) :: (.mrow x1 (((upTo f.nodes c (anc f.nodes c).length)).map I) 3 1) :: tl⟩ (.cons (s_load1 (cs := [.sym x1 ((upTo f.nodes c (anc f.nodes c).length).length)]) (c := .sym x1 ((upTo f.nodes c (anc f.nodes c).length).length)) 0 tyS48 (.tmp 2 (.ptr (σ0 0) 0)) rfl) (.cons (s_assign (.tmp 12 (.sym x1 ((upTo f.nodes c (anc f.nodes c).length).length)))) .nil)) ?_)
  refine AC.ret ?_
  exact FinQ.ret (result1 rfl (res_tmp (v := .sym x1 ((upTo f.nodes c (anc f.nodes c).length).length)) rfl rfl)) ⟨[Ent.box s2 (fc f), Ent.box s1 [I ((nd f.nodes c (anc f.nodes c).length : Nat) : Int)], Ent.mrow x1 (((upTo f.nodes c (anc f.nodes c).length)).map I) 3 1], rfl, x1, rfl, rfl⟩
theorem F98 (f : Feeder) (g : FG f) (c : Nat) (hcc : c < f.nodes.length) (s2 s1 : Nat) : MeetsT Try.prog 98 [.func 123 [] [.ptr s1 0, .ptr s2 0]] [Ent.box s2 (fc f), Ent.box s1 [I ((nd f.nodes c 0 : Nat) : Int)], Ent.hole] (fun r m' => ∃ σ : Nat, r = .sym σ ((upTo f.nodes c (anc f.nodes c).length).length) ∧ m' = [Ent.box s2 (fc f), Ent.box s1 [I ((nd f.nodes c (anc f.nodes c).length : Nat) : Int)], Ent.mrow σ (((upTo f.nodes c (anc f.nodes c).length)).map I) 3 1]) := by
 intro tl
 refine Meets.body 0 Try.func98 rfl rfl ?_
 refine AC.rq (fun σ0 => RegOK.m1 [0] ⟨[(0, .func 123 [] [.ptr s1 0, .ptr s2 0])], (.box s2 (fc f)) :: (.box s1 [I ((nd f.nodes c 0 : Nat) : Int)]) :: .hole :: tl⟩ (.cons (s_assign .nils) .nil) ?_)
 refine AC.seq (RunL.region ?_)
 refine RunL.chunk Fr.plain 1 (fun σ1_0 => RegOKL.m1 [3] ⟨[(3, .func 123 [] [.ptr s1 0, .ptr s2 0])], (.box s2 (fc f)) :: (.box s1 [I ((nd f.nodes c 0 : Nat) : Int)]) :: .hole :: tl⟩ (.cons (s_move (.tmp 0 (.func 123 [] [.ptr s1 0, .ptr s2 0]))) .nil) ?_)
 refine RunL.callT Fr.plain [] ((Ent.box s2 (fc f)) :: (Ent.box s1 [I ((nd f.nodes c 0 : Nat) : Int)]) :: (Ent.hole) :: []) (tl) rfl (.func 125) (.cons .nils (.cons (.tmp 3 (.func 123 [] [.ptr s1 0, .ptr s2 0])) .nil)) call125 ⟨by kernel_rfl, by kernel_rfl⟩ (fun _ _ _ _ _ => rfl) (F125 f g c (by omega) s2 s1) ?_
 rintro _ _ ⟨sq1, rfl, rfl⟩
 refine RunL.chunk Fr.plain 1 (fun σ1_2 => RegOKL.m1 [2] ⟨[(2, .sym sq1 ((upTo f.nodes c (anc f.nodes c).length).length))], (.box s2 (fc f)) :: (.box s1 [I ((nd f.nodes c (anc f.nodes c).length : Nat) : Int)]) :: (.mrow sq1 (((upTo f.nodes c (anc f.nodes c).length)).map I) 3 1) :: tl⟩ (.cons (s_assign (.tmp 4 (.sym sq1 ((upTo f.nodes c (anc f.nodes c).length).length)))) .nil) ?_)
 refine RunL.nil (thenQ_n ?_)
 refine AC.ret ?_
 exact FinQ.ret (result1 rfl (res_tmp (v := .sym sq1 ((upTo f.nodes c (anc f.nodes c).length).length)) rfl rfl)) ⟨[Ent.box s2 (fc f), Ent.box s1 [I ((nd f.nodes c (anc f.nodes c).length : Nat) : Int)], Ent.mrow sq1 (((upTo f.nodes c (anc f.nodes c).length)).map I) 3 1], rfl, sq1, rfl, rfl⟩
theorem F99 (l : List Int) (s0 : Nat) (hl : (l.length : Int) ≤ 1000000) : MeetsT Try.prog 99 [.sym s0 (l.length)] [Ent.mrow s0 ((l).map I) 3 1] (fun r m' => r = .tuple [] ∧ m' = [Ent.mrow s0 ((l.reverse).map I) 3 1]) := by
 intro tl
 refine Meets.body 0 Try.func99 rfl rfl ?_
 refine AC.rq (fun σ0 => RegOK.m1 [0, 2, 3] ⟨[(0, .sym s0 (l.length)), (2, I 0), (3, I ((l.length : Int) - 1))], (.mrow s0 ((l).map I) 3 1) :: tl⟩ (.cons (s_move (.tmp 0 (.sym s0 (l.length)))) (.cons (s_lenq slc48 (.tmp 4 (.sym s0 (l.length)))) (.cons (s_sub (.tmp 5 (I (l.length : Int))) (.int .i64 (1)) (inK_i64 (by omega))) (.cons (s_assign (.int .i64 (0))) (.cons (s_assign (.tmp 6 (I ((l.length : Int) - 1)))) .nil))))) ?_)
 refine AC.block ?_
 refine AC.loopW (fun mz T => ∃ (k : Nat), ∃ (j : Int), ∃ (m : List Int), mz = l.length - k ∧ ((k ≤ l.length) ∧ (j = (l.length : Int) - 1 - (k : Int)) ∧ (m.length = l.length) ∧ (Rv l m k)) ∧ T = ⟨[(0, .sym s0 (l.length)), (2, I (k : Int)), (3, I j)], (.mrow s0 ((m).map I) 3 1) :: tl⟩) _ ⟨[(0, .sym s0 (l.length)), (2, I ((0) : Int)), (3, I (((l.length : Int) - 1)))], (.mrow s0 (((l)).map I) 3 1) :: tl⟩ ⟨0, ((l.length : Int) - 1), l, rfl, ⟨(by omega), (by omega), (by rfl), (by exact rv_zero l)⟩, rfl⟩ (Weak.of [] (by kernel_rfl) (by kernel_rfl)) ?_ Fr.plain
 rintro _ _ ⟨k, j, m, rfl, ⟨hk, hj, hm, hv⟩, rfl⟩
 refine AC.seq ?_
 refine AC.rq (fun σ1 => RegOK.m1 [0, 2, 3, 9] ⟨[(0, .sym s0 (l.length)), (2, I (k : Int)), (3, I j), (9, .bool (decide ((k : Int) < j)))], (.mrow s0 ((m).map I) 3 1) :: tl⟩ (.cons (s_move (.tmp 2 (I (k : Int)))) (.cons (s_move (.tmp 3 (I j))) (.cons (s_lss (.tmp 7 (I (k : Int))) (.tmp 8 (I j))) .nil))) ?_)
 refine AC.cend (decide ((k : Int) < j)) rfl rfl (fun hc => ?_) (fun hc => ?_)
 ·have q1 := iD.1 hc
  refine AC.skip ?_
  refine thenQ_n ?_
  refine AC.bseq ?_
  refine AC.re (fun σ3 => RegOK.m1 [0, 2, 3] ⟨[(0, .sym s0 (l.length)), (2, I (k : Int)), (3, I j)], (.mrow s0 ((((m.set k (m.getD (j).toNat 0)).set (j).toNat (m.getD k 0))).map I) 3 1) :: tl⟩ (.cons (s_move (.tmp 0 (.sym s0 (l.length)))) (.cons (s_move (.tmp 2 (I (k : Int)))) (.cons (s_move (.tmp 0 (.sym s0 (l.length)))) (.cons (s_move (.tmp 3 (I j))) (.cons (s_move (.tmp 0 (.sym s0 (l.length)))) (.cons (s_move (.tmp 3 (I j))) (.cons (s_indexAddrq slc48 (.tmp 18 (.sym s0 (l.length))) (.tmp 19 (I j)) (by first | omega | (simp only [List.length_set]; omega))) (.cons (s_load1Mq (e := 3) (l := m) (f := I) (c := I (m.getD (j).toNat 0)) 0 0 tyS3 (.tmp 20 (.sptr s0 ((j).toNat * 1 + 0))) (by first | omega | (simp only [List.length_set]; omega)) (fun _ => rfl) rfl) (.cons (s_move (.tmp 0 (.sym s0 (l.length)))) (.cons (s_move (.tmp 2 (I (k : Int)))) (.cons (s_indexAddrq slc48 (.tmp 22 (.sym s0 (l.length))) (.tmp 23 (I (k : Int))) (by first | omega | (simp only [List.length_set]; omega))) (.cons (s_load1Mq (e := 3) (l := m) (f := I) (c := I (m.getD k 0)) 0 0 tyS3 (.tmp 24 (.sptr s0 (k * 1 + 0))) (by first | omega | (simp only [List.length_set]; omega)) (fun _ => rfl) rfl) (.cons (s_indexAddrq slc48 (.tmp 14 (.sym s0 (l.length))) (.tmp 15 (I (k : Int))) (by first | omega | (simp only [List.length_set]; omega))) (.cons (s_storeMq (e := 3) (l := m) (f := I) 0 ((m.getD (j).toNat 0)) 0 sz3 (.tmp 26 (.sptr s0 (k * 1 + 0))) (.tmp 21 (I (m.getD (j).toNat 0))) rfl rfl rfl (by first | omega | (simp only [List.length_set]; omega)) rfl (Nat.le_of_ble_eq_true rfl)) (.cons (s_indexAddrq slc48 (.tmp 16 (.sym s0 (l.length))) (.tmp 17 (I j)) (by first | omega | (simp only [List.length_set]; omega))) (.cons (s_storeMq (e := 3) (l := (m.set k (m.getD (j).toNat 0))) (f := I) 0 ((m.getD k 0)) 0 sz3 (.tmp 27 (.sptr s0 ((j).toNat * 1 + 0))) (.tmp 25 (I (m.getD k 0))) rfl rfl rfl (by first | omega | (simp only [List.length_set]; omega)) rfl (Nat.le_of_ble_eq_true rfl)) .nil)))))))))))))))) ?_)
  refine blockQ_n ?_
  refine thenQ_n ?_
  refine AC.re (fun σ2 => RegOK.m1 [0, 2, 3] ⟨[(0, .sym s0 (l.length)), (2, I ((k : Int) + 1)), (3, I (j - 1))], (.mrow s0 ((((m.set k (m.getD (j).toNat 0)).set (j).toNat (m.getD k 0))).map I) 3 1) :: tl⟩ (.cons (s_move (.tmp 2 (I (k : Int)))) (.cons (s_add (.tmp 10 (I (k : Int))) (.int .i64 (1)) (inK_i64 (by omega))) (.cons (s_move (.tmp 3 (I j))) (.cons (s_sub (.tmp 12 (I j)) (.int .i64 (1)) (inK_i64 (by omega))) (.cons (s_assign (.tmp 11 (I ((k : Int) + 1)))) (.cons (s_assign (.tmp 13 (I (j - 1)))) .nil)))))) ?_)
  refine thenQ_n ⟨_, ?_, _, ⟨(k + 1), (j - 1), ((m.set k (m.getD (j).toNat 0)).set (j).toNat (m.getD k 0)), rfl, ⟨(by omega), (by omega), (by simp only [List.length_set]; omega), (by rw [show j.toNat = l.length - 1 - k by omega]; exact rv_step hv (by omega))⟩, rfl⟩, Weak.of [] (by kernel_rfl) (by kernel_rfl)⟩
  omega
 ·have q2 := iF iD hc
  refine AC.exit ?_
  refine thenQ_x ?_
  refine thenQ_x ?_
  refine blockQ_x ?_
  exact FinQ.normal (result0 rfl ) ⟨[Ent.mrow s0 ((m).map I) 3 1], rfl, rfl, by rw [rv_end hv (by omega)]⟩
end Go.Proofs.Ytahdgadjpkcnjaa
end
section
set_option maxRecDepth 100000
namespace Go.Proofs.Ytahdgadjpkcnjaa
open Go.Proofs
theorem F56 (f : Feeder) (c : Nat) (g : FG f) (hcc : c < f.nodes.length) : Pure Try.prog 56 [Feeder.av f, I (c : Int)] (.slice (((pathI f.nodes c)).map I) none) := by
 intro mem
 have al := g.anc_len hcc
 have ul := up_len (ns := f.nodes) (c := c) (Nat.le_refl _)
 refine Meets.body 4 Try.func56 rfl rfl ?_
 refine AC.rq (fun σ0 => RegOK.m1 [1, 2] ⟨[(1, I (c : Int)), (2, .ptr (σ0 0) 0)], (.box (σ0 0) (fc f)) :: .hole :: .hole :: .hole :: mem⟩ (.cons (s_box 0 (σ0 0) (.tmp 0 (Feeder.av f)) rfl) (.cons (s_assign .nils) .nil)) ?_)
 refine AC.seq (RunL.region ?_)
 refine RunL.chunk Fr.plain 2 (fun σ1_0 => RegOKL.m1 [6, 7] ⟨[(6, Feeder.av f), (7, I (c : Int))], (.box (σ0 0) (fc f)) :: .hole :: .hole :: .hole :: mem⟩ (.cons (s_loadA (cs := (fc f)) (l := (fc f)) 0 tyA28 (.tmp 2 (.ptr (σ0 0) 0)) rfl rfl) (.cons (s_move (.tmp 1 (I (c : Int)))) .nil)) ?_)
 refine RunL.callNew Fr.plain (.func 95) (.cons (.tmp 6 (Feeder.av f)) (.cons (.tmp 7 (I (c : Int))) .nil)) call95 ⟨by kernel_rfl, by kernel_rfl⟩ (F95 f g c (by omega)) ?_
 rintro _ _ ⟨u0_4, u1_4, rfl, rfl⟩
 refine ⟨_, (Move.cons 1 rfl (Move.cons 2 rfl (Move.nil _))), ?_⟩
 refine RunL.callT Fr.plain [Ent.box (σ0 0) (fc f)] ((Ent.box u0_4 (fc f)) :: (Ent.box u1_4 [I ((nd f.nodes c 0 : Nat) : Int)]) :: (Ent.hole) :: []) (mem) rfl (.func 98) (.cons (.tmp 8 (.func 123 [] [.ptr u1_4 0, .ptr u0_4 0])) .nil) call98 ⟨by kernel_rfl, by kernel_rfl⟩ (fun _ _ _ _ _ => rfl) (F98 f g c (by omega) u0_4 u1_4) ?_
 rintro _ _ ⟨sq1, rfl, rfl⟩
 refine RunL.chunk Fr.plain 1 (fun σ1_4 => RegOKL.m1 [5] ⟨[(5, .sym sq1 ((upTo f.nodes c (anc f.nodes c).length).length))], (.box (σ0 0) (fc f)) :: (.box u0_4 (fc f)) :: (.box u1_4 [I ((nd f.nodes c (anc f.nodes c).length : Nat) : Int)]) :: (.mrow sq1 (((upTo f.nodes c (anc f.nodes c).length)).map I) 3 1) :: mem⟩ (.cons (s_assign (.tmp 9 (.sym sq1 ((upTo f.nodes c (anc f.nodes c).length).length)))) .nil) ?_)
 refine RunL.nil (thenQ_n ?_)
 refine AC.seq (RunL.region ?_)
 refine RunL.chunk Fr.plain 1 (fun σ2_0 => RegOKL.m1 [5, 10] ⟨[(5, .sym sq1 ((upTo f.nodes c (anc f.nodes c).length).length)), (10, .sym sq1 ((upTo f.nodes c (anc f.nodes c).length).length))], (.box (σ0 0) (fc f)) :: (.box u0_4 (fc f)) :: (.box u1_4 [I ((nd f.nodes c (anc f.nodes c).length : Nat) : Int)]) :: (.mrow sq1 (((upTo f.nodes c (anc f.nodes c).length)).map I) 3 1) :: mem⟩ (.cons (s_move (.tmp 5 (.sym sq1 ((upTo f.nodes c (anc f.nodes c).length).length)))) .nil) ?_)
 refine RunL.callT Fr.plain [Ent.box (σ0 0) (fc f), Ent.box u0_4 (fc f), Ent.box u1_4 [I ((nd f.nodes c (anc f.nodes c).length : Nat) : Int)]] ((Ent.mrow sq1 (((upTo f.nodes c (anc f.nodes c).length)).map I) 3 1) :: []) (mem) rfl (.func 99) (.cons (.tmp 10 (.sym sq1 ((upTo f.nodes c (anc f.nodes c).length).length))) .nil) call99 ⟨by kernel_rfl, by kernel_rfl⟩ (fun _ _ _ _ _ => rfl) (F99 (upTo f.nodes c (anc f.nodes c).length) sq1 (by omega)) ?_
 rintro _ _ ⟨rfl, rfl⟩
 refine RunL.nil (thenQ_n ?_)
 refine AC.freezeq 3 sq1 ((((upTo f.nodes c (anc f.nodes c).length).reverse)).map I) 3 1 rfl (map_sz (f := I) (fun _ => rfl) _) ?_
 refine AC.symT 5 3 sq1 ((upTo f.nodes c (anc f.nodes c).length).length) ((((upTo f.nodes c (anc f.nodes c).length).reverse)).map I) rfl rfl ?_
 refine AC.rq (fun σ3 => RegOK.m1 [4] ⟨[(4, .slice ((((upTo f.nodes c (anc f.nodes c).length).reverse)).map I) none)], (.box (σ0 0) (fc f)) :: (.box u0_4 (fc f)) :: (.box u1_4 [I ((nd f.nodes c (anc f.nodes c).length : Nat) : Int)]) :: (.fro sq1 ((((upTo f.nodes c (anc f.nodes c).length).reverse)).map I)) :: mem⟩ (.cons (s_move (.tmp 5 (.slice ((((upTo f.nodes c (anc f.nodes c).length).reverse)).map I) none))) (.cons (s_assign (.tmp 12 (.slice ((((upTo f.nodes c (anc f.nodes c).length).reverse)).map I) none))) .nil)) ?_)
 refine AC.ret ?_
 exact FinQ.ret (result1 rfl (res_tmp (v := .slice ((((upTo f.nodes c (anc f.nodes c).length).reverse)).map I) none) rfl rfl)) ⟨by rw [up_rev], rfl⟩
theorem F21 (f : Feeder) (c : Int) (hok : f.ok) : Pure Try.prog 21 [Feeder.av f, I c] (.tuple [.slice (((pathRes f c).1).map I) none, I ((pathRes f c).2)]) := by
 intro mem
 refine Meets.body 1 Try.func21 rfl rfl ?_
 refine AC.rq (fun σ0 => RegOK.m1 [1, 2] ⟨[(1, I c), (2, .ptr (σ0 0) 0)], (.box (σ0 0) (fc f)) :: mem⟩ (.cons (s_box 0 (σ0 0) (.tmp 0 (Feeder.av f)) rfl) (.cons (s_assign .nils) (.cons (s_assign (.int .i64 (0))) .nil))) ?_)
 refine AC.seq ?_
 refine AC.rq (fun σ1 => RegOK.m1 [1, 2, 6] ⟨[(1, I c), (2, .ptr (σ0 0) 0), (6, I (askedOf f c))], (.box (σ0 0) (fc f)) :: mem⟩ (.cons (s_loadA (cs := (fc f)) (l := (fc f)) 0 tyA28 (.tmp 2 (.ptr (σ0 0) 0)) rfl rfl) (.cons (s_move (.tmp 1 (I c))) (.cons (s_call (r := I (askedOf f c)) (.func 47) (.cons (.tmp 7 (Feeder.av f)) (.cons (.tmp 8 (I c)) .nil)) call47 (F47 (f) (c) (by exact hok))) (.cons (s_assign (.tmp 9 (I (askedOf f c)))) .nil)))) ?_)
 refine AC.rq (fun σ2 => RegOK.m1 [1, 2, 6, 11] ⟨[(1, I c), (2, .ptr (σ0 0) 0), (6, I (askedOf f c)), (11, .bool (decide ((askedOf f c) ≠ 0)))], (.box (σ0 0) (fc f)) :: mem⟩ (.cons (s_move (.tmp 6 (I (askedOf f c)))) (.cons (s_neq (.tmp 10 (I (askedOf f c))) (.int .i64 (0))) .nil)) ?_)
 refine AC.cend (decide ((askedOf f c) ≠ 0)) rfl rfl (fun hc => ?_) (fun hc => ?_)
 ·have q1 := iD.1 hc
  refine AC.rq (fun σ3 => RegOK.m1 [4, 5] ⟨[(4, .nils), (5, I (askedOf f c))], (.box (σ0 0) (fc f)) :: mem⟩ (.cons (s_move (.tmp 6 (I (askedOf f c)))) (.cons (s_assign .nils) (.cons (s_assign (.tmp 12 (I (askedOf f c)))) .nil))) ?_)
  refine AC.ret ?_
  refine thenQ_r ?_
  exact FinQ.ret (result2 rfl (res_nils (res_tmp (v := .nils) rfl rfl)) (res_tmp (v := I (askedOf f c)) rfl rfl)) ⟨by unfold pathRes; first | (rw [if_pos (by omega)]; rfl) | (rw [if_neg (by omega)]; rfl), rfl⟩
 ·have q2 := iF iD hc
  have hz := asked_zero (f := f) (c := c) (by omega)
  obtain ⟨n, hcn⟩ : ∃ n : Nat, c = (n : Int) := ⟨c.toNat, by omega⟩
  subst hcn
  have g := FG.of hz.1
  refine AC.skip ?_
  refine thenQ_n ?_
  refine AC.rq (fun σ4 => RegOK.m1 [4, 5] ⟨[(4, .slice (((pathI f.nodes n)).map I) none), (5, I 0)], (.box (σ0 0) (fc f)) :: mem⟩ (.cons (s_loadA (cs := (fc f)) (l := (fc f)) 0 tyA28 (.tmp 2 (.ptr (σ0 0) 0)) rfl rfl) (.cons (s_move (.tmp 1 (I (n : Int)))) (.cons (s_call (r := .slice (((pathI f.nodes n)).map I) none) (.func 56) (.cons (.tmp 13 (Feeder.av f)) (.cons (.tmp 14 (I (n : Int))) .nil)) call56 (F56 (f) (n) (by assumption) (by omega))) (.cons (s_assign (.tmp 15 (.slice (((pathI f.nodes n)).map I) none))) (.cons (s_assign (.int .i64 (0))) .nil))))) ?_)
  refine AC.ret ?_
  exact FinQ.ret (result2 rfl (res_tmp (v := .slice (((pathI f.nodes n)).map I) none) rfl rfl) (res_tmp (v := I 0) rfl rfl)) ⟨by unfold pathRes; first | (rw [if_pos (by omega)]; rfl) | (rw [if_neg (by omega)]; rfl), rfl⟩
end Go.Proofs.Ytahdgadjpkcnjaa
end
section
set_option maxRecDepth 100000
namespace Go.Proofs.Ytahdgadjpkcnjaa
open Go.Proofs
theorem F21g (f : Feeder) (hok : f.ok) (g : (check f).2.2 = 0) (n : Nat) (h : n < f.nodes.length) : Pure Try.prog 21 [Feeder.av f, I (n : Int)] (.tuple [.slice ((pathI f.nodes n).map I) none, I 0]) := by
  have := F21 f n hok
  rwa [pathRes_ok g h] at this
theorem F23o (f : Feeder) (hok : f.ok) (g : (check f).2.2 = 0) (o : Nat) (h : o < f.nodes.length) (p : Int) (hp : p = 0 ∨ p = 1 ∨ p = 2) : Pure Try.prog 23 [Feeder.av f, .slice ((one o p).map encA) none] (.tuple [.slice ((darkTo f (one o p) f.nodes.length).map encA) none, I 0]) := by
  have := F23 f (one o p) hok (by simp)
  rwa [darkRes_0 (only_err g h hp)] at this
end Go.Proofs.Ytahdgadjpkcnjaa
end
section
set_option maxRecDepth 100000
namespace Go.Proofs.Ytahdgadjpkcnjaa
open Go.Proofs
theorem F4 (f : Feeder) (c0 ph : Int) (hok : f.ok) (hph : 0 ≤ ph ∧ ph ≤ 255) : Pure Try.prog 4 [Feeder.av f, I c0, .int .u8 ph] (.bool true) := by
 intro mem
 have hln := hok.2.2.1
 have k2 := Int.tmod_eq_emod_of_nonneg (a := ph) (b := 3) hph.1
 refine Meets.body 1 Try.func4 rfl rfl ?_
 refine AC.rq (fun σ0 => RegOK.m1 [1, 2, 3] ⟨[(1, I c0), (2, .int .u8 ph), (3, .ptr (σ0 0) 0)], (.box (σ0 0) (fc f)) :: mem⟩ (.cons (s_box 0 (σ0 0) (.tmp 0 (Feeder.av f)) rfl) (.cons (s_assign (.bool false)) .nil)) ?_)
 refine AC.rq (fun σ1 => RegOK.m1 [1, 2, 3, 7, 8] ⟨[(1, I c0), (2, .int .u8 ph), (3, .ptr (σ0 0) 0), (7, I ((ownRes f c0).1)), (8, I ((ownRes f c0).2))], (.box (σ0 0) (fc f)) :: mem⟩ (.cons (s_loadA (cs := (fc f)) (l := (fc f)) 0 tyA28 (.tmp 3 (.ptr (σ0 0) 0)) rfl rfl) (.cons (s_move (.tmp 1 (I c0))) (.cons (s_call (r := .tuple [I ((ownRes f c0).1), I ((ownRes f c0).2)]) (.func 17) (.cons (.tmp 17 (Feeder.av f)) (.cons (.tmp 18 (I c0)) .nil)) call17 (F17 (f) (c0) (by exact hok))) (.cons (s_move (.tmp 19 (.tuple [I ((ownRes f c0).1), I ((ownRes f c0).2)]))) (.cons (s_extract (v := I ((ownRes f c0).1)) (.tmp 16 (.tuple [I ((ownRes f c0).1), I ((ownRes f c0).2)])) rfl) (.cons (s_extract (v := I ((ownRes f c0).2)) (.tmp 16 (.tuple [I ((ownRes f c0).1), I ((ownRes f c0).2)])) rfl) (.cons (s_assign (.tmp 20 (I ((ownRes f c0).1)))) (.cons (s_assign (.tmp 21 (I ((ownRes f c0).2)))) .nil)))))))) ?_)
 refine AC.rq (fun σ2 => RegOK.m1 [1, 3, 7, 8, 9] ⟨[(1, I c0), (3, .ptr (σ0 0) 0), (7, I ((ownRes f c0).1)), (8, I ((ownRes f c0).2)), (9, I (ph.tmod 3))], (.box (σ0 0) (fc f)) :: mem⟩ (.cons (s_move (.tmp 2 (.int .u8 ph))) (.cons (s_conv (.tmp 22 (.int .u8 ph)) ⟨_, Try.underlying5⟩ Try.underlying3 (inK_i64 (by omega))) (.cons (s_rem (.tmp 23 (I ph)) (.int .i64 (3)) (by omega)) (.cons (s_assign (.tmp 24 (I (ph.tmod 3)))) .nil)))) ?_)
 generalize hgp : (ph.tmod 3) = p at *
 refine AC.seq ?_
 refine AC.rq (fun σ3 => RegOK.m1 [1, 3, 7, 9, 30] ⟨[(1, I c0), (3, .ptr (σ0 0) 0), (7, I ((ownRes f c0).1)), (9, I p), (30, .bool ((decide ((ownRes f c0).2 ≠ 0) || decide ((ownRes f c0).1 < 0))))], (.box (σ0 0) (fc f)) :: mem⟩ (.cons (s_move (.tmp 8 (I ((ownRes f c0).2)))) (.cons (s_neq (.tmp 25 (I ((ownRes f c0).2))) (.int .i64 (0))) (.cons (s_move (.tmp 26 (.bool (decide ((ownRes f c0).2 ≠ 0))))) (.cons (Step.guard _ rfl (.bool (decide ((ownRes f c0).2 ≠ 0))) gF (fun hb => s_move (.tmp 7 (I ((ownRes f c0).1))))) (.cons (Step.guard _ rfl (.bool (decide ((ownRes f c0).2 ≠ 0))) gF (fun hb => s_lss (.tmpC hb 28 (I ((ownRes f c0).1))) (.int .i64 (0)))) (.cons (s_or' (e := (!(decide ((ownRes f c0).2 ≠ 0)))) (q := decide ((ownRes f c0).1 < 0)) (fun h => (notMk h)) (.tmp 27 (.bool (decide ((ownRes f c0).2 ≠ 0))))) .nil)))))) ?_)
 refine AC.cend ((decide ((ownRes f c0).2 ≠ 0) || decide ((ownRes f c0).1 < 0))) rfl rfl (fun hc => ?_) (fun hc => ?_)
 ·have q1 := (iO iD iD).1 hc
  refine AC.rq (fun σ4 => RegOK.m1 [6] ⟨[(6, .bool (true))], (.box (σ0 0) (fc f)) :: mem⟩ (.cons (s_call (r := .bool (true)) (.func 18) .nil call18 F18) (.cons (s_assign (.tmp 31 (.bool (true)))) .nil)) ?_)
  refine AC.ret ?_
  refine thenQ_r ?_
  exact FinQ.ret (result1 rfl (res_tmp (v := .bool (true)) rfl rfl)) ⟨by first | rfl | (exfalso; rcases qq with h | h; (omega); (rw [og.2] at h; exact h ⟨rfl, rfl, rfl⟩)) | ((have ei : i = f.nodes.length := by omega); subst ei; have hbt : b = true := hb.2 hnl; simp [hbt]), rfl⟩
 ·have q2 := iF (iO iD iD) hc
  have hz9 : (ownRes f c0).2 = 0 ∧ 0 ≤ (ownRes f c0).1 := by omega
  obtain ⟨gc, n, hcn, hnl, o, ho, ho0, hol, hoa, hof, hog, hgo⟩ := own_at hz9.1 hz9.2
  have g := FG.of gc
  subst hcn
  rw [ho]
  have hbn : beh f.nodes o n = true := beh_iff.2 (.inr hoa)
  have hp : p = 0 ∨ p = 1 ∨ p = 2 := by omega
  refine AC.skip ?_
  refine thenQ_n ?_
  refine AC.rq (fun σ5 => RegOK.m1 [1, 3, 7, 8, 9, 10] ⟨[(1, I (n : Int)), (3, .ptr (σ0 0) 0), (7, I (o : Int)), (8, I 0), (9, I p), (10, .slice (((darkTo f (one o p) f.nodes.length)).map encA) none)], (.box (σ0 0) (fc f)) :: mem⟩ (.cons (s_loadA (cs := (fc f)) (l := (fc f)) 0 tyA28 (.tmp 3 (.ptr (σ0 0) 0)) rfl rfl) (.cons (s_move (.tmp 7 (I (o : Int)))) (.cons (s_move (.tmp 9 (I p))) (.cons (s_build (l := [I (o : Int), I p]) zero58 plc58 (.cons rfl (.tmp 34 (I (o : Int))) (.cons rfl (.tmp 35 (I p)) .nil)) rfl) (.cons (s_buildSlice' (es := [.agg [I (o : Int), I p]]) zero58 slc54 rfl rfl (.cons rfl (.tmp 36 (.agg [I (o : Int), I p])) .nil) rfl rfl) (.cons (s_call (r := .tuple [.slice (((darkTo f (one o p) f.nodes.length)).map encA) none, I 0]) (.func 23) (.cons (.tmp 33 (Feeder.av f)) (.cons (.tmp 37 (.slice (([((o : Int), p)]).map encA) none)) .nil)) call23 (F23o f hok gc o hol p hp)) (.cons (s_move (.tmp 38 (.tuple [.slice (((darkTo f (one o p) f.nodes.length)).map encA) none, I 0]))) (.cons (s_extract (v := .slice (((darkTo f (one o p) f.nodes.length)).map encA) none) (.tmp 32 (.tuple [.slice (((darkTo f (one o p) f.nodes.length)).map encA) none, I 0])) rfl) (.cons (s_extract (v := I 0) (.tmp 32 (.tuple [.slice (((darkTo f (one o p) f.nodes.length)).map encA) none, I 0])) rfl) (.cons (s_assign (.tmp 39 (.slice (((darkTo f (one o p) f.nodes.length)).map encA) none))) (.cons (s_assign (.tmp 40 (I 0))) .nil))))))))))) ?_)
  refine AC.seq ?_
  refine AC.rq (fun σ6 => RegOK.m1 [1, 3, 7, 9, 10, 42] ⟨[(1, I (n : Int)), (3, .ptr (σ0 0) 0), (7, I (o : Int)), (9, I p), (10, .slice (((darkTo f (one o p) f.nodes.length)).map encA) none), (42, .bool (decide ((0 : Int) ≠ 0)))], (.box (σ0 0) (fc f)) :: mem⟩ (.cons (s_move (.tmp 8 (I 0))) (.cons (s_neq (.tmp 41 (I 0)) (.int .i64 (0))) .nil)) ?_)
  refine AC.cend (decide ((0 : Int) ≠ 0)) rfl rfl (fun hc => absurd hc (by simp)) (fun hc => ?_)
  refine AC.skip ?_
  refine thenQ_n ?_
  refine AC.rq (fun σ8 => RegOK.m1 [1, 3, 7, 9, 10, 11, 12] ⟨[(1, I (n : Int)), (3, .ptr (σ0 0) 0), (7, I (o : Int)), (9, I p), (10, .slice (((darkTo f (one o p) f.nodes.length)).map encA) none), (11, I 0), (12, .bool (false))], (.box (σ0 0) (fc f)) :: mem⟩ (.cons (s_assign (.int .i64 (0))) (.cons (s_assign (.bool false)) .nil)) ?_)
  refine AC.seq ?_
  refine AC.rq (fun σ9 => RegOK.m1 [1, 3, 7, 9, 10, 11, 12, 13] ⟨[(1, I (n : Int)), (3, .ptr (σ0 0) 0), (7, I (o : Int)), (9, I p), (10, .slice (((darkTo f (one o p) f.nodes.length)).map encA) none), (11, I 0), (12, .bool (false)), (13, I 0)], (.box (σ0 0) (fc f)) :: mem⟩ (.cons (s_assign (.int .i64 (0))) .nil) ?_)
  refine AC.block ?_
  refine AC.loopW (fun mz T => ∃ (i : Nat), ∃ (b : Bool), mz = f.nodes.length - i ∧ ((i ≤ f.nodes.length) ∧ (b = true ↔ n < i)) ∧ T = ⟨[(1, I (n : Int)), (3, .ptr (σ0 0) 0), (7, I (o : Int)), (9, I p), (10, .slice (((darkTo f (one o p) f.nodes.length)).map encA) none), (11, I ((darkTo f (one o p) i).length : Int)), (12, .bool (b)), (13, I (i : Int))], (.box (σ0 0) (fc f)) :: mem⟩) _ ⟨[(1, I (n : Int)), (3, .ptr (σ0 0) 0), (7, I (o : Int)), (9, I p), (10, .slice (((darkTo f (one o p) f.nodes.length)).map encA) none), (11, I ((darkTo f (one o p) (0)).length : Int)), (12, .bool ((false))), (13, I ((0) : Int))], (.box (σ0 0) (fc f)) :: mem⟩ ⟨0, false, rfl, ⟨(by omega), (by exact ⟨fun h => (by cases h), fun h => (by omega)⟩)⟩, rfl⟩ (Weak.of [] (by kernel_rfl) (by kernel_rfl)) ?_ Fr.plain
  rintro _ _ ⟨i, b, rfl, ⟨hi, hb⟩, rfl⟩
  have gnn := g.nn
  have pl := fun h : i < f.nodes.length => g.anc_len h
  have pk := pathI_len f.nodes i
  have dl := dark_len (f := f) (ws := one o p) i
  have dk := dark_len (f := f) (ws := one o p) f.nodes.length
  refine AC.seq ?_
  refine AC.rq (fun σ10 => RegOK.m1 [1, 3, 7, 9, 10, 11, 12, 13, 47] ⟨[(1, I (n : Int)), (3, .ptr (σ0 0) 0), (7, I (o : Int)), (9, I p), (10, .slice (((darkTo f (one o p) f.nodes.length)).map encA) none), (11, I ((darkTo f (one o p) i).length : Int)), (12, .bool (b)), (13, I (i : Int)), (47, .bool (decide ((i : Int) < (f.nodes.length : Int))))], (.box (σ0 0) (fc f)) :: mem⟩ (.cons (s_move (.tmp 13 (I (i : Int)))) (.cons (s_fieldAddr fld28_2 (.tmp 3 (.ptr (σ0 0) 0))) (.cons (s_load1 (cs := (fc f)) (c := .slice ((f.nodes).map Node.av) none) 0 tyS24 (.tmp 44 (.ptr (σ0 0) 2)) rfl) (.cons (s_lenM (l := f.nodes) slc24 (.tmp 45 (.slice ((f.nodes).map Node.av) none))) (.cons (s_lss (.tmp 43 (I (i : Int))) (.tmp 46 (I (f.nodes.length : Int)))) .nil))))) ?_)
  refine AC.cend (decide ((i : Int) < (f.nodes.length : Int))) rfl rfl (fun hc => ?_) (fun hc => ?_)
  ·have q3 := iD.1 hc
   have pl2 := pl (by omega)
   refine AC.skip ?_
   refine thenQ_n ?_
   refine AC.bseq ?_
   refine AC.rq (fun σ12 => RegOK.m1 [1, 3, 7, 9, 10, 11, 12, 13, 14, 15] ⟨[(1, I (n : Int)), (3, .ptr (σ0 0) 0), (7, I (o : Int)), (9, I p), (10, .slice (((darkTo f (one o p) f.nodes.length)).map encA) none), (11, I ((darkTo f (one o p) i).length : Int)), (12, .bool (b)), (13, I (i : Int)), (14, .slice (((pathI f.nodes i)).map I) none), (15, I 0)], (.box (σ0 0) (fc f)) :: mem⟩ (.cons (s_loadA (cs := (fc f)) (l := (fc f)) 0 tyA28 (.tmp 3 (.ptr (σ0 0) 0)) rfl rfl) (.cons (s_move (.tmp 13 (I (i : Int)))) (.cons (s_call (r := .tuple [.slice (((pathI f.nodes i)).map I) none, I 0]) (.func 21) (.cons (.tmp 51 (Feeder.av f)) (.cons (.tmp 52 (I (i : Int))) .nil)) call21 (F21g f hok gc i (by omega))) (.cons (s_move (.tmp 53 (.tuple [.slice (((pathI f.nodes i)).map I) none, I 0]))) (.cons (s_extract (v := .slice (((pathI f.nodes i)).map I) none) (.tmp 50 (.tuple [.slice (((pathI f.nodes i)).map I) none, I 0])) rfl) (.cons (s_extract (v := I 0) (.tmp 50 (.tuple [.slice (((pathI f.nodes i)).map I) none, I 0])) rfl) (.cons (s_assign (.tmp 54 (.slice (((pathI f.nodes i)).map I) none))) (.cons (s_assign (.tmp 55 (I 0))) .nil)))))))) ?_)
   refine AC.seq ?_
   refine AC.rq (fun σ13 => RegOK.m1 [1, 3, 7, 9, 10, 11, 12, 13, 14, 57] ⟨[(1, I (n : Int)), (3, .ptr (σ0 0) 0), (7, I (o : Int)), (9, I p), (10, .slice (((darkTo f (one o p) f.nodes.length)).map encA) none), (11, I ((darkTo f (one o p) i).length : Int)), (12, .bool (b)), (13, I (i : Int)), (14, .slice (((pathI f.nodes i)).map I) none), (57, .bool (decide ((0 : Int) ≠ 0)))], (.box (σ0 0) (fc f)) :: mem⟩ (.cons (s_move (.tmp 15 (I 0))) (.cons (s_neq (.tmp 56 (I 0)) (.int .i64 (0))) .nil)) ?_)
   refine AC.cend (decide ((0 : Int) ≠ 0)) rfl rfl (fun hc => absurd hc (by simp)) (fun hc => ?_)
   refine AC.skip ?_
   refine thenQ_n ?_
   refine AC.seq ?_
   refine AC.rq (fun σ15 => RegOK.m1 [1, 3, 7, 9, 10, 11, 12, 13, 61] ⟨[(1, I (n : Int)), (3, .ptr (σ0 0) 0), (7, I (o : Int)), (9, I p), (10, .slice (((darkTo f (one o p) f.nodes.length)).map encA) none), (11, I ((darkTo f (one o p) i).length : Int)), (12, .bool (b)), (13, I (i : Int)), (61, .bool ((!(hasI (pathI f.nodes i) ((o : Int))))))], (.box (σ0 0) (fc f)) :: mem⟩ (.cons (s_move (.tmp 14 (.slice (((pathI f.nodes i)).map I) none))) (.cons (s_move (.tmp 7 (I (o : Int)))) (.cons (s_call (r := .bool ((hasI (pathI f.nodes i) ((o : Int))))) (.func 24) (.cons (.tmp 58 (.slice (((pathI f.nodes i)).map I) none)) (.cons (.tmp 59 (I (o : Int))) .nil)) call24 (F24 ((pathI f.nodes i)) ((o : Int)) (by omega))) (.cons (s_not (.tmp 60 (.bool ((hasI (pathI f.nodes i) ((o : Int))))))) .nil)))) ?_)
   refine AC.cend ((!(hasI (pathI f.nodes i) ((o : Int))))) rfl rfl (fun hc => ?_) (fun hc => ?_)
   ·have q4 := (iN iB).1 hc
    have hnb : ¬ beh f.nodes o i = true := fun h9 => q4 ((has_beh ho0).trans h9)
    have hin : i ≠ n := fun e => hnb (e ▸ hbn)
    refine AC.exit ?_
    refine thenQ_x ?_
    refine blockQ_x ?_
    refine thenQ_n ?_
    refine AC.re (fun σ11 => RegOK.m1 [1, 3, 7, 9, 10, 11, 12, 13] ⟨[(1, I (n : Int)), (3, .ptr (σ0 0) 0), (7, I (o : Int)), (9, I p), (10, .slice (((darkTo f (one o p) f.nodes.length)).map encA) none), (11, I ((darkTo f (one o p) i).length : Int)), (12, .bool (b)), (13, I ((i : Int) + 1))], (.box (σ0 0) (fc f)) :: mem⟩ (.cons (s_move (.tmp 13 (I (i : Int)))) (.cons (s_add (.tmp 48 (I (i : Int))) (.int .i64 (1)) (inK_i64 (by omega))) (.cons (s_assign (.tmp 49 (I ((i : Int) + 1)))) .nil))) ?_)
    refine thenQ_n ⟨_, ?_, _, ⟨(i + 1), b, rfl, ⟨(by omega), (by first | (rw [Bool.or_eq_true, hb, decide_eq_true_iff]; omega) | (rw [hb]; omega))⟩, rfl⟩, Weak.of [] (by first | (rw [only_no hp hnb]; rfl) | (rw [only_yes hp hbi, List.length_append]; rfl)) (by kernel_rfl)⟩
    omega
   ·have q5 := iF (iN iB) hc
    have hbi : beh f.nodes o i = true := (has_beh ho0).symm.trans (Decidable.not_not.1 q5)
    have og := only_get (N := f.nodes.length) hp (by omega) hbi
    refine AC.skip ?_
    refine thenQ_n ?_
    refine AC.rq (fun σ16 => RegOK.m1 [1, 3, 7, 9, 10, 11, 12, 13] ⟨[(1, I (n : Int)), (3, .ptr (σ0 0) 0), (7, I (o : Int)), (9, I p), (10, .slice (((darkTo f (one o p) f.nodes.length)).map encA) none), (11, I ((darkTo f (one o p) i).length : Int)), (12, .bool ((b || decide ((i : Int) = (n : Int))))), (13, I (i : Int))], (.box (σ0 0) (fc f)) :: mem⟩ (.cons (s_move (.tmp 12 (.bool (b)))) (.cons (s_move (.tmp 62 (.bool (b)))) (.cons (Step.guard _ rfl (.bool (b)) gF (fun hb => s_move (.tmp 13 (I (i : Int))))) (.cons (Step.guard _ rfl (.bool (b)) gF (fun hb => s_move (.tmp 1 (I (n : Int))))) (.cons (Step.guard _ rfl (.bool (b)) gF (fun hb => s_eql (.tmpC hb 64 (I (i : Int))) (.tmpC hb 65 (I (n : Int))))) (.cons (s_or' (e := (!b)) (q := decide ((i : Int) = (n : Int))) (fun h => (notMk h)) (.tmp 63 (.bool (b)))) (.cons (s_assign (.tmp 67 (.bool ((b || decide ((i : Int) = (n : Int))))))) .nil))))))) ?_)
    refine AC.seq ?_
    refine AC.rq (fun σ17 => RegOK.m1 [1, 3, 7, 9, 10, 11, 12, 13, 81] ⟨[(1, I (n : Int)), (3, .ptr (σ0 0) 0), (7, I (o : Int)), (9, I p), (10, .slice (((darkTo f (one o p) f.nodes.length)).map encA) none), (11, I ((darkTo f (one o p) i).length : Int)), (12, .bool ((b || decide ((i : Int) = (n : Int))))), (13, I (i : Int)), (81, .bool ((decide (((darkTo f (one o p) f.nodes.length).length : Int) ≤ ((darkTo f (one o p) i).length : Int)) || (!(decide (((darkTo f (one o p) f.nodes.length).getD (darkTo f (one o p) i).length (0, 0)).1 = (i : Int)) && (decide (((darkTo f (one o p) f.nodes.length).getD (darkTo f (one o p) i).length (0, 0)).2 = p) && true))))))], (.box (σ0 0) (fc f)) :: mem⟩ (.cons (s_move (.tmp 11 (I ((darkTo f (one o p) i).length : Int)))) (.cons (s_move (.tmp 10 (.slice (((darkTo f (one o p) f.nodes.length)).map encA) none))) (.cons (s_lenM (l := (darkTo f (one o p) f.nodes.length)) slc54 (.tmp 69 (.slice (((darkTo f (one o p) f.nodes.length)).map encA) none))) (.cons (s_geq (.tmp 68 (I ((darkTo f (one o p) i).length : Int))) (.tmp 70 (I ((darkTo f (one o p) f.nodes.length).length : Int)))) (.cons (s_move (.tmp 71 (.bool (decide (((darkTo f (one o p) f.nodes.length).length : Int) ≤ ((darkTo f (one o p) i).length : Int)))))) (.cons (Step.guard _ rfl (.bool (decide (((darkTo f (one o p) f.nodes.length).length : Int) ≤ ((darkTo f (one o p) i).length : Int)))) gF (fun hb => s_move (.tmp 10 (.slice (((darkTo f (one o p) f.nodes.length)).map encA) none)))) (.cons (Step.guard _ rfl (.bool (decide (((darkTo f (one o p) f.nodes.length).length : Int) ≤ ((darkTo f (one o p) i).length : Int)))) gF (fun hb => s_move (.tmp 11 (I ((darkTo f (one o p) i).length : Int))))) (.cons (Step.guard _ rfl (.bool (decide (((darkTo f (one o p) f.nodes.length).length : Int) ≤ ((darkTo f (one o p) i).length : Int)))) gF (fun hb => s_ixM (l := (darkTo f (one o p) f.nodes.length)) (f := encA) ((0, 0)) slc54 (.tmpC hb 73 (.slice (((darkTo f (one o p) f.nodes.length)).map encA) none)) (.tmpC hb 74 (I ((darkTo f (one o p) i).length : Int))) (by have hq := (iN iD).1 hb; omega) rfl)) (.cons (Step.guard _ rfl (.bool (decide (((darkTo f (one o p) f.nodes.length).length : Int) ≤ ((darkTo f (one o p) i).length : Int)))) gF (fun hb => s_loadAe (l := [I (((darkTo f (one o p) f.nodes.length).getD (darkTo f (one o p) i).length (0, 0)).1), I (((darkTo f (one o p) f.nodes.length).getD (darkTo f (one o p) i).length (0, 0)).2)]) tyA58 (.tmpC hb 75 (.eptr (.agg [I (((darkTo f (one o p) f.nodes.length).getD (darkTo f (one o p) i).length (0, 0)).1), I (((darkTo f (one o p) f.nodes.length).getD (darkTo f (one o p) i).length (0, 0)).2)]) 0)) rfl rfl)) (.cons (Step.guard _ rfl (.bool (decide (((darkTo f (one o p) f.nodes.length).length : Int) ≤ ((darkTo f (one o p) i).length : Int)))) gF (fun hb => s_move (.tmp 13 (I (i : Int))))) (.cons (Step.guard _ rfl (.bool (decide (((darkTo f (one o p) f.nodes.length).length : Int) ≤ ((darkTo f (one o p) i).length : Int)))) gF (fun hb => s_move (.tmp 9 (I p)))) (.cons (Step.guard _ rfl (.bool (decide (((darkTo f (one o p) f.nodes.length).length : Int) ≤ ((darkTo f (one o p) i).length : Int)))) gF (fun hb => s_build (l := [I (i : Int), I p]) zero58 plc58 (.cons rfl (.tmpC hb 77 (I (i : Int))) (.cons rfl (.tmpC hb 78 (I p)) .nil)) rfl)) (.cons (Step.guard _ rfl (.bool (decide (((darkTo f (one o p) f.nodes.length).length : Int) ≤ ((darkTo f (one o p) i).length : Int)))) gF (fun hb => s_data_neq (.tmpC hb 76 (.agg [I (((darkTo f (one o p) f.nodes.length).getD (darkTo f (one o p) i).length (0, 0)).1), I (((darkTo f (one o p) f.nodes.length).getD (darkTo f (one o p) i).length (0, 0)).2)])) (.tmpC hb 79 (.agg [I (i : Int), I p])) (eqT58 (((darkTo f (one o p) f.nodes.length).getD (darkTo f (one o p) i).length (0, 0)).1) (((darkTo f (one o p) f.nodes.length).getD (darkTo f (one o p) i).length (0, 0)).2) ((i : Int)) (p)) rfl rfl rfl)) (.cons (s_or' (e := (!(decide (((darkTo f (one o p) f.nodes.length).length : Int) ≤ ((darkTo f (one o p) i).length : Int))))) (q := (!(decide (((darkTo f (one o p) f.nodes.length).getD (darkTo f (one o p) i).length (0, 0)).1 = (i : Int)) && (decide (((darkTo f (one o p) f.nodes.length).getD (darkTo f (one o p) i).length (0, 0)).2 = p) && true)))) (fun h => (notMk h)) (.tmp 72 (.bool (decide (((darkTo f (one o p) f.nodes.length).length : Int) ≤ ((darkTo f (one o p) i).length : Int)))))) .nil)))))))))))))) ?_)
    refine AC.cend ((decide (((darkTo f (one o p) f.nodes.length).length : Int) ≤ ((darkTo f (one o p) i).length : Int)) || (!(decide (((darkTo f (one o p) f.nodes.length).getD (darkTo f (one o p) i).length (0, 0)).1 = (i : Int)) && (decide (((darkTo f (one o p) f.nodes.length).getD (darkTo f (one o p) i).length (0, 0)).2 = p) && true))))) rfl rfl (fun hc => ?_) (fun hc => ?_)
    ·have q6 := (iO iD (iN (iA iD (iA iD iB)))).1 hc
     have qq := q6
     refine AC.rq (fun σ18 => RegOK.m1 [6] ⟨[(6, .bool (false))], (.box (σ0 0) (fc f)) :: mem⟩ (.cons (s_assign (.bool false)) .nil) ?_)
     refine AC.ret ?_
     refine thenQ_r ?_
     refine blockQ_r ?_
     refine thenQ_r ?_
     refine thenQ_r ?_
     refine blockQ_r ?_
     refine thenQ_r ?_
     exact FinQ.ret (result1 rfl (res_tmp (v := .bool (false)) rfl rfl)) ⟨by first | rfl | (exfalso; rcases qq with h | h; (omega); (rw [og.2] at h; exact h ⟨rfl, rfl, rfl⟩)) | ((have ei : i = f.nodes.length := by omega); subst ei; have hbt : b = true := hb.2 hnl; simp [hbt]), rfl⟩
    ·have q7 := iF (iO iD (iN (iA iD (iA iD iB)))) hc
     refine AC.skip ?_
     refine thenQ_n ?_
     refine AC.re (fun σ19 => RegOK.m1 [1, 3, 7, 9, 10, 11, 12, 13] ⟨[(1, I (n : Int)), (3, .ptr (σ0 0) 0), (7, I (o : Int)), (9, I p), (10, .slice (((darkTo f (one o p) f.nodes.length)).map encA) none), (11, I (((darkTo f (one o p) i).length : Int) + 1)), (12, .bool ((b || decide ((i : Int) = (n : Int))))), (13, I (i : Int))], (.box (σ0 0) (fc f)) :: mem⟩ (.cons (s_move (.tmp 11 (I ((darkTo f (one o p) i).length : Int)))) (.cons (s_add (.tmp 82 (I ((darkTo f (one o p) i).length : Int))) (.int .i64 (1)) (inK_i64 (by omega))) (.cons (s_assign (.tmp 83 (I (((darkTo f (one o p) i).length : Int) + 1)))) .nil))) ?_)
     refine blockQ_n ?_
     refine thenQ_n ?_
     refine AC.re (fun σ11 => RegOK.m1 [1, 3, 7, 9, 10, 11, 12, 13] ⟨[(1, I (n : Int)), (3, .ptr (σ0 0) 0), (7, I (o : Int)), (9, I p), (10, .slice (((darkTo f (one o p) f.nodes.length)).map encA) none), (11, I (((darkTo f (one o p) i).length : Int) + 1)), (12, .bool ((b || decide ((i : Int) = (n : Int))))), (13, I ((i : Int) + 1))], (.box (σ0 0) (fc f)) :: mem⟩ (.cons (s_move (.tmp 13 (I (i : Int)))) (.cons (s_add (.tmp 48 (I (i : Int))) (.int .i64 (1)) (inK_i64 (by omega))) (.cons (s_assign (.tmp 49 (I ((i : Int) + 1)))) .nil))) ?_)
     refine thenQ_n ⟨_, ?_, _, ⟨(i + 1), (b || decide ((i : Int) = (n : Int))), rfl, ⟨(by omega), (by first | (rw [Bool.or_eq_true, hb, decide_eq_true_iff]; omega) | (rw [hb]; omega))⟩, rfl⟩, Weak.of [] (by first | (rw [only_no hp hnb]; rfl) | (rw [only_yes hp hbi, List.length_append]; rfl)) (by kernel_rfl)⟩
     omega
  ·have q8 := iF iD hc
   refine AC.exit ?_
   refine thenQ_x ?_
   refine thenQ_x ?_
   refine blockQ_x ?_
   refine thenQ_n ?_
   refine AC.rq (fun σ20 => RegOK.m1 [6] ⟨[(6, .bool (((decide (((darkTo f (one o p) i).length : Int) = ((darkTo f (one o p) f.nodes.length).length : Int)) && b) && true)))], (.box (σ0 0) (fc f)) :: mem⟩ (.cons (s_move (.tmp 11 (I ((darkTo f (one o p) i).length : Int)))) (.cons (s_move (.tmp 10 (.slice (((darkTo f (one o p) f.nodes.length)).map encA) none))) (.cons (s_lenM (l := (darkTo f (one o p) f.nodes.length)) slc54 (.tmp 85 (.slice (((darkTo f (one o p) f.nodes.length)).map encA) none))) (.cons (s_eql (.tmp 84 (I ((darkTo f (one o p) i).length : Int))) (.tmp 86 (I ((darkTo f (one o p) f.nodes.length).length : Int)))) (.cons (s_move (.tmp 87 (.bool (decide (((darkTo f (one o p) i).length : Int) = ((darkTo f (one o p) f.nodes.length).length : Int)))))) (.cons (Step.guard _ rfl (.bool (decide (((darkTo f (one o p) i).length : Int) = ((darkTo f (one o p) f.nodes.length).length : Int)))) gT (fun hb => s_move (.tmp 12 (.bool (b))))) (.cons (s_and' (q := b) (fun h => h) (.tmp 88 (.bool (decide (((darkTo f (one o p) i).length : Int) = ((darkTo f (one o p) f.nodes.length).length : Int)))))) (.cons (s_move (.tmp 90 (.bool ((decide (((darkTo f (one o p) i).length : Int) = ((darkTo f (one o p) f.nodes.length).length : Int)) && b))))) (.cons (Step.guard _ rfl (.bool ((decide (((darkTo f (one o p) i).length : Int) = ((darkTo f (one o p) f.nodes.length).length : Int)) && b))) gT (fun hb => s_call (r := .bool (true)) (.func 18) .nil call18 F18)) (.cons (s_and' (q := true) (fun h => h) (.tmp 91 (.bool ((decide (((darkTo f (one o p) i).length : Int) = ((darkTo f (one o p) f.nodes.length).length : Int)) && b))))) (.cons (s_assign (.tmp 93 (.bool (((decide (((darkTo f (one o p) i).length : Int) = ((darkTo f (one o p) f.nodes.length).length : Int)) && b) && true))))) .nil))))))))))) ?_)
   refine AC.ret ?_
   exact FinQ.ret (result1 rfl (res_tmp (v := .bool (((decide (((darkTo f (one o p) i).length : Int) = ((darkTo f (one o p) f.nodes.length).length : Int)) && b) && true))) rfl rfl)) ⟨by first | rfl | (exfalso; rcases qq with h | h; (omega); (rw [og.2] at h; exact h ⟨rfl, rfl, rfl⟩)) | ((have ei : i = f.nodes.length := by omega); subst ei; have hbt : b = true := hb.2 hnl; simp [hbt]), rfl⟩
end Go.Proofs.Ytahdgadjpkcnjaa
end
section

namespace Go.Proofs.Ytahdgadjpkcnjaa
open Go.Proofs
section
variable {H : Type} {enc : TypeId × Value → H} {w : World}
theorem opens3 : Opens enc Try.prog w 3 1 Int (fun n => [.int .i64 n]) (fun n => (Lit.int .i64 n).wf = true) := .int Try.underlying3 (by kernel_rfl)
theorem opens9 : Opens enc Try.prog w 9 1 ByteArray (fun s => [.str s]) (fun s => s.size ≤ maxLen) := .str Try.underlying9 (by kernel_rfl)
theorem big {n : Nat} (h : n ≤ maxLen) : (n : Int) ≤ 9223372036854775807 := by simp only [maxLen] at h; omega
theorem opens26 : Opens enc Try.prog w 26 2 (Int × Int) (fun x => [I x.1, I x.2]) (fun _ => True) :=
  Opens.map (Opens.struct Try.underlying26 (by kernel_rfl) (.cons rfl opens3 (.cons rfl opens3 (.nil _))) (fun _ => rfl)) (fun x => (x.1, x.2.1)) _ _ (fun _ => rfl) (fun _ _ => trivial)
theorem opensCable : Opens enc Try.prog w 71 6 Cable (fun x => [.str x.name, I x.coreLo, I x.coreHi, I x.earthLo, I x.earthHi, I x.rated]) Cable.ok :=
  Opens.map (Opens.struct Try.underlying71 (by kernel_rfl) (.cons rfl opens9 (.cons rfl opens26 (.cons rfl opens26 (.cons rfl opens3 (.nil _))))) (fun _ => rfl))
    (fun x => (⟨x.1, x.2.1.1, x.2.1.2, x.2.2.1.1, x.2.2.1.2, x.2.2.2.1⟩ : Cable)) _ _ (fun _ => rfl) (fun _ h => big h.1)
theorem opensPoint : Opens enc Try.prog w 141 3 Point (fun x => [I x.cur, I x.lo, I x.hi]) (fun _ => True) :=
  Opens.map (Opens.struct Try.underlying141 (by kernel_rfl) (.cons rfl opens3 (.cons rfl opens26 (.nil _))) (fun _ => rfl)) (fun x => (⟨x.1, x.2.1.1, x.2.1.2⟩ : Point)) _ _ (fun _ => rfl) (fun _ _ => trivial)
theorem opensFuse : Opens enc Try.prog w 94 3 Fuse (fun x => [.str x.name, I x.rated, .slice (x.points.map Point.av) none]) Fuse.ok :=
  Opens.map (Opens.struct Try.underlying94 (by kernel_rfl) (.cons rfl opens9 (.cons rfl opens3 (.cons rfl (.slice Point.av Try.underlying92 (by kernel_rfl) opensPoint (by decide) (fun _ => rfl) (fun _ => rfl)) (.nil _)))) (fun _ => rfl))
    (fun x => (⟨x.1, x.2.1, x.2.2.1⟩ : Fuse)) _ _ (fun _ => rfl) (fun _ h => ⟨big h.1, big h.2.2.1.1⟩)
theorem opens45 : Opens enc Try.prog w 45 6 ((Int × Int) × (Int × Int) × (Int × Int)) (fun x => [I x.1.1, I x.1.2, I x.2.1.1, I x.2.1.2, I x.2.2.1, I x.2.2.2]) (fun _ => True) :=
  ⟨by kernel_rfl, fun fuel cs x hx => by
    obtain ⟨l, ⟨hl, _⟩, h⟩ := (Opens.array (enc := enc) (w := w) Try.underlying45 (by kernel_rfl) opens26 (fun _ => rfl)).2 fuel cs x hx
    match l, hl with
    | [a, b, c], _ => exact ⟨(a, b, c), trivial, h⟩⟩
theorem opensNode : Opens enc Try.prog w 47 11 Node (fun x => [.str x.name, I x.parent, I x.cable, I x.length, I x.fuse, I x.lo0, I x.hi0, I x.lo1, I x.hi1, I x.lo2, I x.hi2]) Node.ok :=
  Opens.map (Opens.struct Try.underlying47 (by kernel_rfl) (.cons rfl opens9 (.cons rfl opens3 (.cons rfl opens3 (.cons rfl opens3 (.cons rfl opens3 (.cons rfl opens45 (.nil _))))))) (fun _ => rfl))
    (fun x => (⟨x.1, x.2.1, x.2.2.1, x.2.2.2.1, x.2.2.2.2.1, x.2.2.2.2.2.1.1.1, x.2.2.2.2.2.1.1.2, x.2.2.2.2.2.1.2.1.1, x.2.2.2.2.2.1.2.1.2, x.2.2.2.2.2.1.2.2.1, x.2.2.2.2.2.1.2.2.2⟩ : Node)) _ _ (fun _ => rfl) (fun _ h => big h.1)
theorem opensFeed : Opens enc Try.prog w 28 9 Feeder (fun x => [.slice (x.cables.map Cable.av) none, .slice (x.fuses.map Fuse.av) none, .slice (x.nodes.map Node.av) none, I x.vLo, I x.vHi, I x.sLo, I x.sHi, I x.drop, I x.limit]) Feeder.ok :=
  Opens.map (Opens.struct Try.underlying28 (by kernel_rfl) (.cons rfl (.slice Cable.av Try.underlying22 (by kernel_rfl) opensCable (by decide) (fun _ => rfl) (fun _ => rfl)) (.cons rfl (.slice Fuse.av Try.underlying23 (by kernel_rfl) opensFuse (by decide) (fun _ => rfl) (fun _ => rfl))
    (.cons rfl (.slice Node.av Try.underlying24 (by kernel_rfl) opensNode (by decide) (fun _ => rfl) (fun _ => rfl)) (.cons rfl opens26 (.cons rfl opens26 (.cons rfl opens3 (.cons rfl opens3 (.nil _)))))))) (fun _ => rfl))
    (fun x => (⟨x.1, x.2.1, x.2.2.1, x.2.2.2.1.1, x.2.2.2.1.2, x.2.2.2.2.1.1, x.2.2.2.2.1.2, x.2.2.2.2.2.1, x.2.2.2.2.2.2.1⟩ : Feeder)) _ _ (fun _ => rfl) (fun _ h => ⟨big h.1.1, big h.2.1.1, big h.2.2.1.1, h.1.2, h.2.1.2, h.2.2.1.2⟩)
end
end Go.Proofs.Ytahdgadjpkcnjaa
end
