import Derived.Test.YteomgedahkpnlaaZFeedDarks4
set_option linter.unusedVariables false
set_option linter.unusedSimpArgs false
section
set_option maxRecDepth 100000
namespace Go.Proofs.Yteomgedahkpnlaa
open Go.Proofs
theorem F23 (f : Feeder) (ws : List (Int × Int)) (hok : f.ok) (hws : (ws.length : Int) ≤ 9223372036854775807) : Pure Try.prog 23 [Feeder.av f, .slice ((ws).map encA) none] (.tuple [.slice (((darkRes f ws).1).map encA) none, I ((darkRes f ws).2)]) := by
 intro mem
 refine Meets.body 6 Try.func23 rfl rfl ?_
 refine AC.rq (fun σ0 => RegOK.m1 [1, 2] ⟨[(1, .slice ((ws).map encA) none), (2, .ptr (σ0 0) 0)], (.box (σ0 0) (fc f)) :: .hole :: .hole :: .hole :: .hole :: .hole :: mem⟩ (.cons (s_box 0 (σ0 0) (.tmp 0 (Feeder.av f)) rfl) (.cons (s_assign .nils) (.cons (s_assign (.int .i64 (0))) .nil))) ?_)
 refine AC.rq (fun σ1 => RegOK.m1 [1, 2, 8] ⟨[(1, .slice ((ws).map encA) none), (2, .ptr (σ0 0) 0), (8, I ((check f).2.2))], (.box (σ0 0) (fc f)) :: .hole :: .hole :: .hole :: .hole :: .hole :: mem⟩ (.cons (s_loadA (cs := (fc f)) (l := (fc f)) 0 tyA28 (.tmp 2 (.ptr (σ0 0) 0)) rfl rfl) (.cons (s_call (r := .tuple [I ((check f).1), I ((check f).2.1), I ((check f).2.2)]) (.func 25) (.cons (.tmp 18 (Feeder.av f)) .nil) call25 (F25 (f) (by exact hok))) (.cons (s_move (.tmp 19 (.tuple [I ((check f).1), I ((check f).2.1), I ((check f).2.2)]))) (.cons (s_extract (v := I ((check f).1)) (.tmp 17 (.tuple [I ((check f).1), I ((check f).2.1), I ((check f).2.2)])) rfl) (.cons (s_extract (v := I ((check f).2.1)) (.tmp 17 (.tuple [I ((check f).1), I ((check f).2.1), I ((check f).2.2)])) rfl) (.cons (s_extract (v := I ((check f).2.2)) (.tmp 17 (.tuple [I ((check f).1), I ((check f).2.1), I ((check f).2.2)])) rfl) (.cons (s_assign (.tmp 20 (I ((check f).1)))) (.cons (s_assign (.tmp 21 (I ((check f).2.1)))) (.cons (s_assign (.tmp 22 (I ((check f).2.2)))) .nil))))))))) ?_)
 refine AC.rq (fun σ2 => RegOK.m1 [1, 2, 8, 9] ⟨[(1, .slice ((ws).map encA) none), (2, .ptr (σ0 0) 0), (8, I ((check f).2.2)), (9, .func 58 [] [.ptr (σ0 0) 0])], (.box (σ0 0) (fc f)) :: .hole :: .hole :: .hole :: .hole :: .hole :: mem⟩ (.cons (s_makeFunc .nil (.cons (.tmp 2 (.ptr (σ0 0) 0)) .nil)) (.cons (s_assign (.tmp 23 (.func 58 [] [.ptr (σ0 0) 0]))) .nil)) ?_)
 refine AC.bseq ?_
 refine AC.rq (fun σ3 => RegOK.m1 [1, 2, 8, 9, 24] ⟨[(1, .slice ((ws).map encA) none), (2, .ptr (σ0 0) 0), (8, I ((check f).2.2)), (9, .func 58 [] [.ptr (σ0 0) 0]), (24, .bool (decide ((check f).2.2 ≠ 0)))], (.box (σ0 0) (fc f)) :: .hole :: .hole :: .hole :: .hole :: .hole :: mem⟩ (.cons (s_move (.tmp 8 (I ((check f).2.2)))) (.cons (s_neq (.tmp 25 (I ((check f).2.2))) (.int .i64 (0))) (.cons (s_assign (.tmp 26 (.bool (decide ((check f).2.2 ≠ 0))))) .nil))) ?_)
 refine AC.cend (decide ((check f).2.2 ≠ 0)) rfl rfl (fun hc => ?_) (fun hc => ?_)
 ·have q1 := iD.1 hc
  refine AC.rq (fun σ4 => RegOK.m1 [4, 5] ⟨[(4, .nils), (5, I ((check f).2.2))], (.box (σ0 0) (fc f)) :: .hole :: .hole :: .hole :: .hole :: .hole :: mem⟩ (.cons (s_move (.tmp 8 (I ((check f).2.2)))) (.cons (s_assign .nils) (.cons (s_assign (.tmp 27 (I ((check f).2.2)))) .nil))) ?_)
  refine AC.ret ?_
  refine blockQ_r ?_
  refine thenQ_r ?_
  exact FinQ.ret (result2 rfl (res_nils (res_tmp (v := .nils) rfl rfl)) (res_tmp (v := I ((check f).2.2)) rfl rfl)) ⟨by rw [darkRes_e (e := (check f).2.2) (by unfold darkErr; first | (rw [if_pos (by assumption)]; done) | (rw [if_neg (by assumption)]; first | (rw [if_pos (by assumption)]; done) | (rw [if_neg (by assumption)]; first | (rw [if_pos (by assumption)]; done) | (rw [if_neg (by assumption)]; done)))) (by first | decide | assumption)]; rfl, rfl⟩
 ·have q2 := iF iD hc
  refine AC.rq (fun σ5 => RegOK.m1 [1, 2, 9, 28] ⟨[(1, .slice ((ws).map encA) none), (2, .ptr (σ0 0) 0), (9, .func 58 [] [.ptr (σ0 0) 0]), (28, .bool (decide (120 < (ws.length : Int))))], (.box (σ0 0) (fc f)) :: .hole :: .hole :: .hole :: .hole :: .hole :: mem⟩ (.cons (s_move (.tmp 1 (.slice ((ws).map encA) none))) (.cons (s_lenM (l := ws) slc54 (.tmp 29 (.slice ((ws).map encA) none))) (.cons (s_gtr (.tmp 30 (I (ws.length : Int))) (.int .i64 (120))) (.cons (s_assign (.tmp 31 (.bool (decide (120 < (ws.length : Int)))))) .nil)))) ?_)
  refine AC.cend (decide (120 < (ws.length : Int))) rfl rfl (fun hc => ?_) (fun hc => ?_)
  ·have q3 := iD.1 hc
   refine AC.rq (fun σ6 => RegOK.m1 [4, 5] ⟨[(4, .nils), (5, I 3)], (.box (σ0 0) (fc f)) :: .hole :: .hole :: .hole :: .hole :: .hole :: mem⟩ (.cons (s_assign .nils) (.cons (s_assign (.int .i64 (3))) .nil)) ?_)
   refine AC.ret ?_
   refine blockQ_r ?_
   refine thenQ_r ?_
   exact FinQ.ret (result2 rfl (res_nils (res_tmp (v := .nils) rfl rfl)) (res_tmp (v := I 3) rfl rfl)) ⟨by rw [darkRes_e (e := 3) (by unfold darkErr; first | (rw [if_pos (by assumption)]; done) | (rw [if_neg (by assumption)]; first | (rw [if_pos (by assumption)]; done) | (rw [if_neg (by assumption)]; first | (rw [if_pos (by assumption)]; done) | (rw [if_neg (by assumption)]; done)))) (by first | decide | assumption)]; rfl, rfl⟩
  ·have q4 := iF iD hc
   refine AC.rq (fun σ7 => RegOK.mkN [1, 2, 32] ⟨[(1, .slice ((ws).map encA) none), (2, .ptr (σ0 0) 0), (32, .bool ((ws.any (opnBad f))))], (.box (σ0 0) (fc f)) :: .hole :: .hole :: .hole :: .hole :: .hole :: mem⟩ (.cons (s_move (.tmp 1 (.slice ((ws).map encA) none))) (.cons (s_move (.tmp 9 (.func 58 [] [.ptr (σ0 0) 0]))) (.cons (s_callR (r := .bool ((ws.any (opnBad f)))) (es := ([Ent.box (σ0 0) (fc f)])) (.func 59) (.cons (.tmp 33 (.slice ((ws).map encA) none)) (.cons (.tmp 34 (.func 58 [] [.ptr (σ0 0) 0])) .nil)) call59 (F59 (ws) 58 [.ptr (σ0 0) 0] ([Ent.box (σ0 0) (fc f)]) (opnBad f) call58 (fun x hx => F58 x.1 x.2 f (σ0 0) hok) (by omega))) (.cons (s_assign (.tmp 35 (.bool ((ws.any (opnBad f)))))) .nil)))) (by kernel_rfl) (by kernel_rfl) (by kernel_rfl) ⟨trivial, trivial, (fun lq => (Has.cons (List.mem_of_getElem? (i := 0) rfl) (Has.nil _))), trivial, trivial⟩ (by kernel_rfl) (by kernel_rfl) (by kernel_rfl) ?_)
   refine AC.cend ((ws.any (opnBad f))) rfl rfl (fun hc => ?_) (fun hc => ?_)
   ·have q5 := iB.1 hc
    refine AC.rq (fun σ8 => RegOK.m1 [4, 5] ⟨[(4, .nils), (5, I 4)], (.box (σ0 0) (fc f)) :: .hole :: .hole :: .hole :: .hole :: .hole :: mem⟩ (.cons (s_assign .nils) (.cons (s_assign (.int .i64 (4))) .nil)) ?_)
    refine AC.ret ?_
    refine blockQ_r ?_
    refine thenQ_r ?_
    exact FinQ.ret (result2 rfl (res_nils (res_tmp (v := .nils) rfl rfl)) (res_tmp (v := I 4) rfl rfl)) ⟨by rw [darkRes_e (e := 4) (by unfold darkErr; first | (rw [if_pos (by assumption)]; done) | (rw [if_neg (by assumption)]; first | (rw [if_pos (by assumption)]; done) | (rw [if_neg (by assumption)]; first | (rw [if_pos (by assumption)]; done) | (rw [if_neg (by assumption)]; done)))) (by first | decide | assumption)]; rfl, rfl⟩
   ·have q6 := iF iB hc
    have g := FG.of (f := f) (by omega)
    have hw := opn_ok (f := f) q6
    have gnn0 := g.nn
    refine AC.skip ?_
    refine blockQ_n ?_
    refine thenQ_n ?_
    refine AC.rq (fun σ9 => RegOK.m1 [1, 2, 10] ⟨[(1, .slice ((ws).map encA) none), (2, .ptr (σ0 0) 0), (10, .ptr (σ9 1) 0)], (.box (σ0 0) (fc f)) :: (Ent.obj (σ9 0) (MapIs [])) :: (.box (σ9 1) [.mp (σ9 0)]) :: .hole :: .hole :: .hole :: mem⟩ (.cons (s_makeMap 1 (σ9 0)) (.cons (s_alloc 2 (σ9 1) zero109) (.cons (s_store (cs := [.top]) 2 sz109 (.tmp 10 (.ptr (σ9 1) 0)) (.tmp 36 (.mp (σ9 0))) rfl rfl rfl (Nat.le_of_ble_eq_true rfl)) .nil))) ?_)
    refine AC.seq ?_
    refine AC.rq (fun σ10 => RegOK.m1 [2, 10, 37, 38, 39] ⟨[(2, .ptr (σ0 0) 0), (10, .ptr (σ9 1) 0), (37, .slice ((ws).map encA) none), (38, I (ws.length : Int)), (39, I 0)], (.box (σ0 0) (fc f)) :: (Ent.obj (σ9 0) (MapIs [])) :: (.box (σ9 1) [.mp (σ9 0)]) :: .hole :: .hole :: .hole :: mem⟩ (.cons (s_move (.tmp 1 (.slice ((ws).map encA) none))) (.cons (s_lenM (l := ws) slc54 (.tmp 37 (.slice ((ws).map encA) none))) (.cons (s_move (.int .i64 (0))) .nil))) ?_)
    refine AC.block ?_
    refine AC.loopW (fun mz T => ∃ (m : Nat), mz = ws.length - m ∧ ((m ≤ ws.length)) ∧ T = ⟨[(2, .ptr (σ0 0) 0), (10, .ptr (σ9 1) 0), (37, .slice ((ws).map encA) none), (38, I (ws.length : Int)), (39, I (m : Int))], (.box (σ0 0) (fc f)) :: (Ent.obj (σ9 0) (MapIs (ents (keysTo f ws m)))) :: (.box (σ9 1) [.mp (σ9 0)]) :: .hole :: .hole :: .hole :: mem⟩) _ ⟨[(2, .ptr (σ0 0) 0), (10, .ptr (σ9 1) 0), (37, .slice ((ws).map encA) none), (38, I (ws.length : Int)), (39, I ((0) : Int))], (.box (σ0 0) (fc f)) :: (Ent.obj (σ9 0) (MapIs (ents (keysTo f ws (0))))) :: (.box (σ9 1) [.mp (σ9 0)]) :: .hole :: .hole :: .hole :: mem⟩ ⟨0, rfl, (by omega), rfl⟩ (Weak.of [] (by kernel_rfl) (by kernel_rfl)) ?_ Fr.plain
    rintro _ _ ⟨m, rfl, hm, rfl⟩
    refine AC.rq (fun σ11 => RegOK.m1 [2, 10, 37, 38, 39, 40] ⟨[(2, .ptr (σ0 0) 0), (10, .ptr (σ9 1) 0), (37, .slice ((ws).map encA) none), (38, I (ws.length : Int)), (39, I (m : Int)), (40, .bool (decide ((m : Int) < (ws.length : Int))))], (.box (σ0 0) (fc f)) :: (Ent.obj (σ9 0) (MapIs (ents (keysTo f ws m)))) :: (.box (σ9 1) [.mp (σ9 0)]) :: .hole :: .hole :: .hole :: mem⟩ (.cons (s_lss (.tmp 39 (I (m : Int))) (.tmp 38 (I (ws.length : Int)))) .nil) ?_)
    refine AC.cseq (decide ((m : Int) < (ws.length : Int))) rfl rfl (fun hc => ?_) (fun hc => ?_)
    ·have q7 := iD.1 hc
     refine AC.skip ?_
     refine thenQ_n ?_
     refine AC.bseq ?_
     refine AC.rq (fun σ12 => RegOK.m1 [2, 10, 12, 37, 38, 39] ⟨[(2, .ptr (σ0 0) 0), (10, .ptr (σ9 1) 0), (12, .ptr (σ12 2) 0), (37, .slice ((ws).map encA) none), (38, I (ws.length : Int)), (39, I (m : Int))], (.box (σ0 0) (fc f)) :: (Ent.obj (σ9 0) (MapIs (ents (keysTo f ws m)))) :: (.box (σ9 1) [.mp (σ9 0)]) :: (.box (σ12 2) [I ((ws.getD m (0, 0)).1), I ((ws.getD m (0, 0)).2)]) :: .hole :: .hole :: mem⟩ (.cons (s_ixM (l := ws) (f := encA) ((0, 0)) slc54 (.tmp 37 (.slice ((ws).map encA) none)) (.tmp 39 (I (m : Int))) (by omega) rfl) (.cons (s_loadAe (l := [I ((ws.getD m (0, 0)).1), I ((ws.getD m (0, 0)).2)]) tyA58 (.tmp 41 (.eptr (.agg [I ((ws.getD m (0, 0)).1), I ((ws.getD m (0, 0)).2)]) 0)) rfl rfl) (.cons (s_alloc 3 (σ12 2) zero58) (.cons (s_store (cs := [I 0, I 0]) 3 sz58 (.tmp 12 (.ptr (σ12 2) 0)) (.tmp 42 (.agg [I ((ws.getD m (0, 0)).1), I ((ws.getD m (0, 0)).2)])) rfl rfl rfl (Nat.le_of_ble_eq_true rfl)) .nil)))) ?_)
     obtain ⟨n, hn⟩ : ∃ n : Nat, (List.getD ws m (0, 0)).1 = (n : Int) := ⟨(List.getD ws m (0, 0)).1.toNat, by have := (hw m (by omega)).1; omega⟩
     have hnl : n < f.nodes.length := by have := (hw m (by omega)).1; omega
     rw [hn]
     refine RunL.region ?_
     refine RunL.chunk Fr.plain 4 (fun σ13_0 => RegOKL.m1 [2, 10, 37, 38, 39, 43, 45, 46] ⟨[(2, .ptr (σ0 0) 0), (10, .ptr (σ9 1) 0), (37, .slice ((ws).map encA) none), (38, I (ws.length : Int)), (39, I (m : Int)), (43, Feeder.av f), (45, I (n : Int)), (46, .func 61 [] [.ptr (σ9 1) 0, .ptr (σ12 2) 0])], (.box (σ0 0) (fc f)) :: (Ent.obj (σ9 0) (MapIs (ents (keysTo f ws m)))) :: (.box (σ9 1) [.mp (σ9 0)]) :: (.box (σ12 2) [I (n : Int), I ((ws.getD m (0, 0)).2)]) :: .hole :: .hole :: mem⟩ (.cons (s_loadA (cs := (fc f)) (l := (fc f)) 0 tyA28 (.tmp 2 (.ptr (σ0 0) 0)) rfl rfl) (.cons (s_fieldAddr fld58_0 (.tmp 12 (.ptr (σ12 2) 0))) (.cons (s_load1 (cs := [I (n : Int), I ((ws.getD m (0, 0)).2)]) (c := I (n : Int)) 3 tyS3 (.tmp 44 (.ptr (σ12 2) 0)) rfl) (.cons (s_makeFunc .nil (.cons (.tmp 10 (.ptr (σ9 1) 0)) (.cons (.tmp 12 (.ptr (σ12 2) 0)) .nil))) .nil)))) ?_)
     refine RunL.callT Fr.plain [Ent.box (σ0 0) (fc f)] ((Ent.obj (σ9 0) (MapIs (ents (keysTo f ws m)))) :: (Ent.box (σ9 1) [.mp (σ9 0)]) :: (Ent.box (σ12 2) [I (n : Int), I ((ws.getD m (0, 0)).2)]) :: []) (.hole :: .hole :: mem) rfl (.func 60) (.cons (.tmp 43 (Feeder.av f)) (.cons (.tmp 45 (I (n : Int))) (.cons (.tmp 46 (.func 61 [] [.ptr (σ9 1) 0, .ptr (σ12 2) 0])) .nil))) call60 ⟨by kernel_rfl, by kernel_rfl⟩ (fun _ _ _ _ _ => rfl) (F60 f g 61 [.ptr (σ9 1) 0, .ptr (σ12 2) 0] (fun pre => [Ent.obj (σ9 0) (MapIs (ents (insAll (ws.getD m (0, 0)).2 (keysTo f ws m) pre))), Ent.box (σ9 1) [.mp (σ9 0)], Ent.box (σ12 2) [I (n : Int), I ((ws.getD m (0, 0)).2)]]) 40 call61 (fun pre i hi hp hl => by rw [insAll_snoc]; exact F61 i _ _ _ _ _ _) n [] (by omega) (by have := dfs_length g.tree (k := f.nodes.length) (c := n) (by omega) (by omega); have := g.nn; simp; omega) (fun x hx => by cases hx)) ?_
     rintro _ _ ⟨rfl, rfl⟩
     refine RunL.nil ?_
     refine blockQ_n ?_
     refine thenQ_n ?_
     refine AC.re (fun σ14 => RegOK.m1 [2, 10, 37, 38, 39] ⟨[(2, .ptr (σ0 0) 0), (10, .ptr (σ9 1) 0), (37, .slice ((ws).map encA) none), (38, I (ws.length : Int)), (39, I ((m : Int) + 1))], (.box (σ0 0) (fc f)) :: (Ent.obj (σ9 0) (MapIs (ents (insAll (ws.getD m (0, 0)).2 (keysTo f ws m) (dfs f.nodes f.nodes.length n))))) :: (.box (σ9 1) [.mp (σ9 0)]) :: (.box (σ12 2) [I (n : Int), I ((ws.getD m (0, 0)).2)]) :: .hole :: .hole :: mem⟩ (.cons (s_add (.tmp 39 (I (m : Int))) (.int .i64 (1)) (inK_i64 (by omega))) (.cons (s_move (.tmp 48 (I ((m : Int) + 1)))) .nil)) ?_)
     refine thenQ_n ⟨_, ?_, _, ⟨(m + 1), rfl, (by omega), rfl⟩, Weak.of [3] (by kernel_rfl) (by rw [keys_succ hn]; rfl)⟩
     omega
    ·have q8 := iF iD hc
     have hme : m = ws.length := by omega
     subst hme
     refine AC.exit ?_
     refine thenQ_x ?_
     refine thenQ_x ?_
     refine blockQ_x ?_
     refine thenQ_n ?_
     refine AC.rq (fun σ15 => RegOK.m1 [2, 10, 13] ⟨[(2, .ptr (σ0 0) 0), (10, .ptr (σ9 1) 0), (13, .nils)], (.box (σ0 0) (fc f)) :: (Ent.obj (σ9 0) (MapIs (ents (keysTo f ws ws.length)))) :: (.box (σ9 1) [.mp (σ9 0)]) :: .hole :: .hole :: .hole :: mem⟩ (.cons (s_assign .nils) .nil) ?_)
     refine AC.claim 13 5 58 2 rfl rfl (fun c13 => ?_)
     refine AC.seq ?_
     refine AC.rq (fun σ16 => RegOK.m1 [10, 13, 51, 52] ⟨[(10, .ptr (σ9 1) 0), (13, .slice ((([] : List (Int × Int))).map encA) (some c13)), (51, I (f.nodes.length : Int)), (52, I 0)], (.box (σ0 0) (fc f)) :: (Ent.obj (σ9 0) (MapIs (ents (keysTo f ws ws.length)))) :: (.box (σ9 1) [.mp (σ9 0)]) :: .hole :: .hole :: (.row c13 (0) 58 2) :: mem⟩ (.cons (s_fieldAddr fld28_2 (.tmp 2 (.ptr (σ0 0) 0))) (.cons (s_load1 (cs := (fc f)) (c := .slice ((f.nodes).map Node.av) none) 0 tyS24 (.tmp 49 (.ptr (σ0 0) 2)) rfl) (.cons (s_lenM (l := f.nodes) slc24 (.tmp 50 (.slice ((f.nodes).map Node.av) none))) (.cons (s_move (.int .i64 (0))) .nil)))) ?_)
     refine AC.block ?_
     refine AC.loopW (fun mz T => ∃ (i : Nat), ∃ (l : List Opn), ∃ (s : Nat), mz = f.nodes.length - i ∧ ((i ≤ f.nodes.length) ∧ (l = darkTo f ws i) ∧ (l.length ≤ 3 * i)) ∧ T = ⟨[(10, .ptr (σ9 1) 0), (13, .slice ((l).map encA) (some s)), (51, I (f.nodes.length : Int)), (52, I (i : Int))], (.box (σ0 0) (fc f)) :: (Ent.obj (σ9 0) (MapIs (ents (keysTo f ws ws.length)))) :: (.box (σ9 1) [.mp (σ9 0)]) :: .hole :: .hole :: (.row s (l.length) 58 2) :: mem⟩) _ ⟨[(10, .ptr (σ9 1) 0), (13, .slice (((([] : List (Int × Int)))).map encA) (some (c13))), (51, I (f.nodes.length : Int)), (52, I ((0) : Int))], (.box (σ0 0) (fc f)) :: (Ent.obj (σ9 0) (MapIs (ents (keysTo f ws ws.length)))) :: (.box (σ9 1) [.mp (σ9 0)]) :: .hole :: .hole :: (.row (c13) ((([] : List (Int × Int))).length) 58 2) :: mem⟩ ⟨0, ([] : List (Int × Int)), c13, rfl, ⟨(by omega), (by rfl), (by simp)⟩, rfl⟩ (Weak.of [] (by kernel_rfl) (by kernel_rfl)) ?_ Fr.plain
     rintro _ _ ⟨i, l, s, rfl, ⟨hi, hl, hll⟩, rfl⟩
     have gnn := g.nn
     refine AC.rq (fun σ17 => RegOK.m1 [10, 13, 51, 52, 53] ⟨[(10, .ptr (σ9 1) 0), (13, .slice ((l).map encA) (some s)), (51, I (f.nodes.length : Int)), (52, I (i : Int)), (53, .bool (decide ((i : Int) < (f.nodes.length : Int))))], (.box (σ0 0) (fc f)) :: (Ent.obj (σ9 0) (MapIs (ents (keysTo f ws ws.length)))) :: (.box (σ9 1) [.mp (σ9 0)]) :: .hole :: .hole :: (.row s (l.length) 58 2) :: mem⟩ (.cons (s_lss (.tmp 52 (I (i : Int))) (.tmp 51 (I (f.nodes.length : Int)))) .nil) ?_)
     refine AC.cseq (decide ((i : Int) < (f.nodes.length : Int))) rfl rfl (fun hc => ?_) (fun hc => ?_)
     ·have q9 := iD.1 hc
      have hil : i < f.nodes.length := by omega
      refine AC.skip ?_
      refine thenQ_n ?_
      refine AC.bseq ?_
      refine AC.rq (fun σ18 => RegOK.m1 [10, 13, 14, 51, 52] ⟨[(10, .ptr (σ9 1) 0), (13, .slice ((l).map encA) (some s)), (14, I (i : Int)), (51, I (f.nodes.length : Int)), (52, I (i : Int))], (.box (σ0 0) (fc f)) :: (Ent.obj (σ9 0) (MapIs (ents (keysTo f ws ws.length)))) :: (.box (σ9 1) [.mp (σ9 0)]) :: .hole :: .hole :: (.row s (l.length) 58 2) :: mem⟩ (.cons (s_move (.tmp 52 (I (i : Int)))) (.cons (s_assign (.tmp 54 (I (i : Int)))) .nil)) ?_)
      refine AC.rq (fun σ19 => RegOK.m1 [10, 13, 14, 51, 52, 55] ⟨[(10, .ptr (σ9 1) 0), (13, .slice ((l).map encA) (some s)), (14, I (i : Int)), (51, I (f.nodes.length : Int)), (52, I (i : Int)), (55, I 0)], (.box (σ0 0) (fc f)) :: (Ent.obj (σ9 0) (MapIs (ents (keysTo f ws ws.length)))) :: (.box (σ9 1) [.mp (σ9 0)]) :: .hole :: .hole :: (.row s (l.length) 58 2) :: mem⟩ (.cons (s_move (.int .i64 (0))) .nil) ?_)
      refine AC.block ?_
      refine AC.turns (ACL.turn ?_)
      refine AC.rq (fun σ20 => RegOK.m1 [10, 13, 14, 51, 52, 55, 56] ⟨[(10, .ptr (σ9 1) 0), (13, .slice ((l).map encA) (some s)), (14, I (i : Int)), (51, I (f.nodes.length : Int)), (52, I (i : Int)), (55, I 0), (56, .bool (decide ((0 : Int) < 3)))], (.box (σ0 0) (fc f)) :: (Ent.obj (σ9 0) (MapIs (ents (keysTo f ws ws.length)))) :: (.box (σ9 1) [.mp (σ9 0)]) :: .hole :: .hole :: (.row s (l.length) 58 2) :: mem⟩ (.cons (s_lss (.tmp 55 (I 0)) (.int .i64 (3))) .nil) ?_)
      refine AC.cseq (decide ((0 : Int) < 3)) rfl rfl (fun hc => ?_) (fun hc => absurd hc (by simp))
      refine AC.skip ?_
      refine thenQ_n ?_
      refine AC.join (fun T => ∃ (dk0 : List Opn), ∃ (sdk0 : Nat), ((dk0 = l ++ co (isDark f ws i 0) ((i : Int), 0)) ∧ (dk0.length ≤ l.length + 1)) ∧ T = ⟨[(10, .ptr (σ9 1) 0), (13, .slice ((dk0).map encA) (some sdk0)), (14, I (i : Int)), (51, I (f.nodes.length : Int)), (52, I (i : Int)), (55, I 0)], (.box (σ0 0) (fc f)) :: (Ent.obj (σ9 0) (MapIs (ents (keysTo f ws ws.length)))) :: (.box (σ9 1) [.mp (σ9 0)]) :: .hole :: .hole :: (.row sdk0 (dk0.length) 58 2) :: mem⟩) ?_ ?_
      ·skip
       refine AC.block ?_
       refine AC.rq (fun σ21 => RegOK.m1 [10, 13, 14, 15, 51, 52, 55] ⟨[(10, .ptr (σ9 1) 0), (13, .slice ((l).map encA) (some s)), (14, I (i : Int)), (15, I 0), (51, I (f.nodes.length : Int)), (52, I (i : Int)), (55, I 0)], (.box (σ0 0) (fc f)) :: (Ent.obj (σ9 0) (MapIs (ents (keysTo f ws ws.length)))) :: (.box (σ9 1) [.mp (σ9 0)]) :: .hole :: .hole :: (.row s (l.length) 58 2) :: mem⟩ (.cons (s_move (.tmp 55 (I 0))) (.cons (s_assign (.tmp 57 (I 0))) .nil)) ?_)
       refine AC.rq (fun σ22 => RegOK.m1 [10, 13, 14, 16, 51, 52, 55] ⟨[(10, .ptr (σ9 1) 0), (13, .slice ((l).map encA) (some s)), (14, I (i : Int)), (16, .ptr (σ22 3) 0), (51, I (f.nodes.length : Int)), (52, I (i : Int)), (55, I 0)], (.box (σ0 0) (fc f)) :: (Ent.obj (σ9 0) (MapIs (ents (keysTo f ws ws.length)))) :: (.box (σ9 1) [.mp (σ9 0)]) :: .hole :: (.box (σ22 3) [I (i : Int), I 0]) :: (.row s (l.length) 58 2) :: mem⟩ (.cons (s_move (.tmp 14 (I (i : Int)))) (.cons (s_move (.tmp 15 (I 0))) (.cons (s_build (l := [I (i : Int), I 0]) zero58 plc58 (.cons rfl (.tmp 58 (I (i : Int))) (.cons rfl (.tmp 59 (I 0)) .nil)) rfl) (.cons (s_alloc 4 (σ22 3) zero58) (.cons (s_store (cs := [I 0, I 0]) 4 sz58 (.tmp 16 (.ptr (σ22 3) 0)) (.tmp 60 (.agg [I (i : Int), I 0])) rfl rfl rfl (Nat.le_of_ble_eq_true rfl)) .nil))))) ?_)
       refine AC.rq (fun σ23 => RegOK.m1 [10, 13, 14, 16, 51, 52, 55, 63] ⟨[(10, .ptr (σ9 1) 0), (13, .slice ((l).map encA) (some s)), (14, I (i : Int)), (16, .ptr (σ22 3) 0), (51, I (f.nodes.length : Int)), (52, I (i : Int)), (55, I 0), (63, .bool (decide (((i : Int), 0) ∈ (keysTo f ws ws.length))))], (.box (σ0 0) (fc f)) :: (Ent.obj (σ9 0) (MapIs (ents (keysTo f ws ws.length)))) :: (.box (σ9 1) [.mp (σ9 0)]) :: .hole :: (.box (σ22 3) [I (i : Int), I 0]) :: (.row s (l.length) 58 2) :: mem⟩ (.cons (s_load1 (cs := [.mp (σ9 0)]) (c := .mp (σ9 0)) 2 tyS109 (.tmp 10 (.ptr (σ9 1) 0)) rfl) (.cons (s_loadA (cs := [I (i : Int), I 0]) (l := [I (i : Int), I 0]) 4 tyA58 (.tmp 16 (.ptr (σ22 3) 0)) rfl rfl) (.cons (s_mapHas (ks := (keysTo f ws ws.length)) (kv := ((i : Int), 0)) 1 Try.underlying109 Try.underlying58 zero4 keyEq58 keyOK58 (.tmp 61 (.mp (σ9 0))) (.tmp 62 (.agg [I (i : Int), I 0]))) .nil))) ?_)
       refine AC.cend (decide (((i : Int), 0) ∈ (keysTo f ws ws.length))) rfl rfl (fun hc => ?_) (fun hc => ?_)
       ·have q10 := iD.1 hc
        refine AC.re (fun σ24 => RegOK.m1 [10, 13, 14, 51, 52, 55] ⟨[(10, .ptr (σ9 1) 0), (13, .slice (((l ++ [((i : Int), 0)])).map encA) (some (σ24 3))), (14, I (i : Int)), (51, I (f.nodes.length : Int)), (52, I (i : Int)), (55, I 0)], (.box (σ0 0) (fc f)) :: (Ent.obj (σ9 0) (MapIs (ents (keysTo f ws ws.length)))) :: (.box (σ9 1) [.mp (σ9 0)]) :: .hole :: (.box (σ22 3) [I (i : Int), I 0]) :: (.row (σ24 3) ((l ++ [((i : Int), 0)]).length) 58 2) :: mem⟩ (.cons (s_move (.tmp 13 (.slice ((l).map encA) (some s)))) (.cons (s_loadA (cs := [I (i : Int), I 0]) (l := [I (i : Int), I 0]) 4 tyA58 (.tmp 16 (.ptr (σ22 3) 0)) rfl rfl) (.cons (s_buildSlice' (es := [.agg [I (i : Int), I 0]]) zero58 slc54 rfl rfl (.cons rfl (.tmp 65 (.agg [I (i : Int), I 0])) .nil) rfl rfl) (.cons (s_appendM (l := l) (l2 := [((i : Int), 0)]) (f := encA) 5 (σ24 3) slc54 zero58 byt58 rfl (by decide) (.tmp 64 (.slice ((l).map encA) (some s))) (.tmp 66 (.slice (([((i : Int), 0)]).map encA) none)) (by simp) (fun _ => rfl) (fun _ => rfl) (by simp only [List.length_cons, List.length_nil]; omega)) (.cons (s_assign (.tmp 67 (.slice (((l ++ [((i : Int), 0)])).map encA) (some (σ24 3))))) .nil))))) ?_)
        refine blockQ_n ?_
        exact thenQ_n ⟨_, ⟨(l ++ [((i : Int), 0)]), (σ24 3), ⟨(by first | (rw [show isDark f ws i 0 = true from (keys_iff g.tree (fun j hj => (hw j hj).1) hil 0).1 (by assumption)]; rfl) | (rw [show isDark f ws i 0 = false from Bool.eq_false_iff.2 (fun h => absurd ((keys_iff g.tree (fun j hj => (hw j hj).1) hil 0).2 h) (by assumption))]; exact (List.append_nil _).symm)), (by first | omega | (simp only [List.length_append, List.length_cons, List.length_nil]; omega))⟩, rfl⟩, Weak.of [4] (by kernel_rfl) (by kernel_rfl)⟩
       ·have q11 := iF iD hc
        refine AC.skip ?_
        refine blockQ_n ?_
        exact thenQ_n ⟨_, ⟨l, s, ⟨(by first | (rw [show isDark f ws i 0 = true from (keys_iff g.tree (fun j hj => (hw j hj).1) hil 0).1 (by assumption)]; rfl) | (rw [show isDark f ws i 0 = false from Bool.eq_false_iff.2 (fun h => absurd ((keys_iff g.tree (fun j hj => (hw j hj).1) hil 0).2 h) (by assumption))]; exact (List.append_nil _).symm)), (by first | omega | (simp only [List.length_append, List.length_cons, List.length_nil]; omega))⟩, rfl⟩, Weak.of [4] (by kernel_rfl) (by kernel_rfl)⟩
      ·rintro _ ⟨dk0, sdk0, ⟨Edk0, Hdk0⟩, rfl⟩
       refine AC.re (fun σ25 => RegOK.m1 [10, 13, 14, 51, 52, 55] ⟨[(10, .ptr (σ9 1) 0), (13, .slice ((dk0).map encA) (some sdk0)), (14, I (i : Int)), (51, I (f.nodes.length : Int)), (52, I (i : Int)), (55, I 1)], (.box (σ0 0) (fc f)) :: (Ent.obj (σ9 0) (MapIs (ents (keysTo f ws ws.length)))) :: (.box (σ9 1) [.mp (σ9 0)]) :: .hole :: .hole :: (.row sdk0 (dk0.length) 58 2) :: mem⟩ (.cons (s_add (.tmp 55 (I 0)) (.int .i64 (1)) (inK_i64 (by decide))) (.cons (s_move (.tmp 68 (I 1))) .nil)) ?_)
       refine thenQ_n (ACL.turn ?_)
       refine AC.rq (fun σ20 => RegOK.m1 [10, 13, 14, 51, 52, 55, 56] ⟨[(10, .ptr (σ9 1) 0), (13, .slice ((dk0).map encA) (some sdk0)), (14, I (i : Int)), (51, I (f.nodes.length : Int)), (52, I (i : Int)), (55, I 1), (56, .bool (decide ((1 : Int) < 3)))], (.box (σ0 0) (fc f)) :: (Ent.obj (σ9 0) (MapIs (ents (keysTo f ws ws.length)))) :: (.box (σ9 1) [.mp (σ9 0)]) :: .hole :: .hole :: (.row sdk0 (dk0.length) 58 2) :: mem⟩ (.cons (s_lss (.tmp 55 (I 1)) (.int .i64 (3))) .nil) ?_)
       refine AC.cseq (decide ((1 : Int) < 3)) rfl rfl (fun hc => ?_) (fun hc => absurd hc (by simp))
       refine AC.skip ?_
       refine thenQ_n ?_
       refine AC.join (fun T => ∃ (dk1 : List Opn), ∃ (sdk1 : Nat), ((dk1 = dk0 ++ co (isDark f ws i 1) ((i : Int), 1)) ∧ (dk1.length ≤ dk0.length + 1)) ∧ T = ⟨[(10, .ptr (σ9 1) 0), (13, .slice ((dk1).map encA) (some sdk1)), (14, I (i : Int)), (51, I (f.nodes.length : Int)), (52, I (i : Int)), (55, I 1)], (.box (σ0 0) (fc f)) :: (Ent.obj (σ9 0) (MapIs (ents (keysTo f ws ws.length)))) :: (.box (σ9 1) [.mp (σ9 0)]) :: .hole :: .hole :: (.row sdk1 (dk1.length) 58 2) :: mem⟩) ?_ ?_
       ·skip
        refine AC.block ?_
        refine AC.rq (fun σ21 => RegOK.m1 [10, 13, 14, 15, 51, 52, 55] ⟨[(10, .ptr (σ9 1) 0), (13, .slice ((dk0).map encA) (some sdk0)), (14, I (i : Int)), (15, I 1), (51, I (f.nodes.length : Int)), (52, I (i : Int)), (55, I 1)], (.box (σ0 0) (fc f)) :: (Ent.obj (σ9 0) (MapIs (ents (keysTo f ws ws.length)))) :: (.box (σ9 1) [.mp (σ9 0)]) :: .hole :: .hole :: (.row sdk0 (dk0.length) 58 2) :: mem⟩ (.cons (s_move (.tmp 55 (I 1))) (.cons (s_assign (.tmp 57 (I 1))) .nil)) ?_)
        refine AC.rq (fun σ22 => RegOK.m1 [10, 13, 14, 16, 51, 52, 55] ⟨[(10, .ptr (σ9 1) 0), (13, .slice ((dk0).map encA) (some sdk0)), (14, I (i : Int)), (16, .ptr (σ22 3) 0), (51, I (f.nodes.length : Int)), (52, I (i : Int)), (55, I 1)], (.box (σ0 0) (fc f)) :: (Ent.obj (σ9 0) (MapIs (ents (keysTo f ws ws.length)))) :: (.box (σ9 1) [.mp (σ9 0)]) :: .hole :: (.box (σ22 3) [I (i : Int), I 1]) :: (.row sdk0 (dk0.length) 58 2) :: mem⟩ (.cons (s_move (.tmp 14 (I (i : Int)))) (.cons (s_move (.tmp 15 (I 1))) (.cons (s_build (l := [I (i : Int), I 1]) zero58 plc58 (.cons rfl (.tmp 58 (I (i : Int))) (.cons rfl (.tmp 59 (I 1)) .nil)) rfl) (.cons (s_alloc 4 (σ22 3) zero58) (.cons (s_store (cs := [I 0, I 0]) 4 sz58 (.tmp 16 (.ptr (σ22 3) 0)) (.tmp 60 (.agg [I (i : Int), I 1])) rfl rfl rfl (Nat.le_of_ble_eq_true rfl)) .nil))))) ?_)
        refine AC.rq (fun σ23 => RegOK.m1 [10, 13, 14, 16, 51, 52, 55, 63] ⟨[(10, .ptr (σ9 1) 0), (13, .slice ((dk0).map encA) (some sdk0)), (14, I (i : Int)), (16, .ptr (σ22 3) 0), (51, I (f.nodes.length : Int)), (52, I (i : Int)), (55, I 1), (63, .bool (decide (((i : Int), 1) ∈ (keysTo f ws ws.length))))], (.box (σ0 0) (fc f)) :: (Ent.obj (σ9 0) (MapIs (ents (keysTo f ws ws.length)))) :: (.box (σ9 1) [.mp (σ9 0)]) :: .hole :: (.box (σ22 3) [I (i : Int), I 1]) :: (.row sdk0 (dk0.length) 58 2) :: mem⟩ (.cons (s_load1 (cs := [.mp (σ9 0)]) (c := .mp (σ9 0)) 2 tyS109 (.tmp 10 (.ptr (σ9 1) 0)) rfl) (.cons (s_loadA (cs := [I (i : Int), I 1]) (l := [I (i : Int), I 1]) 4 tyA58 (.tmp 16 (.ptr (σ22 3) 0)) rfl rfl) (.cons (s_mapHas (ks := (keysTo f ws ws.length)) (kv := ((i : Int), 1)) 1 Try.underlying109 Try.underlying58 zero4 keyEq58 keyOK58 (.tmp 61 (.mp (σ9 0))) (.tmp 62 (.agg [I (i : Int), I 1]))) .nil))) ?_)
        refine AC.cend (decide (((i : Int), 1) ∈ (keysTo f ws ws.length))) rfl rfl (fun hc => ?_) (fun hc => ?_)
        ·have q12 := iD.1 hc
         refine AC.re (fun σ24 => RegOK.m1 [10, 13, 14, 51, 52, 55] ⟨[(10, .ptr (σ9 1) 0), (13, .slice (((dk0 ++ [((i : Int), 1)])).map encA) (some (σ24 3))), (14, I (i : Int)), (51, I (f.nodes.length : Int)), (52, I (i : Int)), (55, I 1)], (.box (σ0 0) (fc f)) :: (Ent.obj (σ9 0) (MapIs (ents (keysTo f ws ws.length)))) :: (.box (σ9 1) [.mp (σ9 0)]) :: .hole :: (.box (σ22 3) [I (i : Int), I 1]) :: (.row (σ24 3) ((dk0 ++ [((i : Int), 1)]).length) 58 2) :: mem⟩ (.cons (s_move (.tmp 13 (.slice ((dk0).map encA) (some sdk0)))) (.cons (s_loadA (cs := [I (i : Int), I 1]) (l := [I (i : Int), I 1]) 4 tyA58 (.tmp 16 (.ptr (σ22 3) 0)) rfl rfl) (.cons (s_buildSlice' (es := [.agg [I (i : Int), I 1]]) zero58 slc54 rfl rfl (.cons rfl (.tmp 65 (.agg [I (i : Int), I 1])) .nil) rfl rfl) (.cons (s_appendM (l := dk0) (l2 := [((i : Int), 1)]) (f := encA) 5 (σ24 3) slc54 zero58 byt58 rfl (by decide) (.tmp 64 (.slice ((dk0).map encA) (some sdk0))) (.tmp 66 (.slice (([((i : Int), 1)]).map encA) none)) (by simp) (fun _ => rfl) (fun _ => rfl) (by simp only [List.length_cons, List.length_nil]; omega)) (.cons (s_assign (.tmp 67 (.slice (((dk0 ++ [((i : Int), 1)])).map encA) (some (σ24 3))))) .nil))))) ?_)
         refine blockQ_n ?_
         exact thenQ_n ⟨_, ⟨(dk0 ++ [((i : Int), 1)]), (σ24 3), ⟨(by first | (rw [show isDark f ws i 1 = true from (keys_iff g.tree (fun j hj => (hw j hj).1) hil 1).1 (by assumption)]; rfl) | (rw [show isDark f ws i 1 = false from Bool.eq_false_iff.2 (fun h => absurd ((keys_iff g.tree (fun j hj => (hw j hj).1) hil 1).2 h) (by assumption))]; exact (List.append_nil _).symm)), (by first | omega | (simp only [List.length_append, List.length_cons, List.length_nil]; omega))⟩, rfl⟩, Weak.of [4] (by kernel_rfl) (by kernel_rfl)⟩
        ·have q13 := iF iD hc
         refine AC.skip ?_
         refine blockQ_n ?_
         exact thenQ_n ⟨_, ⟨dk0, sdk0, ⟨(by first | (rw [show isDark f ws i 1 = true from (keys_iff g.tree (fun j hj => (hw j hj).1) hil 1).1 (by assumption)]; rfl) | (rw [show isDark f ws i 1 = false from Bool.eq_false_iff.2 (fun h => absurd ((keys_iff g.tree (fun j hj => (hw j hj).1) hil 1).2 h) (by assumption))]; exact (List.append_nil _).symm)), (by first | omega | (simp only [List.length_append, List.length_cons, List.length_nil]; omega))⟩, rfl⟩, Weak.of [4] (by kernel_rfl) (by kernel_rfl)⟩
       ·rintro _ ⟨dk1, sdk1, ⟨Edk1, Hdk1⟩, rfl⟩
        refine AC.re (fun σ25 => RegOK.m1 [10, 13, 14, 51, 52, 55] ⟨[(10, .ptr (σ9 1) 0), (13, .slice ((dk1).map encA) (some sdk1)), (14, I (i : Int)), (51, I (f.nodes.length : Int)), (52, I (i : Int)), (55, I 2)], (.box (σ0 0) (fc f)) :: (Ent.obj (σ9 0) (MapIs (ents (keysTo f ws ws.length)))) :: (.box (σ9 1) [.mp (σ9 0)]) :: .hole :: .hole :: (.row sdk1 (dk1.length) 58 2) :: mem⟩ (.cons (s_add (.tmp 55 (I 1)) (.int .i64 (1)) (inK_i64 (by decide))) (.cons (s_move (.tmp 68 (I 2))) .nil)) ?_)
        refine thenQ_n (ACL.turn ?_)
        refine AC.rq (fun σ20 => RegOK.m1 [10, 13, 14, 51, 52, 55, 56] ⟨[(10, .ptr (σ9 1) 0), (13, .slice ((dk1).map encA) (some sdk1)), (14, I (i : Int)), (51, I (f.nodes.length : Int)), (52, I (i : Int)), (55, I 2), (56, .bool (decide ((2 : Int) < 3)))], (.box (σ0 0) (fc f)) :: (Ent.obj (σ9 0) (MapIs (ents (keysTo f ws ws.length)))) :: (.box (σ9 1) [.mp (σ9 0)]) :: .hole :: .hole :: (.row sdk1 (dk1.length) 58 2) :: mem⟩ (.cons (s_lss (.tmp 55 (I 2)) (.int .i64 (3))) .nil) ?_)
        refine AC.cseq (decide ((2 : Int) < 3)) rfl rfl (fun hc => ?_) (fun hc => absurd hc (by simp))
        refine AC.skip ?_
        refine thenQ_n ?_
        refine AC.join (fun T => ∃ (dk2 : List Opn), ∃ (sdk2 : Nat), ((dk2 = dk1 ++ co (isDark f ws i 2) ((i : Int), 2)) ∧ (dk2.length ≤ dk1.length + 1)) ∧ T = ⟨[(10, .ptr (σ9 1) 0), (13, .slice ((dk2).map encA) (some sdk2)), (14, I (i : Int)), (51, I (f.nodes.length : Int)), (52, I (i : Int)), (55, I 2)], (.box (σ0 0) (fc f)) :: (Ent.obj (σ9 0) (MapIs (ents (keysTo f ws ws.length)))) :: (.box (σ9 1) [.mp (σ9 0)]) :: .hole :: .hole :: (.row sdk2 (dk2.length) 58 2) :: mem⟩) ?_ ?_
        ·skip
         refine AC.block ?_
         refine AC.rq (fun σ21 => RegOK.m1 [10, 13, 14, 15, 51, 52, 55] ⟨[(10, .ptr (σ9 1) 0), (13, .slice ((dk1).map encA) (some sdk1)), (14, I (i : Int)), (15, I 2), (51, I (f.nodes.length : Int)), (52, I (i : Int)), (55, I 2)], (.box (σ0 0) (fc f)) :: (Ent.obj (σ9 0) (MapIs (ents (keysTo f ws ws.length)))) :: (.box (σ9 1) [.mp (σ9 0)]) :: .hole :: .hole :: (.row sdk1 (dk1.length) 58 2) :: mem⟩ (.cons (s_move (.tmp 55 (I 2))) (.cons (s_assign (.tmp 57 (I 2))) .nil)) ?_)
         refine AC.rq (fun σ22 => RegOK.m1 [10, 13, 14, 16, 51, 52, 55] ⟨[(10, .ptr (σ9 1) 0), (13, .slice ((dk1).map encA) (some sdk1)), (14, I (i : Int)), (16, .ptr (σ22 3) 0), (51, I (f.nodes.length : Int)), (52, I (i : Int)), (55, I 2)], (.box (σ0 0) (fc f)) :: (Ent.obj (σ9 0) (MapIs (ents (keysTo f ws ws.length)))) :: (.box (σ9 1) [.mp (σ9 0)]) :: .hole :: (.box (σ22 3) [I (i : Int), I 2]) :: (.row sdk1 (dk1.length) 58 2) :: mem⟩ (.cons (s_move (.tmp 14 (I (i : Int)))) (.cons (s_move (.tmp 15 (I 2))) (.cons (s_build (l := [I (i : Int), I 2]) zero58 plc58 (.cons rfl (.tmp 58 (I (i : Int))) (.cons rfl (.tmp 59 (I 2)) .nil)) rfl) (.cons (s_alloc 4 (σ22 3) zero58) (.cons (s_store (cs := [I 0, I 0]) 4 sz58 (.tmp 16 (.ptr (σ22 3) 0)) (.tmp 60 (.agg [I (i : Int), I 2])) rfl rfl rfl (Nat.le_of_ble_eq_true rfl)) .nil))))) ?_)
         refine AC.rq (fun σ23 => RegOK.m1 [10, 13, 14, 16, 51, 52, 55, 63] ⟨[(10, .ptr (σ9 1) 0), (13, .slice ((dk1).map encA) (some sdk1)), (14, I (i : Int)), (16, .ptr (σ22 3) 0), (51, I (f.nodes.length : Int)), (52, I (i : Int)), (55, I 2), (63, .bool (decide (((i : Int), 2) ∈ (keysTo f ws ws.length))))], (.box (σ0 0) (fc f)) :: (Ent.obj (σ9 0) (MapIs (ents (keysTo f ws ws.length)))) :: (.box (σ9 1) [.mp (σ9 0)]) :: .hole :: (.box (σ22 3) [I (i : Int), I 2]) :: (.row sdk1 (dk1.length) 58 2) :: mem⟩ (.cons (s_load1 (cs := [.mp (σ9 0)]) (c := .mp (σ9 0)) 2 tyS109 (.tmp 10 (.ptr (σ9 1) 0)) rfl) (.cons (s_loadA (cs := [I (i : Int), I 2]) (l := [I (i : Int), I 2]) 4 tyA58 (.tmp 16 (.ptr (σ22 3) 0)) rfl rfl) (.cons (s_mapHas (ks := (keysTo f ws ws.length)) (kv := ((i : Int), 2)) 1 Try.underlying109 Try.underlying58 zero4 keyEq58 keyOK58 (.tmp 61 (.mp (σ9 0))) (.tmp 62 (.agg [I (i : Int), I 2]))) .nil))) ?_)
         refine AC.cend (decide (((i : Int), 2) ∈ (keysTo f ws ws.length))) rfl rfl (fun hc => ?_) (fun hc => ?_)
         ·have q14 := iD.1 hc
          refine AC.re (fun σ24 => RegOK.m1 [10, 13, 14, 51, 52, 55] ⟨[(10, .ptr (σ9 1) 0), (13, .slice (((dk1 ++ [((i : Int), 2)])).map encA) (some (σ24 3))), (14, I (i : Int)), (51, I (f.nodes.length : Int)), (52, I (i : Int)), (55, I 2)], (.box (σ0 0) (fc f)) :: (Ent.obj (σ9 0) (MapIs (ents (keysTo f ws ws.length)))) :: (.box (σ9 1) [.mp (σ9 0)]) :: .hole :: (.box (σ22 3) [I (i : Int), I 2]) :: (.row (σ24 3) ((dk1 ++ [((i : Int), 2)]).length) 58 2) :: mem⟩ (.cons (s_move (.tmp 13 (.slice ((dk1).map encA) (some sdk1)))) (.cons (s_loadA (cs := [I (i : Int), I 2]) (l := [I (i : Int), I 2]) 4 tyA58 (.tmp 16 (.ptr (σ22 3) 0)) rfl rfl) (.cons (s_buildSlice' (es := [.agg [I (i : Int), I 2]]) zero58 slc54 rfl rfl (.cons rfl (.tmp 65 (.agg [I (i : Int), I 2])) .nil) rfl rfl) (.cons (s_appendM (l := dk1) (l2 := [((i : Int), 2)]) (f := encA) 5 (σ24 3) slc54 zero58 byt58 rfl (by decide) (.tmp 64 (.slice ((dk1).map encA) (some sdk1))) (.tmp 66 (.slice (([((i : Int), 2)]).map encA) none)) (by simp) (fun _ => rfl) (fun _ => rfl) (by simp only [List.length_cons, List.length_nil]; omega)) (.cons (s_assign (.tmp 67 (.slice (((dk1 ++ [((i : Int), 2)])).map encA) (some (σ24 3))))) .nil))))) ?_)
          refine blockQ_n ?_
          exact thenQ_n ⟨_, ⟨(dk1 ++ [((i : Int), 2)]), (σ24 3), ⟨(by first | (rw [show isDark f ws i 2 = true from (keys_iff g.tree (fun j hj => (hw j hj).1) hil 2).1 (by assumption)]; rfl) | (rw [show isDark f ws i 2 = false from Bool.eq_false_iff.2 (fun h => absurd ((keys_iff g.tree (fun j hj => (hw j hj).1) hil 2).2 h) (by assumption))]; exact (List.append_nil _).symm)), (by first | omega | (simp only [List.length_append, List.length_cons, List.length_nil]; omega))⟩, rfl⟩, Weak.of [4] (by kernel_rfl) (by kernel_rfl)⟩
         ·have q15 := iF iD hc
          refine AC.skip ?_
          refine blockQ_n ?_
          exact thenQ_n ⟨_, ⟨dk1, sdk1, ⟨(by first | (rw [show isDark f ws i 2 = true from (keys_iff g.tree (fun j hj => (hw j hj).1) hil 2).1 (by assumption)]; rfl) | (rw [show isDark f ws i 2 = false from Bool.eq_false_iff.2 (fun h => absurd ((keys_iff g.tree (fun j hj => (hw j hj).1) hil 2).2 h) (by assumption))]; exact (List.append_nil _).symm)), (by first | omega | (simp only [List.length_append, List.length_cons, List.length_nil]; omega))⟩, rfl⟩, Weak.of [4] (by kernel_rfl) (by kernel_rfl)⟩
        ·rintro _ ⟨dk2, sdk2, ⟨Edk2, Hdk2⟩, rfl⟩
         refine AC.re (fun σ25 => RegOK.m1 [10, 13, 14, 51, 52, 55] ⟨[(10, .ptr (σ9 1) 0), (13, .slice ((dk2).map encA) (some sdk2)), (14, I (i : Int)), (51, I (f.nodes.length : Int)), (52, I (i : Int)), (55, I 3)], (.box (σ0 0) (fc f)) :: (Ent.obj (σ9 0) (MapIs (ents (keysTo f ws ws.length)))) :: (.box (σ9 1) [.mp (σ9 0)]) :: .hole :: .hole :: (.row sdk2 (dk2.length) 58 2) :: mem⟩ (.cons (s_add (.tmp 55 (I 2)) (.int .i64 (1)) (inK_i64 (by decide))) (.cons (s_move (.tmp 68 (I 3))) .nil)) ?_)
         refine thenQ_n (ACL.turn ?_)
         refine AC.rq (fun σ20 => RegOK.m1 [10, 13, 14, 51, 52, 55, 56] ⟨[(10, .ptr (σ9 1) 0), (13, .slice ((dk2).map encA) (some sdk2)), (14, I (i : Int)), (51, I (f.nodes.length : Int)), (52, I (i : Int)), (55, I 3), (56, .bool (decide ((3 : Int) < 3)))], (.box (σ0 0) (fc f)) :: (Ent.obj (σ9 0) (MapIs (ents (keysTo f ws ws.length)))) :: (.box (σ9 1) [.mp (σ9 0)]) :: .hole :: .hole :: (.row sdk2 (dk2.length) 58 2) :: mem⟩ (.cons (s_lss (.tmp 55 (I 3)) (.int .i64 (3))) .nil) ?_)
         refine AC.cseq (decide ((3 : Int) < 3)) rfl rfl (fun hc => absurd hc (by simp)) (fun hc => ?_)
         refine AC.exit ?_
         refine thenQ_x ?_
         refine thenQ_x ?_
         refine blockQ_x ?_
         refine blockQ_n ?_
         refine thenQ_n ?_
         refine AC.re (fun σ26 => RegOK.m1 [10, 13, 51, 52] ⟨[(10, .ptr (σ9 1) 0), (13, .slice ((dk2).map encA) (some sdk2)), (51, I (f.nodes.length : Int)), (52, I ((i : Int) + 1))], (.box (σ0 0) (fc f)) :: (Ent.obj (σ9 0) (MapIs (ents (keysTo f ws ws.length)))) :: (.box (σ9 1) [.mp (σ9 0)]) :: .hole :: .hole :: (.row sdk2 (dk2.length) 58 2) :: mem⟩ (.cons (s_add (.tmp 52 (I (i : Int))) (.int .i64 (1)) (inK_i64 (by omega))) (.cons (s_move (.tmp 69 (I ((i : Int) + 1)))) .nil)) ?_)
         refine thenQ_n ⟨_, ?_, _, ⟨(i + 1), dk2, sdk2, rfl, ⟨(by omega), (by rw [Edk2, Edk1, Edk0, hl]; show _ = darkTo f ws i ++ darkAt f ws i; unfold darkAt; simp only [List.append_assoc]), (by omega)⟩, rfl⟩, Weak.of [] (by kernel_rfl) (by kernel_rfl)⟩
         omega
     ·have q16 := iF iD hc
      refine AC.exit ?_
      refine thenQ_x ?_
      refine thenQ_x ?_
      refine blockQ_x ?_
      refine thenQ_n ?_
      refine AC.rq (fun σ27 => RegOK.m1 [4, 5] ⟨[(4, .slice ((l).map encA) (some s)), (5, I 0)], (.box (σ0 0) (fc f)) :: (Ent.obj (σ9 0) (MapIs (ents (keysTo f ws ws.length)))) :: (.box (σ9 1) [.mp (σ9 0)]) :: .hole :: .hole :: (.row s (l.length) 58 2) :: mem⟩ (.cons (s_move (.tmp 13 (.slice ((l).map encA) (some s)))) (.cons (s_assign (.tmp 70 (.slice ((l).map encA) (some s)))) (.cons (s_assign (.int .i64 (0))) .nil))) ?_)
      refine AC.ret ?_
      exact FinQ.ret (result2 rfl (res_free (res_tmp (v := .slice ((l).map encA) (some s)) rfl rfl)) (res_tmp (v := I 0) rfl rfl)) ⟨by (have ei : i = f.nodes.length := by omega); subst ei; rw [darkRes_0 (by unfold darkErr; first | (rw [if_pos (by assumption)]; done) | (rw [if_neg (by assumption)]; first | (rw [if_pos (by assumption)]; done) | (rw [if_neg (by assumption)]; first | (rw [if_pos (by assumption)]; done) | (rw [if_neg (by assumption)]; done)))), hl], rfl⟩
end Go.Proofs.Yteomgedahkpnlaa
end
section
set_option maxRecDepth 100000
namespace Go.Proofs.Yteomgedahkpnlaa
open Go.Proofs
theorem F75 (f : Feeder) (i : Nat) (hok : f.ok) (hi : i < f.cables.length) : Pure Try.prog 75 [Feeder.av f, I (i : Int)] (I (cabE f.cables i)) := by
 intro mem
 have ⟨hc1, hc2, hc3, hc4, hc5, hc6⟩ := hok
 have hx := Feeder.ok.cab hok hi
 unfold Cable.ok at hx
 refine Meets.body 2 Try.func75 rfl rfl ?_
 refine AC.rq (fun σ0 => RegOK.m1 [1, 2] ⟨[(1, I (i : Int)), (2, .ptr (σ0 0) 0)], (.box (σ0 0) (fc f)) :: .hole :: mem⟩ (.cons (s_box 0 (σ0 0) (.tmp 0 (Feeder.av f)) rfl) (.cons (s_assign (.int .i64 (0))) .nil)) ?_)
 refine AC.rq (fun σ1 => RegOK.m1 [1, 2, 5] ⟨[(1, I (i : Int)), (2, .ptr (σ0 0) 0), (5, .ptr (σ1 5) 0)], (.box (σ0 0) (fc f)) :: (.box (σ1 5) (Cable.av (f.cables.getD i default)).cells) :: mem⟩ (.cons (s_fieldAddr fld28_0 (.tmp 2 (.ptr (σ0 0) 0))) (.cons (s_load1 (cs := (fc f)) (c := .slice ((f.cables).map Cable.av) none) 0 tyS22 (.tmp 7 (.ptr (σ0 0) 0)) rfl) (.cons (s_move (.tmp 1 (I (i : Int)))) (.cons (s_ixM (l := f.cables) (f := Cable.av) (default) slc22 (.tmp 8 (.slice ((f.cables).map Cable.av) none)) (.tmp 9 (I (i : Int))) (by omega) rfl) (.cons (s_loadAe (l := (Cable.av (f.cables.getD i default)).cells) tyA71 (.tmp 10 (.eptr (Cable.av (f.cables.getD i default)) 0)) rfl rfl) (.cons (s_alloc 1 (σ1 5) zero71) (.cons (s_store (cs := [.str (⟨#[]⟩), I 0, I 0, I 0, I 0, I 0]) 1 sz71 (.tmp 5 (.ptr (σ1 5) 0)) (.tmp 11 (Cable.av (f.cables.getD i default))) rfl rfl rfl (Nat.le_of_ble_eq_true rfl)) .nil))))))) ?_)
 generalize hgx : (f.cables.getD i default) = x at *
 refine AC.seq ?_
 refine AC.rq (fun σ2 => RegOK.m1 [1, 2, 5, 15] ⟨[(1, I (i : Int)), (2, .ptr (σ0 0) 0), (5, .ptr (σ1 5) 0), (15, .bool ((!nameOK x.name)))], (.box (σ0 0) (fc f)) :: (.box (σ1 5) (Cable.av x).cells) :: mem⟩ (.cons (s_fieldAddr fld71_0 (.tmp 5 (.ptr (σ1 5) 0))) (.cons (s_load1 (cs := (Cable.av x).cells) (c := .str (x.name)) 1 tyS9 (.tmp 12 (.ptr (σ1 5) 0)) rfl) (.cons (s_call (r := .bool (nameOK x.name)) (.func 114) (.cons (.tmp 13 (.str (x.name))) .nil) call114 (F114 (x.name) (by omega))) (.cons (s_not (.tmp 14 (.bool (nameOK x.name)))) .nil)))) ?_)
 refine AC.cend ((!nameOK x.name)) rfl rfl (fun hc => ?_) (fun hc => ?_)
 ·have q1 := (iN iB).1 hc
  refine AC.rq (fun σ3 => RegOK.m1 [4] ⟨[(4, I 6)], (.box (σ0 0) (fc f)) :: (.box (σ1 5) (Cable.av x).cells) :: mem⟩ (.cons (s_assign (.int .i64 (6))) .nil) ?_)
  refine AC.ret ?_
  refine thenQ_r ?_
  exact FinQ.ret (result1 rfl (res_tmp (v := I 6) rfl rfl)) ⟨by subst hgx; refine congrArg I ?_; unfold cabE errOf; rw [if_pos (by assumption)], rfl⟩
 ·have q2 := iF (iN iB) hc
  refine AC.skip ?_
  refine thenQ_n ?_
  refine AC.seq ?_
  refine AC.rq (fun σ4 => RegOK.m1 [1, 2, 5, 6] ⟨[(1, I (i : Int)), (2, .ptr (σ0 0) 0), (5, .ptr (σ1 5) 0), (6, I 0)], (.box (σ0 0) (fc f)) :: (.box (σ1 5) (Cable.av x).cells) :: mem⟩ (.cons (s_assign (.int .i64 (0))) .nil) ?_)
  refine AC.block ?_
  refine AC.loopW (fun mz T => ∃ (k : Nat), mz = i - k ∧ ((k ≤ i) ∧ (∀ j : Nat, j < k → decide ((f.cables.getD j default).name = x.name) = false)) ∧ T = ⟨[(1, I (i : Int)), (2, .ptr (σ0 0) 0), (5, .ptr (σ1 5) 0), (6, I (k : Int))], (.box (σ0 0) (fc f)) :: (.box (σ1 5) (Cable.av x).cells) :: mem⟩) _ ⟨[(1, I (i : Int)), (2, .ptr (σ0 0) 0), (5, .ptr (σ1 5) 0), (6, I ((0) : Int))], (.box (σ0 0) (fc f)) :: (.box (σ1 5) (Cable.av x).cells) :: mem⟩ ⟨0, rfl, ⟨(by omega), (by intro j hj; omega)⟩, rfl⟩ (Weak.of [] (by kernel_rfl) (by kernel_rfl)) ?_ Fr.plain
  rintro _ _ ⟨k, rfl, ⟨hk, hn⟩, rfl⟩
  refine AC.seq ?_
  refine AC.rq (fun σ5 => RegOK.m1 [1, 2, 5, 6, 18] ⟨[(1, I (i : Int)), (2, .ptr (σ0 0) 0), (5, .ptr (σ1 5) 0), (6, I (k : Int)), (18, .bool (decide ((k : Int) < (i : Int))))], (.box (σ0 0) (fc f)) :: (.box (σ1 5) (Cable.av x).cells) :: mem⟩ (.cons (s_move (.tmp 6 (I (k : Int)))) (.cons (s_move (.tmp 1 (I (i : Int)))) (.cons (s_lss (.tmp 16 (I (k : Int))) (.tmp 17 (I (i : Int)))) .nil))) ?_)
  refine AC.cend (decide ((k : Int) < (i : Int))) rfl rfl (fun hc => ?_) (fun hc => ?_)
  ·have q3 := iD.1 hc
   refine AC.skip ?_
   refine thenQ_n ?_
   refine AC.bseq ?_
   refine AC.rq (fun σ7 => RegOK.m1 [1, 2, 5, 6, 29] ⟨[(1, I (i : Int)), (2, .ptr (σ0 0) 0), (5, .ptr (σ1 5) 0), (6, I (k : Int)), (29, .bool (decide ((f.cables.getD k default).name = x.name)))], (.box (σ0 0) (fc f)) :: (.box (σ1 5) (Cable.av x).cells) :: mem⟩ (.cons (s_fieldAddr fld28_0 (.tmp 2 (.ptr (σ0 0) 0))) (.cons (s_load1 (cs := (fc f)) (c := .slice ((f.cables).map Cable.av) none) 0 tyS22 (.tmp 21 (.ptr (σ0 0) 0)) rfl) (.cons (s_move (.tmp 6 (I (k : Int)))) (.cons (s_ixM (l := f.cables) (f := Cable.av) (default) slc22 (.tmp 22 (.slice ((f.cables).map Cable.av) none)) (.tmp 23 (I (k : Int))) (by omega) rfl) (.cons (s_fieldAddre fld71_0 (.tmp 24 (.eptr (Cable.av (f.cables.getD k default)) 0))) (.cons (s_load1e (c := .str ((f.cables.getD k default).name)) tyS9 (.tmp 25 (.eptr (Cable.av (f.cables.getD k default)) 0)) rfl) (.cons (s_fieldAddr fld71_0 (.tmp 5 (.ptr (σ1 5) 0))) (.cons (s_load1 (cs := (Cable.av x).cells) (c := .str (x.name)) 1 tyS9 (.tmp 27 (.ptr (σ1 5) 0)) rfl) (.cons (s_bytes_eql (.tmp 26 (.str ((f.cables.getD k default).name))) (.tmp 28 (.str (x.name)))) .nil))))))))) ?_)
   refine AC.cend (decide ((f.cables.getD k default).name = x.name)) rfl rfl (fun hc => ?_) (fun hc => ?_)
   ·have q4 := iD.1 hc
    refine AC.rq (fun σ8 => RegOK.m1 [4] ⟨[(4, I 5)], (.box (σ0 0) (fc f)) :: (.box (σ1 5) (Cable.av x).cells) :: mem⟩ (.cons (s_assign (.int .i64 (5))) .nil) ?_)
    refine AC.ret ?_
    refine blockQ_r ?_
    refine thenQ_r ?_
    refine thenQ_r ?_
    refine blockQ_r ?_
    refine thenQ_r ?_
    exact FinQ.ret (result1 rfl (res_tmp (v := I 5) rfl rfl)) ⟨by subst hgx; refine congrArg I ?_; unfold cabE errOf; (have h0 := take_any_of (l := f.cables) (p := fun y => decide (y.name = (List.getD f.cables i default).name)) default (i := i) (j := k) (by omega) (by omega) hc; rw [if_neg (by assumption), if_pos h0]), rfl⟩
   ·have q5 := iF iD hc
    refine AC.skip ?_
    refine blockQ_n ?_
    refine thenQ_n ?_
    refine AC.re (fun σ6 => RegOK.m1 [1, 2, 5, 6] ⟨[(1, I (i : Int)), (2, .ptr (σ0 0) 0), (5, .ptr (σ1 5) 0), (6, I ((k : Int) + 1))], (.box (σ0 0) (fc f)) :: (.box (σ1 5) (Cable.av x).cells) :: mem⟩ (.cons (s_move (.tmp 6 (I (k : Int)))) (.cons (s_add (.tmp 19 (I (k : Int))) (.int .i64 (1)) (inK_i64 (by omega))) (.cons (s_assign (.tmp 20 (I ((k : Int) + 1)))) .nil))) ?_)
    refine thenQ_n ⟨_, ?_, _, ⟨(k + 1), rfl, ⟨(by omega), (by intro j hj; rcases Decidable.em (j = k) with h | h; (subst h; exact hc); exact hn j (by omega))⟩, rfl⟩, Weak.of [] (by kernel_rfl) (by kernel_rfl)⟩
    omega
  ·have q6 := iF iD hc
   refine AC.exit ?_
   refine thenQ_x ?_
   refine thenQ_x ?_
   refine blockQ_x ?_
   refine thenQ_n ?_
   refine AC.seq ?_
   refine AC.rq (fun σ9 => RegOK.m1 [45] ⟨[(45, .bool ((((!(wiB (x.coreLo) (x.coreHi) 1 1000000)) || (!(wiB (x.earthLo) (x.earthHi) 1 1000000))) || (!(inB (x.rated) 1 100000000)))))], (.box (σ0 0) (fc f)) :: (.box (σ1 5) (Cable.av x).cells) :: mem⟩ (.cons (s_fieldAddr fld71_1 (.tmp 5 (.ptr (σ1 5) 0))) (.cons (s_loadA (cs := (Cable.av x).cells) (l := [I (x.coreLo), I (x.coreHi)]) 1 tyA26 (.tmp 30 (.ptr (σ1 5) 1)) rfl rfl) (.cons (s_call (r := .bool ((wiB (x.coreLo) (x.coreHi) 1 1000000))) (.func 73) (.cons (.tmp 31 (.agg [I (x.coreLo), I (x.coreHi)])) (.cons (.int .i64 (1)) (.cons (.int .i64 (1000000)) .nil))) call73 (F73 (x.coreLo) (x.coreHi) (1) (1000000))) (.cons (s_not (.tmp 32 (.bool ((wiB (x.coreLo) (x.coreHi) 1 1000000))))) (.cons (s_move (.tmp 33 (.bool ((!(wiB (x.coreLo) (x.coreHi) 1 1000000)))))) (.cons (Step.guard _ rfl (.bool ((!(wiB (x.coreLo) (x.coreHi) 1 1000000)))) gF (fun hb => s_fieldAddr fld71_2 (.tmp 5 (.ptr (σ1 5) 0)))) (.cons (Step.guard _ rfl (.bool ((!(wiB (x.coreLo) (x.coreHi) 1 1000000)))) gF (fun hb => s_loadA (cs := (Cable.av x).cells) (l := [I (x.earthLo), I (x.earthHi)]) 1 tyA26 (.tmpC hb 35 (.ptr (σ1 5) 3)) rfl rfl)) (.cons (Step.guard _ rfl (.bool ((!(wiB (x.coreLo) (x.coreHi) 1 1000000)))) gF (fun hb => s_call (r := .bool ((wiB (x.earthLo) (x.earthHi) 1 1000000))) (.func 73) (.cons (.tmpC hb 36 (.agg [I (x.earthLo), I (x.earthHi)])) (.cons (.int .i64 (1)) (.cons (.int .i64 (1000000)) .nil))) call73 (F73 (x.earthLo) (x.earthHi) (1) (1000000)))) (.cons (Step.guard _ rfl (.bool ((!(wiB (x.coreLo) (x.coreHi) 1 1000000)))) gF (fun hb => s_not (.tmpC hb 37 (.bool ((wiB (x.earthLo) (x.earthHi) 1 1000000)))))) (.cons (s_or' (e := (!(!(wiB (x.coreLo) (x.coreHi) 1 1000000)))) (q := (!(wiB (x.earthLo) (x.earthHi) 1 1000000))) (fun h => (notMk h)) (.tmp 34 (.bool ((!(wiB (x.coreLo) (x.coreHi) 1 1000000)))))) (.cons (s_move (.tmp 39 (.bool (((!(wiB (x.coreLo) (x.coreHi) 1 1000000)) || (!(wiB (x.earthLo) (x.earthHi) 1 1000000))))))) (.cons (Step.guard _ rfl (.bool (((!(wiB (x.coreLo) (x.coreHi) 1 1000000)) || (!(wiB (x.earthLo) (x.earthHi) 1 1000000))))) gF (fun hb => s_fieldAddr fld71_3 (.tmp 5 (.ptr (σ1 5) 0)))) (.cons (Step.guard _ rfl (.bool (((!(wiB (x.coreLo) (x.coreHi) 1 1000000)) || (!(wiB (x.earthLo) (x.earthHi) 1 1000000))))) gF (fun hb => s_load1 (cs := (Cable.av x).cells) (c := I (x.rated)) 1 tyS3 (.tmpC hb 41 (.ptr (σ1 5) 5)) rfl)) (.cons (Step.guard _ rfl (.bool (((!(wiB (x.coreLo) (x.coreHi) 1 1000000)) || (!(wiB (x.earthLo) (x.earthHi) 1 1000000))))) gF (fun hb => s_call (r := .bool ((inB (x.rated) 1 100000000))) (.func 74) (.cons (.tmpC hb 42 (I (x.rated))) (.cons (.int .i64 (1)) (.cons (.int .i64 (100000000)) .nil))) call74 (F74 (x.rated) (1) (100000000)))) (.cons (Step.guard _ rfl (.bool (((!(wiB (x.coreLo) (x.coreHi) 1 1000000)) || (!(wiB (x.earthLo) (x.earthHi) 1 1000000))))) gF (fun hb => s_not (.tmpC hb 43 (.bool ((inB (x.rated) 1 100000000)))))) (.cons (s_or' (e := (!((!(wiB (x.coreLo) (x.coreHi) 1 1000000)) || (!(wiB (x.earthLo) (x.earthHi) 1 1000000))))) (q := (!(inB (x.rated) 1 100000000))) (fun h => (notMk h)) (.tmp 40 (.bool (((!(wiB (x.coreLo) (x.coreHi) 1 1000000)) || (!(wiB (x.earthLo) (x.earthHi) 1 1000000))))))) .nil)))))))))))))))) ?_)
   refine AC.cend ((((!(wiB (x.coreLo) (x.coreHi) 1 1000000)) || (!(wiB (x.earthLo) (x.earthHi) 1 1000000))) || (!(inB (x.rated) 1 100000000)))) rfl rfl (fun hc => ?_) (fun hc => ?_)
   ·have q7 := (iO (iO (iN wiB_i) (iN wiB_i)) (iN inB_i)).1 hc
    refine AC.rq (fun σ10 => RegOK.m1 [4] ⟨[(4, I 7)], (.box (σ0 0) (fc f)) :: (.box (σ1 5) (Cable.av x).cells) :: mem⟩ (.cons (s_assign (.int .i64 (7))) .nil) ?_)
    refine AC.ret ?_
    refine thenQ_r ?_
    exact FinQ.ret (result1 rfl (res_tmp (v := I 7) rfl rfl)) ⟨by subst hgx; refine congrArg I ?_; unfold cabE errOf; (have h0 := take_any_not (l := f.cables) (p := fun y => decide (y.name = (List.getD f.cables i default).name)) default (i := i) (fun j hj => hn j (by omega)); rw [if_neg (by first | assumption | grind), if_neg (by rw [h0]; simp)]; unfold cableErr; (repeat' split) <;> first | rfl | (exfalso; omega)), rfl⟩
   ·have q8 := iF (iO (iO (iN wiB_i) (iN wiB_i)) (iN inB_i)) hc
    refine AC.skip ?_
    refine thenQ_n ?_
    refine AC.rq (fun σ11 => RegOK.m1 [4] ⟨[(4, I 0)], (.box (σ0 0) (fc f)) :: (.box (σ1 5) (Cable.av x).cells) :: mem⟩ (.cons (s_assign (.int .i64 (0))) .nil) ?_)
    refine AC.ret ?_
    exact FinQ.ret (result1 rfl (res_tmp (v := I 0) rfl rfl)) ⟨by subst hgx; refine congrArg I ?_; unfold cabE errOf; (have h0 := take_any_not (l := f.cables) (p := fun y => decide (y.name = (List.getD f.cables i default).name)) default (i := i) (fun j hj => hn j (by omega)); rw [if_neg (by first | assumption | grind), if_neg (by rw [h0]; simp)]; unfold cableErr; (repeat' split) <;> first | rfl | (exfalso; omega)), rfl⟩
theorem F76 (f : Feeder) (i : Nat) (hok : f.ok) (hi : i < f.fuses.length) : Pure Try.prog 76 [Feeder.av f, I (i : Int)] (I (fusE f.fuses i)) := by
 intro mem
 have ⟨hc1, hc2, hc3, hc4, hc5, hc6⟩ := hok
 have hx := Feeder.ok.fus hok hi
 have ⟨hx1, hx2⟩ := hx
 refine Meets.body 4 Try.func76 rfl rfl ?_
 refine AC.rq (fun σ0 => RegOK.m1 [1, 2] ⟨[(1, I (i : Int)), (2, .ptr (σ0 0) 0)], (.box (σ0 0) (fc f)) :: .hole :: .hole :: .hole :: mem⟩ (.cons (s_box 0 (σ0 0) (.tmp 0 (Feeder.av f)) rfl) (.cons (s_assign (.int .i64 (0))) .nil)) ?_)
 refine AC.rq (fun σ1 => RegOK.m1 [1, 2, 5] ⟨[(1, I (i : Int)), (2, .ptr (σ0 0) 0), (5, .ptr (σ1 5) 0)], (.box (σ0 0) (fc f)) :: (.box (σ1 5) (Fuse.av (f.fuses.getD i default)).cells) :: .hole :: .hole :: mem⟩ (.cons (s_fieldAddr fld28_1 (.tmp 2 (.ptr (σ0 0) 0))) (.cons (s_load1 (cs := (fc f)) (c := .slice ((f.fuses).map Fuse.av) none) 0 tyS23 (.tmp 12 (.ptr (σ0 0) 1)) rfl) (.cons (s_move (.tmp 1 (I (i : Int)))) (.cons (s_ixM (l := f.fuses) (f := Fuse.av) (default) slc23 (.tmp 13 (.slice ((f.fuses).map Fuse.av) none)) (.tmp 14 (I (i : Int))) (by omega) rfl) (.cons (s_loadAe (l := (Fuse.av (f.fuses.getD i default)).cells) tyA94 (.tmp 15 (.eptr (Fuse.av (f.fuses.getD i default)) 0)) rfl rfl) (.cons (s_alloc 1 (σ1 5) zero94) (.cons (s_store (cs := [.str (⟨#[]⟩), I 0, .nils]) 1 sz94 (.tmp 5 (.ptr (σ1 5) 0)) (.tmp 16 (Fuse.av (f.fuses.getD i default))) rfl rfl rfl (Nat.le_of_ble_eq_true rfl)) .nil))))))) ?_)
 generalize hgx : (f.fuses.getD i default) = x at *
 refine AC.seq ?_
 refine AC.rq (fun σ2 => RegOK.m1 [1, 2, 5, 20] ⟨[(1, I (i : Int)), (2, .ptr (σ0 0) 0), (5, .ptr (σ1 5) 0), (20, .bool ((!nameOK x.name)))], (.box (σ0 0) (fc f)) :: (.box (σ1 5) (Fuse.av x).cells) :: .hole :: .hole :: mem⟩ (.cons (s_fieldAddr fld94_0 (.tmp 5 (.ptr (σ1 5) 0))) (.cons (s_load1 (cs := (Fuse.av x).cells) (c := .str (x.name)) 1 tyS9 (.tmp 17 (.ptr (σ1 5) 0)) rfl) (.cons (s_call (r := .bool (nameOK x.name)) (.func 114) (.cons (.tmp 18 (.str (x.name))) .nil) call114 (F114 (x.name) (by omega))) (.cons (s_not (.tmp 19 (.bool (nameOK x.name)))) .nil)))) ?_)
 refine AC.cend ((!nameOK x.name)) rfl rfl (fun hc => ?_) (fun hc => ?_)
 ·have q1 := (iN iB).1 hc
  refine AC.rq (fun σ3 => RegOK.m1 [4] ⟨[(4, I 6)], (.box (σ0 0) (fc f)) :: (.box (σ1 5) (Fuse.av x).cells) :: .hole :: .hole :: mem⟩ (.cons (s_assign (.int .i64 (6))) .nil) ?_)
  refine AC.ret ?_
  refine thenQ_r ?_
  exact FinQ.ret (result1 rfl (res_tmp (v := I 6) rfl rfl)) ⟨by subst hgx; refine congrArg I ?_; unfold fusE errOf; rw [if_pos (by assumption)], rfl⟩
 ·have q2 := iF (iN iB) hc
  refine AC.skip ?_
  refine thenQ_n ?_
  refine AC.seq ?_
  refine AC.rq (fun σ4 => RegOK.m1 [1, 2, 5, 6] ⟨[(1, I (i : Int)), (2, .ptr (σ0 0) 0), (5, .ptr (σ1 5) 0), (6, I 0)], (.box (σ0 0) (fc f)) :: (.box (σ1 5) (Fuse.av x).cells) :: .hole :: .hole :: mem⟩ (.cons (s_assign (.int .i64 (0))) .nil) ?_)
  refine AC.block ?_
  refine AC.loopW (fun mz T => ∃ (k : Nat), mz = i - k ∧ ((k ≤ i) ∧ (∀ j : Nat, j < k → decide ((f.fuses.getD j default).name = x.name) = false)) ∧ T = ⟨[(1, I (i : Int)), (2, .ptr (σ0 0) 0), (5, .ptr (σ1 5) 0), (6, I (k : Int))], (.box (σ0 0) (fc f)) :: (.box (σ1 5) (Fuse.av x).cells) :: .hole :: .hole :: mem⟩) _ ⟨[(1, I (i : Int)), (2, .ptr (σ0 0) 0), (5, .ptr (σ1 5) 0), (6, I ((0) : Int))], (.box (σ0 0) (fc f)) :: (.box (σ1 5) (Fuse.av x).cells) :: .hole :: .hole :: mem⟩ ⟨0, rfl, ⟨(by omega), (by intro j hj; omega)⟩, rfl⟩ (Weak.of [] (by kernel_rfl) (by kernel_rfl)) ?_ Fr.plain
  rintro _ _ ⟨k, rfl, ⟨hk, hn⟩, rfl⟩
  refine AC.seq ?_
  refine AC.rq (fun σ5 => RegOK.m1 [1, 2, 5, 6, 23] ⟨[(1, I (i : Int)), (2, .ptr (σ0 0) 0), (5, .ptr (σ1 5) 0), (6, I (k : Int)), (23, .bool (decide ((k : Int) < (i : Int))))], (.box (σ0 0) (fc f)) :: (.box (σ1 5) (Fuse.av x).cells) :: .hole :: .hole :: mem⟩ (.cons (s_move (.tmp 6 (I (k : Int)))) (.cons (s_move (.tmp 1 (I (i : Int)))) (.cons (s_lss (.tmp 21 (I (k : Int))) (.tmp 22 (I (i : Int)))) .nil))) ?_)
  refine AC.cend (decide ((k : Int) < (i : Int))) rfl rfl (fun hc => ?_) (fun hc => ?_)
  ·have q3 := iD.1 hc
   refine AC.skip ?_
   refine thenQ_n ?_
   refine AC.bseq ?_
   refine AC.rq (fun σ7 => RegOK.m1 [1, 2, 5, 6, 34] ⟨[(1, I (i : Int)), (2, .ptr (σ0 0) 0), (5, .ptr (σ1 5) 0), (6, I (k : Int)), (34, .bool (decide ((f.fuses.getD k default).name = x.name)))], (.box (σ0 0) (fc f)) :: (.box (σ1 5) (Fuse.av x).cells) :: .hole :: .hole :: mem⟩ (.cons (s_fieldAddr fld28_1 (.tmp 2 (.ptr (σ0 0) 0))) (.cons (s_load1 (cs := (fc f)) (c := .slice ((f.fuses).map Fuse.av) none) 0 tyS23 (.tmp 26 (.ptr (σ0 0) 1)) rfl) (.cons (s_move (.tmp 6 (I (k : Int)))) (.cons (s_ixM (l := f.fuses) (f := Fuse.av) (default) slc23 (.tmp 27 (.slice ((f.fuses).map Fuse.av) none)) (.tmp 28 (I (k : Int))) (by omega) rfl) (.cons (s_fieldAddre fld94_0 (.tmp 29 (.eptr (Fuse.av (f.fuses.getD k default)) 0))) (.cons (s_load1e (c := .str ((f.fuses.getD k default).name)) tyS9 (.tmp 30 (.eptr (Fuse.av (f.fuses.getD k default)) 0)) rfl) (.cons (s_fieldAddr fld94_0 (.tmp 5 (.ptr (σ1 5) 0))) (.cons (s_load1 (cs := (Fuse.av x).cells) (c := .str (x.name)) 1 tyS9 (.tmp 32 (.ptr (σ1 5) 0)) rfl) (.cons (s_bytes_eql (.tmp 31 (.str ((f.fuses.getD k default).name))) (.tmp 33 (.str (x.name)))) .nil))))))))) ?_)
   refine AC.cend (decide ((f.fuses.getD k default).name = x.name)) rfl rfl (fun hc => ?_) (fun hc => ?_)
   ·have q4 := iD.1 hc
    refine AC.rq (fun σ8 => RegOK.m1 [4] ⟨[(4, I 5)], (.box (σ0 0) (fc f)) :: (.box (σ1 5) (Fuse.av x).cells) :: .hole :: .hole :: mem⟩ (.cons (s_assign (.int .i64 (5))) .nil) ?_)
    refine AC.ret ?_
    refine blockQ_r ?_
    refine thenQ_r ?_
    refine thenQ_r ?_
    refine blockQ_r ?_
    refine thenQ_r ?_
    exact FinQ.ret (result1 rfl (res_tmp (v := I 5) rfl rfl)) ⟨by subst hgx; refine congrArg I ?_; unfold fusE errOf; (have h0 := take_any_of (l := f.fuses) (p := fun y => decide (y.name = (List.getD f.fuses i default).name)) default (i := i) (j := k) (by omega) (by omega) hc; rw [if_neg (by assumption), if_pos h0]), rfl⟩
   ·have q5 := iF iD hc
    refine AC.skip ?_
    refine blockQ_n ?_
    refine thenQ_n ?_
    refine AC.re (fun σ6 => RegOK.m1 [1, 2, 5, 6] ⟨[(1, I (i : Int)), (2, .ptr (σ0 0) 0), (5, .ptr (σ1 5) 0), (6, I ((k : Int) + 1))], (.box (σ0 0) (fc f)) :: (.box (σ1 5) (Fuse.av x).cells) :: .hole :: .hole :: mem⟩ (.cons (s_move (.tmp 6 (I (k : Int)))) (.cons (s_add (.tmp 24 (I (k : Int))) (.int .i64 (1)) (inK_i64 (by omega))) (.cons (s_assign (.tmp 25 (I ((k : Int) + 1)))) .nil))) ?_)
    refine thenQ_n ⟨_, ?_, _, ⟨(k + 1), rfl, ⟨(by omega), (by intro j hj; rcases Decidable.em (j = k) with h | h; (subst h; exact hc); exact hn j (by omega))⟩, rfl⟩, Weak.of [] (by kernel_rfl) (by kernel_rfl)⟩
    omega
  ·have q6 := iF iD hc
   refine AC.exit ?_
   refine thenQ_x ?_
   refine thenQ_x ?_
   refine blockQ_x ?_
   refine thenQ_n ?_
   refine AC.seq ?_
   refine AC.rq (fun σ9 => RegOK.m1 [5, 39] ⟨[(5, .ptr (σ1 5) 0), (39, .bool ((!(inB (x.points.length : Int) 1 8))))], (.box (σ0 0) (fc f)) :: (.box (σ1 5) (Fuse.av x).cells) :: .hole :: .hole :: mem⟩ (.cons (s_fieldAddr fld94_2 (.tmp 5 (.ptr (σ1 5) 0))) (.cons (s_load1 (cs := (Fuse.av x).cells) (c := .slice ((x.points).map Point.av) none) 1 tyS92 (.tmp 35 (.ptr (σ1 5) 2)) rfl) (.cons (s_lenM (l := x.points) slc92 (.tmp 36 (.slice ((x.points).map Point.av) none))) (.cons (s_call (r := .bool ((inB (x.points.length : Int) 1 8))) (.func 74) (.cons (.tmp 37 (I (x.points.length : Int))) (.cons (.int .i64 (1)) (.cons (.int .i64 (8)) .nil))) call74 (F74 ((x.points.length : Int)) (1) (8))) (.cons (s_not (.tmp 38 (.bool ((inB (x.points.length : Int) 1 8))))) .nil))))) ?_)
   refine AC.cend ((!(inB (x.points.length : Int) 1 8))) rfl rfl (fun hc => ?_) (fun hc => ?_)
   ·have q7 := (iN inB_i).1 hc
    refine AC.rq (fun σ10 => RegOK.m1 [4] ⟨[(4, I 3)], (.box (σ0 0) (fc f)) :: (.box (σ1 5) (Fuse.av x).cells) :: .hole :: .hole :: mem⟩ (.cons (s_assign (.int .i64 (3))) .nil) ?_)
    refine AC.ret ?_
    refine thenQ_r ?_
    exact FinQ.ret (result1 rfl (res_tmp (v := I 3) rfl rfl)) ⟨by subst hgx; refine congrArg I ?_; unfold fusE errOf; (have h0 := take_any_not (l := f.fuses) (p := fun y => decide (y.name = (List.getD f.fuses i default).name)) default (i := i) (fun j hj => hn j (by omega)); rw [if_neg (by first | assumption | grind), if_neg (by rw [h0]; simp)]; unfold fuseErr; first | (rw [if_pos (by omega)]) | (rw [if_neg (by omega), if_pos (by rcases Decidable.em ((List.getD f.fuses i default).points.any wildP = true) with e | e; exact .inr e; exact .inl (fun hr => hgn ⟨hr, wild_none e⟩))]) | (rw [if_neg (by omega), if_neg (fun h => by rcases h with h | h; exact h hgy.1; (rw [wild_any hgy.2] at h; cases h))]; first | (have h8 := badPs_of (l := (List.getD f.fuses i default).points) (j := ((n : Int) - 1).toNat) (by omega) (by rw [show ((n : Int) - 1).toNat + 1 = n from by omega]; exact hc); rw [if_pos h8]) | (have h8 := badPs_not (l := (List.getD f.fuses i default).points) (fun j hj => hb j (by omega)); rw [h8]; rfl))), rfl⟩
   ·have q8 := iF (iN inB_i) hc
    refine AC.skip ?_
    refine thenQ_n ?_
    refine AC.rq (fun σ11 => RegOK.m1 [5, 7] ⟨[(5, .ptr (σ1 5) 0), (7, .bool ((inB (x.rated) 1 100000000)))], (.box (σ0 0) (fc f)) :: (.box (σ1 5) (Fuse.av x).cells) :: .hole :: .hole :: mem⟩ (.cons (s_fieldAddr fld94_1 (.tmp 5 (.ptr (σ1 5) 0))) (.cons (s_load1 (cs := (Fuse.av x).cells) (c := I (x.rated)) 1 tyS3 (.tmp 40 (.ptr (σ1 5) 1)) rfl) (.cons (s_call (r := .bool ((inB (x.rated) 1 100000000))) (.func 74) (.cons (.tmp 41 (I (x.rated))) (.cons (.int .i64 (1)) (.cons (.int .i64 (100000000)) .nil))) call74 (F74 (x.rated) (1) (100000000))) (.cons (s_assign (.tmp 42 (.bool ((inB (x.rated) 1 100000000))))) .nil)))) ?_)
    refine AC.seq ?_
    refine AC.rq (fun σ12 => RegOK.m1 [5, 7, 8] ⟨[(5, .ptr (σ1 5) 0), (7, .bool ((inB (x.rated) 1 100000000))), (8, I 0)], (.box (σ0 0) (fc f)) :: (.box (σ1 5) (Fuse.av x).cells) :: .hole :: .hole :: mem⟩ (.cons (s_assign (.int .i64 (0))) .nil) ?_)
    refine AC.block ?_
    refine AC.loopW (fun mz T => ∃ (m : Nat), ∃ (g : Bool), mz = x.points.length - m ∧ ((m ≤ x.points.length) ∧ (g = true ↔ (1 ≤ x.rated ∧ x.rated ≤ 100000000) ∧ ∀ j : Nat, j < m → wildP (x.points.getD j default) = false)) ∧ T = ⟨[(5, .ptr (σ1 5) 0), (7, .bool (g)), (8, I (m : Int))], (.box (σ0 0) (fc f)) :: (.box (σ1 5) (Fuse.av x).cells) :: .hole :: .hole :: mem⟩) _ ⟨[(5, .ptr (σ1 5) 0), (7, .bool (((decide (1 ≤ x.rated) && decide (x.rated ≤ 100000000))))), (8, I ((0) : Int))], (.box (σ0 0) (fc f)) :: (.box (σ1 5) (Fuse.av x).cells) :: .hole :: .hole :: mem⟩ ⟨0, (decide (1 ≤ x.rated) && decide (x.rated ≤ 100000000)), rfl, ⟨(by omega), (by simp only [Bool.and_eq_true, decide_eq_true_eq]; exact ⟨fun h => ⟨h, fun j hj => by omega⟩, fun h => h.1⟩)⟩, rfl⟩ (Weak.of [] (by kernel_rfl) (by kernel_rfl)) ?_ Fr.plain
    rintro _ _ ⟨m, g, rfl, ⟨hm, hg⟩, rfl⟩
    refine AC.seq ?_
    refine AC.rq (fun σ13 => RegOK.m1 [5, 7, 8, 47] ⟨[(5, .ptr (σ1 5) 0), (7, .bool (g)), (8, I (m : Int)), (47, .bool (decide ((m : Int) < (x.points.length : Int))))], (.box (σ0 0) (fc f)) :: (.box (σ1 5) (Fuse.av x).cells) :: .hole :: .hole :: mem⟩ (.cons (s_move (.tmp 8 (I (m : Int)))) (.cons (s_fieldAddr fld94_2 (.tmp 5 (.ptr (σ1 5) 0))) (.cons (s_load1 (cs := (Fuse.av x).cells) (c := .slice ((x.points).map Point.av) none) 1 tyS92 (.tmp 44 (.ptr (σ1 5) 2)) rfl) (.cons (s_lenM (l := x.points) slc92 (.tmp 45 (.slice ((x.points).map Point.av) none))) (.cons (s_lss (.tmp 43 (I (m : Int))) (.tmp 46 (I (x.points.length : Int)))) .nil))))) ?_)
    refine AC.cend (decide ((m : Int) < (x.points.length : Int))) rfl rfl (fun hc => ?_) (fun hc => ?_)
    ·have q9 := iD.1 hc
     refine AC.skip ?_
     refine thenQ_n ?_
     refine AC.bseq ?_
     refine AC.re (fun σ15 => RegOK.m1 [5, 7, 8] ⟨[(5, .ptr (σ1 5) 0), (7, .bool (((g && (inB ((x.points.getD m default).cur) 1 100000000)) && (wiB ((x.points.getD m default).lo) ((x.points.getD m default).hi) 1 100000000)))), (8, I (m : Int))], (.box (σ0 0) (fc f)) :: (.box (σ1 5) (Fuse.av x).cells) :: .hole :: .hole :: mem⟩ (.cons (s_move (.tmp 7 (.bool (g)))) (.cons (s_move (.tmp 50 (.bool (g)))) (.cons (Step.guard _ rfl (.bool (g)) gT (fun hb => s_fieldAddr fld94_2 (.tmp 5 (.ptr (σ1 5) 0)))) (.cons (Step.guard _ rfl (.bool (g)) gT (fun hb => s_load1 (cs := (Fuse.av x).cells) (c := .slice ((x.points).map Point.av) none) 1 tyS92 (.tmpC hb 52 (.ptr (σ1 5) 2)) rfl)) (.cons (Step.guard _ rfl (.bool (g)) gT (fun hb => s_move (.tmp 8 (I (m : Int))))) (.cons (Step.guard _ rfl (.bool (g)) gT (fun hb => s_ixM (l := x.points) (f := Point.av) (default) slc92 (.tmpC hb 53 (.slice ((x.points).map Point.av) none)) (.tmpC hb 54 (I (m : Int))) (by have hq := iB.1 hb; omega) rfl)) (.cons (Step.guard _ rfl (.bool (g)) gT (fun hb => s_fieldAddre fld141_0 (.tmpC hb 55 (.eptr (Point.av (x.points.getD m default)) 0)))) (.cons (Step.guard _ rfl (.bool (g)) gT (fun hb => s_load1e (c := I ((x.points.getD m default).cur)) tyS3 (.tmpC hb 56 (.eptr (Point.av (x.points.getD m default)) 0)) rfl)) (.cons (Step.guard _ rfl (.bool (g)) gT (fun hb => s_call (r := .bool ((inB ((x.points.getD m default).cur) 1 100000000))) (.func 74) (.cons (.tmpC hb 57 (I ((x.points.getD m default).cur))) (.cons (.int .i64 (1)) (.cons (.int .i64 (100000000)) .nil))) call74 (F74 ((x.points.getD m default).cur) (1) (100000000)))) (.cons (s_and' (q := (inB ((x.points.getD m default).cur) 1 100000000)) (fun h => h) (.tmp 51 (.bool (g)))) (.cons (s_move (.tmp 59 (.bool ((g && (inB ((x.points.getD m default).cur) 1 100000000)))))) (.cons (Step.guard _ rfl (.bool ((g && (inB ((x.points.getD m default).cur) 1 100000000)))) gT (fun hb => s_fieldAddr fld94_2 (.tmp 5 (.ptr (σ1 5) 0)))) (.cons (Step.guard _ rfl (.bool ((g && (inB ((x.points.getD m default).cur) 1 100000000)))) gT (fun hb => s_load1 (cs := (Fuse.av x).cells) (c := .slice ((x.points).map Point.av) none) 1 tyS92 (.tmpC hb 61 (.ptr (σ1 5) 2)) rfl)) (.cons (Step.guard _ rfl (.bool ((g && (inB ((x.points.getD m default).cur) 1 100000000)))) gT (fun hb => s_move (.tmp 8 (I (m : Int))))) (.cons (Step.guard _ rfl (.bool ((g && (inB ((x.points.getD m default).cur) 1 100000000)))) gT (fun hb => s_ixM (l := x.points) (f := Point.av) (default) slc92 (.tmpC hb 62 (.slice ((x.points).map Point.av) none)) (.tmpC hb 63 (I (m : Int))) (by have hq := (iA iB inB_i).1 hb; omega) rfl)) (.cons (Step.guard _ rfl (.bool ((g && (inB ((x.points.getD m default).cur) 1 100000000)))) gT (fun hb => s_fieldAddre fld141_1 (.tmpC hb 64 (.eptr (Point.av (x.points.getD m default)) 0)))) (.cons (Step.guard _ rfl (.bool ((g && (inB ((x.points.getD m default).cur) 1 100000000)))) gT (fun hb => s_loadAe (l := [I ((x.points.getD m default).lo), I ((x.points.getD m default).hi)]) tyA26 (.tmpC hb 65 (.eptr (Point.av (x.points.getD m default)) 1)) rfl rfl)) (.cons (Step.guard _ rfl (.bool ((g && (inB ((x.points.getD m default).cur) 1 100000000)))) gT (fun hb => s_call (r := .bool ((wiB ((x.points.getD m default).lo) ((x.points.getD m default).hi) 1 100000000))) (.func 73) (.cons (.tmpC hb 66 (.agg [I ((x.points.getD m default).lo), I ((x.points.getD m default).hi)])) (.cons (.int .i64 (1)) (.cons (.int .i64 (100000000)) .nil))) call73 (F73 ((x.points.getD m default).lo) ((x.points.getD m default).hi) (1) (100000000)))) (.cons (s_and' (q := (wiB ((x.points.getD m default).lo) ((x.points.getD m default).hi) 1 100000000)) (fun h => h) (.tmp 60 (.bool ((g && (inB ((x.points.getD m default).cur) 1 100000000)))))) (.cons (s_assign (.tmp 68 (.bool (((g && (inB ((x.points.getD m default).cur) 1 100000000)) && (wiB ((x.points.getD m default).lo) ((x.points.getD m default).hi) 1 100000000)))))) .nil)))))))))))))))))))) ?_)
     refine blockQ_n ?_
     refine thenQ_n ?_
     refine AC.re (fun σ14 => RegOK.m1 [5, 7, 8] ⟨[(5, .ptr (σ1 5) 0), (7, .bool (((g && (inB ((x.points.getD m default).cur) 1 100000000)) && (wiB ((x.points.getD m default).lo) ((x.points.getD m default).hi) 1 100000000)))), (8, I ((m : Int) + 1))], (.box (σ0 0) (fc f)) :: (.box (σ1 5) (Fuse.av x).cells) :: .hole :: .hole :: mem⟩ (.cons (s_move (.tmp 8 (I (m : Int)))) (.cons (s_add (.tmp 48 (I (m : Int))) (.int .i64 (1)) (inK_i64 (by omega))) (.cons (s_assign (.tmp 49 (I ((m : Int) + 1)))) .nil))) ?_)
     refine thenQ_n ⟨_, ?_, _, ⟨(m + 1), ((g && (inB ((x.points.getD m default).cur) 1 100000000)) && (wiB ((x.points.getD m default).lo) ((x.points.getD m default).hi) 1 100000000)), rfl, ⟨(by omega), (by exact wild_step hg)⟩, rfl⟩, Weak.of [] (by kernel_rfl) (by kernel_rfl)⟩
     omega
    ·have q10 := iF iD hc
     have hml : m = x.points.length := by omega
     subst hml
     refine AC.exit ?_
     refine thenQ_x ?_
     refine thenQ_x ?_
     refine blockQ_x ?_
     refine thenQ_n ?_
     refine AC.seq ?_
     refine AC.rq (fun σ16 => RegOK.m1 [5, 70] ⟨[(5, .ptr (σ1 5) 0), (70, .bool ((!g)))], (.box (σ0 0) (fc f)) :: (.box (σ1 5) (Fuse.av x).cells) :: .hole :: .hole :: mem⟩ (.cons (s_move (.tmp 7 (.bool (g)))) (.cons (s_not (.tmp 69 (.bool (g)))) .nil)) ?_)
     refine AC.cend ((!g)) rfl rfl (fun hc => ?_) (fun hc => ?_)
     ·have q11 := (iN iB).1 hc
      have hgn := fun h => q11 (hg.2 h)
      refine AC.rq (fun σ17 => RegOK.m1 [4] ⟨[(4, I 7)], (.box (σ0 0) (fc f)) :: (.box (σ1 5) (Fuse.av x).cells) :: .hole :: .hole :: mem⟩ (.cons (s_assign (.int .i64 (7))) .nil) ?_)
      refine AC.ret ?_
      refine thenQ_r ?_
      exact FinQ.ret (result1 rfl (res_tmp (v := I 7) rfl rfl)) ⟨by subst hgx; refine congrArg I ?_; unfold fusE errOf; (have h0 := take_any_not (l := f.fuses) (p := fun y => decide (y.name = (List.getD f.fuses i default).name)) default (i := i) (fun j hj => hn j (by omega)); rw [if_neg (by first | assumption | grind), if_neg (by rw [h0]; simp)]; unfold fuseErr; first | (rw [if_pos (by omega)]) | (rw [if_neg (by omega), if_pos (by rcases Decidable.em ((List.getD f.fuses i default).points.any wildP = true) with e | e; exact .inr e; exact .inl (fun hr => hgn ⟨hr, wild_none e⟩))]) | (rw [if_neg (by omega), if_neg (fun h => by rcases h with h | h; exact h hgy.1; (rw [wild_any hgy.2] at h; cases h))]; first | (have h8 := badPs_of (l := (List.getD f.fuses i default).points) (j := ((n : Int) - 1).toNat) (by omega) (by rw [show ((n : Int) - 1).toNat + 1 = n from by omega]; exact hc); rw [if_pos h8]) | (have h8 := badPs_not (l := (List.getD f.fuses i default).points) (fun j hj => hb j (by omega)); rw [h8]; rfl))), rfl⟩
     ·have q12 := iF (iN iB) hc
      have hgy := hg.1 (Decidable.not_not.1 q12)
      refine AC.skip ?_
      refine thenQ_n ?_
      refine AC.seq ?_
      refine AC.rq (fun σ18 => RegOK.m1 [5, 9] ⟨[(5, .ptr (σ1 5) 0), (9, I 1)], (.box (σ0 0) (fc f)) :: (.box (σ1 5) (Fuse.av x).cells) :: .hole :: .hole :: mem⟩ (.cons (s_assign (.int .i64 (1))) .nil) ?_)
      refine AC.block ?_
      refine AC.loopW (fun mz T => ∃ (n : Nat), mz = x.points.length - n ∧ ((1 ≤ n ∧ n ≤ x.points.length) ∧ (∀ j : Nat, j + 1 < n → badP (x.points.getD j default) (x.points.getD (j + 1) default) = false)) ∧ T = ⟨[(5, .ptr (σ1 5) 0), (9, I (n : Int))], (.box (σ0 0) (fc f)) :: (.box (σ1 5) (Fuse.av x).cells) :: .hole :: .hole :: mem⟩) _ ⟨[(5, .ptr (σ1 5) 0), (9, I ((1) : Int))], (.box (σ0 0) (fc f)) :: (.box (σ1 5) (Fuse.av x).cells) :: .hole :: .hole :: mem⟩ ⟨1, rfl, ⟨(by omega), (by intro j hj; omega)⟩, rfl⟩ (Weak.of [] (by kernel_rfl) (by kernel_rfl)) ?_ Fr.plain
      rintro _ _ ⟨n, rfl, ⟨hn1, hb⟩, rfl⟩
      refine AC.seq ?_
      refine AC.rq (fun σ19 => RegOK.m1 [5, 9, 75] ⟨[(5, .ptr (σ1 5) 0), (9, I (n : Int)), (75, .bool (decide ((n : Int) < (x.points.length : Int))))], (.box (σ0 0) (fc f)) :: (.box (σ1 5) (Fuse.av x).cells) :: .hole :: .hole :: mem⟩ (.cons (s_move (.tmp 9 (I (n : Int)))) (.cons (s_fieldAddr fld94_2 (.tmp 5 (.ptr (σ1 5) 0))) (.cons (s_load1 (cs := (Fuse.av x).cells) (c := .slice ((x.points).map Point.av) none) 1 tyS92 (.tmp 72 (.ptr (σ1 5) 2)) rfl) (.cons (s_lenM (l := x.points) slc92 (.tmp 73 (.slice ((x.points).map Point.av) none))) (.cons (s_lss (.tmp 71 (I (n : Int))) (.tmp 74 (I (x.points.length : Int)))) .nil))))) ?_)
      refine AC.cend (decide ((n : Int) < (x.points.length : Int))) rfl rfl (fun hc => ?_) (fun hc => ?_)
      ·have q13 := iD.1 hc
       refine AC.skip ?_
       refine thenQ_n ?_
       refine AC.bseq ?_
       refine AC.rq (fun σ21 => RegOK.m1 [5, 9, 10, 11] ⟨[(5, .ptr (σ1 5) 0), (9, I (n : Int)), (10, .ptr (σ21 11) 0), (11, .ptr (σ21 12) 0)], (.box (σ0 0) (fc f)) :: (.box (σ1 5) (Fuse.av x).cells) :: (.box (σ21 11) (Point.av (x.points.getD (((n : Int) - 1)).toNat default)).cells) :: (.box (σ21 12) (Point.av (x.points.getD n default)).cells) :: mem⟩ (.cons (s_fieldAddr fld94_2 (.tmp 5 (.ptr (σ1 5) 0))) (.cons (s_load1 (cs := (Fuse.av x).cells) (c := .slice ((x.points).map Point.av) none) 1 tyS92 (.tmp 78 (.ptr (σ1 5) 2)) rfl) (.cons (s_move (.tmp 9 (I (n : Int)))) (.cons (s_sub (.tmp 80 (I (n : Int))) (.int .i64 (1)) (inK_i64 (by omega))) (.cons (s_ixM (l := x.points) (f := Point.av) (default) slc92 (.tmp 79 (.slice ((x.points).map Point.av) none)) (.tmp 81 (I ((n : Int) - 1))) (by omega) rfl) (.cons (s_loadAe (l := (Point.av (x.points.getD (((n : Int) - 1)).toNat default)).cells) tyA141 (.tmp 82 (.eptr (Point.av (x.points.getD (((n : Int) - 1)).toNat default)) 0)) rfl rfl) (.cons (s_fieldAddr fld94_2 (.tmp 5 (.ptr (σ1 5) 0))) (.cons (s_load1 (cs := (Fuse.av x).cells) (c := .slice ((x.points).map Point.av) none) 1 tyS92 (.tmp 84 (.ptr (σ1 5) 2)) rfl) (.cons (s_move (.tmp 9 (I (n : Int)))) (.cons (s_ixM (l := x.points) (f := Point.av) (default) slc92 (.tmp 85 (.slice ((x.points).map Point.av) none)) (.tmp 86 (I (n : Int))) (by omega) rfl) (.cons (s_loadAe (l := (Point.av (x.points.getD n default)).cells) tyA141 (.tmp 87 (.eptr (Point.av (x.points.getD n default)) 0)) rfl rfl) (.cons (s_alloc 2 (σ21 11) zero141) (.cons (s_alloc 3 (σ21 12) zero141) (.cons (s_store (cs := [I 0, I 0, I 0]) 2 sz141 (.tmp 10 (.ptr (σ21 11) 0)) (.tmp 83 (Point.av (x.points.getD (((n : Int) - 1)).toNat default))) rfl rfl rfl (Nat.le_of_ble_eq_true rfl)) (.cons (s_store (cs := [I 0, I 0, I 0]) 3 sz141 (.tmp 11 (.ptr (σ21 12) 0)) (.tmp 88 (Point.av (x.points.getD n default))) rfl rfl rfl (Nat.le_of_ble_eq_true rfl)) .nil))))))))))))))) ?_)
       refine AC.rq (fun σ22 => RegOK.m1 [5, 9, 111] ⟨[(5, .ptr (σ1 5) 0), (9, I (n : Int)), (111, .bool (((decide ((x.points.getD n default).cur ≤ (x.points.getD (((n : Int) - 1)).toNat default).cur) || decide ((x.points.getD (((n : Int) - 1)).toNat default).lo < (x.points.getD n default).lo)) || decide ((x.points.getD (((n : Int) - 1)).toNat default).hi < (x.points.getD n default).hi))))], (.box (σ0 0) (fc f)) :: (.box (σ1 5) (Fuse.av x).cells) :: (.box (σ21 11) (Point.av (x.points.getD (((n : Int) - 1)).toNat default)).cells) :: (.box (σ21 12) (Point.av (x.points.getD n default)).cells) :: mem⟩ (.cons (s_fieldAddr fld141_0 (.tmp 11 (.ptr (σ21 12) 0))) (.cons (s_load1 (cs := (Point.av (x.points.getD n default)).cells) (c := I ((x.points.getD n default).cur)) 3 tyS3 (.tmp 89 (.ptr (σ21 12) 0)) rfl) (.cons (s_fieldAddr fld141_0 (.tmp 10 (.ptr (σ21 11) 0))) (.cons (s_load1 (cs := (Point.av (x.points.getD (((n : Int) - 1)).toNat default)).cells) (c := I ((x.points.getD (((n : Int) - 1)).toNat default).cur)) 2 tyS3 (.tmp 91 (.ptr (σ21 11) 0)) rfl) (.cons (s_leq (.tmp 90 (I ((x.points.getD n default).cur))) (.tmp 92 (I ((x.points.getD (((n : Int) - 1)).toNat default).cur)))) (.cons (s_move (.tmp 93 (.bool (decide ((x.points.getD n default).cur ≤ (x.points.getD (((n : Int) - 1)).toNat default).cur))))) (.cons (Step.guard _ rfl (.bool (decide ((x.points.getD n default).cur ≤ (x.points.getD (((n : Int) - 1)).toNat default).cur))) gF (fun hb => s_fieldAddr fld141_1 (.tmp 11 (.ptr (σ21 12) 0)))) (.cons (Step.guard _ rfl (.bool (decide ((x.points.getD n default).cur ≤ (x.points.getD (((n : Int) - 1)).toNat default).cur))) gF (fun hb => s_fieldAddr fld26_0 (.tmpC hb 95 (.ptr (σ21 12) 1)))) (.cons (Step.guard _ rfl (.bool (decide ((x.points.getD n default).cur ≤ (x.points.getD (((n : Int) - 1)).toNat default).cur))) gF (fun hb => s_load1 (cs := (Point.av (x.points.getD n default)).cells) (c := I ((x.points.getD n default).lo)) 3 tyS3 (.tmpC hb 96 (.ptr (σ21 12) 1)) rfl)) (.cons (Step.guard _ rfl (.bool (decide ((x.points.getD n default).cur ≤ (x.points.getD (((n : Int) - 1)).toNat default).cur))) gF (fun hb => s_fieldAddr fld141_1 (.tmp 10 (.ptr (σ21 11) 0)))) (.cons (Step.guard _ rfl (.bool (decide ((x.points.getD n default).cur ≤ (x.points.getD (((n : Int) - 1)).toNat default).cur))) gF (fun hb => s_fieldAddr fld26_0 (.tmpC hb 98 (.ptr (σ21 11) 1)))) (.cons (Step.guard _ rfl (.bool (decide ((x.points.getD n default).cur ≤ (x.points.getD (((n : Int) - 1)).toNat default).cur))) gF (fun hb => s_load1 (cs := (Point.av (x.points.getD (((n : Int) - 1)).toNat default)).cells) (c := I ((x.points.getD (((n : Int) - 1)).toNat default).lo)) 2 tyS3 (.tmpC hb 99 (.ptr (σ21 11) 1)) rfl)) (.cons (Step.guard _ rfl (.bool (decide ((x.points.getD n default).cur ≤ (x.points.getD (((n : Int) - 1)).toNat default).cur))) gF (fun hb => s_gtr (.tmpC hb 97 (I ((x.points.getD n default).lo))) (.tmpC hb 100 (I ((x.points.getD (((n : Int) - 1)).toNat default).lo))))) (.cons (s_or' (e := (!(decide ((x.points.getD n default).cur ≤ (x.points.getD (((n : Int) - 1)).toNat default).cur)))) (q := decide ((x.points.getD (((n : Int) - 1)).toNat default).lo < (x.points.getD n default).lo)) (fun h => (notMk h)) (.tmp 94 (.bool (decide ((x.points.getD n default).cur ≤ (x.points.getD (((n : Int) - 1)).toNat default).cur))))) (.cons (s_move (.tmp 102 (.bool ((decide ((x.points.getD n default).cur ≤ (x.points.getD (((n : Int) - 1)).toNat default).cur) || decide ((x.points.getD (((n : Int) - 1)).toNat default).lo < (x.points.getD n default).lo)))))) (.cons (Step.guard _ rfl (.bool ((decide ((x.points.getD n default).cur ≤ (x.points.getD (((n : Int) - 1)).toNat default).cur) || decide ((x.points.getD (((n : Int) - 1)).toNat default).lo < (x.points.getD n default).lo)))) gF (fun hb => s_fieldAddr fld141_1 (.tmp 11 (.ptr (σ21 12) 0)))) (.cons (Step.guard _ rfl (.bool ((decide ((x.points.getD n default).cur ≤ (x.points.getD (((n : Int) - 1)).toNat default).cur) || decide ((x.points.getD (((n : Int) - 1)).toNat default).lo < (x.points.getD n default).lo)))) gF (fun hb => s_fieldAddr fld26_1 (.tmpC hb 104 (.ptr (σ21 12) 1)))) (.cons (Step.guard _ rfl (.bool ((decide ((x.points.getD n default).cur ≤ (x.points.getD (((n : Int) - 1)).toNat default).cur) || decide ((x.points.getD (((n : Int) - 1)).toNat default).lo < (x.points.getD n default).lo)))) gF (fun hb => s_load1 (cs := (Point.av (x.points.getD n default)).cells) (c := I ((x.points.getD n default).hi)) 3 tyS3 (.tmpC hb 105 (.ptr (σ21 12) 2)) rfl)) (.cons (Step.guard _ rfl (.bool ((decide ((x.points.getD n default).cur ≤ (x.points.getD (((n : Int) - 1)).toNat default).cur) || decide ((x.points.getD (((n : Int) - 1)).toNat default).lo < (x.points.getD n default).lo)))) gF (fun hb => s_fieldAddr fld141_1 (.tmp 10 (.ptr (σ21 11) 0)))) (.cons (Step.guard _ rfl (.bool ((decide ((x.points.getD n default).cur ≤ (x.points.getD (((n : Int) - 1)).toNat default).cur) || decide ((x.points.getD (((n : Int) - 1)).toNat default).lo < (x.points.getD n default).lo)))) gF (fun hb => s_fieldAddr fld26_1 (.tmpC hb 107 (.ptr (σ21 11) 1)))) (.cons (Step.guard _ rfl (.bool ((decide ((x.points.getD n default).cur ≤ (x.points.getD (((n : Int) - 1)).toNat default).cur) || decide ((x.points.getD (((n : Int) - 1)).toNat default).lo < (x.points.getD n default).lo)))) gF (fun hb => s_load1 (cs := (Point.av (x.points.getD (((n : Int) - 1)).toNat default)).cells) (c := I ((x.points.getD (((n : Int) - 1)).toNat default).hi)) 2 tyS3 (.tmpC hb 108 (.ptr (σ21 11) 2)) rfl)) (.cons (Step.guard _ rfl (.bool ((decide ((x.points.getD n default).cur ≤ (x.points.getD (((n : Int) - 1)).toNat default).cur) || decide ((x.points.getD (((n : Int) - 1)).toNat default).lo < (x.points.getD n default).lo)))) gF (fun hb => s_gtr (.tmpC hb 106 (I ((x.points.getD n default).hi))) (.tmpC hb 109 (I ((x.points.getD (((n : Int) - 1)).toNat default).hi))))) (.cons (s_or' (e := (!(decide ((x.points.getD n default).cur ≤ (x.points.getD (((n : Int) - 1)).toNat default).cur) || decide ((x.points.getD (((n : Int) - 1)).toNat default).lo < (x.points.getD n default).lo)))) (q := decide ((x.points.getD (((n : Int) - 1)).toNat default).hi < (x.points.getD n default).hi)) (fun h => (notMk h)) (.tmp 103 (.bool ((decide ((x.points.getD n default).cur ≤ (x.points.getD (((n : Int) - 1)).toNat default).cur) || decide ((x.points.getD (((n : Int) - 1)).toNat default).lo < (x.points.getD n default).lo)))))) .nil))))))))))))))))))))))) ?_)
       refine AC.cend (((decide ((x.points.getD n default).cur ≤ (x.points.getD (((n : Int) - 1)).toNat default).cur) || decide ((x.points.getD (((n : Int) - 1)).toNat default).lo < (x.points.getD n default).lo)) || decide ((x.points.getD (((n : Int) - 1)).toNat default).hi < (x.points.getD n default).hi))) rfl rfl (fun hc => ?_) (fun hc => ?_)
       ·have q14 := (iO (iO iD iD) iD).1 hc
        refine AC.rq (fun σ23 => RegOK.m1 [4] ⟨[(4, I 2)], (.box (σ0 0) (fc f)) :: (.box (σ1 5) (Fuse.av x).cells) :: (.box (σ21 11) (Point.av (x.points.getD (((n : Int) - 1)).toNat default)).cells) :: (.box (σ21 12) (Point.av (x.points.getD n default)).cells) :: mem⟩ (.cons (s_assign (.int .i64 (2))) .nil) ?_)
        refine AC.ret ?_
        refine blockQ_r ?_
        refine thenQ_r ?_
        refine thenQ_r ?_
        refine blockQ_r ?_
        refine thenQ_r ?_
        exact FinQ.ret (result1 rfl (res_tmp (v := I 2) rfl rfl)) ⟨by subst hgx; refine congrArg I ?_; unfold fusE errOf; (have h0 := take_any_not (l := f.fuses) (p := fun y => decide (y.name = (List.getD f.fuses i default).name)) default (i := i) (fun j hj => hn j (by omega)); rw [if_neg (by first | assumption | grind), if_neg (by rw [h0]; simp)]; unfold fuseErr; first | (rw [if_pos (by omega)]) | (rw [if_neg (by omega), if_pos (by rcases Decidable.em ((List.getD f.fuses i default).points.any wildP = true) with e | e; exact .inr e; exact .inl (fun hr => hgn ⟨hr, wild_none e⟩))]) | (rw [if_neg (by omega), if_neg (fun h => by rcases h with h | h; exact h hgy.1; (rw [wild_any hgy.2] at h; cases h))]; first | (have h8 := badPs_of (l := (List.getD f.fuses i default).points) (j := ((n : Int) - 1).toNat) (by omega) (by rw [show ((n : Int) - 1).toNat + 1 = n from by omega]; exact hc); rw [if_pos h8]) | (have h8 := badPs_not (l := (List.getD f.fuses i default).points) (fun j hj => hb j (by omega)); rw [h8]; rfl))), rfl⟩
       ·have q15 := iF (iO (iO iD iD) iD) hc
        refine AC.skip ?_
        refine blockQ_n ?_
        refine thenQ_n ?_
        refine AC.re (fun σ20 => RegOK.m1 [5, 9] ⟨[(5, .ptr (σ1 5) 0), (9, I ((n : Int) + 1))], (.box (σ0 0) (fc f)) :: (.box (σ1 5) (Fuse.av x).cells) :: (.box (σ21 11) (Point.av (x.points.getD (((n : Int) - 1)).toNat default)).cells) :: (.box (σ21 12) (Point.av (x.points.getD n default)).cells) :: mem⟩ (.cons (s_move (.tmp 9 (I (n : Int)))) (.cons (s_add (.tmp 76 (I (n : Int))) (.int .i64 (1)) (inK_i64 (by omega))) (.cons (s_assign (.tmp 77 (I ((n : Int) + 1)))) .nil))) ?_)
        refine thenQ_n ⟨_, ?_, _, ⟨(n + 1), rfl, ⟨(by omega), (by intro j hj; rcases Decidable.em (j + 1 = n) with e | e; (have e2 : ((n : Int) - 1).toNat = j := by omega); (rw [e2] at hc; subst e; exact hc); exact hb j (by omega))⟩, rfl⟩, Weak.of [2, 3] (by kernel_rfl) (by kernel_rfl)⟩
        omega
      ·have q16 := iF iD hc
       refine AC.exit ?_
       refine thenQ_x ?_
       refine thenQ_x ?_
       refine blockQ_x ?_
       refine thenQ_n ?_
       refine AC.rq (fun σ24 => RegOK.m1 [4] ⟨[(4, I 0)], (.box (σ0 0) (fc f)) :: (.box (σ1 5) (Fuse.av x).cells) :: .hole :: .hole :: mem⟩ (.cons (s_assign (.int .i64 (0))) .nil) ?_)
       refine AC.ret ?_
       exact FinQ.ret (result1 rfl (res_tmp (v := I 0) rfl rfl)) ⟨by subst hgx; refine congrArg I ?_; unfold fusE errOf; (have h0 := take_any_not (l := f.fuses) (p := fun y => decide (y.name = (List.getD f.fuses i default).name)) default (i := i) (fun j hj => hn j (by omega)); rw [if_neg (by first | assumption | grind), if_neg (by rw [h0]; simp)]; unfold fuseErr; first | (rw [if_pos (by omega)]) | (rw [if_neg (by omega), if_pos (by rcases Decidable.em ((List.getD f.fuses i default).points.any wildP = true) with e | e; exact .inr e; exact .inl (fun hr => hgn ⟨hr, wild_none e⟩))]) | (rw [if_neg (by omega), if_neg (fun h => by rcases h with h | h; exact h hgy.1; (rw [wild_any hgy.2] at h; cases h))]; first | (have h8 := badPs_of (l := (List.getD f.fuses i default).points) (j := ((n : Int) - 1).toNat) (by omega) (by rw [show ((n : Int) - 1).toNat + 1 = n from by omega]; exact hc); rw [if_pos h8]) | (have h8 := badPs_not (l := (List.getD f.fuses i default).points) (fun j hj => hb j (by omega)); rw [h8]; rfl))), rfl⟩
theorem F77 (f : Feeder) (i : Nat) (hok : f.ok) (hi : i < f.nodes.length) : Pure Try.prog 77 [Feeder.av f, I (i : Int)] (I (nodE f f.nodes i)) := by
 intro mem
 have ⟨hc1, hc2, hc3, hc4, hc5, hc6⟩ := hok
 have hx := Feeder.ok.nod hok hi
 unfold Node.ok at hx
 refine Meets.body 2 Try.func77 rfl rfl ?_
 refine AC.rq (fun σ0 => RegOK.m1 [1, 2] ⟨[(1, I (i : Int)), (2, .ptr (σ0 0) 0)], (.box (σ0 0) (fc f)) :: .hole :: mem⟩ (.cons (s_box 0 (σ0 0) (.tmp 0 (Feeder.av f)) rfl) (.cons (s_assign (.int .i64 (0))) .nil)) ?_)
 refine AC.rq (fun σ1 => RegOK.m1 [1, 2, 5] ⟨[(1, I (i : Int)), (2, .ptr (σ0 0) 0), (5, .ptr (σ1 5) 0)], (.box (σ0 0) (fc f)) :: (.box (σ1 5) (Node.av (f.nodes.getD i default)).cells) :: mem⟩ (.cons (s_fieldAddr fld28_2 (.tmp 2 (.ptr (σ0 0) 0))) (.cons (s_load1 (cs := (fc f)) (c := .slice ((f.nodes).map Node.av) none) 0 tyS24 (.tmp 9 (.ptr (σ0 0) 2)) rfl) (.cons (s_move (.tmp 1 (I (i : Int)))) (.cons (s_ixM (l := f.nodes) (f := Node.av) (default) slc24 (.tmp 10 (.slice ((f.nodes).map Node.av) none)) (.tmp 11 (I (i : Int))) (by omega) rfl) (.cons (s_loadAe (l := (Node.av (f.nodes.getD i default)).cells) tyA47 (.tmp 12 (.eptr (Node.av (f.nodes.getD i default)) 0)) rfl rfl) (.cons (s_alloc 1 (σ1 5) zero47) (.cons (s_store (cs := [.str (⟨#[]⟩), I 0, I 0, I 0, I 0, I 0, I 0, I 0, I 0, I 0, I 0]) 1 sz47 (.tmp 5 (.ptr (σ1 5) 0)) (.tmp 13 (Node.av (f.nodes.getD i default))) rfl rfl rfl (Nat.le_of_ble_eq_true rfl)) .nil))))))) ?_)
 generalize hgx : (f.nodes.getD i default) = x at *
 refine AC.seq ?_
 refine AC.rq (fun σ2 => RegOK.m1 [1, 2, 5, 17] ⟨[(1, I (i : Int)), (2, .ptr (σ0 0) 0), (5, .ptr (σ1 5) 0), (17, .bool ((!nameOK x.name)))], (.box (σ0 0) (fc f)) :: (.box (σ1 5) (Node.av x).cells) :: mem⟩ (.cons (s_fieldAddr fld47_0 (.tmp 5 (.ptr (σ1 5) 0))) (.cons (s_load1 (cs := (Node.av x).cells) (c := .str (x.name)) 1 tyS9 (.tmp 14 (.ptr (σ1 5) 0)) rfl) (.cons (s_call (r := .bool (nameOK x.name)) (.func 114) (.cons (.tmp 15 (.str (x.name))) .nil) call114 (F114 (x.name) (by omega))) (.cons (s_not (.tmp 16 (.bool (nameOK x.name)))) .nil)))) ?_)
 refine AC.cend ((!nameOK x.name)) rfl rfl (fun hc => ?_) (fun hc => ?_)
 ·have q1 := (iN iB).1 hc
  refine AC.rq (fun σ3 => RegOK.m1 [4] ⟨[(4, I 6)], (.box (σ0 0) (fc f)) :: (.box (σ1 5) (Node.av x).cells) :: mem⟩ (.cons (s_assign (.int .i64 (6))) .nil) ?_)
  refine AC.ret ?_
  refine thenQ_r ?_
  exact FinQ.ret (result1 rfl (res_tmp (v := I 6) rfl rfl)) ⟨by subst hgx; refine congrArg I ?_; unfold nodE errOf; rw [if_pos (by assumption)], rfl⟩
 ·have q2 := iF (iN iB) hc
  refine AC.skip ?_
  refine thenQ_n ?_
  refine AC.seq ?_
  refine AC.rq (fun σ4 => RegOK.m1 [1, 2, 5, 6] ⟨[(1, I (i : Int)), (2, .ptr (σ0 0) 0), (5, .ptr (σ1 5) 0), (6, I 0)], (.box (σ0 0) (fc f)) :: (.box (σ1 5) (Node.av x).cells) :: mem⟩ (.cons (s_assign (.int .i64 (0))) .nil) ?_)
  refine AC.block ?_
  refine AC.loopW (fun mz T => ∃ (k : Nat), mz = i - k ∧ ((k ≤ i) ∧ (∀ j : Nat, j < k → decide ((f.nodes.getD j default).name = x.name) = false)) ∧ T = ⟨[(1, I (i : Int)), (2, .ptr (σ0 0) 0), (5, .ptr (σ1 5) 0), (6, I (k : Int))], (.box (σ0 0) (fc f)) :: (.box (σ1 5) (Node.av x).cells) :: mem⟩) _ ⟨[(1, I (i : Int)), (2, .ptr (σ0 0) 0), (5, .ptr (σ1 5) 0), (6, I ((0) : Int))], (.box (σ0 0) (fc f)) :: (.box (σ1 5) (Node.av x).cells) :: mem⟩ ⟨0, rfl, ⟨(by omega), (by intro j hj; omega)⟩, rfl⟩ (Weak.of [] (by kernel_rfl) (by kernel_rfl)) ?_ Fr.plain
  rintro _ _ ⟨k, rfl, ⟨hk, hn⟩, rfl⟩
  refine AC.seq ?_
  refine AC.rq (fun σ5 => RegOK.m1 [1, 2, 5, 6, 20] ⟨[(1, I (i : Int)), (2, .ptr (σ0 0) 0), (5, .ptr (σ1 5) 0), (6, I (k : Int)), (20, .bool (decide ((k : Int) < (i : Int))))], (.box (σ0 0) (fc f)) :: (.box (σ1 5) (Node.av x).cells) :: mem⟩ (.cons (s_move (.tmp 6 (I (k : Int)))) (.cons (s_move (.tmp 1 (I (i : Int)))) (.cons (s_lss (.tmp 18 (I (k : Int))) (.tmp 19 (I (i : Int)))) .nil))) ?_)
  refine AC.cend (decide ((k : Int) < (i : Int))) rfl rfl (fun hc => ?_) (fun hc => ?_)
  ·have q3 := iD.1 hc
   refine AC.skip ?_
   refine thenQ_n ?_
   refine AC.bseq ?_
   refine AC.rq (fun σ7 => RegOK.m1 [1, 2, 5, 6, 31] ⟨[(1, I (i : Int)), (2, .ptr (σ0 0) 0), (5, .ptr (σ1 5) 0), (6, I (k : Int)), (31, .bool (decide ((f.nodes.getD k default).name = x.name)))], (.box (σ0 0) (fc f)) :: (.box (σ1 5) (Node.av x).cells) :: mem⟩ (.cons (s_fieldAddr fld28_2 (.tmp 2 (.ptr (σ0 0) 0))) (.cons (s_load1 (cs := (fc f)) (c := .slice ((f.nodes).map Node.av) none) 0 tyS24 (.tmp 23 (.ptr (σ0 0) 2)) rfl) (.cons (s_move (.tmp 6 (I (k : Int)))) (.cons (s_ixM (l := f.nodes) (f := Node.av) (default) slc24 (.tmp 24 (.slice ((f.nodes).map Node.av) none)) (.tmp 25 (I (k : Int))) (by omega) rfl) (.cons (s_fieldAddre fld47_0 (.tmp 26 (.eptr (Node.av (f.nodes.getD k default)) 0))) (.cons (s_load1e (c := .str ((f.nodes.getD k default).name)) tyS9 (.tmp 27 (.eptr (Node.av (f.nodes.getD k default)) 0)) rfl) (.cons (s_fieldAddr fld47_0 (.tmp 5 (.ptr (σ1 5) 0))) (.cons (s_load1 (cs := (Node.av x).cells) (c := .str (x.name)) 1 tyS9 (.tmp 29 (.ptr (σ1 5) 0)) rfl) (.cons (s_bytes_eql (.tmp 28 (.str ((f.nodes.getD k default).name))) (.tmp 30 (.str (x.name)))) .nil))))))))) ?_)
   refine AC.cend (decide ((f.nodes.getD k default).name = x.name)) rfl rfl (fun hc => ?_) (fun hc => ?_)
   ·have q4 := iD.1 hc
    refine AC.rq (fun σ8 => RegOK.m1 [4] ⟨[(4, I 5)], (.box (σ0 0) (fc f)) :: (.box (σ1 5) (Node.av x).cells) :: mem⟩ (.cons (s_assign (.int .i64 (5))) .nil) ?_)
    refine AC.ret ?_
    refine blockQ_r ?_
    refine thenQ_r ?_
    refine thenQ_r ?_
    refine blockQ_r ?_
    refine thenQ_r ?_
    exact FinQ.ret (result1 rfl (res_tmp (v := I 5) rfl rfl)) ⟨by subst hgx; refine congrArg I ?_; unfold nodE errOf; (have h0 := take_any_of (l := f.nodes) (p := fun y => decide (y.name = (List.getD f.nodes i default).name)) default (i := i) (j := k) (by omega) (by omega) hc; rw [if_neg (by assumption), if_pos h0]), rfl⟩
   ·have q5 := iF iD hc
    refine AC.skip ?_
    refine blockQ_n ?_
    refine thenQ_n ?_
    refine AC.re (fun σ6 => RegOK.m1 [1, 2, 5, 6] ⟨[(1, I (i : Int)), (2, .ptr (σ0 0) 0), (5, .ptr (σ1 5) 0), (6, I ((k : Int) + 1))], (.box (σ0 0) (fc f)) :: (.box (σ1 5) (Node.av x).cells) :: mem⟩ (.cons (s_move (.tmp 6 (I (k : Int)))) (.cons (s_add (.tmp 21 (I (k : Int))) (.int .i64 (1)) (inK_i64 (by omega))) (.cons (s_assign (.tmp 22 (I ((k : Int) + 1)))) .nil))) ?_)
    refine thenQ_n ⟨_, ?_, _, ⟨(k + 1), rfl, ⟨(by omega), (by intro j hj; rcases Decidable.em (j = k) with h | h; (subst h; exact hc); exact hn j (by omega))⟩, rfl⟩, Weak.of [] (by kernel_rfl) (by kernel_rfl)⟩
    omega
  ·have q6 := iF iD hc
   refine AC.exit ?_
   refine thenQ_x ?_
   refine thenQ_x ?_
   refine blockQ_x ?_
   refine thenQ_n ?_
   refine AC.seq ?_
   refine AC.rq (fun σ9 => RegOK.m1 [1, 2, 5, 33] ⟨[(1, I (i : Int)), (2, .ptr (σ0 0) 0), (5, .ptr (σ1 5) 0), (33, .bool (decide ((i : Int) = 0)))], (.box (σ0 0) (fc f)) :: (.box (σ1 5) (Node.av x).cells) :: mem⟩ (.cons (s_move (.tmp 1 (I (i : Int)))) (.cons (s_eql (.tmp 32 (I (i : Int))) (.int .i64 (0))) .nil)) ?_)
   refine AC.cend (decide ((i : Int) = 0)) rfl rfl (fun hc => ?_) (fun hc => ?_)
   ·have q7 := iD.1 hc
    refine AC.seq ?_
    refine AC.rq (fun σ10 => RegOK.m1 [57] ⟨[(57, .bool (((((decide (x.parent ≠ (-1)) || decide (x.cable ≠ (-1))) || decide (x.length ≠ 0)) || decide (x.fuse ≠ (-1))) || (!((decide (x.lo0 = 0) && (decide (x.hi0 = 0) && true)) && ((decide (x.lo1 = 0) && (decide (x.hi1 = 0) && true)) && (decide (x.lo2 = 0) && (decide (x.hi2 = 0) && true))))))))], (.box (σ0 0) (fc f)) :: (.box (σ1 5) (Node.av x).cells) :: mem⟩ (.cons (s_fieldAddr fld47_1 (.tmp 5 (.ptr (σ1 5) 0))) (.cons (s_load1 (cs := (Node.av x).cells) (c := I (x.parent)) 1 tyS3 (.tmp 34 (.ptr (σ1 5) 1)) rfl) (.cons (s_neq (.tmp 35 (I (x.parent))) (.int .i64 (-1))) (.cons (s_move (.tmp 36 (.bool (decide (x.parent ≠ (-1)))))) (.cons (Step.guard _ rfl (.bool (decide (x.parent ≠ (-1)))) gF (fun hb => s_fieldAddr fld47_2 (.tmp 5 (.ptr (σ1 5) 0)))) (.cons (Step.guard _ rfl (.bool (decide (x.parent ≠ (-1)))) gF (fun hb => s_load1 (cs := (Node.av x).cells) (c := I (x.cable)) 1 tyS3 (.tmpC hb 38 (.ptr (σ1 5) 2)) rfl)) (.cons (Step.guard _ rfl (.bool (decide (x.parent ≠ (-1)))) gF (fun hb => s_neq (.tmpC hb 39 (I (x.cable))) (.int .i64 (-1)))) (.cons (s_or' (e := (!(decide (x.parent ≠ (-1))))) (q := decide (x.cable ≠ (-1))) (fun h => (notMk h)) (.tmp 37 (.bool (decide (x.parent ≠ (-1)))))) (.cons (s_move (.tmp 41 (.bool ((decide (x.parent ≠ (-1)) || decide (x.cable ≠ (-1))))))) (.cons (Step.guard _ rfl (.bool ((decide (x.parent ≠ (-1)) || decide (x.cable ≠ (-1))))) gF (fun hb => s_fieldAddr fld47_3 (.tmp 5 (.ptr (σ1 5) 0)))) (.cons (Step.guard _ rfl (.bool ((decide (x.parent ≠ (-1)) || decide (x.cable ≠ (-1))))) gF (fun hb => s_load1 (cs := (Node.av x).cells) (c := I (x.length)) 1 tyS3 (.tmpC hb 43 (.ptr (σ1 5) 3)) rfl)) (.cons (Step.guard _ rfl (.bool ((decide (x.parent ≠ (-1)) || decide (x.cable ≠ (-1))))) gF (fun hb => s_neq (.tmpC hb 44 (I (x.length))) (.int .i64 (0)))) (.cons (s_or' (e := (!(decide (x.parent ≠ (-1)) || decide (x.cable ≠ (-1))))) (q := decide (x.length ≠ 0)) (fun h => (notMk h)) (.tmp 42 (.bool ((decide (x.parent ≠ (-1)) || decide (x.cable ≠ (-1))))))) (.cons (s_move (.tmp 46 (.bool (((decide (x.parent ≠ (-1)) || decide (x.cable ≠ (-1))) || decide (x.length ≠ 0)))))) (.cons (Step.guard _ rfl (.bool (((decide (x.parent ≠ (-1)) || decide (x.cable ≠ (-1))) || decide (x.length ≠ 0)))) gF (fun hb => s_fieldAddr fld47_4 (.tmp 5 (.ptr (σ1 5) 0)))) (.cons (Step.guard _ rfl (.bool (((decide (x.parent ≠ (-1)) || decide (x.cable ≠ (-1))) || decide (x.length ≠ 0)))) gF (fun hb => s_load1 (cs := (Node.av x).cells) (c := I (x.fuse)) 1 tyS3 (.tmpC hb 48 (.ptr (σ1 5) 4)) rfl)) (.cons (Step.guard _ rfl (.bool (((decide (x.parent ≠ (-1)) || decide (x.cable ≠ (-1))) || decide (x.length ≠ 0)))) gF (fun hb => s_neq (.tmpC hb 49 (I (x.fuse))) (.int .i64 (-1)))) (.cons (s_or' (e := (!((decide (x.parent ≠ (-1)) || decide (x.cable ≠ (-1))) || decide (x.length ≠ 0)))) (q := decide (x.fuse ≠ (-1))) (fun h => (notMk h)) (.tmp 47 (.bool (((decide (x.parent ≠ (-1)) || decide (x.cable ≠ (-1))) || decide (x.length ≠ 0)))))) (.cons (s_move (.tmp 51 (.bool ((((decide (x.parent ≠ (-1)) || decide (x.cable ≠ (-1))) || decide (x.length ≠ 0)) || decide (x.fuse ≠ (-1))))))) (.cons (Step.guard _ rfl (.bool ((((decide (x.parent ≠ (-1)) || decide (x.cable ≠ (-1))) || decide (x.length ≠ 0)) || decide (x.fuse ≠ (-1))))) gF (fun hb => s_fieldAddr fld47_5 (.tmp 5 (.ptr (σ1 5) 0)))) (.cons (Step.guard _ rfl (.bool ((((decide (x.parent ≠ (-1)) || decide (x.cable ≠ (-1))) || decide (x.length ≠ 0)) || decide (x.fuse ≠ (-1))))) gF (fun hb => s_loadA (cs := (Node.av x).cells) (l := [I (x.lo0), I (x.hi0), I (x.lo1), I (x.hi1), I (x.lo2), I (x.hi2)]) 1 tyA45 (.tmpC hb 53 (.ptr (σ1 5) 5)) rfl rfl)) (.cons (Step.guard _ rfl (.bool ((((decide (x.parent ≠ (-1)) || decide (x.cable ≠ (-1))) || decide (x.length ≠ 0)) || decide (x.fuse ≠ (-1))))) gF (fun hb => s_buildArr (l := [I 0, I 0, I 0, I 0, I 0, I 0]) zero45 arr45 .nil rfl)) (.cons (Step.guard _ rfl (.bool ((((decide (x.parent ≠ (-1)) || decide (x.cable ≠ (-1))) || decide (x.length ≠ 0)) || decide (x.fuse ≠ (-1))))) gF (fun hb => s_data_neq (.tmpC hb 54 (.agg [I (x.lo0), I (x.hi0), I (x.lo1), I (x.hi1), I (x.lo2), I (x.hi2)])) (.tmpC hb 55 (.agg [I 0, I 0, I 0, I 0, I 0, I 0])) (eqT45 (x.lo0) (x.hi0) (x.lo1) (x.hi1) (x.lo2) (x.hi2) (0) (0) (0) (0) (0) (0)) rfl rfl rfl)) (.cons (s_or' (e := (!(((decide (x.parent ≠ (-1)) || decide (x.cable ≠ (-1))) || decide (x.length ≠ 0)) || decide (x.fuse ≠ (-1))))) (q := (!((decide (x.lo0 = 0) && (decide (x.hi0 = 0) && true)) && ((decide (x.lo1 = 0) && (decide (x.hi1 = 0) && true)) && (decide (x.lo2 = 0) && (decide (x.hi2 = 0) && true)))))) (fun h => (notMk h)) (.tmp 52 (.bool ((((decide (x.parent ≠ (-1)) || decide (x.cable ≠ (-1))) || decide (x.length ≠ 0)) || decide (x.fuse ≠ (-1))))))) .nil)))))))))))))))))))))))) ?_)
    refine AC.cend (((((decide (x.parent ≠ (-1)) || decide (x.cable ≠ (-1))) || decide (x.length ≠ 0)) || decide (x.fuse ≠ (-1))) || (!((decide (x.lo0 = 0) && (decide (x.hi0 = 0) && true)) && ((decide (x.lo1 = 0) && (decide (x.hi1 = 0) && true)) && (decide (x.lo2 = 0) && (decide (x.hi2 = 0) && true))))))) rfl rfl (fun hc => ?_) (fun hc => ?_)
    ·have q8 := (iO (iO (iO (iO iD iD) iD) iD) (iN (iA (iA iD (iA iD iB)) (iA (iA iD (iA iD iB)) (iA iD (iA iD iB)))))).1 hc
     simp only [eq_self, and_true, true_and] at q8
     refine AC.rq (fun σ11 => RegOK.m1 [4] ⟨[(4, I 2)], (.box (σ0 0) (fc f)) :: (.box (σ1 5) (Node.av x).cells) :: mem⟩ (.cons (s_assign (.int .i64 (2))) .nil) ?_)
     refine AC.ret ?_
     refine thenQ_r ?_
     refine thenQ_r ?_
     exact FinQ.ret (result1 rfl (res_tmp (v := I 2) rfl rfl)) ⟨by subst hgx; refine congrArg I ?_; unfold nodE errOf; (have h0 := take_any_not (l := f.nodes) (p := fun y => decide (y.name = (List.getD f.nodes i default).name)) default (i := i) (fun j hj => hn j (by omega)); rw [if_neg (by first | assumption | grind), if_neg (by rw [h0]; simp)]; unfold nodeErr; (repeat' split) <;> first | rfl | (exfalso; omega)), rfl⟩
    ·have q9 := iF (iO (iO (iO (iO iD iD) iD) iD) (iN (iA (iA iD (iA iD iB)) (iA (iA iD (iA iD iB)) (iA iD (iA iD iB)))))) hc
     simp only [eq_self, and_true, true_and] at q9
     refine AC.skip ?_
     refine thenQ_n ?_
     refine AC.rq (fun σ12 => RegOK.m1 [4] ⟨[(4, I 0)], (.box (σ0 0) (fc f)) :: (.box (σ1 5) (Node.av x).cells) :: mem⟩ (.cons (s_assign (.int .i64 (0))) .nil) ?_)
     refine AC.ret ?_
     refine thenQ_r ?_
     exact FinQ.ret (result1 rfl (res_tmp (v := I 0) rfl rfl)) ⟨by subst hgx; refine congrArg I ?_; unfold nodE errOf; (have h0 := take_any_not (l := f.nodes) (p := fun y => decide (y.name = (List.getD f.nodes i default).name)) default (i := i) (fun j hj => hn j (by omega)); rw [if_neg (by first | assumption | grind), if_neg (by rw [h0]; simp)]; unfold nodeErr; (repeat' split) <;> first | rfl | (exfalso; omega)), rfl⟩
   ·have q10 := iF iD hc
    refine AC.skip ?_
    refine thenQ_n ?_
    refine AC.seq ?_
    refine AC.rq (fun σ13 => RegOK.m1 [5, 83] ⟨[(5, .ptr (σ1 5) 0), (83, .bool ((((!(inB (x.parent) 0 ((i : Int) - 1))) || (!(inB (x.cable) 0 ((f.cables.length : Int) - 1)))) || (!(inB (x.fuse) (-1) ((f.fuses.length : Int) - 1))))))], (.box (σ0 0) (fc f)) :: (.box (σ1 5) (Node.av x).cells) :: mem⟩ (.cons (s_fieldAddr fld47_1 (.tmp 5 (.ptr (σ1 5) 0))) (.cons (s_load1 (cs := (Node.av x).cells) (c := I (x.parent)) 1 tyS3 (.tmp 58 (.ptr (σ1 5) 1)) rfl) (.cons (s_move (.tmp 1 (I (i : Int)))) (.cons (s_sub (.tmp 60 (I (i : Int))) (.int .i64 (1)) (inK_i64 (by omega))) (.cons (s_call (r := .bool ((inB (x.parent) 0 ((i : Int) - 1)))) (.func 74) (.cons (.tmp 59 (I (x.parent))) (.cons (.int .i64 (0)) (.cons (.tmp 61 (I ((i : Int) - 1))) .nil))) call74 (F74 (x.parent) (0) (((i : Int) - 1)))) (.cons (s_not (.tmp 62 (.bool ((inB (x.parent) 0 ((i : Int) - 1)))))) (.cons (s_move (.tmp 63 (.bool ((!(inB (x.parent) 0 ((i : Int) - 1))))))) (.cons (Step.guard _ rfl (.bool ((!(inB (x.parent) 0 ((i : Int) - 1))))) gF (fun hb => s_fieldAddr fld47_2 (.tmp 5 (.ptr (σ1 5) 0)))) (.cons (Step.guard _ rfl (.bool ((!(inB (x.parent) 0 ((i : Int) - 1))))) gF (fun hb => s_load1 (cs := (Node.av x).cells) (c := I (x.cable)) 1 tyS3 (.tmpC hb 65 (.ptr (σ1 5) 2)) rfl)) (.cons (Step.guard _ rfl (.bool ((!(inB (x.parent) 0 ((i : Int) - 1))))) gF (fun hb => s_fieldAddr fld28_0 (.tmp 2 (.ptr (σ0 0) 0)))) (.cons (Step.guard _ rfl (.bool ((!(inB (x.parent) 0 ((i : Int) - 1))))) gF (fun hb => s_load1 (cs := (fc f)) (c := .slice ((f.cables).map Cable.av) none) 0 tyS22 (.tmpC hb 67 (.ptr (σ0 0) 0)) rfl)) (.cons (Step.guard _ rfl (.bool ((!(inB (x.parent) 0 ((i : Int) - 1))))) gF (fun hb => s_lenM (l := f.cables) slc22 (.tmpC hb 68 (.slice ((f.cables).map Cable.av) none)))) (.cons (Step.guard _ rfl (.bool ((!(inB (x.parent) 0 ((i : Int) - 1))))) gF (fun hb => s_sub (.tmpC hb 69 (I (f.cables.length : Int))) (.int .i64 (1)) (inK_i64 (by have hq := (iN (iN inB_i)).1 hb; omega)))) (.cons (Step.guard _ rfl (.bool ((!(inB (x.parent) 0 ((i : Int) - 1))))) gF (fun hb => s_call (r := .bool ((inB (x.cable) 0 ((f.cables.length : Int) - 1)))) (.func 74) (.cons (.tmpC hb 66 (I (x.cable))) (.cons (.int .i64 (0)) (.cons (.tmpC hb 70 (I ((f.cables.length : Int) - 1))) .nil))) call74 (F74 (x.cable) (0) (((f.cables.length : Int) - 1))))) (.cons (Step.guard _ rfl (.bool ((!(inB (x.parent) 0 ((i : Int) - 1))))) gF (fun hb => s_not (.tmpC hb 71 (.bool ((inB (x.cable) 0 ((f.cables.length : Int) - 1))))))) (.cons (s_or' (e := (!(!(inB (x.parent) 0 ((i : Int) - 1))))) (q := (!(inB (x.cable) 0 ((f.cables.length : Int) - 1)))) (fun h => (notMk h)) (.tmp 64 (.bool ((!(inB (x.parent) 0 ((i : Int) - 1))))))) (.cons (s_move (.tmp 73 (.bool (((!(inB (x.parent) 0 ((i : Int) - 1))) || (!(inB (x.cable) 0 ((f.cables.length : Int) - 1)))))))) (.cons (Step.guard _ rfl (.bool (((!(inB (x.parent) 0 ((i : Int) - 1))) || (!(inB (x.cable) 0 ((f.cables.length : Int) - 1)))))) gF (fun hb => s_fieldAddr fld47_4 (.tmp 5 (.ptr (σ1 5) 0)))) (.cons (Step.guard _ rfl (.bool (((!(inB (x.parent) 0 ((i : Int) - 1))) || (!(inB (x.cable) 0 ((f.cables.length : Int) - 1)))))) gF (fun hb => s_load1 (cs := (Node.av x).cells) (c := I (x.fuse)) 1 tyS3 (.tmpC hb 75 (.ptr (σ1 5) 4)) rfl)) (.cons (Step.guard _ rfl (.bool (((!(inB (x.parent) 0 ((i : Int) - 1))) || (!(inB (x.cable) 0 ((f.cables.length : Int) - 1)))))) gF (fun hb => s_fieldAddr fld28_1 (.tmp 2 (.ptr (σ0 0) 0)))) (.cons (Step.guard _ rfl (.bool (((!(inB (x.parent) 0 ((i : Int) - 1))) || (!(inB (x.cable) 0 ((f.cables.length : Int) - 1)))))) gF (fun hb => s_load1 (cs := (fc f)) (c := .slice ((f.fuses).map Fuse.av) none) 0 tyS23 (.tmpC hb 77 (.ptr (σ0 0) 1)) rfl)) (.cons (Step.guard _ rfl (.bool (((!(inB (x.parent) 0 ((i : Int) - 1))) || (!(inB (x.cable) 0 ((f.cables.length : Int) - 1)))))) gF (fun hb => s_lenM (l := f.fuses) slc23 (.tmpC hb 78 (.slice ((f.fuses).map Fuse.av) none)))) (.cons (Step.guard _ rfl (.bool (((!(inB (x.parent) 0 ((i : Int) - 1))) || (!(inB (x.cable) 0 ((f.cables.length : Int) - 1)))))) gF (fun hb => s_sub (.tmpC hb 79 (I (f.fuses.length : Int))) (.int .i64 (1)) (inK_i64 (by have hq := (iN (iO (iN inB_i) (iN inB_i))).1 hb; omega)))) (.cons (Step.guard _ rfl (.bool (((!(inB (x.parent) 0 ((i : Int) - 1))) || (!(inB (x.cable) 0 ((f.cables.length : Int) - 1)))))) gF (fun hb => s_call (r := .bool ((inB (x.fuse) (-1) ((f.fuses.length : Int) - 1)))) (.func 74) (.cons (.tmpC hb 76 (I (x.fuse))) (.cons (.int .i64 (-1)) (.cons (.tmpC hb 80 (I ((f.fuses.length : Int) - 1))) .nil))) call74 (F74 (x.fuse) ((-1)) (((f.fuses.length : Int) - 1))))) (.cons (Step.guard _ rfl (.bool (((!(inB (x.parent) 0 ((i : Int) - 1))) || (!(inB (x.cable) 0 ((f.cables.length : Int) - 1)))))) gF (fun hb => s_not (.tmpC hb 81 (.bool ((inB (x.fuse) (-1) ((f.fuses.length : Int) - 1))))))) (.cons (s_or' (e := (!((!(inB (x.parent) 0 ((i : Int) - 1))) || (!(inB (x.cable) 0 ((f.cables.length : Int) - 1)))))) (q := (!(inB (x.fuse) (-1) ((f.fuses.length : Int) - 1)))) (fun h => (notMk h)) (.tmp 74 (.bool (((!(inB (x.parent) 0 ((i : Int) - 1))) || (!(inB (x.cable) 0 ((f.cables.length : Int) - 1)))))))) .nil)))))))))))))))))))))))))) ?_)
    refine AC.cend ((((!(inB (x.parent) 0 ((i : Int) - 1))) || (!(inB (x.cable) 0 ((f.cables.length : Int) - 1)))) || (!(inB (x.fuse) (-1) ((f.fuses.length : Int) - 1))))) rfl rfl (fun hc => ?_) (fun hc => ?_)
    ·have q11 := (iO (iO (iN inB_i) (iN inB_i)) (iN inB_i)).1 hc
     refine AC.rq (fun σ14 => RegOK.m1 [4] ⟨[(4, I 4)], (.box (σ0 0) (fc f)) :: (.box (σ1 5) (Node.av x).cells) :: mem⟩ (.cons (s_assign (.int .i64 (4))) .nil) ?_)
     refine AC.ret ?_
     refine thenQ_r ?_
     exact FinQ.ret (result1 rfl (res_tmp (v := I 4) rfl rfl)) ⟨by subst hgx; refine congrArg I ?_; unfold nodE errOf; (have h0 := take_any_not (l := f.nodes) (p := fun y => decide (y.name = (List.getD f.nodes i default).name)) default (i := i) (fun j hj => hn j (by omega)); rw [if_neg (by first | assumption | grind), if_neg (by rw [h0]; simp)]; unfold nodeErr; (repeat' split) <;> first | rfl | (exfalso; omega)), rfl⟩
    ·have q12 := iF (iO (iO (iN inB_i) (iN inB_i)) (iN inB_i)) hc
     refine AC.skip ?_
     refine thenQ_n ?_
     refine AC.rq (fun σ15 => RegOK.m1 [5, 7] ⟨[(5, .ptr (σ1 5) 0), (7, .bool ((inB (x.length) 1 5000)))], (.box (σ0 0) (fc f)) :: (.box (σ1 5) (Node.av x).cells) :: mem⟩ (.cons (s_fieldAddr fld47_3 (.tmp 5 (.ptr (σ1 5) 0))) (.cons (s_load1 (cs := (Node.av x).cells) (c := I (x.length)) 1 tyS3 (.tmp 84 (.ptr (σ1 5) 3)) rfl) (.cons (s_call (r := .bool ((inB (x.length) 1 5000))) (.func 74) (.cons (.tmp 85 (I (x.length))) (.cons (.int .i64 (1)) (.cons (.int .i64 (5000)) .nil))) call74 (F74 (x.length) (1) (5000))) (.cons (s_assign (.tmp 86 (.bool ((inB (x.length) 1 5000))))) .nil)))) ?_)
     refine AC.seq ?_
     refine AC.rq (fun σ16 => RegOK.m1 [5, 7, 8] ⟨[(5, .ptr (σ1 5) 0), (7, .bool ((inB (x.length) 1 5000))), (8, I 0)], (.box (σ0 0) (fc f)) :: (.box (σ1 5) (Node.av x).cells) :: mem⟩ (.cons (s_assign (.int .i64 (0))) .nil) ?_)
     refine AC.block ?_
     refine AC.turns (ACL.turn ?_)
     refine AC.seq ?_
     refine AC.rq (fun σ17 => RegOK.m1 [5, 7, 8, 88] ⟨[(5, .ptr (σ1 5) 0), (7, .bool ((inB (x.length) 1 5000))), (8, I 0), (88, .bool (decide ((0 : Int) < 3)))], (.box (σ0 0) (fc f)) :: (.box (σ1 5) (Node.av x).cells) :: mem⟩ (.cons (s_move (.tmp 8 (I 0))) (.cons (s_lss (.tmp 87 (I 0)) (.int .i64 (3))) .nil)) ?_)
     refine AC.cend (decide ((0 : Int) < 3)) rfl rfl (fun hc => ?_) (fun hc => absurd hc (by simp))
     refine AC.skip ?_
     refine thenQ_n ?_
     refine AC.bseq ?_
     refine AC.re (fun σ19 => RegOK.m1 [5, 7, 8] ⟨[(5, .ptr (σ1 5) 0), (7, .bool (((inB (x.length) 1 5000) && (wiB (x.lo0) (x.hi0) 0 1000000)))), (8, I 0)], (.box (σ0 0) (fc f)) :: (.box (σ1 5) (Node.av x).cells) :: mem⟩ (.cons (s_move (.tmp 7 (.bool ((inB (x.length) 1 5000))))) (.cons (s_move (.tmp 91 (.bool ((inB (x.length) 1 5000))))) (.cons (Step.guard _ rfl (.bool ((inB (x.length) 1 5000))) gT (fun hb => s_move (.tmp 8 (I 0)))) (.cons (Step.guard _ rfl (.bool ((inB (x.length) 1 5000))) gT (fun hb => s_fieldAddr fld47_5 (.tmp 5 (.ptr (σ1 5) 0)))) (.cons (Step.guard _ rfl (.bool ((inB (x.length) 1 5000))) gT (fun hb => s_indexAddrA arr45 (.tmpC hb 94 (.ptr (σ1 5) 5)) (.tmpC hb 93 (I 0)) (by decide) (by decide))) (.cons (Step.guard _ rfl (.bool ((inB (x.length) 1 5000))) gT (fun hb => s_loadA (cs := (Node.av x).cells) (l := [I (x.lo0), I (x.hi0)]) 1 tyA26 (.tmpC hb 95 (.ptr (σ1 5) 5)) rfl rfl)) (.cons (Step.guard _ rfl (.bool ((inB (x.length) 1 5000))) gT (fun hb => s_call (r := .bool ((wiB (x.lo0) (x.hi0) 0 1000000))) (.func 73) (.cons (.tmpC hb 96 (.agg [I (x.lo0), I (x.hi0)])) (.cons (.int .i64 (0)) (.cons (.int .i64 (1000000)) .nil))) call73 (F73 (x.lo0) (x.hi0) (0) (1000000)))) (.cons (s_and' (q := (wiB (x.lo0) (x.hi0) 0 1000000)) (fun h => h) (.tmp 92 (.bool ((inB (x.length) 1 5000))))) (.cons (s_assign (.tmp 98 (.bool (((inB (x.length) 1 5000) && (wiB (x.lo0) (x.hi0) 0 1000000)))))) .nil))))))))) ?_)
     refine blockQ_n ?_
     refine thenQ_n ?_
     refine AC.re (fun σ18 => RegOK.m1 [5, 7, 8] ⟨[(5, .ptr (σ1 5) 0), (7, .bool (((inB (x.length) 1 5000) && (wiB (x.lo0) (x.hi0) 0 1000000)))), (8, I 1)], (.box (σ0 0) (fc f)) :: (.box (σ1 5) (Node.av x).cells) :: mem⟩ (.cons (s_move (.tmp 8 (I 0))) (.cons (s_add (.tmp 89 (I 0)) (.int .i64 (1)) (inK_i64 (by decide))) (.cons (s_assign (.tmp 90 (I 1))) .nil))) ?_)
     refine thenQ_n (ACL.turn ?_)
     refine AC.seq ?_
     refine AC.rq (fun σ17 => RegOK.m1 [5, 7, 8, 88] ⟨[(5, .ptr (σ1 5) 0), (7, .bool (((inB (x.length) 1 5000) && (wiB (x.lo0) (x.hi0) 0 1000000)))), (8, I 1), (88, .bool (decide ((1 : Int) < 3)))], (.box (σ0 0) (fc f)) :: (.box (σ1 5) (Node.av x).cells) :: mem⟩ (.cons (s_move (.tmp 8 (I 1))) (.cons (s_lss (.tmp 87 (I 1)) (.int .i64 (3))) .nil)) ?_)
     refine AC.cend (decide ((1 : Int) < 3)) rfl rfl (fun hc => ?_) (fun hc => absurd hc (by simp))
     refine AC.skip ?_
     refine thenQ_n ?_
     refine AC.bseq ?_
     refine AC.re (fun σ19 => RegOK.m1 [5, 7, 8] ⟨[(5, .ptr (σ1 5) 0), (7, .bool ((((inB (x.length) 1 5000) && (wiB (x.lo0) (x.hi0) 0 1000000)) && (wiB (x.lo1) (x.hi1) 0 1000000)))), (8, I 1)], (.box (σ0 0) (fc f)) :: (.box (σ1 5) (Node.av x).cells) :: mem⟩ (.cons (s_move (.tmp 7 (.bool (((inB (x.length) 1 5000) && (wiB (x.lo0) (x.hi0) 0 1000000)))))) (.cons (s_move (.tmp 91 (.bool (((inB (x.length) 1 5000) && (wiB (x.lo0) (x.hi0) 0 1000000)))))) (.cons (Step.guard _ rfl (.bool (((inB (x.length) 1 5000) && (wiB (x.lo0) (x.hi0) 0 1000000)))) gT (fun hb => s_move (.tmp 8 (I 1)))) (.cons (Step.guard _ rfl (.bool (((inB (x.length) 1 5000) && (wiB (x.lo0) (x.hi0) 0 1000000)))) gT (fun hb => s_fieldAddr fld47_5 (.tmp 5 (.ptr (σ1 5) 0)))) (.cons (Step.guard _ rfl (.bool (((inB (x.length) 1 5000) && (wiB (x.lo0) (x.hi0) 0 1000000)))) gT (fun hb => s_indexAddrA arr45 (.tmpC hb 94 (.ptr (σ1 5) 5)) (.tmpC hb 93 (I 1)) (by decide) (by decide))) (.cons (Step.guard _ rfl (.bool (((inB (x.length) 1 5000) && (wiB (x.lo0) (x.hi0) 0 1000000)))) gT (fun hb => s_loadA (cs := (Node.av x).cells) (l := [I (x.lo1), I (x.hi1)]) 1 tyA26 (.tmpC hb 95 (.ptr (σ1 5) 7)) rfl rfl)) (.cons (Step.guard _ rfl (.bool (((inB (x.length) 1 5000) && (wiB (x.lo0) (x.hi0) 0 1000000)))) gT (fun hb => s_call (r := .bool ((wiB (x.lo1) (x.hi1) 0 1000000))) (.func 73) (.cons (.tmpC hb 96 (.agg [I (x.lo1), I (x.hi1)])) (.cons (.int .i64 (0)) (.cons (.int .i64 (1000000)) .nil))) call73 (F73 (x.lo1) (x.hi1) (0) (1000000)))) (.cons (s_and' (q := (wiB (x.lo1) (x.hi1) 0 1000000)) (fun h => h) (.tmp 92 (.bool (((inB (x.length) 1 5000) && (wiB (x.lo0) (x.hi0) 0 1000000)))))) (.cons (s_assign (.tmp 98 (.bool ((((inB (x.length) 1 5000) && (wiB (x.lo0) (x.hi0) 0 1000000)) && (wiB (x.lo1) (x.hi1) 0 1000000)))))) .nil))))))))) ?_)
     refine blockQ_n ?_
     refine thenQ_n ?_
     refine AC.re (fun σ18 => RegOK.m1 [5, 7, 8] ⟨[(5, .ptr (σ1 5) 0), (7, .bool ((((inB (x.length) 1 5000) && (wiB (x.lo0) (x.hi0) 0 1000000)) && (wiB (x.lo1) (x.hi1) 0 1000000)))), (8, I 2)], (.box (σ0 0) (fc f)) :: (.box (σ1 5) (Node.av x).cells) :: mem⟩ (.cons (s_move (.tmp 8 (I 1))) (.cons (s_add (.tmp 89 (I 1)) (.int .i64 (1)) (inK_i64 (by decide))) (.cons (s_assign (.tmp 90 (I 2))) .nil))) ?_)
     refine thenQ_n (ACL.turn ?_)
     refine AC.seq ?_
     refine AC.rq (fun σ17 => RegOK.m1 [5, 7, 8, 88] ⟨[(5, .ptr (σ1 5) 0), (7, .bool ((((inB (x.length) 1 5000) && (wiB (x.lo0) (x.hi0) 0 1000000)) && (wiB (x.lo1) (x.hi1) 0 1000000)))), (8, I 2), (88, .bool (decide ((2 : Int) < 3)))], (.box (σ0 0) (fc f)) :: (.box (σ1 5) (Node.av x).cells) :: mem⟩ (.cons (s_move (.tmp 8 (I 2))) (.cons (s_lss (.tmp 87 (I 2)) (.int .i64 (3))) .nil)) ?_)
     refine AC.cend (decide ((2 : Int) < 3)) rfl rfl (fun hc => ?_) (fun hc => absurd hc (by simp))
     refine AC.skip ?_
     refine thenQ_n ?_
     refine AC.bseq ?_
     refine AC.re (fun σ19 => RegOK.m1 [5, 7, 8] ⟨[(5, .ptr (σ1 5) 0), (7, .bool (((((inB (x.length) 1 5000) && (wiB (x.lo0) (x.hi0) 0 1000000)) && (wiB (x.lo1) (x.hi1) 0 1000000)) && (wiB (x.lo2) (x.hi2) 0 1000000)))), (8, I 2)], (.box (σ0 0) (fc f)) :: (.box (σ1 5) (Node.av x).cells) :: mem⟩ (.cons (s_move (.tmp 7 (.bool ((((inB (x.length) 1 5000) && (wiB (x.lo0) (x.hi0) 0 1000000)) && (wiB (x.lo1) (x.hi1) 0 1000000)))))) (.cons (s_move (.tmp 91 (.bool ((((inB (x.length) 1 5000) && (wiB (x.lo0) (x.hi0) 0 1000000)) && (wiB (x.lo1) (x.hi1) 0 1000000)))))) (.cons (Step.guard _ rfl (.bool ((((inB (x.length) 1 5000) && (wiB (x.lo0) (x.hi0) 0 1000000)) && (wiB (x.lo1) (x.hi1) 0 1000000)))) gT (fun hb => s_move (.tmp 8 (I 2)))) (.cons (Step.guard _ rfl (.bool ((((inB (x.length) 1 5000) && (wiB (x.lo0) (x.hi0) 0 1000000)) && (wiB (x.lo1) (x.hi1) 0 1000000)))) gT (fun hb => s_fieldAddr fld47_5 (.tmp 5 (.ptr (σ1 5) 0)))) (.cons (Step.guard _ rfl (.bool ((((inB (x.length) 1 5000) && (wiB (x.lo0) (x.hi0) 0 1000000)) && (wiB (x.lo1) (x.hi1) 0 1000000)))) gT (fun hb => s_indexAddrA arr45 (.tmpC hb 94 (.ptr (σ1 5) 5)) (.tmpC hb 93 (I 2)) (by decide) (by decide))) (.cons (Step.guard _ rfl (.bool ((((inB (x.length) 1 5000) && (wiB (x.lo0) (x.hi0) 0 1000000)) && (wiB (x.lo1) (x.hi1) 0 1000000)))) gT (fun hb => s_loadA (cs := (Node.av x).cells) (l := [I (x.lo2), I (x.hi2)]) 1 tyA26 (.tmpC hb 95 (.ptr (σ1 5) 9)) rfl rfl)) (.cons (Step.guard _ rfl (.bool ((((inB (x.length) 1 5000) && (wiB (x.lo0) (x.hi0) 0 1000000)) && (wiB (x.lo1) (x.hi1) 0 1000000)))) gT (fun hb => s_call (r := .bool ((wiB (x.lo2) (x.hi2) 0 1000000))) (.func 73) (.cons (.tmpC hb 96 (.agg [I (x.lo2), I (x.hi2)])) (.cons (.int .i64 (0)) (.cons (.int .i64 (1000000)) .nil))) call73 (F73 (x.lo2) (x.hi2) (0) (1000000)))) (.cons (s_and' (q := (wiB (x.lo2) (x.hi2) 0 1000000)) (fun h => h) (.tmp 92 (.bool ((((inB (x.length) 1 5000) && (wiB (x.lo0) (x.hi0) 0 1000000)) && (wiB (x.lo1) (x.hi1) 0 1000000)))))) (.cons (s_assign (.tmp 98 (.bool (((((inB (x.length) 1 5000) && (wiB (x.lo0) (x.hi0) 0 1000000)) && (wiB (x.lo1) (x.hi1) 0 1000000)) && (wiB (x.lo2) (x.hi2) 0 1000000)))))) .nil))))))))) ?_)
     refine blockQ_n ?_
     refine thenQ_n ?_
     refine AC.re (fun σ18 => RegOK.m1 [5, 7, 8] ⟨[(5, .ptr (σ1 5) 0), (7, .bool (((((inB (x.length) 1 5000) && (wiB (x.lo0) (x.hi0) 0 1000000)) && (wiB (x.lo1) (x.hi1) 0 1000000)) && (wiB (x.lo2) (x.hi2) 0 1000000)))), (8, I 3)], (.box (σ0 0) (fc f)) :: (.box (σ1 5) (Node.av x).cells) :: mem⟩ (.cons (s_move (.tmp 8 (I 2))) (.cons (s_add (.tmp 89 (I 2)) (.int .i64 (1)) (inK_i64 (by decide))) (.cons (s_assign (.tmp 90 (I 3))) .nil))) ?_)
     refine thenQ_n (ACL.turn ?_)
     refine AC.seq ?_
     refine AC.rq (fun σ17 => RegOK.m1 [5, 7, 8, 88] ⟨[(5, .ptr (σ1 5) 0), (7, .bool (((((inB (x.length) 1 5000) && (wiB (x.lo0) (x.hi0) 0 1000000)) && (wiB (x.lo1) (x.hi1) 0 1000000)) && (wiB (x.lo2) (x.hi2) 0 1000000)))), (8, I 3), (88, .bool (decide ((3 : Int) < 3)))], (.box (σ0 0) (fc f)) :: (.box (σ1 5) (Node.av x).cells) :: mem⟩ (.cons (s_move (.tmp 8 (I 3))) (.cons (s_lss (.tmp 87 (I 3)) (.int .i64 (3))) .nil)) ?_)
     refine AC.cend (decide ((3 : Int) < 3)) rfl rfl (fun hc => absurd hc (by simp)) (fun hc => ?_)
     refine AC.exit ?_
     refine thenQ_x ?_
     refine thenQ_x ?_
     refine blockQ_x ?_
     refine thenQ_n ?_
     refine AC.seq ?_
     refine AC.rq (fun σ20 => RegOK.m1 [100] ⟨[(100, .bool ((!((((inB (x.length) 1 5000) && (wiB (x.lo0) (x.hi0) 0 1000000)) && (wiB (x.lo1) (x.hi1) 0 1000000)) && (wiB (x.lo2) (x.hi2) 0 1000000)))))], (.box (σ0 0) (fc f)) :: (.box (σ1 5) (Node.av x).cells) :: mem⟩ (.cons (s_move (.tmp 7 (.bool (((((inB (x.length) 1 5000) && (wiB (x.lo0) (x.hi0) 0 1000000)) && (wiB (x.lo1) (x.hi1) 0 1000000)) && (wiB (x.lo2) (x.hi2) 0 1000000)))))) (.cons (s_not (.tmp 99 (.bool (((((inB (x.length) 1 5000) && (wiB (x.lo0) (x.hi0) 0 1000000)) && (wiB (x.lo1) (x.hi1) 0 1000000)) && (wiB (x.lo2) (x.hi2) 0 1000000)))))) .nil)) ?_)
     refine AC.cend ((!((((inB (x.length) 1 5000) && (wiB (x.lo0) (x.hi0) 0 1000000)) && (wiB (x.lo1) (x.hi1) 0 1000000)) && (wiB (x.lo2) (x.hi2) 0 1000000)))) rfl rfl (fun hc => ?_) (fun hc => ?_)
     ·have q13 := (iN (iA (iA (iA inB_i wiB_i) wiB_i) wiB_i)).1 hc
      refine AC.rq (fun σ21 => RegOK.m1 [4] ⟨[(4, I 7)], (.box (σ0 0) (fc f)) :: (.box (σ1 5) (Node.av x).cells) :: mem⟩ (.cons (s_assign (.int .i64 (7))) .nil) ?_)
      refine AC.ret ?_
      refine thenQ_r ?_
      exact FinQ.ret (result1 rfl (res_tmp (v := I 7) rfl rfl)) ⟨by subst hgx; refine congrArg I ?_; unfold nodE errOf; (have h0 := take_any_not (l := f.nodes) (p := fun y => decide (y.name = (List.getD f.nodes i default).name)) default (i := i) (fun j hj => hn j (by omega)); rw [if_neg (by first | assumption | grind), if_neg (by rw [h0]; simp)]; unfold nodeErr; (repeat' split) <;> first | rfl | (exfalso; omega)), rfl⟩
     ·have q14 := iF (iN (iA (iA (iA inB_i wiB_i) wiB_i) wiB_i)) hc
      refine AC.skip ?_
      refine thenQ_n ?_
      refine AC.rq (fun σ22 => RegOK.m1 [4] ⟨[(4, I 0)], (.box (σ0 0) (fc f)) :: (.box (σ1 5) (Node.av x).cells) :: mem⟩ (.cons (s_assign (.int .i64 (0))) .nil) ?_)
      refine AC.ret ?_
      exact FinQ.ret (result1 rfl (res_tmp (v := I 0) rfl rfl)) ⟨by subst hgx; refine congrArg I ?_; unfold nodE errOf; (have h0 := take_any_not (l := f.nodes) (p := fun y => decide (y.name = (List.getD f.nodes i default).name)) default (i := i) (fun j hj => hn j (by omega)); rw [if_neg (by first | assumption | grind), if_neg (by rw [h0]; simp)]; unfold nodeErr; (repeat' split) <;> first | rfl | (exfalso; omega)), rfl⟩
theorem F26 (f : Feeder) (hok : f.ok) : Pure Try.prog 26 [Feeder.av f] (.tuple [I ((check f).1), I ((check f).2.1), I ((check f).2.2)]) := by
 intro mem
 have ⟨hc1, hc2, hc3, hc4, hc5, hc6⟩ := hok
 refine Meets.body 1 Try.func26 rfl rfl ?_
 refine AC.rq (fun σ0 => RegOK.m1 [1] ⟨[(1, .ptr (σ0 0) 0)], (.box (σ0 0) (fc f)) :: mem⟩ (.cons (s_box 0 (σ0 0) (.tmp 0 (Feeder.av f)) rfl) (.cons (s_assign (.int .i64 (0))) (.cons (s_assign (.int .i64 (0))) (.cons (s_assign (.int .i64 (0))) .nil)))) ?_)
 refine AC.seq ?_
 refine AC.rq (fun σ1 => RegOK.m1 [1, 26] ⟨[(1, .ptr (σ0 0) 0), (26, .bool (((decide (10 < (f.cables.length : Int)) || decide (10 < (f.fuses.length : Int))) || decide (40 < (f.nodes.length : Int)))))], (.box (σ0 0) (fc f)) :: mem⟩ (.cons (s_fieldAddr fld28_0 (.tmp 1 (.ptr (σ0 0) 0))) (.cons (s_load1 (cs := (fc f)) (c := .slice ((f.cables).map Cable.av) none) 0 tyS22 (.tmp 11 (.ptr (σ0 0) 0)) rfl) (.cons (s_lenM (l := f.cables) slc22 (.tmp 12 (.slice ((f.cables).map Cable.av) none))) (.cons (s_gtr (.tmp 13 (I (f.cables.length : Int))) (.int .i64 (10))) (.cons (s_move (.tmp 14 (.bool (decide (10 < (f.cables.length : Int)))))) (.cons (Step.guard _ rfl (.bool (decide (10 < (f.cables.length : Int)))) gF (fun hb => s_fieldAddr fld28_1 (.tmp 1 (.ptr (σ0 0) 0)))) (.cons (Step.guard _ rfl (.bool (decide (10 < (f.cables.length : Int)))) gF (fun hb => s_load1 (cs := (fc f)) (c := .slice ((f.fuses).map Fuse.av) none) 0 tyS23 (.tmpC hb 16 (.ptr (σ0 0) 1)) rfl)) (.cons (Step.guard _ rfl (.bool (decide (10 < (f.cables.length : Int)))) gF (fun hb => s_lenM (l := f.fuses) slc23 (.tmpC hb 17 (.slice ((f.fuses).map Fuse.av) none)))) (.cons (Step.guard _ rfl (.bool (decide (10 < (f.cables.length : Int)))) gF (fun hb => s_gtr (.tmpC hb 18 (I (f.fuses.length : Int))) (.int .i64 (10)))) (.cons (s_or' (e := (!(decide (10 < (f.cables.length : Int))))) (q := decide (10 < (f.fuses.length : Int))) (fun h => (notMk h)) (.tmp 15 (.bool (decide (10 < (f.cables.length : Int)))))) (.cons (s_move (.tmp 20 (.bool ((decide (10 < (f.cables.length : Int)) || decide (10 < (f.fuses.length : Int))))))) (.cons (Step.guard _ rfl (.bool ((decide (10 < (f.cables.length : Int)) || decide (10 < (f.fuses.length : Int))))) gF (fun hb => s_fieldAddr fld28_2 (.tmp 1 (.ptr (σ0 0) 0)))) (.cons (Step.guard _ rfl (.bool ((decide (10 < (f.cables.length : Int)) || decide (10 < (f.fuses.length : Int))))) gF (fun hb => s_load1 (cs := (fc f)) (c := .slice ((f.nodes).map Node.av) none) 0 tyS24 (.tmpC hb 22 (.ptr (σ0 0) 2)) rfl)) (.cons (Step.guard _ rfl (.bool ((decide (10 < (f.cables.length : Int)) || decide (10 < (f.fuses.length : Int))))) gF (fun hb => s_lenM (l := f.nodes) slc24 (.tmpC hb 23 (.slice ((f.nodes).map Node.av) none)))) (.cons (Step.guard _ rfl (.bool ((decide (10 < (f.cables.length : Int)) || decide (10 < (f.fuses.length : Int))))) gF (fun hb => s_gtr (.tmpC hb 24 (I (f.nodes.length : Int))) (.int .i64 (40)))) (.cons (s_or' (e := (!(decide (10 < (f.cables.length : Int)) || decide (10 < (f.fuses.length : Int))))) (q := decide (40 < (f.nodes.length : Int))) (fun h => (notMk h)) (.tmp 21 (.bool ((decide (10 < (f.cables.length : Int)) || decide (10 < (f.fuses.length : Int))))))) .nil)))))))))))))))) ?_)
 refine AC.cend (((decide (10 < (f.cables.length : Int)) || decide (10 < (f.fuses.length : Int))) || decide (40 < (f.nodes.length : Int)))) rfl rfl (fun hc => ?_) (fun hc => ?_)
 ·have q1 := (iO (iO iD iD) iD).1 hc
  refine AC.rq (fun σ2 => RegOK.m1 [2, 3, 4] ⟨[(2, I 0), (3, I 0), (4, I 3)], (.box (σ0 0) (fc f)) :: mem⟩ (.cons (s_assign (.int .i64 (0))) (.cons (s_assign (.int .i64 (0))) (.cons (s_assign (.int .i64 (3))) .nil))) ?_)
  refine AC.ret ?_
  refine thenQ_r ?_
  exact FinQ.ret (result3 rfl (res_tmp (v := I 0) rfl rfl) (res_tmp (v := I 0) rfl rfl) (res_tmp (v := I 3) rfl rfl)) ⟨by first | ((have hFk1 := firstErr_none (e := (cabE f.cables)) f.cables.length 0 (fun j _ hj => hnk1 j (by omega))); (have hFk2 := firstErr_none (e := (fusE f.fuses)) f.fuses.length 0 (fun j _ hj => hnk2 j (by omega))); (have hFk3 := firstErr_none (e := (nodE f f.nodes)) f.nodes.length 0 (fun j _ hj => hnk3 j (by omega))); unfold check headErr cabsE fussE nodsE; grind) | ((have hFk1 := firstErr_none (e := (cabE f.cables)) f.cables.length 0 (fun j _ hj => hnk1 j (by omega))); (have hFk2 := firstErr_none (e := (fusE f.fuses)) f.fuses.length 0 (fun j _ hj => hnk2 j (by omega))); (have hFk3 := firstErr_found (e := (nodE f f.nodes)) (k := k3) (by first | omega | grind) f.nodes.length 0 (by omega) (by omega) (fun j _ hj => hnk3 j hj)); unfold check headErr cabsE fussE nodsE; grind) | ((have hFk1 := firstErr_none (e := (cabE f.cables)) f.cables.length 0 (fun j _ hj => hnk1 j (by omega))); (have hFk2 := firstErr_found (e := (fusE f.fuses)) (k := k2) (by first | omega | grind) f.fuses.length 0 (by omega) (by omega) (fun j _ hj => hnk2 j hj)); unfold check headErr cabsE fussE; grind) | ((have hFk1 := firstErr_found (e := (cabE f.cables)) (k := k1) (by first | omega | grind) f.cables.length 0 (by omega) (by omega) (fun j _ hj => hnk1 j hj)); unfold check headErr cabsE; grind) | (unfold check headErr; grind), rfl⟩
 ·have q2 := iF (iO (iO iD iD) iD) hc
  refine AC.skip ?_
  refine thenQ_n ?_
  refine AC.seq ?_
  refine AC.rq (fun σ3 => RegOK.m1 [1, 30] ⟨[(1, .ptr (σ0 0) 0), (30, .bool (decide ((f.nodes.length : Int) = 0)))], (.box (σ0 0) (fc f)) :: mem⟩ (.cons (s_fieldAddr fld28_2 (.tmp 1 (.ptr (σ0 0) 0))) (.cons (s_load1 (cs := (fc f)) (c := .slice ((f.nodes).map Node.av) none) 0 tyS24 (.tmp 27 (.ptr (σ0 0) 2)) rfl) (.cons (s_lenM (l := f.nodes) slc24 (.tmp 28 (.slice ((f.nodes).map Node.av) none))) (.cons (s_eql (.tmp 29 (I (f.nodes.length : Int))) (.int .i64 (0))) .nil)))) ?_)
  refine AC.cend (decide ((f.nodes.length : Int) = 0)) rfl rfl (fun hc => ?_) (fun hc => ?_)
  ·have q3 := iD.1 hc
   refine AC.rq (fun σ4 => RegOK.m1 [2, 3, 4] ⟨[(2, I 0), (3, I 0), (4, I 4)], (.box (σ0 0) (fc f)) :: mem⟩ (.cons (s_assign (.int .i64 (0))) (.cons (s_assign (.int .i64 (0))) (.cons (s_assign (.int .i64 (4))) .nil))) ?_)
   refine AC.ret ?_
   refine thenQ_r ?_
   exact FinQ.ret (result3 rfl (res_tmp (v := I 0) rfl rfl) (res_tmp (v := I 0) rfl rfl) (res_tmp (v := I 4) rfl rfl)) ⟨by first | ((have hFk1 := firstErr_none (e := (cabE f.cables)) f.cables.length 0 (fun j _ hj => hnk1 j (by omega))); (have hFk2 := firstErr_none (e := (fusE f.fuses)) f.fuses.length 0 (fun j _ hj => hnk2 j (by omega))); (have hFk3 := firstErr_none (e := (nodE f f.nodes)) f.nodes.length 0 (fun j _ hj => hnk3 j (by omega))); unfold check headErr cabsE fussE nodsE; grind) | ((have hFk1 := firstErr_none (e := (cabE f.cables)) f.cables.length 0 (fun j _ hj => hnk1 j (by omega))); (have hFk2 := firstErr_none (e := (fusE f.fuses)) f.fuses.length 0 (fun j _ hj => hnk2 j (by omega))); (have hFk3 := firstErr_found (e := (nodE f f.nodes)) (k := k3) (by first | omega | grind) f.nodes.length 0 (by omega) (by omega) (fun j _ hj => hnk3 j hj)); unfold check headErr cabsE fussE nodsE; grind) | ((have hFk1 := firstErr_none (e := (cabE f.cables)) f.cables.length 0 (fun j _ hj => hnk1 j (by omega))); (have hFk2 := firstErr_found (e := (fusE f.fuses)) (k := k2) (by first | omega | grind) f.fuses.length 0 (by omega) (by omega) (fun j _ hj => hnk2 j hj)); unfold check headErr cabsE fussE; grind) | ((have hFk1 := firstErr_found (e := (cabE f.cables)) (k := k1) (by first | omega | grind) f.cables.length 0 (by omega) (by omega) (fun j _ hj => hnk1 j hj)); unfold check headErr cabsE; grind) | (unfold check headErr; grind), rfl⟩
  ·have q4 := iF iD hc
   refine AC.skip ?_
   refine thenQ_n ?_
   refine AC.seq ?_
   refine AC.rq (fun σ5 => RegOK.m1 [1, 52] ⟨[(1, .ptr (σ0 0) 0), (52, .bool (((((!(wiB f.vLo f.vHi 1 1000000)) || (!(wiB f.sLo f.sHi 1 1000000000))) || (!(inB f.drop 0 1000000))) || (!(inB f.limit 1 100000000)))))], (.box (σ0 0) (fc f)) :: mem⟩ (.cons (s_fieldAddr fld28_3 (.tmp 1 (.ptr (σ0 0) 0))) (.cons (s_loadA (cs := (fc f)) (l := [I f.vLo, I f.vHi]) 0 tyA26 (.tmp 31 (.ptr (σ0 0) 3)) rfl rfl) (.cons (s_call (r := .bool ((wiB f.vLo f.vHi 1 1000000))) (.func 73) (.cons (.tmp 32 (.agg [I f.vLo, I f.vHi])) (.cons (.int .i64 (1)) (.cons (.int .i64 (1000000)) .nil))) call73 (F73 (f.vLo) (f.vHi) (1) (1000000))) (.cons (s_not (.tmp 33 (.bool ((wiB f.vLo f.vHi 1 1000000))))) (.cons (s_move (.tmp 34 (.bool ((!(wiB f.vLo f.vHi 1 1000000)))))) (.cons (Step.guard _ rfl (.bool ((!(wiB f.vLo f.vHi 1 1000000)))) gF (fun hb => s_fieldAddr fld28_4 (.tmp 1 (.ptr (σ0 0) 0)))) (.cons (Step.guard _ rfl (.bool ((!(wiB f.vLo f.vHi 1 1000000)))) gF (fun hb => s_loadA (cs := (fc f)) (l := [I f.sLo, I f.sHi]) 0 tyA26 (.tmpC hb 36 (.ptr (σ0 0) 5)) rfl rfl)) (.cons (Step.guard _ rfl (.bool ((!(wiB f.vLo f.vHi 1 1000000)))) gF (fun hb => s_call (r := .bool ((wiB f.sLo f.sHi 1 1000000000))) (.func 73) (.cons (.tmpC hb 37 (.agg [I f.sLo, I f.sHi])) (.cons (.int .i64 (1)) (.cons (.int .i64 (1000000000)) .nil))) call73 (F73 (f.sLo) (f.sHi) (1) (1000000000)))) (.cons (Step.guard _ rfl (.bool ((!(wiB f.vLo f.vHi 1 1000000)))) gF (fun hb => s_not (.tmpC hb 38 (.bool ((wiB f.sLo f.sHi 1 1000000000)))))) (.cons (s_or' (e := (!(!(wiB f.vLo f.vHi 1 1000000)))) (q := (!(wiB f.sLo f.sHi 1 1000000000))) (fun h => (notMk h)) (.tmp 35 (.bool ((!(wiB f.vLo f.vHi 1 1000000)))))) (.cons (s_move (.tmp 40 (.bool (((!(wiB f.vLo f.vHi 1 1000000)) || (!(wiB f.sLo f.sHi 1 1000000000))))))) (.cons (Step.guard _ rfl (.bool (((!(wiB f.vLo f.vHi 1 1000000)) || (!(wiB f.sLo f.sHi 1 1000000000))))) gF (fun hb => s_fieldAddr fld28_5 (.tmp 1 (.ptr (σ0 0) 0)))) (.cons (Step.guard _ rfl (.bool (((!(wiB f.vLo f.vHi 1 1000000)) || (!(wiB f.sLo f.sHi 1 1000000000))))) gF (fun hb => s_load1 (cs := (fc f)) (c := I f.drop) 0 tyS3 (.tmpC hb 42 (.ptr (σ0 0) 7)) rfl)) (.cons (Step.guard _ rfl (.bool (((!(wiB f.vLo f.vHi 1 1000000)) || (!(wiB f.sLo f.sHi 1 1000000000))))) gF (fun hb => s_call (r := .bool ((inB f.drop 0 1000000))) (.func 74) (.cons (.tmpC hb 43 (I f.drop)) (.cons (.int .i64 (0)) (.cons (.int .i64 (1000000)) .nil))) call74 (F74 (f.drop) (0) (1000000)))) (.cons (Step.guard _ rfl (.bool (((!(wiB f.vLo f.vHi 1 1000000)) || (!(wiB f.sLo f.sHi 1 1000000000))))) gF (fun hb => s_not (.tmpC hb 44 (.bool ((inB f.drop 0 1000000)))))) (.cons (s_or' (e := (!((!(wiB f.vLo f.vHi 1 1000000)) || (!(wiB f.sLo f.sHi 1 1000000000))))) (q := (!(inB f.drop 0 1000000))) (fun h => (notMk h)) (.tmp 41 (.bool (((!(wiB f.vLo f.vHi 1 1000000)) || (!(wiB f.sLo f.sHi 1 1000000000))))))) (.cons (s_move (.tmp 46 (.bool ((((!(wiB f.vLo f.vHi 1 1000000)) || (!(wiB f.sLo f.sHi 1 1000000000))) || (!(inB f.drop 0 1000000))))))) (.cons (Step.guard _ rfl (.bool ((((!(wiB f.vLo f.vHi 1 1000000)) || (!(wiB f.sLo f.sHi 1 1000000000))) || (!(inB f.drop 0 1000000))))) gF (fun hb => s_fieldAddr fld28_6 (.tmp 1 (.ptr (σ0 0) 0)))) (.cons (Step.guard _ rfl (.bool ((((!(wiB f.vLo f.vHi 1 1000000)) || (!(wiB f.sLo f.sHi 1 1000000000))) || (!(inB f.drop 0 1000000))))) gF (fun hb => s_load1 (cs := (fc f)) (c := I f.limit) 0 tyS3 (.tmpC hb 48 (.ptr (σ0 0) 8)) rfl)) (.cons (Step.guard _ rfl (.bool ((((!(wiB f.vLo f.vHi 1 1000000)) || (!(wiB f.sLo f.sHi 1 1000000000))) || (!(inB f.drop 0 1000000))))) gF (fun hb => s_call (r := .bool ((inB f.limit 1 100000000))) (.func 74) (.cons (.tmpC hb 49 (I f.limit)) (.cons (.int .i64 (1)) (.cons (.int .i64 (100000000)) .nil))) call74 (F74 (f.limit) (1) (100000000)))) (.cons (Step.guard _ rfl (.bool ((((!(wiB f.vLo f.vHi 1 1000000)) || (!(wiB f.sLo f.sHi 1 1000000000))) || (!(inB f.drop 0 1000000))))) gF (fun hb => s_not (.tmpC hb 50 (.bool ((inB f.limit 1 100000000)))))) (.cons (s_or' (e := (!(((!(wiB f.vLo f.vHi 1 1000000)) || (!(wiB f.sLo f.sHi 1 1000000000))) || (!(inB f.drop 0 1000000))))) (q := (!(inB f.limit 1 100000000))) (fun h => (notMk h)) (.tmp 47 (.bool ((((!(wiB f.vLo f.vHi 1 1000000)) || (!(wiB f.sLo f.sHi 1 1000000000))) || (!(inB f.drop 0 1000000))))))) .nil)))))))))))))))))))))) ?_)
   refine AC.cend (((((!(wiB f.vLo f.vHi 1 1000000)) || (!(wiB f.sLo f.sHi 1 1000000000))) || (!(inB f.drop 0 1000000))) || (!(inB f.limit 1 100000000)))) rfl rfl (fun hc => ?_) (fun hc => ?_)
   ·have q5 := (iO (iO (iO (iN wiB_i) (iN wiB_i)) (iN inB_i)) (iN inB_i)).1 hc
    refine AC.rq (fun σ6 => RegOK.m1 [2, 3, 4] ⟨[(2, I 0), (3, I 0), (4, I 7)], (.box (σ0 0) (fc f)) :: mem⟩ (.cons (s_assign (.int .i64 (0))) (.cons (s_assign (.int .i64 (0))) (.cons (s_assign (.int .i64 (7))) .nil))) ?_)
    refine AC.ret ?_
    refine thenQ_r ?_
    exact FinQ.ret (result3 rfl (res_tmp (v := I 0) rfl rfl) (res_tmp (v := I 0) rfl rfl) (res_tmp (v := I 7) rfl rfl)) ⟨by first | ((have hFk1 := firstErr_none (e := (cabE f.cables)) f.cables.length 0 (fun j _ hj => hnk1 j (by omega))); (have hFk2 := firstErr_none (e := (fusE f.fuses)) f.fuses.length 0 (fun j _ hj => hnk2 j (by omega))); (have hFk3 := firstErr_none (e := (nodE f f.nodes)) f.nodes.length 0 (fun j _ hj => hnk3 j (by omega))); unfold check headErr cabsE fussE nodsE; grind) | ((have hFk1 := firstErr_none (e := (cabE f.cables)) f.cables.length 0 (fun j _ hj => hnk1 j (by omega))); (have hFk2 := firstErr_none (e := (fusE f.fuses)) f.fuses.length 0 (fun j _ hj => hnk2 j (by omega))); (have hFk3 := firstErr_found (e := (nodE f f.nodes)) (k := k3) (by first | omega | grind) f.nodes.length 0 (by omega) (by omega) (fun j _ hj => hnk3 j hj)); unfold check headErr cabsE fussE nodsE; grind) | ((have hFk1 := firstErr_none (e := (cabE f.cables)) f.cables.length 0 (fun j _ hj => hnk1 j (by omega))); (have hFk2 := firstErr_found (e := (fusE f.fuses)) (k := k2) (by first | omega | grind) f.fuses.length 0 (by omega) (by omega) (fun j _ hj => hnk2 j hj)); unfold check headErr cabsE fussE; grind) | ((have hFk1 := firstErr_found (e := (cabE f.cables)) (k := k1) (by first | omega | grind) f.cables.length 0 (by omega) (by omega) (fun j _ hj => hnk1 j hj)); unfold check headErr cabsE; grind) | (unfold check headErr; grind), rfl⟩
   ·have q6 := iF (iO (iO (iO (iN wiB_i) (iN wiB_i)) (iN inB_i)) (iN inB_i)) hc
    refine AC.skip ?_
    refine thenQ_n ?_
    refine AC.seq ?_
    refine AC.rq (fun σ7 => RegOK.m1 [1, 5] ⟨[(1, .ptr (σ0 0) 0), (5, I 0)], (.box (σ0 0) (fc f)) :: mem⟩ (.cons (s_assign (.int .i64 (0))) .nil) ?_)
    refine AC.block ?_
    refine AC.loopW (fun mz T => ∃ (k1 : Nat), mz = f.cables.length - k1 ∧ ((k1 ≤ f.cables.length) ∧ (∀ j : Nat, j < k1 → cabE f.cables j = 0)) ∧ T = ⟨[(1, .ptr (σ0 0) 0), (5, I (k1 : Int))], (.box (σ0 0) (fc f)) :: mem⟩) _ ⟨[(1, .ptr (σ0 0) 0), (5, I ((0) : Int))], (.box (σ0 0) (fc f)) :: mem⟩ ⟨0, rfl, ⟨(by omega), (by intro j hj; omega)⟩, rfl⟩ (Weak.of [] (by kernel_rfl) (by kernel_rfl)) ?_ Fr.plain
    rintro _ _ ⟨k1, rfl, ⟨hk1, hnk1⟩, rfl⟩
    refine AC.seq ?_
    refine AC.rq (fun σ8 => RegOK.m1 [1, 5, 57] ⟨[(1, .ptr (σ0 0) 0), (5, I (k1 : Int)), (57, .bool (decide ((k1 : Int) < (f.cables.length : Int))))], (.box (σ0 0) (fc f)) :: mem⟩ (.cons (s_move (.tmp 5 (I (k1 : Int)))) (.cons (s_fieldAddr fld28_0 (.tmp 1 (.ptr (σ0 0) 0))) (.cons (s_load1 (cs := (fc f)) (c := .slice ((f.cables).map Cable.av) none) 0 tyS22 (.tmp 54 (.ptr (σ0 0) 0)) rfl) (.cons (s_lenM (l := f.cables) slc22 (.tmp 55 (.slice ((f.cables).map Cable.av) none))) (.cons (s_lss (.tmp 53 (I (k1 : Int))) (.tmp 56 (I (f.cables.length : Int)))) .nil))))) ?_)
    refine AC.cend (decide ((k1 : Int) < (f.cables.length : Int))) rfl rfl (fun hc => ?_) (fun hc => ?_)
    ·have q7 := iD.1 hc
     refine AC.skip ?_
     refine thenQ_n ?_
     refine AC.bseq ?_
     refine AC.rq (fun σ10 => RegOK.m1 [1, 5, 6] ⟨[(1, .ptr (σ0 0) 0), (5, I (k1 : Int)), (6, I (cabE f.cables k1))], (.box (σ0 0) (fc f)) :: mem⟩ (.cons (s_loadA (cs := (fc f)) (l := (fc f)) 0 tyA28 (.tmp 1 (.ptr (σ0 0) 0)) rfl rfl) (.cons (s_move (.tmp 5 (I (k1 : Int)))) (.cons (s_call (r := I (cabE f.cables k1)) (.func 75) (.cons (.tmp 60 (Feeder.av f)) (.cons (.tmp 61 (I (k1 : Int))) .nil)) call75 (F75 (f) (k1) (by exact hok) (by omega))) (.cons (s_assign (.tmp 62 (I (cabE f.cables k1)))) .nil)))) ?_)
     refine AC.rq (fun σ11 => RegOK.m1 [1, 5, 6, 64] ⟨[(1, .ptr (σ0 0) 0), (5, I (k1 : Int)), (6, I (cabE f.cables k1)), (64, .bool (decide ((cabE f.cables k1) ≠ 0)))], (.box (σ0 0) (fc f)) :: mem⟩ (.cons (s_move (.tmp 6 (I (cabE f.cables k1)))) (.cons (s_neq (.tmp 63 (I (cabE f.cables k1))) (.int .i64 (0))) .nil)) ?_)
     refine AC.cend (decide ((cabE f.cables k1) ≠ 0)) rfl rfl (fun hc => ?_) (fun hc => ?_)
     ·have q8 := iD.1 hc
      refine AC.rq (fun σ12 => RegOK.m1 [2, 3, 4] ⟨[(2, I 1), (3, I (k1 : Int)), (4, I (cabE f.cables k1))], (.box (σ0 0) (fc f)) :: mem⟩ (.cons (s_move (.tmp 5 (I (k1 : Int)))) (.cons (s_move (.tmp 6 (I (cabE f.cables k1)))) (.cons (s_assign (.int .i64 (1))) (.cons (s_assign (.tmp 65 (I (k1 : Int)))) (.cons (s_assign (.tmp 66 (I (cabE f.cables k1)))) .nil))))) ?_)
      refine AC.ret ?_
      refine blockQ_r ?_
      refine thenQ_r ?_
      refine thenQ_r ?_
      refine blockQ_r ?_
      refine thenQ_r ?_
      exact FinQ.ret (result3 rfl (res_tmp (v := I 1) rfl rfl) (res_tmp (v := I (k1 : Int)) rfl rfl) (res_tmp (v := I (cabE f.cables k1)) rfl rfl)) ⟨by first | ((have hFk1 := firstErr_none (e := (cabE f.cables)) f.cables.length 0 (fun j _ hj => hnk1 j (by omega))); (have hFk2 := firstErr_none (e := (fusE f.fuses)) f.fuses.length 0 (fun j _ hj => hnk2 j (by omega))); (have hFk3 := firstErr_none (e := (nodE f f.nodes)) f.nodes.length 0 (fun j _ hj => hnk3 j (by omega))); unfold check headErr cabsE fussE nodsE; grind) | ((have hFk1 := firstErr_none (e := (cabE f.cables)) f.cables.length 0 (fun j _ hj => hnk1 j (by omega))); (have hFk2 := firstErr_none (e := (fusE f.fuses)) f.fuses.length 0 (fun j _ hj => hnk2 j (by omega))); (have hFk3 := firstErr_found (e := (nodE f f.nodes)) (k := k3) (by first | omega | grind) f.nodes.length 0 (by omega) (by omega) (fun j _ hj => hnk3 j hj)); unfold check headErr cabsE fussE nodsE; grind) | ((have hFk1 := firstErr_none (e := (cabE f.cables)) f.cables.length 0 (fun j _ hj => hnk1 j (by omega))); (have hFk2 := firstErr_found (e := (fusE f.fuses)) (k := k2) (by first | omega | grind) f.fuses.length 0 (by omega) (by omega) (fun j _ hj => hnk2 j hj)); unfold check headErr cabsE fussE; grind) | ((have hFk1 := firstErr_found (e := (cabE f.cables)) (k := k1) (by first | omega | grind) f.cables.length 0 (by omega) (by omega) (fun j _ hj => hnk1 j hj)); unfold check headErr cabsE; grind) | (unfold check headErr; grind), rfl⟩
     ·have q9 := iF iD hc
      refine AC.skip ?_
      refine blockQ_n ?_
      refine thenQ_n ?_
      refine AC.re (fun σ9 => RegOK.m1 [1, 5] ⟨[(1, .ptr (σ0 0) 0), (5, I ((k1 : Int) + 1))], (.box (σ0 0) (fc f)) :: mem⟩ (.cons (s_move (.tmp 5 (I (k1 : Int)))) (.cons (s_add (.tmp 58 (I (k1 : Int))) (.int .i64 (1)) (inK_i64 (by omega))) (.cons (s_assign (.tmp 59 (I ((k1 : Int) + 1)))) .nil))) ?_)
      refine thenQ_n ⟨_, ?_, _, ⟨(k1 + 1), rfl, ⟨(by omega), (by intro j hj; rcases Decidable.em (j = k1) with h | h; (subst h; omega); exact hnk1 j (by omega))⟩, rfl⟩, Weak.of [] (by kernel_rfl) (by kernel_rfl)⟩
      omega
    ·have q10 := iF iD hc
     refine AC.exit ?_
     refine thenQ_x ?_
     refine thenQ_x ?_
     refine blockQ_x ?_
     refine thenQ_n ?_
     refine AC.seq ?_
     refine AC.rq (fun σ13 => RegOK.m1 [1, 7] ⟨[(1, .ptr (σ0 0) 0), (7, I 0)], (.box (σ0 0) (fc f)) :: mem⟩ (.cons (s_assign (.int .i64 (0))) .nil) ?_)
     refine AC.block ?_
     refine AC.loopW (fun mz T => ∃ (k2 : Nat), mz = f.fuses.length - k2 ∧ ((k2 ≤ f.fuses.length) ∧ (∀ j : Nat, j < k2 → fusE f.fuses j = 0)) ∧ T = ⟨[(1, .ptr (σ0 0) 0), (7, I (k2 : Int))], (.box (σ0 0) (fc f)) :: mem⟩) _ ⟨[(1, .ptr (σ0 0) 0), (7, I ((0) : Int))], (.box (σ0 0) (fc f)) :: mem⟩ ⟨0, rfl, ⟨(by omega), (by intro j hj; omega)⟩, rfl⟩ (Weak.of [] (by kernel_rfl) (by kernel_rfl)) ?_ Fr.plain
     rintro _ _ ⟨k2, rfl, ⟨hk2, hnk2⟩, rfl⟩
     refine AC.seq ?_
     refine AC.rq (fun σ14 => RegOK.m1 [1, 7, 71] ⟨[(1, .ptr (σ0 0) 0), (7, I (k2 : Int)), (71, .bool (decide ((k2 : Int) < (f.fuses.length : Int))))], (.box (σ0 0) (fc f)) :: mem⟩ (.cons (s_move (.tmp 7 (I (k2 : Int)))) (.cons (s_fieldAddr fld28_1 (.tmp 1 (.ptr (σ0 0) 0))) (.cons (s_load1 (cs := (fc f)) (c := .slice ((f.fuses).map Fuse.av) none) 0 tyS23 (.tmp 68 (.ptr (σ0 0) 1)) rfl) (.cons (s_lenM (l := f.fuses) slc23 (.tmp 69 (.slice ((f.fuses).map Fuse.av) none))) (.cons (s_lss (.tmp 67 (I (k2 : Int))) (.tmp 70 (I (f.fuses.length : Int)))) .nil))))) ?_)
     refine AC.cend (decide ((k2 : Int) < (f.fuses.length : Int))) rfl rfl (fun hc => ?_) (fun hc => ?_)
     ·have q11 := iD.1 hc
      refine AC.skip ?_
      refine thenQ_n ?_
      refine AC.bseq ?_
      refine AC.rq (fun σ16 => RegOK.m1 [1, 7, 8] ⟨[(1, .ptr (σ0 0) 0), (7, I (k2 : Int)), (8, I (fusE f.fuses k2))], (.box (σ0 0) (fc f)) :: mem⟩ (.cons (s_loadA (cs := (fc f)) (l := (fc f)) 0 tyA28 (.tmp 1 (.ptr (σ0 0) 0)) rfl rfl) (.cons (s_move (.tmp 7 (I (k2 : Int)))) (.cons (s_call (r := I (fusE f.fuses k2)) (.func 76) (.cons (.tmp 74 (Feeder.av f)) (.cons (.tmp 75 (I (k2 : Int))) .nil)) call76 (F76 (f) (k2) (by exact hok) (by omega))) (.cons (s_assign (.tmp 76 (I (fusE f.fuses k2)))) .nil)))) ?_)
      refine AC.rq (fun σ17 => RegOK.m1 [1, 7, 8, 78] ⟨[(1, .ptr (σ0 0) 0), (7, I (k2 : Int)), (8, I (fusE f.fuses k2)), (78, .bool (decide ((fusE f.fuses k2) ≠ 0)))], (.box (σ0 0) (fc f)) :: mem⟩ (.cons (s_move (.tmp 8 (I (fusE f.fuses k2)))) (.cons (s_neq (.tmp 77 (I (fusE f.fuses k2))) (.int .i64 (0))) .nil)) ?_)
      refine AC.cend (decide ((fusE f.fuses k2) ≠ 0)) rfl rfl (fun hc => ?_) (fun hc => ?_)
      ·have q12 := iD.1 hc
       refine AC.rq (fun σ18 => RegOK.m1 [2, 3, 4] ⟨[(2, I 2), (3, I (k2 : Int)), (4, I (fusE f.fuses k2))], (.box (σ0 0) (fc f)) :: mem⟩ (.cons (s_move (.tmp 7 (I (k2 : Int)))) (.cons (s_move (.tmp 8 (I (fusE f.fuses k2)))) (.cons (s_assign (.int .i64 (2))) (.cons (s_assign (.tmp 79 (I (k2 : Int)))) (.cons (s_assign (.tmp 80 (I (fusE f.fuses k2)))) .nil))))) ?_)
       refine AC.ret ?_
       refine blockQ_r ?_
       refine thenQ_r ?_
       refine thenQ_r ?_
       refine blockQ_r ?_
       refine thenQ_r ?_
       exact FinQ.ret (result3 rfl (res_tmp (v := I 2) rfl rfl) (res_tmp (v := I (k2 : Int)) rfl rfl) (res_tmp (v := I (fusE f.fuses k2)) rfl rfl)) ⟨by first | ((have hFk1 := firstErr_none (e := (cabE f.cables)) f.cables.length 0 (fun j _ hj => hnk1 j (by omega))); (have hFk2 := firstErr_none (e := (fusE f.fuses)) f.fuses.length 0 (fun j _ hj => hnk2 j (by omega))); (have hFk3 := firstErr_none (e := (nodE f f.nodes)) f.nodes.length 0 (fun j _ hj => hnk3 j (by omega))); unfold check headErr cabsE fussE nodsE; grind) | ((have hFk1 := firstErr_none (e := (cabE f.cables)) f.cables.length 0 (fun j _ hj => hnk1 j (by omega))); (have hFk2 := firstErr_none (e := (fusE f.fuses)) f.fuses.length 0 (fun j _ hj => hnk2 j (by omega))); (have hFk3 := firstErr_found (e := (nodE f f.nodes)) (k := k3) (by first | omega | grind) f.nodes.length 0 (by omega) (by omega) (fun j _ hj => hnk3 j hj)); unfold check headErr cabsE fussE nodsE; grind) | ((have hFk1 := firstErr_none (e := (cabE f.cables)) f.cables.length 0 (fun j _ hj => hnk1 j (by omega))); (have hFk2 := firstErr_found (e := (fusE f.fuses)) (k := k2) (by first | omega | grind) f.fuses.length 0 (by omega) (by omega) (fun j _ hj => hnk2 j hj)); unfold check headErr cabsE fussE; grind) | ((have hFk1 := firstErr_found (e := (cabE f.cables)) (k := k1) (by first | omega | grind) f.cables.length 0 (by omega) (by omega) (fun j _ hj => hnk1 j hj)); unfold check headErr cabsE; grind) | (unfold check headErr; grind), rfl⟩
      ·have q13 := iF iD hc
       refine AC.skip ?_
       refine blockQ_n ?_
       refine thenQ_n ?_
       refine AC.re (fun σ15 => RegOK.m1 [1, 7] ⟨[(1, .ptr (σ0 0) 0), (7, I ((k2 : Int) + 1))], (.box (σ0 0) (fc f)) :: mem⟩ (.cons (s_move (.tmp 7 (I (k2 : Int)))) (.cons (s_add (.tmp 72 (I (k2 : Int))) (.int .i64 (1)) (inK_i64 (by omega))) (.cons (s_assign (.tmp 73 (I ((k2 : Int) + 1)))) .nil))) ?_)
       refine thenQ_n ⟨_, ?_, _, ⟨(k2 + 1), rfl, ⟨(by omega), (by intro j hj; rcases Decidable.em (j = k2) with h | h; (subst h; omega); exact hnk2 j (by omega))⟩, rfl⟩, Weak.of [] (by kernel_rfl) (by kernel_rfl)⟩
       omega
     ·have q14 := iF iD hc
      refine AC.exit ?_
      refine thenQ_x ?_
      refine thenQ_x ?_
      refine blockQ_x ?_
      refine thenQ_n ?_
      refine AC.seq ?_
      refine AC.rq (fun σ19 => RegOK.m1 [1, 9] ⟨[(1, .ptr (σ0 0) 0), (9, I 0)], (.box (σ0 0) (fc f)) :: mem⟩ (.cons (s_assign (.int .i64 (0))) .nil) ?_)
      refine AC.block ?_
      refine AC.loopW (fun mz T => ∃ (k3 : Nat), mz = f.nodes.length - k3 ∧ ((k3 ≤ f.nodes.length) ∧ (∀ j : Nat, j < k3 → nodE f f.nodes j = 0)) ∧ T = ⟨[(1, .ptr (σ0 0) 0), (9, I (k3 : Int))], (.box (σ0 0) (fc f)) :: mem⟩) _ ⟨[(1, .ptr (σ0 0) 0), (9, I ((0) : Int))], (.box (σ0 0) (fc f)) :: mem⟩ ⟨0, rfl, ⟨(by omega), (by intro j hj; omega)⟩, rfl⟩ (Weak.of [] (by kernel_rfl) (by kernel_rfl)) ?_ Fr.plain
      rintro _ _ ⟨k3, rfl, ⟨hk3, hnk3⟩, rfl⟩
      refine AC.seq ?_
      refine AC.rq (fun σ20 => RegOK.m1 [1, 9, 85] ⟨[(1, .ptr (σ0 0) 0), (9, I (k3 : Int)), (85, .bool (decide ((k3 : Int) < (f.nodes.length : Int))))], (.box (σ0 0) (fc f)) :: mem⟩ (.cons (s_move (.tmp 9 (I (k3 : Int)))) (.cons (s_fieldAddr fld28_2 (.tmp 1 (.ptr (σ0 0) 0))) (.cons (s_load1 (cs := (fc f)) (c := .slice ((f.nodes).map Node.av) none) 0 tyS24 (.tmp 82 (.ptr (σ0 0) 2)) rfl) (.cons (s_lenM (l := f.nodes) slc24 (.tmp 83 (.slice ((f.nodes).map Node.av) none))) (.cons (s_lss (.tmp 81 (I (k3 : Int))) (.tmp 84 (I (f.nodes.length : Int)))) .nil))))) ?_)
      refine AC.cend (decide ((k3 : Int) < (f.nodes.length : Int))) rfl rfl (fun hc => ?_) (fun hc => ?_)
      ·have q15 := iD.1 hc
       refine AC.skip ?_
       refine thenQ_n ?_
       refine AC.bseq ?_
       refine AC.rq (fun σ22 => RegOK.m1 [1, 9, 10] ⟨[(1, .ptr (σ0 0) 0), (9, I (k3 : Int)), (10, I (nodE f f.nodes k3))], (.box (σ0 0) (fc f)) :: mem⟩ (.cons (s_loadA (cs := (fc f)) (l := (fc f)) 0 tyA28 (.tmp 1 (.ptr (σ0 0) 0)) rfl rfl) (.cons (s_move (.tmp 9 (I (k3 : Int)))) (.cons (s_call (r := I (nodE f f.nodes k3)) (.func 77) (.cons (.tmp 88 (Feeder.av f)) (.cons (.tmp 89 (I (k3 : Int))) .nil)) call77 (F77 (f) (k3) (by exact hok) (by omega))) (.cons (s_assign (.tmp 90 (I (nodE f f.nodes k3)))) .nil)))) ?_)
       refine AC.rq (fun σ23 => RegOK.m1 [1, 9, 10, 92] ⟨[(1, .ptr (σ0 0) 0), (9, I (k3 : Int)), (10, I (nodE f f.nodes k3)), (92, .bool (decide ((nodE f f.nodes k3) ≠ 0)))], (.box (σ0 0) (fc f)) :: mem⟩ (.cons (s_move (.tmp 10 (I (nodE f f.nodes k3)))) (.cons (s_neq (.tmp 91 (I (nodE f f.nodes k3))) (.int .i64 (0))) .nil)) ?_)
       refine AC.cend (decide ((nodE f f.nodes k3) ≠ 0)) rfl rfl (fun hc => ?_) (fun hc => ?_)
       ·have q16 := iD.1 hc
        refine AC.rq (fun σ24 => RegOK.m1 [2, 3, 4] ⟨[(2, I 3), (3, I (k3 : Int)), (4, I (nodE f f.nodes k3))], (.box (σ0 0) (fc f)) :: mem⟩ (.cons (s_move (.tmp 9 (I (k3 : Int)))) (.cons (s_move (.tmp 10 (I (nodE f f.nodes k3)))) (.cons (s_assign (.int .i64 (3))) (.cons (s_assign (.tmp 93 (I (k3 : Int)))) (.cons (s_assign (.tmp 94 (I (nodE f f.nodes k3)))) .nil))))) ?_)
        refine AC.ret ?_
        refine blockQ_r ?_
        refine thenQ_r ?_
        refine thenQ_r ?_
        refine blockQ_r ?_
        refine thenQ_r ?_
        exact FinQ.ret (result3 rfl (res_tmp (v := I 3) rfl rfl) (res_tmp (v := I (k3 : Int)) rfl rfl) (res_tmp (v := I (nodE f f.nodes k3)) rfl rfl)) ⟨by first | ((have hFk1 := firstErr_none (e := (cabE f.cables)) f.cables.length 0 (fun j _ hj => hnk1 j (by omega))); (have hFk2 := firstErr_none (e := (fusE f.fuses)) f.fuses.length 0 (fun j _ hj => hnk2 j (by omega))); (have hFk3 := firstErr_none (e := (nodE f f.nodes)) f.nodes.length 0 (fun j _ hj => hnk3 j (by omega))); unfold check headErr cabsE fussE nodsE; grind) | ((have hFk1 := firstErr_none (e := (cabE f.cables)) f.cables.length 0 (fun j _ hj => hnk1 j (by omega))); (have hFk2 := firstErr_none (e := (fusE f.fuses)) f.fuses.length 0 (fun j _ hj => hnk2 j (by omega))); (have hFk3 := firstErr_found (e := (nodE f f.nodes)) (k := k3) (by first | omega | grind) f.nodes.length 0 (by omega) (by omega) (fun j _ hj => hnk3 j hj)); unfold check headErr cabsE fussE nodsE; grind) | ((have hFk1 := firstErr_none (e := (cabE f.cables)) f.cables.length 0 (fun j _ hj => hnk1 j (by omega))); (have hFk2 := firstErr_found (e := (fusE f.fuses)) (k := k2) (by first | omega | grind) f.fuses.length 0 (by omega) (by omega) (fun j _ hj => hnk2 j hj)); unfold check headErr cabsE fussE; grind) | ((have hFk1 := firstErr_found (e := (cabE f.cables)) (k := k1) (by first | omega | grind) f.cables.length 0 (by omega) (by omega) (fun j _ hj => hnk1 j hj)); unfold check headErr cabsE; grind) | (unfold check headErr; grind), rfl⟩
       ·have q17 := iF iD hc
        refine AC.skip ?_
        refine blockQ_n ?_
        refine thenQ_n ?_
        refine AC.re (fun σ21 => RegOK.m1 [1, 9] ⟨[(1, .ptr (σ0 0) 0), (9, I ((k3 : Int) + 1))], (.box (σ0 0) (fc f)) :: mem⟩ (.cons (s_move (.tmp 9 (I (k3 : Int)))) (.cons (s_add (.tmp 86 (I (k3 : Int))) (.int .i64 (1)) (inK_i64 (by omega))) (.cons (s_assign (.tmp 87 (I ((k3 : Int) + 1)))) .nil))) ?_)
        refine thenQ_n ⟨_, ?_, _, ⟨(k3 + 1), rfl, ⟨(by omega), (by intro j hj; rcases Decidable.em (j = k3) with h | h; (subst h; omega); exact hnk3 j (by omega))⟩, rfl⟩, Weak.of [] (by kernel_rfl) (by kernel_rfl)⟩
        omega
      ·have q18 := iF iD hc
       refine AC.exit ?_
       refine thenQ_x ?_
       refine thenQ_x ?_
       refine blockQ_x ?_
       refine thenQ_n ?_
       refine AC.rq (fun σ25 => RegOK.m1 [2, 3, 4] ⟨[(2, I 0), (3, I 0), (4, I 0)], (.box (σ0 0) (fc f)) :: mem⟩ (.cons (s_assign (.int .i64 (0))) (.cons (s_assign (.int .i64 (0))) (.cons (s_assign (.int .i64 (0))) .nil))) ?_)
       refine AC.ret ?_
       exact FinQ.ret (result3 rfl (res_tmp (v := I 0) rfl rfl) (res_tmp (v := I 0) rfl rfl) (res_tmp (v := I 0) rfl rfl)) ⟨by first | ((have hFk1 := firstErr_none (e := (cabE f.cables)) f.cables.length 0 (fun j _ hj => hnk1 j (by omega))); (have hFk2 := firstErr_none (e := (fusE f.fuses)) f.fuses.length 0 (fun j _ hj => hnk2 j (by omega))); (have hFk3 := firstErr_none (e := (nodE f f.nodes)) f.nodes.length 0 (fun j _ hj => hnk3 j (by omega))); unfold check headErr cabsE fussE nodsE; grind) | ((have hFk1 := firstErr_none (e := (cabE f.cables)) f.cables.length 0 (fun j _ hj => hnk1 j (by omega))); (have hFk2 := firstErr_none (e := (fusE f.fuses)) f.fuses.length 0 (fun j _ hj => hnk2 j (by omega))); (have hFk3 := firstErr_found (e := (nodE f f.nodes)) (k := k3) (by first | omega | grind) f.nodes.length 0 (by omega) (by omega) (fun j _ hj => hnk3 j hj)); unfold check headErr cabsE fussE nodsE; grind) | ((have hFk1 := firstErr_none (e := (cabE f.cables)) f.cables.length 0 (fun j _ hj => hnk1 j (by omega))); (have hFk2 := firstErr_found (e := (fusE f.fuses)) (k := k2) (by first | omega | grind) f.fuses.length 0 (by omega) (by omega) (fun j _ hj => hnk2 j hj)); unfold check headErr cabsE fussE; grind) | ((have hFk1 := firstErr_found (e := (cabE f.cables)) (k := k1) (by first | omega | grind) f.cables.length 0 (by omega) (by omega) (fun j _ hj => hnk1 j hj)); unfold check headErr cabsE; grind) | (unfold check headErr; grind), rfl⟩
end Go.Proofs.Yteomgedahkpnlaa
end
section
set_option maxRecDepth 100000
namespace Go.Proofs.Yteomgedahkpnlaa
open Go.Proofs
theorem F90 (f : Feeder) (c : Nat) (g : FG f) (hc0 : c < f.nodes.length) : Pure Try.prog 90 [Feeder.av f, I (c : Int)] (.slice (((pathI f.nodes c)).map I) none) := by
 intro mem
 refine Meets.body 2 Try.func90 rfl rfl ?_
 refine AC.rq (fun σ0 => RegOK.m1 [1, 2] ⟨[(1, I (c : Int)), (2, .ptr (σ0 0) 0)], (.box (σ0 0) (fc f)) :: .hole :: mem⟩ (.cons (s_box 0 (σ0 0) (.tmp 0 (Feeder.av f)) rfl) (.cons (s_assign .nils) .nil)) ?_)
 refine AC.rq (fun σ1 => RegOK.m1 [1, 2, 5] ⟨[(1, I (c : Int)), (2, .ptr (σ0 0) 0), (5, .nils)], (.box (σ0 0) (fc f)) :: .hole :: mem⟩ (.cons (s_assign .nils) .nil) ?_)
 refine AC.nil 5 rfl ?_
 refine AC.bseq ?_
 refine AC.loopW (fun mz T => ∃ (j : Nat), ∃ (p : List Int), mz = (anc f.nodes c).length - j ∧ ((j ≤ (anc f.nodes c).length) ∧ (p = pathTo f.nodes c j) ∧ (p.length = j)) ∧ T = ⟨[(1, I ((nd f.nodes c j : Nat) : Int)), (2, .ptr (σ0 0) 0), (5, .slice ((p).map I) none)], (.box (σ0 0) (fc f)) :: .hole :: mem⟩) _ ⟨[(1, I ((nd f.nodes c (0) : Nat) : Int)), (2, .ptr (σ0 0) 0), (5, .slice (((([] : List Int))).map I) none)], (.box (σ0 0) (fc f)) :: .hole :: mem⟩ ⟨0, ([] : List Int), rfl, ⟨(by omega), (by rfl), (by rfl)⟩, rfl⟩ (Weak.of [] (by rw [nd_zero g.tree hc0]; rfl) (by kernel_rfl)) ?_ Fr.plain
 rintro _ _ ⟨j, p, rfl, ⟨hj, hp, hl⟩, rfl⟩
 have hnp := nd_pos g.tree hc0 hj
 have al := g.anc_len hc0
 refine AC.seq ?_
 refine AC.rq (fun σ2 => RegOK.m1 [1, 2, 5, 7] ⟨[(1, I ((nd f.nodes c j : Nat) : Int)), (2, .ptr (σ0 0) 0), (5, .slice ((p).map I) none), (7, .bool (decide (0 < ((nd f.nodes c j : Nat) : Int))))], (.box (σ0 0) (fc f)) :: .hole :: mem⟩ (.cons (s_move (.tmp 1 (I ((nd f.nodes c j : Nat) : Int)))) (.cons (s_gtr (.tmp 6 (I ((nd f.nodes c j : Nat) : Int))) (.int .i64 (0))) .nil)) ?_)
 refine AC.cend (decide (0 < ((nd f.nodes c j : Nat) : Int))) rfl rfl (fun hc => ?_) (fun hc => ?_)
 ·have q1 := iD.1 hc
  refine AC.skip ?_
  refine thenQ_n ?_
  refine AC.block ?_
  rcases (show p = [] ∨ 0 < p.length by cases p <;> simp) with hp0 | hp0
  ·subst hp0
   refine AC.rq (fun σ3 => RegOK.m1 [1, 2, 5] ⟨[(1, I ((nd f.nodes c j : Nat) : Int)), (2, .ptr (σ0 0) 0), (5, .slice (([((nd f.nodes c j : Nat) : Int)]).map I) (some (σ3 1)))], (.box (σ0 0) (fc f)) :: (.row (σ3 1) (1) 3 1) :: mem⟩ (.cons (s_move (.tmp 1 (I ((nd f.nodes c j : Nat) : Int)))) (.cons (s_buildSliceOwn (es := [I ((nd f.nodes c j : Nat) : Int)]) 1 (σ3 1) zero3 rfl slc48 rfl rfl rfl (.cons rfl (.tmp 8 (I ((nd f.nodes c j : Nat) : Int))) .nil) rfl rfl) (.cons (s_move (.tmp 5 (.slice ((([] : List Int)).map I) none))) (.cons (s_append0 (n := 1) 1 slc48 (.tmp 9 (.slice (([((nd f.nodes c j : Nat) : Int)]).map I) (some (σ3 1)))) (.tmp 10 (.slice ((([] : List Int)).map I) none)) Try.underlying48) (.cons (s_assign (.tmp 11 (.slice (([((nd f.nodes c j : Nat) : Int)]).map I) (some (σ3 1))))) .nil))))) ?_)
   refine AC.free 5 (([((nd f.nodes c j : Nat) : Int)]).map I) (some (σ3 1)) rfl ?_
   refine AC.re (fun σ4 => RegOK.m1 [1, 2, 5] ⟨[(1, I ((f.nodes.getD (nd f.nodes c j) default).parent)), (2, .ptr (σ0 0) 0), (5, .slice (([((nd f.nodes c j : Nat) : Int)]).map I) none)], (.box (σ0 0) (fc f)) :: (.row (σ3 1) (1) 3 1) :: mem⟩ (.cons (s_fieldAddr fld28_2 (.tmp 2 (.ptr (σ0 0) 0))) (.cons (s_load1 (cs := (fc f)) (c := .slice ((f.nodes).map Node.av) none) 0 tyS24 (.tmp 12 (.ptr (σ0 0) 2)) rfl) (.cons (s_move (.tmp 1 (I ((nd f.nodes c j : Nat) : Int)))) (.cons (s_ixM (l := f.nodes) (f := Node.av) (default) slc24 (.tmp 13 (.slice ((f.nodes).map Node.av) none)) (.tmp 14 (I ((nd f.nodes c j : Nat) : Int))) (by omega) rfl) (.cons (s_fieldAddre fld47_1 (.tmp 15 (.eptr (Node.av (f.nodes.getD (nd f.nodes c j) default)) 0))) (.cons (s_load1e (c := I ((f.nodes.getD (nd f.nodes c j) default).parent)) tyS3 (.tmp 16 (.eptr (Node.av (f.nodes.getD (nd f.nodes c j) default)) 1)) rfl) (.cons (s_assign (.tmp 17 (I ((f.nodes.getD (nd f.nodes c j) default).parent)))) .nil))))))) ?_)
   refine blockQ_n ?_
   refine thenQ_n ⟨_, ?_, _, ⟨(j + 1), [((nd f.nodes c j : Nat) : Int)], rfl, ⟨(by omega), (by rw [path_step (by omega), ← hp]; first | done | simp), (by first | (simp only [List.length_append, List.length_cons, List.length_nil]; omega) | (rw [List.length_nil] at hl; simp only [List.length_cons, List.length_nil]; omega))⟩, rfl⟩, Weak.of [1] (by rw [nd_up g.tree hc0 (by omega)]; rfl) (by kernel_rfl)⟩
   omega
  ·skip
   refine AC.rq (fun σ3 => RegOK.m1 [1, 2, 5] ⟨[(1, I ((nd f.nodes c j : Nat) : Int)), (2, .ptr (σ0 0) 0), (5, .slice ((([((nd f.nodes c j : Nat) : Int)] ++ p)).map I) (some (σ3 3)))], (.box (σ0 0) (fc f)) :: (.row (σ3 3) (([((nd f.nodes c j : Nat) : Int)] ++ p).length) 3 1) :: mem⟩ (.cons (s_move (.tmp 1 (I ((nd f.nodes c j : Nat) : Int)))) (.cons (s_buildSliceOwn (es := [I ((nd f.nodes c j : Nat) : Int)]) 1 (σ3 1) zero3 rfl slc48 rfl rfl rfl (.cons rfl (.tmp 8 (I ((nd f.nodes c j : Nat) : Int))) .nil) rfl rfl) (.cons (s_move (.tmp 5 (.slice ((p).map I) none))) (.cons (s_appendM (l := [((nd f.nodes c j : Nat) : Int)]) (l2 := p) (f := I) 1 (σ3 3) slc48 zero3 byt3 rfl (by decide) (.tmp 9 (.slice (([((nd f.nodes c j : Nat) : Int)]).map I) (some (σ3 1)))) (.tmp 10 (.slice ((p).map I) none)) (by assumption) (fun _ => rfl) (fun _ => rfl) (by simp only [List.length_cons, List.length_nil]; omega)) (.cons (s_assign (.tmp 11 (.slice ((([((nd f.nodes c j : Nat) : Int)] ++ p)).map I) (some (σ3 3))))) .nil))))) ?_)
   refine AC.free 5 ((([((nd f.nodes c j : Nat) : Int)] ++ p)).map I) (some (σ3 3)) rfl ?_
   refine AC.re (fun σ4 => RegOK.m1 [1, 2, 5] ⟨[(1, I ((f.nodes.getD (nd f.nodes c j) default).parent)), (2, .ptr (σ0 0) 0), (5, .slice ((([((nd f.nodes c j : Nat) : Int)] ++ p)).map I) none)], (.box (σ0 0) (fc f)) :: (.row (σ3 3) (([((nd f.nodes c j : Nat) : Int)] ++ p).length) 3 1) :: mem⟩ (.cons (s_fieldAddr fld28_2 (.tmp 2 (.ptr (σ0 0) 0))) (.cons (s_load1 (cs := (fc f)) (c := .slice ((f.nodes).map Node.av) none) 0 tyS24 (.tmp 12 (.ptr (σ0 0) 2)) rfl) (.cons (s_move (.tmp 1 (I ((nd f.nodes c j : Nat) : Int)))) (.cons (s_ixM (l := f.nodes) (f := Node.av) (default) slc24 (.tmp 13 (.slice ((f.nodes).map Node.av) none)) (.tmp 14 (I ((nd f.nodes c j : Nat) : Int))) (by omega) rfl) (.cons (s_fieldAddre fld47_1 (.tmp 15 (.eptr (Node.av (f.nodes.getD (nd f.nodes c j) default)) 0))) (.cons (s_load1e (c := I ((f.nodes.getD (nd f.nodes c j) default).parent)) tyS3 (.tmp 16 (.eptr (Node.av (f.nodes.getD (nd f.nodes c j) default)) 1)) rfl) (.cons (s_assign (.tmp 17 (I ((f.nodes.getD (nd f.nodes c j) default).parent)))) .nil))))))) ?_)
   refine blockQ_n ?_
   refine thenQ_n ⟨_, ?_, _, ⟨(j + 1), ([((nd f.nodes c j : Nat) : Int)] ++ p), rfl, ⟨(by omega), (by rw [path_step (by omega), ← hp]; first | done | simp), (by first | (simp only [List.length_append, List.length_cons, List.length_nil]; omega) | (rw [List.length_nil] at hl; simp only [List.length_cons, List.length_nil]; omega))⟩, rfl⟩, Weak.of [1] (by rw [nd_up g.tree hc0 (by omega)]; rfl) (by kernel_rfl)⟩
   omega
 ·have q2 := iF iD hc
  refine AC.exit ?_
  refine thenQ_x ?_
  refine thenQ_x ?_
  refine blockQ_x ?_
  refine thenQ_n ?_
  refine AC.rq (fun σ5 => RegOK.m1 [4] ⟨[(4, .slice ((p).map I) none)], (.box (σ0 0) (fc f)) :: .hole :: mem⟩ (.cons (s_move (.tmp 5 (.slice ((p).map I) none))) (.cons (s_assign (.tmp 18 (.slice ((p).map I) none))) .nil)) ?_)
  refine AC.ret ?_
  exact FinQ.ret (result1 rfl (res_tmp (v := .slice ((p).map I) none) rfl rfl)) ⟨by (have e : j = (anc f.nodes c).length := by omega); subst e; rw [hp, path_end], rfl⟩
end Go.Proofs.Yteomgedahkpnlaa
end
section
set_option maxRecDepth 100000
namespace Go.Proofs.Yteomgedahkpnlaa
open Go.Proofs
theorem F89 (f : Feeder) (c : Nat) (i : Nat) (g : FG f) (hi0 : i < f.nodes.length) : Pure Try.prog 89 [Feeder.av f, I (c : Int), I (i : Int)] (.bool ((onB f.nodes c i))) := by
 intro mem
 have pl := pathI_len f.nodes i
 have al := g.anc_len hi0
 refine Meets.body 1 Try.func89 rfl rfl ?_
 refine AC.rq (fun σ0 => RegOK.m1 [1, 2, 3] ⟨[(1, I (c : Int)), (2, I (i : Int)), (3, .ptr (σ0 0) 0)], (.box (σ0 0) (fc f)) :: mem⟩ (.cons (s_box 0 (σ0 0) (.tmp 0 (Feeder.av f)) rfl) (.cons (s_assign (.bool false)) .nil)) ?_)
 refine AC.rq (fun σ1 => RegOK.m1 [1, 7] ⟨[(1, I (c : Int)), (7, .slice (((pathI f.nodes i)).map I) none)], (.box (σ0 0) (fc f)) :: mem⟩ (.cons (s_loadA (cs := (fc f)) (l := (fc f)) 0 tyA28 (.tmp 3 (.ptr (σ0 0) 0)) rfl rfl) (.cons (s_move (.tmp 2 (I (i : Int)))) (.cons (s_call (r := .slice (((pathI f.nodes i)).map I) none) (.func 90) (.cons (.tmp 9 (Feeder.av f)) (.cons (.tmp 10 (I (i : Int))) .nil)) call90 (F90 (f) (i) (by assumption) (by omega))) (.cons (s_assign (.tmp 11 (.slice (((pathI f.nodes i)).map I) none))) .nil)))) ?_)
 refine AC.seq ?_
 refine AC.rq (fun σ2 => RegOK.m1 [1, 7, 8] ⟨[(1, I (c : Int)), (7, .slice (((pathI f.nodes i)).map I) none), (8, I 0)], (.box (σ0 0) (fc f)) :: mem⟩ (.cons (s_assign (.int .i64 (0))) .nil) ?_)
 refine AC.block ?_
 refine AC.loopW (fun mz T => ∃ (k : Nat), mz = (pathI f.nodes i).length - k ∧ ((k ≤ (pathI f.nodes i).length) ∧ (∀ j : Nat, j < k → (pathI f.nodes i).getD j 0 ≠ (c : Int))) ∧ T = ⟨[(1, I (c : Int)), (7, .slice (((pathI f.nodes i)).map I) none), (8, I (k : Int))], (.box (σ0 0) (fc f)) :: mem⟩) _ ⟨[(1, I (c : Int)), (7, .slice (((pathI f.nodes i)).map I) none), (8, I ((0) : Int))], (.box (σ0 0) (fc f)) :: mem⟩ ⟨0, rfl, ⟨(by omega), (by intro j hj; omega)⟩, rfl⟩ (Weak.of [] (by kernel_rfl) (by kernel_rfl)) ?_ Fr.plain
 rintro _ _ ⟨k, rfl, ⟨hk, hn⟩, rfl⟩
 refine AC.seq ?_
 refine AC.rq (fun σ3 => RegOK.m1 [1, 7, 8, 15] ⟨[(1, I (c : Int)), (7, .slice (((pathI f.nodes i)).map I) none), (8, I (k : Int)), (15, .bool (decide ((k : Int) < ((pathI f.nodes i).length : Int))))], (.box (σ0 0) (fc f)) :: mem⟩ (.cons (s_move (.tmp 8 (I (k : Int)))) (.cons (s_move (.tmp 7 (.slice (((pathI f.nodes i)).map I) none))) (.cons (s_lenM (l := (pathI f.nodes i)) slc48 (.tmp 13 (.slice (((pathI f.nodes i)).map I) none))) (.cons (s_lss (.tmp 12 (I (k : Int))) (.tmp 14 (I ((pathI f.nodes i).length : Int)))) .nil)))) ?_)
 refine AC.cend (decide ((k : Int) < ((pathI f.nodes i).length : Int))) rfl rfl (fun hc => ?_) (fun hc => ?_)
 ·have q1 := iD.1 hc
  refine AC.skip ?_
  refine thenQ_n ?_
  refine AC.bseq ?_
  refine AC.rq (fun σ5 => RegOK.m1 [1, 7, 8, 23] ⟨[(1, I (c : Int)), (7, .slice (((pathI f.nodes i)).map I) none), (8, I (k : Int)), (23, .bool (decide (((pathI f.nodes i).getD k 0) = (c : Int))))], (.box (σ0 0) (fc f)) :: mem⟩ (.cons (s_move (.tmp 7 (.slice (((pathI f.nodes i)).map I) none))) (.cons (s_move (.tmp 8 (I (k : Int)))) (.cons (s_ixM (l := (pathI f.nodes i)) (f := I) (0) slc48 (.tmp 18 (.slice (((pathI f.nodes i)).map I) none)) (.tmp 19 (I (k : Int))) (by omega) rfl) (.cons (s_load1e (c := I ((pathI f.nodes i).getD k 0)) tyS3 (.tmp 20 (.eptr (I ((pathI f.nodes i).getD k 0)) 0)) rfl) (.cons (s_move (.tmp 1 (I (c : Int)))) (.cons (s_eql (.tmp 21 (I ((pathI f.nodes i).getD k 0))) (.tmp 22 (I (c : Int)))) .nil)))))) ?_)
  refine AC.cend (decide (((pathI f.nodes i).getD k 0) = (c : Int))) rfl rfl (fun hc => ?_) (fun hc => ?_)
  ·have q2 := iD.1 hc
   refine AC.rq (fun σ6 => RegOK.m1 [6] ⟨[(6, .bool (true))], (.box (σ0 0) (fc f)) :: mem⟩ (.cons (s_assign (.bool true)) .nil) ?_)
   refine AC.ret ?_
   refine blockQ_r ?_
   refine thenQ_r ?_
   refine thenQ_r ?_
   refine blockQ_r ?_
   refine thenQ_r ?_
   exact FinQ.ret (result1 rfl (res_tmp (v := .bool (true)) rfl rfl)) ⟨by first | exact congrArg AV.bool (onB_yes (j := k) (by omega) (by assumption)).symm | exact congrArg AV.bool (onB_no (fun j hj => hn j (by omega))).symm, rfl⟩
  ·have q3 := iF iD hc
   refine AC.skip ?_
   refine blockQ_n ?_
   refine thenQ_n ?_
   refine AC.re (fun σ4 => RegOK.m1 [1, 7, 8] ⟨[(1, I (c : Int)), (7, .slice (((pathI f.nodes i)).map I) none), (8, I ((k : Int) + 1))], (.box (σ0 0) (fc f)) :: mem⟩ (.cons (s_move (.tmp 8 (I (k : Int)))) (.cons (s_add (.tmp 16 (I (k : Int))) (.int .i64 (1)) (inK_i64 (by omega))) (.cons (s_assign (.tmp 17 (I ((k : Int) + 1)))) .nil))) ?_)
   refine thenQ_n ⟨_, ?_, _, ⟨(k + 1), rfl, ⟨(by omega), (by intro j hj; rcases Decidable.em (j = k) with e | e; (subst e; assumption); exact hn j (by omega))⟩, rfl⟩, Weak.of [] (by kernel_rfl) (by kernel_rfl)⟩
   omega
 ·have q4 := iF iD hc
  refine AC.exit ?_
  refine thenQ_x ?_
  refine thenQ_x ?_
  refine blockQ_x ?_
  refine thenQ_n ?_
  refine AC.rq (fun σ7 => RegOK.m1 [6] ⟨[(6, .bool (false))], (.box (σ0 0) (fc f)) :: mem⟩ (.cons (s_assign (.bool false)) .nil) ?_)
  refine AC.ret ?_
  exact FinQ.ret (result1 rfl (res_tmp (v := .bool (false)) rfl rfl)) ⟨by first | exact congrArg AV.bool (onB_yes (j := k) (by omega) (by assumption)).symm | exact congrArg AV.bool (onB_no (fun j hj => hn j (by omega))).symm, rfl⟩
end Go.Proofs.Yteomgedahkpnlaa
end
section
set_option maxRecDepth 100000
namespace Go.Proofs.Yteomgedahkpnlaa
open Go.Proofs
theorem F36 (f : Feeder) (ws : List Opn) (hok : f.ok) (hws : (ws.length : Int) ≤ 9223372036854775807) : Pure Try.prog 36 [Feeder.av f, .slice ((ws).map encA) none] (.tuple [.slice ((darkRes f ws).1.map encA) none, I (darkRes f ws).2]) := by
 intro mem
 have hln := hok.2.2.1
 refine Meets.body 2 Try.func36 rfl rfl ?_
 refine AC.rq (fun σ0 => RegOK.m1 [1, 2] ⟨[(1, .slice ((ws).map encA) none), (2, .ptr (σ0 0) 0)], (.box (σ0 0) (fc f)) :: .hole :: mem⟩ (.cons (s_box 0 (σ0 0) (.tmp 0 (Feeder.av f)) rfl) (.cons (s_assign .nils) (.cons (s_assign (.int .i64 (0))) .nil))) ?_)
 refine AC.rq (fun σ1 => RegOK.m1 [1, 2, 8] ⟨[(1, .slice ((ws).map encA) none), (2, .ptr (σ0 0) 0), (8, I ((check f).2.2))], (.box (σ0 0) (fc f)) :: .hole :: mem⟩ (.cons (s_loadA (cs := (fc f)) (l := (fc f)) 0 tyA28 (.tmp 2 (.ptr (σ0 0) 0)) rfl rfl) (.cons (s_call (r := .tuple [I ((check f).1), I ((check f).2.1), I ((check f).2.2)]) (.func 26) (.cons (.tmp 16 (Feeder.av f)) .nil) call26 (F26 (f) (by exact hok))) (.cons (s_move (.tmp 17 (.tuple [I ((check f).1), I ((check f).2.1), I ((check f).2.2)]))) (.cons (s_extract (v := I ((check f).1)) (.tmp 15 (.tuple [I ((check f).1), I ((check f).2.1), I ((check f).2.2)])) rfl) (.cons (s_extract (v := I ((check f).2.1)) (.tmp 15 (.tuple [I ((check f).1), I ((check f).2.1), I ((check f).2.2)])) rfl) (.cons (s_extract (v := I ((check f).2.2)) (.tmp 15 (.tuple [I ((check f).1), I ((check f).2.1), I ((check f).2.2)])) rfl) (.cons (s_assign (.tmp 18 (I ((check f).1)))) (.cons (s_assign (.tmp 19 (I ((check f).2.1)))) (.cons (s_assign (.tmp 20 (I ((check f).2.2)))) .nil))))))))) ?_)
 refine AC.seq ?_
 refine AC.rq (fun σ2 => RegOK.m1 [1, 2, 8, 27] ⟨[(1, .slice ((ws).map encA) none), (2, .ptr (σ0 0) 0), (8, I ((check f).2.2)), (27, .bool ((decide ((check f).2.2 = 0) && decide (120 < (ws.length : Int)))))], (.box (σ0 0) (fc f)) :: .hole :: mem⟩ (.cons (s_move (.tmp 8 (I ((check f).2.2)))) (.cons (s_eql (.tmp 21 (I ((check f).2.2))) (.int .i64 (0))) (.cons (s_move (.tmp 22 (.bool (decide ((check f).2.2 = 0))))) (.cons (Step.guard _ rfl (.bool (decide ((check f).2.2 = 0))) gT (fun hb => s_move (.tmp 1 (.slice ((ws).map encA) none)))) (.cons (Step.guard _ rfl (.bool (decide ((check f).2.2 = 0))) gT (fun hb => s_lenM (l := ws) slc54 (.tmpC hb 24 (.slice ((ws).map encA) none)))) (.cons (Step.guard _ rfl (.bool (decide ((check f).2.2 = 0))) gT (fun hb => s_gtr (.tmpC hb 25 (I (ws.length : Int))) (.int .i64 (120)))) (.cons (s_and' (q := decide (120 < (ws.length : Int))) (fun h => h) (.tmp 23 (.bool (decide ((check f).2.2 = 0))))) .nil))))))) ?_)
 refine AC.joinT (fun T => ∃ (e0 : Int), ((e0 = darkE0 f ws)) ∧ T = ⟨[(1, .slice ((ws).map encA) none), (2, .ptr (σ0 0) 0), (8, I e0)], (.box (σ0 0) (fc f)) :: .hole :: mem⟩) ?_ ?_
 ·skip
  refine AC.cend ((decide ((check f).2.2 = 0) && decide (120 < (ws.length : Int)))) rfl rfl (fun hc => ?_) (fun hc => ?_)
  ·have q1 := (iA iD iD).1 hc
   refine AC.re (fun σ3 => RegOK.m1 [1, 2, 8] ⟨[(1, .slice ((ws).map encA) none), (2, .ptr (σ0 0) 0), (8, I 3)], (.box (σ0 0) (fc f)) :: .hole :: mem⟩ (.cons (s_assign (.int .i64 (3))) .nil) ?_)
   exact thenQ_n ⟨_, ⟨3, (by unfold darkE0; first | (rw [if_neg (by omega), if_pos (by omega)]; done) | (by_cases h9 : (check f).2.2 ≠ 0; (rw [if_pos h9]); (rw [if_neg h9, if_neg (by omega)]; omega))), rfl⟩, Weak.of [] (by kernel_rfl) (by kernel_rfl)⟩
  ·have q2 := iF (iA iD iD) hc
   refine AC.skip ?_
   exact thenQ_n ⟨_, ⟨(check f).2.2, (by unfold darkE0; first | (rw [if_neg (by omega), if_pos (by omega)]; done) | (by_cases h9 : (check f).2.2 ≠ 0; (rw [if_pos h9]); (rw [if_neg h9, if_neg (by omega)]; omega))), rfl⟩, Weak.of [] (by kernel_rfl) (by kernel_rfl)⟩
 ·rintro _ ⟨e0, he0, rfl⟩
  refine AC.seq ?_
  refine AC.rq (fun σ4 => RegOK.m1 [1, 2, 8, 9] ⟨[(1, .slice ((ws).map encA) none), (2, .ptr (σ0 0) 0), (8, I e0), (9, I 0)], (.box (σ0 0) (fc f)) :: .hole :: mem⟩ (.cons (s_assign (.int .i64 (0))) .nil) ?_)
  refine AC.block ?_
  refine AC.loopW (fun mz T => ∃ (k : Nat), ∃ (e : Int), mz = ws.length - k ∧ ((k ≤ ws.length) ∧ ((e = e0 ∧ ∀ j : Nat, j < k → opnBad f (ws.getD j (0, 0)) = false) ∨ (e = 4 ∧ e0 = 0 ∧ ws.any (opnBad f) = true))) ∧ T = ⟨[(1, .slice ((ws).map encA) none), (2, .ptr (σ0 0) 0), (8, I e), (9, I (k : Int))], (.box (σ0 0) (fc f)) :: .hole :: mem⟩) _ ⟨[(1, .slice ((ws).map encA) none), (2, .ptr (σ0 0) 0), (8, I (e0)), (9, I ((0) : Int))], (.box (σ0 0) (fc f)) :: .hole :: mem⟩ ⟨0, e0, rfl, ⟨(by omega), (by exact .inl ⟨rfl, fun j hj => by omega⟩)⟩, rfl⟩ (Weak.of [] (by kernel_rfl) (by kernel_rfl)) ?_ Fr.plain
  rintro _ _ ⟨k, e, rfl, ⟨hk, he⟩, rfl⟩
  refine AC.seq ?_
  refine AC.rq (fun σ5 => RegOK.m1 [1, 2, 8, 9, 35] ⟨[(1, .slice ((ws).map encA) none), (2, .ptr (σ0 0) 0), (8, I e), (9, I (k : Int)), (35, .bool ((decide ((k : Int) < (ws.length : Int)) && decide (e = 0))))], (.box (σ0 0) (fc f)) :: .hole :: mem⟩ (.cons (s_move (.tmp 9 (I (k : Int)))) (.cons (s_move (.tmp 1 (.slice ((ws).map encA) none))) (.cons (s_lenM (l := ws) slc54 (.tmp 29 (.slice ((ws).map encA) none))) (.cons (s_lss (.tmp 28 (I (k : Int))) (.tmp 30 (I (ws.length : Int)))) (.cons (s_move (.tmp 31 (.bool (decide ((k : Int) < (ws.length : Int)))))) (.cons (Step.guard _ rfl (.bool (decide ((k : Int) < (ws.length : Int)))) gT (fun hb => s_move (.tmp 8 (I e)))) (.cons (Step.guard _ rfl (.bool (decide ((k : Int) < (ws.length : Int)))) gT (fun hb => s_eql (.tmpC hb 33 (I e)) (.int .i64 (0)))) (.cons (s_and' (q := decide (e = 0)) (fun h => h) (.tmp 32 (.bool (decide ((k : Int) < (ws.length : Int)))))) .nil)))))))) ?_)
  refine AC.cend ((decide ((k : Int) < (ws.length : Int)) && decide (e = 0))) rfl rfl (fun hc => ?_) (fun hc => ?_)
  ·have q3 := (iA iD iD).1 hc
   refine AC.skip ?_
   refine thenQ_n ?_
   refine AC.bseq ?_
   refine AC.rq (fun σ7 => RegOK.m1 [1, 2, 8, 9, 57] ⟨[(1, .slice ((ws).map encA) none), (2, .ptr (σ0 0) 0), (8, I e), (9, I (k : Int)), (57, .bool (((!(inB ((ws.getD k (0, 0)).1) 0 ((f.nodes.length : Int) - 1))) || (!(inB ((ws.getD k (0, 0)).2) 0 2)))))], (.box (σ0 0) (fc f)) :: .hole :: mem⟩ (.cons (s_move (.tmp 1 (.slice ((ws).map encA) none))) (.cons (s_move (.tmp 9 (I (k : Int)))) (.cons (s_ixM (l := ws) (f := encA) ((0, 0)) slc54 (.tmp 38 (.slice ((ws).map encA) none)) (.tmp 39 (I (k : Int))) (by omega) rfl) (.cons (s_fieldAddre fld58_0 (.tmp 40 (.eptr (.agg [I ((ws.getD k (0, 0)).1), I ((ws.getD k (0, 0)).2)]) 0))) (.cons (s_load1e (c := I ((ws.getD k (0, 0)).1)) tyS3 (.tmp 41 (.eptr (.agg [I ((ws.getD k (0, 0)).1), I ((ws.getD k (0, 0)).2)]) 0)) rfl) (.cons (s_fieldAddr fld28_2 (.tmp 2 (.ptr (σ0 0) 0))) (.cons (s_load1 (cs := (fc f)) (c := .slice ((f.nodes).map Node.av) none) 0 tyS24 (.tmp 43 (.ptr (σ0 0) 2)) rfl) (.cons (s_lenM (l := f.nodes) slc24 (.tmp 44 (.slice ((f.nodes).map Node.av) none))) (.cons (s_sub (.tmp 45 (I (f.nodes.length : Int))) (.int .i64 (1)) (inK_i64 (by omega))) (.cons (s_call (r := .bool ((inB ((ws.getD k (0, 0)).1) 0 ((f.nodes.length : Int) - 1)))) (.func 74) (.cons (.tmp 42 (I ((ws.getD k (0, 0)).1))) (.cons (.int .i64 (0)) (.cons (.tmp 46 (I ((f.nodes.length : Int) - 1))) .nil))) call74 (F74 ((ws.getD k (0, 0)).1) (0) (((f.nodes.length : Int) - 1)))) (.cons (s_not (.tmp 47 (.bool ((inB ((ws.getD k (0, 0)).1) 0 ((f.nodes.length : Int) - 1)))))) (.cons (s_move (.tmp 48 (.bool ((!(inB ((ws.getD k (0, 0)).1) 0 ((f.nodes.length : Int) - 1))))))) (.cons (Step.guard _ rfl (.bool ((!(inB ((ws.getD k (0, 0)).1) 0 ((f.nodes.length : Int) - 1))))) gF (fun hb => s_move (.tmp 1 (.slice ((ws).map encA) none)))) (.cons (Step.guard _ rfl (.bool ((!(inB ((ws.getD k (0, 0)).1) 0 ((f.nodes.length : Int) - 1))))) gF (fun hb => s_move (.tmp 9 (I (k : Int))))) (.cons (Step.guard _ rfl (.bool ((!(inB ((ws.getD k (0, 0)).1) 0 ((f.nodes.length : Int) - 1))))) gF (fun hb => s_ixM (l := ws) (f := encA) ((0, 0)) slc54 (.tmpC hb 50 (.slice ((ws).map encA) none)) (.tmpC hb 51 (I (k : Int))) (by have hq := (iN (iN inB_i)).1 hb; omega) rfl)) (.cons (Step.guard _ rfl (.bool ((!(inB ((ws.getD k (0, 0)).1) 0 ((f.nodes.length : Int) - 1))))) gF (fun hb => s_fieldAddre fld58_1 (.tmpC hb 52 (.eptr (.agg [I ((ws.getD k (0, 0)).1), I ((ws.getD k (0, 0)).2)]) 0)))) (.cons (Step.guard _ rfl (.bool ((!(inB ((ws.getD k (0, 0)).1) 0 ((f.nodes.length : Int) - 1))))) gF (fun hb => s_load1e (c := I ((ws.getD k (0, 0)).2)) tyS3 (.tmpC hb 53 (.eptr (.agg [I ((ws.getD k (0, 0)).1), I ((ws.getD k (0, 0)).2)]) 1)) rfl)) (.cons (Step.guard _ rfl (.bool ((!(inB ((ws.getD k (0, 0)).1) 0 ((f.nodes.length : Int) - 1))))) gF (fun hb => s_call (r := .bool ((inB ((ws.getD k (0, 0)).2) 0 2))) (.func 74) (.cons (.tmpC hb 54 (I ((ws.getD k (0, 0)).2))) (.cons (.int .i64 (0)) (.cons (.int .i64 (2)) .nil))) call74 (F74 ((ws.getD k (0, 0)).2) (0) (2)))) (.cons (Step.guard _ rfl (.bool ((!(inB ((ws.getD k (0, 0)).1) 0 ((f.nodes.length : Int) - 1))))) gF (fun hb => s_not (.tmpC hb 55 (.bool ((inB ((ws.getD k (0, 0)).2) 0 2)))))) (.cons (s_or' (e := (!(!(inB ((ws.getD k (0, 0)).1) 0 ((f.nodes.length : Int) - 1))))) (q := (!(inB ((ws.getD k (0, 0)).2) 0 2))) (fun h => (notMk h)) (.tmp 49 (.bool ((!(inB ((ws.getD k (0, 0)).1) 0 ((f.nodes.length : Int) - 1))))))) .nil)))))))))))))))))))) ?_)
   refine AC.cend (((!(inB ((ws.getD k (0, 0)).1) 0 ((f.nodes.length : Int) - 1))) || (!(inB ((ws.getD k (0, 0)).2) 0 2)))) rfl rfl (fun hc => ?_) (fun hc => ?_)
   ·have q4 := (iO (iN inB_i) (iN inB_i)).1 hc
    refine AC.re (fun σ8 => RegOK.m1 [1, 2, 8, 9] ⟨[(1, .slice ((ws).map encA) none), (2, .ptr (σ0 0) 0), (8, I 4), (9, I (k : Int))], (.box (σ0 0) (fc f)) :: .hole :: mem⟩ (.cons (s_assign (.int .i64 (4))) .nil) ?_)
    refine blockQ_n ?_
    refine thenQ_n ?_
    refine AC.re (fun σ6 => RegOK.m1 [1, 2, 8, 9] ⟨[(1, .slice ((ws).map encA) none), (2, .ptr (σ0 0) 0), (8, I 4), (9, I ((k : Int) + 1))], (.box (σ0 0) (fc f)) :: .hole :: mem⟩ (.cons (s_move (.tmp 9 (I (k : Int)))) (.cons (s_add (.tmp 36 (I (k : Int))) (.int .i64 (1)) (inK_i64 (by omega))) (.cons (s_assign (.tmp 37 (I ((k : Int) + 1)))) .nil))) ?_)
    refine thenQ_n ⟨_, ?_, _, ⟨(k + 1), 4, rfl, ⟨(by omega), (by first | exact .inr ⟨rfl, by omega, List.any_eq_true.2 ⟨_, getD_mem (d := (0, 0)) (show k < ws.length by omega), hc⟩⟩ | exact he.elim (fun h9 => .inl ⟨h9.1, fun j hj => by (rcases Decidable.em (j = k) with e9 | e9; (subst e9; exact hc); exact h9.2 j (by omega))⟩) (fun h9 => absurd h9.1 (by omega)))⟩, rfl⟩, Weak.of [] (by kernel_rfl) (by kernel_rfl)⟩
    omega
   ·have q5 := iF (iO (iN inB_i) (iN inB_i)) hc
    refine AC.skip ?_
    refine blockQ_n ?_
    refine thenQ_n ?_
    refine AC.re (fun σ6 => RegOK.m1 [1, 2, 8, 9] ⟨[(1, .slice ((ws).map encA) none), (2, .ptr (σ0 0) 0), (8, I e), (9, I ((k : Int) + 1))], (.box (σ0 0) (fc f)) :: .hole :: mem⟩ (.cons (s_move (.tmp 9 (I (k : Int)))) (.cons (s_add (.tmp 36 (I (k : Int))) (.int .i64 (1)) (inK_i64 (by omega))) (.cons (s_assign (.tmp 37 (I ((k : Int) + 1)))) .nil))) ?_)
    refine thenQ_n ⟨_, ?_, _, ⟨(k + 1), e, rfl, ⟨(by omega), (by first | exact .inr ⟨rfl, by omega, List.any_eq_true.2 ⟨_, getD_mem (d := (0, 0)) (show k < ws.length by omega), hc⟩⟩ | exact he.elim (fun h9 => .inl ⟨h9.1, fun j hj => by (rcases Decidable.em (j = k) with e9 | e9; (subst e9; exact hc); exact h9.2 j (by omega))⟩) (fun h9 => absurd h9.1 (by omega)))⟩, rfl⟩, Weak.of [] (by kernel_rfl) (by kernel_rfl)⟩
    omega
  ·have q6 := iF (iA iD iD) hc
   have hde : e = darkErr f ws := darkE_end he0 he q6 hk
   refine AC.exit ?_
   refine thenQ_x ?_
   refine thenQ_x ?_
   refine blockQ_x ?_
   refine thenQ_n ?_
   refine AC.seq ?_
   refine AC.rq (fun σ9 => RegOK.m1 [1, 2, 8, 59] ⟨[(1, .slice ((ws).map encA) none), (2, .ptr (σ0 0) 0), (8, I e), (59, .bool (decide (e ≠ 0)))], (.box (σ0 0) (fc f)) :: .hole :: mem⟩ (.cons (s_move (.tmp 8 (I e))) (.cons (s_neq (.tmp 58 (I e)) (.int .i64 (0))) .nil)) ?_)
   refine AC.cend (decide (e ≠ 0)) rfl rfl (fun hc => ?_) (fun hc => ?_)
   ·have q7 := iD.1 hc
    refine AC.rq (fun σ10 => RegOK.m1 [4, 5] ⟨[(4, .nils), (5, I e)], (.box (σ0 0) (fc f)) :: .hole :: mem⟩ (.cons (s_move (.tmp 8 (I e))) (.cons (s_assign .nils) (.cons (s_assign (.tmp 60 (I e))) .nil))) ?_)
    refine AC.ret ?_
    refine thenQ_r ?_
    exact FinQ.ret (result2 rfl (res_nils (res_tmp (v := .nils) rfl rfl)) (res_tmp (v := I e) rfl rfl)) ⟨by rw [darkRes_e (e := e) hde.symm (by assumption)]; rfl, rfl⟩
   ·have q8 := iF iD hc
    have hdz : darkErr f ws = 0 := by rw [← hde]; omega
    have dz := dark_zero hdz
    have g := FG.of dz.1
    have hw := opn_ok dz.2.2
    have gnn0 := g.nn
    refine AC.skip ?_
    refine thenQ_n ?_
    refine AC.rq (fun σ11 => RegOK.m1 [1, 2, 10] ⟨[(1, .slice ((ws).map encA) none), (2, .ptr (σ0 0) 0), (10, .nils)], (.box (σ0 0) (fc f)) :: .hole :: mem⟩ (.cons (s_assign .nils) .nil) ?_)
    refine AC.claim 10 1 58 2 rfl rfl (fun c10 => ?_)
    refine AC.seq ?_
    refine AC.rq (fun σ12 => RegOK.m1 [1, 2, 10, 11] ⟨[(1, .slice ((ws).map encA) none), (2, .ptr (σ0 0) 0), (10, .slice ((([] : List (Int × Int))).map encA) (some c10)), (11, I 0)], (.box (σ0 0) (fc f)) :: (.row c10 (0) 58 2) :: mem⟩ (.cons (s_assign (.int .i64 (0))) .nil) ?_)
    refine AC.block ?_
    refine AC.loopW (fun mz T => ∃ (i : Nat), ∃ (l : List Opn), ∃ (s : Nat), mz = f.nodes.length - i ∧ ((i ≤ f.nodes.length) ∧ (l = darkTo f ws i) ∧ (l.length ≤ 3 * i)) ∧ T = ⟨[(1, .slice ((ws).map encA) none), (2, .ptr (σ0 0) 0), (10, .slice ((l).map encA) (some s)), (11, I (i : Int))], (.box (σ0 0) (fc f)) :: (.row s (l.length) 58 2) :: mem⟩) _ ⟨[(1, .slice ((ws).map encA) none), (2, .ptr (σ0 0) 0), (10, .slice (((([] : List (Int × Int)))).map encA) (some (c10))), (11, I ((0) : Int))], (.box (σ0 0) (fc f)) :: (.row (c10) ((([] : List (Int × Int))).length) 58 2) :: mem⟩ ⟨0, ([] : List (Int × Int)), c10, rfl, ⟨(by omega), (by rfl), (by simp)⟩, rfl⟩ (Weak.of [] (by kernel_rfl) (by kernel_rfl)) ?_ Fr.plain
    rintro _ _ ⟨i, l, s, rfl, ⟨hi, hl, hll⟩, rfl⟩
    have gnn := g.nn
    refine AC.seq ?_
    refine AC.rq (fun σ13 => RegOK.m1 [1, 2, 10, 11, 65] ⟨[(1, .slice ((ws).map encA) none), (2, .ptr (σ0 0) 0), (10, .slice ((l).map encA) (some s)), (11, I (i : Int)), (65, .bool (decide ((i : Int) < (f.nodes.length : Int))))], (.box (σ0 0) (fc f)) :: (.row s (l.length) 58 2) :: mem⟩ (.cons (s_move (.tmp 11 (I (i : Int)))) (.cons (s_fieldAddr fld28_2 (.tmp 2 (.ptr (σ0 0) 0))) (.cons (s_load1 (cs := (fc f)) (c := .slice ((f.nodes).map Node.av) none) 0 tyS24 (.tmp 62 (.ptr (σ0 0) 2)) rfl) (.cons (s_lenM (l := f.nodes) slc24 (.tmp 63 (.slice ((f.nodes).map Node.av) none))) (.cons (s_lss (.tmp 61 (I (i : Int))) (.tmp 64 (I (f.nodes.length : Int)))) .nil))))) ?_)
    refine AC.cend (decide ((i : Int) < (f.nodes.length : Int))) rfl rfl (fun hc => ?_) (fun hc => ?_)
    ·have q9 := iD.1 hc
     refine AC.skip ?_
     refine thenQ_n ?_
     refine AC.bseq ?_
     refine AC.rq (fun σ15 => RegOK.m1 [1, 2, 10, 11, 12] ⟨[(1, .slice ((ws).map encA) none), (2, .ptr (σ0 0) 0), (10, .slice ((l).map encA) (some s)), (11, I (i : Int)), (12, I 0)], (.box (σ0 0) (fc f)) :: (.row s (l.length) 58 2) :: mem⟩ (.cons (s_assign (.int .i64 (0))) .nil) ?_)
     refine AC.block ?_
     refine AC.turns (ACL.turn ?_)
     refine AC.seq ?_
     refine AC.rq (fun σ16 => RegOK.m1 [1, 2, 10, 11, 12, 69] ⟨[(1, .slice ((ws).map encA) none), (2, .ptr (σ0 0) 0), (10, .slice ((l).map encA) (some s)), (11, I (i : Int)), (12, I 0), (69, .bool (decide ((0 : Int) < 3)))], (.box (σ0 0) (fc f)) :: (.row s (l.length) 58 2) :: mem⟩ (.cons (s_move (.tmp 12 (I 0))) (.cons (s_lss (.tmp 68 (I 0)) (.int .i64 (3))) .nil)) ?_)
     refine AC.cend (decide ((0 : Int) < 3)) rfl rfl (fun hc => ?_) (fun hc => absurd hc (by simp))
     refine AC.skip ?_
     refine thenQ_n ?_
     refine AC.join (fun T => ∃ (dk0 : List Opn), ∃ (sdk0 : Nat), ((dk0 = l ++ co (isDark f ws i 0) ((i : Int), 0)) ∧ (dk0.length ≤ l.length + 1)) ∧ T = ⟨[(1, .slice ((ws).map encA) none), (2, .ptr (σ0 0) 0), (10, .slice ((dk0).map encA) (some sdk0)), (11, I (i : Int)), (12, I 0)], (.box (σ0 0) (fc f)) :: (.row sdk0 (dk0.length) 58 2) :: mem⟩) ?_ ?_
     ·skip
      refine AC.block ?_
      refine AC.rq (fun σ18 => RegOK.m1 [1, 2, 10, 11, 12, 13] ⟨[(1, .slice ((ws).map encA) none), (2, .ptr (σ0 0) 0), (10, .slice ((l).map encA) (some s)), (11, I (i : Int)), (12, I 0), (13, .bool (false))], (.box (σ0 0) (fc f)) :: (.row s (l.length) 58 2) :: mem⟩ (.cons (s_assign (.bool false)) .nil) ?_)
      refine AC.seq ?_
      refine AC.rq (fun σ19 => RegOK.m1 [1, 2, 10, 11, 12, 13, 14] ⟨[(1, .slice ((ws).map encA) none), (2, .ptr (σ0 0) 0), (10, .slice ((l).map encA) (some s)), (11, I (i : Int)), (12, I 0), (13, .bool (false)), (14, I 0)], (.box (σ0 0) (fc f)) :: (.row s (l.length) 58 2) :: mem⟩ (.cons (s_assign (.int .i64 (0))) .nil) ?_)
      refine AC.block ?_
      refine AC.loopW (fun mz T => ∃ (q : Nat), ∃ (b : Bool), mz = ws.length - q ∧ ((q ≤ ws.length) ∧ (b = (ws.take q).any fun w => decide (w.2 = 0) && beh f.nodes w.1.toNat i)) ∧ T = ⟨[(1, .slice ((ws).map encA) none), (2, .ptr (σ0 0) 0), (10, .slice ((l).map encA) (some s)), (11, I (i : Int)), (12, I 0), (13, .bool (b)), (14, I (q : Int))], (.box (σ0 0) (fc f)) :: (.row s (l.length) 58 2) :: mem⟩) _ ⟨[(1, .slice ((ws).map encA) none), (2, .ptr (σ0 0) 0), (10, .slice ((l).map encA) (some s)), (11, I (i : Int)), (12, I 0), (13, .bool ((false))), (14, I ((0) : Int))], (.box (σ0 0) (fc f)) :: (.row s (l.length) 58 2) :: mem⟩ ⟨0, false, rfl, ⟨(by omega), (by rfl)⟩, rfl⟩ (Weak.of [] (by kernel_rfl) (by kernel_rfl)) ?_ Fr.plain
      rintro _ _ ⟨q, b, rfl, ⟨hq, hb⟩, rfl⟩
      refine AC.seq ?_
      refine AC.rq (fun σ20 => RegOK.m1 [1, 2, 10, 11, 12, 13, 14, 75] ⟨[(1, .slice ((ws).map encA) none), (2, .ptr (σ0 0) 0), (10, .slice ((l).map encA) (some s)), (11, I (i : Int)), (12, I 0), (13, .bool (b)), (14, I (q : Int)), (75, .bool (decide ((q : Int) < (ws.length : Int))))], (.box (σ0 0) (fc f)) :: (.row s (l.length) 58 2) :: mem⟩ (.cons (s_move (.tmp 14 (I (q : Int)))) (.cons (s_move (.tmp 1 (.slice ((ws).map encA) none))) (.cons (s_lenM (l := ws) slc54 (.tmp 73 (.slice ((ws).map encA) none))) (.cons (s_lss (.tmp 72 (I (q : Int))) (.tmp 74 (I (ws.length : Int)))) .nil)))) ?_)
      refine AC.cend (decide ((q : Int) < (ws.length : Int))) rfl rfl (fun hc => ?_) (fun hc => ?_)
      ·have q10 := iD.1 hc
       obtain ⟨n, hn⟩ : ∃ n : Nat, (ws.getD q (0, 0)).1 = (n : Int) := ⟨(ws.getD q (0, 0)).1.toNat, by have := (hw q (by omega)).1; omega⟩
       have hnp : ws.getD q (0, 0) = ((n : Int), (ws.getD q (0, 0)).2) := by rw [← hn]
       have hnl : n < f.nodes.length := by have := (hw q (by omega)).1; omega
       refine AC.skip ?_
       refine thenQ_n ?_
       refine AC.bseq ?_
       refine AC.re (fun σ22 => RegOK.m1 [1, 2, 10, 11, 12, 13, 14] ⟨[(1, .slice ((ws).map encA) none), (2, .ptr (σ0 0) 0), (10, .slice ((l).map encA) (some s)), (11, I (i : Int)), (12, I 0), (13, .bool ((b || (decide ((ws.getD q (0, 0)).2 = 0) && (decide ((n : Int) = 0) || (onB f.nodes n i)))))), (14, I (q : Int))], (.box (σ0 0) (fc f)) :: (.row s (l.length) 58 2) :: mem⟩ (.cons (s_move (.tmp 13 (.bool (b)))) (.cons (s_move (.tmp 78 (.bool (b)))) (.cons (Step.guard _ rfl (.bool (b)) gF (fun hb => s_move (.tmp 1 (.slice ((ws).map encA) none)))) (.cons (Step.guard _ rfl (.bool (b)) gF (fun hb => s_move (.tmp 14 (I (q : Int))))) (.cons (Step.guard _ rfl (.bool (b)) gF (fun hb => s_ixV (l := ws) (f := encA) (v := ((n : Int), (ws.getD q (0, 0)).2)) ((0, 0)) (by exact hnp) slc54 (.tmpC hb 80 (.slice ((ws).map encA) none)) (.tmpC hb 81 (I (q : Int))) (by have hq := (iN iB).1 hb; omega) rfl)) (.cons (Step.guard _ rfl (.bool (b)) gF (fun hb => s_fieldAddre fld58_1 (.tmpC hb 82 (.eptr (.agg [I (n : Int), I ((ws.getD q (0, 0)).2)]) 0)))) (.cons (Step.guard _ rfl (.bool (b)) gF (fun hb => s_load1e (c := I ((ws.getD q (0, 0)).2)) tyS3 (.tmpC hb 83 (.eptr (.agg [I (n : Int), I ((ws.getD q (0, 0)).2)]) 1)) rfl)) (.cons (Step.guard _ rfl (.bool (b)) gF (fun hb => s_move (.tmp 12 (I 0)))) (.cons (Step.guard _ rfl (.bool (b)) gF (fun hb => s_eql (.tmpC hb 84 (I ((ws.getD q (0, 0)).2))) (.tmpC hb 85 (I 0)))) (.cons (Step.guard _ rfl (.bool (b)) gF (fun hb => s_move (.tmpC hb 86 (.bool (decide ((ws.getD q (0, 0)).2 = 0)))))) (.cons (Step.guard _ rfl (.cond ((!b)) (.bool (decide ((ws.getD q (0, 0)).2 = 0)))) gcT (fun hb => s_move (.tmp 1 (.slice ((ws).map encA) none)))) (.cons (Step.guard _ rfl (.cond ((!b)) (.bool (decide ((ws.getD q (0, 0)).2 = 0)))) gcT (fun hb => s_move (.tmp 14 (I (q : Int))))) (.cons (Step.guard _ rfl (.cond ((!b)) (.bool (decide ((ws.getD q (0, 0)).2 = 0)))) gcT (fun hb => s_ixV (l := ws) (f := encA) (v := ((n : Int), (ws.getD q (0, 0)).2)) ((0, 0)) (by exact hnp) slc54 (.tmpC hb 88 (.slice ((ws).map encA) none)) (.tmpC hb 89 (I (q : Int))) (by have hq := (iA (iN iB) iD).1 hb; omega) rfl)) (.cons (Step.guard _ rfl (.cond ((!b)) (.bool (decide ((ws.getD q (0, 0)).2 = 0)))) gcT (fun hb => s_fieldAddre fld58_0 (.tmpC hb 90 (.eptr (.agg [I (n : Int), I ((ws.getD q (0, 0)).2)]) 0)))) (.cons (Step.guard _ rfl (.cond ((!b)) (.bool (decide ((ws.getD q (0, 0)).2 = 0)))) gcT (fun hb => s_load1e (c := I (n : Int)) tyS3 (.tmpC hb 91 (.eptr (.agg [I (n : Int), I ((ws.getD q (0, 0)).2)]) 0)) rfl)) (.cons (Step.guard _ rfl (.cond ((!b)) (.bool (decide ((ws.getD q (0, 0)).2 = 0)))) gcT (fun hb => s_eql (.tmpC hb 92 (I (n : Int))) (.int .i64 (0)))) (.cons (Step.guard _ rfl (.cond ((!b)) (.bool (decide ((ws.getD q (0, 0)).2 = 0)))) gcT (fun hb => s_move (.tmpC hb 93 (.bool (decide ((n : Int) = 0)))))) (.cons (Step.guard _ rfl (.cond (((!b) && decide ((ws.getD q (0, 0)).2 = 0))) (.bool (decide ((n : Int) = 0)))) gcF (fun hb => s_loadA (cs := (fc f)) (l := (fc f)) 0 tyA28 (.tmp 2 (.ptr (σ0 0) 0)) rfl rfl)) (.cons (Step.guard _ rfl (.cond (((!b) && decide ((ws.getD q (0, 0)).2 = 0))) (.bool (decide ((n : Int) = 0)))) gcF (fun hb => s_move (.tmp 1 (.slice ((ws).map encA) none)))) (.cons (Step.guard _ rfl (.cond (((!b) && decide ((ws.getD q (0, 0)).2 = 0))) (.bool (decide ((n : Int) = 0)))) gcF (fun hb => s_move (.tmp 14 (I (q : Int))))) (.cons (Step.guard _ rfl (.cond (((!b) && decide ((ws.getD q (0, 0)).2 = 0))) (.bool (decide ((n : Int) = 0)))) gcF (fun hb => s_ixV (l := ws) (f := encA) (v := ((n : Int), (ws.getD q (0, 0)).2)) ((0, 0)) (by exact hnp) slc54 (.tmpC hb 96 (.slice ((ws).map encA) none)) (.tmpC hb 97 (I (q : Int))) (by have hq := (iA (iA (iN iB) iD) (iN iD)).1 hb; omega) rfl)) (.cons (Step.guard _ rfl (.cond (((!b) && decide ((ws.getD q (0, 0)).2 = 0))) (.bool (decide ((n : Int) = 0)))) gcF (fun hb => s_fieldAddre fld58_0 (.tmpC hb 98 (.eptr (.agg [I (n : Int), I ((ws.getD q (0, 0)).2)]) 0)))) (.cons (Step.guard _ rfl (.cond (((!b) && decide ((ws.getD q (0, 0)).2 = 0))) (.bool (decide ((n : Int) = 0)))) gcF (fun hb => s_load1e (c := I (n : Int)) tyS3 (.tmpC hb 99 (.eptr (.agg [I (n : Int), I ((ws.getD q (0, 0)).2)]) 0)) rfl)) (.cons (Step.guard _ rfl (.cond (((!b) && decide ((ws.getD q (0, 0)).2 = 0))) (.bool (decide ((n : Int) = 0)))) gcF (fun hb => s_move (.tmp 11 (I (i : Int))))) (.cons (Step.guard _ rfl (.cond (((!b) && decide ((ws.getD q (0, 0)).2 = 0))) (.bool (decide ((n : Int) = 0)))) gcF (fun hb => s_call (r := .bool ((onB f.nodes n i))) (.func 89) (.cons (.tmpC hb 95 (Feeder.av f)) (.cons (.tmpC hb 100 (I (n : Int))) (.cons (.tmpC hb 101 (I (i : Int))) .nil))) call89 (F89 (f) (n) (i) (by have hq := (iA (iA (iN iB) iD) (iN iD)).1 hb; assumption) (by have hq := (iA (iA (iN iB) iD) (iN iD)).1 hb; omega)))) (.cons (Step.guard _ rfl (.cond ((!b)) (.bool (decide ((ws.getD q (0, 0)).2 = 0)))) gcT (fun hb => s_or' (e := (((!b) && decide ((ws.getD q (0, 0)).2 = 0)) && (!(decide ((n : Int) = 0))))) (q := (onB f.nodes n i)) (fun h => andMk hb (notMk h)) (.tmpC hb 94 (.bool (decide ((n : Int) = 0)))))) (.cons (Step.guard _ rfl (.bool (b)) gF (fun hb => s_and' (e := ((!b) && decide ((ws.getD q (0, 0)).2 = 0))) (q := (decide ((n : Int) = 0) || (onB f.nodes n i))) (fun h => andMk hb h) (.tmpC hb 87 (.bool (decide ((ws.getD q (0, 0)).2 = 0)))))) (.cons (s_or' (e := (!b)) (q := (decide ((ws.getD q (0, 0)).2 = 0) && (decide ((n : Int) = 0) || (onB f.nodes n i)))) (fun h => (notMk h)) (.tmp 79 (.bool (b)))) (.cons (s_assign (.tmp 105 (.bool ((b || (decide ((ws.getD q (0, 0)).2 = 0) && (decide ((n : Int) = 0) || (onB f.nodes n i)))))))) .nil))))))))))))))))))))))))))))) ?_)
       refine blockQ_n ?_
       refine thenQ_n ?_
       refine AC.re (fun σ21 => RegOK.m1 [1, 2, 10, 11, 12, 13, 14] ⟨[(1, .slice ((ws).map encA) none), (2, .ptr (σ0 0) 0), (10, .slice ((l).map encA) (some s)), (11, I (i : Int)), (12, I 0), (13, .bool ((b || (decide ((ws.getD q (0, 0)).2 = 0) && (decide ((n : Int) = 0) || (onB f.nodes n i)))))), (14, I ((q : Int) + 1))], (.box (σ0 0) (fc f)) :: (.row s (l.length) 58 2) :: mem⟩ (.cons (s_move (.tmp 14 (I (q : Int)))) (.cons (s_add (.tmp 76 (I (q : Int))) (.int .i64 (1)) (inK_i64 (by omega))) (.cons (s_assign (.tmp 77 (I ((q : Int) + 1)))) .nil))) ?_)
       refine thenQ_n ⟨_, ?_, _, ⟨(q + 1), (b || (decide ((ws.getD q (0, 0)).2 = 0) && (decide ((n : Int) = 0) || (onB f.nodes n i)))), rfl, ⟨(by omega), (by exact dark_step hb (by omega) hn rfl)⟩, rfl⟩, Weak.of [] (by kernel_rfl) (by kernel_rfl)⟩
       omega
      ·have q11 := iF iD hc
       have hqe : q = ws.length := by omega
       refine AC.exit ?_
       refine thenQ_x ?_
       refine thenQ_x ?_
       refine blockQ_x ?_
       refine thenQ_n ?_
       refine AC.rq (fun σ23 => RegOK.m1 [1, 2, 10, 11, 12, 106] ⟨[(1, .slice ((ws).map encA) none), (2, .ptr (σ0 0) 0), (10, .slice ((l).map encA) (some s)), (11, I (i : Int)), (12, I 0), (106, .bool (b))], (.box (σ0 0) (fc f)) :: (.row s (l.length) 58 2) :: mem⟩ (.cons (s_move (.tmp 13 (.bool (b)))) .nil) ?_)
       refine AC.cend (b) rfl rfl (fun hc => ?_) (fun hc => ?_)
       ·have q12 := iB.1 hc
        refine AC.re (fun σ24 => RegOK.m1 [1, 2, 10, 11, 12] ⟨[(1, .slice ((ws).map encA) none), (2, .ptr (σ0 0) 0), (10, .slice (((l ++ [((i : Int), 0)])).map encA) (some (σ24 5))), (11, I (i : Int)), (12, I 0)], (.box (σ0 0) (fc f)) :: (.row (σ24 5) ((l ++ [((i : Int), 0)]).length) 58 2) :: mem⟩ (.cons (s_move (.tmp 10 (.slice ((l).map encA) (some s)))) (.cons (s_move (.tmp 11 (I (i : Int)))) (.cons (s_move (.tmp 12 (I 0))) (.cons (s_build (l := [I (i : Int), I 0]) zero58 plc58 (.cons rfl (.tmp 108 (I (i : Int))) (.cons rfl (.tmp 109 (I 0)) .nil)) rfl) (.cons (s_buildSlice' (es := [.agg [I (i : Int), I 0]]) zero58 slc54 rfl rfl (.cons rfl (.tmp 110 (.agg [I (i : Int), I 0])) .nil) rfl rfl) (.cons (s_appendM (l := l) (l2 := [((i : Int), 0)]) (f := encA) 1 (σ24 5) slc54 zero58 byt58 rfl (by decide) (.tmp 107 (.slice ((l).map encA) (some s))) (.tmp 111 (.slice (([((i : Int), 0)]).map encA) none)) (by simp) (fun _ => rfl) (fun _ => rfl) (by simp only [List.length_cons, List.length_nil]; omega)) (.cons (s_assign (.tmp 112 (.slice (((l ++ [((i : Int), 0)])).map encA) (some (σ24 5))))) .nil))))))) ?_)
        refine blockQ_n ?_
        exact thenQ_n ⟨_, ⟨(l ++ [((i : Int), 0)]), (σ24 5), ⟨(by first | (rw [show isDark f ws i 0 = true from (dark_b hb hqe).trans hc]; rfl) | (rw [show isDark f ws i 0 = false from (dark_b hb hqe).trans hc]; exact (List.append_nil _).symm)), (by first | omega | (simp only [List.length_append, List.length_cons, List.length_nil]; omega))⟩, rfl⟩, Weak.of [] (by kernel_rfl) (by kernel_rfl)⟩
       ·have q13 := iF iB hc
        refine AC.skip ?_
        refine blockQ_n ?_
        exact thenQ_n ⟨_, ⟨l, s, ⟨(by first | (rw [show isDark f ws i 0 = true from (dark_b hb hqe).trans hc]; rfl) | (rw [show isDark f ws i 0 = false from (dark_b hb hqe).trans hc]; exact (List.append_nil _).symm)), (by first | omega | (simp only [List.length_append, List.length_cons, List.length_nil]; omega))⟩, rfl⟩, Weak.of [] (by kernel_rfl) (by kernel_rfl)⟩
     ·rintro _ ⟨dk0, sdk0, ⟨Edk0, Hdk0⟩, rfl⟩
      refine AC.re (fun σ17 => RegOK.m1 [1, 2, 10, 11, 12] ⟨[(1, .slice ((ws).map encA) none), (2, .ptr (σ0 0) 0), (10, .slice ((dk0).map encA) (some sdk0)), (11, I (i : Int)), (12, I 1)], (.box (σ0 0) (fc f)) :: (.row sdk0 (dk0.length) 58 2) :: mem⟩ (.cons (s_move (.tmp 12 (I 0))) (.cons (s_add (.tmp 70 (I 0)) (.int .i64 (1)) (inK_i64 (by decide))) (.cons (s_assign (.tmp 71 (I 1))) .nil))) ?_)
      refine thenQ_n (ACL.turn ?_)
      refine AC.seq ?_
      refine AC.rq (fun σ16 => RegOK.m1 [1, 2, 10, 11, 12, 69] ⟨[(1, .slice ((ws).map encA) none), (2, .ptr (σ0 0) 0), (10, .slice ((dk0).map encA) (some sdk0)), (11, I (i : Int)), (12, I 1), (69, .bool (decide ((1 : Int) < 3)))], (.box (σ0 0) (fc f)) :: (.row sdk0 (dk0.length) 58 2) :: mem⟩ (.cons (s_move (.tmp 12 (I 1))) (.cons (s_lss (.tmp 68 (I 1)) (.int .i64 (3))) .nil)) ?_)
      refine AC.cend (decide ((1 : Int) < 3)) rfl rfl (fun hc => ?_) (fun hc => absurd hc (by simp))
      refine AC.skip ?_
      refine thenQ_n ?_
      refine AC.join (fun T => ∃ (dk1 : List Opn), ∃ (sdk1 : Nat), ((dk1 = dk0 ++ co (isDark f ws i 1) ((i : Int), 1)) ∧ (dk1.length ≤ dk0.length + 1)) ∧ T = ⟨[(1, .slice ((ws).map encA) none), (2, .ptr (σ0 0) 0), (10, .slice ((dk1).map encA) (some sdk1)), (11, I (i : Int)), (12, I 1)], (.box (σ0 0) (fc f)) :: (.row sdk1 (dk1.length) 58 2) :: mem⟩) ?_ ?_
      ·skip
       refine AC.block ?_
       refine AC.rq (fun σ18 => RegOK.m1 [1, 2, 10, 11, 12, 13] ⟨[(1, .slice ((ws).map encA) none), (2, .ptr (σ0 0) 0), (10, .slice ((dk0).map encA) (some sdk0)), (11, I (i : Int)), (12, I 1), (13, .bool (false))], (.box (σ0 0) (fc f)) :: (.row sdk0 (dk0.length) 58 2) :: mem⟩ (.cons (s_assign (.bool false)) .nil) ?_)
       refine AC.seq ?_
       refine AC.rq (fun σ19 => RegOK.m1 [1, 2, 10, 11, 12, 13, 14] ⟨[(1, .slice ((ws).map encA) none), (2, .ptr (σ0 0) 0), (10, .slice ((dk0).map encA) (some sdk0)), (11, I (i : Int)), (12, I 1), (13, .bool (false)), (14, I 0)], (.box (σ0 0) (fc f)) :: (.row sdk0 (dk0.length) 58 2) :: mem⟩ (.cons (s_assign (.int .i64 (0))) .nil) ?_)
       refine AC.block ?_
       refine AC.loopW (fun mz T => ∃ (q : Nat), ∃ (b : Bool), mz = ws.length - q ∧ ((q ≤ ws.length) ∧ (b = (ws.take q).any fun w => decide (w.2 = 1) && beh f.nodes w.1.toNat i)) ∧ T = ⟨[(1, .slice ((ws).map encA) none), (2, .ptr (σ0 0) 0), (10, .slice ((dk0).map encA) (some sdk0)), (11, I (i : Int)), (12, I 1), (13, .bool (b)), (14, I (q : Int))], (.box (σ0 0) (fc f)) :: (.row sdk0 (dk0.length) 58 2) :: mem⟩) _ ⟨[(1, .slice ((ws).map encA) none), (2, .ptr (σ0 0) 0), (10, .slice ((dk0).map encA) (some sdk0)), (11, I (i : Int)), (12, I 1), (13, .bool ((false))), (14, I ((0) : Int))], (.box (σ0 0) (fc f)) :: (.row sdk0 (dk0.length) 58 2) :: mem⟩ ⟨0, false, rfl, ⟨(by omega), (by rfl)⟩, rfl⟩ (Weak.of [] (by kernel_rfl) (by kernel_rfl)) ?_ Fr.plain
       rintro _ _ ⟨q, b, rfl, ⟨hq, hb⟩, rfl⟩
       refine AC.seq ?_
       refine AC.rq (fun σ20 => RegOK.m1 [1, 2, 10, 11, 12, 13, 14, 75] ⟨[(1, .slice ((ws).map encA) none), (2, .ptr (σ0 0) 0), (10, .slice ((dk0).map encA) (some sdk0)), (11, I (i : Int)), (12, I 1), (13, .bool (b)), (14, I (q : Int)), (75, .bool (decide ((q : Int) < (ws.length : Int))))], (.box (σ0 0) (fc f)) :: (.row sdk0 (dk0.length) 58 2) :: mem⟩ (.cons (s_move (.tmp 14 (I (q : Int)))) (.cons (s_move (.tmp 1 (.slice ((ws).map encA) none))) (.cons (s_lenM (l := ws) slc54 (.tmp 73 (.slice ((ws).map encA) none))) (.cons (s_lss (.tmp 72 (I (q : Int))) (.tmp 74 (I (ws.length : Int)))) .nil)))) ?_)
       refine AC.cend (decide ((q : Int) < (ws.length : Int))) rfl rfl (fun hc => ?_) (fun hc => ?_)
       ·have q14 := iD.1 hc
        obtain ⟨n, hn⟩ : ∃ n : Nat, (ws.getD q (0, 0)).1 = (n : Int) := ⟨(ws.getD q (0, 0)).1.toNat, by have := (hw q (by omega)).1; omega⟩
        have hnp : ws.getD q (0, 0) = ((n : Int), (ws.getD q (0, 0)).2) := by rw [← hn]
        have hnl : n < f.nodes.length := by have := (hw q (by omega)).1; omega
        refine AC.skip ?_
        refine thenQ_n ?_
        refine AC.bseq ?_
        refine AC.re (fun σ22 => RegOK.m1 [1, 2, 10, 11, 12, 13, 14] ⟨[(1, .slice ((ws).map encA) none), (2, .ptr (σ0 0) 0), (10, .slice ((dk0).map encA) (some sdk0)), (11, I (i : Int)), (12, I 1), (13, .bool ((b || (decide ((ws.getD q (0, 0)).2 = 1) && (decide ((n : Int) = 0) || (onB f.nodes n i)))))), (14, I (q : Int))], (.box (σ0 0) (fc f)) :: (.row sdk0 (dk0.length) 58 2) :: mem⟩ (.cons (s_move (.tmp 13 (.bool (b)))) (.cons (s_move (.tmp 78 (.bool (b)))) (.cons (Step.guard _ rfl (.bool (b)) gF (fun hb => s_move (.tmp 1 (.slice ((ws).map encA) none)))) (.cons (Step.guard _ rfl (.bool (b)) gF (fun hb => s_move (.tmp 14 (I (q : Int))))) (.cons (Step.guard _ rfl (.bool (b)) gF (fun hb => s_ixV (l := ws) (f := encA) (v := ((n : Int), (ws.getD q (0, 0)).2)) ((0, 0)) (by exact hnp) slc54 (.tmpC hb 80 (.slice ((ws).map encA) none)) (.tmpC hb 81 (I (q : Int))) (by have hq := (iN iB).1 hb; omega) rfl)) (.cons (Step.guard _ rfl (.bool (b)) gF (fun hb => s_fieldAddre fld58_1 (.tmpC hb 82 (.eptr (.agg [I (n : Int), I ((ws.getD q (0, 0)).2)]) 0)))) (.cons (Step.guard _ rfl (.bool (b)) gF (fun hb => s_load1e (c := I ((ws.getD q (0, 0)).2)) tyS3 (.tmpC hb 83 (.eptr (.agg [I (n : Int), I ((ws.getD q (0, 0)).2)]) 1)) rfl)) (.cons (Step.guard _ rfl (.bool (b)) gF (fun hb => s_move (.tmp 12 (I 1)))) (.cons (Step.guard _ rfl (.bool (b)) gF (fun hb => s_eql (.tmpC hb 84 (I ((ws.getD q (0, 0)).2))) (.tmpC hb 85 (I 1)))) (.cons (Step.guard _ rfl (.bool (b)) gF (fun hb => s_move (.tmpC hb 86 (.bool (decide ((ws.getD q (0, 0)).2 = 1)))))) (.cons (Step.guard _ rfl (.cond ((!b)) (.bool (decide ((ws.getD q (0, 0)).2 = 1)))) gcT (fun hb => s_move (.tmp 1 (.slice ((ws).map encA) none)))) (.cons (Step.guard _ rfl (.cond ((!b)) (.bool (decide ((ws.getD q (0, 0)).2 = 1)))) gcT (fun hb => s_move (.tmp 14 (I (q : Int))))) (.cons (Step.guard _ rfl (.cond ((!b)) (.bool (decide ((ws.getD q (0, 0)).2 = 1)))) gcT (fun hb => s_ixV (l := ws) (f := encA) (v := ((n : Int), (ws.getD q (0, 0)).2)) ((0, 0)) (by exact hnp) slc54 (.tmpC hb 88 (.slice ((ws).map encA) none)) (.tmpC hb 89 (I (q : Int))) (by have hq := (iA (iN iB) iD).1 hb; omega) rfl)) (.cons (Step.guard _ rfl (.cond ((!b)) (.bool (decide ((ws.getD q (0, 0)).2 = 1)))) gcT (fun hb => s_fieldAddre fld58_0 (.tmpC hb 90 (.eptr (.agg [I (n : Int), I ((ws.getD q (0, 0)).2)]) 0)))) (.cons (Step.guard _ rfl (.cond ((!b)) (.bool (decide ((ws.getD q (0, 0)).2 = 1)))) gcT (fun hb => s_load1e (c := I (n : Int)) tyS3 (.tmpC hb 91 (.eptr (.agg [I (n : Int), I ((ws.getD q (0, 0)).2)]) 0)) rfl)) (.cons (Step.guard _ rfl (.cond ((!b)) (.bool (decide ((ws.getD q (0, 0)).2 = 1)))) gcT (fun hb => s_eql (.tmpC hb 92 (I (n : Int))) (.int .i64 (0)))) (.cons (Step.guard _ rfl (.cond ((!b)) (.bool (decide ((ws.getD q (0, 0)).2 = 1)))) gcT (fun hb => s_move (.tmpC hb 93 (.bool (decide ((n : Int) = 0)))))) (.cons (Step.guard _ rfl (.cond (((!b) && decide ((ws.getD q (0, 0)).2 = 1))) (.bool (decide ((n : Int) = 0)))) gcF (fun hb => s_loadA (cs := (fc f)) (l := (fc f)) 0 tyA28 (.tmp 2 (.ptr (σ0 0) 0)) rfl rfl)) (.cons (Step.guard _ rfl (.cond (((!b) && decide ((ws.getD q (0, 0)).2 = 1))) (.bool (decide ((n : Int) = 0)))) gcF (fun hb => s_move (.tmp 1 (.slice ((ws).map encA) none)))) (.cons (Step.guard _ rfl (.cond (((!b) && decide ((ws.getD q (0, 0)).2 = 1))) (.bool (decide ((n : Int) = 0)))) gcF (fun hb => s_move (.tmp 14 (I (q : Int))))) (.cons (Step.guard _ rfl (.cond (((!b) && decide ((ws.getD q (0, 0)).2 = 1))) (.bool (decide ((n : Int) = 0)))) gcF (fun hb => s_ixV (l := ws) (f := encA) (v := ((n : Int), (ws.getD q (0, 0)).2)) ((0, 0)) (by exact hnp) slc54 (.tmpC hb 96 (.slice ((ws).map encA) none)) (.tmpC hb 97 (I (q : Int))) (by have hq := (iA (iA (iN iB) iD) (iN iD)).1 hb; omega) rfl)) (.cons (Step.guard _ rfl (.cond (((!b) && decide ((ws.getD q (0, 0)).2 = 1))) (.bool (decide ((n : Int) = 0)))) gcF (fun hb => s_fieldAddre fld58_0 (.tmpC hb 98 (.eptr (.agg [I (n : Int), I ((ws.getD q (0, 0)).2)]) 0)))) (.cons (Step.guard _ rfl (.cond (((!b) && decide ((ws.getD q (0, 0)).2 = 1))) (.bool (decide ((n : Int) = 0)))) gcF (fun hb => s_load1e (c := I (n : Int)) tyS3 (.tmpC hb 99 (.eptr (.agg [I (n : Int), I ((ws.getD q (0, 0)).2)]) 0)) rfl)) (.cons (Step.guard _ rfl (.cond (((!b) && decide ((ws.getD q (0, 0)).2 = 1))) (.bool (decide ((n : Int) = 0)))) gcF (fun hb => s_move (.tmp 11 (I (i : Int))))) (.cons (Step.guard _ rfl (.cond (((!b) && decide ((ws.getD q (0, 0)).2 = 1))) (.bool (decide ((n : Int) = 0)))) gcF (fun hb => s_call (r := .bool ((onB f.nodes n i))) (.func 89) (.cons (.tmpC hb 95 (Feeder.av f)) (.cons (.tmpC hb 100 (I (n : Int))) (.cons (.tmpC hb 101 (I (i : Int))) .nil))) call89 (F89 (f) (n) (i) (by have hq := (iA (iA (iN iB) iD) (iN iD)).1 hb; assumption) (by have hq := (iA (iA (iN iB) iD) (iN iD)).1 hb; omega)))) (.cons (Step.guard _ rfl (.cond ((!b)) (.bool (decide ((ws.getD q (0, 0)).2 = 1)))) gcT (fun hb => s_or' (e := (((!b) && decide ((ws.getD q (0, 0)).2 = 1)) && (!(decide ((n : Int) = 0))))) (q := (onB f.nodes n i)) (fun h => andMk hb (notMk h)) (.tmpC hb 94 (.bool (decide ((n : Int) = 0)))))) (.cons (Step.guard _ rfl (.bool (b)) gF (fun hb => s_and' (e := ((!b) && decide ((ws.getD q (0, 0)).2 = 1))) (q := (decide ((n : Int) = 0) || (onB f.nodes n i))) (fun h => andMk hb h) (.tmpC hb 87 (.bool (decide ((ws.getD q (0, 0)).2 = 1)))))) (.cons (s_or' (e := (!b)) (q := (decide ((ws.getD q (0, 0)).2 = 1) && (decide ((n : Int) = 0) || (onB f.nodes n i)))) (fun h => (notMk h)) (.tmp 79 (.bool (b)))) (.cons (s_assign (.tmp 105 (.bool ((b || (decide ((ws.getD q (0, 0)).2 = 1) && (decide ((n : Int) = 0) || (onB f.nodes n i)))))))) .nil))))))))))))))))))))))))))))) ?_)
        refine blockQ_n ?_
        refine thenQ_n ?_
        refine AC.re (fun σ21 => RegOK.m1 [1, 2, 10, 11, 12, 13, 14] ⟨[(1, .slice ((ws).map encA) none), (2, .ptr (σ0 0) 0), (10, .slice ((dk0).map encA) (some sdk0)), (11, I (i : Int)), (12, I 1), (13, .bool ((b || (decide ((ws.getD q (0, 0)).2 = 1) && (decide ((n : Int) = 0) || (onB f.nodes n i)))))), (14, I ((q : Int) + 1))], (.box (σ0 0) (fc f)) :: (.row sdk0 (dk0.length) 58 2) :: mem⟩ (.cons (s_move (.tmp 14 (I (q : Int)))) (.cons (s_add (.tmp 76 (I (q : Int))) (.int .i64 (1)) (inK_i64 (by omega))) (.cons (s_assign (.tmp 77 (I ((q : Int) + 1)))) .nil))) ?_)
        refine thenQ_n ⟨_, ?_, _, ⟨(q + 1), (b || (decide ((ws.getD q (0, 0)).2 = 1) && (decide ((n : Int) = 0) || (onB f.nodes n i)))), rfl, ⟨(by omega), (by exact dark_step hb (by omega) hn rfl)⟩, rfl⟩, Weak.of [] (by kernel_rfl) (by kernel_rfl)⟩
        omega
       ·have q15 := iF iD hc
        have hqe : q = ws.length := by omega
        refine AC.exit ?_
        refine thenQ_x ?_
        refine thenQ_x ?_
        refine blockQ_x ?_
        refine thenQ_n ?_
        refine AC.rq (fun σ23 => RegOK.m1 [1, 2, 10, 11, 12, 106] ⟨[(1, .slice ((ws).map encA) none), (2, .ptr (σ0 0) 0), (10, .slice ((dk0).map encA) (some sdk0)), (11, I (i : Int)), (12, I 1), (106, .bool (b))], (.box (σ0 0) (fc f)) :: (.row sdk0 (dk0.length) 58 2) :: mem⟩ (.cons (s_move (.tmp 13 (.bool (b)))) .nil) ?_)
        refine AC.cend (b) rfl rfl (fun hc => ?_) (fun hc => ?_)
        ·have q16 := iB.1 hc
         refine AC.re (fun σ24 => RegOK.m1 [1, 2, 10, 11, 12] ⟨[(1, .slice ((ws).map encA) none), (2, .ptr (σ0 0) 0), (10, .slice (((dk0 ++ [((i : Int), 1)])).map encA) (some (σ24 5))), (11, I (i : Int)), (12, I 1)], (.box (σ0 0) (fc f)) :: (.row (σ24 5) ((dk0 ++ [((i : Int), 1)]).length) 58 2) :: mem⟩ (.cons (s_move (.tmp 10 (.slice ((dk0).map encA) (some sdk0)))) (.cons (s_move (.tmp 11 (I (i : Int)))) (.cons (s_move (.tmp 12 (I 1))) (.cons (s_build (l := [I (i : Int), I 1]) zero58 plc58 (.cons rfl (.tmp 108 (I (i : Int))) (.cons rfl (.tmp 109 (I 1)) .nil)) rfl) (.cons (s_buildSlice' (es := [.agg [I (i : Int), I 1]]) zero58 slc54 rfl rfl (.cons rfl (.tmp 110 (.agg [I (i : Int), I 1])) .nil) rfl rfl) (.cons (s_appendM (l := dk0) (l2 := [((i : Int), 1)]) (f := encA) 1 (σ24 5) slc54 zero58 byt58 rfl (by decide) (.tmp 107 (.slice ((dk0).map encA) (some sdk0))) (.tmp 111 (.slice (([((i : Int), 1)]).map encA) none)) (by simp) (fun _ => rfl) (fun _ => rfl) (by simp only [List.length_cons, List.length_nil]; omega)) (.cons (s_assign (.tmp 112 (.slice (((dk0 ++ [((i : Int), 1)])).map encA) (some (σ24 5))))) .nil))))))) ?_)
         refine blockQ_n ?_
         exact thenQ_n ⟨_, ⟨(dk0 ++ [((i : Int), 1)]), (σ24 5), ⟨(by first | (rw [show isDark f ws i 1 = true from (dark_b hb hqe).trans hc]; rfl) | (rw [show isDark f ws i 1 = false from (dark_b hb hqe).trans hc]; exact (List.append_nil _).symm)), (by first | omega | (simp only [List.length_append, List.length_cons, List.length_nil]; omega))⟩, rfl⟩, Weak.of [] (by kernel_rfl) (by kernel_rfl)⟩
        ·have q17 := iF iB hc
         refine AC.skip ?_
         refine blockQ_n ?_
         exact thenQ_n ⟨_, ⟨dk0, sdk0, ⟨(by first | (rw [show isDark f ws i 1 = true from (dark_b hb hqe).trans hc]; rfl) | (rw [show isDark f ws i 1 = false from (dark_b hb hqe).trans hc]; exact (List.append_nil _).symm)), (by first | omega | (simp only [List.length_append, List.length_cons, List.length_nil]; omega))⟩, rfl⟩, Weak.of [] (by kernel_rfl) (by kernel_rfl)⟩
      ·rintro _ ⟨dk1, sdk1, ⟨Edk1, Hdk1⟩, rfl⟩
       refine AC.re (fun σ17 => RegOK.m1 [1, 2, 10, 11, 12] ⟨[(1, .slice ((ws).map encA) none), (2, .ptr (σ0 0) 0), (10, .slice ((dk1).map encA) (some sdk1)), (11, I (i : Int)), (12, I 2)], (.box (σ0 0) (fc f)) :: (.row sdk1 (dk1.length) 58 2) :: mem⟩ (.cons (s_move (.tmp 12 (I 1))) (.cons (s_add (.tmp 70 (I 1)) (.int .i64 (1)) (inK_i64 (by decide))) (.cons (s_assign (.tmp 71 (I 2))) .nil))) ?_)
       refine thenQ_n (ACL.turn ?_)
       refine AC.seq ?_
       refine AC.rq (fun σ16 => RegOK.m1 [1, 2, 10, 11, 12, 69] ⟨[(1, .slice ((ws).map encA) none), (2, .ptr (σ0 0) 0), (10, .slice ((dk1).map encA) (some sdk1)), (11, I (i : Int)), (12, I 2), (69, .bool (decide ((2 : Int) < 3)))], (.box (σ0 0) (fc f)) :: (.row sdk1 (dk1.length) 58 2) :: mem⟩ (.cons (s_move (.tmp 12 (I 2))) (.cons (s_lss (.tmp 68 (I 2)) (.int .i64 (3))) .nil)) ?_)
       refine AC.cend (decide ((2 : Int) < 3)) rfl rfl (fun hc => ?_) (fun hc => absurd hc (by simp))
       refine AC.skip ?_
       refine thenQ_n ?_
       refine AC.join (fun T => ∃ (dk2 : List Opn), ∃ (sdk2 : Nat), ((dk2 = dk1 ++ co (isDark f ws i 2) ((i : Int), 2)) ∧ (dk2.length ≤ dk1.length + 1)) ∧ T = ⟨[(1, .slice ((ws).map encA) none), (2, .ptr (σ0 0) 0), (10, .slice ((dk2).map encA) (some sdk2)), (11, I (i : Int)), (12, I 2)], (.box (σ0 0) (fc f)) :: (.row sdk2 (dk2.length) 58 2) :: mem⟩) ?_ ?_
       ·skip
        refine AC.block ?_
        refine AC.rq (fun σ18 => RegOK.m1 [1, 2, 10, 11, 12, 13] ⟨[(1, .slice ((ws).map encA) none), (2, .ptr (σ0 0) 0), (10, .slice ((dk1).map encA) (some sdk1)), (11, I (i : Int)), (12, I 2), (13, .bool (false))], (.box (σ0 0) (fc f)) :: (.row sdk1 (dk1.length) 58 2) :: mem⟩ (.cons (s_assign (.bool false)) .nil) ?_)
        refine AC.seq ?_
        refine AC.rq (fun σ19 => RegOK.m1 [1, 2, 10, 11, 12, 13, 14] ⟨[(1, .slice ((ws).map encA) none), (2, .ptr (σ0 0) 0), (10, .slice ((dk1).map encA) (some sdk1)), (11, I (i : Int)), (12, I 2), (13, .bool (false)), (14, I 0)], (.box (σ0 0) (fc f)) :: (.row sdk1 (dk1.length) 58 2) :: mem⟩ (.cons (s_assign (.int .i64 (0))) .nil) ?_)
        refine AC.block ?_
        refine AC.loopW (fun mz T => ∃ (q : Nat), ∃ (b : Bool), mz = ws.length - q ∧ ((q ≤ ws.length) ∧ (b = (ws.take q).any fun w => decide (w.2 = 2) && beh f.nodes w.1.toNat i)) ∧ T = ⟨[(1, .slice ((ws).map encA) none), (2, .ptr (σ0 0) 0), (10, .slice ((dk1).map encA) (some sdk1)), (11, I (i : Int)), (12, I 2), (13, .bool (b)), (14, I (q : Int))], (.box (σ0 0) (fc f)) :: (.row sdk1 (dk1.length) 58 2) :: mem⟩) _ ⟨[(1, .slice ((ws).map encA) none), (2, .ptr (σ0 0) 0), (10, .slice ((dk1).map encA) (some sdk1)), (11, I (i : Int)), (12, I 2), (13, .bool ((false))), (14, I ((0) : Int))], (.box (σ0 0) (fc f)) :: (.row sdk1 (dk1.length) 58 2) :: mem⟩ ⟨0, false, rfl, ⟨(by omega), (by rfl)⟩, rfl⟩ (Weak.of [] (by kernel_rfl) (by kernel_rfl)) ?_ Fr.plain
        rintro _ _ ⟨q, b, rfl, ⟨hq, hb⟩, rfl⟩
        refine AC.seq ?_
        refine AC.rq (fun σ20 => RegOK.m1 [1, 2, 10, 11, 12, 13, 14, 75] ⟨[(1, .slice ((ws).map encA) none), (2, .ptr (σ0 0) 0), (10, .slice ((dk1).map encA) (some sdk1)), (11, I (i : Int)), (12, I 2), (13, .bool (b)), (14, I (q : Int)), (75, .bool (decide ((q : Int) < (ws.length : Int))))], (.box (σ0 0) (fc f)) :: (.row sdk1 (dk1.length) 58 2) :: mem⟩ (.cons (s_move (.tmp 14 (I (q : Int)))) (.cons (s_move (.tmp 1 (.slice ((ws).map encA) none))) (.cons (s_lenM (l := ws) slc54 (.tmp 73 (.slice ((ws).map encA) none))) (.cons (s_lss (.tmp 72 (I (q : Int))) (.tmp 74 (I (ws.length : Int)))) .nil)))) ?_)
        refine AC.cend (decide ((q : Int) < (ws.length : Int))) rfl rfl (fun hc => ?_) (fun hc => ?_)
        ·have q18 := iD.1 hc
         obtain ⟨n, hn⟩ : ∃ n : Nat, (ws.getD q (0, 0)).1 = (n : Int) := ⟨(ws.getD q (0, 0)).1.toNat, by have := (hw q (by omega)).1; omega⟩
         have hnp : ws.getD q (0, 0) = ((n : Int), (ws.getD q (0, 0)).2) := by rw [← hn]
         have hnl : n < f.nodes.length := by have := (hw q (by omega)).1; omega
         refine AC.skip ?_
         refine thenQ_n ?_
         refine AC.bseq ?_
         refine AC.re (fun σ22 => RegOK.m1 [1, 2, 10, 11, 12, 13, 14] ⟨[(1, .slice ((ws).map encA) none), (2, .ptr (σ0 0) 0), (10, .slice ((dk1).map encA) (some sdk1)), (11, I (i : Int)), (12, I 2), (13, .bool ((b || (decide ((ws.getD q (0, 0)).2 = 2) && (decide ((n : Int) = 0) || (onB f.nodes n i)))))), (14, I (q : Int))], (.box (σ0 0) (fc f)) :: (.row sdk1 (dk1.length) 58 2) :: mem⟩ (.cons (s_move (.tmp 13 (.bool (b)))) (.cons (s_move (.tmp 78 (.bool (b)))) (.cons (Step.guard _ rfl (.bool (b)) gF (fun hb => s_move (.tmp 1 (.slice ((ws).map encA) none)))) (.cons (Step.guard _ rfl (.bool (b)) gF (fun hb => s_move (.tmp 14 (I (q : Int))))) (.cons (Step.guard _ rfl (.bool (b)) gF (fun hb => s_ixV (l := ws) (f := encA) (v := ((n : Int), (ws.getD q (0, 0)).2)) ((0, 0)) (by exact hnp) slc54 (.tmpC hb 80 (.slice ((ws).map encA) none)) (.tmpC hb 81 (I (q : Int))) (by have hq := (iN iB).1 hb; omega) rfl)) (.cons (Step.guard _ rfl (.bool (b)) gF (fun hb => s_fieldAddre fld58_1 (.tmpC hb 82 (.eptr (.agg [I (n : Int), I ((ws.getD q (0, 0)).2)]) 0)))) (.cons (Step.guard _ rfl (.bool (b)) gF (fun hb => s_load1e (c := I ((ws.getD q (0, 0)).2)) tyS3 (.tmpC hb 83 (.eptr (.agg [I (n : Int), I ((ws.getD q (0, 0)).2)]) 1)) rfl)) (.cons (Step.guard _ rfl (.bool (b)) gF (fun hb => s_move (.tmp 12 (I 2)))) (.cons (Step.guard _ rfl (.bool (b)) gF (fun hb => s_eql (.tmpC hb 84 (I ((ws.getD q (0, 0)).2))) (.tmpC hb 85 (I 2)))) (.cons (Step.guard _ rfl (.bool (b)) gF (fun hb => s_move (.tmpC hb 86 (.bool (decide ((ws.getD q (0, 0)).2 = 2)))))) (.cons (Step.guard _ rfl (.cond ((!b)) (.bool (decide ((ws.getD q (0, 0)).2 = 2)))) gcT (fun hb => s_move (.tmp 1 (.slice ((ws).map encA) none)))) (.cons (Step.guard _ rfl (.cond ((!b)) (.bool (decide ((ws.getD q (0, 0)).2 = 2)))) gcT (fun hb => s_move (.tmp 14 (I (q : Int))))) (.cons (Step.guard _ rfl (.cond ((!b)) (.bool (decide ((ws.getD q (0, 0)).2 = 2)))) gcT (fun hb => s_ixV (l := ws) (f := encA) (v := ((n : Int), (ws.getD q (0, 0)).2)) ((0, 0)) (by exact hnp) slc54 (.tmpC hb 88 (.slice ((ws).map encA) none)) (.tmpC hb 89 (I (q : Int))) (by have hq := (iA (iN iB) iD).1 hb; omega) rfl)) (.cons (Step.guard _ rfl (.cond ((!b)) (.bool (decide ((ws.getD q (0, 0)).2 = 2)))) gcT (fun hb => s_fieldAddre fld58_0 (.tmpC hb 90 (.eptr (.agg [I (n : Int), I ((ws.getD q (0, 0)).2)]) 0)))) (.cons (Step.guard _ rfl (.cond ((!b)) (.bool (decide ((ws.getD q (0, 0)).2 = 2)))) gcT (fun hb => s_load1e (c := I (n : Int)) tyS3 (.tmpC hb 91 (.eptr (.agg [I (n : Int), I ((ws.getD q (0, 0)).2)]) 0)) rfl)) (.cons (Step.guard _ rfl (.cond ((!b)) (.bool (decide ((ws.getD q (0, 0)).2 = 2)))) gcT (fun hb => s_eql (.tmpC hb 92 (I (n : Int))) (.int .i64 (0)))) (.cons (Step.guard _ rfl (.cond ((!b)) (.bool (decide ((ws.getD q (0, 0)).2 = 2)))) gcT (fun hb => s_move (.tmpC hb 93 (.bool (decide ((n : Int) = 0)))))) (.cons (Step.guard _ rfl (.cond (((!b) && decide ((ws.getD q (0, 0)).2 = 2))) (.bool (decide ((n : Int) = 0)))) gcF (fun hb => s_loadA (cs := (fc f)) (l := (fc f)) 0 tyA28 (.tmp 2 (.ptr (σ0 0) 0)) rfl rfl)) (.cons (Step.guard _ rfl (.cond (((!b) && decide ((ws.getD q (0, 0)).2 = 2))) (.bool (decide ((n : Int) = 0)))) gcF (fun hb => s_move (.tmp 1 (.slice ((ws).map encA) none)))) (.cons (Step.guard _ rfl (.cond (((!b) && decide ((ws.getD q (0, 0)).2 = 2))) (.bool (decide ((n : Int) = 0)))) gcF (fun hb => s_move (.tmp 14 (I (q : Int))))) (.cons (Step.guard _ rfl (.cond (((!b) && decide ((ws.getD q (0, 0)).2 = 2))) (.bool (decide ((n : Int) = 0)))) gcF (fun hb => s_ixV (l := ws) (f := encA) (v := ((n : Int), (ws.getD q (0, 0)).2)) ((0, 0)) (by exact hnp) slc54 (.tmpC hb 96 (.slice ((ws).map encA) none)) (.tmpC hb 97 (I (q : Int))) (by have hq := (iA (iA (iN iB) iD) (iN iD)).1 hb; omega) rfl)) (.cons (Step.guard _ rfl (.cond (((!b) && decide ((ws.getD q (0, 0)).2 = 2))) (.bool (decide ((n : Int) = 0)))) gcF (fun hb => s_fieldAddre fld58_0 (.tmpC hb 98 (.eptr (.agg [I (n : Int), I ((ws.getD q (0, 0)).2)]) 0)))) (.cons (Step.guard _ rfl (.cond (((!b) && decide ((ws.getD q (0, 0)).2 = 2))) (.bool (decide ((n : Int) = 0)))) gcF (fun hb => s_load1e (c := I (n : Int)) tyS3 (.tmpC hb 99 (.eptr (.agg [I (n : Int), I ((ws.getD q (0, 0)).2)]) 0)) rfl)) (.cons (Step.guard _ rfl (.cond (((!b) && decide ((ws.getD q (0, 0)).2 = 2))) (.bool (decide ((n : Int) = 0)))) gcF (fun hb => s_move (.tmp 11 (I (i : Int))))) (.cons (Step.guard _ rfl (.cond (((!b) && decide ((ws.getD q (0, 0)).2 = 2))) (.bool (decide ((n : Int) = 0)))) gcF (fun hb => s_call (r := .bool ((onB f.nodes n i))) (.func 89) (.cons (.tmpC hb 95 (Feeder.av f)) (.cons (.tmpC hb 100 (I (n : Int))) (.cons (.tmpC hb 101 (I (i : Int))) .nil))) call89 (F89 (f) (n) (i) (by have hq := (iA (iA (iN iB) iD) (iN iD)).1 hb; assumption) (by have hq := (iA (iA (iN iB) iD) (iN iD)).1 hb; omega)))) (.cons (Step.guard _ rfl (.cond ((!b)) (.bool (decide ((ws.getD q (0, 0)).2 = 2)))) gcT (fun hb => s_or' (e := (((!b) && decide ((ws.getD q (0, 0)).2 = 2)) && (!(decide ((n : Int) = 0))))) (q := (onB f.nodes n i)) (fun h => andMk hb (notMk h)) (.tmpC hb 94 (.bool (decide ((n : Int) = 0)))))) (.cons (Step.guard _ rfl (.bool (b)) gF (fun hb => s_and' (e := ((!b) && decide ((ws.getD q (0, 0)).2 = 2))) (q := (decide ((n : Int) = 0) || (onB f.nodes n i))) (fun h => andMk hb h) (.tmpC hb 87 (.bool (decide ((ws.getD q (0, 0)).2 = 2)))))) (.cons (s_or' (e := (!b)) (q := (decide ((ws.getD q (0, 0)).2 = 2) && (decide ((n : Int) = 0) || (onB f.nodes n i)))) (fun h => (notMk h)) (.tmp 79 (.bool (b)))) (.cons (s_assign (.tmp 105 (.bool ((b || (decide ((ws.getD q (0, 0)).2 = 2) && (decide ((n : Int) = 0) || (onB f.nodes n i)))))))) .nil))))))))))))))))))))))))))))) ?_)
         refine blockQ_n ?_
         refine thenQ_n ?_
         refine AC.re (fun σ21 => RegOK.m1 [1, 2, 10, 11, 12, 13, 14] ⟨[(1, .slice ((ws).map encA) none), (2, .ptr (σ0 0) 0), (10, .slice ((dk1).map encA) (some sdk1)), (11, I (i : Int)), (12, I 2), (13, .bool ((b || (decide ((ws.getD q (0, 0)).2 = 2) && (decide ((n : Int) = 0) || (onB f.nodes n i)))))), (14, I ((q : Int) + 1))], (.box (σ0 0) (fc f)) :: (.row sdk1 (dk1.length) 58 2) :: mem⟩ (.cons (s_move (.tmp 14 (I (q : Int)))) (.cons (s_add (.tmp 76 (I (q : Int))) (.int .i64 (1)) (inK_i64 (by omega))) (.cons (s_assign (.tmp 77 (I ((q : Int) + 1)))) .nil))) ?_)
         refine thenQ_n ⟨_, ?_, _, ⟨(q + 1), (b || (decide ((ws.getD q (0, 0)).2 = 2) && (decide ((n : Int) = 0) || (onB f.nodes n i)))), rfl, ⟨(by omega), (by exact dark_step hb (by omega) hn rfl)⟩, rfl⟩, Weak.of [] (by kernel_rfl) (by kernel_rfl)⟩
         omega
        ·have q19 := iF iD hc
         have hqe : q = ws.length := by omega
         refine AC.exit ?_
         refine thenQ_x ?_
         refine thenQ_x ?_
         refine blockQ_x ?_
         refine thenQ_n ?_
         refine AC.rq (fun σ23 => RegOK.m1 [1, 2, 10, 11, 12, 106] ⟨[(1, .slice ((ws).map encA) none), (2, .ptr (σ0 0) 0), (10, .slice ((dk1).map encA) (some sdk1)), (11, I (i : Int)), (12, I 2), (106, .bool (b))], (.box (σ0 0) (fc f)) :: (.row sdk1 (dk1.length) 58 2) :: mem⟩ (.cons (s_move (.tmp 13 (.bool (b)))) .nil) ?_)
         refine AC.cend (b) rfl rfl (fun hc => ?_) (fun hc => ?_)
         ·have q20 := iB.1 hc
          refine AC.re (fun σ24 => RegOK.m1 [1, 2, 10, 11, 12] ⟨[(1, .slice ((ws).map encA) none), (2, .ptr (σ0 0) 0), (10, .slice (((dk1 ++ [((i : Int), 2)])).map encA) (some (σ24 5))), (11, I (i : Int)), (12, I 2)], (.box (σ0 0) (fc f)) :: (.row (σ24 5) ((dk1 ++ [((i : Int), 2)]).length) 58 2) :: mem⟩ (.cons (s_move (.tmp 10 (.slice ((dk1).map encA) (some sdk1)))) (.cons (s_move (.tmp 11 (I (i : Int)))) (.cons (s_move (.tmp 12 (I 2))) (.cons (s_build (l := [I (i : Int), I 2]) zero58 plc58 (.cons rfl (.tmp 108 (I (i : Int))) (.cons rfl (.tmp 109 (I 2)) .nil)) rfl) (.cons (s_buildSlice' (es := [.agg [I (i : Int), I 2]]) zero58 slc54 rfl rfl (.cons rfl (.tmp 110 (.agg [I (i : Int), I 2])) .nil) rfl rfl) (.cons (s_appendM (l := dk1) (l2 := [((i : Int), 2)]) (f := encA) 1 (σ24 5) slc54 zero58 byt58 rfl (by decide) (.tmp 107 (.slice ((dk1).map encA) (some sdk1))) (.tmp 111 (.slice (([((i : Int), 2)]).map encA) none)) (by simp) (fun _ => rfl) (fun _ => rfl) (by simp only [List.length_cons, List.length_nil]; omega)) (.cons (s_assign (.tmp 112 (.slice (((dk1 ++ [((i : Int), 2)])).map encA) (some (σ24 5))))) .nil))))))) ?_)
          refine blockQ_n ?_
          exact thenQ_n ⟨_, ⟨(dk1 ++ [((i : Int), 2)]), (σ24 5), ⟨(by first | (rw [show isDark f ws i 2 = true from (dark_b hb hqe).trans hc]; rfl) | (rw [show isDark f ws i 2 = false from (dark_b hb hqe).trans hc]; exact (List.append_nil _).symm)), (by first | omega | (simp only [List.length_append, List.length_cons, List.length_nil]; omega))⟩, rfl⟩, Weak.of [] (by kernel_rfl) (by kernel_rfl)⟩
         ·have q21 := iF iB hc
          refine AC.skip ?_
          refine blockQ_n ?_
          exact thenQ_n ⟨_, ⟨dk1, sdk1, ⟨(by first | (rw [show isDark f ws i 2 = true from (dark_b hb hqe).trans hc]; rfl) | (rw [show isDark f ws i 2 = false from (dark_b hb hqe).trans hc]; exact (List.append_nil _).symm)), (by first | omega | (simp only [List.length_append, List.length_cons, List.length_nil]; omega))⟩, rfl⟩, Weak.of [] (by kernel_rfl) (by kernel_rfl)⟩
       ·rintro _ ⟨dk2, sdk2, ⟨Edk2, Hdk2⟩, rfl⟩
        refine AC.re (fun σ17 => RegOK.m1 [1, 2, 10, 11, 12] ⟨[(1, .slice ((ws).map encA) none), (2, .ptr (σ0 0) 0), (10, .slice ((dk2).map encA) (some sdk2)), (11, I (i : Int)), (12, I 3)], (.box (σ0 0) (fc f)) :: (.row sdk2 (dk2.length) 58 2) :: mem⟩ (.cons (s_move (.tmp 12 (I 2))) (.cons (s_add (.tmp 70 (I 2)) (.int .i64 (1)) (inK_i64 (by decide))) (.cons (s_assign (.tmp 71 (I 3))) .nil))) ?_)
        refine thenQ_n (ACL.turn ?_)
        refine AC.seq ?_
        refine AC.rq (fun σ16 => RegOK.m1 [1, 2, 10, 11, 12, 69] ⟨[(1, .slice ((ws).map encA) none), (2, .ptr (σ0 0) 0), (10, .slice ((dk2).map encA) (some sdk2)), (11, I (i : Int)), (12, I 3), (69, .bool (decide ((3 : Int) < 3)))], (.box (σ0 0) (fc f)) :: (.row sdk2 (dk2.length) 58 2) :: mem⟩ (.cons (s_move (.tmp 12 (I 3))) (.cons (s_lss (.tmp 68 (I 3)) (.int .i64 (3))) .nil)) ?_)
        refine AC.cend (decide ((3 : Int) < 3)) rfl rfl (fun hc => absurd hc (by simp)) (fun hc => ?_)
        refine AC.exit ?_
        refine thenQ_x ?_
        refine thenQ_x ?_
        refine blockQ_x ?_
        refine blockQ_n ?_
        refine thenQ_n ?_
        refine AC.re (fun σ14 => RegOK.m1 [1, 2, 10, 11] ⟨[(1, .slice ((ws).map encA) none), (2, .ptr (σ0 0) 0), (10, .slice ((dk2).map encA) (some sdk2)), (11, I ((i : Int) + 1))], (.box (σ0 0) (fc f)) :: (.row sdk2 (dk2.length) 58 2) :: mem⟩ (.cons (s_move (.tmp 11 (I (i : Int)))) (.cons (s_add (.tmp 66 (I (i : Int))) (.int .i64 (1)) (inK_i64 (by omega))) (.cons (s_assign (.tmp 67 (I ((i : Int) + 1)))) .nil))) ?_)
        refine thenQ_n ⟨_, ?_, _, ⟨(i + 1), dk2, sdk2, rfl, ⟨(by omega), (by rw [Edk2, Edk1, Edk0, hl]; show _ = darkTo f ws i ++ darkAt f ws i; unfold darkAt; simp only [List.append_assoc]), (by omega)⟩, rfl⟩, Weak.of [] (by kernel_rfl) (by kernel_rfl)⟩
        omega
    ·have q22 := iF iD hc
     refine AC.exit ?_
     refine thenQ_x ?_
     refine thenQ_x ?_
     refine blockQ_x ?_
     refine thenQ_n ?_
     refine AC.rq (fun σ25 => RegOK.m1 [4, 5] ⟨[(4, .slice ((l).map encA) (some s)), (5, I 0)], (.box (σ0 0) (fc f)) :: (.row s (l.length) 58 2) :: mem⟩ (.cons (s_move (.tmp 10 (.slice ((l).map encA) (some s)))) (.cons (s_assign (.tmp 113 (.slice ((l).map encA) (some s)))) (.cons (s_assign (.int .i64 (0))) .nil))) ?_)
     refine AC.ret ?_
     exact FinQ.ret (result2 rfl (res_free (res_tmp (v := .slice ((l).map encA) (some s)) rfl rfl)) (res_tmp (v := I 0) rfl rfl)) ⟨by (have ei : i = f.nodes.length := by omega); subst ei; rw [darkRes_0 hdz, hl], rfl⟩
end Go.Proofs.Yteomgedahkpnlaa
end
section
set_option maxRecDepth 100000
namespace Go.Proofs.Yteomgedahkpnlaa
open Go.Proofs
theorem F37 (l m : List Opn) (hl : (l.length : Int) ≤ 9223372036854775807) (hm : (m.length : Int) ≤ 9223372036854775807) : Pure Try.prog 37 [.slice ((l).map encA) none, .slice ((m).map encA) none] (.bool (decide (l = m))) := by
 intro mem
 refine Meets.body 0 Try.func37 rfl rfl ?_
 refine AC.rq (fun σ0 => RegOK.m1 [0, 1] ⟨[(0, .slice ((l).map encA) none), (1, .slice ((m).map encA) none)], mem⟩ (.cons (s_assign (.bool false)) .nil) ?_)
 refine AC.seq ?_
 refine AC.rq (fun σ1 => RegOK.m1 [0, 1, 10] ⟨[(0, .slice ((l).map encA) none), (1, .slice ((m).map encA) none), (10, .bool (decide ((l.length : Int) ≠ (m.length : Int))))], mem⟩ (.cons (s_move (.tmp 0 (.slice ((l).map encA) none))) (.cons (s_lenM (l := l) slc54 (.tmp 6 (.slice ((l).map encA) none))) (.cons (s_move (.tmp 1 (.slice ((m).map encA) none))) (.cons (s_lenM (l := m) slc54 (.tmp 8 (.slice ((m).map encA) none))) (.cons (s_neq (.tmp 7 (I (l.length : Int))) (.tmp 9 (I (m.length : Int)))) .nil))))) ?_)
 refine AC.cend (decide ((l.length : Int) ≠ (m.length : Int))) rfl rfl (fun hc => ?_) (fun hc => ?_)
 ·have q1 := iD.1 hc
  refine AC.rq (fun σ2 => RegOK.m1 [4] ⟨[(4, .bool (false))], mem⟩ (.cons (s_assign (.bool false)) .nil) ?_)
  refine AC.ret ?_
  refine thenQ_r ?_
  exact FinQ.ret (result1 rfl (res_tmp (v := .bool (false)) rfl rfl)) ⟨by refine congrArg AV.bool ?_; symm; first | exact decide_eq_false (fun h => by subst h; omega) | exact decide_eq_true (same_all (by omega) (fun j hj => hn j (by omega))) | exact decide_eq_false (fun h => by subst h; simp at hc), rfl⟩
 ·have q2 := iF iD hc
  refine AC.skip ?_
  refine thenQ_n ?_
  refine AC.seq ?_
  refine AC.rq (fun σ3 => RegOK.m1 [0, 1, 5] ⟨[(0, .slice ((l).map encA) none), (1, .slice ((m).map encA) none), (5, I 0)], mem⟩ (.cons (s_assign (.int .i64 (0))) .nil) ?_)
  refine AC.block ?_
  refine AC.loopW (fun mz T => ∃ (k : Nat), mz = l.length - k ∧ ((k ≤ l.length) ∧ (∀ j : Nat, j < k → l.getD j (0, 0) = m.getD j (0, 0))) ∧ T = ⟨[(0, .slice ((l).map encA) none), (1, .slice ((m).map encA) none), (5, I (k : Int))], mem⟩) _ ⟨[(0, .slice ((l).map encA) none), (1, .slice ((m).map encA) none), (5, I ((0) : Int))], mem⟩ ⟨0, rfl, ⟨(by omega), (by intro j hj; omega)⟩, rfl⟩ (Weak.of [] (by kernel_rfl) (by kernel_rfl)) ?_ Fr.plain
  rintro _ _ ⟨k, rfl, ⟨hk, hn⟩, rfl⟩
  refine AC.seq ?_
  refine AC.rq (fun σ4 => RegOK.m1 [0, 1, 5, 14] ⟨[(0, .slice ((l).map encA) none), (1, .slice ((m).map encA) none), (5, I (k : Int)), (14, .bool (decide ((k : Int) < (l.length : Int))))], mem⟩ (.cons (s_move (.tmp 5 (I (k : Int)))) (.cons (s_move (.tmp 0 (.slice ((l).map encA) none))) (.cons (s_lenM (l := l) slc54 (.tmp 12 (.slice ((l).map encA) none))) (.cons (s_lss (.tmp 11 (I (k : Int))) (.tmp 13 (I (l.length : Int)))) .nil)))) ?_)
  refine AC.cend (decide ((k : Int) < (l.length : Int))) rfl rfl (fun hc => ?_) (fun hc => ?_)
  ·have q3 := iD.1 hc
   refine AC.skip ?_
   refine thenQ_n ?_
   refine AC.bseq ?_
   refine AC.rq (fun σ6 => RegOK.m1 [0, 1, 5, 25] ⟨[(0, .slice ((l).map encA) none), (1, .slice ((m).map encA) none), (5, I (k : Int)), (25, .bool ((!(decide ((l.getD k (0, 0)).1 = (m.getD k (0, 0)).1) && (decide ((l.getD k (0, 0)).2 = (m.getD k (0, 0)).2) && true)))))], mem⟩ (.cons (s_move (.tmp 0 (.slice ((l).map encA) none))) (.cons (s_move (.tmp 5 (I (k : Int)))) (.cons (s_ixM (l := l) (f := encA) ((0, 0)) slc54 (.tmp 17 (.slice ((l).map encA) none)) (.tmp 18 (I (k : Int))) (by omega) rfl) (.cons (s_loadAe (l := [I ((l.getD k (0, 0)).1), I ((l.getD k (0, 0)).2)]) tyA58 (.tmp 19 (.eptr (.agg [I ((l.getD k (0, 0)).1), I ((l.getD k (0, 0)).2)]) 0)) rfl rfl) (.cons (s_move (.tmp 1 (.slice ((m).map encA) none))) (.cons (s_move (.tmp 5 (I (k : Int)))) (.cons (s_ixM (l := m) (f := encA) ((0, 0)) slc54 (.tmp 21 (.slice ((m).map encA) none)) (.tmp 22 (I (k : Int))) (by omega) rfl) (.cons (s_loadAe (l := [I ((m.getD k (0, 0)).1), I ((m.getD k (0, 0)).2)]) tyA58 (.tmp 23 (.eptr (.agg [I ((m.getD k (0, 0)).1), I ((m.getD k (0, 0)).2)]) 0)) rfl rfl) (.cons (s_data_neq (.tmp 20 (.agg [I ((l.getD k (0, 0)).1), I ((l.getD k (0, 0)).2)])) (.tmp 24 (.agg [I ((m.getD k (0, 0)).1), I ((m.getD k (0, 0)).2)])) (eqT58 ((l.getD k (0, 0)).1) ((l.getD k (0, 0)).2) ((m.getD k (0, 0)).1) ((m.getD k (0, 0)).2)) rfl rfl rfl) .nil))))))))) ?_)
   refine AC.cend ((!(decide ((l.getD k (0, 0)).1 = (m.getD k (0, 0)).1) && (decide ((l.getD k (0, 0)).2 = (m.getD k (0, 0)).2) && true)))) rfl rfl (fun hc => ?_) (fun hc => ?_)
   ·have q4 := (iN (iA iD (iA iD iB))).1 hc
    refine AC.rq (fun σ7 => RegOK.m1 [4] ⟨[(4, .bool (false))], mem⟩ (.cons (s_assign (.bool false)) .nil) ?_)
    refine AC.ret ?_
    refine blockQ_r ?_
    refine thenQ_r ?_
    refine thenQ_r ?_
    refine blockQ_r ?_
    refine thenQ_r ?_
    exact FinQ.ret (result1 rfl (res_tmp (v := .bool (false)) rfl rfl)) ⟨by refine congrArg AV.bool ?_; symm; first | exact decide_eq_false (fun h => by subst h; omega) | exact decide_eq_true (same_all (by omega) (fun j hj => hn j (by omega))) | exact decide_eq_false (fun h => by subst h; simp at hc), rfl⟩
   ·have q5 := iF (iN (iA iD (iA iD iB))) hc
    refine AC.skip ?_
    refine blockQ_n ?_
    refine thenQ_n ?_
    refine AC.re (fun σ5 => RegOK.m1 [0, 1, 5] ⟨[(0, .slice ((l).map encA) none), (1, .slice ((m).map encA) none), (5, I ((k : Int) + 1))], mem⟩ (.cons (s_move (.tmp 5 (I (k : Int)))) (.cons (s_add (.tmp 15 (I (k : Int))) (.int .i64 (1)) (inK_i64 (by omega))) (.cons (s_assign (.tmp 16 (I ((k : Int) + 1)))) .nil))) ?_)
    refine thenQ_n ⟨_, ?_, _, ⟨(k + 1), rfl, ⟨(by omega), (by intro j hj; rcases Decidable.em (j = k) with e | e; (subst e; exact same_at hc); exact hn j (by omega))⟩, rfl⟩, Weak.of [] (by kernel_rfl) (by kernel_rfl)⟩
    omega
  ·have q6 := iF iD hc
   refine AC.exit ?_
   refine thenQ_x ?_
   refine thenQ_x ?_
   refine blockQ_x ?_
   refine thenQ_n ?_
   refine AC.rq (fun σ8 => RegOK.m1 [4] ⟨[(4, .bool (true))], mem⟩ (.cons (s_assign (.bool true)) .nil) ?_)
   refine AC.ret ?_
   exact FinQ.ret (result1 rfl (res_tmp (v := .bool (true)) rfl rfl)) ⟨by refine congrArg AV.bool ?_; symm; first | exact decide_eq_false (fun h => by subst h; omega) | exact decide_eq_true (same_all (by omega) (fun j hj => hn j (by omega))) | exact decide_eq_false (fun h => by subst h; simp at hc), rfl⟩
end Go.Proofs.Yteomgedahkpnlaa
end
section
set_option maxRecDepth 100000
namespace Go.Proofs.Yteomgedahkpnlaa
open Go.Proofs
theorem F12 (f : Feeder) (ws : List Opn) (hok : f.ok) (hws : (ws.length : Int) ≤ 9223372036854775807) : Pure Try.prog 12 [Feeder.av f, .slice ((ws).map encA) none] (.bool true) := by
 intro mem
 have dl := darkRes_len f ws
 refine Meets.body 1 Try.func12 rfl rfl ?_
 refine AC.rq (fun σ0 => RegOK.m1 [1, 2] ⟨[(1, .slice ((ws).map encA) none), (2, .ptr (σ0 0) 0)], (.box (σ0 0) (fc f)) :: mem⟩ (.cons (s_box 0 (σ0 0) (.tmp 0 (Feeder.av f)) rfl) (.cons (s_assign (.bool false)) .nil)) ?_)
 refine AC.rq (fun σ1 => RegOK.m1 [1, 2, 5, 6] ⟨[(1, .slice ((ws).map encA) none), (2, .ptr (σ0 0) 0), (5, .slice (((darkRes f ws).1).map encA) none), (6, I ((darkRes f ws).2))], (.box (σ0 0) (fc f)) :: mem⟩ (.cons (s_loadA (cs := (fc f)) (l := (fc f)) 0 tyA28 (.tmp 2 (.ptr (σ0 0) 0)) rfl rfl) (.cons (s_move (.tmp 1 (.slice ((ws).map encA) none))) (.cons (s_call (r := .tuple [.slice (((darkRes f ws).1).map encA) none, I ((darkRes f ws).2)]) (.func 23) (.cons (.tmp 10 (Feeder.av f)) (.cons (.tmp 11 (.slice ((ws).map encA) none)) .nil)) call23 (F23 (f) (ws) (by exact hok) (by omega))) (.cons (s_move (.tmp 12 (.tuple [.slice (((darkRes f ws).1).map encA) none, I ((darkRes f ws).2)]))) (.cons (s_extract (v := .slice (((darkRes f ws).1).map encA) none) (.tmp 9 (.tuple [.slice (((darkRes f ws).1).map encA) none, I ((darkRes f ws).2)])) rfl) (.cons (s_extract (v := I ((darkRes f ws).2)) (.tmp 9 (.tuple [.slice (((darkRes f ws).1).map encA) none, I ((darkRes f ws).2)])) rfl) (.cons (s_assign (.tmp 13 (.slice (((darkRes f ws).1).map encA) none))) (.cons (s_assign (.tmp 14 (I ((darkRes f ws).2)))) .nil)))))))) ?_)
 refine AC.rq (fun σ2 => RegOK.m1 [5, 6, 7, 8] ⟨[(5, .slice (((darkRes f ws).1).map encA) none), (6, I ((darkRes f ws).2)), (7, .slice (((darkRes f ws).1).map encA) none), (8, I ((darkRes f ws).2))], (.box (σ0 0) (fc f)) :: mem⟩ (.cons (s_loadA (cs := (fc f)) (l := (fc f)) 0 tyA28 (.tmp 2 (.ptr (σ0 0) 0)) rfl rfl) (.cons (s_move (.tmp 1 (.slice ((ws).map encA) none))) (.cons (s_call (r := .tuple [.slice (((darkRes f ws).1).map encA) none, I ((darkRes f ws).2)]) (.func 36) (.cons (.tmp 16 (Feeder.av f)) (.cons (.tmp 17 (.slice ((ws).map encA) none)) .nil)) call36 (F36 f ws hok (by omega))) (.cons (s_move (.tmp 18 (.tuple [.slice (((darkRes f ws).1).map encA) none, I ((darkRes f ws).2)]))) (.cons (s_extract (v := .slice (((darkRes f ws).1).map encA) none) (.tmp 15 (.tuple [.slice (((darkRes f ws).1).map encA) none, I ((darkRes f ws).2)])) rfl) (.cons (s_extract (v := I ((darkRes f ws).2)) (.tmp 15 (.tuple [.slice (((darkRes f ws).1).map encA) none, I ((darkRes f ws).2)])) rfl) (.cons (s_assign (.tmp 19 (.slice (((darkRes f ws).1).map encA) none))) (.cons (s_assign (.tmp 20 (I ((darkRes f ws).2)))) .nil)))))))) ?_)
 refine AC.rq (fun σ3 => RegOK.m1 [4] ⟨[(4, .bool (((decide ((darkRes f ws).2 = (darkRes f ws).2) && decide ((darkRes f ws).1 = (darkRes f ws).1)) && true)))], (.box (σ0 0) (fc f)) :: mem⟩ (.cons (s_move (.tmp 6 (I ((darkRes f ws).2)))) (.cons (s_move (.tmp 8 (I ((darkRes f ws).2)))) (.cons (s_eql (.tmp 21 (I ((darkRes f ws).2))) (.tmp 22 (I ((darkRes f ws).2)))) (.cons (s_move (.tmp 23 (.bool (decide ((darkRes f ws).2 = (darkRes f ws).2))))) (.cons (Step.guard _ rfl (.bool (decide ((darkRes f ws).2 = (darkRes f ws).2))) gT (fun hb => s_move (.tmp 5 (.slice (((darkRes f ws).1).map encA) none)))) (.cons (Step.guard _ rfl (.bool (decide ((darkRes f ws).2 = (darkRes f ws).2))) gT (fun hb => s_move (.tmp 7 (.slice (((darkRes f ws).1).map encA) none)))) (.cons (Step.guard _ rfl (.bool (decide ((darkRes f ws).2 = (darkRes f ws).2))) gT (fun hb => s_call (r := .bool (decide ((darkRes f ws).1 = (darkRes f ws).1))) (.func 37) (.cons (.tmpC hb 25 (.slice (((darkRes f ws).1).map encA) none)) (.cons (.tmpC hb 26 (.slice (((darkRes f ws).1).map encA) none)) .nil)) call37 (F37 (darkRes f ws).1 (darkRes f ws).1 (by have hq := iD.1 hb; omega) (by have hq := iD.1 hb; omega)))) (.cons (s_and' (q := decide ((darkRes f ws).1 = (darkRes f ws).1)) (fun h => h) (.tmp 24 (.bool (decide ((darkRes f ws).2 = (darkRes f ws).2))))) (.cons (s_move (.tmp 28 (.bool ((decide ((darkRes f ws).2 = (darkRes f ws).2) && decide ((darkRes f ws).1 = (darkRes f ws).1)))))) (.cons (Step.guard _ rfl (.bool ((decide ((darkRes f ws).2 = (darkRes f ws).2) && decide ((darkRes f ws).1 = (darkRes f ws).1)))) gT (fun hb => s_call (r := .bool (true)) (.func 18) .nil call18 F18)) (.cons (s_and' (q := true) (fun h => h) (.tmp 29 (.bool ((decide ((darkRes f ws).2 = (darkRes f ws).2) && decide ((darkRes f ws).1 = (darkRes f ws).1)))))) (.cons (s_assign (.tmp 31 (.bool (((decide ((darkRes f ws).2 = (darkRes f ws).2) && decide ((darkRes f ws).1 = (darkRes f ws).1)) && true))))) .nil)))))))))))) ?_)
 refine AC.ret ?_
 exact FinQ.ret (result1 rfl (res_tmp (v := .bool (((decide ((darkRes f ws).2 = (darkRes f ws).2) && decide ((darkRes f ws).1 = (darkRes f ws).1)) && true))) rfl rfl)) ⟨by first | rfl | simp, rfl⟩
end Go.Proofs.Yteomgedahkpnlaa
end
section

namespace Go.Proofs.Yteomgedahkpnlaa
open Go.Proofs
section
variable {H : Type} {enc : TypeId × Value → H} {w : World}
theorem opens3 : Opens enc Try.prog w 3 1 Int (fun n => [.int .i64 n]) (fun n => (Lit.int .i64 n).wf = true) := .int Try.underlying3 (by kernel_rfl)
theorem opens9 : Opens enc Try.prog w 9 1 ByteArray (fun s => [.str s]) (fun s => s.size ≤ maxLen) := .str Try.underlying9 (by kernel_rfl)
theorem big {n : Nat} (h : n ≤ maxLen) : (n : Int) ≤ 9223372036854775807 := by simp only [maxLen] at h; omega
theorem opens26 : Opens enc Try.prog w 26 2 (Int × Int) (fun x => [I x.1, I x.2]) (fun _ => True) :=
  Opens.map (Opens.struct Try.underlying26 (by kernel_rfl) (.cons rfl opens3 (.cons rfl opens3 (.nil _))) (fun _ => rfl)) (fun x => (x.1, x.2.1)) _ _ (fun _ => rfl) (fun _ _ => trivial)
theorem opens58 : Opens enc Try.prog w 58 2 (Int × Int) (fun x => [I x.1, I x.2]) (fun x => (Lit.int .i64 x.1).wf = true ∧ (Lit.int .i64 x.2).wf = true) :=
  Opens.map (Opens.struct Try.underlying58 (by kernel_rfl) (.cons rfl opens3 (.cons rfl opens3 (.nil _))) (fun _ => rfl)) (fun x => (x.1, x.2.1)) _ _ (fun _ => rfl) (fun _ h => ⟨h.1, h.2.1⟩)
theorem opens54 : Opens enc Try.prog w 54 1 (List (Int × Int)) (fun l => [.slice (l.map encA) none]) (fun l => l.length ≤ maxLen ∧ ∀ x ∈ l, (Lit.int .i64 x.1).wf = true ∧ (Lit.int .i64 x.2).wf = true) := .slice encA Try.underlying54 (by kernel_rfl) opens58 (by decide) (fun _ => rfl) (fun _ => rfl)
theorem opensCable : Opens enc Try.prog w 71 6 Cable (fun x => [.str x.name, I x.coreLo, I x.coreHi, I x.earthLo, I x.earthHi, I x.rated]) Cable.ok :=
  Opens.map (Opens.struct Try.underlying71 (by kernel_rfl) (.cons rfl opens9 (.cons rfl opens26 (.cons rfl opens26 (.cons rfl opens3 (.nil _))))) (fun _ => rfl))
    (fun x => (⟨x.1, x.2.1.1, x.2.1.2, x.2.2.1.1, x.2.2.1.2, x.2.2.2.1⟩ : Cable)) _ _ (fun _ => rfl) (fun _ h => big h.1)
theorem opensPoint : Opens enc Try.prog w 141 3 Point (fun x => [I x.cur, I x.lo, I x.hi]) (fun _ => True) :=
  Opens.map (Opens.struct Try.underlying141 (by kernel_rfl) (.cons rfl opens3 (.cons rfl opens26 (.nil _))) (fun _ => rfl)) (fun x => (⟨x.1, x.2.1.1, x.2.1.2⟩ : Point)) _ _ (fun _ => rfl) (fun _ _ => trivial)
theorem opensFuse : Opens enc Try.prog w 94 3 Fuse (fun x => [.str x.name, I x.rated, .slice (x.points.map Point.av) none]) Fuse.ok :=
  Opens.map (Opens.struct Try.underlying94 (by kernel_rfl) (.cons rfl opens9 (.cons rfl opens3 (.cons rfl (.slice Point.av Try.underlying92 (by kernel_rfl) opensPoint (by decide) (fun _ => rfl) (fun _ => rfl)) (.nil _)))) (fun _ => rfl))
    (fun x => (⟨x.1, x.2.1, x.2.2.1⟩ : Fuse)) _ _ (fun _ => rfl) (fun _ h => ⟨big h.1, big h.2.2.1.1⟩)
theorem opens45 : Opens enc Try.prog w 45 6 ((Int × Int) × (Int × Int) × (Int × Int)) (fun x => [I x.1.1, I x.1.2, I x.2.1.1, I x.2.1.2, I x.2.2.1, I x.2.2.2]) (fun _ => True) :=
  ⟨by kernel_rfl, fun fuel cs x hx => by
    obtain ⟨l, ⟨hl, _⟩, h⟩ := (Opens.array (enc := enc) (w := w) Try.underlying45 (by kernel_rfl) opens26 (fun _ => rfl)).2 fuel cs x hx
    match l, hl with
    | [a, b, c], _ => exact ⟨(a, b, c), trivial, h⟩⟩
theorem opensNode : Opens enc Try.prog w 47 11 Node (fun x => [.str x.name, I x.parent, I x.cable, I x.length, I x.fuse, I x.lo0, I x.hi0, I x.lo1, I x.hi1, I x.lo2, I x.hi2]) Node.ok :=
  Opens.map (Opens.struct Try.underlying47 (by kernel_rfl) (.cons rfl opens9 (.cons rfl opens3 (.cons rfl opens3 (.cons rfl opens3 (.cons rfl opens3 (.cons rfl opens45 (.nil _))))))) (fun _ => rfl))
    (fun x => (⟨x.1, x.2.1, x.2.2.1, x.2.2.2.1, x.2.2.2.2.1, x.2.2.2.2.2.1.1.1, x.2.2.2.2.2.1.1.2, x.2.2.2.2.2.1.2.1.1, x.2.2.2.2.2.1.2.1.2, x.2.2.2.2.2.1.2.2.1, x.2.2.2.2.2.1.2.2.2⟩ : Node)) _ _ (fun _ => rfl) (fun _ h => big h.1)
theorem opensFeed : Opens enc Try.prog w 28 9 Feeder (fun x => [.slice (x.cables.map Cable.av) none, .slice (x.fuses.map Fuse.av) none, .slice (x.nodes.map Node.av) none, I x.vLo, I x.vHi, I x.sLo, I x.sHi, I x.drop, I x.limit]) Feeder.ok :=
  Opens.map (Opens.struct Try.underlying28 (by kernel_rfl) (.cons rfl (.slice Cable.av Try.underlying22 (by kernel_rfl) opensCable (by decide) (fun _ => rfl) (fun _ => rfl)) (.cons rfl (.slice Fuse.av Try.underlying23 (by kernel_rfl) opensFuse (by decide) (fun _ => rfl) (fun _ => rfl))
    (.cons rfl (.slice Node.av Try.underlying24 (by kernel_rfl) opensNode (by decide) (fun _ => rfl) (fun _ => rfl)) (.cons rfl opens26 (.cons rfl opens26 (.cons rfl opens3 (.cons rfl opens3 (.nil _)))))))) (fun _ => rfl))
    (fun x => (⟨x.1, x.2.1, x.2.2.1, x.2.2.2.1.1, x.2.2.2.1.2, x.2.2.2.2.1.1, x.2.2.2.2.1.2, x.2.2.2.2.2.1, x.2.2.2.2.2.2.1⟩ : Feeder)) _ _ (fun _ => rfl) (fun _ h => ⟨big h.1.1, big h.2.1.1, big h.2.2.1.1, h.1.2, h.2.1.2, h.2.2.1.2⟩)
end
end Go.Proofs.Yteomgedahkpnlaa
end
