import Derived.Test.YtahdgadjpkcnjaaZFeedCurrents4
set_option linter.unusedVariables false
set_option linter.unusedSimpArgs false
section
set_option maxRecDepth 100000
namespace Go.Proofs.Ytahdgadjpkcnjaa
open Go.Proofs
theorem F125 (f : Feeder) (g : FG f) (c : Nat) (hcc : c < f.nodes.length) (s2 s1 : Nat) : MeetsT Try.prog 125 [.nils, .func 123 [] [.ptr s1 0, .ptr s2 0]] [Ent.box s2 (fc f), Ent.box s1 [I ((nd f.nodes c 0 : Nat) : Int)], Ent.hole] (fun r m' => ∃ σ : Nat, r = .sym σ ((upTo f.nodes c (anc f.nodes c).length).length) ∧ m' = [Ent.box s2 (fc f), Ent.box s1 [I ((nd f.nodes c (anc f.nodes c).length : Nat) : Int)], Ent.mrow σ (((upTo f.nodes c (anc f.nodes c).length)).map I) 3 1]) := by
 intro tl
 refine Meets.body 2 Try.func125 rfl rfl ?_
 refine AC.rq (fun σ0 => RegOK.m1 [1, 2] ⟨[(1, .func 123 [] [.ptr s1 0, .ptr s2 0]), (2, .ptr (σ0 0) 0)], (.box (σ0 0) [.nils]) :: .hole :: (.box s2 (fc f)) :: (.box s1 [I ((nd f.nodes c 0 : Nat) : Int)]) :: .hole :: tl⟩ (.cons (s_box 0 (σ0 0) (.tmp 0 (.nils)) rfl) (.cons (s_assign .nils) .nil)) ?_)
 refine AC.claimqB 0 (σ0 0) [.nils] 0 4 3 1 rfl rfl rfl (by decide) (fun cb => ?_)
 refine AC.seq ?_
 refine AC.rq (fun σ1 => RegOK.m1 [2, 6] ⟨[(2, .ptr (σ0 0) 0), (6, .func 123 [] [.ptr s1 0, .ptr s2 0])], (.box (σ0 0) [.sym cb (0)]) :: .hole :: (.box s2 (fc f)) :: (.box s1 [I ((nd f.nodes c 0 : Nat) : Int)]) :: (.mrow cb ((([] : List Int)).map I) 3 1) :: tl⟩ (.cons (s_move (.tmp 1 (.func 123 [] [.ptr s1 0, .ptr s2 0]))) .nil) ?_)
 refine AC.block ?_
 refine AC.range2 Fr.plain 1 (n := 123) (fs := []) (caps := [.ptr s1 0, .ptr s2 0]) (len := (anc f.nodes c).length) (arg := (fun j1 => [I ((nd f.nodes c j1 : Nat) : Int)])) (E1 := fun j1 => Ent.box s1 [I ((nd f.nodes c j1 : Nat) : Int)]) rfl rfl call123 rfl (.inl rfl) 3 2 cb [0, 4] (fun j1 x1 => [Ent.box (σ0 0) [.sym x1 ((upTo f.nodes c j1).length)], Ent.mrow x1 (((upTo f.nodes c j1)).map I) 3 1]) (by decide) rfl rfl rfl (fun _ => rfl) (fun l M hM => F123 f g c hcc s1 s2 l M hM) (fun l1 L1 Lb1 hL1 hLb1 F1 hF1 hr1 tl1 j1 x1 hj1 => ?_) (fun x1 => ?_)
 ·skip
  have ul := up_len (ns := f.nodes) (c := c) (j := j1) (Nat.le_of_lt hj1)
  have al := g.anc_len hcc
  refine AC.rend hF1 mixed (fun σ2 => RegOK.m1 [2, 5] ⟨[(2, .ptr (σ0 0) 0), (5, I ((nd f.nodes c j1 : Nat) : Int))], (.box (σ0 0) [.sym x1 ((upTo f.nodes c j1).length)]) :: (L1) :: (.box s2 (fc f)) :: (.box s1 [I ((nd f.nodes c j1 : Nat) : Int)]) :: (.mrow x1 (((upTo f.nodes c j1)).map I) 3 1) :: (tl ++ tl1)⟩ (.cons (s_assign (.tmp 7 (I ((nd f.nodes c j1 : Nat) : Int)))) .nil) ?_)
  refine thenQ_n ⟨(.box (σ0 0) [.sym x1 ((upTo f.nodes c j1).length)]) :: (L1) :: (.box s2 (fc f)) :: (.box s1 [I ((nd f.nodes c j1 : Nat) : Int)]) :: (.mrow x1 (((upTo f.nodes c j1)).map I) 3 1) :: tl, rfl, rfl, ?_⟩
  refine AC.block ?_
  refine AC.rend hF1 mixed (fun σ3 => RegOK.m1 [] ⟨[], (.box (σ0 0) [.sym (σ3 3) (((upTo f.nodes c j1) ++ [((nd f.nodes c j1 : Nat) : Int)]).length)]) :: (Lb1) :: (.box s2 (fc f)) :: (.box s1 [I ((nd f.nodes c j1 : Nat) : Int)]) :: (.mrow (σ3 3) ((((upTo f.nodes c j1) ++ [((nd f.nodes c j1 : Nat) : Int)])).map I) 3 1) :: (tl ++ tl1)⟩ (.cons (s_load1 (cs := [.sym x1 ((upTo f.nodes c j1).length)]) (c := .sym x1 ((upTo f.nodes c j1).length)) 0 tyS48 (.tmp 2 (.ptr (σ0 0) 0)) rfl) (.cons (s_move (.tmp 5 (I ((nd f.nodes c j1 : Nat) : Int)))) (.cons (s_buildSlice' (es := [I ((nd f.nodes c j1 : Nat) : Int)]) zero3 slc48 rfl rfl (.cons rfl (.tmp 9 (I ((nd f.nodes c j1 : Nat) : Int))) .nil) rfl rfl) (.cons (s_appendMq (l := (upTo f.nodes c j1)) (l2 := [((nd f.nodes c j1 : Nat) : Int)]) (f := I) 4 (σ3 3) slc48 zero3 byt3 rfl (by decide) (.tmp 8 (.sym x1 ((upTo f.nodes c j1).length))) (.tmp 10 (.slice (([((nd f.nodes c j1 : Nat) : Int)]).map I) none)) (by simp) (fun _ => rfl) (fun _ => rfl) (by simp only [List.length_cons, List.length_nil]; omega)) (.cons (s_store (cs := [.sym x1 ((upTo f.nodes c j1).length)]) 0 sz48 (.tmp 2 (.ptr (σ0 0) 0)) (.tmp 11 (.sym (σ3 3) (((upTo f.nodes c j1) ++ [((nd f.nodes c j1 : Nat) : Int)]).length))) rfl rfl rfl (Nat.le_of_ble_eq_true rfl)) .nil))))) ?_)
  refine blockQ_n ?_
  exact ⟨⟨[], (.box (σ0 0) [.sym (σ3 3) (((upTo f.nodes c j1) ++ [((nd f.nodes c j1 : Nat) : Int)]).length)]) :: (Lb1) :: (.box s2 (fc f)) :: (.box s1 [I ((nd f.nodes c j1 : Nat) : Int)]) :: (.mrow (σ3 3) ((((upTo f.nodes c j1) ++ [((nd f.nodes c j1 : Nat) : Int)])).map I) 3 1) :: (tl ++ tl1)⟩, Weak.of [] rfl (by kernel_rfl), (.box (σ0 0) [.sym (σ3 3) (((upTo f.nodes c j1) ++ [((nd f.nodes c j1 : Nat) : Int)]).length)]) :: (Lb1) :: (.box s2 (fc f)) :: (.box s1 [I ((nd f.nodes c j1 : Nat) : Int)]) :: (.mrow (σ3 3) ((((upTo f.nodes c j1) ++ [((nd f.nodes c j1 : Nat) : Int)])).map I) 3 1) :: tl, rfl, rfl, ⟨(σ3 3), by rw [up_step hj1]; rfl⟩⟩
 ·skip
  refine blockQ_n ?_
  refine thenQ_n ?_
  refine AC.rq (fun σ4 => RegOK.m1 [4] ⟨[(4, .sym x1 ((upTo f.nodes c (anc f.nodes c).length).length))], (.box (σ0 0) [.sym x1 ((upTo f.nodes c (anc f.nodes c).length).length)]) :: .hole :: (.box s2 (fc f)) :: (.box s1 [I ((nd f.nodes c (anc f.nodes c).length : Nat) : Int)]) :: (.mrow x1 (((upTo f.nodes c (anc f.nodes c).length)).map I) 3 1) :: tl⟩ (.cons (s_load1 (cs := [.sym x1 ((upTo f.nodes c (anc f.nodes c).length).length)]) (c := .sym x1 ((upTo f.nodes c (anc f.nodes c).length).length)) 0 tyS48 (.tmp 2 (.ptr (σ0 0) 0)) rfl) (.cons (s_assign (.tmp 12 (.sym x1 ((upTo f.nodes c (anc f.nodes c).length).length)))) .nil)) ?_)
  refine AC.ret ?_
  exact FinQ.ret (result1 rfl (res_tmp (v := .sym x1 ((upTo f.nodes c (anc f.nodes c).length).length)) rfl rfl)) ⟨[Ent.box s2 (fc f), Ent.box s1 [I ((nd f.nodes c (anc f.nodes c).length : Nat) : Int)], Ent.mrow x1 (((upTo f.nodes c (anc f.nodes c).length)).map I) 3 1], rfl, x1, rfl, rfl⟩
theorem F98 (f : Feeder) (g : FG f) (c : Nat) (hcc : c < f.nodes.length) (s2 s1 : Nat) : MeetsT Try.prog 98 [.func 123 [] [.ptr s1 0, .ptr s2 0]] [Ent.box s2 (fc f), Ent.box s1 [I ((nd f.nodes c 0 : Nat) : Int)], Ent.hole] (fun r m' => ∃ σ : Nat, r = .sym σ ((upTo f.nodes c (anc f.nodes c).length).length) ∧ m' = [Ent.box s2 (fc f), Ent.box s1 [I ((nd f.nodes c (anc f.nodes c).length : Nat) : Int)], Ent.mrow σ (((upTo f.nodes c (anc f.nodes c).length)).map I) 3 1]) := by
 intro tl
 refine Meets.body 0 Try.func98 rfl rfl ?_
 refine AC.rq (fun σ0 => RegOK.m1 [0] ⟨[(0, .func 123 [] [.ptr s1 0, .ptr s2 0])], (.box s2 (fc f)) :: (.box s1 [I ((nd f.nodes c 0 : Nat) : Int)]) :: .hole :: tl⟩ (.cons (s_assign .nils) .nil) ?_)
 refine AC.seq (RunL.region ?_)
 refine RunL.chunk Fr.plain 1 (fun σ1_0 => RegOKL.m1 [3] ⟨[(3, .func 123 [] [.ptr s1 0, .ptr s2 0])], (.box s2 (fc f)) :: (.box s1 [I ((nd f.nodes c 0 : Nat) : Int)]) :: .hole :: tl⟩ (.cons (s_move (.tmp 0 (.func 123 [] [.ptr s1 0, .ptr s2 0]))) .nil) ?_)
 refine RunL.callT Fr.plain [] ((Ent.box s2 (fc f)) :: (Ent.box s1 [I ((nd f.nodes c 0 : Nat) : Int)]) :: (Ent.hole) :: []) (tl) rfl (.func 125) (.cons .nils (.cons (.tmp 3 (.func 123 [] [.ptr s1 0, .ptr s2 0])) .nil)) call125 ⟨by kernel_rfl, by kernel_rfl⟩ (fun _ _ _ _ _ => rfl) (F125 f g c (by omega) s2 s1) ?_
 rintro _ _ ⟨sq1, rfl, rfl⟩
 refine RunL.chunk Fr.plain 1 (fun σ1_2 => RegOKL.m1 [2] ⟨[(2, .sym sq1 ((upTo f.nodes c (anc f.nodes c).length).length))], (.box s2 (fc f)) :: (.box s1 [I ((nd f.nodes c (anc f.nodes c).length : Nat) : Int)]) :: (.mrow sq1 (((upTo f.nodes c (anc f.nodes c).length)).map I) 3 1) :: tl⟩ (.cons (s_assign (.tmp 4 (.sym sq1 ((upTo f.nodes c (anc f.nodes c).length).length)))) .nil) ?_)
 refine RunL.nil (thenQ_n ?_)
 refine AC.ret ?_
 exact FinQ.ret (result1 rfl (res_tmp (v := .sym sq1 ((upTo f.nodes c (anc f.nodes c).length).length)) rfl rfl)) ⟨[Ent.box s2 (fc f), Ent.box s1 [I ((nd f.nodes c (anc f.nodes c).length : Nat) : Int)], Ent.mrow sq1 (((upTo f.nodes c (anc f.nodes c).length)).map I) 3 1], rfl, sq1, rfl, rfl⟩
theorem F99 (l : List Int) (s0 : Nat) (hl : (l.length : Int) ≤ 1000000) : MeetsT Try.prog 99 [.sym s0 (l.length)] [Ent.mrow s0 ((l).map I) 3 1] (fun r m' => r = .tuple [] ∧ m' = [Ent.mrow s0 ((l.reverse).map I) 3 1]) := by
 intro tl
 refine Meets.body 0 Try.func99 rfl rfl ?_
 refine AC.rq (fun σ0 => RegOK.m1 [0, 2, 3] ⟨[(0, .sym s0 (l.length)), (2, I 0), (3, I ((l.length : Int) - 1))], (.mrow s0 ((l).map I) 3 1) :: tl⟩ (.cons (s_move (.tmp 0 (.sym s0 (l.length)))) (.cons (s_lenq slc48 (.tmp 4 (.sym s0 (l.length)))) (.cons (s_sub (.tmp 5 (I (l.length : Int))) (.int .i64 (1)) (inK_i64 (by omega))) (.cons (s_assign (.int .i64 (0))) (.cons (s_assign (.tmp 6 (I ((l.length : Int) - 1)))) .nil))))) ?_)
 refine AC.block ?_
 refine AC.loopW (fun mz T => ∃ (k : Nat), ∃ (j : Int), ∃ (m : List Int), mz = l.length - k ∧ ((k ≤ l.length) ∧ (j = (l.length : Int) - 1 - (k : Int)) ∧ (m.length = l.length) ∧ (Rv l m k)) ∧ T = ⟨[(0, .sym s0 (l.length)), (2, I (k : Int)), (3, I j)], (.mrow s0 ((m).map I) 3 1) :: tl⟩) _ ⟨[(0, .sym s0 (l.length)), (2, I ((0) : Int)), (3, I (((l.length : Int) - 1)))], (.mrow s0 (((l)).map I) 3 1) :: tl⟩ ⟨0, ((l.length : Int) - 1), l, rfl, ⟨(by omega), (by omega), (by rfl), (by exact rv_zero l)⟩, rfl⟩ (Weak.of [] (by kernel_rfl) (by kernel_rfl)) ?_ Fr.plain
 rintro _ _ ⟨k, j, m, rfl, ⟨hk, hj, hm, hv⟩, rfl⟩
 refine AC.seq ?_
 refine AC.rq (fun σ1 => RegOK.m1 [0, 2, 3, 9] ⟨[(0, .sym s0 (l.length)), (2, I (k : Int)), (3, I j), (9, .bool (decide ((k : Int) < j)))], (.mrow s0 ((m).map I) 3 1) :: tl⟩ (.cons (s_move (.tmp 2 (I (k : Int)))) (.cons (s_move (.tmp 3 (I j))) (.cons (s_lss (.tmp 7 (I (k : Int))) (.tmp 8 (I j))) .nil))) ?_)
 refine AC.cend (decide ((k : Int) < j)) rfl rfl (fun hc => ?_) (fun hc => ?_)
 ·have q1 := iD.1 hc
  refine AC.skip ?_
  refine thenQ_n ?_
  refine AC.bseq ?_
  refine AC.re (fun σ3 => RegOK.m1 [0, 2, 3] ⟨[(0, .sym s0 (l.length)), (2, I (k : Int)), (3, I j)], (.mrow s0 ((((m.set k (m.getD (j).toNat 0)).set (j).toNat (m.getD k 0))).map I) 3 1) :: tl⟩ (.cons (s_move (.tmp 0 (.sym s0 (l.length)))) (.cons (s_move (.tmp 2 (I (k : Int)))) (.cons (s_move (.tmp 0 (.sym s0 (l.length)))) (.cons (s_move (.tmp 3 (I j))) (.cons (s_move (.tmp 0 (.sym s0 (l.length)))) (.cons (s_move (.tmp 3 (I j))) (.cons (s_indexAddrq slc48 (.tmp 18 (.sym s0 (l.length))) (.tmp 19 (I j)) (by first | omega | (simp only [List.length_set]; omega))) (.cons (s_load1Mq (e := 3) (l := m) (f := I) (c := I (m.getD (j).toNat 0)) 0 0 tyS3 (.tmp 20 (.sptr s0 ((j).toNat * 1 + 0))) (by first | omega | (simp only [List.length_set]; omega)) (fun _ => rfl) rfl) (.cons (s_move (.tmp 0 (.sym s0 (l.length)))) (.cons (s_move (.tmp 2 (I (k : Int)))) (.cons (s_indexAddrq slc48 (.tmp 22 (.sym s0 (l.length))) (.tmp 23 (I (k : Int))) (by first | omega | (simp only [List.length_set]; omega))) (.cons (s_load1Mq (e := 3) (l := m) (f := I) (c := I (m.getD k 0)) 0 0 tyS3 (.tmp 24 (.sptr s0 (k * 1 + 0))) (by first | omega | (simp only [List.length_set]; omega)) (fun _ => rfl) rfl) (.cons (s_indexAddrq slc48 (.tmp 14 (.sym s0 (l.length))) (.tmp 15 (I (k : Int))) (by first | omega | (simp only [List.length_set]; omega))) (.cons (s_storeMq (e := 3) (l := m) (f := I) 0 ((m.getD (j).toNat 0)) 0 sz3 (.tmp 26 (.sptr s0 (k * 1 + 0))) (.tmp 21 (I (m.getD (j).toNat 0))) rfl rfl rfl (by first | omega | (simp only [List.length_set]; omega)) rfl (Nat.le_of_ble_eq_true rfl)) (.cons (s_indexAddrq slc48 (.tmp 16 (.sym s0 (l.length))) (.tmp 17 (I j)) (by first | omega | (simp only [List.length_set]; omega))) (.cons (s_storeMq (e := 3) (l := (m.set k (m.getD (j).toNat 0))) (f := I) 0 ((m.getD k 0)) 0 sz3 (.tmp 27 (.sptr s0 ((j).toNat * 1 + 0))) (.tmp 25 (I (m.getD k 0))) rfl rfl rfl (by first | omega | (simp only [List.length_set]; omega)) rfl (Nat.le_of_ble_eq_true rfl)) .nil)))))))))))))))) ?_)
  refine blockQ_n ?_
  refine thenQ_n ?_
  refine AC.re (fun σ2 => RegOK.m1 [0, 2, 3] ⟨[(0, .sym s0 (l.length)), (2, I ((k : Int) + 1)), (3, I (j - 1))], (.mrow s0 ((((m.set k (m.getD (j).toNat 0)).set (j).toNat (m.getD k 0))).map I) 3 1) :: tl⟩ (.cons (s_move (.tmp 2 (I (k : Int)))) (.cons (s_add (.tmp 10 (I (k : Int))) (.int .i64 (1)) (inK_i64 (by omega))) (.cons (s_move (.tmp 3 (I j))) (.cons (s_sub (.tmp 12 (I j)) (.int .i64 (1)) (inK_i64 (by omega))) (.cons (s_assign (.tmp 11 (I ((k : Int) + 1)))) (.cons (s_assign (.tmp 13 (I (j - 1)))) .nil)))))) ?_)
  refine thenQ_n ⟨_, ?_, _, ⟨(k + 1), (j - 1), ((m.set k (m.getD (j).toNat 0)).set (j).toNat (m.getD k 0)), rfl, ⟨(by omega), (by omega), (by simp only [List.length_set]; omega), (by rw [show j.toNat = l.length - 1 - k by omega]; exact rv_step hv (by omega))⟩, rfl⟩, Weak.of [] (by kernel_rfl) (by kernel_rfl)⟩
  omega
 ·have q2 := iF iD hc
  refine AC.exit ?_
  refine thenQ_x ?_
  refine thenQ_x ?_
  refine blockQ_x ?_
  exact FinQ.normal (result0 rfl ) ⟨[Ent.mrow s0 ((m).map I) 3 1], rfl, rfl, by rw [rv_end hv (by omega)]⟩
end Go.Proofs.Ytahdgadjpkcnjaa
end
section
set_option maxRecDepth 100000
namespace Go.Proofs.Ytahdgadjpkcnjaa
open Go.Proofs
theorem F56 (f : Feeder) (c : Nat) (g : FG f) (hcc : c < f.nodes.length) : Pure Try.prog 56 [Feeder.av f, I (c : Int)] (.slice (((pathI f.nodes c)).map I) none) := by
 intro mem
 have al := g.anc_len hcc
 have ul := up_len (ns := f.nodes) (c := c) (Nat.le_refl _)
 refine Meets.body 4 Try.func56 rfl rfl ?_
 refine AC.rq (fun σ0 => RegOK.m1 [1, 2] ⟨[(1, I (c : Int)), (2, .ptr (σ0 0) 0)], (.box (σ0 0) (fc f)) :: .hole :: .hole :: .hole :: mem⟩ (.cons (s_box 0 (σ0 0) (.tmp 0 (Feeder.av f)) rfl) (.cons (s_assign .nils) .nil)) ?_)
 refine AC.seq (RunL.region ?_)
 refine RunL.chunk Fr.plain 2 (fun σ1_0 => RegOKL.m1 [6, 7] ⟨[(6, Feeder.av f), (7, I (c : Int))], (.box (σ0 0) (fc f)) :: .hole :: .hole :: .hole :: mem⟩ (.cons (s_loadA (cs := (fc f)) (l := (fc f)) 0 tyA28 (.tmp 2 (.ptr (σ0 0) 0)) rfl rfl) (.cons (s_move (.tmp 1 (I (c : Int)))) .nil)) ?_)
 refine RunL.callNew Fr.plain (.func 95) (.cons (.tmp 6 (Feeder.av f)) (.cons (.tmp 7 (I (c : Int))) .nil)) call95 ⟨by kernel_rfl, by kernel_rfl⟩ (F95 f g c (by omega)) ?_
 rintro _ _ ⟨u0_4, u1_4, rfl, rfl⟩
 refine ⟨_, (Move.cons 1 rfl (Move.cons 2 rfl (Move.nil _))), ?_⟩
 refine RunL.callT Fr.plain [Ent.box (σ0 0) (fc f)] ((Ent.box u0_4 (fc f)) :: (Ent.box u1_4 [I ((nd f.nodes c 0 : Nat) : Int)]) :: (Ent.hole) :: []) (mem) rfl (.func 98) (.cons (.tmp 8 (.func 123 [] [.ptr u1_4 0, .ptr u0_4 0])) .nil) call98 ⟨by kernel_rfl, by kernel_rfl⟩ (fun _ _ _ _ _ => rfl) (F98 f g c (by omega) u0_4 u1_4) ?_
 rintro _ _ ⟨sq1, rfl, rfl⟩
 refine RunL.chunk Fr.plain 1 (fun σ1_4 => RegOKL.m1 [5] ⟨[(5, .sym sq1 ((upTo f.nodes c (anc f.nodes c).length).length))], (.box (σ0 0) (fc f)) :: (.box u0_4 (fc f)) :: (.box u1_4 [I ((nd f.nodes c (anc f.nodes c).length : Nat) : Int)]) :: (.mrow sq1 (((upTo f.nodes c (anc f.nodes c).length)).map I) 3 1) :: mem⟩ (.cons (s_assign (.tmp 9 (.sym sq1 ((upTo f.nodes c (anc f.nodes c).length).length)))) .nil) ?_)
 refine RunL.nil (thenQ_n ?_)
 refine AC.seq (RunL.region ?_)
 refine RunL.chunk Fr.plain 1 (fun σ2_0 => RegOKL.m1 [5, 10] ⟨[(5, .sym sq1 ((upTo f.nodes c (anc f.nodes c).length).length)), (10, .sym sq1 ((upTo f.nodes c (anc f.nodes c).length).length))], (.box (σ0 0) (fc f)) :: (.box u0_4 (fc f)) :: (.box u1_4 [I ((nd f.nodes c (anc f.nodes c).length : Nat) : Int)]) :: (.mrow sq1 (((upTo f.nodes c (anc f.nodes c).length)).map I) 3 1) :: mem⟩ (.cons (s_move (.tmp 5 (.sym sq1 ((upTo f.nodes c (anc f.nodes c).length).length)))) .nil) ?_)
 refine RunL.callT Fr.plain [Ent.box (σ0 0) (fc f), Ent.box u0_4 (fc f), Ent.box u1_4 [I ((nd f.nodes c (anc f.nodes c).length : Nat) : Int)]] ((Ent.mrow sq1 (((upTo f.nodes c (anc f.nodes c).length)).map I) 3 1) :: []) (mem) rfl (.func 99) (.cons (.tmp 10 (.sym sq1 ((upTo f.nodes c (anc f.nodes c).length).length))) .nil) call99 ⟨by kernel_rfl, by kernel_rfl⟩ (fun _ _ _ _ _ => rfl) (F99 (upTo f.nodes c (anc f.nodes c).length) sq1 (by omega)) ?_
 rintro _ _ ⟨rfl, rfl⟩
 refine RunL.nil (thenQ_n ?_)
 refine AC.freezeq 3 sq1 ((((upTo f.nodes c (anc f.nodes c).length).reverse)).map I) 3 1 rfl (map_sz (f := I) (fun _ => rfl) _) ?_
 refine AC.symT 5 3 sq1 ((upTo f.nodes c (anc f.nodes c).length).length) ((((upTo f.nodes c (anc f.nodes c).length).reverse)).map I) rfl rfl ?_
 refine AC.rq (fun σ3 => RegOK.m1 [4] ⟨[(4, .slice ((((upTo f.nodes c (anc f.nodes c).length).reverse)).map I) none)], (.box (σ0 0) (fc f)) :: (.box u0_4 (fc f)) :: (.box u1_4 [I ((nd f.nodes c (anc f.nodes c).length : Nat) : Int)]) :: (.fro sq1 ((((upTo f.nodes c (anc f.nodes c).length).reverse)).map I)) :: mem⟩ (.cons (s_move (.tmp 5 (.slice ((((upTo f.nodes c (anc f.nodes c).length).reverse)).map I) none))) (.cons (s_assign (.tmp 12 (.slice ((((upTo f.nodes c (anc f.nodes c).length).reverse)).map I) none))) .nil)) ?_)
 refine AC.ret ?_
 exact FinQ.ret (result1 rfl (res_tmp (v := .slice ((((upTo f.nodes c (anc f.nodes c).length).reverse)).map I) none) rfl rfl)) ⟨by rw [up_rev], rfl⟩
theorem F21 (f : Feeder) (c : Int) (hok : f.ok) : Pure Try.prog 21 [Feeder.av f, I c] (.tuple [.slice (((pathRes f c).1).map I) none, I ((pathRes f c).2)]) := by
 intro mem
 refine Meets.body 1 Try.func21 rfl rfl ?_
 refine AC.rq (fun σ0 => RegOK.m1 [1, 2] ⟨[(1, I c), (2, .ptr (σ0 0) 0)], (.box (σ0 0) (fc f)) :: mem⟩ (.cons (s_box 0 (σ0 0) (.tmp 0 (Feeder.av f)) rfl) (.cons (s_assign .nils) (.cons (s_assign (.int .i64 (0))) .nil))) ?_)
 refine AC.seq ?_
 refine AC.rq (fun σ1 => RegOK.m1 [1, 2, 6] ⟨[(1, I c), (2, .ptr (σ0 0) 0), (6, I (askedOf f c))], (.box (σ0 0) (fc f)) :: mem⟩ (.cons (s_loadA (cs := (fc f)) (l := (fc f)) 0 tyA28 (.tmp 2 (.ptr (σ0 0) 0)) rfl rfl) (.cons (s_move (.tmp 1 (I c))) (.cons (s_call (r := I (askedOf f c)) (.func 47) (.cons (.tmp 7 (Feeder.av f)) (.cons (.tmp 8 (I c)) .nil)) call47 (F47 (f) (c) (by exact hok))) (.cons (s_assign (.tmp 9 (I (askedOf f c)))) .nil)))) ?_)
 refine AC.rq (fun σ2 => RegOK.m1 [1, 2, 6, 11] ⟨[(1, I c), (2, .ptr (σ0 0) 0), (6, I (askedOf f c)), (11, .bool (decide ((askedOf f c) ≠ 0)))], (.box (σ0 0) (fc f)) :: mem⟩ (.cons (s_move (.tmp 6 (I (askedOf f c)))) (.cons (s_neq (.tmp 10 (I (askedOf f c))) (.int .i64 (0))) .nil)) ?_)
 refine AC.cend (decide ((askedOf f c) ≠ 0)) rfl rfl (fun hc => ?_) (fun hc => ?_)
 ·have q1 := iD.1 hc
  refine AC.rq (fun σ3 => RegOK.m1 [4, 5] ⟨[(4, .nils), (5, I (askedOf f c))], (.box (σ0 0) (fc f)) :: mem⟩ (.cons (s_move (.tmp 6 (I (askedOf f c)))) (.cons (s_assign .nils) (.cons (s_assign (.tmp 12 (I (askedOf f c)))) .nil))) ?_)
  refine AC.ret ?_
  refine thenQ_r ?_
  exact FinQ.ret (result2 rfl (res_nils (res_tmp (v := .nils) rfl rfl)) (res_tmp (v := I (askedOf f c)) rfl rfl)) ⟨by unfold pathRes; first | (rw [if_pos (by omega)]; rfl) | (rw [if_neg (by omega)]; rfl), rfl⟩
 ·have q2 := iF iD hc
  have hz := asked_zero (f := f) (c := c) (by omega)
  obtain ⟨n, hcn⟩ : ∃ n : Nat, c = (n : Int) := ⟨c.toNat, by omega⟩
  subst hcn
  have g := FG.of hz.1
  refine AC.skip ?_
  refine thenQ_n ?_
  refine AC.rq (fun σ4 => RegOK.m1 [4, 5] ⟨[(4, .slice (((pathI f.nodes n)).map I) none), (5, I 0)], (.box (σ0 0) (fc f)) :: mem⟩ (.cons (s_loadA (cs := (fc f)) (l := (fc f)) 0 tyA28 (.tmp 2 (.ptr (σ0 0) 0)) rfl rfl) (.cons (s_move (.tmp 1 (I (n : Int)))) (.cons (s_call (r := .slice (((pathI f.nodes n)).map I) none) (.func 56) (.cons (.tmp 13 (Feeder.av f)) (.cons (.tmp 14 (I (n : Int))) .nil)) call56 (F56 (f) (n) (by assumption) (by omega))) (.cons (s_assign (.tmp 15 (.slice (((pathI f.nodes n)).map I) none))) (.cons (s_assign (.int .i64 (0))) .nil))))) ?_)
  refine AC.ret ?_
  exact FinQ.ret (result2 rfl (res_tmp (v := .slice (((pathI f.nodes n)).map I) none) rfl rfl) (res_tmp (v := I 0) rfl rfl)) ⟨by unfold pathRes; first | (rw [if_pos (by omega)]; rfl) | (rw [if_neg (by omega)]; rfl), rfl⟩
end Go.Proofs.Ytahdgadjpkcnjaa
end
section
set_option maxRecDepth 100000
namespace Go.Proofs.Ytahdgadjpkcnjaa
open Go.Proofs
theorem F75 (f : Feeder) (i : Nat) (hok : f.ok) (hi : i < f.cables.length) : Pure Try.prog 75 [Feeder.av f, I (i : Int)] (I (cabE f.cables i)) := by
 intro mem
 have ⟨hc1, hc2, hc3, hc4, hc5, hc6⟩ := hok
 have hx := Feeder.ok.cab hok hi
 unfold Cable.ok at hx
 refine Meets.body 2 Try.func75 rfl rfl ?_
 refine AC.rq (fun σ0 => RegOK.m1 [1, 2] ⟨[(1, I (i : Int)), (2, .ptr (σ0 0) 0)], (.box (σ0 0) (fc f)) :: .hole :: mem⟩ (.cons (s_box 0 (σ0 0) (.tmp 0 (Feeder.av f)) rfl) (.cons (s_assign (.int .i64 (0))) .nil)) ?_)
 refine AC.rq (fun σ1 => RegOK.m1 [1, 2, 5] ⟨[(1, I (i : Int)), (2, .ptr (σ0 0) 0), (5, .ptr (σ1 5) 0)], (.box (σ0 0) (fc f)) :: (.box (σ1 5) (Cable.av (f.cables.getD i default)).cells) :: mem⟩ (.cons (s_fieldAddr fld28_0 (.tmp 2 (.ptr (σ0 0) 0))) (.cons (s_load1 (cs := (fc f)) (c := .slice ((f.cables).map Cable.av) none) 0 tyS22 (.tmp 7 (.ptr (σ0 0) 0)) rfl) (.cons (s_move (.tmp 1 (I (i : Int)))) (.cons (s_ixM (l := f.cables) (f := Cable.av) (default) slc22 (.tmp 8 (.slice ((f.cables).map Cable.av) none)) (.tmp 9 (I (i : Int))) (by omega) rfl) (.cons (s_loadAe (l := (Cable.av (f.cables.getD i default)).cells) tyA71 (.tmp 10 (.eptr (Cable.av (f.cables.getD i default)) 0)) rfl rfl) (.cons (s_alloc 1 (σ1 5) zero71) (.cons (s_store (cs := [.str (⟨#[]⟩), I 0, I 0, I 0, I 0, I 0]) 1 sz71 (.tmp 5 (.ptr (σ1 5) 0)) (.tmp 11 (Cable.av (f.cables.getD i default))) rfl rfl rfl (Nat.le_of_ble_eq_true rfl)) .nil))))))) ?_)
 generalize hgx : (f.cables.getD i default) = x at *
 refine AC.seq ?_
 refine AC.rq (fun σ2 => RegOK.m1 [1, 2, 5, 15] ⟨[(1, I (i : Int)), (2, .ptr (σ0 0) 0), (5, .ptr (σ1 5) 0), (15, .bool ((!nameOK x.name)))], (.box (σ0 0) (fc f)) :: (.box (σ1 5) (Cable.av x).cells) :: mem⟩ (.cons (s_fieldAddr fld71_0 (.tmp 5 (.ptr (σ1 5) 0))) (.cons (s_load1 (cs := (Cable.av x).cells) (c := .str (x.name)) 1 tyS9 (.tmp 12 (.ptr (σ1 5) 0)) rfl) (.cons (s_call (r := .bool (nameOK x.name)) (.func 114) (.cons (.tmp 13 (.str (x.name))) .nil) call114 (F114 (x.name) (by omega))) (.cons (s_not (.tmp 14 (.bool (nameOK x.name)))) .nil)))) ?_)
 refine AC.cend ((!nameOK x.name)) rfl rfl (fun hc => ?_) (fun hc => ?_)
 ·have q1 := (iN iB).1 hc
  refine AC.rq (fun σ3 => RegOK.m1 [4] ⟨[(4, I 6)], (.box (σ0 0) (fc f)) :: (.box (σ1 5) (Cable.av x).cells) :: mem⟩ (.cons (s_assign (.int .i64 (6))) .nil) ?_)
  refine AC.ret ?_
  refine thenQ_r ?_
  exact FinQ.ret (result1 rfl (res_tmp (v := I 6) rfl rfl)) ⟨by subst hgx; refine congrArg I ?_; unfold cabE errOf; rw [if_pos (by assumption)], rfl⟩
 ·have q2 := iF (iN iB) hc
  refine AC.skip ?_
  refine thenQ_n ?_
  refine AC.seq ?_
  refine AC.rq (fun σ4 => RegOK.m1 [1, 2, 5, 6] ⟨[(1, I (i : Int)), (2, .ptr (σ0 0) 0), (5, .ptr (σ1 5) 0), (6, I 0)], (.box (σ0 0) (fc f)) :: (.box (σ1 5) (Cable.av x).cells) :: mem⟩ (.cons (s_assign (.int .i64 (0))) .nil) ?_)
  refine AC.block ?_
  refine AC.loopW (fun mz T => ∃ (k : Nat), mz = i - k ∧ ((k ≤ i) ∧ (∀ j : Nat, j < k → decide ((f.cables.getD j default).name = x.name) = false)) ∧ T = ⟨[(1, I (i : Int)), (2, .ptr (σ0 0) 0), (5, .ptr (σ1 5) 0), (6, I (k : Int))], (.box (σ0 0) (fc f)) :: (.box (σ1 5) (Cable.av x).cells) :: mem⟩) _ ⟨[(1, I (i : Int)), (2, .ptr (σ0 0) 0), (5, .ptr (σ1 5) 0), (6, I ((0) : Int))], (.box (σ0 0) (fc f)) :: (.box (σ1 5) (Cable.av x).cells) :: mem⟩ ⟨0, rfl, ⟨(by omega), (by intro j hj; omega)⟩, rfl⟩ (Weak.of [] (by kernel_rfl) (by kernel_rfl)) ?_ Fr.plain
  rintro _ _ ⟨k, rfl, ⟨hk, hn⟩, rfl⟩
  refine AC.seq ?_
  refine AC.rq (fun σ5 => RegOK.m1 [1, 2, 5, 6, 18] ⟨[(1, I (i : Int)), (2, .ptr (σ0 0) 0), (5, .ptr (σ1 5) 0), (6, I (k : Int)), (18, .bool (decide ((k : Int) < (i : Int))))], (.box (σ0 0) (fc f)) :: (.box (σ1 5) (Cable.av x).cells) :: mem⟩ (.cons (s_move (.tmp 6 (I (k : Int)))) (.cons (s_move (.tmp 1 (I (i : Int)))) (.cons (s_lss (.tmp 16 (I (k : Int))) (.tmp 17 (I (i : Int)))) .nil))) ?_)
  refine AC.cend (decide ((k : Int) < (i : Int))) rfl rfl (fun hc => ?_) (fun hc => ?_)
  ·have q3 := iD.1 hc
   refine AC.skip ?_
   refine thenQ_n ?_
   refine AC.bseq ?_
   refine AC.rq (fun σ7 => RegOK.m1 [1, 2, 5, 6, 29] ⟨[(1, I (i : Int)), (2, .ptr (σ0 0) 0), (5, .ptr (σ1 5) 0), (6, I (k : Int)), (29, .bool (decide ((f.cables.getD k default).name = x.name)))], (.box (σ0 0) (fc f)) :: (.box (σ1 5) (Cable.av x).cells) :: mem⟩ (.cons (s_fieldAddr fld28_0 (.tmp 2 (.ptr (σ0 0) 0))) (.cons (s_load1 (cs := (fc f)) (c := .slice ((f.cables).map Cable.av) none) 0 tyS22 (.tmp 21 (.ptr (σ0 0) 0)) rfl) (.cons (s_move (.tmp 6 (I (k : Int)))) (.cons (s_ixM (l := f.cables) (f := Cable.av) (default) slc22 (.tmp 22 (.slice ((f.cables).map Cable.av) none)) (.tmp 23 (I (k : Int))) (by omega) rfl) (.cons (s_fieldAddre fld71_0 (.tmp 24 (.eptr (Cable.av (f.cables.getD k default)) 0))) (.cons (s_load1e (c := .str ((f.cables.getD k default).name)) tyS9 (.tmp 25 (.eptr (Cable.av (f.cables.getD k default)) 0)) rfl) (.cons (s_fieldAddr fld71_0 (.tmp 5 (.ptr (σ1 5) 0))) (.cons (s_load1 (cs := (Cable.av x).cells) (c := .str (x.name)) 1 tyS9 (.tmp 27 (.ptr (σ1 5) 0)) rfl) (.cons (s_bytes_eql (.tmp 26 (.str ((f.cables.getD k default).name))) (.tmp 28 (.str (x.name)))) .nil))))))))) ?_)
   refine AC.cend (decide ((f.cables.getD k default).name = x.name)) rfl rfl (fun hc => ?_) (fun hc => ?_)
   ·have q4 := iD.1 hc
    refine AC.rq (fun σ8 => RegOK.m1 [4] ⟨[(4, I 5)], (.box (σ0 0) (fc f)) :: (.box (σ1 5) (Cable.av x).cells) :: mem⟩ (.cons (s_assign (.int .i64 (5))) .nil) ?_)
    refine AC.ret ?_
    refine blockQ_r ?_
    refine thenQ_r ?_
    refine thenQ_r ?_
    refine blockQ_r ?_
    refine thenQ_r ?_
    exact FinQ.ret (result1 rfl (res_tmp (v := I 5) rfl rfl)) ⟨by subst hgx; refine congrArg I ?_; unfold cabE errOf; (have h0 := take_any_of (l := f.cables) (p := fun y => decide (y.name = (List.getD f.cables i default).name)) default (i := i) (j := k) (by omega) (by omega) hc; rw [if_neg (by assumption), if_pos h0]), rfl⟩
   ·have q5 := iF iD hc
    refine AC.skip ?_
    refine blockQ_n ?_
    refine thenQ_n ?_
    refine AC.re (fun σ6 => RegOK.m1 [1, 2, 5, 6] ⟨[(1, I (i : Int)), (2, .ptr (σ0 0) 0), (5, .ptr (σ1 5) 0), (6, I ((k : Int) + 1))], (.box (σ0 0) (fc f)) :: (.box (σ1 5) (Cable.av x).cells) :: mem⟩ (.cons (s_move (.tmp 6 (I (k : Int)))) (.cons (s_add (.tmp 19 (I (k : Int))) (.int .i64 (1)) (inK_i64 (by omega))) (.cons (s_assign (.tmp 20 (I ((k : Int) + 1)))) .nil))) ?_)
    refine thenQ_n ⟨_, ?_, _, ⟨(k + 1), rfl, ⟨(by omega), (by intro j hj; rcases Decidable.em (j = k) with h | h; (subst h; exact hc); exact hn j (by omega))⟩, rfl⟩, Weak.of [] (by kernel_rfl) (by kernel_rfl)⟩
    omega
  ·have q6 := iF iD hc
   refine AC.exit ?_
   refine thenQ_x ?_
   refine thenQ_x ?_
   refine blockQ_x ?_
   refine thenQ_n ?_
   refine AC.seq ?_
   refine AC.rq (fun σ9 => RegOK.m1 [45] ⟨[(45, .bool ((((!(wiB (x.coreLo) (x.coreHi) 1 1000000)) || (!(wiB (x.earthLo) (x.earthHi) 1 1000000))) || (!(inB (x.rated) 1 100000000)))))], (.box (σ0 0) (fc f)) :: (.box (σ1 5) (Cable.av x).cells) :: mem⟩ (.cons (s_fieldAddr fld71_1 (.tmp 5 (.ptr (σ1 5) 0))) (.cons (s_loadA (cs := (Cable.av x).cells) (l := [I (x.coreLo), I (x.coreHi)]) 1 tyA26 (.tmp 30 (.ptr (σ1 5) 1)) rfl rfl) (.cons (s_call (r := .bool ((wiB (x.coreLo) (x.coreHi) 1 1000000))) (.func 73) (.cons (.tmp 31 (.agg [I (x.coreLo), I (x.coreHi)])) (.cons (.int .i64 (1)) (.cons (.int .i64 (1000000)) .nil))) call73 (F73 (x.coreLo) (x.coreHi) (1) (1000000))) (.cons (s_not (.tmp 32 (.bool ((wiB (x.coreLo) (x.coreHi) 1 1000000))))) (.cons (s_move (.tmp 33 (.bool ((!(wiB (x.coreLo) (x.coreHi) 1 1000000)))))) (.cons (Step.guard _ rfl (.bool ((!(wiB (x.coreLo) (x.coreHi) 1 1000000)))) gF (fun hb => s_fieldAddr fld71_2 (.tmp 5 (.ptr (σ1 5) 0)))) (.cons (Step.guard _ rfl (.bool ((!(wiB (x.coreLo) (x.coreHi) 1 1000000)))) gF (fun hb => s_loadA (cs := (Cable.av x).cells) (l := [I (x.earthLo), I (x.earthHi)]) 1 tyA26 (.tmpC hb 35 (.ptr (σ1 5) 3)) rfl rfl)) (.cons (Step.guard _ rfl (.bool ((!(wiB (x.coreLo) (x.coreHi) 1 1000000)))) gF (fun hb => s_call (r := .bool ((wiB (x.earthLo) (x.earthHi) 1 1000000))) (.func 73) (.cons (.tmpC hb 36 (.agg [I (x.earthLo), I (x.earthHi)])) (.cons (.int .i64 (1)) (.cons (.int .i64 (1000000)) .nil))) call73 (F73 (x.earthLo) (x.earthHi) (1) (1000000)))) (.cons (Step.guard _ rfl (.bool ((!(wiB (x.coreLo) (x.coreHi) 1 1000000)))) gF (fun hb => s_not (.tmpC hb 37 (.bool ((wiB (x.earthLo) (x.earthHi) 1 1000000)))))) (.cons (s_or' (e := (!(!(wiB (x.coreLo) (x.coreHi) 1 1000000)))) (q := (!(wiB (x.earthLo) (x.earthHi) 1 1000000))) (fun h => (notMk h)) (.tmp 34 (.bool ((!(wiB (x.coreLo) (x.coreHi) 1 1000000)))))) (.cons (s_move (.tmp 39 (.bool (((!(wiB (x.coreLo) (x.coreHi) 1 1000000)) || (!(wiB (x.earthLo) (x.earthHi) 1 1000000))))))) (.cons (Step.guard _ rfl (.bool (((!(wiB (x.coreLo) (x.coreHi) 1 1000000)) || (!(wiB (x.earthLo) (x.earthHi) 1 1000000))))) gF (fun hb => s_fieldAddr fld71_3 (.tmp 5 (.ptr (σ1 5) 0)))) (.cons (Step.guard _ rfl (.bool (((!(wiB (x.coreLo) (x.coreHi) 1 1000000)) || (!(wiB (x.earthLo) (x.earthHi) 1 1000000))))) gF (fun hb => s_load1 (cs := (Cable.av x).cells) (c := I (x.rated)) 1 tyS3 (.tmpC hb 41 (.ptr (σ1 5) 5)) rfl)) (.cons (Step.guard _ rfl (.bool (((!(wiB (x.coreLo) (x.coreHi) 1 1000000)) || (!(wiB (x.earthLo) (x.earthHi) 1 1000000))))) gF (fun hb => s_call (r := .bool ((inB (x.rated) 1 100000000))) (.func 74) (.cons (.tmpC hb 42 (I (x.rated))) (.cons (.int .i64 (1)) (.cons (.int .i64 (100000000)) .nil))) call74 (F74 (x.rated) (1) (100000000)))) (.cons (Step.guard _ rfl (.bool (((!(wiB (x.coreLo) (x.coreHi) 1 1000000)) || (!(wiB (x.earthLo) (x.earthHi) 1 1000000))))) gF (fun hb => s_not (.tmpC hb 43 (.bool ((inB (x.rated) 1 100000000)))))) (.cons (s_or' (e := (!((!(wiB (x.coreLo) (x.coreHi) 1 1000000)) || (!(wiB (x.earthLo) (x.earthHi) 1 1000000))))) (q := (!(inB (x.rated) 1 100000000))) (fun h => (notMk h)) (.tmp 40 (.bool (((!(wiB (x.coreLo) (x.coreHi) 1 1000000)) || (!(wiB (x.earthLo) (x.earthHi) 1 1000000))))))) .nil)))))))))))))))) ?_)
   refine AC.cend ((((!(wiB (x.coreLo) (x.coreHi) 1 1000000)) || (!(wiB (x.earthLo) (x.earthHi) 1 1000000))) || (!(inB (x.rated) 1 100000000)))) rfl rfl (fun hc => ?_) (fun hc => ?_)
   ·have q7 := (iO (iO (iN wiB_i) (iN wiB_i)) (iN inB_i)).1 hc
    refine AC.rq (fun σ10 => RegOK.m1 [4] ⟨[(4, I 7)], (.box (σ0 0) (fc f)) :: (.box (σ1 5) (Cable.av x).cells) :: mem⟩ (.cons (s_assign (.int .i64 (7))) .nil) ?_)
    refine AC.ret ?_
    refine thenQ_r ?_
    exact FinQ.ret (result1 rfl (res_tmp (v := I 7) rfl rfl)) ⟨by subst hgx; refine congrArg I ?_; unfold cabE errOf; (have h0 := take_any_not (l := f.cables) (p := fun y => decide (y.name = (List.getD f.cables i default).name)) default (i := i) (fun j hj => hn j (by omega)); rw [if_neg (by first | assumption | grind), if_neg (by rw [h0]; simp)]; unfold cableErr; (repeat' split) <;> first | rfl | (exfalso; omega)), rfl⟩
   ·have q8 := iF (iO (iO (iN wiB_i) (iN wiB_i)) (iN inB_i)) hc
    refine AC.skip ?_
    refine thenQ_n ?_
    refine AC.rq (fun σ11 => RegOK.m1 [4] ⟨[(4, I 0)], (.box (σ0 0) (fc f)) :: (.box (σ1 5) (Cable.av x).cells) :: mem⟩ (.cons (s_assign (.int .i64 (0))) .nil) ?_)
    refine AC.ret ?_
    exact FinQ.ret (result1 rfl (res_tmp (v := I 0) rfl rfl)) ⟨by subst hgx; refine congrArg I ?_; unfold cabE errOf; (have h0 := take_any_not (l := f.cables) (p := fun y => decide (y.name = (List.getD f.cables i default).name)) default (i := i) (fun j hj => hn j (by omega)); rw [if_neg (by first | assumption | grind), if_neg (by rw [h0]; simp)]; unfold cableErr; (repeat' split) <;> first | rfl | (exfalso; omega)), rfl⟩
theorem F76 (f : Feeder) (i : Nat) (hok : f.ok) (hi : i < f.fuses.length) : Pure Try.prog 76 [Feeder.av f, I (i : Int)] (I (fusE f.fuses i)) := by
 intro mem
 have ⟨hc1, hc2, hc3, hc4, hc5, hc6⟩ := hok
 have hx := Feeder.ok.fus hok hi
 have ⟨hx1, hx2⟩ := hx
 refine Meets.body 4 Try.func76 rfl rfl ?_
 refine AC.rq (fun σ0 => RegOK.m1 [1, 2] ⟨[(1, I (i : Int)), (2, .ptr (σ0 0) 0)], (.box (σ0 0) (fc f)) :: .hole :: .hole :: .hole :: mem⟩ (.cons (s_box 0 (σ0 0) (.tmp 0 (Feeder.av f)) rfl) (.cons (s_assign (.int .i64 (0))) .nil)) ?_)
 refine AC.rq (fun σ1 => RegOK.m1 [1, 2, 5] ⟨[(1, I (i : Int)), (2, .ptr (σ0 0) 0), (5, .ptr (σ1 5) 0)], (.box (σ0 0) (fc f)) :: (.box (σ1 5) (Fuse.av (f.fuses.getD i default)).cells) :: .hole :: .hole :: mem⟩ (.cons (s_fieldAddr fld28_1 (.tmp 2 (.ptr (σ0 0) 0))) (.cons (s_load1 (cs := (fc f)) (c := .slice ((f.fuses).map Fuse.av) none) 0 tyS23 (.tmp 12 (.ptr (σ0 0) 1)) rfl) (.cons (s_move (.tmp 1 (I (i : Int)))) (.cons (s_ixM (l := f.fuses) (f := Fuse.av) (default) slc23 (.tmp 13 (.slice ((f.fuses).map Fuse.av) none)) (.tmp 14 (I (i : Int))) (by omega) rfl) (.cons (s_loadAe (l := (Fuse.av (f.fuses.getD i default)).cells) tyA94 (.tmp 15 (.eptr (Fuse.av (f.fuses.getD i default)) 0)) rfl rfl) (.cons (s_alloc 1 (σ1 5) zero94) (.cons (s_store (cs := [.str (⟨#[]⟩), I 0, .nils]) 1 sz94 (.tmp 5 (.ptr (σ1 5) 0)) (.tmp 16 (Fuse.av (f.fuses.getD i default))) rfl rfl rfl (Nat.le_of_ble_eq_true rfl)) .nil))))))) ?_)
 generalize hgx : (f.fuses.getD i default) = x at *
 refine AC.seq ?_
 refine AC.rq (fun σ2 => RegOK.m1 [1, 2, 5, 20] ⟨[(1, I (i : Int)), (2, .ptr (σ0 0) 0), (5, .ptr (σ1 5) 0), (20, .bool ((!nameOK x.name)))], (.box (σ0 0) (fc f)) :: (.box (σ1 5) (Fuse.av x).cells) :: .hole :: .hole :: mem⟩ (.cons (s_fieldAddr fld94_0 (.tmp 5 (.ptr (σ1 5) 0))) (.cons (s_load1 (cs := (Fuse.av x).cells) (c := .str (x.name)) 1 tyS9 (.tmp 17 (.ptr (σ1 5) 0)) rfl) (.cons (s_call (r := .bool (nameOK x.name)) (.func 114) (.cons (.tmp 18 (.str (x.name))) .nil) call114 (F114 (x.name) (by omega))) (.cons (s_not (.tmp 19 (.bool (nameOK x.name)))) .nil)))) ?_)
 refine AC.cend ((!nameOK x.name)) rfl rfl (fun hc => ?_) (fun hc => ?_)
 ·have q1 := (iN iB).1 hc
  refine AC.rq (fun σ3 => RegOK.m1 [4] ⟨[(4, I 6)], (.box (σ0 0) (fc f)) :: (.box (σ1 5) (Fuse.av x).cells) :: .hole :: .hole :: mem⟩ (.cons (s_assign (.int .i64 (6))) .nil) ?_)
  refine AC.ret ?_
  refine thenQ_r ?_
  exact FinQ.ret (result1 rfl (res_tmp (v := I 6) rfl rfl)) ⟨by subst hgx; refine congrArg I ?_; unfold fusE errOf; rw [if_pos (by assumption)], rfl⟩
 ·have q2 := iF (iN iB) hc
  refine AC.skip ?_
  refine thenQ_n ?_
  refine AC.seq ?_
  refine AC.rq (fun σ4 => RegOK.m1 [1, 2, 5, 6] ⟨[(1, I (i : Int)), (2, .ptr (σ0 0) 0), (5, .ptr (σ1 5) 0), (6, I 0)], (.box (σ0 0) (fc f)) :: (.box (σ1 5) (Fuse.av x).cells) :: .hole :: .hole :: mem⟩ (.cons (s_assign (.int .i64 (0))) .nil) ?_)
  refine AC.block ?_
  refine AC.loopW (fun mz T => ∃ (k : Nat), mz = i - k ∧ ((k ≤ i) ∧ (∀ j : Nat, j < k → decide ((f.fuses.getD j default).name = x.name) = false)) ∧ T = ⟨[(1, I (i : Int)), (2, .ptr (σ0 0) 0), (5, .ptr (σ1 5) 0), (6, I (k : Int))], (.box (σ0 0) (fc f)) :: (.box (σ1 5) (Fuse.av x).cells) :: .hole :: .hole :: mem⟩) _ ⟨[(1, I (i : Int)), (2, .ptr (σ0 0) 0), (5, .ptr (σ1 5) 0), (6, I ((0) : Int))], (.box (σ0 0) (fc f)) :: (.box (σ1 5) (Fuse.av x).cells) :: .hole :: .hole :: mem⟩ ⟨0, rfl, ⟨(by omega), (by intro j hj; omega)⟩, rfl⟩ (Weak.of [] (by kernel_rfl) (by kernel_rfl)) ?_ Fr.plain
  rintro _ _ ⟨k, rfl, ⟨hk, hn⟩, rfl⟩
  refine AC.seq ?_
  refine AC.rq (fun σ5 => RegOK.m1 [1, 2, 5, 6, 23] ⟨[(1, I (i : Int)), (2, .ptr (σ0 0) 0), (5, .ptr (σ1 5) 0), (6, I (k : Int)), (23, .bool (decide ((k : Int) < (i : Int))))], (.box (σ0 0) (fc f)) :: (.box (σ1 5) (Fuse.av x).cells) :: .hole :: .hole :: mem⟩ (.cons (s_move (.tmp 6 (I (k : Int)))) (.cons (s_move (.tmp 1 (I (i : Int)))) (.cons (s_lss (.tmp 21 (I (k : Int))) (.tmp 22 (I (i : Int)))) .nil))) ?_)
  refine AC.cend (decide ((k : Int) < (i : Int))) rfl rfl (fun hc => ?_) (fun hc => ?_)
  ·have q3 := iD.1 hc
   refine AC.skip ?_
   refine thenQ_n ?_
   refine AC.bseq ?_
   refine AC.rq (fun σ7 => RegOK.m1 [1, 2, 5, 6, 34] ⟨[(1, I (i : Int)), (2, .ptr (σ0 0) 0), (5, .ptr (σ1 5) 0), (6, I (k : Int)), (34, .bool (decide ((f.fuses.getD k default).name = x.name)))], (.box (σ0 0) (fc f)) :: (.box (σ1 5) (Fuse.av x).cells) :: .hole :: .hole :: mem⟩ (.cons (s_fieldAddr fld28_1 (.tmp 2 (.ptr (σ0 0) 0))) (.cons (s_load1 (cs := (fc f)) (c := .slice ((f.fuses).map Fuse.av) none) 0 tyS23 (.tmp 26 (.ptr (σ0 0) 1)) rfl) (.cons (s_move (.tmp 6 (I (k : Int)))) (.cons (s_ixM (l := f.fuses) (f := Fuse.av) (default) slc23 (.tmp 27 (.slice ((f.fuses).map Fuse.av) none)) (.tmp 28 (I (k : Int))) (by omega) rfl) (.cons (s_fieldAddre fld94_0 (.tmp 29 (.eptr (Fuse.av (f.fuses.getD k default)) 0))) (.cons (s_load1e (c := .str ((f.fuses.getD k default).name)) tyS9 (.tmp 30 (.eptr (Fuse.av (f.fuses.getD k default)) 0)) rfl) (.cons (s_fieldAddr fld94_0 (.tmp 5 (.ptr (σ1 5) 0))) (.cons (s_load1 (cs := (Fuse.av x).cells) (c := .str (x.name)) 1 tyS9 (.tmp 32 (.ptr (σ1 5) 0)) rfl) (.cons (s_bytes_eql (.tmp 31 (.str ((f.fuses.getD k default).name))) (.tmp 33 (.str (x.name)))) .nil))))))))) ?_)
   refine AC.cend (decide ((f.fuses.getD k default).name = x.name)) rfl rfl (fun hc => ?_) (fun hc => ?_)
   ·have q4 := iD.1 hc
    refine AC.rq (fun σ8 => RegOK.m1 [4] ⟨[(4, I 5)], (.box (σ0 0) (fc f)) :: (.box (σ1 5) (Fuse.av x).cells) :: .hole :: .hole :: mem⟩ (.cons (s_assign (.int .i64 (5))) .nil) ?_)
    refine AC.ret ?_
    refine blockQ_r ?_
    refine thenQ_r ?_
    refine thenQ_r ?_
    refine blockQ_r ?_
    refine thenQ_r ?_
    exact FinQ.ret (result1 rfl (res_tmp (v := I 5) rfl rfl)) ⟨by subst hgx; refine congrArg I ?_; unfold fusE errOf; (have h0 := take_any_of (l := f.fuses) (p := fun y => decide (y.name = (List.getD f.fuses i default).name)) default (i := i) (j := k) (by omega) (by omega) hc; rw [if_neg (by assumption), if_pos h0]), rfl⟩
   ·have q5 := iF iD hc
    refine AC.skip ?_
    refine blockQ_n ?_
    refine thenQ_n ?_
    refine AC.re (fun σ6 => RegOK.m1 [1, 2, 5, 6] ⟨[(1, I (i : Int)), (2, .ptr (σ0 0) 0), (5, .ptr (σ1 5) 0), (6, I ((k : Int) + 1))], (.box (σ0 0) (fc f)) :: (.box (σ1 5) (Fuse.av x).cells) :: .hole :: .hole :: mem⟩ (.cons (s_move (.tmp 6 (I (k : Int)))) (.cons (s_add (.tmp 24 (I (k : Int))) (.int .i64 (1)) (inK_i64 (by omega))) (.cons (s_assign (.tmp 25 (I ((k : Int) + 1)))) .nil))) ?_)
    refine thenQ_n ⟨_, ?_, _, ⟨(k + 1), rfl, ⟨(by omega), (by intro j hj; rcases Decidable.em (j = k) with h | h; (subst h; exact hc); exact hn j (by omega))⟩, rfl⟩, Weak.of [] (by kernel_rfl) (by kernel_rfl)⟩
    omega
  ·have q6 := iF iD hc
   refine AC.exit ?_
   refine thenQ_x ?_
   refine thenQ_x ?_
   refine blockQ_x ?_
   refine thenQ_n ?_
   refine AC.seq ?_
   refine AC.rq (fun σ9 => RegOK.m1 [5, 39] ⟨[(5, .ptr (σ1 5) 0), (39, .bool ((!(inB (x.points.length : Int) 1 8))))], (.box (σ0 0) (fc f)) :: (.box (σ1 5) (Fuse.av x).cells) :: .hole :: .hole :: mem⟩ (.cons (s_fieldAddr fld94_2 (.tmp 5 (.ptr (σ1 5) 0))) (.cons (s_load1 (cs := (Fuse.av x).cells) (c := .slice ((x.points).map Point.av) none) 1 tyS92 (.tmp 35 (.ptr (σ1 5) 2)) rfl) (.cons (s_lenM (l := x.points) slc92 (.tmp 36 (.slice ((x.points).map Point.av) none))) (.cons (s_call (r := .bool ((inB (x.points.length : Int) 1 8))) (.func 74) (.cons (.tmp 37 (I (x.points.length : Int))) (.cons (.int .i64 (1)) (.cons (.int .i64 (8)) .nil))) call74 (F74 ((x.points.length : Int)) (1) (8))) (.cons (s_not (.tmp 38 (.bool ((inB (x.points.length : Int) 1 8))))) .nil))))) ?_)
   refine AC.cend ((!(inB (x.points.length : Int) 1 8))) rfl rfl (fun hc => ?_) (fun hc => ?_)
   ·have q7 := (iN inB_i).1 hc
    refine AC.rq (fun σ10 => RegOK.m1 [4] ⟨[(4, I 3)], (.box (σ0 0) (fc f)) :: (.box (σ1 5) (Fuse.av x).cells) :: .hole :: .hole :: mem⟩ (.cons (s_assign (.int .i64 (3))) .nil) ?_)
    refine AC.ret ?_
    refine thenQ_r ?_
    exact FinQ.ret (result1 rfl (res_tmp (v := I 3) rfl rfl)) ⟨by subst hgx; refine congrArg I ?_; unfold fusE errOf; (have h0 := take_any_not (l := f.fuses) (p := fun y => decide (y.name = (List.getD f.fuses i default).name)) default (i := i) (fun j hj => hn j (by omega)); rw [if_neg (by first | assumption | grind), if_neg (by rw [h0]; simp)]; unfold fuseErr; first | (rw [if_pos (by omega)]) | (rw [if_neg (by omega), if_pos (by rcases Decidable.em ((List.getD f.fuses i default).points.any wildP = true) with e | e; exact .inr e; exact .inl (fun hr => hgn ⟨hr, wild_none e⟩))]) | (rw [if_neg (by omega), if_neg (fun h => by rcases h with h | h; exact h hgy.1; (rw [wild_any hgy.2] at h; cases h))]; first | (have h8 := badPs_of (l := (List.getD f.fuses i default).points) (j := ((n : Int) - 1).toNat) (by omega) (by rw [show ((n : Int) - 1).toNat + 1 = n from by omega]; exact hc); rw [if_pos h8]) | (have h8 := badPs_not (l := (List.getD f.fuses i default).points) (fun j hj => hb j (by omega)); rw [h8]; rfl))), rfl⟩
   ·have q8 := iF (iN inB_i) hc
    refine AC.skip ?_
    refine thenQ_n ?_
    refine AC.rq (fun σ11 => RegOK.m1 [5, 7] ⟨[(5, .ptr (σ1 5) 0), (7, .bool ((inB (x.rated) 1 100000000)))], (.box (σ0 0) (fc f)) :: (.box (σ1 5) (Fuse.av x).cells) :: .hole :: .hole :: mem⟩ (.cons (s_fieldAddr fld94_1 (.tmp 5 (.ptr (σ1 5) 0))) (.cons (s_load1 (cs := (Fuse.av x).cells) (c := I (x.rated)) 1 tyS3 (.tmp 40 (.ptr (σ1 5) 1)) rfl) (.cons (s_call (r := .bool ((inB (x.rated) 1 100000000))) (.func 74) (.cons (.tmp 41 (I (x.rated))) (.cons (.int .i64 (1)) (.cons (.int .i64 (100000000)) .nil))) call74 (F74 (x.rated) (1) (100000000))) (.cons (s_assign (.tmp 42 (.bool ((inB (x.rated) 1 100000000))))) .nil)))) ?_)
    refine AC.seq ?_
    refine AC.rq (fun σ12 => RegOK.m1 [5, 7, 8] ⟨[(5, .ptr (σ1 5) 0), (7, .bool ((inB (x.rated) 1 100000000))), (8, I 0)], (.box (σ0 0) (fc f)) :: (.box (σ1 5) (Fuse.av x).cells) :: .hole :: .hole :: mem⟩ (.cons (s_assign (.int .i64 (0))) .nil) ?_)
    refine AC.block ?_
    refine AC.loopW (fun mz T => ∃ (m : Nat), ∃ (g : Bool), mz = x.points.length - m ∧ ((m ≤ x.points.length) ∧ (g = true ↔ (1 ≤ x.rated ∧ x.rated ≤ 100000000) ∧ ∀ j : Nat, j < m → wildP (x.points.getD j default) = false)) ∧ T = ⟨[(5, .ptr (σ1 5) 0), (7, .bool (g)), (8, I (m : Int))], (.box (σ0 0) (fc f)) :: (.box (σ1 5) (Fuse.av x).cells) :: .hole :: .hole :: mem⟩) _ ⟨[(5, .ptr (σ1 5) 0), (7, .bool (((decide (1 ≤ x.rated) && decide (x.rated ≤ 100000000))))), (8, I ((0) : Int))], (.box (σ0 0) (fc f)) :: (.box (σ1 5) (Fuse.av x).cells) :: .hole :: .hole :: mem⟩ ⟨0, (decide (1 ≤ x.rated) && decide (x.rated ≤ 100000000)), rfl, ⟨(by omega), (by simp only [Bool.and_eq_true, decide_eq_true_eq]; exact ⟨fun h => ⟨h, fun j hj => by omega⟩, fun h => h.1⟩)⟩, rfl⟩ (Weak.of [] (by kernel_rfl) (by kernel_rfl)) ?_ Fr.plain
    rintro _ _ ⟨m, g, rfl, ⟨hm, hg⟩, rfl⟩
    refine AC.seq ?_
    refine AC.rq (fun σ13 => RegOK.m1 [5, 7, 8, 47] ⟨[(5, .ptr (σ1 5) 0), (7, .bool (g)), (8, I (m : Int)), (47, .bool (decide ((m : Int) < (x.points.length : Int))))], (.box (σ0 0) (fc f)) :: (.box (σ1 5) (Fuse.av x).cells) :: .hole :: .hole :: mem⟩ (.cons (s_move (.tmp 8 (I (m : Int)))) (.cons (s_fieldAddr fld94_2 (.tmp 5 (.ptr (σ1 5) 0))) (.cons (s_load1 (cs := (Fuse.av x).cells) (c := .slice ((x.points).map Point.av) none) 1 tyS92 (.tmp 44 (.ptr (σ1 5) 2)) rfl) (.cons (s_lenM (l := x.points) slc92 (.tmp 45 (.slice ((x.points).map Point.av) none))) (.cons (s_lss (.tmp 43 (I (m : Int))) (.tmp 46 (I (x.points.length : Int)))) .nil))))) ?_)
    refine AC.cend (decide ((m : Int) < (x.points.length : Int))) rfl rfl (fun hc => ?_) (fun hc => ?_)
    ·have q9 := iD.1 hc
     refine AC.skip ?_
     refine thenQ_n ?_
     refine AC.bseq ?_
     refine AC.re (fun σ15 => RegOK.m1 [5, 7, 8] ⟨[(5, .ptr (σ1 5) 0), (7, .bool (((g && (inB ((x.points.getD m default).cur) 1 100000000)) && (wiB ((x.points.getD m default).lo) ((x.points.getD m default).hi) 1 100000000)))), (8, I (m : Int))], (.box (σ0 0) (fc f)) :: (.box (σ1 5) (Fuse.av x).cells) :: .hole :: .hole :: mem⟩ (.cons (s_move (.tmp 7 (.bool (g)))) (.cons (s_move (.tmp 50 (.bool (g)))) (.cons (Step.guard _ rfl (.bool (g)) gT (fun hb => s_fieldAddr fld94_2 (.tmp 5 (.ptr (σ1 5) 0)))) (.cons (Step.guard _ rfl (.bool (g)) gT (fun hb => s_load1 (cs := (Fuse.av x).cells) (c := .slice ((x.points).map Point.av) none) 1 tyS92 (.tmpC hb 52 (.ptr (σ1 5) 2)) rfl)) (.cons (Step.guard _ rfl (.bool (g)) gT (fun hb => s_move (.tmp 8 (I (m : Int))))) (.cons (Step.guard _ rfl (.bool (g)) gT (fun hb => s_ixM (l := x.points) (f := Point.av) (default) slc92 (.tmpC hb 53 (.slice ((x.points).map Point.av) none)) (.tmpC hb 54 (I (m : Int))) (by have hq := iB.1 hb; omega) rfl)) (.cons (Step.guard _ rfl (.bool (g)) gT (fun hb => s_fieldAddre fld141_0 (.tmpC hb 55 (.eptr (Point.av (x.points.getD m default)) 0)))) (.cons (Step.guard _ rfl (.bool (g)) gT (fun hb => s_load1e (c := I ((x.points.getD m default).cur)) tyS3 (.tmpC hb 56 (.eptr (Point.av (x.points.getD m default)) 0)) rfl)) (.cons (Step.guard _ rfl (.bool (g)) gT (fun hb => s_call (r := .bool ((inB ((x.points.getD m default).cur) 1 100000000))) (.func 74) (.cons (.tmpC hb 57 (I ((x.points.getD m default).cur))) (.cons (.int .i64 (1)) (.cons (.int .i64 (100000000)) .nil))) call74 (F74 ((x.points.getD m default).cur) (1) (100000000)))) (.cons (s_and' (q := (inB ((x.points.getD m default).cur) 1 100000000)) (fun h => h) (.tmp 51 (.bool (g)))) (.cons (s_move (.tmp 59 (.bool ((g && (inB ((x.points.getD m default).cur) 1 100000000)))))) (.cons (Step.guard _ rfl (.bool ((g && (inB ((x.points.getD m default).cur) 1 100000000)))) gT (fun hb => s_fieldAddr fld94_2 (.tmp 5 (.ptr (σ1 5) 0)))) (.cons (Step.guard _ rfl (.bool ((g && (inB ((x.points.getD m default).cur) 1 100000000)))) gT (fun hb => s_load1 (cs := (Fuse.av x).cells) (c := .slice ((x.points).map Point.av) none) 1 tyS92 (.tmpC hb 61 (.ptr (σ1 5) 2)) rfl)) (.cons (Step.guard _ rfl (.bool ((g && (inB ((x.points.getD m default).cur) 1 100000000)))) gT (fun hb => s_move (.tmp 8 (I (m : Int))))) (.cons (Step.guard _ rfl (.bool ((g && (inB ((x.points.getD m default).cur) 1 100000000)))) gT (fun hb => s_ixM (l := x.points) (f := Point.av) (default) slc92 (.tmpC hb 62 (.slice ((x.points).map Point.av) none)) (.tmpC hb 63 (I (m : Int))) (by have hq := (iA iB inB_i).1 hb; omega) rfl)) (.cons (Step.guard _ rfl (.bool ((g && (inB ((x.points.getD m default).cur) 1 100000000)))) gT (fun hb => s_fieldAddre fld141_1 (.tmpC hb 64 (.eptr (Point.av (x.points.getD m default)) 0)))) (.cons (Step.guard _ rfl (.bool ((g && (inB ((x.points.getD m default).cur) 1 100000000)))) gT (fun hb => s_loadAe (l := [I ((x.points.getD m default).lo), I ((x.points.getD m default).hi)]) tyA26 (.tmpC hb 65 (.eptr (Point.av (x.points.getD m default)) 1)) rfl rfl)) (.cons (Step.guard _ rfl (.bool ((g && (inB ((x.points.getD m default).cur) 1 100000000)))) gT (fun hb => s_call (r := .bool ((wiB ((x.points.getD m default).lo) ((x.points.getD m default).hi) 1 100000000))) (.func 73) (.cons (.tmpC hb 66 (.agg [I ((x.points.getD m default).lo), I ((x.points.getD m default).hi)])) (.cons (.int .i64 (1)) (.cons (.int .i64 (100000000)) .nil))) call73 (F73 ((x.points.getD m default).lo) ((x.points.getD m default).hi) (1) (100000000)))) (.cons (s_and' (q := (wiB ((x.points.getD m default).lo) ((x.points.getD m default).hi) 1 100000000)) (fun h => h) (.tmp 60 (.bool ((g && (inB ((x.points.getD m default).cur) 1 100000000)))))) (.cons (s_assign (.tmp 68 (.bool (((g && (inB ((x.points.getD m default).cur) 1 100000000)) && (wiB ((x.points.getD m default).lo) ((x.points.getD m default).hi) 1 100000000)))))) .nil)))))))))))))))))))) ?_)
     refine blockQ_n ?_
     refine thenQ_n ?_
     refine AC.re (fun σ14 => RegOK.m1 [5, 7, 8] ⟨[(5, .ptr (σ1 5) 0), (7, .bool (((g && (inB ((x.points.getD m default).cur) 1 100000000)) && (wiB ((x.points.getD m default).lo) ((x.points.getD m default).hi) 1 100000000)))), (8, I ((m : Int) + 1))], (.box (σ0 0) (fc f)) :: (.box (σ1 5) (Fuse.av x).cells) :: .hole :: .hole :: mem⟩ (.cons (s_move (.tmp 8 (I (m : Int)))) (.cons (s_add (.tmp 48 (I (m : Int))) (.int .i64 (1)) (inK_i64 (by omega))) (.cons (s_assign (.tmp 49 (I ((m : Int) + 1)))) .nil))) ?_)
     refine thenQ_n ⟨_, ?_, _, ⟨(m + 1), ((g && (inB ((x.points.getD m default).cur) 1 100000000)) && (wiB ((x.points.getD m default).lo) ((x.points.getD m default).hi) 1 100000000)), rfl, ⟨(by omega), (by exact wild_step hg)⟩, rfl⟩, Weak.of [] (by kernel_rfl) (by kernel_rfl)⟩
     omega
    ·have q10 := iF iD hc
     have hml : m = x.points.length := by omega
     subst hml
     refine AC.exit ?_
     refine thenQ_x ?_
     refine thenQ_x ?_
     refine blockQ_x ?_
     refine thenQ_n ?_
     refine AC.seq ?_
     refine AC.rq (fun σ16 => RegOK.m1 [5, 70] ⟨[(5, .ptr (σ1 5) 0), (70, .bool ((!g)))], (.box (σ0 0) (fc f)) :: (.box (σ1 5) (Fuse.av x).cells) :: .hole :: .hole :: mem⟩ (.cons (s_move (.tmp 7 (.bool (g)))) (.cons (s_not (.tmp 69 (.bool (g)))) .nil)) ?_)
     refine AC.cend ((!g)) rfl rfl (fun hc => ?_) (fun hc => ?_)
     ·have q11 := (iN iB).1 hc
      have hgn := fun h => q11 (hg.2 h)
      refine AC.rq (fun σ17 => RegOK.m1 [4] ⟨[(4, I 7)], (.box (σ0 0) (fc f)) :: (.box (σ1 5) (Fuse.av x).cells) :: .hole :: .hole :: mem⟩ (.cons (s_assign (.int .i64 (7))) .nil) ?_)
      refine AC.ret ?_
      refine thenQ_r ?_
      exact FinQ.ret (result1 rfl (res_tmp (v := I 7) rfl rfl)) ⟨by subst hgx; refine congrArg I ?_; unfold fusE errOf; (have h0 := take_any_not (l := f.fuses) (p := fun y => decide (y.name = (List.getD f.fuses i default).name)) default (i := i) (fun j hj => hn j (by omega)); rw [if_neg (by first | assumption | grind), if_neg (by rw [h0]; simp)]; unfold fuseErr; first | (rw [if_pos (by omega)]) | (rw [if_neg (by omega), if_pos (by rcases Decidable.em ((List.getD f.fuses i default).points.any wildP = true) with e | e; exact .inr e; exact .inl (fun hr => hgn ⟨hr, wild_none e⟩))]) | (rw [if_neg (by omega), if_neg (fun h => by rcases h with h | h; exact h hgy.1; (rw [wild_any hgy.2] at h; cases h))]; first | (have h8 := badPs_of (l := (List.getD f.fuses i default).points) (j := ((n : Int) - 1).toNat) (by omega) (by rw [show ((n : Int) - 1).toNat + 1 = n from by omega]; exact hc); rw [if_pos h8]) | (have h8 := badPs_not (l := (List.getD f.fuses i default).points) (fun j hj => hb j (by omega)); rw [h8]; rfl))), rfl⟩
     ·have q12 := iF (iN iB) hc
      have hgy := hg.1 (Decidable.not_not.1 q12)
      refine AC.skip ?_
      refine thenQ_n ?_
      refine AC.seq ?_
      refine AC.rq (fun σ18 => RegOK.m1 [5, 9] ⟨[(5, .ptr (σ1 5) 0), (9, I 1)], (.box (σ0 0) (fc f)) :: (.box (σ1 5) (Fuse.av x).cells) :: .hole :: .hole :: mem⟩ (.cons (s_assign (.int .i64 (1))) .nil) ?_)
      refine AC.block ?_
      refine AC.loopW (fun mz T => ∃ (n : Nat), mz = x.points.length - n ∧ ((1 ≤ n ∧ n ≤ x.points.length) ∧ (∀ j : Nat, j + 1 < n → badP (x.points.getD j default) (x.points.getD (j + 1) default) = false)) ∧ T = ⟨[(5, .ptr (σ1 5) 0), (9, I (n : Int))], (.box (σ0 0) (fc f)) :: (.box (σ1 5) (Fuse.av x).cells) :: .hole :: .hole :: mem⟩) _ ⟨[(5, .ptr (σ1 5) 0), (9, I ((1) : Int))], (.box (σ0 0) (fc f)) :: (.box (σ1 5) (Fuse.av x).cells) :: .hole :: .hole :: mem⟩ ⟨1, rfl, ⟨(by omega), (by intro j hj; omega)⟩, rfl⟩ (Weak.of [] (by kernel_rfl) (by kernel_rfl)) ?_ Fr.plain
      rintro _ _ ⟨n, rfl, ⟨hn1, hb⟩, rfl⟩
      refine AC.seq ?_
      refine AC.rq (fun σ19 => RegOK.m1 [5, 9, 75] ⟨[(5, .ptr (σ1 5) 0), (9, I (n : Int)), (75, .bool (decide ((n : Int) < (x.points.length : Int))))], (.box (σ0 0) (fc f)) :: (.box (σ1 5) (Fuse.av x).cells) :: .hole :: .hole :: mem⟩ (.cons (s_move (.tmp 9 (I (n : Int)))) (.cons (s_fieldAddr fld94_2 (.tmp 5 (.ptr (σ1 5) 0))) (.cons (s_load1 (cs := (Fuse.av x).cells) (c := .slice ((x.points).map Point.av) none) 1 tyS92 (.tmp 72 (.ptr (σ1 5) 2)) rfl) (.cons (s_lenM (l := x.points) slc92 (.tmp 73 (.slice ((x.points).map Point.av) none))) (.cons (s_lss (.tmp 71 (I (n : Int))) (.tmp 74 (I (x.points.length : Int)))) .nil))))) ?_)
      refine AC.cend (decide ((n : Int) < (x.points.length : Int))) rfl rfl (fun hc => ?_) (fun hc => ?_)
      ·have q13 := iD.1 hc
       refine AC.skip ?_
       refine thenQ_n ?_
       refine AC.bseq ?_
       refine AC.rq (fun σ21 => RegOK.m1 [5, 9, 10, 11] ⟨[(5, .ptr (σ1 5) 0), (9, I (n : Int)), (10, .ptr (σ21 11) 0), (11, .ptr (σ21 12) 0)], (.box (σ0 0) (fc f)) :: (.box (σ1 5) (Fuse.av x).cells) :: (.box (σ21 11) (Point.av (x.points.getD (((n : Int) - 1)).toNat default)).cells) :: (.box (σ21 12) (Point.av (x.points.getD n default)).cells) :: mem⟩ (.cons (s_fieldAddr fld94_2 (.tmp 5 (.ptr (σ1 5) 0))) (.cons (s_load1 (cs := (Fuse.av x).cells) (c := .slice ((x.points).map Point.av) none) 1 tyS92 (.tmp 78 (.ptr (σ1 5) 2)) rfl) (.cons (s_move (.tmp 9 (I (n : Int)))) (.cons (s_sub (.tmp 80 (I (n : Int))) (.int .i64 (1)) (inK_i64 (by omega))) (.cons (s_ixM (l := x.points) (f := Point.av) (default) slc92 (.tmp 79 (.slice ((x.points).map Point.av) none)) (.tmp 81 (I ((n : Int) - 1))) (by omega) rfl) (.cons (s_loadAe (l := (Point.av (x.points.getD (((n : Int) - 1)).toNat default)).cells) tyA141 (.tmp 82 (.eptr (Point.av (x.points.getD (((n : Int) - 1)).toNat default)) 0)) rfl rfl) (.cons (s_fieldAddr fld94_2 (.tmp 5 (.ptr (σ1 5) 0))) (.cons (s_load1 (cs := (Fuse.av x).cells) (c := .slice ((x.points).map Point.av) none) 1 tyS92 (.tmp 84 (.ptr (σ1 5) 2)) rfl) (.cons (s_move (.tmp 9 (I (n : Int)))) (.cons (s_ixM (l := x.points) (f := Point.av) (default) slc92 (.tmp 85 (.slice ((x.points).map Point.av) none)) (.tmp 86 (I (n : Int))) (by omega) rfl) (.cons (s_loadAe (l := (Point.av (x.points.getD n default)).cells) tyA141 (.tmp 87 (.eptr (Point.av (x.points.getD n default)) 0)) rfl rfl) (.cons (s_alloc 2 (σ21 11) zero141) (.cons (s_alloc 3 (σ21 12) zero141) (.cons (s_store (cs := [I 0, I 0, I 0]) 2 sz141 (.tmp 10 (.ptr (σ21 11) 0)) (.tmp 83 (Point.av (x.points.getD (((n : Int) - 1)).toNat default))) rfl rfl rfl (Nat.le_of_ble_eq_true rfl)) (.cons (s_store (cs := [I 0, I 0, I 0]) 3 sz141 (.tmp 11 (.ptr (σ21 12) 0)) (.tmp 88 (Point.av (x.points.getD n default))) rfl rfl rfl (Nat.le_of_ble_eq_true rfl)) .nil))))))))))))))) ?_)
       refine AC.rq (fun σ22 => RegOK.m1 [5, 9, 111] ⟨[(5, .ptr (σ1 5) 0), (9, I (n : Int)), (111, .bool (((decide ((x.points.getD n default).cur ≤ (x.points.getD (((n : Int) - 1)).toNat default).cur) || decide ((x.points.getD (((n : Int) - 1)).toNat default).lo < (x.points.getD n default).lo)) || decide ((x.points.getD (((n : Int) - 1)).toNat default).hi < (x.points.getD n default).hi))))], (.box (σ0 0) (fc f)) :: (.box (σ1 5) (Fuse.av x).cells) :: (.box (σ21 11) (Point.av (x.points.getD (((n : Int) - 1)).toNat default)).cells) :: (.box (σ21 12) (Point.av (x.points.getD n default)).cells) :: mem⟩ (.cons (s_fieldAddr fld141_0 (.tmp 11 (.ptr (σ21 12) 0))) (.cons (s_load1 (cs := (Point.av (x.points.getD n default)).cells) (c := I ((x.points.getD n default).cur)) 3 tyS3 (.tmp 89 (.ptr (σ21 12) 0)) rfl) (.cons (s_fieldAddr fld141_0 (.tmp 10 (.ptr (σ21 11) 0))) (.cons (s_load1 (cs := (Point.av (x.points.getD (((n : Int) - 1)).toNat default)).cells) (c := I ((x.points.getD (((n : Int) - 1)).toNat default).cur)) 2 tyS3 (.tmp 91 (.ptr (σ21 11) 0)) rfl) (.cons (s_leq (.tmp 90 (I ((x.points.getD n default).cur))) (.tmp 92 (I ((x.points.getD (((n : Int) - 1)).toNat default).cur)))) (.cons (s_move (.tmp 93 (.bool (decide ((x.points.getD n default).cur ≤ (x.points.getD (((n : Int) - 1)).toNat default).cur))))) (.cons (Step.guard _ rfl (.bool (decide ((x.points.getD n default).cur ≤ (x.points.getD (((n : Int) - 1)).toNat default).cur))) gF (fun hb => s_fieldAddr fld141_1 (.tmp 11 (.ptr (σ21 12) 0)))) (.cons (Step.guard _ rfl (.bool (decide ((x.points.getD n default).cur ≤ (x.points.getD (((n : Int) - 1)).toNat default).cur))) gF (fun hb => s_fieldAddr fld26_0 (.tmpC hb 95 (.ptr (σ21 12) 1)))) (.cons (Step.guard _ rfl (.bool (decide ((x.points.getD n default).cur ≤ (x.points.getD (((n : Int) - 1)).toNat default).cur))) gF (fun hb => s_load1 (cs := (Point.av (x.points.getD n default)).cells) (c := I ((x.points.getD n default).lo)) 3 tyS3 (.tmpC hb 96 (.ptr (σ21 12) 1)) rfl)) (.cons (Step.guard _ rfl (.bool (decide ((x.points.getD n default).cur ≤ (x.points.getD (((n : Int) - 1)).toNat default).cur))) gF (fun hb => s_fieldAddr fld141_1 (.tmp 10 (.ptr (σ21 11) 0)))) (.cons (Step.guard _ rfl (.bool (decide ((x.points.getD n default).cur ≤ (x.points.getD (((n : Int) - 1)).toNat default).cur))) gF (fun hb => s_fieldAddr fld26_0 (.tmpC hb 98 (.ptr (σ21 11) 1)))) (.cons (Step.guard _ rfl (.bool (decide ((x.points.getD n default).cur ≤ (x.points.getD (((n : Int) - 1)).toNat default).cur))) gF (fun hb => s_load1 (cs := (Point.av (x.points.getD (((n : Int) - 1)).toNat default)).cells) (c := I ((x.points.getD (((n : Int) - 1)).toNat default).lo)) 2 tyS3 (.tmpC hb 99 (.ptr (σ21 11) 1)) rfl)) (.cons (Step.guard _ rfl (.bool (decide ((x.points.getD n default).cur ≤ (x.points.getD (((n : Int) - 1)).toNat default).cur))) gF (fun hb => s_gtr (.tmpC hb 97 (I ((x.points.getD n default).lo))) (.tmpC hb 100 (I ((x.points.getD (((n : Int) - 1)).toNat default).lo))))) (.cons (s_or' (e := (!(decide ((x.points.getD n default).cur ≤ (x.points.getD (((n : Int) - 1)).toNat default).cur)))) (q := decide ((x.points.getD (((n : Int) - 1)).toNat default).lo < (x.points.getD n default).lo)) (fun h => (notMk h)) (.tmp 94 (.bool (decide ((x.points.getD n default).cur ≤ (x.points.getD (((n : Int) - 1)).toNat default).cur))))) (.cons (s_move (.tmp 102 (.bool ((decide ((x.points.getD n default).cur ≤ (x.points.getD (((n : Int) - 1)).toNat default).cur) || decide ((x.points.getD (((n : Int) - 1)).toNat default).lo < (x.points.getD n default).lo)))))) (.cons (Step.guard _ rfl (.bool ((decide ((x.points.getD n default).cur ≤ (x.points.getD (((n : Int) - 1)).toNat default).cur) || decide ((x.points.getD (((n : Int) - 1)).toNat default).lo < (x.points.getD n default).lo)))) gF (fun hb => s_fieldAddr fld141_1 (.tmp 11 (.ptr (σ21 12) 0)))) (.cons (Step.guard _ rfl (.bool ((decide ((x.points.getD n default).cur ≤ (x.points.getD (((n : Int) - 1)).toNat default).cur) || decide ((x.points.getD (((n : Int) - 1)).toNat default).lo < (x.points.getD n default).lo)))) gF (fun hb => s_fieldAddr fld26_1 (.tmpC hb 104 (.ptr (σ21 12) 1)))) (.cons (Step.guard _ rfl (.bool ((decide ((x.points.getD n default).cur ≤ (x.points.getD (((n : Int) - 1)).toNat default).cur) || decide ((x.points.getD (((n : Int) - 1)).toNat default).lo < (x.points.getD n default).lo)))) gF (fun hb => s_load1 (cs := (Point.av (x.points.getD n default)).cells) (c := I ((x.points.getD n default).hi)) 3 tyS3 (.tmpC hb 105 (.ptr (σ21 12) 2)) rfl)) (.cons (Step.guard _ rfl (.bool ((decide ((x.points.getD n default).cur ≤ (x.points.getD (((n : Int) - 1)).toNat default).cur) || decide ((x.points.getD (((n : Int) - 1)).toNat default).lo < (x.points.getD n default).lo)))) gF (fun hb => s_fieldAddr fld141_1 (.tmp 10 (.ptr (σ21 11) 0)))) (.cons (Step.guard _ rfl (.bool ((decide ((x.points.getD n default).cur ≤ (x.points.getD (((n : Int) - 1)).toNat default).cur) || decide ((x.points.getD (((n : Int) - 1)).toNat default).lo < (x.points.getD n default).lo)))) gF (fun hb => s_fieldAddr fld26_1 (.tmpC hb 107 (.ptr (σ21 11) 1)))) (.cons (Step.guard _ rfl (.bool ((decide ((x.points.getD n default).cur ≤ (x.points.getD (((n : Int) - 1)).toNat default).cur) || decide ((x.points.getD (((n : Int) - 1)).toNat default).lo < (x.points.getD n default).lo)))) gF (fun hb => s_load1 (cs := (Point.av (x.points.getD (((n : Int) - 1)).toNat default)).cells) (c := I ((x.points.getD (((n : Int) - 1)).toNat default).hi)) 2 tyS3 (.tmpC hb 108 (.ptr (σ21 11) 2)) rfl)) (.cons (Step.guard _ rfl (.bool ((decide ((x.points.getD n default).cur ≤ (x.points.getD (((n : Int) - 1)).toNat default).cur) || decide ((x.points.getD (((n : Int) - 1)).toNat default).lo < (x.points.getD n default).lo)))) gF (fun hb => s_gtr (.tmpC hb 106 (I ((x.points.getD n default).hi))) (.tmpC hb 109 (I ((x.points.getD (((n : Int) - 1)).toNat default).hi))))) (.cons (s_or' (e := (!(decide ((x.points.getD n default).cur ≤ (x.points.getD (((n : Int) - 1)).toNat default).cur) || decide ((x.points.getD (((n : Int) - 1)).toNat default).lo < (x.points.getD n default).lo)))) (q := decide ((x.points.getD (((n : Int) - 1)).toNat default).hi < (x.points.getD n default).hi)) (fun h => (notMk h)) (.tmp 103 (.bool ((decide ((x.points.getD n default).cur ≤ (x.points.getD (((n : Int) - 1)).toNat default).cur) || decide ((x.points.getD (((n : Int) - 1)).toNat default).lo < (x.points.getD n default).lo)))))) .nil))))))))))))))))))))))) ?_)
       refine AC.cend (((decide ((x.points.getD n default).cur ≤ (x.points.getD (((n : Int) - 1)).toNat default).cur) || decide ((x.points.getD (((n : Int) - 1)).toNat default).lo < (x.points.getD n default).lo)) || decide ((x.points.getD (((n : Int) - 1)).toNat default).hi < (x.points.getD n default).hi))) rfl rfl (fun hc => ?_) (fun hc => ?_)
       ·have q14 := (iO (iO iD iD) iD).1 hc
        refine AC.rq (fun σ23 => RegOK.m1 [4] ⟨[(4, I 2)], (.box (σ0 0) (fc f)) :: (.box (σ1 5) (Fuse.av x).cells) :: (.box (σ21 11) (Point.av (x.points.getD (((n : Int) - 1)).toNat default)).cells) :: (.box (σ21 12) (Point.av (x.points.getD n default)).cells) :: mem⟩ (.cons (s_assign (.int .i64 (2))) .nil) ?_)
        refine AC.ret ?_
        refine blockQ_r ?_
        refine thenQ_r ?_
        refine thenQ_r ?_
        refine blockQ_r ?_
        refine thenQ_r ?_
        exact FinQ.ret (result1 rfl (res_tmp (v := I 2) rfl rfl)) ⟨by subst hgx; refine congrArg I ?_; unfold fusE errOf; (have h0 := take_any_not (l := f.fuses) (p := fun y => decide (y.name = (List.getD f.fuses i default).name)) default (i := i) (fun j hj => hn j (by omega)); rw [if_neg (by first | assumption | grind), if_neg (by rw [h0]; simp)]; unfold fuseErr; first | (rw [if_pos (by omega)]) | (rw [if_neg (by omega), if_pos (by rcases Decidable.em ((List.getD f.fuses i default).points.any wildP = true) with e | e; exact .inr e; exact .inl (fun hr => hgn ⟨hr, wild_none e⟩))]) | (rw [if_neg (by omega), if_neg (fun h => by rcases h with h | h; exact h hgy.1; (rw [wild_any hgy.2] at h; cases h))]; first | (have h8 := badPs_of (l := (List.getD f.fuses i default).points) (j := ((n : Int) - 1).toNat) (by omega) (by rw [show ((n : Int) - 1).toNat + 1 = n from by omega]; exact hc); rw [if_pos h8]) | (have h8 := badPs_not (l := (List.getD f.fuses i default).points) (fun j hj => hb j (by omega)); rw [h8]; rfl))), rfl⟩
       ·have q15 := iF (iO (iO iD iD) iD) hc
        refine AC.skip ?_
        refine blockQ_n ?_
        refine thenQ_n ?_
        refine AC.re (fun σ20 => RegOK.m1 [5, 9] ⟨[(5, .ptr (σ1 5) 0), (9, I ((n : Int) + 1))], (.box (σ0 0) (fc f)) :: (.box (σ1 5) (Fuse.av x).cells) :: (.box (σ21 11) (Point.av (x.points.getD (((n : Int) - 1)).toNat default)).cells) :: (.box (σ21 12) (Point.av (x.points.getD n default)).cells) :: mem⟩ (.cons (s_move (.tmp 9 (I (n : Int)))) (.cons (s_add (.tmp 76 (I (n : Int))) (.int .i64 (1)) (inK_i64 (by omega))) (.cons (s_assign (.tmp 77 (I ((n : Int) + 1)))) .nil))) ?_)
        refine thenQ_n ⟨_, ?_, _, ⟨(n + 1), rfl, ⟨(by omega), (by intro j hj; rcases Decidable.em (j + 1 = n) with e | e; (have e2 : ((n : Int) - 1).toNat = j := by omega); (rw [e2] at hc; subst e; exact hc); exact hb j (by omega))⟩, rfl⟩, Weak.of [2, 3] (by kernel_rfl) (by kernel_rfl)⟩
        omega
      ·have q16 := iF iD hc
       refine AC.exit ?_
       refine thenQ_x ?_
       refine thenQ_x ?_
       refine blockQ_x ?_
       refine thenQ_n ?_
       refine AC.rq (fun σ24 => RegOK.m1 [4] ⟨[(4, I 0)], (.box (σ0 0) (fc f)) :: (.box (σ1 5) (Fuse.av x).cells) :: .hole :: .hole :: mem⟩ (.cons (s_assign (.int .i64 (0))) .nil) ?_)
       refine AC.ret ?_
       exact FinQ.ret (result1 rfl (res_tmp (v := I 0) rfl rfl)) ⟨by subst hgx; refine congrArg I ?_; unfold fusE errOf; (have h0 := take_any_not (l := f.fuses) (p := fun y => decide (y.name = (List.getD f.fuses i default).name)) default (i := i) (fun j hj => hn j (by omega)); rw [if_neg (by first | assumption | grind), if_neg (by rw [h0]; simp)]; unfold fuseErr; first | (rw [if_pos (by omega)]) | (rw [if_neg (by omega), if_pos (by rcases Decidable.em ((List.getD f.fuses i default).points.any wildP = true) with e | e; exact .inr e; exact .inl (fun hr => hgn ⟨hr, wild_none e⟩))]) | (rw [if_neg (by omega), if_neg (fun h => by rcases h with h | h; exact h hgy.1; (rw [wild_any hgy.2] at h; cases h))]; first | (have h8 := badPs_of (l := (List.getD f.fuses i default).points) (j := ((n : Int) - 1).toNat) (by omega) (by rw [show ((n : Int) - 1).toNat + 1 = n from by omega]; exact hc); rw [if_pos h8]) | (have h8 := badPs_not (l := (List.getD f.fuses i default).points) (fun j hj => hb j (by omega)); rw [h8]; rfl))), rfl⟩
theorem F77 (f : Feeder) (i : Nat) (hok : f.ok) (hi : i < f.nodes.length) : Pure Try.prog 77 [Feeder.av f, I (i : Int)] (I (nodE f f.nodes i)) := by
 intro mem
 have ⟨hc1, hc2, hc3, hc4, hc5, hc6⟩ := hok
 have hx := Feeder.ok.nod hok hi
 unfold Node.ok at hx
 refine Meets.body 2 Try.func77 rfl rfl ?_
 refine AC.rq (fun σ0 => RegOK.m1 [1, 2] ⟨[(1, I (i : Int)), (2, .ptr (σ0 0) 0)], (.box (σ0 0) (fc f)) :: .hole :: mem⟩ (.cons (s_box 0 (σ0 0) (.tmp 0 (Feeder.av f)) rfl) (.cons (s_assign (.int .i64 (0))) .nil)) ?_)
 refine AC.rq (fun σ1 => RegOK.m1 [1, 2, 5] ⟨[(1, I (i : Int)), (2, .ptr (σ0 0) 0), (5, .ptr (σ1 5) 0)], (.box (σ0 0) (fc f)) :: (.box (σ1 5) (Node.av (f.nodes.getD i default)).cells) :: mem⟩ (.cons (s_fieldAddr fld28_2 (.tmp 2 (.ptr (σ0 0) 0))) (.cons (s_load1 (cs := (fc f)) (c := .slice ((f.nodes).map Node.av) none) 0 tyS24 (.tmp 9 (.ptr (σ0 0) 2)) rfl) (.cons (s_move (.tmp 1 (I (i : Int)))) (.cons (s_ixM (l := f.nodes) (f := Node.av) (default) slc24 (.tmp 10 (.slice ((f.nodes).map Node.av) none)) (.tmp 11 (I (i : Int))) (by omega) rfl) (.cons (s_loadAe (l := (Node.av (f.nodes.getD i default)).cells) tyA47 (.tmp 12 (.eptr (Node.av (f.nodes.getD i default)) 0)) rfl rfl) (.cons (s_alloc 1 (σ1 5) zero47) (.cons (s_store (cs := [.str (⟨#[]⟩), I 0, I 0, I 0, I 0, I 0, I 0, I 0, I 0, I 0, I 0]) 1 sz47 (.tmp 5 (.ptr (σ1 5) 0)) (.tmp 13 (Node.av (f.nodes.getD i default))) rfl rfl rfl (Nat.le_of_ble_eq_true rfl)) .nil))))))) ?_)
 generalize hgx : (f.nodes.getD i default) = x at *
 refine AC.seq ?_
 refine AC.rq (fun σ2 => RegOK.m1 [1, 2, 5, 17] ⟨[(1, I (i : Int)), (2, .ptr (σ0 0) 0), (5, .ptr (σ1 5) 0), (17, .bool ((!nameOK x.name)))], (.box (σ0 0) (fc f)) :: (.box (σ1 5) (Node.av x).cells) :: mem⟩ (.cons (s_fieldAddr fld47_0 (.tmp 5 (.ptr (σ1 5) 0))) (.cons (s_load1 (cs := (Node.av x).cells) (c := .str (x.name)) 1 tyS9 (.tmp 14 (.ptr (σ1 5) 0)) rfl) (.cons (s_call (r := .bool (nameOK x.name)) (.func 114) (.cons (.tmp 15 (.str (x.name))) .nil) call114 (F114 (x.name) (by omega))) (.cons (s_not (.tmp 16 (.bool (nameOK x.name)))) .nil)))) ?_)
 refine AC.cend ((!nameOK x.name)) rfl rfl (fun hc => ?_) (fun hc => ?_)
 ·have q1 := (iN iB).1 hc
  refine AC.rq (fun σ3 => RegOK.m1 [4] ⟨[(4, I 6)], (.box (σ0 0) (fc f)) :: (.box (σ1 5) (Node.av x).cells) :: mem⟩ (.cons (s_assign (.int .i64 (6))) .nil) ?_)
  refine AC.ret ?_
  refine thenQ_r ?_
  exact FinQ.ret (result1 rfl (res_tmp (v := I 6) rfl rfl)) ⟨by subst hgx; refine congrArg I ?_; unfold nodE errOf; rw [if_pos (by assumption)], rfl⟩
 ·have q2 := iF (iN iB) hc
  refine AC.skip ?_
  refine thenQ_n ?_
  refine AC.seq ?_
  refine AC.rq (fun σ4 => RegOK.m1 [1, 2, 5, 6] ⟨[(1, I (i : Int)), (2, .ptr (σ0 0) 0), (5, .ptr (σ1 5) 0), (6, I 0)], (.box (σ0 0) (fc f)) :: (.box (σ1 5) (Node.av x).cells) :: mem⟩ (.cons (s_assign (.int .i64 (0))) .nil) ?_)
  refine AC.block ?_
  refine AC.loopW (fun mz T => ∃ (k : Nat), mz = i - k ∧ ((k ≤ i) ∧ (∀ j : Nat, j < k → decide ((f.nodes.getD j default).name = x.name) = false)) ∧ T = ⟨[(1, I (i : Int)), (2, .ptr (σ0 0) 0), (5, .ptr (σ1 5) 0), (6, I (k : Int))], (.box (σ0 0) (fc f)) :: (.box (σ1 5) (Node.av x).cells) :: mem⟩) _ ⟨[(1, I (i : Int)), (2, .ptr (σ0 0) 0), (5, .ptr (σ1 5) 0), (6, I ((0) : Int))], (.box (σ0 0) (fc f)) :: (.box (σ1 5) (Node.av x).cells) :: mem⟩ ⟨0, rfl, ⟨(by omega), (by intro j hj; omega)⟩, rfl⟩ (Weak.of [] (by kernel_rfl) (by kernel_rfl)) ?_ Fr.plain
  rintro _ _ ⟨k, rfl, ⟨hk, hn⟩, rfl⟩
  refine AC.seq ?_
  refine AC.rq (fun σ5 => RegOK.m1 [1, 2, 5, 6, 20] ⟨[(1, I (i : Int)), (2, .ptr (σ0 0) 0), (5, .ptr (σ1 5) 0), (6, I (k : Int)), (20, .bool (decide ((k : Int) < (i : Int))))], (.box (σ0 0) (fc f)) :: (.box (σ1 5) (Node.av x).cells) :: mem⟩ (.cons (s_move (.tmp 6 (I (k : Int)))) (.cons (s_move (.tmp 1 (I (i : Int)))) (.cons (s_lss (.tmp 18 (I (k : Int))) (.tmp 19 (I (i : Int)))) .nil))) ?_)
  refine AC.cend (decide ((k : Int) < (i : Int))) rfl rfl (fun hc => ?_) (fun hc => ?_)
  ·have q3 := iD.1 hc
   refine AC.skip ?_
   refine thenQ_n ?_
   refine AC.bseq ?_
   refine AC.rq (fun σ7 => RegOK.m1 [1, 2, 5, 6, 31] ⟨[(1, I (i : Int)), (2, .ptr (σ0 0) 0), (5, .ptr (σ1 5) 0), (6, I (k : Int)), (31, .bool (decide ((f.nodes.getD k default).name = x.name)))], (.box (σ0 0) (fc f)) :: (.box (σ1 5) (Node.av x).cells) :: mem⟩ (.cons (s_fieldAddr fld28_2 (.tmp 2 (.ptr (σ0 0) 0))) (.cons (s_load1 (cs := (fc f)) (c := .slice ((f.nodes).map Node.av) none) 0 tyS24 (.tmp 23 (.ptr (σ0 0) 2)) rfl) (.cons (s_move (.tmp 6 (I (k : Int)))) (.cons (s_ixM (l := f.nodes) (f := Node.av) (default) slc24 (.tmp 24 (.slice ((f.nodes).map Node.av) none)) (.tmp 25 (I (k : Int))) (by omega) rfl) (.cons (s_fieldAddre fld47_0 (.tmp 26 (.eptr (Node.av (f.nodes.getD k default)) 0))) (.cons (s_load1e (c := .str ((f.nodes.getD k default).name)) tyS9 (.tmp 27 (.eptr (Node.av (f.nodes.getD k default)) 0)) rfl) (.cons (s_fieldAddr fld47_0 (.tmp 5 (.ptr (σ1 5) 0))) (.cons (s_load1 (cs := (Node.av x).cells) (c := .str (x.name)) 1 tyS9 (.tmp 29 (.ptr (σ1 5) 0)) rfl) (.cons (s_bytes_eql (.tmp 28 (.str ((f.nodes.getD k default).name))) (.tmp 30 (.str (x.name)))) .nil))))))))) ?_)
   refine AC.cend (decide ((f.nodes.getD k default).name = x.name)) rfl rfl (fun hc => ?_) (fun hc => ?_)
   ·have q4 := iD.1 hc
    refine AC.rq (fun σ8 => RegOK.m1 [4] ⟨[(4, I 5)], (.box (σ0 0) (fc f)) :: (.box (σ1 5) (Node.av x).cells) :: mem⟩ (.cons (s_assign (.int .i64 (5))) .nil) ?_)
    refine AC.ret ?_
    refine blockQ_r ?_
    refine thenQ_r ?_
    refine thenQ_r ?_
    refine blockQ_r ?_
    refine thenQ_r ?_
    exact FinQ.ret (result1 rfl (res_tmp (v := I 5) rfl rfl)) ⟨by subst hgx; refine congrArg I ?_; unfold nodE errOf; (have h0 := take_any_of (l := f.nodes) (p := fun y => decide (y.name = (List.getD f.nodes i default).name)) default (i := i) (j := k) (by omega) (by omega) hc; rw [if_neg (by assumption), if_pos h0]), rfl⟩
   ·have q5 := iF iD hc
    refine AC.skip ?_
    refine blockQ_n ?_
    refine thenQ_n ?_
    refine AC.re (fun σ6 => RegOK.m1 [1, 2, 5, 6] ⟨[(1, I (i : Int)), (2, .ptr (σ0 0) 0), (5, .ptr (σ1 5) 0), (6, I ((k : Int) + 1))], (.box (σ0 0) (fc f)) :: (.box (σ1 5) (Node.av x).cells) :: mem⟩ (.cons (s_move (.tmp 6 (I (k : Int)))) (.cons (s_add (.tmp 21 (I (k : Int))) (.int .i64 (1)) (inK_i64 (by omega))) (.cons (s_assign (.tmp 22 (I ((k : Int) + 1)))) .nil))) ?_)
    refine thenQ_n ⟨_, ?_, _, ⟨(k + 1), rfl, ⟨(by omega), (by intro j hj; rcases Decidable.em (j = k) with h | h; (subst h; exact hc); exact hn j (by omega))⟩, rfl⟩, Weak.of [] (by kernel_rfl) (by kernel_rfl)⟩
    omega
  ·have q6 := iF iD hc
   refine AC.exit ?_
   refine thenQ_x ?_
   refine thenQ_x ?_
   refine blockQ_x ?_
   refine thenQ_n ?_
   refine AC.seq ?_
   refine AC.rq (fun σ9 => RegOK.m1 [1, 2, 5, 33] ⟨[(1, I (i : Int)), (2, .ptr (σ0 0) 0), (5, .ptr (σ1 5) 0), (33, .bool (decide ((i : Int) = 0)))], (.box (σ0 0) (fc f)) :: (.box (σ1 5) (Node.av x).cells) :: mem⟩ (.cons (s_move (.tmp 1 (I (i : Int)))) (.cons (s_eql (.tmp 32 (I (i : Int))) (.int .i64 (0))) .nil)) ?_)
   refine AC.cend (decide ((i : Int) = 0)) rfl rfl (fun hc => ?_) (fun hc => ?_)
   ·have q7 := iD.1 hc
    refine AC.seq ?_
    refine AC.rq (fun σ10 => RegOK.m1 [57] ⟨[(57, .bool (((((decide (x.parent ≠ (-1)) || decide (x.cable ≠ (-1))) || decide (x.length ≠ 0)) || decide (x.fuse ≠ (-1))) || (!((decide (x.lo0 = 0) && (decide (x.hi0 = 0) && true)) && ((decide (x.lo1 = 0) && (decide (x.hi1 = 0) && true)) && (decide (x.lo2 = 0) && (decide (x.hi2 = 0) && true))))))))], (.box (σ0 0) (fc f)) :: (.box (σ1 5) (Node.av x).cells) :: mem⟩ (.cons (s_fieldAddr fld47_1 (.tmp 5 (.ptr (σ1 5) 0))) (.cons (s_load1 (cs := (Node.av x).cells) (c := I (x.parent)) 1 tyS3 (.tmp 34 (.ptr (σ1 5) 1)) rfl) (.cons (s_neq (.tmp 35 (I (x.parent))) (.int .i64 (-1))) (.cons (s_move (.tmp 36 (.bool (decide (x.parent ≠ (-1)))))) (.cons (Step.guard _ rfl (.bool (decide (x.parent ≠ (-1)))) gF (fun hb => s_fieldAddr fld47_2 (.tmp 5 (.ptr (σ1 5) 0)))) (.cons (Step.guard _ rfl (.bool (decide (x.parent ≠ (-1)))) gF (fun hb => s_load1 (cs := (Node.av x).cells) (c := I (x.cable)) 1 tyS3 (.tmpC hb 38 (.ptr (σ1 5) 2)) rfl)) (.cons (Step.guard _ rfl (.bool (decide (x.parent ≠ (-1)))) gF (fun hb => s_neq (.tmpC hb 39 (I (x.cable))) (.int .i64 (-1)))) (.cons (s_or' (e := (!(decide (x.parent ≠ (-1))))) (q := decide (x.cable ≠ (-1))) (fun h => (notMk h)) (.tmp 37 (.bool (decide (x.parent ≠ (-1)))))) (.cons (s_move (.tmp 41 (.bool ((decide (x.parent ≠ (-1)) || decide (x.cable ≠ (-1))))))) (.cons (Step.guard _ rfl (.bool ((decide (x.parent ≠ (-1)) || decide (x.cable ≠ (-1))))) gF (fun hb => s_fieldAddr fld47_3 (.tmp 5 (.ptr (σ1 5) 0)))) (.cons (Step.guard _ rfl (.bool ((decide (x.parent ≠ (-1)) || decide (x.cable ≠ (-1))))) gF (fun hb => s_load1 (cs := (Node.av x).cells) (c := I (x.length)) 1 tyS3 (.tmpC hb 43 (.ptr (σ1 5) 3)) rfl)) (.cons (Step.guard _ rfl (.bool ((decide (x.parent ≠ (-1)) || decide (x.cable ≠ (-1))))) gF (fun hb => s_neq (.tmpC hb 44 (I (x.length))) (.int .i64 (0)))) (.cons (s_or' (e := (!(decide (x.parent ≠ (-1)) || decide (x.cable ≠ (-1))))) (q := decide (x.length ≠ 0)) (fun h => (notMk h)) (.tmp 42 (.bool ((decide (x.parent ≠ (-1)) || decide (x.cable ≠ (-1))))))) (.cons (s_move (.tmp 46 (.bool (((decide (x.parent ≠ (-1)) || decide (x.cable ≠ (-1))) || decide (x.length ≠ 0)))))) (.cons (Step.guard _ rfl (.bool (((decide (x.parent ≠ (-1)) || decide (x.cable ≠ (-1))) || decide (x.length ≠ 0)))) gF (fun hb => s_fieldAddr fld47_4 (.tmp 5 (.ptr (σ1 5) 0)))) (.cons (Step.guard _ rfl (.bool (((decide (x.parent ≠ (-1)) || decide (x.cable ≠ (-1))) || decide (x.length ≠ 0)))) gF (fun hb => s_load1 (cs := (Node.av x).cells) (c := I (x.fuse)) 1 tyS3 (.tmpC hb 48 (.ptr (σ1 5) 4)) rfl)) (.cons (Step.guard _ rfl (.bool (((decide (x.parent ≠ (-1)) || decide (x.cable ≠ (-1))) || decide (x.length ≠ 0)))) gF (fun hb => s_neq (.tmpC hb 49 (I (x.fuse))) (.int .i64 (-1)))) (.cons (s_or' (e := (!((decide (x.parent ≠ (-1)) || decide (x.cable ≠ (-1))) || decide (x.length ≠ 0)))) (q := decide (x.fuse ≠ (-1))) (fun h => (notMk h)) (.tmp 47 (.bool (((decide (x.parent ≠ (-1)) || decide (x.cable ≠ (-1))) || decide (x.length ≠ 0)))))) (.cons (s_move (.tmp 51 (.bool ((((decide (x.parent ≠ (-1)) || decide (x.cable ≠ (-1))) || decide (x.length ≠ 0)) || decide (x.fuse ≠ (-1))))))) (.cons (Step.guard _ rfl (.bool ((((decide (x.parent ≠ (-1)) || decide (x.cable ≠ (-1))) || decide (x.length ≠ 0)) || decide (x.fuse ≠ (-1))))) gF (fun hb => s_fieldAddr fld47_5 (.tmp 5 (.ptr (σ1 5) 0)))) (.cons (Step.guard _ rfl (.bool ((((decide (x.parent ≠ (-1)) || decide (x.cable ≠ (-1))) || decide (x.length ≠ 0)) || decide (x.fuse ≠ (-1))))) gF (fun hb => s_loadA (cs := (Node.av x).cells) (l := [I (x.lo0), I (x.hi0), I (x.lo1), I (x.hi1), I (x.lo2), I (x.hi2)]) 1 tyA45 (.tmpC hb 53 (.ptr (σ1 5) 5)) rfl rfl)) (.cons (Step.guard _ rfl (.bool ((((decide (x.parent ≠ (-1)) || decide (x.cable ≠ (-1))) || decide (x.length ≠ 0)) || decide (x.fuse ≠ (-1))))) gF (fun hb => s_buildArr (l := [I 0, I 0, I 0, I 0, I 0, I 0]) zero45 arr45 .nil rfl)) (.cons (Step.guard _ rfl (.bool ((((decide (x.parent ≠ (-1)) || decide (x.cable ≠ (-1))) || decide (x.length ≠ 0)) || decide (x.fuse ≠ (-1))))) gF (fun hb => s_data_neq (.tmpC hb 54 (.agg [I (x.lo0), I (x.hi0), I (x.lo1), I (x.hi1), I (x.lo2), I (x.hi2)])) (.tmpC hb 55 (.agg [I 0, I 0, I 0, I 0, I 0, I 0])) (eqT45 (x.lo0) (x.hi0) (x.lo1) (x.hi1) (x.lo2) (x.hi2) (0) (0) (0) (0) (0) (0)) rfl rfl rfl)) (.cons (s_or' (e := (!(((decide (x.parent ≠ (-1)) || decide (x.cable ≠ (-1))) || decide (x.length ≠ 0)) || decide (x.fuse ≠ (-1))))) (q := (!((decide (x.lo0 = 0) && (decide (x.hi0 = 0) && true)) && ((decide (x.lo1 = 0) && (decide (x.hi1 = 0) && true)) && (decide (x.lo2 = 0) && (decide (x.hi2 = 0) && true)))))) (fun h => (notMk h)) (.tmp 52 (.bool ((((decide (x.parent ≠ (-1)) || decide (x.cable ≠ (-1))) || decide (x.length ≠ 0)) || decide (x.fuse ≠ (-1))))))) .nil)))))))))))))))))))))))) ?_)
    refine AC.cend (((((decide (x.parent ≠ (-1)) || decide (x.cable ≠ (-1))) || decide (x.length ≠ 0)) || decide (x.fuse ≠ (-1))) || (!((decide (x.lo0 = 0) && (decide (x.hi0 = 0) && true)) && ((decide (x.lo1 = 0) && (decide (x.hi1 = 0) && true)) && (decide (x.lo2 = 0) && (decide (x.hi2 = 0) && true))))))) rfl rfl (fun hc => ?_) (fun hc => ?_)
    ·have q8 := (iO (iO (iO (iO iD iD) iD) iD) (iN (iA (iA iD (iA iD iB)) (iA (iA iD (iA iD iB)) (iA iD (iA iD iB)))))).1 hc
     simp only [eq_self, and_true, true_and] at q8
     refine AC.rq (fun σ11 => RegOK.m1 [4] ⟨[(4, I 2)], (.box (σ0 0) (fc f)) :: (.box (σ1 5) (Node.av x).cells) :: mem⟩ (.cons (s_assign (.int .i64 (2))) .nil) ?_)
     refine AC.ret ?_
     refine thenQ_r ?_
     refine thenQ_r ?_
     exact FinQ.ret (result1 rfl (res_tmp (v := I 2) rfl rfl)) ⟨by subst hgx; refine congrArg I ?_; unfold nodE errOf; (have h0 := take_any_not (l := f.nodes) (p := fun y => decide (y.name = (List.getD f.nodes i default).name)) default (i := i) (fun j hj => hn j (by omega)); rw [if_neg (by first | assumption | grind), if_neg (by rw [h0]; simp)]; unfold nodeErr; (repeat' split) <;> first | rfl | (exfalso; omega)), rfl⟩
    ·have q9 := iF (iO (iO (iO (iO iD iD) iD) iD) (iN (iA (iA iD (iA iD iB)) (iA (iA iD (iA iD iB)) (iA iD (iA iD iB)))))) hc
     simp only [eq_self, and_true, true_and] at q9
     refine AC.skip ?_
     refine thenQ_n ?_
     refine AC.rq (fun σ12 => RegOK.m1 [4] ⟨[(4, I 0)], (.box (σ0 0) (fc f)) :: (.box (σ1 5) (Node.av x).cells) :: mem⟩ (.cons (s_assign (.int .i64 (0))) .nil) ?_)
     refine AC.ret ?_
     refine thenQ_r ?_
     exact FinQ.ret (result1 rfl (res_tmp (v := I 0) rfl rfl)) ⟨by subst hgx; refine congrArg I ?_; unfold nodE errOf; (have h0 := take_any_not (l := f.nodes) (p := fun y => decide (y.name = (List.getD f.nodes i default).name)) default (i := i) (fun j hj => hn j (by omega)); rw [if_neg (by first | assumption | grind), if_neg (by rw [h0]; simp)]; unfold nodeErr; (repeat' split) <;> first | rfl | (exfalso; omega)), rfl⟩
   ·have q10 := iF iD hc
    refine AC.skip ?_
    refine thenQ_n ?_
    refine AC.seq ?_
    refine AC.rq (fun σ13 => RegOK.m1 [5, 83] ⟨[(5, .ptr (σ1 5) 0), (83, .bool ((((!(inB (x.parent) 0 ((i : Int) - 1))) || (!(inB (x.cable) 0 ((f.cables.length : Int) - 1)))) || (!(inB (x.fuse) (-1) ((f.fuses.length : Int) - 1))))))], (.box (σ0 0) (fc f)) :: (.box (σ1 5) (Node.av x).cells) :: mem⟩ (.cons (s_fieldAddr fld47_1 (.tmp 5 (.ptr (σ1 5) 0))) (.cons (s_load1 (cs := (Node.av x).cells) (c := I (x.parent)) 1 tyS3 (.tmp 58 (.ptr (σ1 5) 1)) rfl) (.cons (s_move (.tmp 1 (I (i : Int)))) (.cons (s_sub (.tmp 60 (I (i : Int))) (.int .i64 (1)) (inK_i64 (by omega))) (.cons (s_call (r := .bool ((inB (x.parent) 0 ((i : Int) - 1)))) (.func 74) (.cons (.tmp 59 (I (x.parent))) (.cons (.int .i64 (0)) (.cons (.tmp 61 (I ((i : Int) - 1))) .nil))) call74 (F74 (x.parent) (0) (((i : Int) - 1)))) (.cons (s_not (.tmp 62 (.bool ((inB (x.parent) 0 ((i : Int) - 1)))))) (.cons (s_move (.tmp 63 (.bool ((!(inB (x.parent) 0 ((i : Int) - 1))))))) (.cons (Step.guard _ rfl (.bool ((!(inB (x.parent) 0 ((i : Int) - 1))))) gF (fun hb => s_fieldAddr fld47_2 (.tmp 5 (.ptr (σ1 5) 0)))) (.cons (Step.guard _ rfl (.bool ((!(inB (x.parent) 0 ((i : Int) - 1))))) gF (fun hb => s_load1 (cs := (Node.av x).cells) (c := I (x.cable)) 1 tyS3 (.tmpC hb 65 (.ptr (σ1 5) 2)) rfl)) (.cons (Step.guard _ rfl (.bool ((!(inB (x.parent) 0 ((i : Int) - 1))))) gF (fun hb => s_fieldAddr fld28_0 (.tmp 2 (.ptr (σ0 0) 0)))) (.cons (Step.guard _ rfl (.bool ((!(inB (x.parent) 0 ((i : Int) - 1))))) gF (fun hb => s_load1 (cs := (fc f)) (c := .slice ((f.cables).map Cable.av) none) 0 tyS22 (.tmpC hb 67 (.ptr (σ0 0) 0)) rfl)) (.cons (Step.guard _ rfl (.bool ((!(inB (x.parent) 0 ((i : Int) - 1))))) gF (fun hb => s_lenM (l := f.cables) slc22 (.tmpC hb 68 (.slice ((f.cables).map Cable.av) none)))) (.cons (Step.guard _ rfl (.bool ((!(inB (x.parent) 0 ((i : Int) - 1))))) gF (fun hb => s_sub (.tmpC hb 69 (I (f.cables.length : Int))) (.int .i64 (1)) (inK_i64 (by have hq := (iN (iN inB_i)).1 hb; omega)))) (.cons (Step.guard _ rfl (.bool ((!(inB (x.parent) 0 ((i : Int) - 1))))) gF (fun hb => s_call (r := .bool ((inB (x.cable) 0 ((f.cables.length : Int) - 1)))) (.func 74) (.cons (.tmpC hb 66 (I (x.cable))) (.cons (.int .i64 (0)) (.cons (.tmpC hb 70 (I ((f.cables.length : Int) - 1))) .nil))) call74 (F74 (x.cable) (0) (((f.cables.length : Int) - 1))))) (.cons (Step.guard _ rfl (.bool ((!(inB (x.parent) 0 ((i : Int) - 1))))) gF (fun hb => s_not (.tmpC hb 71 (.bool ((inB (x.cable) 0 ((f.cables.length : Int) - 1))))))) (.cons (s_or' (e := (!(!(inB (x.parent) 0 ((i : Int) - 1))))) (q := (!(inB (x.cable) 0 ((f.cables.length : Int) - 1)))) (fun h => (notMk h)) (.tmp 64 (.bool ((!(inB (x.parent) 0 ((i : Int) - 1))))))) (.cons (s_move (.tmp 73 (.bool (((!(inB (x.parent) 0 ((i : Int) - 1))) || (!(inB (x.cable) 0 ((f.cables.length : Int) - 1)))))))) (.cons (Step.guard _ rfl (.bool (((!(inB (x.parent) 0 ((i : Int) - 1))) || (!(inB (x.cable) 0 ((f.cables.length : Int) - 1)))))) gF (fun hb => s_fieldAddr fld47_4 (.tmp 5 (.ptr (σ1 5) 0)))) (.cons (Step.guard _ rfl (.bool (((!(inB (x.parent) 0 ((i : Int) - 1))) || (!(inB (x.cable) 0 ((f.cables.length : Int) - 1)))))) gF (fun hb => s_load1 (cs := (Node.av x).cells) (c := I (x.fuse)) 1 tyS3 (.tmpC hb 75 (.ptr (σ1 5) 4)) rfl)) (.cons (Step.guard _ rfl (.bool (((!(inB (x.parent) 0 ((i : Int) - 1))) || (!(inB (x.cable) 0 ((f.cables.length : Int) - 1)))))) gF (fun hb => s_fieldAddr fld28_1 (.tmp 2 (.ptr (σ0 0) 0)))) (.cons (Step.guard _ rfl (.bool (((!(inB (x.parent) 0 ((i : Int) - 1))) || (!(inB (x.cable) 0 ((f.cables.length : Int) - 1)))))) gF (fun hb => s_load1 (cs := (fc f)) (c := .slice ((f.fuses).map Fuse.av) none) 0 tyS23 (.tmpC hb 77 (.ptr (σ0 0) 1)) rfl)) (.cons (Step.guard _ rfl (.bool (((!(inB (x.parent) 0 ((i : Int) - 1))) || (!(inB (x.cable) 0 ((f.cables.length : Int) - 1)))))) gF (fun hb => s_lenM (l := f.fuses) slc23 (.tmpC hb 78 (.slice ((f.fuses).map Fuse.av) none)))) (.cons (Step.guard _ rfl (.bool (((!(inB (x.parent) 0 ((i : Int) - 1))) || (!(inB (x.cable) 0 ((f.cables.length : Int) - 1)))))) gF (fun hb => s_sub (.tmpC hb 79 (I (f.fuses.length : Int))) (.int .i64 (1)) (inK_i64 (by have hq := (iN (iO (iN inB_i) (iN inB_i))).1 hb; omega)))) (.cons (Step.guard _ rfl (.bool (((!(inB (x.parent) 0 ((i : Int) - 1))) || (!(inB (x.cable) 0 ((f.cables.length : Int) - 1)))))) gF (fun hb => s_call (r := .bool ((inB (x.fuse) (-1) ((f.fuses.length : Int) - 1)))) (.func 74) (.cons (.tmpC hb 76 (I (x.fuse))) (.cons (.int .i64 (-1)) (.cons (.tmpC hb 80 (I ((f.fuses.length : Int) - 1))) .nil))) call74 (F74 (x.fuse) ((-1)) (((f.fuses.length : Int) - 1))))) (.cons (Step.guard _ rfl (.bool (((!(inB (x.parent) 0 ((i : Int) - 1))) || (!(inB (x.cable) 0 ((f.cables.length : Int) - 1)))))) gF (fun hb => s_not (.tmpC hb 81 (.bool ((inB (x.fuse) (-1) ((f.fuses.length : Int) - 1))))))) (.cons (s_or' (e := (!((!(inB (x.parent) 0 ((i : Int) - 1))) || (!(inB (x.cable) 0 ((f.cables.length : Int) - 1)))))) (q := (!(inB (x.fuse) (-1) ((f.fuses.length : Int) - 1)))) (fun h => (notMk h)) (.tmp 74 (.bool (((!(inB (x.parent) 0 ((i : Int) - 1))) || (!(inB (x.cable) 0 ((f.cables.length : Int) - 1)))))))) .nil)))))))))))))))))))))))))) ?_)
    refine AC.cend ((((!(inB (x.parent) 0 ((i : Int) - 1))) || (!(inB (x.cable) 0 ((f.cables.length : Int) - 1)))) || (!(inB (x.fuse) (-1) ((f.fuses.length : Int) - 1))))) rfl rfl (fun hc => ?_) (fun hc => ?_)
    ·have q11 := (iO (iO (iN inB_i) (iN inB_i)) (iN inB_i)).1 hc
     refine AC.rq (fun σ14 => RegOK.m1 [4] ⟨[(4, I 4)], (.box (σ0 0) (fc f)) :: (.box (σ1 5) (Node.av x).cells) :: mem⟩ (.cons (s_assign (.int .i64 (4))) .nil) ?_)
     refine AC.ret ?_
     refine thenQ_r ?_
     exact FinQ.ret (result1 rfl (res_tmp (v := I 4) rfl rfl)) ⟨by subst hgx; refine congrArg I ?_; unfold nodE errOf; (have h0 := take_any_not (l := f.nodes) (p := fun y => decide (y.name = (List.getD f.nodes i default).name)) default (i := i) (fun j hj => hn j (by omega)); rw [if_neg (by first | assumption | grind), if_neg (by rw [h0]; simp)]; unfold nodeErr; (repeat' split) <;> first | rfl | (exfalso; omega)), rfl⟩
    ·have q12 := iF (iO (iO (iN inB_i) (iN inB_i)) (iN inB_i)) hc
     refine AC.skip ?_
     refine thenQ_n ?_
     refine AC.rq (fun σ15 => RegOK.m1 [5, 7] ⟨[(5, .ptr (σ1 5) 0), (7, .bool ((inB (x.length) 1 5000)))], (.box (σ0 0) (fc f)) :: (.box (σ1 5) (Node.av x).cells) :: mem⟩ (.cons (s_fieldAddr fld47_3 (.tmp 5 (.ptr (σ1 5) 0))) (.cons (s_load1 (cs := (Node.av x).cells) (c := I (x.length)) 1 tyS3 (.tmp 84 (.ptr (σ1 5) 3)) rfl) (.cons (s_call (r := .bool ((inB (x.length) 1 5000))) (.func 74) (.cons (.tmp 85 (I (x.length))) (.cons (.int .i64 (1)) (.cons (.int .i64 (5000)) .nil))) call74 (F74 (x.length) (1) (5000))) (.cons (s_assign (.tmp 86 (.bool ((inB (x.length) 1 5000))))) .nil)))) ?_)
     refine AC.seq ?_
     refine AC.rq (fun σ16 => RegOK.m1 [5, 7, 8] ⟨[(5, .ptr (σ1 5) 0), (7, .bool ((inB (x.length) 1 5000))), (8, I 0)], (.box (σ0 0) (fc f)) :: (.box (σ1 5) (Node.av x).cells) :: mem⟩ (.cons (s_assign (.int .i64 (0))) .nil) ?_)
     refine AC.block ?_
     refine AC.turns (ACL.turn ?_)
     refine AC.seq ?_
     refine AC.rq (fun σ17 => RegOK.m1 [5, 7, 8, 88] ⟨[(5, .ptr (σ1 5) 0), (7, .bool ((inB (x.length) 1 5000))), (8, I 0), (88, .bool (decide ((0 : Int) < 3)))], (.box (σ0 0) (fc f)) :: (.box (σ1 5) (Node.av x).cells) :: mem⟩ (.cons (s_move (.tmp 8 (I 0))) (.cons (s_lss (.tmp 87 (I 0)) (.int .i64 (3))) .nil)) ?_)
     refine AC.cend (decide ((0 : Int) < 3)) rfl rfl (fun hc => ?_) (fun hc => absurd hc (by simp))
     refine AC.skip ?_
     refine thenQ_n ?_
     refine AC.bseq ?_
     refine AC.re (fun σ19 => RegOK.m1 [5, 7, 8] ⟨[(5, .ptr (σ1 5) 0), (7, .bool (((inB (x.length) 1 5000) && (wiB (x.lo0) (x.hi0) 0 1000000)))), (8, I 0)], (.box (σ0 0) (fc f)) :: (.box (σ1 5) (Node.av x).cells) :: mem⟩ (.cons (s_move (.tmp 7 (.bool ((inB (x.length) 1 5000))))) (.cons (s_move (.tmp 91 (.bool ((inB (x.length) 1 5000))))) (.cons (Step.guard _ rfl (.bool ((inB (x.length) 1 5000))) gT (fun hb => s_move (.tmp 8 (I 0)))) (.cons (Step.guard _ rfl (.bool ((inB (x.length) 1 5000))) gT (fun hb => s_fieldAddr fld47_5 (.tmp 5 (.ptr (σ1 5) 0)))) (.cons (Step.guard _ rfl (.bool ((inB (x.length) 1 5000))) gT (fun hb => s_indexAddrA arr45 (.tmpC hb 94 (.ptr (σ1 5) 5)) (.tmpC hb 93 (I 0)) (by decide) (by decide))) (.cons (Step.guard _ rfl (.bool ((inB (x.length) 1 5000))) gT (fun hb => s_loadA (cs := (Node.av x).cells) (l := [I (x.lo0), I (x.hi0)]) 1 tyA26 (.tmpC hb 95 (.ptr (σ1 5) 5)) rfl rfl)) (.cons (Step.guard _ rfl (.bool ((inB (x.length) 1 5000))) gT (fun hb => s_call (r := .bool ((wiB (x.lo0) (x.hi0) 0 1000000))) (.func 73) (.cons (.tmpC hb 96 (.agg [I (x.lo0), I (x.hi0)])) (.cons (.int .i64 (0)) (.cons (.int .i64 (1000000)) .nil))) call73 (F73 (x.lo0) (x.hi0) (0) (1000000)))) (.cons (s_and' (q := (wiB (x.lo0) (x.hi0) 0 1000000)) (fun h => h) (.tmp 92 (.bool ((inB (x.length) 1 5000))))) (.cons (s_assign (.tmp 98 (.bool (((inB (x.length) 1 5000) && (wiB (x.lo0) (x.hi0) 0 1000000)))))) .nil))))))))) ?_)
     refine blockQ_n ?_
     refine thenQ_n ?_
     refine AC.re (fun σ18 => RegOK.m1 [5, 7, 8] ⟨[(5, .ptr (σ1 5) 0), (7, .bool (((inB (x.length) 1 5000) && (wiB (x.lo0) (x.hi0) 0 1000000)))), (8, I 1)], (.box (σ0 0) (fc f)) :: (.box (σ1 5) (Node.av x).cells) :: mem⟩ (.cons (s_move (.tmp 8 (I 0))) (.cons (s_add (.tmp 89 (I 0)) (.int .i64 (1)) (inK_i64 (by decide))) (.cons (s_assign (.tmp 90 (I 1))) .nil))) ?_)
     refine thenQ_n (ACL.turn ?_)
     refine AC.seq ?_
     refine AC.rq (fun σ17 => RegOK.m1 [5, 7, 8, 88] ⟨[(5, .ptr (σ1 5) 0), (7, .bool (((inB (x.length) 1 5000) && (wiB (x.lo0) (x.hi0) 0 1000000)))), (8, I 1), (88, .bool (decide ((1 : Int) < 3)))], (.box (σ0 0) (fc f)) :: (.box (σ1 5) (Node.av x).cells) :: mem⟩ (.cons (s_move (.tmp 8 (I 1))) (.cons (s_lss (.tmp 87 (I 1)) (.int .i64 (3))) .nil)) ?_)
     refine AC.cend (decide ((1 : Int) < 3)) rfl rfl (fun hc => ?_) (fun hc => absurd hc (by simp))
     refine AC.skip ?_
     refine thenQ_n ?_
     refine AC.bseq ?_
     refine AC.re (fun σ19 => RegOK.m1 [5, 7, 8] ⟨[(5, .ptr (σ1 5) 0), (7, .bool ((((inB (x.length) 1 5000) && (wiB (x.lo0) (x.hi0) 0 1000000)) && (wiB (x.lo1) (x.hi1) 0 1000000)))), (8, I 1)], (.box (σ0 0) (fc f)) :: (.box (σ1 5) (Node.av x).cells) :: mem⟩ (.cons (s_move (.tmp 7 (.bool (((inB (x.length) 1 5000) && (wiB (x.lo0) (x.hi0) 0 1000000)))))) (.cons (s_move (.tmp 91 (.bool (((inB (x.length) 1 5000) && (wiB (x.lo0) (x.hi0) 0 1000000)))))) (.cons (Step.guard _ rfl (.bool (((inB (x.length) 1 5000) && (wiB (x.lo0) (x.hi0) 0 1000000)))) gT (fun hb => s_move (.tmp 8 (I 1)))) (.cons (Step.guard _ rfl (.bool (((inB (x.length) 1 5000) && (wiB (x.lo0) (x.hi0) 0 1000000)))) gT (fun hb => s_fieldAddr fld47_5 (.tmp 5 (.ptr (σ1 5) 0)))) (.cons (Step.guard _ rfl (.bool (((inB (x.length) 1 5000) && (wiB (x.lo0) (x.hi0) 0 1000000)))) gT (fun hb => s_indexAddrA arr45 (.tmpC hb 94 (.ptr (σ1 5) 5)) (.tmpC hb 93 (I 1)) (by decide) (by decide))) (.cons (Step.guard _ rfl (.bool (((inB (x.length) 1 5000) && (wiB (x.lo0) (x.hi0) 0 1000000)))) gT (fun hb => s_loadA (cs := (Node.av x).cells) (l := [I (x.lo1), I (x.hi1)]) 1 tyA26 (.tmpC hb 95 (.ptr (σ1 5) 7)) rfl rfl)) (.cons (Step.guard _ rfl (.bool (((inB (x.length) 1 5000) && (wiB (x.lo0) (x.hi0) 0 1000000)))) gT (fun hb => s_call (r := .bool ((wiB (x.lo1) (x.hi1) 0 1000000))) (.func 73) (.cons (.tmpC hb 96 (.agg [I (x.lo1), I (x.hi1)])) (.cons (.int .i64 (0)) (.cons (.int .i64 (1000000)) .nil))) call73 (F73 (x.lo1) (x.hi1) (0) (1000000)))) (.cons (s_and' (q := (wiB (x.lo1) (x.hi1) 0 1000000)) (fun h => h) (.tmp 92 (.bool (((inB (x.length) 1 5000) && (wiB (x.lo0) (x.hi0) 0 1000000)))))) (.cons (s_assign (.tmp 98 (.bool ((((inB (x.length) 1 5000) && (wiB (x.lo0) (x.hi0) 0 1000000)) && (wiB (x.lo1) (x.hi1) 0 1000000)))))) .nil))))))))) ?_)
     refine blockQ_n ?_
     refine thenQ_n ?_
     refine AC.re (fun σ18 => RegOK.m1 [5, 7, 8] ⟨[(5, .ptr (σ1 5) 0), (7, .bool ((((inB (x.length) 1 5000) && (wiB (x.lo0) (x.hi0) 0 1000000)) && (wiB (x.lo1) (x.hi1) 0 1000000)))), (8, I 2)], (.box (σ0 0) (fc f)) :: (.box (σ1 5) (Node.av x).cells) :: mem⟩ (.cons (s_move (.tmp 8 (I 1))) (.cons (s_add (.tmp 89 (I 1)) (.int .i64 (1)) (inK_i64 (by decide))) (.cons (s_assign (.tmp 90 (I 2))) .nil))) ?_)
     refine thenQ_n (ACL.turn ?_)
     refine AC.seq ?_
     refine AC.rq (fun σ17 => RegOK.m1 [5, 7, 8, 88] ⟨[(5, .ptr (σ1 5) 0), (7, .bool ((((inB (x.length) 1 5000) && (wiB (x.lo0) (x.hi0) 0 1000000)) && (wiB (x.lo1) (x.hi1) 0 1000000)))), (8, I 2), (88, .bool (decide ((2 : Int) < 3)))], (.box (σ0 0) (fc f)) :: (.box (σ1 5) (Node.av x).cells) :: mem⟩ (.cons (s_move (.tmp 8 (I 2))) (.cons (s_lss (.tmp 87 (I 2)) (.int .i64 (3))) .nil)) ?_)
     refine AC.cend (decide ((2 : Int) < 3)) rfl rfl (fun hc => ?_) (fun hc => absurd hc (by simp))
     refine AC.skip ?_
     refine thenQ_n ?_
     refine AC.bseq ?_
     refine AC.re (fun σ19 => RegOK.m1 [5, 7, 8] ⟨[(5, .ptr (σ1 5) 0), (7, .bool (((((inB (x.length) 1 5000) && (wiB (x.lo0) (x.hi0) 0 1000000)) && (wiB (x.lo1) (x.hi1) 0 1000000)) && (wiB (x.lo2) (x.hi2) 0 1000000)))), (8, I 2)], (.box (σ0 0) (fc f)) :: (.box (σ1 5) (Node.av x).cells) :: mem⟩ (.cons (s_move (.tmp 7 (.bool ((((inB (x.length) 1 5000) && (wiB (x.lo0) (x.hi0) 0 1000000)) && (wiB (x.lo1) (x.hi1) 0 1000000)))))) (.cons (s_move (.tmp 91 (.bool ((((inB (x.length) 1 5000) && (wiB (x.lo0) (x.hi0) 0 1000000)) && (wiB (x.lo1) (x.hi1) 0 1000000)))))) (.cons (Step.guard _ rfl (.bool ((((inB (x.length) 1 5000) && (wiB (x.lo0) (x.hi0) 0 1000000)) && (wiB (x.lo1) (x.hi1) 0 1000000)))) gT (fun hb => s_move (.tmp 8 (I 2)))) (.cons (Step.guard _ rfl (.bool ((((inB (x.length) 1 5000) && (wiB (x.lo0) (x.hi0) 0 1000000)) && (wiB (x.lo1) (x.hi1) 0 1000000)))) gT (fun hb => s_fieldAddr fld47_5 (.tmp 5 (.ptr (σ1 5) 0)))) (.cons (Step.guard _ rfl (.bool ((((inB (x.length) 1 5000) && (wiB (x.lo0) (x.hi0) 0 1000000)) && (wiB (x.lo1) (x.hi1) 0 1000000)))) gT (fun hb => s_indexAddrA arr45 (.tmpC hb 94 (.ptr (σ1 5) 5)) (.tmpC hb 93 (I 2)) (by decide) (by decide))) (.cons (Step.guard _ rfl (.bool ((((inB (x.length) 1 5000) && (wiB (x.lo0) (x.hi0) 0 1000000)) && (wiB (x.lo1) (x.hi1) 0 1000000)))) gT (fun hb => s_loadA (cs := (Node.av x).cells) (l := [I (x.lo2), I (x.hi2)]) 1 tyA26 (.tmpC hb 95 (.ptr (σ1 5) 9)) rfl rfl)) (.cons (Step.guard _ rfl (.bool ((((inB (x.length) 1 5000) && (wiB (x.lo0) (x.hi0) 0 1000000)) && (wiB (x.lo1) (x.hi1) 0 1000000)))) gT (fun hb => s_call (r := .bool ((wiB (x.lo2) (x.hi2) 0 1000000))) (.func 73) (.cons (.tmpC hb 96 (.agg [I (x.lo2), I (x.hi2)])) (.cons (.int .i64 (0)) (.cons (.int .i64 (1000000)) .nil))) call73 (F73 (x.lo2) (x.hi2) (0) (1000000)))) (.cons (s_and' (q := (wiB (x.lo2) (x.hi2) 0 1000000)) (fun h => h) (.tmp 92 (.bool ((((inB (x.length) 1 5000) && (wiB (x.lo0) (x.hi0) 0 1000000)) && (wiB (x.lo1) (x.hi1) 0 1000000)))))) (.cons (s_assign (.tmp 98 (.bool (((((inB (x.length) 1 5000) && (wiB (x.lo0) (x.hi0) 0 1000000)) && (wiB (x.lo1) (x.hi1) 0 1000000)) && (wiB (x.lo2) (x.hi2) 0 1000000)))))) .nil))))))))) ?_)
     refine blockQ_n ?_
     refine thenQ_n ?_
     refine AC.re (fun σ18 => RegOK.m1 [5, 7, 8] ⟨[(5, .ptr (σ1 5) 0), (7, .bool (((((inB (x.length) 1 5000) && (wiB (x.lo0) (x.hi0) 0 1000000)) && (wiB (x.lo1) (x.hi1) 0 1000000)) && (wiB (x.lo2) (x.hi2) 0 1000000)))), (8, I 3)], (.box (σ0 0) (fc f)) :: (.box (σ1 5) (Node.av x).cells) :: mem⟩ (.cons (s_move (.tmp 8 (I 2))) (.cons (s_add (.tmp 89 (I 2)) (.int .i64 (1)) (inK_i64 (by decide))) (.cons (s_assign (.tmp 90 (I 3))) .nil))) ?_)
     refine thenQ_n (ACL.turn ?_)
     refine AC.seq ?_
     refine AC.rq (fun σ17 => RegOK.m1 [5, 7, 8, 88] ⟨[(5, .ptr (σ1 5) 0), (7, .bool (((((inB (x.length) 1 5000) && (wiB (x.lo0) (x.hi0) 0 1000000)) && (wiB (x.lo1) (x.hi1) 0 1000000)) && (wiB (x.lo2) (x.hi2) 0 1000000)))), (8, I 3), (88, .bool (decide ((3 : Int) < 3)))], (.box (σ0 0) (fc f)) :: (.box (σ1 5) (Node.av x).cells) :: mem⟩ (.cons (s_move (.tmp 8 (I 3))) (.cons (s_lss (.tmp 87 (I 3)) (.int .i64 (3))) .nil)) ?_)
     refine AC.cend (decide ((3 : Int) < 3)) rfl rfl (fun hc => absurd hc (by simp)) (fun hc => ?_)
     refine AC.exit ?_
     refine thenQ_x ?_
     refine thenQ_x ?_
     refine blockQ_x ?_
     refine thenQ_n ?_
     refine AC.seq ?_
     refine AC.rq (fun σ20 => RegOK.m1 [100] ⟨[(100, .bool ((!((((inB (x.length) 1 5000) && (wiB (x.lo0) (x.hi0) 0 1000000)) && (wiB (x.lo1) (x.hi1) 0 1000000)) && (wiB (x.lo2) (x.hi2) 0 1000000)))))], (.box (σ0 0) (fc f)) :: (.box (σ1 5) (Node.av x).cells) :: mem⟩ (.cons (s_move (.tmp 7 (.bool (((((inB (x.length) 1 5000) && (wiB (x.lo0) (x.hi0) 0 1000000)) && (wiB (x.lo1) (x.hi1) 0 1000000)) && (wiB (x.lo2) (x.hi2) 0 1000000)))))) (.cons (s_not (.tmp 99 (.bool (((((inB (x.length) 1 5000) && (wiB (x.lo0) (x.hi0) 0 1000000)) && (wiB (x.lo1) (x.hi1) 0 1000000)) && (wiB (x.lo2) (x.hi2) 0 1000000)))))) .nil)) ?_)
     refine AC.cend ((!((((inB (x.length) 1 5000) && (wiB (x.lo0) (x.hi0) 0 1000000)) && (wiB (x.lo1) (x.hi1) 0 1000000)) && (wiB (x.lo2) (x.hi2) 0 1000000)))) rfl rfl (fun hc => ?_) (fun hc => ?_)
     ·have q13 := (iN (iA (iA (iA inB_i wiB_i) wiB_i) wiB_i)).1 hc
      refine AC.rq (fun σ21 => RegOK.m1 [4] ⟨[(4, I 7)], (.box (σ0 0) (fc f)) :: (.box (σ1 5) (Node.av x).cells) :: mem⟩ (.cons (s_assign (.int .i64 (7))) .nil) ?_)
      refine AC.ret ?_
      refine thenQ_r ?_
      exact FinQ.ret (result1 rfl (res_tmp (v := I 7) rfl rfl)) ⟨by subst hgx; refine congrArg I ?_; unfold nodE errOf; (have h0 := take_any_not (l := f.nodes) (p := fun y => decide (y.name = (List.getD f.nodes i default).name)) default (i := i) (fun j hj => hn j (by omega)); rw [if_neg (by first | assumption | grind), if_neg (by rw [h0]; simp)]; unfold nodeErr; (repeat' split) <;> first | rfl | (exfalso; omega)), rfl⟩
     ·have q14 := iF (iN (iA (iA (iA inB_i wiB_i) wiB_i) wiB_i)) hc
      refine AC.skip ?_
      refine thenQ_n ?_
      refine AC.rq (fun σ22 => RegOK.m1 [4] ⟨[(4, I 0)], (.box (σ0 0) (fc f)) :: (.box (σ1 5) (Node.av x).cells) :: mem⟩ (.cons (s_assign (.int .i64 (0))) .nil) ?_)
      refine AC.ret ?_
      exact FinQ.ret (result1 rfl (res_tmp (v := I 0) rfl rfl)) ⟨by subst hgx; refine congrArg I ?_; unfold nodE errOf; (have h0 := take_any_not (l := f.nodes) (p := fun y => decide (y.name = (List.getD f.nodes i default).name)) default (i := i) (fun j hj => hn j (by omega)); rw [if_neg (by first | assumption | grind), if_neg (by rw [h0]; simp)]; unfold nodeErr; (repeat' split) <;> first | rfl | (exfalso; omega)), rfl⟩
theorem F26 (f : Feeder) (hok : f.ok) : Pure Try.prog 26 [Feeder.av f] (.tuple [I ((check f).1), I ((check f).2.1), I ((check f).2.2)]) := by
 intro mem
 have ⟨hc1, hc2, hc3, hc4, hc5, hc6⟩ := hok
 refine Meets.body 1 Try.func26 rfl rfl ?_
 refine AC.rq (fun σ0 => RegOK.m1 [1] ⟨[(1, .ptr (σ0 0) 0)], (.box (σ0 0) (fc f)) :: mem⟩ (.cons (s_box 0 (σ0 0) (.tmp 0 (Feeder.av f)) rfl) (.cons (s_assign (.int .i64 (0))) (.cons (s_assign (.int .i64 (0))) (.cons (s_assign (.int .i64 (0))) .nil)))) ?_)
 refine AC.seq ?_
 refine AC.rq (fun σ1 => RegOK.m1 [1, 26] ⟨[(1, .ptr (σ0 0) 0), (26, .bool (((decide (10 < (f.cables.length : Int)) || decide (10 < (f.fuses.length : Int))) || decide (40 < (f.nodes.length : Int)))))], (.box (σ0 0) (fc f)) :: mem⟩ (.cons (s_fieldAddr fld28_0 (.tmp 1 (.ptr (σ0 0) 0))) (.cons (s_load1 (cs := (fc f)) (c := .slice ((f.cables).map Cable.av) none) 0 tyS22 (.tmp 11 (.ptr (σ0 0) 0)) rfl) (.cons (s_lenM (l := f.cables) slc22 (.tmp 12 (.slice ((f.cables).map Cable.av) none))) (.cons (s_gtr (.tmp 13 (I (f.cables.length : Int))) (.int .i64 (10))) (.cons (s_move (.tmp 14 (.bool (decide (10 < (f.cables.length : Int)))))) (.cons (Step.guard _ rfl (.bool (decide (10 < (f.cables.length : Int)))) gF (fun hb => s_fieldAddr fld28_1 (.tmp 1 (.ptr (σ0 0) 0)))) (.cons (Step.guard _ rfl (.bool (decide (10 < (f.cables.length : Int)))) gF (fun hb => s_load1 (cs := (fc f)) (c := .slice ((f.fuses).map Fuse.av) none) 0 tyS23 (.tmpC hb 16 (.ptr (σ0 0) 1)) rfl)) (.cons (Step.guard _ rfl (.bool (decide (10 < (f.cables.length : Int)))) gF (fun hb => s_lenM (l := f.fuses) slc23 (.tmpC hb 17 (.slice ((f.fuses).map Fuse.av) none)))) (.cons (Step.guard _ rfl (.bool (decide (10 < (f.cables.length : Int)))) gF (fun hb => s_gtr (.tmpC hb 18 (I (f.fuses.length : Int))) (.int .i64 (10)))) (.cons (s_or' (e := (!(decide (10 < (f.cables.length : Int))))) (q := decide (10 < (f.fuses.length : Int))) (fun h => (notMk h)) (.tmp 15 (.bool (decide (10 < (f.cables.length : Int)))))) (.cons (s_move (.tmp 20 (.bool ((decide (10 < (f.cables.length : Int)) || decide (10 < (f.fuses.length : Int))))))) (.cons (Step.guard _ rfl (.bool ((decide (10 < (f.cables.length : Int)) || decide (10 < (f.fuses.length : Int))))) gF (fun hb => s_fieldAddr fld28_2 (.tmp 1 (.ptr (σ0 0) 0)))) (.cons (Step.guard _ rfl (.bool ((decide (10 < (f.cables.length : Int)) || decide (10 < (f.fuses.length : Int))))) gF (fun hb => s_load1 (cs := (fc f)) (c := .slice ((f.nodes).map Node.av) none) 0 tyS24 (.tmpC hb 22 (.ptr (σ0 0) 2)) rfl)) (.cons (Step.guard _ rfl (.bool ((decide (10 < (f.cables.length : Int)) || decide (10 < (f.fuses.length : Int))))) gF (fun hb => s_lenM (l := f.nodes) slc24 (.tmpC hb 23 (.slice ((f.nodes).map Node.av) none)))) (.cons (Step.guard _ rfl (.bool ((decide (10 < (f.cables.length : Int)) || decide (10 < (f.fuses.length : Int))))) gF (fun hb => s_gtr (.tmpC hb 24 (I (f.nodes.length : Int))) (.int .i64 (40)))) (.cons (s_or' (e := (!(decide (10 < (f.cables.length : Int)) || decide (10 < (f.fuses.length : Int))))) (q := decide (40 < (f.nodes.length : Int))) (fun h => (notMk h)) (.tmp 21 (.bool ((decide (10 < (f.cables.length : Int)) || decide (10 < (f.fuses.length : Int))))))) .nil)))))))))))))))) ?_)
 refine AC.cend (((decide (10 < (f.cables.length : Int)) || decide (10 < (f.fuses.length : Int))) || decide (40 < (f.nodes.length : Int)))) rfl rfl (fun hc => ?_) (fun hc => ?_)
 ·have q1 := (iO (iO iD iD) iD).1 hc
  refine AC.rq (fun σ2 => RegOK.m1 [2, 3, 4] ⟨[(2, I 0), (3, I 0), (4, I 3)], (.box (σ0 0) (fc f)) :: mem⟩ (.cons (s_assign (.int .i64 (0))) (.cons (s_assign (.int .i64 (0))) (.cons (s_assign (.int .i64 (3))) .nil))) ?_)
  refine AC.ret ?_
  refine thenQ_r ?_
  exact FinQ.ret (result3 rfl (res_tmp (v := I 0) rfl rfl) (res_tmp (v := I 0) rfl rfl) (res_tmp (v := I 3) rfl rfl)) ⟨by first | ((have hFk1 := firstErr_none (e := (cabE f.cables)) f.cables.length 0 (fun j _ hj => hnk1 j (by omega))); (have hFk2 := firstErr_none (e := (fusE f.fuses)) f.fuses.length 0 (fun j _ hj => hnk2 j (by omega))); (have hFk3 := firstErr_none (e := (nodE f f.nodes)) f.nodes.length 0 (fun j _ hj => hnk3 j (by omega))); unfold check headErr cabsE fussE nodsE; grind) | ((have hFk1 := firstErr_none (e := (cabE f.cables)) f.cables.length 0 (fun j _ hj => hnk1 j (by omega))); (have hFk2 := firstErr_none (e := (fusE f.fuses)) f.fuses.length 0 (fun j _ hj => hnk2 j (by omega))); (have hFk3 := firstErr_found (e := (nodE f f.nodes)) (k := k3) (by first | omega | grind) f.nodes.length 0 (by omega) (by omega) (fun j _ hj => hnk3 j hj)); unfold check headErr cabsE fussE nodsE; grind) | ((have hFk1 := firstErr_none (e := (cabE f.cables)) f.cables.length 0 (fun j _ hj => hnk1 j (by omega))); (have hFk2 := firstErr_found (e := (fusE f.fuses)) (k := k2) (by first | omega | grind) f.fuses.length 0 (by omega) (by omega) (fun j _ hj => hnk2 j hj)); unfold check headErr cabsE fussE; grind) | ((have hFk1 := firstErr_found (e := (cabE f.cables)) (k := k1) (by first | omega | grind) f.cables.length 0 (by omega) (by omega) (fun j _ hj => hnk1 j hj)); unfold check headErr cabsE; grind) | (unfold check headErr; grind), rfl⟩
 ·have q2 := iF (iO (iO iD iD) iD) hc
  refine AC.skip ?_
  refine thenQ_n ?_
  refine AC.seq ?_
  refine AC.rq (fun σ3 => RegOK.m1 [1, 30] ⟨[(1, .ptr (σ0 0) 0), (30, .bool (decide ((f.nodes.length : Int) = 0)))], (.box (σ0 0) (fc f)) :: mem⟩ (.cons (s_fieldAddr fld28_2 (.tmp 1 (.ptr (σ0 0) 0))) (.cons (s_load1 (cs := (fc f)) (c := .slice ((f.nodes).map Node.av) none) 0 tyS24 (.tmp 27 (.ptr (σ0 0) 2)) rfl) (.cons (s_lenM (l := f.nodes) slc24 (.tmp 28 (.slice ((f.nodes).map Node.av) none))) (.cons (s_eql (.tmp 29 (I (f.nodes.length : Int))) (.int .i64 (0))) .nil)))) ?_)
  refine AC.cend (decide ((f.nodes.length : Int) = 0)) rfl rfl (fun hc => ?_) (fun hc => ?_)
  ·have q3 := iD.1 hc
   refine AC.rq (fun σ4 => RegOK.m1 [2, 3, 4] ⟨[(2, I 0), (3, I 0), (4, I 4)], (.box (σ0 0) (fc f)) :: mem⟩ (.cons (s_assign (.int .i64 (0))) (.cons (s_assign (.int .i64 (0))) (.cons (s_assign (.int .i64 (4))) .nil))) ?_)
   refine AC.ret ?_
   refine thenQ_r ?_
   exact FinQ.ret (result3 rfl (res_tmp (v := I 0) rfl rfl) (res_tmp (v := I 0) rfl rfl) (res_tmp (v := I 4) rfl rfl)) ⟨by first | ((have hFk1 := firstErr_none (e := (cabE f.cables)) f.cables.length 0 (fun j _ hj => hnk1 j (by omega))); (have hFk2 := firstErr_none (e := (fusE f.fuses)) f.fuses.length 0 (fun j _ hj => hnk2 j (by omega))); (have hFk3 := firstErr_none (e := (nodE f f.nodes)) f.nodes.length 0 (fun j _ hj => hnk3 j (by omega))); unfold check headErr cabsE fussE nodsE; grind) | ((have hFk1 := firstErr_none (e := (cabE f.cables)) f.cables.length 0 (fun j _ hj => hnk1 j (by omega))); (have hFk2 := firstErr_none (e := (fusE f.fuses)) f.fuses.length 0 (fun j _ hj => hnk2 j (by omega))); (have hFk3 := firstErr_found (e := (nodE f f.nodes)) (k := k3) (by first | omega | grind) f.nodes.length 0 (by omega) (by omega) (fun j _ hj => hnk3 j hj)); unfold check headErr cabsE fussE nodsE; grind) | ((have hFk1 := firstErr_none (e := (cabE f.cables)) f.cables.length 0 (fun j _ hj => hnk1 j (by omega))); (have hFk2 := firstErr_found (e := (fusE f.fuses)) (k := k2) (by first | omega | grind) f.fuses.length 0 (by omega) (by omega) (fun j _ hj => hnk2 j hj)); unfold check headErr cabsE fussE; grind) | ((have hFk1 := firstErr_found (e := (cabE f.cables)) (k := k1) (by first | omega | grind) f.cables.length 0 (by omega) (by omega) (fun j _ hj => hnk1 j hj)); unfold check headErr cabsE; grind) | (unfold check headErr; grind), rfl⟩
  ·have q4 := iF iD hc
   refine AC.skip ?_
   refine thenQ_n ?_
   refine AC.seq ?_
   refine AC.rq (fun σ5 => RegOK.m1 [1, 52] ⟨[(1, .ptr (σ0 0) 0), (52, .bool (((((!(wiB f.vLo f.vHi 1 1000000)) || (!(wiB f.sLo f.sHi 1 1000000000))) || (!(inB f.drop 0 1000000))) || (!(inB f.limit 1 100000000)))))], (.box (σ0 0) (fc f)) :: mem⟩ (.cons (s_fieldAddr fld28_3 (.tmp 1 (.ptr (σ0 0) 0))) (.cons (s_loadA (cs := (fc f)) (l := [I f.vLo, I f.vHi]) 0 tyA26 (.tmp 31 (.ptr (σ0 0) 3)) rfl rfl) (.cons (s_call (r := .bool ((wiB f.vLo f.vHi 1 1000000))) (.func 73) (.cons (.tmp 32 (.agg [I f.vLo, I f.vHi])) (.cons (.int .i64 (1)) (.cons (.int .i64 (1000000)) .nil))) call73 (F73 (f.vLo) (f.vHi) (1) (1000000))) (.cons (s_not (.tmp 33 (.bool ((wiB f.vLo f.vHi 1 1000000))))) (.cons (s_move (.tmp 34 (.bool ((!(wiB f.vLo f.vHi 1 1000000)))))) (.cons (Step.guard _ rfl (.bool ((!(wiB f.vLo f.vHi 1 1000000)))) gF (fun hb => s_fieldAddr fld28_4 (.tmp 1 (.ptr (σ0 0) 0)))) (.cons (Step.guard _ rfl (.bool ((!(wiB f.vLo f.vHi 1 1000000)))) gF (fun hb => s_loadA (cs := (fc f)) (l := [I f.sLo, I f.sHi]) 0 tyA26 (.tmpC hb 36 (.ptr (σ0 0) 5)) rfl rfl)) (.cons (Step.guard _ rfl (.bool ((!(wiB f.vLo f.vHi 1 1000000)))) gF (fun hb => s_call (r := .bool ((wiB f.sLo f.sHi 1 1000000000))) (.func 73) (.cons (.tmpC hb 37 (.agg [I f.sLo, I f.sHi])) (.cons (.int .i64 (1)) (.cons (.int .i64 (1000000000)) .nil))) call73 (F73 (f.sLo) (f.sHi) (1) (1000000000)))) (.cons (Step.guard _ rfl (.bool ((!(wiB f.vLo f.vHi 1 1000000)))) gF (fun hb => s_not (.tmpC hb 38 (.bool ((wiB f.sLo f.sHi 1 1000000000)))))) (.cons (s_or' (e := (!(!(wiB f.vLo f.vHi 1 1000000)))) (q := (!(wiB f.sLo f.sHi 1 1000000000))) (fun h => (notMk h)) (.tmp 35 (.bool ((!(wiB f.vLo f.vHi 1 1000000)))))) (.cons (s_move (.tmp 40 (.bool (((!(wiB f.vLo f.vHi 1 1000000)) || (!(wiB f.sLo f.sHi 1 1000000000))))))) (.cons (Step.guard _ rfl (.bool (((!(wiB f.vLo f.vHi 1 1000000)) || (!(wiB f.sLo f.sHi 1 1000000000))))) gF (fun hb => s_fieldAddr fld28_5 (.tmp 1 (.ptr (σ0 0) 0)))) (.cons (Step.guard _ rfl (.bool (((!(wiB f.vLo f.vHi 1 1000000)) || (!(wiB f.sLo f.sHi 1 1000000000))))) gF (fun hb => s_load1 (cs := (fc f)) (c := I f.drop) 0 tyS3 (.tmpC hb 42 (.ptr (σ0 0) 7)) rfl)) (.cons (Step.guard _ rfl (.bool (((!(wiB f.vLo f.vHi 1 1000000)) || (!(wiB f.sLo f.sHi 1 1000000000))))) gF (fun hb => s_call (r := .bool ((inB f.drop 0 1000000))) (.func 74) (.cons (.tmpC hb 43 (I f.drop)) (.cons (.int .i64 (0)) (.cons (.int .i64 (1000000)) .nil))) call74 (F74 (f.drop) (0) (1000000)))) (.cons (Step.guard _ rfl (.bool (((!(wiB f.vLo f.vHi 1 1000000)) || (!(wiB f.sLo f.sHi 1 1000000000))))) gF (fun hb => s_not (.tmpC hb 44 (.bool ((inB f.drop 0 1000000)))))) (.cons (s_or' (e := (!((!(wiB f.vLo f.vHi 1 1000000)) || (!(wiB f.sLo f.sHi 1 1000000000))))) (q := (!(inB f.drop 0 1000000))) (fun h => (notMk h)) (.tmp 41 (.bool (((!(wiB f.vLo f.vHi 1 1000000)) || (!(wiB f.sLo f.sHi 1 1000000000))))))) (.cons (s_move (.tmp 46 (.bool ((((!(wiB f.vLo f.vHi 1 1000000)) || (!(wiB f.sLo f.sHi 1 1000000000))) || (!(inB f.drop 0 1000000))))))) (.cons (Step.guard _ rfl (.bool ((((!(wiB f.vLo f.vHi 1 1000000)) || (!(wiB f.sLo f.sHi 1 1000000000))) || (!(inB f.drop 0 1000000))))) gF (fun hb => s_fieldAddr fld28_6 (.tmp 1 (.ptr (σ0 0) 0)))) (.cons (Step.guard _ rfl (.bool ((((!(wiB f.vLo f.vHi 1 1000000)) || (!(wiB f.sLo f.sHi 1 1000000000))) || (!(inB f.drop 0 1000000))))) gF (fun hb => s_load1 (cs := (fc f)) (c := I f.limit) 0 tyS3 (.tmpC hb 48 (.ptr (σ0 0) 8)) rfl)) (.cons (Step.guard _ rfl (.bool ((((!(wiB f.vLo f.vHi 1 1000000)) || (!(wiB f.sLo f.sHi 1 1000000000))) || (!(inB f.drop 0 1000000))))) gF (fun hb => s_call (r := .bool ((inB f.limit 1 100000000))) (.func 74) (.cons (.tmpC hb 49 (I f.limit)) (.cons (.int .i64 (1)) (.cons (.int .i64 (100000000)) .nil))) call74 (F74 (f.limit) (1) (100000000)))) (.cons (Step.guard _ rfl (.bool ((((!(wiB f.vLo f.vHi 1 1000000)) || (!(wiB f.sLo f.sHi 1 1000000000))) || (!(inB f.drop 0 1000000))))) gF (fun hb => s_not (.tmpC hb 50 (.bool ((inB f.limit 1 100000000)))))) (.cons (s_or' (e := (!(((!(wiB f.vLo f.vHi 1 1000000)) || (!(wiB f.sLo f.sHi 1 1000000000))) || (!(inB f.drop 0 1000000))))) (q := (!(inB f.limit 1 100000000))) (fun h => (notMk h)) (.tmp 47 (.bool ((((!(wiB f.vLo f.vHi 1 1000000)) || (!(wiB f.sLo f.sHi 1 1000000000))) || (!(inB f.drop 0 1000000))))))) .nil)))))))))))))))))))))) ?_)
   refine AC.cend (((((!(wiB f.vLo f.vHi 1 1000000)) || (!(wiB f.sLo f.sHi 1 1000000000))) || (!(inB f.drop 0 1000000))) || (!(inB f.limit 1 100000000)))) rfl rfl (fun hc => ?_) (fun hc => ?_)
   ·have q5 := (iO (iO (iO (iN wiB_i) (iN wiB_i)) (iN inB_i)) (iN inB_i)).1 hc
    refine AC.rq (fun σ6 => RegOK.m1 [2, 3, 4] ⟨[(2, I 0), (3, I 0), (4, I 7)], (.box (σ0 0) (fc f)) :: mem⟩ (.cons (s_assign (.int .i64 (0))) (.cons (s_assign (.int .i64 (0))) (.cons (s_assign (.int .i64 (7))) .nil))) ?_)
    refine AC.ret ?_
    refine thenQ_r ?_
    exact FinQ.ret (result3 rfl (res_tmp (v := I 0) rfl rfl) (res_tmp (v := I 0) rfl rfl) (res_tmp (v := I 7) rfl rfl)) ⟨by first | ((have hFk1 := firstErr_none (e := (cabE f.cables)) f.cables.length 0 (fun j _ hj => hnk1 j (by omega))); (have hFk2 := firstErr_none (e := (fusE f.fuses)) f.fuses.length 0 (fun j _ hj => hnk2 j (by omega))); (have hFk3 := firstErr_none (e := (nodE f f.nodes)) f.nodes.length 0 (fun j _ hj => hnk3 j (by omega))); unfold check headErr cabsE fussE nodsE; grind) | ((have hFk1 := firstErr_none (e := (cabE f.cables)) f.cables.length 0 (fun j _ hj => hnk1 j (by omega))); (have hFk2 := firstErr_none (e := (fusE f.fuses)) f.fuses.length 0 (fun j _ hj => hnk2 j (by omega))); (have hFk3 := firstErr_found (e := (nodE f f.nodes)) (k := k3) (by first | omega | grind) f.nodes.length 0 (by omega) (by omega) (fun j _ hj => hnk3 j hj)); unfold check headErr cabsE fussE nodsE; grind) | ((have hFk1 := firstErr_none (e := (cabE f.cables)) f.cables.length 0 (fun j _ hj => hnk1 j (by omega))); (have hFk2 := firstErr_found (e := (fusE f.fuses)) (k := k2) (by first | omega | grind) f.fuses.length 0 (by omega) (by omega) (fun j _ hj => hnk2 j hj)); unfold check headErr cabsE fussE; grind) | ((have hFk1 := firstErr_found (e := (cabE f.cables)) (k := k1) (by first | omega | grind) f.cables.length 0 (by omega) (by omega) (fun j _ hj => hnk1 j hj)); unfold check headErr cabsE; grind) | (unfold check headErr; grind), rfl⟩
   ·have q6 := iF (iO (iO (iO (iN wiB_i) (iN wiB_i)) (iN inB_i)) (iN inB_i)) hc
    refine AC.skip ?_
    refine thenQ_n ?_
    refine AC.seq ?_
    refine AC.rq (fun σ7 => RegOK.m1 [1, 5] ⟨[(1, .ptr (σ0 0) 0), (5, I 0)], (.box (σ0 0) (fc f)) :: mem⟩ (.cons (s_assign (.int .i64 (0))) .nil) ?_)
    refine AC.block ?_
    refine AC.loopW (fun mz T => ∃ (k1 : Nat), mz = f.cables.length - k1 ∧ ((k1 ≤ f.cables.length) ∧ (∀ j : Nat, j < k1 → cabE f.cables j = 0)) ∧ T = ⟨[(1, .ptr (σ0 0) 0), (5, I (k1 : Int))], (.box (σ0 0) (fc f)) :: mem⟩) _ ⟨[(1, .ptr (σ0 0) 0), (5, I ((0) : Int))], (.box (σ0 0) (fc f)) :: mem⟩ ⟨0, rfl, ⟨(by omega), (by intro j hj; omega)⟩, rfl⟩ (Weak.of [] (by kernel_rfl) (by kernel_rfl)) ?_ Fr.plain
    rintro _ _ ⟨k1, rfl, ⟨hk1, hnk1⟩, rfl⟩
    refine AC.seq ?_
    refine AC.rq (fun σ8 => RegOK.m1 [1, 5, 57] ⟨[(1, .ptr (σ0 0) 0), (5, I (k1 : Int)), (57, .bool (decide ((k1 : Int) < (f.cables.length : Int))))], (.box (σ0 0) (fc f)) :: mem⟩ (.cons (s_move (.tmp 5 (I (k1 : Int)))) (.cons (s_fieldAddr fld28_0 (.tmp 1 (.ptr (σ0 0) 0))) (.cons (s_load1 (cs := (fc f)) (c := .slice ((f.cables).map Cable.av) none) 0 tyS22 (.tmp 54 (.ptr (σ0 0) 0)) rfl) (.cons (s_lenM (l := f.cables) slc22 (.tmp 55 (.slice ((f.cables).map Cable.av) none))) (.cons (s_lss (.tmp 53 (I (k1 : Int))) (.tmp 56 (I (f.cables.length : Int)))) .nil))))) ?_)
    refine AC.cend (decide ((k1 : Int) < (f.cables.length : Int))) rfl rfl (fun hc => ?_) (fun hc => ?_)
    ·have q7 := iD.1 hc
     refine AC.skip ?_
     refine thenQ_n ?_
     refine AC.bseq ?_
     refine AC.rq (fun σ10 => RegOK.m1 [1, 5, 6] ⟨[(1, .ptr (σ0 0) 0), (5, I (k1 : Int)), (6, I (cabE f.cables k1))], (.box (σ0 0) (fc f)) :: mem⟩ (.cons (s_loadA (cs := (fc f)) (l := (fc f)) 0 tyA28 (.tmp 1 (.ptr (σ0 0) 0)) rfl rfl) (.cons (s_move (.tmp 5 (I (k1 : Int)))) (.cons (s_call (r := I (cabE f.cables k1)) (.func 75) (.cons (.tmp 60 (Feeder.av f)) (.cons (.tmp 61 (I (k1 : Int))) .nil)) call75 (F75 (f) (k1) (by exact hok) (by omega))) (.cons (s_assign (.tmp 62 (I (cabE f.cables k1)))) .nil)))) ?_)
     refine AC.rq (fun σ11 => RegOK.m1 [1, 5, 6, 64] ⟨[(1, .ptr (σ0 0) 0), (5, I (k1 : Int)), (6, I (cabE f.cables k1)), (64, .bool (decide ((cabE f.cables k1) ≠ 0)))], (.box (σ0 0) (fc f)) :: mem⟩ (.cons (s_move (.tmp 6 (I (cabE f.cables k1)))) (.cons (s_neq (.tmp 63 (I (cabE f.cables k1))) (.int .i64 (0))) .nil)) ?_)
     refine AC.cend (decide ((cabE f.cables k1) ≠ 0)) rfl rfl (fun hc => ?_) (fun hc => ?_)
     ·have q8 := iD.1 hc
      refine AC.rq (fun σ12 => RegOK.m1 [2, 3, 4] ⟨[(2, I 1), (3, I (k1 : Int)), (4, I (cabE f.cables k1))], (.box (σ0 0) (fc f)) :: mem⟩ (.cons (s_move (.tmp 5 (I (k1 : Int)))) (.cons (s_move (.tmp 6 (I (cabE f.cables k1)))) (.cons (s_assign (.int .i64 (1))) (.cons (s_assign (.tmp 65 (I (k1 : Int)))) (.cons (s_assign (.tmp 66 (I (cabE f.cables k1)))) .nil))))) ?_)
      refine AC.ret ?_
      refine blockQ_r ?_
      refine thenQ_r ?_
      refine thenQ_r ?_
      refine blockQ_r ?_
      refine thenQ_r ?_
      exact FinQ.ret (result3 rfl (res_tmp (v := I 1) rfl rfl) (res_tmp (v := I (k1 : Int)) rfl rfl) (res_tmp (v := I (cabE f.cables k1)) rfl rfl)) ⟨by first | ((have hFk1 := firstErr_none (e := (cabE f.cables)) f.cables.length 0 (fun j _ hj => hnk1 j (by omega))); (have hFk2 := firstErr_none (e := (fusE f.fuses)) f.fuses.length 0 (fun j _ hj => hnk2 j (by omega))); (have hFk3 := firstErr_none (e := (nodE f f.nodes)) f.nodes.length 0 (fun j _ hj => hnk3 j (by omega))); unfold check headErr cabsE fussE nodsE; grind) | ((have hFk1 := firstErr_none (e := (cabE f.cables)) f.cables.length 0 (fun j _ hj => hnk1 j (by omega))); (have hFk2 := firstErr_none (e := (fusE f.fuses)) f.fuses.length 0 (fun j _ hj => hnk2 j (by omega))); (have hFk3 := firstErr_found (e := (nodE f f.nodes)) (k := k3) (by first | omega | grind) f.nodes.length 0 (by omega) (by omega) (fun j _ hj => hnk3 j hj)); unfold check headErr cabsE fussE nodsE; grind) | ((have hFk1 := firstErr_none (e := (cabE f.cables)) f.cables.length 0 (fun j _ hj => hnk1 j (by omega))); (have hFk2 := firstErr_found (e := (fusE f.fuses)) (k := k2) (by first | omega | grind) f.fuses.length 0 (by omega) (by omega) (fun j _ hj => hnk2 j hj)); unfold check headErr cabsE fussE; grind) | ((have hFk1 := firstErr_found (e := (cabE f.cables)) (k := k1) (by first | omega | grind) f.cables.length 0 (by omega) (by omega) (fun j _ hj => hnk1 j hj)); unfold check headErr cabsE; grind) | (unfold check headErr; grind), rfl⟩
     ·have q9 := iF iD hc
      refine AC.skip ?_
      refine blockQ_n ?_
      refine thenQ_n ?_
      refine AC.re (fun σ9 => RegOK.m1 [1, 5] ⟨[(1, .ptr (σ0 0) 0), (5, I ((k1 : Int) + 1))], (.box (σ0 0) (fc f)) :: mem⟩ (.cons (s_move (.tmp 5 (I (k1 : Int)))) (.cons (s_add (.tmp 58 (I (k1 : Int))) (.int .i64 (1)) (inK_i64 (by omega))) (.cons (s_assign (.tmp 59 (I ((k1 : Int) + 1)))) .nil))) ?_)
      refine thenQ_n ⟨_, ?_, _, ⟨(k1 + 1), rfl, ⟨(by omega), (by intro j hj; rcases Decidable.em (j = k1) with h | h; (subst h; omega); exact hnk1 j (by omega))⟩, rfl⟩, Weak.of [] (by kernel_rfl) (by kernel_rfl)⟩
      omega
    ·have q10 := iF iD hc
     refine AC.exit ?_
     refine thenQ_x ?_
     refine thenQ_x ?_
     refine blockQ_x ?_
     refine thenQ_n ?_
     refine AC.seq ?_
     refine AC.rq (fun σ13 => RegOK.m1 [1, 7] ⟨[(1, .ptr (σ0 0) 0), (7, I 0)], (.box (σ0 0) (fc f)) :: mem⟩ (.cons (s_assign (.int .i64 (0))) .nil) ?_)
     refine AC.block ?_
     refine AC.loopW (fun mz T => ∃ (k2 : Nat), mz = f.fuses.length - k2 ∧ ((k2 ≤ f.fuses.length) ∧ (∀ j : Nat, j < k2 → fusE f.fuses j = 0)) ∧ T = ⟨[(1, .ptr (σ0 0) 0), (7, I (k2 : Int))], (.box (σ0 0) (fc f)) :: mem⟩) _ ⟨[(1, .ptr (σ0 0) 0), (7, I ((0) : Int))], (.box (σ0 0) (fc f)) :: mem⟩ ⟨0, rfl, ⟨(by omega), (by intro j hj; omega)⟩, rfl⟩ (Weak.of [] (by kernel_rfl) (by kernel_rfl)) ?_ Fr.plain
     rintro _ _ ⟨k2, rfl, ⟨hk2, hnk2⟩, rfl⟩
     refine AC.seq ?_
     refine AC.rq (fun σ14 => RegOK.m1 [1, 7, 71] ⟨[(1, .ptr (σ0 0) 0), (7, I (k2 : Int)), (71, .bool (decide ((k2 : Int) < (f.fuses.length : Int))))], (.box (σ0 0) (fc f)) :: mem⟩ (.cons (s_move (.tmp 7 (I (k2 : Int)))) (.cons (s_fieldAddr fld28_1 (.tmp 1 (.ptr (σ0 0) 0))) (.cons (s_load1 (cs := (fc f)) (c := .slice ((f.fuses).map Fuse.av) none) 0 tyS23 (.tmp 68 (.ptr (σ0 0) 1)) rfl) (.cons (s_lenM (l := f.fuses) slc23 (.tmp 69 (.slice ((f.fuses).map Fuse.av) none))) (.cons (s_lss (.tmp 67 (I (k2 : Int))) (.tmp 70 (I (f.fuses.length : Int)))) .nil))))) ?_)
     refine AC.cend (decide ((k2 : Int) < (f.fuses.length : Int))) rfl rfl (fun hc => ?_) (fun hc => ?_)
     ·have q11 := iD.1 hc
      refine AC.skip ?_
      refine thenQ_n ?_
      refine AC.bseq ?_
      refine AC.rq (fun σ16 => RegOK.m1 [1, 7, 8] ⟨[(1, .ptr (σ0 0) 0), (7, I (k2 : Int)), (8, I (fusE f.fuses k2))], (.box (σ0 0) (fc f)) :: mem⟩ (.cons (s_loadA (cs := (fc f)) (l := (fc f)) 0 tyA28 (.tmp 1 (.ptr (σ0 0) 0)) rfl rfl) (.cons (s_move (.tmp 7 (I (k2 : Int)))) (.cons (s_call (r := I (fusE f.fuses k2)) (.func 76) (.cons (.tmp 74 (Feeder.av f)) (.cons (.tmp 75 (I (k2 : Int))) .nil)) call76 (F76 (f) (k2) (by exact hok) (by omega))) (.cons (s_assign (.tmp 76 (I (fusE f.fuses k2)))) .nil)))) ?_)
      refine AC.rq (fun σ17 => RegOK.m1 [1, 7, 8, 78] ⟨[(1, .ptr (σ0 0) 0), (7, I (k2 : Int)), (8, I (fusE f.fuses k2)), (78, .bool (decide ((fusE f.fuses k2) ≠ 0)))], (.box (σ0 0) (fc f)) :: mem⟩ (.cons (s_move (.tmp 8 (I (fusE f.fuses k2)))) (.cons (s_neq (.tmp 77 (I (fusE f.fuses k2))) (.int .i64 (0))) .nil)) ?_)
      refine AC.cend (decide ((fusE f.fuses k2) ≠ 0)) rfl rfl (fun hc => ?_) (fun hc => ?_)
      ·have q12 := iD.1 hc
       refine AC.rq (fun σ18 => RegOK.m1 [2, 3, 4] ⟨[(2, I 2), (3, I (k2 : Int)), (4, I (fusE f.fuses k2))], (.box (σ0 0) (fc f)) :: mem⟩ (.cons (s_move (.tmp 7 (I (k2 : Int)))) (.cons (s_move (.tmp 8 (I (fusE f.fuses k2)))) (.cons (s_assign (.int .i64 (2))) (.cons (s_assign (.tmp 79 (I (k2 : Int)))) (.cons (s_assign (.tmp 80 (I (fusE f.fuses k2)))) .nil))))) ?_)
       refine AC.ret ?_
       refine blockQ_r ?_
       refine thenQ_r ?_
       refine thenQ_r ?_
       refine blockQ_r ?_
       refine thenQ_r ?_
       exact FinQ.ret (result3 rfl (res_tmp (v := I 2) rfl rfl) (res_tmp (v := I (k2 : Int)) rfl rfl) (res_tmp (v := I (fusE f.fuses k2)) rfl rfl)) ⟨by first | ((have hFk1 := firstErr_none (e := (cabE f.cables)) f.cables.length 0 (fun j _ hj => hnk1 j (by omega))); (have hFk2 := firstErr_none (e := (fusE f.fuses)) f.fuses.length 0 (fun j _ hj => hnk2 j (by omega))); (have hFk3 := firstErr_none (e := (nodE f f.nodes)) f.nodes.length 0 (fun j _ hj => hnk3 j (by omega))); unfold check headErr cabsE fussE nodsE; grind) | ((have hFk1 := firstErr_none (e := (cabE f.cables)) f.cables.length 0 (fun j _ hj => hnk1 j (by omega))); (have hFk2 := firstErr_none (e := (fusE f.fuses)) f.fuses.length 0 (fun j _ hj => hnk2 j (by omega))); (have hFk3 := firstErr_found (e := (nodE f f.nodes)) (k := k3) (by first | omega | grind) f.nodes.length 0 (by omega) (by omega) (fun j _ hj => hnk3 j hj)); unfold check headErr cabsE fussE nodsE; grind) | ((have hFk1 := firstErr_none (e := (cabE f.cables)) f.cables.length 0 (fun j _ hj => hnk1 j (by omega))); (have hFk2 := firstErr_found (e := (fusE f.fuses)) (k := k2) (by first | omega | grind) f.fuses.length 0 (by omega) (by omega) (fun j _ hj => hnk2 j hj)); unfold check headErr cabsE fussE; grind) | ((have hFk1 := firstErr_found (e := (cabE f.cables)) (k := k1) (by first | omega | grind) f.cables.length 0 (by omega) (by omega) (fun j _ hj => hnk1 j hj)); unfold check headErr cabsE; grind) | (unfold check headErr; grind), rfl⟩
      ·have q13 := iF iD hc
       refine AC.skip ?_
       refine blockQ_n ?_
       refine thenQ_n ?_
       refine AC.re (fun σ15 => RegOK.m1 [1, 7] ⟨[(1, .ptr (σ0 0) 0), (7, I ((k2 : Int) + 1))], (.box (σ0 0) (fc f)) :: mem⟩ (.cons (s_move (.tmp 7 (I (k2 : Int)))) (.cons (s_add (.tmp 72 (I (k2 : Int))) (.int .i64 (1)) (inK_i64 (by omega))) (.cons (s_assign (.tmp 73 (I ((k2 : Int) + 1)))) .nil))) ?_)
       refine thenQ_n ⟨_, ?_, _, ⟨(k2 + 1), rfl, ⟨(by omega), (by intro j hj; rcases Decidable.em (j = k2) with h | h; (subst h; omega); exact hnk2 j (by omega))⟩, rfl⟩, Weak.of [] (by kernel_rfl) (by kernel_rfl)⟩
       omega
     ·have q14 := iF iD hc
      refine AC.exit ?_
      refine thenQ_x ?_
      refine thenQ_x ?_
      refine blockQ_x ?_
      refine thenQ_n ?_
      refine AC.seq ?_
      refine AC.rq (fun σ19 => RegOK.m1 [1, 9] ⟨[(1, .ptr (σ0 0) 0), (9, I 0)], (.box (σ0 0) (fc f)) :: mem⟩ (.cons (s_assign (.int .i64 (0))) .nil) ?_)
      refine AC.block ?_
      refine AC.loopW (fun mz T => ∃ (k3 : Nat), mz = f.nodes.length - k3 ∧ ((k3 ≤ f.nodes.length) ∧ (∀ j : Nat, j < k3 → nodE f f.nodes j = 0)) ∧ T = ⟨[(1, .ptr (σ0 0) 0), (9, I (k3 : Int))], (.box (σ0 0) (fc f)) :: mem⟩) _ ⟨[(1, .ptr (σ0 0) 0), (9, I ((0) : Int))], (.box (σ0 0) (fc f)) :: mem⟩ ⟨0, rfl, ⟨(by omega), (by intro j hj; omega)⟩, rfl⟩ (Weak.of [] (by kernel_rfl) (by kernel_rfl)) ?_ Fr.plain
      rintro _ _ ⟨k3, rfl, ⟨hk3, hnk3⟩, rfl⟩
      refine AC.seq ?_
      refine AC.rq (fun σ20 => RegOK.m1 [1, 9, 85] ⟨[(1, .ptr (σ0 0) 0), (9, I (k3 : Int)), (85, .bool (decide ((k3 : Int) < (f.nodes.length : Int))))], (.box (σ0 0) (fc f)) :: mem⟩ (.cons (s_move (.tmp 9 (I (k3 : Int)))) (.cons (s_fieldAddr fld28_2 (.tmp 1 (.ptr (σ0 0) 0))) (.cons (s_load1 (cs := (fc f)) (c := .slice ((f.nodes).map Node.av) none) 0 tyS24 (.tmp 82 (.ptr (σ0 0) 2)) rfl) (.cons (s_lenM (l := f.nodes) slc24 (.tmp 83 (.slice ((f.nodes).map Node.av) none))) (.cons (s_lss (.tmp 81 (I (k3 : Int))) (.tmp 84 (I (f.nodes.length : Int)))) .nil))))) ?_)
      refine AC.cend (decide ((k3 : Int) < (f.nodes.length : Int))) rfl rfl (fun hc => ?_) (fun hc => ?_)
      ·have q15 := iD.1 hc
       refine AC.skip ?_
       refine thenQ_n ?_
       refine AC.bseq ?_
       refine AC.rq (fun σ22 => RegOK.m1 [1, 9, 10] ⟨[(1, .ptr (σ0 0) 0), (9, I (k3 : Int)), (10, I (nodE f f.nodes k3))], (.box (σ0 0) (fc f)) :: mem⟩ (.cons (s_loadA (cs := (fc f)) (l := (fc f)) 0 tyA28 (.tmp 1 (.ptr (σ0 0) 0)) rfl rfl) (.cons (s_move (.tmp 9 (I (k3 : Int)))) (.cons (s_call (r := I (nodE f f.nodes k3)) (.func 77) (.cons (.tmp 88 (Feeder.av f)) (.cons (.tmp 89 (I (k3 : Int))) .nil)) call77 (F77 (f) (k3) (by exact hok) (by omega))) (.cons (s_assign (.tmp 90 (I (nodE f f.nodes k3)))) .nil)))) ?_)
       refine AC.rq (fun σ23 => RegOK.m1 [1, 9, 10, 92] ⟨[(1, .ptr (σ0 0) 0), (9, I (k3 : Int)), (10, I (nodE f f.nodes k3)), (92, .bool (decide ((nodE f f.nodes k3) ≠ 0)))], (.box (σ0 0) (fc f)) :: mem⟩ (.cons (s_move (.tmp 10 (I (nodE f f.nodes k3)))) (.cons (s_neq (.tmp 91 (I (nodE f f.nodes k3))) (.int .i64 (0))) .nil)) ?_)
       refine AC.cend (decide ((nodE f f.nodes k3) ≠ 0)) rfl rfl (fun hc => ?_) (fun hc => ?_)
       ·have q16 := iD.1 hc
        refine AC.rq (fun σ24 => RegOK.m1 [2, 3, 4] ⟨[(2, I 3), (3, I (k3 : Int)), (4, I (nodE f f.nodes k3))], (.box (σ0 0) (fc f)) :: mem⟩ (.cons (s_move (.tmp 9 (I (k3 : Int)))) (.cons (s_move (.tmp 10 (I (nodE f f.nodes k3)))) (.cons (s_assign (.int .i64 (3))) (.cons (s_assign (.tmp 93 (I (k3 : Int)))) (.cons (s_assign (.tmp 94 (I (nodE f f.nodes k3)))) .nil))))) ?_)
        refine AC.ret ?_
        refine blockQ_r ?_
        refine thenQ_r ?_
        refine thenQ_r ?_
        refine blockQ_r ?_
        refine thenQ_r ?_
        exact FinQ.ret (result3 rfl (res_tmp (v := I 3) rfl rfl) (res_tmp (v := I (k3 : Int)) rfl rfl) (res_tmp (v := I (nodE f f.nodes k3)) rfl rfl)) ⟨by first | ((have hFk1 := firstErr_none (e := (cabE f.cables)) f.cables.length 0 (fun j _ hj => hnk1 j (by omega))); (have hFk2 := firstErr_none (e := (fusE f.fuses)) f.fuses.length 0 (fun j _ hj => hnk2 j (by omega))); (have hFk3 := firstErr_none (e := (nodE f f.nodes)) f.nodes.length 0 (fun j _ hj => hnk3 j (by omega))); unfold check headErr cabsE fussE nodsE; grind) | ((have hFk1 := firstErr_none (e := (cabE f.cables)) f.cables.length 0 (fun j _ hj => hnk1 j (by omega))); (have hFk2 := firstErr_none (e := (fusE f.fuses)) f.fuses.length 0 (fun j _ hj => hnk2 j (by omega))); (have hFk3 := firstErr_found (e := (nodE f f.nodes)) (k := k3) (by first | omega | grind) f.nodes.length 0 (by omega) (by omega) (fun j _ hj => hnk3 j hj)); unfold check headErr cabsE fussE nodsE; grind) | ((have hFk1 := firstErr_none (e := (cabE f.cables)) f.cables.length 0 (fun j _ hj => hnk1 j (by omega))); (have hFk2 := firstErr_found (e := (fusE f.fuses)) (k := k2) (by first | omega | grind) f.fuses.length 0 (by omega) (by omega) (fun j _ hj => hnk2 j hj)); unfold check headErr cabsE fussE; grind) | ((have hFk1 := firstErr_found (e := (cabE f.cables)) (k := k1) (by first | omega | grind) f.cables.length 0 (by omega) (by omega) (fun j _ hj => hnk1 j hj)); unfold check headErr cabsE; grind) | (unfold check headErr; grind), rfl⟩
       ·have q17 := iF iD hc
        refine AC.skip ?_
        refine blockQ_n ?_
        refine thenQ_n ?_
        refine AC.re (fun σ21 => RegOK.m1 [1, 9] ⟨[(1, .ptr (σ0 0) 0), (9, I ((k3 : Int) + 1))], (.box (σ0 0) (fc f)) :: mem⟩ (.cons (s_move (.tmp 9 (I (k3 : Int)))) (.cons (s_add (.tmp 86 (I (k3 : Int))) (.int .i64 (1)) (inK_i64 (by omega))) (.cons (s_assign (.tmp 87 (I ((k3 : Int) + 1)))) .nil))) ?_)
        refine thenQ_n ⟨_, ?_, _, ⟨(k3 + 1), rfl, ⟨(by omega), (by intro j hj; rcases Decidable.em (j = k3) with h | h; (subst h; omega); exact hnk3 j (by omega))⟩, rfl⟩, Weak.of [] (by kernel_rfl) (by kernel_rfl)⟩
        omega
      ·have q18 := iF iD hc
       refine AC.exit ?_
       refine thenQ_x ?_
       refine thenQ_x ?_
       refine blockQ_x ?_
       refine thenQ_n ?_
       refine AC.rq (fun σ25 => RegOK.m1 [2, 3, 4] ⟨[(2, I 0), (3, I 0), (4, I 0)], (.box (σ0 0) (fc f)) :: mem⟩ (.cons (s_assign (.int .i64 (0))) (.cons (s_assign (.int .i64 (0))) (.cons (s_assign (.int .i64 (0))) .nil))) ?_)
       refine AC.ret ?_
       exact FinQ.ret (result3 rfl (res_tmp (v := I 0) rfl rfl) (res_tmp (v := I 0) rfl rfl) (res_tmp (v := I 0) rfl rfl)) ⟨by first | ((have hFk1 := firstErr_none (e := (cabE f.cables)) f.cables.length 0 (fun j _ hj => hnk1 j (by omega))); (have hFk2 := firstErr_none (e := (fusE f.fuses)) f.fuses.length 0 (fun j _ hj => hnk2 j (by omega))); (have hFk3 := firstErr_none (e := (nodE f f.nodes)) f.nodes.length 0 (fun j _ hj => hnk3 j (by omega))); unfold check headErr cabsE fussE nodsE; grind) | ((have hFk1 := firstErr_none (e := (cabE f.cables)) f.cables.length 0 (fun j _ hj => hnk1 j (by omega))); (have hFk2 := firstErr_none (e := (fusE f.fuses)) f.fuses.length 0 (fun j _ hj => hnk2 j (by omega))); (have hFk3 := firstErr_found (e := (nodE f f.nodes)) (k := k3) (by first | omega | grind) f.nodes.length 0 (by omega) (by omega) (fun j _ hj => hnk3 j hj)); unfold check headErr cabsE fussE nodsE; grind) | ((have hFk1 := firstErr_none (e := (cabE f.cables)) f.cables.length 0 (fun j _ hj => hnk1 j (by omega))); (have hFk2 := firstErr_found (e := (fusE f.fuses)) (k := k2) (by first | omega | grind) f.fuses.length 0 (by omega) (by omega) (fun j _ hj => hnk2 j hj)); unfold check headErr cabsE fussE; grind) | ((have hFk1 := firstErr_found (e := (cabE f.cables)) (k := k1) (by first | omega | grind) f.cables.length 0 (by omega) (by omega) (fun j _ hj => hnk1 j hj)); unfold check headErr cabsE; grind) | (unfold check headErr; grind), rfl⟩
end Go.Proofs.Ytahdgadjpkcnjaa
end
section
set_option maxRecDepth 100000
namespace Go.Proofs.Ytahdgadjpkcnjaa
open Go.Proofs
theorem F79 (f : Feeder) (c : Int) (b : Bool) (hok : f.ok) : Pure Try.prog 79 [Feeder.av f, I c, .bool (b)] (I (askR f c (b))) := by
 intro mem
 have hln := hok.2.2.1
 refine Meets.body 1 Try.func79 rfl rfl ?_
 refine AC.rq (fun σ0 => RegOK.m1 [1, 2, 3] ⟨[(1, I c), (2, .bool (b)), (3, .ptr (σ0 0) 0)], (.box (σ0 0) (fc f)) :: mem⟩ (.cons (s_box 0 (σ0 0) (.tmp 0 (Feeder.av f)) rfl) (.cons (s_assign (.int .i64 (0))) .nil)) ?_)
 refine AC.rq (fun σ1 => RegOK.m1 [1, 2, 3, 9] ⟨[(1, I c), (2, .bool (b)), (3, .ptr (σ0 0) 0), (9, I ((check f).2.2))], (.box (σ0 0) (fc f)) :: mem⟩ (.cons (s_loadA (cs := (fc f)) (l := (fc f)) 0 tyA28 (.tmp 3 (.ptr (σ0 0) 0)) rfl rfl) (.cons (s_call (r := .tuple [I ((check f).1), I ((check f).2.1), I ((check f).2.2)]) (.func 26) (.cons (.tmp 11 (Feeder.av f)) .nil) call26 (F26 (f) (by exact hok))) (.cons (s_move (.tmp 12 (.tuple [I ((check f).1), I ((check f).2.1), I ((check f).2.2)]))) (.cons (s_extract (v := I ((check f).1)) (.tmp 10 (.tuple [I ((check f).1), I ((check f).2.1), I ((check f).2.2)])) rfl) (.cons (s_extract (v := I ((check f).2.1)) (.tmp 10 (.tuple [I ((check f).1), I ((check f).2.1), I ((check f).2.2)])) rfl) (.cons (s_extract (v := I ((check f).2.2)) (.tmp 10 (.tuple [I ((check f).1), I ((check f).2.1), I ((check f).2.2)])) rfl) (.cons (s_assign (.tmp 13 (I ((check f).1)))) (.cons (s_assign (.tmp 14 (I ((check f).2.1)))) (.cons (s_assign (.tmp 15 (I ((check f).2.2)))) .nil))))))))) ?_)
 refine AC.seq ?_
 refine AC.rq (fun σ2 => RegOK.m1 [1, 2, 9, 26] ⟨[(1, I c), (2, .bool (b)), (9, I ((check f).2.2)), (26, .bool ((decide ((check f).2.2 = 0) && (!(inB c 0 ((f.nodes.length : Int) - 1))))))], (.box (σ0 0) (fc f)) :: mem⟩ (.cons (s_move (.tmp 9 (I ((check f).2.2)))) (.cons (s_eql (.tmp 16 (I ((check f).2.2))) (.int .i64 (0))) (.cons (s_move (.tmp 17 (.bool (decide ((check f).2.2 = 0))))) (.cons (Step.guard _ rfl (.bool (decide ((check f).2.2 = 0))) gT (fun hb => s_move (.tmp 1 (I c)))) (.cons (Step.guard _ rfl (.bool (decide ((check f).2.2 = 0))) gT (fun hb => s_fieldAddr fld28_2 (.tmp 3 (.ptr (σ0 0) 0)))) (.cons (Step.guard _ rfl (.bool (decide ((check f).2.2 = 0))) gT (fun hb => s_load1 (cs := (fc f)) (c := .slice ((f.nodes).map Node.av) none) 0 tyS24 (.tmpC hb 20 (.ptr (σ0 0) 2)) rfl)) (.cons (Step.guard _ rfl (.bool (decide ((check f).2.2 = 0))) gT (fun hb => s_lenM (l := f.nodes) slc24 (.tmpC hb 21 (.slice ((f.nodes).map Node.av) none)))) (.cons (Step.guard _ rfl (.bool (decide ((check f).2.2 = 0))) gT (fun hb => s_sub (.tmpC hb 22 (I (f.nodes.length : Int))) (.int .i64 (1)) (inK_i64 (by have hq := iD.1 hb; omega)))) (.cons (Step.guard _ rfl (.bool (decide ((check f).2.2 = 0))) gT (fun hb => s_call (r := .bool ((inB c 0 ((f.nodes.length : Int) - 1)))) (.func 74) (.cons (.tmpC hb 19 (I c)) (.cons (.int .i64 (0)) (.cons (.tmpC hb 23 (I ((f.nodes.length : Int) - 1))) .nil))) call74 (F74 (c) (0) (((f.nodes.length : Int) - 1))))) (.cons (Step.guard _ rfl (.bool (decide ((check f).2.2 = 0))) gT (fun hb => s_not (.tmpC hb 24 (.bool ((inB c 0 ((f.nodes.length : Int) - 1))))))) (.cons (s_and' (q := (!(inB c 0 ((f.nodes.length : Int) - 1)))) (fun h => h) (.tmp 18 (.bool (decide ((check f).2.2 = 0))))) .nil))))))))))) ?_)
 refine AC.cend ((decide ((check f).2.2 = 0) && (!(inB c 0 ((f.nodes.length : Int) - 1))))) rfl rfl (fun hc => ?_) (fun hc => ?_)
 ·have q1 := (iA iD (iN inB_i)).1 hc
  refine AC.re (fun σ3 => RegOK.m1 [1, 2, 9] ⟨[(1, I c), (2, .bool (b)), (9, I 4)], (.box (σ0 0) (fc f)) :: mem⟩ (.cons (s_assign (.int .i64 (4))) .nil) ?_)
  refine thenQ_n ?_
  refine AC.seq ?_
  refine AC.rq (fun σ4 => RegOK.m1 [9, 35] ⟨[(9, I 4), (35, .bool (((decide ((4 : Int) = 0) && b) && decide (c = 0))))], (.box (σ0 0) (fc f)) :: mem⟩ (.cons (s_move (.tmp 9 (I 4))) (.cons (s_eql (.tmp 27 (I 4)) (.int .i64 (0))) (.cons (s_move (.tmp 28 (.bool (decide ((4 : Int) = 0))))) (.cons (Step.guard _ rfl (.bool (decide ((4 : Int) = 0))) gT (fun hb => s_move (.tmp 2 (.bool (b))))) (.cons (s_and' (q := b) (fun h => h) (.tmp 29 (.bool (decide ((4 : Int) = 0))))) (.cons (s_move (.tmp 31 (.bool ((decide ((4 : Int) = 0) && b))))) (.cons (Step.guard _ rfl (.bool ((decide ((4 : Int) = 0) && b))) gT (fun hb => s_move (.tmp 1 (I c)))) (.cons (Step.guard _ rfl (.bool ((decide ((4 : Int) = 0) && b))) gT (fun hb => s_eql (.tmpC hb 33 (I c)) (.int .i64 (0)))) (.cons (s_and' (q := decide (c = 0)) (fun h => h) (.tmp 32 (.bool ((decide ((4 : Int) = 0) && b))))) .nil))))))))) ?_)
  refine AC.cend (((decide ((4 : Int) = 0) && b) && decide (c = 0))) rfl rfl (fun hc => absurd hc (by simp)) (fun hc => ?_)
  refine AC.skip ?_
  refine thenQ_n ?_
  refine AC.rq (fun σ6 => RegOK.m1 [6] ⟨[(6, I 4)], (.box (σ0 0) (fc f)) :: mem⟩ (.cons (s_move (.tmp 9 (I 4))) (.cons (s_assign (.tmp 36 (I 4))) .nil)) ?_)
  refine AC.ret ?_
  exact FinQ.ret (result1 rfl (res_tmp (v := I 4) rfl rfl)) ⟨by refine congrArg I ?_; unfold askR askedOf; grind, rfl⟩
 ·have q2 := iF (iA iD (iN inB_i)) hc
  refine AC.skip ?_
  refine thenQ_n ?_
  refine AC.seq ?_
  refine AC.rq (fun σ4 => RegOK.m1 [9, 35] ⟨[(9, I ((check f).2.2)), (35, .bool (((decide ((check f).2.2 = 0) && b) && decide (c = 0))))], (.box (σ0 0) (fc f)) :: mem⟩ (.cons (s_move (.tmp 9 (I ((check f).2.2)))) (.cons (s_eql (.tmp 27 (I ((check f).2.2))) (.int .i64 (0))) (.cons (s_move (.tmp 28 (.bool (decide ((check f).2.2 = 0))))) (.cons (Step.guard _ rfl (.bool (decide ((check f).2.2 = 0))) gT (fun hb => s_move (.tmp 2 (.bool (b))))) (.cons (s_and' (q := b) (fun h => h) (.tmp 29 (.bool (decide ((check f).2.2 = 0))))) (.cons (s_move (.tmp 31 (.bool ((decide ((check f).2.2 = 0) && b))))) (.cons (Step.guard _ rfl (.bool ((decide ((check f).2.2 = 0) && b))) gT (fun hb => s_move (.tmp 1 (I c)))) (.cons (Step.guard _ rfl (.bool ((decide ((check f).2.2 = 0) && b))) gT (fun hb => s_eql (.tmpC hb 33 (I c)) (.int .i64 (0)))) (.cons (s_and' (q := decide (c = 0)) (fun h => h) (.tmp 32 (.bool ((decide ((check f).2.2 = 0) && b))))) .nil))))))))) ?_)
  refine AC.cend (((decide ((check f).2.2 = 0) && b) && decide (c = 0))) rfl rfl (fun hc => ?_) (fun hc => ?_)
  ·have q3 := (iA (iA iD iB) iD).1 hc
   refine AC.re (fun σ5 => RegOK.m1 [9] ⟨[(9, I 2)], (.box (σ0 0) (fc f)) :: mem⟩ (.cons (s_assign (.int .i64 (2))) .nil) ?_)
   refine thenQ_n ?_
   refine AC.rq (fun σ6 => RegOK.m1 [6] ⟨[(6, I 2)], (.box (σ0 0) (fc f)) :: mem⟩ (.cons (s_move (.tmp 9 (I 2))) (.cons (s_assign (.tmp 36 (I 2))) .nil)) ?_)
   refine AC.ret ?_
   exact FinQ.ret (result1 rfl (res_tmp (v := I 2) rfl rfl)) ⟨by refine congrArg I ?_; unfold askR askedOf; grind, rfl⟩
  ·have q4 := iF (iA (iA iD iB) iD) hc
   refine AC.skip ?_
   refine thenQ_n ?_
   refine AC.rq (fun σ6 => RegOK.m1 [6] ⟨[(6, I ((check f).2.2))], (.box (σ0 0) (fc f)) :: mem⟩ (.cons (s_move (.tmp 9 (I ((check f).2.2)))) (.cons (s_assign (.tmp 36 (I ((check f).2.2)))) .nil)) ?_)
   refine AC.ret ?_
   exact FinQ.ret (result1 rfl (res_tmp (v := I ((check f).2.2)) rfl rfl)) ⟨by refine congrArg I ?_; unfold askR askedOf; grind, rfl⟩
theorem F79f (f : Feeder) (c : Int) (hok : f.ok) : Pure Try.prog 79 [Feeder.av f, I c, .bool false] (I (askedOf f c)) := by
  have := F79 f c false hok
  rwa [askR_f] at this
theorem F79t (f : Feeder) (c : Int) (hok : f.ok) : Pure Try.prog 79 [Feeder.av f, I c, .bool true] (I (innerOf f c)) := by
  have := F79 f c true hok
  rwa [askR_t] at this
end Go.Proofs.Ytahdgadjpkcnjaa
end
section
set_option maxRecDepth 100000
namespace Go.Proofs.Ytahdgadjpkcnjaa
open Go.Proofs
theorem F90 (f : Feeder) (c : Nat) (g : FG f) (hc0 : c < f.nodes.length) : Pure Try.prog 90 [Feeder.av f, I (c : Int)] (.slice (((pathI f.nodes c)).map I) none) := by
 intro mem
 refine Meets.body 2 Try.func90 rfl rfl ?_
 refine AC.rq (fun σ0 => RegOK.m1 [1, 2] ⟨[(1, I (c : Int)), (2, .ptr (σ0 0) 0)], (.box (σ0 0) (fc f)) :: .hole :: mem⟩ (.cons (s_box 0 (σ0 0) (.tmp 0 (Feeder.av f)) rfl) (.cons (s_assign .nils) .nil)) ?_)
 refine AC.rq (fun σ1 => RegOK.m1 [1, 2, 5] ⟨[(1, I (c : Int)), (2, .ptr (σ0 0) 0), (5, .nils)], (.box (σ0 0) (fc f)) :: .hole :: mem⟩ (.cons (s_assign .nils) .nil) ?_)
 refine AC.nil 5 rfl ?_
 refine AC.bseq ?_
 refine AC.loopW (fun mz T => ∃ (j : Nat), ∃ (p : List Int), mz = (anc f.nodes c).length - j ∧ ((j ≤ (anc f.nodes c).length) ∧ (p = pathTo f.nodes c j) ∧ (p.length = j)) ∧ T = ⟨[(1, I ((nd f.nodes c j : Nat) : Int)), (2, .ptr (σ0 0) 0), (5, .slice ((p).map I) none)], (.box (σ0 0) (fc f)) :: .hole :: mem⟩) _ ⟨[(1, I ((nd f.nodes c (0) : Nat) : Int)), (2, .ptr (σ0 0) 0), (5, .slice (((([] : List Int))).map I) none)], (.box (σ0 0) (fc f)) :: .hole :: mem⟩ ⟨0, ([] : List Int), rfl, ⟨(by omega), (by rfl), (by rfl)⟩, rfl⟩ (Weak.of [] (by rw [nd_zero g.tree hc0]; rfl) (by kernel_rfl)) ?_ Fr.plain
 rintro _ _ ⟨j, p, rfl, ⟨hj, hp, hl⟩, rfl⟩
 have hnp := nd_pos g.tree hc0 hj
 have al := g.anc_len hc0
 refine AC.seq ?_
 refine AC.rq (fun σ2 => RegOK.m1 [1, 2, 5, 7] ⟨[(1, I ((nd f.nodes c j : Nat) : Int)), (2, .ptr (σ0 0) 0), (5, .slice ((p).map I) none), (7, .bool (decide (0 < ((nd f.nodes c j : Nat) : Int))))], (.box (σ0 0) (fc f)) :: .hole :: mem⟩ (.cons (s_move (.tmp 1 (I ((nd f.nodes c j : Nat) : Int)))) (.cons (s_gtr (.tmp 6 (I ((nd f.nodes c j : Nat) : Int))) (.int .i64 (0))) .nil)) ?_)
 refine AC.cend (decide (0 < ((nd f.nodes c j : Nat) : Int))) rfl rfl (fun hc => ?_) (fun hc => ?_)
 ·have q1 := iD.1 hc
  refine AC.skip ?_
  refine thenQ_n ?_
  refine AC.block ?_
  rcases (show p = [] ∨ 0 < p.length by cases p <;> simp) with hp0 | hp0
  ·subst hp0
   refine AC.rq (fun σ3 => RegOK.m1 [1, 2, 5] ⟨[(1, I ((nd f.nodes c j : Nat) : Int)), (2, .ptr (σ0 0) 0), (5, .slice (([((nd f.nodes c j : Nat) : Int)]).map I) (some (σ3 1)))], (.box (σ0 0) (fc f)) :: (.row (σ3 1) (1) 3 1) :: mem⟩ (.cons (s_move (.tmp 1 (I ((nd f.nodes c j : Nat) : Int)))) (.cons (s_buildSliceOwn (es := [I ((nd f.nodes c j : Nat) : Int)]) 1 (σ3 1) zero3 rfl slc48 rfl rfl rfl (.cons rfl (.tmp 8 (I ((nd f.nodes c j : Nat) : Int))) .nil) rfl rfl) (.cons (s_move (.tmp 5 (.slice ((([] : List Int)).map I) none))) (.cons (s_append0 (n := 1) 1 slc48 (.tmp 9 (.slice (([((nd f.nodes c j : Nat) : Int)]).map I) (some (σ3 1)))) (.tmp 10 (.slice ((([] : List Int)).map I) none)) Try.underlying48) (.cons (s_assign (.tmp 11 (.slice (([((nd f.nodes c j : Nat) : Int)]).map I) (some (σ3 1))))) .nil))))) ?_)
   refine AC.free 5 (([((nd f.nodes c j : Nat) : Int)]).map I) (some (σ3 1)) rfl ?_
   refine AC.re (fun σ4 => RegOK.m1 [1, 2, 5] ⟨[(1, I ((f.nodes.getD (nd f.nodes c j) default).parent)), (2, .ptr (σ0 0) 0), (5, .slice (([((nd f.nodes c j : Nat) : Int)]).map I) none)], (.box (σ0 0) (fc f)) :: (.row (σ3 1) (1) 3 1) :: mem⟩ (.cons (s_fieldAddr fld28_2 (.tmp 2 (.ptr (σ0 0) 0))) (.cons (s_load1 (cs := (fc f)) (c := .slice ((f.nodes).map Node.av) none) 0 tyS24 (.tmp 12 (.ptr (σ0 0) 2)) rfl) (.cons (s_move (.tmp 1 (I ((nd f.nodes c j : Nat) : Int)))) (.cons (s_ixM (l := f.nodes) (f := Node.av) (default) slc24 (.tmp 13 (.slice ((f.nodes).map Node.av) none)) (.tmp 14 (I ((nd f.nodes c j : Nat) : Int))) (by omega) rfl) (.cons (s_fieldAddre fld47_1 (.tmp 15 (.eptr (Node.av (f.nodes.getD (nd f.nodes c j) default)) 0))) (.cons (s_load1e (c := I ((f.nodes.getD (nd f.nodes c j) default).parent)) tyS3 (.tmp 16 (.eptr (Node.av (f.nodes.getD (nd f.nodes c j) default)) 1)) rfl) (.cons (s_assign (.tmp 17 (I ((f.nodes.getD (nd f.nodes c j) default).parent)))) .nil))))))) ?_)
   refine blockQ_n ?_
   refine thenQ_n ⟨_, ?_, _, ⟨(j + 1), [((nd f.nodes c j : Nat) : Int)], rfl, ⟨(by omega), (by rw [path_step (by omega), ← hp]; first | done | simp), (by first | (simp only [List.length_append, List.length_cons, List.length_nil]; omega) | (rw [List.length_nil] at hl; simp only [List.length_cons, List.length_nil]; omega))⟩, rfl⟩, Weak.of [1] (by rw [nd_up g.tree hc0 (by omega)]; rfl) (by kernel_rfl)⟩
   omega
  ·skip
   refine AC.rq (fun σ3 => RegOK.m1 [1, 2, 5] ⟨[(1, I ((nd f.nodes c j : Nat) : Int)), (2, .ptr (σ0 0) 0), (5, .slice ((([((nd f.nodes c j : Nat) : Int)] ++ p)).map I) (some (σ3 3)))], (.box (σ0 0) (fc f)) :: (.row (σ3 3) (([((nd f.nodes c j : Nat) : Int)] ++ p).length) 3 1) :: mem⟩ (.cons (s_move (.tmp 1 (I ((nd f.nodes c j : Nat) : Int)))) (.cons (s_buildSliceOwn (es := [I ((nd f.nodes c j : Nat) : Int)]) 1 (σ3 1) zero3 rfl slc48 rfl rfl rfl (.cons rfl (.tmp 8 (I ((nd f.nodes c j : Nat) : Int))) .nil) rfl rfl) (.cons (s_move (.tmp 5 (.slice ((p).map I) none))) (.cons (s_appendM (l := [((nd f.nodes c j : Nat) : Int)]) (l2 := p) (f := I) 1 (σ3 3) slc48 zero3 byt3 rfl (by decide) (.tmp 9 (.slice (([((nd f.nodes c j : Nat) : Int)]).map I) (some (σ3 1)))) (.tmp 10 (.slice ((p).map I) none)) (by assumption) (fun _ => rfl) (fun _ => rfl) (by simp only [List.length_cons, List.length_nil]; omega)) (.cons (s_assign (.tmp 11 (.slice ((([((nd f.nodes c j : Nat) : Int)] ++ p)).map I) (some (σ3 3))))) .nil))))) ?_)
   refine AC.free 5 ((([((nd f.nodes c j : Nat) : Int)] ++ p)).map I) (some (σ3 3)) rfl ?_
   refine AC.re (fun σ4 => RegOK.m1 [1, 2, 5] ⟨[(1, I ((f.nodes.getD (nd f.nodes c j) default).parent)), (2, .ptr (σ0 0) 0), (5, .slice ((([((nd f.nodes c j : Nat) : Int)] ++ p)).map I) none)], (.box (σ0 0) (fc f)) :: (.row (σ3 3) (([((nd f.nodes c j : Nat) : Int)] ++ p).length) 3 1) :: mem⟩ (.cons (s_fieldAddr fld28_2 (.tmp 2 (.ptr (σ0 0) 0))) (.cons (s_load1 (cs := (fc f)) (c := .slice ((f.nodes).map Node.av) none) 0 tyS24 (.tmp 12 (.ptr (σ0 0) 2)) rfl) (.cons (s_move (.tmp 1 (I ((nd f.nodes c j : Nat) : Int)))) (.cons (s_ixM (l := f.nodes) (f := Node.av) (default) slc24 (.tmp 13 (.slice ((f.nodes).map Node.av) none)) (.tmp 14 (I ((nd f.nodes c j : Nat) : Int))) (by omega) rfl) (.cons (s_fieldAddre fld47_1 (.tmp 15 (.eptr (Node.av (f.nodes.getD (nd f.nodes c j) default)) 0))) (.cons (s_load1e (c := I ((f.nodes.getD (nd f.nodes c j) default).parent)) tyS3 (.tmp 16 (.eptr (Node.av (f.nodes.getD (nd f.nodes c j) default)) 1)) rfl) (.cons (s_assign (.tmp 17 (I ((f.nodes.getD (nd f.nodes c j) default).parent)))) .nil))))))) ?_)
   refine blockQ_n ?_
   refine thenQ_n ⟨_, ?_, _, ⟨(j + 1), ([((nd f.nodes c j : Nat) : Int)] ++ p), rfl, ⟨(by omega), (by rw [path_step (by omega), ← hp]; first | done | simp), (by first | (simp only [List.length_append, List.length_cons, List.length_nil]; omega) | (rw [List.length_nil] at hl; simp only [List.length_cons, List.length_nil]; omega))⟩, rfl⟩, Weak.of [1] (by rw [nd_up g.tree hc0 (by omega)]; rfl) (by kernel_rfl)⟩
   omega
 ·have q2 := iF iD hc
  refine AC.exit ?_
  refine thenQ_x ?_
  refine thenQ_x ?_
  refine blockQ_x ?_
  refine thenQ_n ?_
  refine AC.rq (fun σ5 => RegOK.m1 [4] ⟨[(4, .slice ((p).map I) none)], (.box (σ0 0) (fc f)) :: .hole :: mem⟩ (.cons (s_move (.tmp 5 (.slice ((p).map I) none))) (.cons (s_assign (.tmp 18 (.slice ((p).map I) none))) .nil)) ?_)
  refine AC.ret ?_
  exact FinQ.ret (result1 rfl (res_tmp (v := .slice ((p).map I) none) rfl rfl)) ⟨by (have e : j = (anc f.nodes c).length := by omega); subst e; rw [hp, path_end], rfl⟩
end Go.Proofs.Ytahdgadjpkcnjaa
end
section
set_option maxRecDepth 100000
namespace Go.Proofs.Ytahdgadjpkcnjaa
open Go.Proofs
theorem F89 (f : Feeder) (c : Nat) (i : Nat) (g : FG f) (hi0 : i < f.nodes.length) : Pure Try.prog 89 [Feeder.av f, I (c : Int), I (i : Int)] (.bool ((onB f.nodes c i))) := by
 intro mem
 have pl := pathI_len f.nodes i
 have al := g.anc_len hi0
 refine Meets.body 1 Try.func89 rfl rfl ?_
 refine AC.rq (fun σ0 => RegOK.m1 [1, 2, 3] ⟨[(1, I (c : Int)), (2, I (i : Int)), (3, .ptr (σ0 0) 0)], (.box (σ0 0) (fc f)) :: mem⟩ (.cons (s_box 0 (σ0 0) (.tmp 0 (Feeder.av f)) rfl) (.cons (s_assign (.bool false)) .nil)) ?_)
 refine AC.rq (fun σ1 => RegOK.m1 [1, 7] ⟨[(1, I (c : Int)), (7, .slice (((pathI f.nodes i)).map I) none)], (.box (σ0 0) (fc f)) :: mem⟩ (.cons (s_loadA (cs := (fc f)) (l := (fc f)) 0 tyA28 (.tmp 3 (.ptr (σ0 0) 0)) rfl rfl) (.cons (s_move (.tmp 2 (I (i : Int)))) (.cons (s_call (r := .slice (((pathI f.nodes i)).map I) none) (.func 90) (.cons (.tmp 9 (Feeder.av f)) (.cons (.tmp 10 (I (i : Int))) .nil)) call90 (F90 (f) (i) (by assumption) (by omega))) (.cons (s_assign (.tmp 11 (.slice (((pathI f.nodes i)).map I) none))) .nil)))) ?_)
 refine AC.seq ?_
 refine AC.rq (fun σ2 => RegOK.m1 [1, 7, 8] ⟨[(1, I (c : Int)), (7, .slice (((pathI f.nodes i)).map I) none), (8, I 0)], (.box (σ0 0) (fc f)) :: mem⟩ (.cons (s_assign (.int .i64 (0))) .nil) ?_)
 refine AC.block ?_
 refine AC.loopW (fun mz T => ∃ (k : Nat), mz = (pathI f.nodes i).length - k ∧ ((k ≤ (pathI f.nodes i).length) ∧ (∀ j : Nat, j < k → (pathI f.nodes i).getD j 0 ≠ (c : Int))) ∧ T = ⟨[(1, I (c : Int)), (7, .slice (((pathI f.nodes i)).map I) none), (8, I (k : Int))], (.box (σ0 0) (fc f)) :: mem⟩) _ ⟨[(1, I (c : Int)), (7, .slice (((pathI f.nodes i)).map I) none), (8, I ((0) : Int))], (.box (σ0 0) (fc f)) :: mem⟩ ⟨0, rfl, ⟨(by omega), (by intro j hj; omega)⟩, rfl⟩ (Weak.of [] (by kernel_rfl) (by kernel_rfl)) ?_ Fr.plain
 rintro _ _ ⟨k, rfl, ⟨hk, hn⟩, rfl⟩
 refine AC.seq ?_
 refine AC.rq (fun σ3 => RegOK.m1 [1, 7, 8, 15] ⟨[(1, I (c : Int)), (7, .slice (((pathI f.nodes i)).map I) none), (8, I (k : Int)), (15, .bool (decide ((k : Int) < ((pathI f.nodes i).length : Int))))], (.box (σ0 0) (fc f)) :: mem⟩ (.cons (s_move (.tmp 8 (I (k : Int)))) (.cons (s_move (.tmp 7 (.slice (((pathI f.nodes i)).map I) none))) (.cons (s_lenM (l := (pathI f.nodes i)) slc48 (.tmp 13 (.slice (((pathI f.nodes i)).map I) none))) (.cons (s_lss (.tmp 12 (I (k : Int))) (.tmp 14 (I ((pathI f.nodes i).length : Int)))) .nil)))) ?_)
 refine AC.cend (decide ((k : Int) < ((pathI f.nodes i).length : Int))) rfl rfl (fun hc => ?_) (fun hc => ?_)
 ·have q1 := iD.1 hc
  refine AC.skip ?_
  refine thenQ_n ?_
  refine AC.bseq ?_
  refine AC.rq (fun σ5 => RegOK.m1 [1, 7, 8, 23] ⟨[(1, I (c : Int)), (7, .slice (((pathI f.nodes i)).map I) none), (8, I (k : Int)), (23, .bool (decide (((pathI f.nodes i).getD k 0) = (c : Int))))], (.box (σ0 0) (fc f)) :: mem⟩ (.cons (s_move (.tmp 7 (.slice (((pathI f.nodes i)).map I) none))) (.cons (s_move (.tmp 8 (I (k : Int)))) (.cons (s_ixM (l := (pathI f.nodes i)) (f := I) (0) slc48 (.tmp 18 (.slice (((pathI f.nodes i)).map I) none)) (.tmp 19 (I (k : Int))) (by omega) rfl) (.cons (s_load1e (c := I ((pathI f.nodes i).getD k 0)) tyS3 (.tmp 20 (.eptr (I ((pathI f.nodes i).getD k 0)) 0)) rfl) (.cons (s_move (.tmp 1 (I (c : Int)))) (.cons (s_eql (.tmp 21 (I ((pathI f.nodes i).getD k 0))) (.tmp 22 (I (c : Int)))) .nil)))))) ?_)
  refine AC.cend (decide (((pathI f.nodes i).getD k 0) = (c : Int))) rfl rfl (fun hc => ?_) (fun hc => ?_)
  ·have q2 := iD.1 hc
   refine AC.rq (fun σ6 => RegOK.m1 [6] ⟨[(6, .bool (true))], (.box (σ0 0) (fc f)) :: mem⟩ (.cons (s_assign (.bool true)) .nil) ?_)
   refine AC.ret ?_
   refine blockQ_r ?_
   refine thenQ_r ?_
   refine thenQ_r ?_
   refine blockQ_r ?_
   refine thenQ_r ?_
   exact FinQ.ret (result1 rfl (res_tmp (v := .bool (true)) rfl rfl)) ⟨by first | exact congrArg AV.bool (onB_yes (j := k) (by omega) (by assumption)).symm | exact congrArg AV.bool (onB_no (fun j hj => hn j (by omega))).symm, rfl⟩
  ·have q3 := iF iD hc
   refine AC.skip ?_
   refine blockQ_n ?_
   refine thenQ_n ?_
   refine AC.re (fun σ4 => RegOK.m1 [1, 7, 8] ⟨[(1, I (c : Int)), (7, .slice (((pathI f.nodes i)).map I) none), (8, I ((k : Int) + 1))], (.box (σ0 0) (fc f)) :: mem⟩ (.cons (s_move (.tmp 8 (I (k : Int)))) (.cons (s_add (.tmp 16 (I (k : Int))) (.int .i64 (1)) (inK_i64 (by omega))) (.cons (s_assign (.tmp 17 (I ((k : Int) + 1)))) .nil))) ?_)
   refine thenQ_n ⟨_, ?_, _, ⟨(k + 1), rfl, ⟨(by omega), (by intro j hj; rcases Decidable.em (j = k) with e | e; (subst e; assumption); exact hn j (by omega))⟩, rfl⟩, Weak.of [] (by kernel_rfl) (by kernel_rfl)⟩
   omega
 ·have q4 := iF iD hc
  refine AC.exit ?_
  refine thenQ_x ?_
  refine thenQ_x ?_
  refine blockQ_x ?_
  refine thenQ_n ?_
  refine AC.rq (fun σ7 => RegOK.m1 [6] ⟨[(6, .bool (false))], (.box (σ0 0) (fc f)) :: mem⟩ (.cons (s_assign (.bool false)) .nil) ?_)
  refine AC.ret ?_
  exact FinQ.ret (result1 rfl (res_tmp (v := .bool (false)) rfl rfl)) ⟨by first | exact congrArg AV.bool (onB_yes (j := k) (by omega) (by assumption)).symm | exact congrArg AV.bool (onB_no (fun j hj => hn j (by omega))).symm, rfl⟩
theorem F82 (f : Feeder) (c : Nat) (g : FG f) (hp0 : 0 < c) (hc1 : c < f.nodes.length) : Pure Try.prog 82 [Feeder.av f, I (c : Int)] (Cur.av (cur f c)) := by
 intro mem
 have gnn := g.nn
 refine Meets.body 4 Try.func82 rfl rfl ?_
 refine AC.rq (fun σ0 => RegOK.m1 [1, 2, 4] ⟨[(1, I (c : Int)), (2, .ptr (σ0 0) 0), (4, .ptr (σ0 1) 0)], (.box (σ0 0) (fc f)) :: (.box (σ0 1) [I 0, I 0, I 0, I 0, I 0, I 0]) :: .hole :: .hole :: mem⟩ (.cons (s_box 0 (σ0 0) (.tmp 0 (Feeder.av f)) rfl) (.cons (s_alloc 1 (σ0 1) zero45) .nil)) ?_)
 refine AC.rq (fun σ1 => RegOK.m1 [1, 2, 4, 5] ⟨[(1, I (c : Int)), (2, .ptr (σ0 0) 0), (4, .ptr (σ0 1) 0), (5, .ptr (σ1 0) 0)], (.box (σ0 0) (fc f)) :: (.box (σ0 1) [I 0, I 0, I 0, I 0, I 0, I 0]) :: (.box (σ1 0) [I 0, I 0, I 0, I 0, I 0, I 0]) :: .hole :: mem⟩ (.cons (s_alloc 2 (σ1 0) zero45) .nil) ?_)
 refine AC.seq ?_
 refine AC.rq (fun σ2 => RegOK.m1 [1, 2, 4, 5, 6] ⟨[(1, I (c : Int)), (2, .ptr (σ0 0) 0), (4, .ptr (σ0 1) 0), (5, .ptr (σ1 0) 0), (6, I 1)], (.box (σ0 0) (fc f)) :: (.box (σ0 1) [I 0, I 0, I 0, I 0, I 0, I 0]) :: (.box (σ1 0) [I 0, I 0, I 0, I 0, I 0, I 0]) :: .hole :: mem⟩ (.cons (s_assign (.int .i64 (1))) .nil) ?_)
 refine AC.block ?_
 refine AC.loopW (fun mz T => ∃ (m : Nat), mz = f.nodes.length - m ∧ ((1 ≤ m ∧ m ≤ f.nodes.length)) ∧ T = ⟨[(1, I (c : Int)), (2, .ptr (σ0 0) 0), (4, .ptr (σ0 1) 0), (5, .ptr (σ1 0) 0), (6, I (m : Int))], (.box (σ0 0) (fc f)) :: (.box (σ0 1) [I 0, I 0, I 0, I 0, I 0, I 0]) :: (.box (σ1 0) (Cur.av (accR f c m)).cells) :: .hole :: mem⟩) _ ⟨[(1, I (c : Int)), (2, .ptr (σ0 0) 0), (4, .ptr (σ0 1) 0), (5, .ptr (σ1 0) 0), (6, I ((1) : Int))], (.box (σ0 0) (fc f)) :: (.box (σ0 1) [I 0, I 0, I 0, I 0, I 0, I 0]) :: (.box (σ1 0) (Cur.av (accR f c (1))).cells) :: .hole :: mem⟩ ⟨1, rfl, (by omega), rfl⟩ (Weak.of [] (by kernel_rfl) (by rw [accR_one f hp0]; rfl)) ?_ Fr.plain
 rintro _ _ ⟨m, rfl, hm, rfl⟩
 have ai := g.accR_in (c := c) (m := m) hm.2
 unfold Cur.In at ai
 have ld := fun h : m < f.nodes.length => g.load h
 unfold nodeAt at ld
 refine AC.seq ?_
 refine AC.rq (fun σ3 => RegOK.m1 [1, 2, 4, 5, 6, 13] ⟨[(1, I (c : Int)), (2, .ptr (σ0 0) 0), (4, .ptr (σ0 1) 0), (5, .ptr (σ1 0) 0), (6, I (m : Int)), (13, .bool (decide ((m : Int) < (f.nodes.length : Int))))], (.box (σ0 0) (fc f)) :: (.box (σ0 1) [I 0, I 0, I 0, I 0, I 0, I 0]) :: (.box (σ1 0) (Cur.av (accR f c m)).cells) :: .hole :: mem⟩ (.cons (s_move (.tmp 6 (I (m : Int)))) (.cons (s_fieldAddr fld28_2 (.tmp 2 (.ptr (σ0 0) 0))) (.cons (s_load1 (cs := (fc f)) (c := .slice ((f.nodes).map Node.av) none) 0 tyS24 (.tmp 10 (.ptr (σ0 0) 2)) rfl) (.cons (s_lenM (l := f.nodes) slc24 (.tmp 11 (.slice ((f.nodes).map Node.av) none))) (.cons (s_lss (.tmp 9 (I (m : Int))) (.tmp 12 (I (f.nodes.length : Int)))) .nil))))) ?_)
 refine AC.cend (decide ((m : Int) < (f.nodes.length : Int))) rfl rfl (fun hc => ?_) (fun hc => ?_)
 ·have q1 := iD.1 hc
  have kq1 := hc
  refine AC.skip ?_
  refine thenQ_n ?_
  refine AC.bseq ?_
  refine AC.rq (fun σ5 => RegOK.m1 [1, 2, 4, 5, 6, 7] ⟨[(1, I (c : Int)), (2, .ptr (σ0 0) 0), (4, .ptr (σ0 1) 0), (5, .ptr (σ1 0) 0), (6, I (m : Int)), (7, I 0)], (.box (σ0 0) (fc f)) :: (.box (σ0 1) [I 0, I 0, I 0, I 0, I 0, I 0]) :: (.box (σ1 0) (Cur.av (accR f c m)).cells) :: .hole :: mem⟩ (.cons (s_assign (.int .i64 (0))) .nil) ?_)
  refine AC.block ?_
  refine AC.turns (ACL.turn ?_)
  refine AC.seq ?_
  refine AC.rq (fun σ6 => RegOK.m1 [1, 2, 4, 5, 6, 7, 23] ⟨[(1, I (c : Int)), (2, .ptr (σ0 0) 0), (4, .ptr (σ0 1) 0), (5, .ptr (σ1 0) 0), (6, I (m : Int)), (7, I 0), (23, .bool ((onB f.nodes c m)))], (.box (σ0 0) (fc f)) :: (.box (σ0 1) [I 0, I 0, I 0, I 0, I 0, I 0]) :: (.box (σ1 0) (Cur.av (accR f c m)).cells) :: .hole :: mem⟩ (.cons (s_move (.tmp 7 (I 0))) (.cons (s_lss (.tmp 16 (I 0)) (.int .i64 (3))) (.cons (s_move (.tmp 17 (.bool (decide ((0 : Int) < 3))))) (.cons (Step.guard _ rfl (.bool (decide ((0 : Int) < 3))) gT (fun hb => s_loadA (cs := (fc f)) (l := (fc f)) 0 tyA28 (.tmp 2 (.ptr (σ0 0) 0)) rfl rfl)) (.cons (Step.guard _ rfl (.bool (decide ((0 : Int) < 3))) gT (fun hb => s_move (.tmp 1 (I (c : Int))))) (.cons (Step.guard _ rfl (.bool (decide ((0 : Int) < 3))) gT (fun hb => s_move (.tmp 6 (I (m : Int))))) (.cons (Step.guard _ rfl (.bool (decide ((0 : Int) < 3))) gT (fun hb => s_call (r := .bool ((onB f.nodes c m))) (.func 89) (.cons (.tmpC hb 19 (Feeder.av f)) (.cons (.tmpC hb 20 (I (c : Int))) (.cons (.tmpC hb 21 (I (m : Int))) .nil))) call89 (F89 (f) (c) (m) (by have hq := iD.1 hb; assumption) (by have hq := iD.1 hb; omega)))) (.cons (s_and' (q := (onB f.nodes c m)) (fun h => h) (.tmp 18 (.bool (decide ((0 : Int) < 3))))) .nil)))))))) ?_)
  refine AC.cend ((onB f.nodes c m)) rfl rfl (fun hc => ?_) (fun hc => ?_)
  ·have q2 := iB.1 hc
   have kq2 := hc
   have ld2 := ld (by omega)
   refine AC.skip ?_
   refine thenQ_n ?_
   refine AC.bseq ?_
   refine AC.rq (fun σ8 => RegOK.m1 [1, 2, 4, 5, 6, 7, 8] ⟨[(1, I (c : Int)), (2, .ptr (σ0 0) 0), (4, .ptr (σ0 1) 0), (5, .ptr (σ1 0) 0), (6, I (m : Int)), (7, I 0), (8, .ptr (σ8 8) 0)], (.box (σ0 0) (fc f)) :: (.box (σ0 1) [I 0, I 0, I 0, I 0, I 0, I 0]) :: (.box (σ1 0) (Cur.av (accR f c m)).cells) :: (.box (σ8 8) [I ((f.nodes.getD m default).lo0), I ((f.nodes.getD m default).hi0)]) :: mem⟩ (.cons (s_fieldAddr fld28_2 (.tmp 2 (.ptr (σ0 0) 0))) (.cons (s_load1 (cs := (fc f)) (c := .slice ((f.nodes).map Node.av) none) 0 tyS24 (.tmp 26 (.ptr (σ0 0) 2)) rfl) (.cons (s_move (.tmp 6 (I (m : Int)))) (.cons (s_move (.tmp 7 (I 0))) (.cons (s_ixM (l := f.nodes) (f := Node.av) (default) slc24 (.tmp 27 (.slice ((f.nodes).map Node.av) none)) (.tmp 28 (I (m : Int))) (by omega) rfl) (.cons (s_fieldAddre fld47_5 (.tmp 30 (.eptr (Node.av (f.nodes.getD m default)) 0))) (.cons (s_indexAddrAe arr45 (.tmp 31 (.eptr (Node.av (f.nodes.getD m default)) 5)) (.tmp 29 (I 0)) (by decide) (by decide)) (.cons (s_loadAe (l := [I ((f.nodes.getD m default).lo0), I ((f.nodes.getD m default).hi0)]) tyA26 (.tmp 32 (.eptr (Node.av (f.nodes.getD m default)) 5)) rfl rfl) (.cons (s_alloc 3 (σ8 8) zero26) (.cons (s_store (cs := [I 0, I 0]) 3 sz26 (.tmp 8 (.ptr (σ8 8) 0)) (.tmp 33 (.agg [I ((f.nodes.getD m default).lo0), I ((f.nodes.getD m default).hi0)])) rfl rfl rfl (Nat.le_of_ble_eq_true rfl)) .nil)))))))))) ?_)
   refine AC.re (fun σ9 => RegOK.m1 [1, 2, 4, 5, 6, 7] ⟨[(1, I (c : Int)), (2, .ptr (σ0 0) 0), (4, .ptr (σ0 1) 0), (5, .ptr (σ1 0) 0), (6, I (m : Int)), (7, I 0)], (.box (σ0 0) (fc f)) :: (.box (σ0 1) [I 0, I 0, I 0, I 0, I 0, I 0]) :: (.box (σ1 0) [I ((accR f c m).l0 + (f.nodes.getD m default).lo0), I ((accR f c m).h0 + (f.nodes.getD m default).hi0), I ((accR f c m).l1), I ((accR f c m).h1), I ((accR f c m).l2), I ((accR f c m).h2)]) :: (.box (σ8 8) [I ((f.nodes.getD m default).lo0), I ((f.nodes.getD m default).hi0)]) :: mem⟩ (.cons (s_move (.tmp 7 (I 0))) (.cons (s_move (.tmp 7 (I 0))) (.cons (s_indexAddrA arr45 (.tmp 5 (.ptr (σ1 0) 0)) (.tmp 35 (I 0)) (by decide) (by decide)) (.cons (s_fieldAddr fld26_0 (.tmp 36 (.ptr (σ1 0) 0))) (.cons (s_load1 (cs := (Cur.av (accR f c m)).cells) (c := I ((accR f c m).l0)) 2 tyS3 (.tmp 37 (.ptr (σ1 0) 0)) rfl) (.cons (s_fieldAddr fld26_0 (.tmp 8 (.ptr (σ8 8) 0))) (.cons (s_load1 (cs := [I ((f.nodes.getD m default).lo0), I ((f.nodes.getD m default).hi0)]) (c := I ((f.nodes.getD m default).lo0)) 3 tyS3 (.tmp 39 (.ptr (σ8 8) 0)) rfl) (.cons (s_add (.tmp 38 (I ((accR f c m).l0))) (.tmp 40 (I ((f.nodes.getD m default).lo0))) (inK_i64 (by omega))) (.cons (s_move (.tmp 7 (I 0))) (.cons (s_indexAddrA arr45 (.tmp 5 (.ptr (σ1 0) 0)) (.tmp 42 (I 0)) (by decide) (by decide)) (.cons (s_fieldAddr fld26_1 (.tmp 43 (.ptr (σ1 0) 0))) (.cons (s_load1 (cs := (Cur.av (accR f c m)).cells) (c := I ((accR f c m).h0)) 2 tyS3 (.tmp 44 (.ptr (σ1 0) 1)) rfl) (.cons (s_fieldAddr fld26_1 (.tmp 8 (.ptr (σ8 8) 0))) (.cons (s_load1 (cs := [I ((f.nodes.getD m default).lo0), I ((f.nodes.getD m default).hi0)]) (c := I ((f.nodes.getD m default).hi0)) 3 tyS3 (.tmp 46 (.ptr (σ8 8) 1)) rfl) (.cons (s_add (.tmp 45 (I ((accR f c m).h0))) (.tmp 47 (I ((f.nodes.getD m default).hi0))) (inK_i64 (by omega))) (.cons (s_build (l := [I ((accR f c m).l0 + (f.nodes.getD m default).lo0), I ((accR f c m).h0 + (f.nodes.getD m default).hi0)]) zero26 plc26 (.cons rfl (.tmp 41 (I ((accR f c m).l0 + (f.nodes.getD m default).lo0))) (.cons rfl (.tmp 48 (I ((accR f c m).h0 + (f.nodes.getD m default).hi0))) .nil)) rfl) (.cons (s_indexAddrA arr45 (.tmp 5 (.ptr (σ1 0) 0)) (.tmp 34 (I 0)) (by decide) (by decide)) (.cons (s_store (cs := (Cur.av (accR f c m)).cells) 2 sz26 (.tmp 50 (.ptr (σ1 0) 0)) (.tmp 49 (.agg [I ((accR f c m).l0 + (f.nodes.getD m default).lo0), I ((accR f c m).h0 + (f.nodes.getD m default).hi0)])) rfl rfl rfl (Nat.le_of_ble_eq_true rfl)) .nil)))))))))))))))))) ?_)
   refine blockQ_n ?_
   refine thenQ_n ?_
   refine AC.re (fun σ7 => RegOK.m1 [1, 2, 4, 5, 6, 7] ⟨[(1, I (c : Int)), (2, .ptr (σ0 0) 0), (4, .ptr (σ0 1) 0), (5, .ptr (σ1 0) 0), (6, I (m : Int)), (7, I 1)], (.box (σ0 0) (fc f)) :: (.box (σ0 1) [I 0, I 0, I 0, I 0, I 0, I 0]) :: (.box (σ1 0) [I ((accR f c m).l0 + (f.nodes.getD m default).lo0), I ((accR f c m).h0 + (f.nodes.getD m default).hi0), I ((accR f c m).l1), I ((accR f c m).h1), I ((accR f c m).l2), I ((accR f c m).h2)]) :: (.box (σ8 8) [I ((f.nodes.getD m default).lo0), I ((f.nodes.getD m default).hi0)]) :: mem⟩ (.cons (s_move (.tmp 7 (I 0))) (.cons (s_add (.tmp 24 (I 0)) (.int .i64 (1)) (inK_i64 (by decide))) (.cons (s_assign (.tmp 25 (I 1))) .nil))) ?_)
   refine thenQ_n (ACL.turn ?_)
   refine AC.seq ?_
   refine AC.rq (fun σ6 => RegOK.m1 [1, 2, 4, 5, 6, 7, 23] ⟨[(1, I (c : Int)), (2, .ptr (σ0 0) 0), (4, .ptr (σ0 1) 0), (5, .ptr (σ1 0) 0), (6, I (m : Int)), (7, I 1), (23, .bool ((onB f.nodes c m)))], (.box (σ0 0) (fc f)) :: (.box (σ0 1) [I 0, I 0, I 0, I 0, I 0, I 0]) :: (.box (σ1 0) [I ((accR f c m).l0 + (f.nodes.getD m default).lo0), I ((accR f c m).h0 + (f.nodes.getD m default).hi0), I ((accR f c m).l1), I ((accR f c m).h1), I ((accR f c m).l2), I ((accR f c m).h2)]) :: (.box (σ8 8) [I ((f.nodes.getD m default).lo0), I ((f.nodes.getD m default).hi0)]) :: mem⟩ (.cons (s_move (.tmp 7 (I 1))) (.cons (s_lss (.tmp 16 (I 1)) (.int .i64 (3))) (.cons (s_move (.tmp 17 (.bool (decide ((1 : Int) < 3))))) (.cons (Step.guard _ rfl (.bool (decide ((1 : Int) < 3))) gT (fun hb => s_loadA (cs := (fc f)) (l := (fc f)) 0 tyA28 (.tmp 2 (.ptr (σ0 0) 0)) rfl rfl)) (.cons (Step.guard _ rfl (.bool (decide ((1 : Int) < 3))) gT (fun hb => s_move (.tmp 1 (I (c : Int))))) (.cons (Step.guard _ rfl (.bool (decide ((1 : Int) < 3))) gT (fun hb => s_move (.tmp 6 (I (m : Int))))) (.cons (Step.guard _ rfl (.bool (decide ((1 : Int) < 3))) gT (fun hb => s_call (r := .bool ((onB f.nodes c m))) (.func 89) (.cons (.tmpC hb 19 (Feeder.av f)) (.cons (.tmpC hb 20 (I (c : Int))) (.cons (.tmpC hb 21 (I (m : Int))) .nil))) call89 (F89 (f) (c) (m) (by have hq := iD.1 hb; assumption) (by have hq := iD.1 hb; omega)))) (.cons (s_and' (q := (onB f.nodes c m)) (fun h => h) (.tmp 18 (.bool (decide ((1 : Int) < 3))))) .nil)))))))) ?_)
   refine AC.cend ((onB f.nodes c m)) rfl rfl (fun hc => ?_) (fun hc => ?_)
   ·have q3 := iB.1 hc
    have kq3 := hc
    have ld2 := ld (by omega)
    refine AC.skip ?_
    refine thenQ_n ?_
    refine AC.bseq ?_
    refine AC.rq (fun σ8 => RegOK.m1 [1, 2, 4, 5, 6, 7, 8] ⟨[(1, I (c : Int)), (2, .ptr (σ0 0) 0), (4, .ptr (σ0 1) 0), (5, .ptr (σ1 0) 0), (6, I (m : Int)), (7, I 1), (8, .ptr (σ8 8) 0)], (.box (σ0 0) (fc f)) :: (.box (σ0 1) [I 0, I 0, I 0, I 0, I 0, I 0]) :: (.box (σ1 0) [I ((accR f c m).l0 + (f.nodes.getD m default).lo0), I ((accR f c m).h0 + (f.nodes.getD m default).hi0), I ((accR f c m).l1), I ((accR f c m).h1), I ((accR f c m).l2), I ((accR f c m).h2)]) :: (.box (σ8 8) [I ((f.nodes.getD m default).lo1), I ((f.nodes.getD m default).hi1)]) :: mem⟩ (.cons (s_fieldAddr fld28_2 (.tmp 2 (.ptr (σ0 0) 0))) (.cons (s_load1 (cs := (fc f)) (c := .slice ((f.nodes).map Node.av) none) 0 tyS24 (.tmp 26 (.ptr (σ0 0) 2)) rfl) (.cons (s_move (.tmp 6 (I (m : Int)))) (.cons (s_move (.tmp 7 (I 1))) (.cons (s_ixM (l := f.nodes) (f := Node.av) (default) slc24 (.tmp 27 (.slice ((f.nodes).map Node.av) none)) (.tmp 28 (I (m : Int))) (by omega) rfl) (.cons (s_fieldAddre fld47_5 (.tmp 30 (.eptr (Node.av (f.nodes.getD m default)) 0))) (.cons (s_indexAddrAe arr45 (.tmp 31 (.eptr (Node.av (f.nodes.getD m default)) 5)) (.tmp 29 (I 1)) (by decide) (by decide)) (.cons (s_loadAe (l := [I ((f.nodes.getD m default).lo1), I ((f.nodes.getD m default).hi1)]) tyA26 (.tmp 32 (.eptr (Node.av (f.nodes.getD m default)) 7)) rfl rfl) (.cons (s_alloc 3 (σ8 8) zero26) (.cons (s_store (cs := [I 0, I 0]) 3 sz26 (.tmp 8 (.ptr (σ8 8) 0)) (.tmp 33 (.agg [I ((f.nodes.getD m default).lo1), I ((f.nodes.getD m default).hi1)])) rfl rfl rfl (Nat.le_of_ble_eq_true rfl)) .nil)))))))))) ?_)
    refine AC.re (fun σ9 => RegOK.m1 [1, 2, 4, 5, 6, 7] ⟨[(1, I (c : Int)), (2, .ptr (σ0 0) 0), (4, .ptr (σ0 1) 0), (5, .ptr (σ1 0) 0), (6, I (m : Int)), (7, I 1)], (.box (σ0 0) (fc f)) :: (.box (σ0 1) [I 0, I 0, I 0, I 0, I 0, I 0]) :: (.box (σ1 0) [I ((accR f c m).l0 + (f.nodes.getD m default).lo0), I ((accR f c m).h0 + (f.nodes.getD m default).hi0), I ((accR f c m).l1 + (f.nodes.getD m default).lo1), I ((accR f c m).h1 + (f.nodes.getD m default).hi1), I ((accR f c m).l2), I ((accR f c m).h2)]) :: (.box (σ8 8) [I ((f.nodes.getD m default).lo1), I ((f.nodes.getD m default).hi1)]) :: mem⟩ (.cons (s_move (.tmp 7 (I 1))) (.cons (s_move (.tmp 7 (I 1))) (.cons (s_indexAddrA arr45 (.tmp 5 (.ptr (σ1 0) 0)) (.tmp 35 (I 1)) (by decide) (by decide)) (.cons (s_fieldAddr fld26_0 (.tmp 36 (.ptr (σ1 0) 2))) (.cons (s_load1 (cs := [I ((accR f c m).l0 + (f.nodes.getD m default).lo0), I ((accR f c m).h0 + (f.nodes.getD m default).hi0), I ((accR f c m).l1), I ((accR f c m).h1), I ((accR f c m).l2), I ((accR f c m).h2)]) (c := I ((accR f c m).l1)) 2 tyS3 (.tmp 37 (.ptr (σ1 0) 2)) rfl) (.cons (s_fieldAddr fld26_0 (.tmp 8 (.ptr (σ8 8) 0))) (.cons (s_load1 (cs := [I ((f.nodes.getD m default).lo1), I ((f.nodes.getD m default).hi1)]) (c := I ((f.nodes.getD m default).lo1)) 3 tyS3 (.tmp 39 (.ptr (σ8 8) 0)) rfl) (.cons (s_add (.tmp 38 (I ((accR f c m).l1))) (.tmp 40 (I ((f.nodes.getD m default).lo1))) (inK_i64 (by omega))) (.cons (s_move (.tmp 7 (I 1))) (.cons (s_indexAddrA arr45 (.tmp 5 (.ptr (σ1 0) 0)) (.tmp 42 (I 1)) (by decide) (by decide)) (.cons (s_fieldAddr fld26_1 (.tmp 43 (.ptr (σ1 0) 2))) (.cons (s_load1 (cs := [I ((accR f c m).l0 + (f.nodes.getD m default).lo0), I ((accR f c m).h0 + (f.nodes.getD m default).hi0), I ((accR f c m).l1), I ((accR f c m).h1), I ((accR f c m).l2), I ((accR f c m).h2)]) (c := I ((accR f c m).h1)) 2 tyS3 (.tmp 44 (.ptr (σ1 0) 3)) rfl) (.cons (s_fieldAddr fld26_1 (.tmp 8 (.ptr (σ8 8) 0))) (.cons (s_load1 (cs := [I ((f.nodes.getD m default).lo1), I ((f.nodes.getD m default).hi1)]) (c := I ((f.nodes.getD m default).hi1)) 3 tyS3 (.tmp 46 (.ptr (σ8 8) 1)) rfl) (.cons (s_add (.tmp 45 (I ((accR f c m).h1))) (.tmp 47 (I ((f.nodes.getD m default).hi1))) (inK_i64 (by omega))) (.cons (s_build (l := [I ((accR f c m).l1 + (f.nodes.getD m default).lo1), I ((accR f c m).h1 + (f.nodes.getD m default).hi1)]) zero26 plc26 (.cons rfl (.tmp 41 (I ((accR f c m).l1 + (f.nodes.getD m default).lo1))) (.cons rfl (.tmp 48 (I ((accR f c m).h1 + (f.nodes.getD m default).hi1))) .nil)) rfl) (.cons (s_indexAddrA arr45 (.tmp 5 (.ptr (σ1 0) 0)) (.tmp 34 (I 1)) (by decide) (by decide)) (.cons (s_store (cs := [I ((accR f c m).l0 + (f.nodes.getD m default).lo0), I ((accR f c m).h0 + (f.nodes.getD m default).hi0), I ((accR f c m).l1), I ((accR f c m).h1), I ((accR f c m).l2), I ((accR f c m).h2)]) 2 sz26 (.tmp 50 (.ptr (σ1 0) 2)) (.tmp 49 (.agg [I ((accR f c m).l1 + (f.nodes.getD m default).lo1), I ((accR f c m).h1 + (f.nodes.getD m default).hi1)])) rfl rfl rfl (Nat.le_of_ble_eq_true rfl)) .nil)))))))))))))))))) ?_)
    refine blockQ_n ?_
    refine thenQ_n ?_
    refine AC.re (fun σ7 => RegOK.m1 [1, 2, 4, 5, 6, 7] ⟨[(1, I (c : Int)), (2, .ptr (σ0 0) 0), (4, .ptr (σ0 1) 0), (5, .ptr (σ1 0) 0), (6, I (m : Int)), (7, I 2)], (.box (σ0 0) (fc f)) :: (.box (σ0 1) [I 0, I 0, I 0, I 0, I 0, I 0]) :: (.box (σ1 0) [I ((accR f c m).l0 + (f.nodes.getD m default).lo0), I ((accR f c m).h0 + (f.nodes.getD m default).hi0), I ((accR f c m).l1 + (f.nodes.getD m default).lo1), I ((accR f c m).h1 + (f.nodes.getD m default).hi1), I ((accR f c m).l2), I ((accR f c m).h2)]) :: (.box (σ8 8) [I ((f.nodes.getD m default).lo1), I ((f.nodes.getD m default).hi1)]) :: mem⟩ (.cons (s_move (.tmp 7 (I 1))) (.cons (s_add (.tmp 24 (I 1)) (.int .i64 (1)) (inK_i64 (by decide))) (.cons (s_assign (.tmp 25 (I 2))) .nil))) ?_)
    refine thenQ_n (ACL.turn ?_)
    refine AC.seq ?_
    refine AC.rq (fun σ6 => RegOK.m1 [1, 2, 4, 5, 6, 7, 23] ⟨[(1, I (c : Int)), (2, .ptr (σ0 0) 0), (4, .ptr (σ0 1) 0), (5, .ptr (σ1 0) 0), (6, I (m : Int)), (7, I 2), (23, .bool ((onB f.nodes c m)))], (.box (σ0 0) (fc f)) :: (.box (σ0 1) [I 0, I 0, I 0, I 0, I 0, I 0]) :: (.box (σ1 0) [I ((accR f c m).l0 + (f.nodes.getD m default).lo0), I ((accR f c m).h0 + (f.nodes.getD m default).hi0), I ((accR f c m).l1 + (f.nodes.getD m default).lo1), I ((accR f c m).h1 + (f.nodes.getD m default).hi1), I ((accR f c m).l2), I ((accR f c m).h2)]) :: (.box (σ8 8) [I ((f.nodes.getD m default).lo1), I ((f.nodes.getD m default).hi1)]) :: mem⟩ (.cons (s_move (.tmp 7 (I 2))) (.cons (s_lss (.tmp 16 (I 2)) (.int .i64 (3))) (.cons (s_move (.tmp 17 (.bool (decide ((2 : Int) < 3))))) (.cons (Step.guard _ rfl (.bool (decide ((2 : Int) < 3))) gT (fun hb => s_loadA (cs := (fc f)) (l := (fc f)) 0 tyA28 (.tmp 2 (.ptr (σ0 0) 0)) rfl rfl)) (.cons (Step.guard _ rfl (.bool (decide ((2 : Int) < 3))) gT (fun hb => s_move (.tmp 1 (I (c : Int))))) (.cons (Step.guard _ rfl (.bool (decide ((2 : Int) < 3))) gT (fun hb => s_move (.tmp 6 (I (m : Int))))) (.cons (Step.guard _ rfl (.bool (decide ((2 : Int) < 3))) gT (fun hb => s_call (r := .bool ((onB f.nodes c m))) (.func 89) (.cons (.tmpC hb 19 (Feeder.av f)) (.cons (.tmpC hb 20 (I (c : Int))) (.cons (.tmpC hb 21 (I (m : Int))) .nil))) call89 (F89 (f) (c) (m) (by have hq := iD.1 hb; assumption) (by have hq := iD.1 hb; omega)))) (.cons (s_and' (q := (onB f.nodes c m)) (fun h => h) (.tmp 18 (.bool (decide ((2 : Int) < 3))))) .nil)))))))) ?_)
    refine AC.cend ((onB f.nodes c m)) rfl rfl (fun hc => ?_) (fun hc => ?_)
    ·have q4 := iB.1 hc
     have kq4 := hc
     have ld2 := ld (by omega)
     refine AC.skip ?_
     refine thenQ_n ?_
     refine AC.bseq ?_
     refine AC.rq (fun σ8 => RegOK.m1 [1, 2, 4, 5, 6, 7, 8] ⟨[(1, I (c : Int)), (2, .ptr (σ0 0) 0), (4, .ptr (σ0 1) 0), (5, .ptr (σ1 0) 0), (6, I (m : Int)), (7, I 2), (8, .ptr (σ8 8) 0)], (.box (σ0 0) (fc f)) :: (.box (σ0 1) [I 0, I 0, I 0, I 0, I 0, I 0]) :: (.box (σ1 0) [I ((accR f c m).l0 + (f.nodes.getD m default).lo0), I ((accR f c m).h0 + (f.nodes.getD m default).hi0), I ((accR f c m).l1 + (f.nodes.getD m default).lo1), I ((accR f c m).h1 + (f.nodes.getD m default).hi1), I ((accR f c m).l2), I ((accR f c m).h2)]) :: (.box (σ8 8) [I ((f.nodes.getD m default).lo2), I ((f.nodes.getD m default).hi2)]) :: mem⟩ (.cons (s_fieldAddr fld28_2 (.tmp 2 (.ptr (σ0 0) 0))) (.cons (s_load1 (cs := (fc f)) (c := .slice ((f.nodes).map Node.av) none) 0 tyS24 (.tmp 26 (.ptr (σ0 0) 2)) rfl) (.cons (s_move (.tmp 6 (I (m : Int)))) (.cons (s_move (.tmp 7 (I 2))) (.cons (s_ixM (l := f.nodes) (f := Node.av) (default) slc24 (.tmp 27 (.slice ((f.nodes).map Node.av) none)) (.tmp 28 (I (m : Int))) (by omega) rfl) (.cons (s_fieldAddre fld47_5 (.tmp 30 (.eptr (Node.av (f.nodes.getD m default)) 0))) (.cons (s_indexAddrAe arr45 (.tmp 31 (.eptr (Node.av (f.nodes.getD m default)) 5)) (.tmp 29 (I 2)) (by decide) (by decide)) (.cons (s_loadAe (l := [I ((f.nodes.getD m default).lo2), I ((f.nodes.getD m default).hi2)]) tyA26 (.tmp 32 (.eptr (Node.av (f.nodes.getD m default)) 9)) rfl rfl) (.cons (s_alloc 3 (σ8 8) zero26) (.cons (s_store (cs := [I 0, I 0]) 3 sz26 (.tmp 8 (.ptr (σ8 8) 0)) (.tmp 33 (.agg [I ((f.nodes.getD m default).lo2), I ((f.nodes.getD m default).hi2)])) rfl rfl rfl (Nat.le_of_ble_eq_true rfl)) .nil)))))))))) ?_)
     refine AC.re (fun σ9 => RegOK.m1 [1, 2, 4, 5, 6, 7] ⟨[(1, I (c : Int)), (2, .ptr (σ0 0) 0), (4, .ptr (σ0 1) 0), (5, .ptr (σ1 0) 0), (6, I (m : Int)), (7, I 2)], (.box (σ0 0) (fc f)) :: (.box (σ0 1) [I 0, I 0, I 0, I 0, I 0, I 0]) :: (.box (σ1 0) [I ((accR f c m).l0 + (f.nodes.getD m default).lo0), I ((accR f c m).h0 + (f.nodes.getD m default).hi0), I ((accR f c m).l1 + (f.nodes.getD m default).lo1), I ((accR f c m).h1 + (f.nodes.getD m default).hi1), I ((accR f c m).l2 + (f.nodes.getD m default).lo2), I ((accR f c m).h2 + (f.nodes.getD m default).hi2)]) :: (.box (σ8 8) [I ((f.nodes.getD m default).lo2), I ((f.nodes.getD m default).hi2)]) :: mem⟩ (.cons (s_move (.tmp 7 (I 2))) (.cons (s_move (.tmp 7 (I 2))) (.cons (s_indexAddrA arr45 (.tmp 5 (.ptr (σ1 0) 0)) (.tmp 35 (I 2)) (by decide) (by decide)) (.cons (s_fieldAddr fld26_0 (.tmp 36 (.ptr (σ1 0) 4))) (.cons (s_load1 (cs := [I ((accR f c m).l0 + (f.nodes.getD m default).lo0), I ((accR f c m).h0 + (f.nodes.getD m default).hi0), I ((accR f c m).l1 + (f.nodes.getD m default).lo1), I ((accR f c m).h1 + (f.nodes.getD m default).hi1), I ((accR f c m).l2), I ((accR f c m).h2)]) (c := I ((accR f c m).l2)) 2 tyS3 (.tmp 37 (.ptr (σ1 0) 4)) rfl) (.cons (s_fieldAddr fld26_0 (.tmp 8 (.ptr (σ8 8) 0))) (.cons (s_load1 (cs := [I ((f.nodes.getD m default).lo2), I ((f.nodes.getD m default).hi2)]) (c := I ((f.nodes.getD m default).lo2)) 3 tyS3 (.tmp 39 (.ptr (σ8 8) 0)) rfl) (.cons (s_add (.tmp 38 (I ((accR f c m).l2))) (.tmp 40 (I ((f.nodes.getD m default).lo2))) (inK_i64 (by omega))) (.cons (s_move (.tmp 7 (I 2))) (.cons (s_indexAddrA arr45 (.tmp 5 (.ptr (σ1 0) 0)) (.tmp 42 (I 2)) (by decide) (by decide)) (.cons (s_fieldAddr fld26_1 (.tmp 43 (.ptr (σ1 0) 4))) (.cons (s_load1 (cs := [I ((accR f c m).l0 + (f.nodes.getD m default).lo0), I ((accR f c m).h0 + (f.nodes.getD m default).hi0), I ((accR f c m).l1 + (f.nodes.getD m default).lo1), I ((accR f c m).h1 + (f.nodes.getD m default).hi1), I ((accR f c m).l2), I ((accR f c m).h2)]) (c := I ((accR f c m).h2)) 2 tyS3 (.tmp 44 (.ptr (σ1 0) 5)) rfl) (.cons (s_fieldAddr fld26_1 (.tmp 8 (.ptr (σ8 8) 0))) (.cons (s_load1 (cs := [I ((f.nodes.getD m default).lo2), I ((f.nodes.getD m default).hi2)]) (c := I ((f.nodes.getD m default).hi2)) 3 tyS3 (.tmp 46 (.ptr (σ8 8) 1)) rfl) (.cons (s_add (.tmp 45 (I ((accR f c m).h2))) (.tmp 47 (I ((f.nodes.getD m default).hi2))) (inK_i64 (by omega))) (.cons (s_build (l := [I ((accR f c m).l2 + (f.nodes.getD m default).lo2), I ((accR f c m).h2 + (f.nodes.getD m default).hi2)]) zero26 plc26 (.cons rfl (.tmp 41 (I ((accR f c m).l2 + (f.nodes.getD m default).lo2))) (.cons rfl (.tmp 48 (I ((accR f c m).h2 + (f.nodes.getD m default).hi2))) .nil)) rfl) (.cons (s_indexAddrA arr45 (.tmp 5 (.ptr (σ1 0) 0)) (.tmp 34 (I 2)) (by decide) (by decide)) (.cons (s_store (cs := [I ((accR f c m).l0 + (f.nodes.getD m default).lo0), I ((accR f c m).h0 + (f.nodes.getD m default).hi0), I ((accR f c m).l1 + (f.nodes.getD m default).lo1), I ((accR f c m).h1 + (f.nodes.getD m default).hi1), I ((accR f c m).l2), I ((accR f c m).h2)]) 2 sz26 (.tmp 50 (.ptr (σ1 0) 4)) (.tmp 49 (.agg [I ((accR f c m).l2 + (f.nodes.getD m default).lo2), I ((accR f c m).h2 + (f.nodes.getD m default).hi2)])) rfl rfl rfl (Nat.le_of_ble_eq_true rfl)) .nil)))))))))))))))))) ?_)
     refine blockQ_n ?_
     refine thenQ_n ?_
     refine AC.re (fun σ7 => RegOK.m1 [1, 2, 4, 5, 6, 7] ⟨[(1, I (c : Int)), (2, .ptr (σ0 0) 0), (4, .ptr (σ0 1) 0), (5, .ptr (σ1 0) 0), (6, I (m : Int)), (7, I 3)], (.box (σ0 0) (fc f)) :: (.box (σ0 1) [I 0, I 0, I 0, I 0, I 0, I 0]) :: (.box (σ1 0) [I ((accR f c m).l0 + (f.nodes.getD m default).lo0), I ((accR f c m).h0 + (f.nodes.getD m default).hi0), I ((accR f c m).l1 + (f.nodes.getD m default).lo1), I ((accR f c m).h1 + (f.nodes.getD m default).hi1), I ((accR f c m).l2 + (f.nodes.getD m default).lo2), I ((accR f c m).h2 + (f.nodes.getD m default).hi2)]) :: (.box (σ8 8) [I ((f.nodes.getD m default).lo2), I ((f.nodes.getD m default).hi2)]) :: mem⟩ (.cons (s_move (.tmp 7 (I 2))) (.cons (s_add (.tmp 24 (I 2)) (.int .i64 (1)) (inK_i64 (by decide))) (.cons (s_assign (.tmp 25 (I 3))) .nil))) ?_)
     refine thenQ_n (ACL.turn ?_)
     refine AC.seq ?_
     refine AC.rq (fun σ6 => RegOK.m1 [1, 2, 4, 5, 6, 7, 23] ⟨[(1, I (c : Int)), (2, .ptr (σ0 0) 0), (4, .ptr (σ0 1) 0), (5, .ptr (σ1 0) 0), (6, I (m : Int)), (7, I 3), (23, .bool ((decide ((3 : Int) < 3) && (onB f.nodes c m))))], (.box (σ0 0) (fc f)) :: (.box (σ0 1) [I 0, I 0, I 0, I 0, I 0, I 0]) :: (.box (σ1 0) [I ((accR f c m).l0 + (f.nodes.getD m default).lo0), I ((accR f c m).h0 + (f.nodes.getD m default).hi0), I ((accR f c m).l1 + (f.nodes.getD m default).lo1), I ((accR f c m).h1 + (f.nodes.getD m default).hi1), I ((accR f c m).l2 + (f.nodes.getD m default).lo2), I ((accR f c m).h2 + (f.nodes.getD m default).hi2)]) :: (.box (σ8 8) [I ((f.nodes.getD m default).lo2), I ((f.nodes.getD m default).hi2)]) :: mem⟩ (.cons (s_move (.tmp 7 (I 3))) (.cons (s_lss (.tmp 16 (I 3)) (.int .i64 (3))) (.cons (s_move (.tmp 17 (.bool (decide ((3 : Int) < 3))))) (.cons (Step.guard _ rfl (.bool (decide ((3 : Int) < 3))) gT (fun hb => s_loadA (cs := (fc f)) (l := (fc f)) 0 tyA28 (.tmp 2 (.ptr (σ0 0) 0)) rfl rfl)) (.cons (Step.guard _ rfl (.bool (decide ((3 : Int) < 3))) gT (fun hb => s_move (.tmp 1 (I (c : Int))))) (.cons (Step.guard _ rfl (.bool (decide ((3 : Int) < 3))) gT (fun hb => s_move (.tmp 6 (I (m : Int))))) (.cons (Step.guard _ rfl (.bool (decide ((3 : Int) < 3))) gT (fun hb => s_call (r := .bool ((onB f.nodes c m))) (.func 89) (.cons (.tmpC hb 19 (Feeder.av f)) (.cons (.tmpC hb 20 (I (c : Int))) (.cons (.tmpC hb 21 (I (m : Int))) .nil))) call89 (F89 (f) (c) (m) (by have hq := iD.1 hb; assumption) (by have hq := iD.1 hb; omega)))) (.cons (s_and' (q := (onB f.nodes c m)) (fun h => h) (.tmp 18 (.bool (decide ((3 : Int) < 3))))) .nil)))))))) ?_)
     refine AC.cend ((decide ((3 : Int) < 3) && (onB f.nodes c m))) rfl rfl (fun hc => absurd hc (by simp)) (fun hc => ?_)
     refine AC.exit ?_
     refine thenQ_x ?_
     refine thenQ_x ?_
     refine blockQ_x ?_
     refine blockQ_n ?_
     refine thenQ_n ?_
     refine AC.re (fun σ4 => RegOK.m1 [1, 2, 4, 5, 6] ⟨[(1, I (c : Int)), (2, .ptr (σ0 0) 0), (4, .ptr (σ0 1) 0), (5, .ptr (σ1 0) 0), (6, I ((m : Int) + 1))], (.box (σ0 0) (fc f)) :: (.box (σ0 1) [I 0, I 0, I 0, I 0, I 0, I 0]) :: (.box (σ1 0) [I ((accR f c m).l0 + (f.nodes.getD m default).lo0), I ((accR f c m).h0 + (f.nodes.getD m default).hi0), I ((accR f c m).l1 + (f.nodes.getD m default).lo1), I ((accR f c m).h1 + (f.nodes.getD m default).hi1), I ((accR f c m).l2 + (f.nodes.getD m default).lo2), I ((accR f c m).h2 + (f.nodes.getD m default).hi2)]) :: (.box (σ8 8) [I ((f.nodes.getD m default).lo2), I ((f.nodes.getD m default).hi2)]) :: mem⟩ (.cons (s_move (.tmp 6 (I (m : Int)))) (.cons (s_add (.tmp 14 (I (m : Int))) (.int .i64 (1)) (inK_i64 (by omega))) (.cons (s_assign (.tmp 15 (I ((m : Int) + 1)))) .nil))) ?_)
     refine thenQ_n ⟨_, ?_, _, ⟨(m + 1), rfl, (by omega), rfl⟩, Weak.of [3] (by kernel_rfl) (by first | (rw [accR_yes (by rw [← onB_beh hp0]; assumption)]; rfl) | (rw [accR_no (by rw [← onB_beh hp0]; assumption)]; rfl))⟩
     omega
    ·exact absurd (hc.symm.trans kq3) (by simp)
   ·exact absurd (hc.symm.trans kq2) (by simp)
  ·have q7 := iF iB hc
   have kq7 := hc
   refine AC.exit ?_
   refine thenQ_x ?_
   refine thenQ_x ?_
   refine blockQ_x ?_
   refine blockQ_n ?_
   refine thenQ_n ?_
   refine AC.re (fun σ4 => RegOK.m1 [1, 2, 4, 5, 6] ⟨[(1, I (c : Int)), (2, .ptr (σ0 0) 0), (4, .ptr (σ0 1) 0), (5, .ptr (σ1 0) 0), (6, I ((m : Int) + 1))], (.box (σ0 0) (fc f)) :: (.box (σ0 1) [I 0, I 0, I 0, I 0, I 0, I 0]) :: (.box (σ1 0) (Cur.av (accR f c m)).cells) :: .hole :: mem⟩ (.cons (s_move (.tmp 6 (I (m : Int)))) (.cons (s_add (.tmp 14 (I (m : Int))) (.int .i64 (1)) (inK_i64 (by omega))) (.cons (s_assign (.tmp 15 (I ((m : Int) + 1)))) .nil))) ?_)
   refine thenQ_n ⟨_, ?_, _, ⟨(m + 1), rfl, (by omega), rfl⟩, Weak.of [] (by kernel_rfl) (by first | (rw [accR_yes (by rw [← onB_beh hp0]; assumption)]; rfl) | (rw [accR_no (by rw [← onB_beh hp0]; assumption)]; rfl))⟩
   omega
 ·have q8 := iF iD hc
  have kq8 := hc
  refine AC.exit ?_
  refine thenQ_x ?_
  refine thenQ_x ?_
  refine blockQ_x ?_
  refine thenQ_n ?_
  refine AC.rq (fun σ10 => RegOK.m1 [4] ⟨[(4, .ptr (σ0 1) 0)], (.box (σ0 0) (fc f)) :: (.box (σ0 1) (Cur.av (accR f c m)).cells) :: (.box (σ1 0) (Cur.av (accR f c m)).cells) :: .hole :: mem⟩ (.cons (s_loadA (cs := (Cur.av (accR f c m)).cells) (l := (Cur.av (accR f c m)).cells) 2 tyA45 (.tmp 5 (.ptr (σ1 0) 0)) rfl rfl) (.cons (s_store (cs := [I 0, I 0, I 0, I 0, I 0, I 0]) 1 sz45 (.tmp 4 (.ptr (σ0 1) 0)) (.tmp 51 (Cur.av (accR f c m))) rfl rfl rfl (Nat.le_of_ble_eq_true rfl)) .nil)) ?_)
  refine AC.ret ?_
  exact FinQ.ret (result1 rfl (res_cell (s := (σ0 1)) (cs := (Cur.av (accR f c m)).cells) (l := (Cur.av (accR f c m)).cells) 1 rfl rfl rfl tyA45 rfl rfl)) ⟨by (have e : m = f.nodes.length := by omega); subst e; rw [g.accR_end hc1]; rfl, rfl⟩
end Go.Proofs.Ytahdgadjpkcnjaa
end
section
set_option maxRecDepth 100000
namespace Go.Proofs.Ytahdgadjpkcnjaa
open Go.Proofs
theorem F119 (n : Int) (hn : 0 ≤ n ∧ n ≤ 4000000000000000000) : Pure Try.prog 119 [I n] (I (rup n)) := by
 intro mem
 refine Meets.body 0 Try.func119 rfl rfl ?_
 refine AC.rq (fun σ0 => RegOK.m1 [0] ⟨[(0, I n)], mem⟩ (.cons (s_assign (.int .i64 (0))) .nil) ?_)
 refine AC.rq (fun σ1 => RegOK.m1 [0, 3, 4] ⟨[(0, I n), (3, I (-1)), (4, I 2000000000)], mem⟩ (.cons (s_assign (.int .i64 (-1))) (.cons (s_assign (.int .i64 (2000000000))) .nil)) ?_)
 refine AC.bseq ?_
 refine AC.loopW (fun mz T => ∃ (lo : Int), ∃ (hi : Int), mz = (hi - lo).toNat ∧ ((-1 ≤ lo ∧ lo < hi ∧ hi ≤ 2000000000) ∧ (n ≤ hi * hi) ∧ (lo = -1 ∨ lo * lo < n)) ∧ T = ⟨[(0, I n), (3, I lo), (4, I hi)], mem⟩) _ ⟨[(0, I n), (3, I ((-1))), (4, I (2000000000))], mem⟩ ⟨(-1), 2000000000, rfl, ⟨(by omega), (by omega), (by omega)⟩, rfl⟩ (Weak.of [] (by kernel_rfl) (by kernel_rfl)) ?_ Fr.plain
 rintro _ _ ⟨lo, hi, rfl, ⟨h1, h2, h3⟩, rfl⟩
 refine AC.seq ?_
 refine AC.rq (fun σ2 => RegOK.m1 [0, 3, 4, 9] ⟨[(0, I n), (3, I lo), (4, I hi), (9, .bool (decide (1 < (hi - lo))))], mem⟩ (.cons (s_move (.tmp 4 (I hi))) (.cons (s_move (.tmp 3 (I lo))) (.cons (s_sub (.tmp 6 (I hi)) (.tmp 7 (I lo)) (inK_i64 (by omega))) (.cons (s_gtr (.tmp 8 (I (hi - lo))) (.int .i64 (1))) .nil)))) ?_)
 refine AC.cend (decide (1 < (hi - lo))) rfl rfl (fun hc => ?_) (fun hc => ?_)
 ·have q1 := iD.1 hc
  have mt := Int.tdiv_eq_ediv_of_nonneg (a := lo + hi) (b := 2) (by omega)
  have mm := mulB 2000000000 2000000000 (a := (lo + hi).tdiv 2) (b := (lo + hi).tdiv 2) (by omega) (by omega)
  refine AC.skip ?_
  refine thenQ_n ?_
  refine AC.block ?_
  refine AC.rq (fun σ3 => RegOK.m1 [0, 3, 4, 5] ⟨[(0, I n), (3, I lo), (4, I hi), (5, I ((lo + hi).tdiv 2))], mem⟩ (.cons (s_move (.tmp 3 (I lo))) (.cons (s_move (.tmp 4 (I hi))) (.cons (s_add (.tmp 10 (I lo)) (.tmp 11 (I hi)) (inK_i64 (by omega))) (.cons (s_quo (.tmp 12 (I (lo + hi))) (.int .i64 (2)) (by omega) (inK_i64 (by omega))) (.cons (s_assign (.tmp 13 (I ((lo + hi).tdiv 2)))) .nil))))) ?_)
  refine AC.rq (fun σ4 => RegOK.m1 [0, 3, 4, 5, 18] ⟨[(0, I n), (3, I lo), (4, I hi), (5, I ((lo + hi).tdiv 2)), (18, .bool (decide (n ≤ (((lo + hi).tdiv 2) * ((lo + hi).tdiv 2)))))], mem⟩ (.cons (s_move (.tmp 5 (I ((lo + hi).tdiv 2)))) (.cons (s_move (.tmp 5 (I ((lo + hi).tdiv 2)))) (.cons (s_mul (.tmp 14 (I ((lo + hi).tdiv 2))) (.tmp 15 (I ((lo + hi).tdiv 2))) (inK_i64 (by omega))) (.cons (s_move (.tmp 0 (I n))) (.cons (s_geq (.tmp 16 (I (((lo + hi).tdiv 2) * ((lo + hi).tdiv 2)))) (.tmp 17 (I n))) .nil))))) ?_)
  refine AC.cend (decide (n ≤ (((lo + hi).tdiv 2) * ((lo + hi).tdiv 2)))) rfl rfl (fun hc => ?_) (fun hc => ?_)
  ·have q2 := iD.1 hc
   refine AC.re (fun σ5 => RegOK.m1 [0, 3, 4] ⟨[(0, I n), (3, I lo), (4, I ((lo + hi).tdiv 2))], mem⟩ (.cons (s_move (.tmp 5 (I ((lo + hi).tdiv 2)))) (.cons (s_assign (.tmp 19 (I ((lo + hi).tdiv 2)))) .nil)) ?_)
   refine blockQ_n ?_
   refine thenQ_n ⟨_, ?_, _, ⟨lo, ((lo + hi).tdiv 2), rfl, ⟨(by omega), (by first | exact h2 | assumption), (by first | exact h3 | (right; omega))⟩, rfl⟩, Weak.of [] (by kernel_rfl) (by kernel_rfl)⟩
   omega
  ·have q3 := iF iD hc
   refine AC.re (fun σ6 => RegOK.m1 [0, 3, 4] ⟨[(0, I n), (3, I ((lo + hi).tdiv 2)), (4, I hi)], mem⟩ (.cons (s_move (.tmp 5 (I ((lo + hi).tdiv 2)))) (.cons (s_assign (.tmp 20 (I ((lo + hi).tdiv 2)))) .nil)) ?_)
   refine blockQ_n ?_
   refine thenQ_n ⟨_, ?_, _, ⟨((lo + hi).tdiv 2), hi, rfl, ⟨(by omega), (by first | exact h2 | assumption), (by first | exact h3 | (right; omega))⟩, rfl⟩, Weak.of [] (by kernel_rfl) (by kernel_rfl)⟩
   omega
 ·have q4 := iF iD hc
  refine AC.exit ?_
  refine thenQ_x ?_
  refine thenQ_x ?_
  refine blockQ_x ?_
  refine thenQ_n ?_
  refine AC.rq (fun σ7 => RegOK.m1 [2] ⟨[(2, I hi)], mem⟩ (.cons (s_move (.tmp 4 (I hi))) (.cons (s_assign (.tmp 21 (I hi))) .nil)) ?_)
  refine AC.ret ?_
  exact FinQ.ret (result1 rfl (res_tmp (v := I hi) rfl rfl)) ⟨by refine congrArg I ?_; exact rup_unique hn.1 (by omega) (by omega) h2 (h3.elim (fun h => .inl (by omega)) (fun h => .inr (by rw [show hi - 1 = lo by omega]; exact h))), rfl⟩
theorem F91 (f : Feeder) (c : Nat) (g : FG f) (hp0 : 0 < c) (hc1 : c < f.nodes.length) : Pure Try.prog 91 [Feeder.av f, I (c : Int)] (I (neut (cur f c))) := by
 intro mem
 have hx := g.cur_in hc1
 have hx9 := hx
 unfold Cur.In at hx9
 refine Meets.body 3 Try.func91 rfl rfl ?_
 refine AC.rq (fun σ0 => RegOK.m1 [1, 2] ⟨[(1, I (c : Int)), (2, .ptr (σ0 0) 0)], (.box (σ0 0) (fc f)) :: .hole :: .hole :: mem⟩ (.cons (s_box 0 (σ0 0) (.tmp 0 (Feeder.av f)) rfl) (.cons (s_assign (.int .i64 (0))) .nil)) ?_)
 refine AC.rq (fun σ1 => RegOK.m1 [5] ⟨[(5, .ptr (σ1 3) 0)], (.box (σ0 0) (fc f)) :: (.box (σ1 3) (Cur.av (cur f c)).cells) :: .hole :: mem⟩ (.cons (s_loadA (cs := (fc f)) (l := (fc f)) 0 tyA28 (.tmp 2 (.ptr (σ0 0) 0)) rfl rfl) (.cons (s_move (.tmp 1 (I (c : Int)))) (.cons (s_call (r := Cur.av (cur f c)) (.func 82) (.cons (.tmp 10 (Feeder.av f)) (.cons (.tmp 11 (I (c : Int))) .nil)) call82 (F82 (f) (c) (by assumption) (by omega) (by omega))) (.cons (s_alloc 1 (σ1 3) zero45) (.cons (s_store (cs := [I 0, I 0, I 0, I 0, I 0, I 0]) 1 sz45 (.tmp 5 (.ptr (σ1 3) 0)) (.tmp 12 (Cur.av (cur f c))) rfl rfl rfl (Nat.le_of_ble_eq_true rfl)) .nil))))) ?_)
 generalize hgx : (cur f c) = x at *
 refine AC.rq (fun σ2 => RegOK.m1 [5, 6] ⟨[(5, .ptr (σ1 3) 0), (6, I 0)], (.box (σ0 0) (fc f)) :: (.box (σ1 3) (Cur.av x).cells) :: .hole :: mem⟩ (.cons (s_assign (.int .i64 (0))) .nil) ?_)
 refine AC.seq ?_
 refine AC.rq (fun σ3 => RegOK.m1 [5, 6, 7] ⟨[(5, .ptr (σ1 3) 0), (6, I 0), (7, I 0)], (.box (σ0 0) (fc f)) :: (.box (σ1 3) (Cur.av x).cells) :: .hole :: mem⟩ (.cons (s_assign (.int .i64 (0))) .nil) ?_)
 refine AC.block ?_
 refine AC.loopW (fun mz T => ∃ (k : Nat), ∃ (m : Int), mz = 8 - k ∧ ((k ≤ 8) ∧ (m = itR x k)) ∧ T = ⟨[(5, .ptr (σ1 3) 0), (6, I m), (7, I (k : Int))], (.box (σ0 0) (fc f)) :: (.box (σ1 3) (Cur.av x).cells) :: .hole :: mem⟩) _ ⟨[(5, .ptr (σ1 3) 0), (6, I (0)), (7, I ((0) : Int))], (.box (σ0 0) (fc f)) :: (.box (σ1 3) (Cur.av x).cells) :: .hole :: mem⟩ ⟨0, 0, rfl, ⟨(by omega), (by rfl)⟩, rfl⟩ (Weak.of [] (by kernel_rfl) (by kernel_rfl)) ?_ Fr.plain
 rintro _ _ ⟨k, m, rfl, ⟨hk, hm⟩, rfl⟩
 have mi := itR_in hx k
 refine AC.seq ?_
 refine AC.rq (fun σ4 => RegOK.m1 [5, 6, 7, 14] ⟨[(5, .ptr (σ1 3) 0), (6, I m), (7, I (k : Int)), (14, .bool (decide ((k : Int) < 8)))], (.box (σ0 0) (fc f)) :: (.box (σ1 3) (Cur.av x).cells) :: .hole :: mem⟩ (.cons (s_move (.tmp 7 (I (k : Int)))) (.cons (s_lss (.tmp 13 (I (k : Int))) (.int .i64 (8))) .nil)) ?_)
 refine AC.cend (decide ((k : Int) < 8)) rfl rfl (fun hc => ?_) (fun hc => ?_)
 ·have q1 := iD.1 hc
  refine AC.skip ?_
  refine thenQ_n ?_
  refine AC.bseq ?_
  refine AC.rq (fun σ6 => RegOK.m1 [5, 6, 7, 8] ⟨[(5, .ptr (σ1 3) 0), (6, I m), (7, I (k : Int)), (8, .ptr (σ6 0) 0)], (.box (σ0 0) (fc f)) :: (.box (σ1 3) (Cur.av x).cells) :: (.box (σ6 0) [I 0, I 0, I 0]) :: mem⟩ (.cons (s_alloc 2 (σ6 0) zero164) .nil) ?_)
  refine AC.seq ?_
  refine AC.rq (fun σ7 => RegOK.m1 [5, 6, 7, 8, 9] ⟨[(5, .ptr (σ1 3) 0), (6, I m), (7, I (k : Int)), (8, .ptr (σ6 0) 0), (9, I 0)], (.box (σ0 0) (fc f)) :: (.box (σ1 3) (Cur.av x).cells) :: (.box (σ6 0) [I 0, I 0, I 0]) :: mem⟩ (.cons (s_assign (.int .i64 (0))) .nil) ?_)
  refine AC.block ?_
  refine AC.turns (ACL.turn ?_)
  refine AC.seq ?_
  refine AC.rq (fun σ8 => RegOK.m1 [5, 6, 7, 8, 9, 18] ⟨[(5, .ptr (σ1 3) 0), (6, I m), (7, I (k : Int)), (8, .ptr (σ6 0) 0), (9, I 0), (18, .bool (decide ((0 : Int) < 3)))], (.box (σ0 0) (fc f)) :: (.box (σ1 3) (Cur.av x).cells) :: (.box (σ6 0) [I 0, I 0, I 0]) :: mem⟩ (.cons (s_move (.tmp 9 (I 0))) (.cons (s_lss (.tmp 17 (I 0)) (.int .i64 (3))) .nil)) ?_)
  refine AC.cend (decide ((0 : Int) < 3)) rfl rfl (fun hc => ?_) (fun hc => absurd hc (by simp))
  refine AC.skip ?_
  refine thenQ_n ?_
  refine AC.join (fun T => (True) ∧ T = ⟨[(5, .ptr (σ1 3) 0), (6, I m), (7, I (k : Int)), (8, .ptr (σ6 0) 0), (9, I 0)], (.box (σ0 0) (fc f)) :: (.box (σ1 3) (Cur.av x).cells) :: (.box (σ6 0) [I (pk x.l0 x.h0 (bitN k 0)), I 0, I 0]) :: mem⟩) ?_ ?_
  ·skip
   refine AC.block ?_
   refine AC.rq (fun σ10 => RegOK.m1 [5, 6, 7, 8, 9] ⟨[(5, .ptr (σ1 3) 0), (6, I m), (7, I (k : Int)), (8, .ptr (σ6 0) 0), (9, I 0)], (.box (σ0 0) (fc f)) :: (.box (σ1 3) (Cur.av x).cells) :: (.box (σ6 0) [I (x.l0), I 0, I 0]) :: mem⟩ (.cons (s_move (.tmp 9 (I 0))) (.cons (s_move (.tmp 9 (I 0))) (.cons (s_indexAddrA arr45 (.tmp 5 (.ptr (σ1 3) 0)) (.tmp 22 (I 0)) (by decide) (by decide)) (.cons (s_fieldAddr fld26_0 (.tmp 23 (.ptr (σ1 3) 0))) (.cons (s_load1 (cs := (Cur.av x).cells) (c := I (x.l0)) 1 tyS3 (.tmp 24 (.ptr (σ1 3) 0)) rfl) (.cons (s_indexAddrA arr164 (.tmp 8 (.ptr (σ6 0) 0)) (.tmp 21 (I 0)) (by decide) (by decide)) (.cons (s_store (cs := [I 0, I 0, I 0]) 2 sz3 (.tmp 26 (.ptr (σ6 0) 0)) (.tmp 25 (I (x.l0))) rfl rfl rfl (Nat.le_of_ble_eq_true rfl)) .nil))))))) ?_)
   refine AC.rq (fun σ11 => RegOK.m1 [5, 6, 7, 8, 9, 32] ⟨[(5, .ptr (σ1 3) 0), (6, I m), (7, I (k : Int)), (8, .ptr (σ6 0) 0), (9, I 0), (32, .bool (decide ((((k : Int) / 2 ^ 0).tmod 2) = 1)))], (.box (σ0 0) (fc f)) :: (.box (σ1 3) (Cur.av x).cells) :: (.box (σ6 0) [I (x.l0), I 0, I 0]) :: mem⟩ (.cons (s_move (.tmp 7 (I (k : Int)))) (.cons (s_move (.tmp 9 (I 0))) (.cons (s_conv (.tmp 28 (I 0)) ⟨_, Try.underlying3⟩ Try.underlying165 (inK_u64 (by omega))) (.cons (s_shr (n := 0) (.tmp 27 (I (k : Int))) (.tmp 29 (.int .u64 0)) (by decide)) (.cons (s_rem (.tmp 30 (I ((k : Int) / 2 ^ 0))) (.int .i64 (2)) (by omega)) (.cons (s_eql (.tmp 31 (I (((k : Int) / 2 ^ 0).tmod 2))) (.int .i64 (1))) .nil)))))) ?_)
   refine AC.cend (decide ((((k : Int) / 2 ^ 0).tmod 2) = 1)) rfl rfl (fun hc => ?_) (fun hc => ?_)
   ·have q2 := iD.1 hc
    refine AC.re (fun σ12 => RegOK.m1 [5, 6, 7, 8, 9] ⟨[(5, .ptr (σ1 3) 0), (6, I m), (7, I (k : Int)), (8, .ptr (σ6 0) 0), (9, I 0)], (.box (σ0 0) (fc f)) :: (.box (σ1 3) (Cur.av x).cells) :: (.box (σ6 0) [I (x.h0), I 0, I 0]) :: mem⟩ (.cons (s_move (.tmp 9 (I 0))) (.cons (s_move (.tmp 9 (I 0))) (.cons (s_indexAddrA arr45 (.tmp 5 (.ptr (σ1 3) 0)) (.tmp 34 (I 0)) (by decide) (by decide)) (.cons (s_fieldAddr fld26_1 (.tmp 35 (.ptr (σ1 3) 0))) (.cons (s_load1 (cs := (Cur.av x).cells) (c := I (x.h0)) 1 tyS3 (.tmp 36 (.ptr (σ1 3) 1)) rfl) (.cons (s_indexAddrA arr164 (.tmp 8 (.ptr (σ6 0) 0)) (.tmp 33 (I 0)) (by decide) (by decide)) (.cons (s_store (cs := [I (x.l0), I 0, I 0]) 2 sz3 (.tmp 38 (.ptr (σ6 0) 0)) (.tmp 37 (I (x.h0))) rfl rfl rfl (Nat.le_of_ble_eq_true rfl)) .nil))))))) ?_)
    refine blockQ_n ?_
    exact thenQ_n ⟨_, ⟨(by trivial), rfl⟩, Weak.of [] (by kernel_rfl) (by first | (rw [show bitN k 0 = 1 from bit_iff.1 (by assumption)]; rfl) | (rw [show bitN k 0 = 0 from bit_no (fun h => absurd (bit_iff.2 h) (by assumption))]; rfl))⟩
   ·have q3 := iF iD hc
    refine AC.skip ?_
    refine blockQ_n ?_
    exact thenQ_n ⟨_, ⟨(by trivial), rfl⟩, Weak.of [] (by kernel_rfl) (by first | (rw [show bitN k 0 = 1 from bit_iff.1 (by assumption)]; rfl) | (rw [show bitN k 0 = 0 from bit_no (fun h => absurd (bit_iff.2 h) (by assumption))]; rfl))⟩
  ·rintro _ ⟨-, rfl⟩
   refine AC.re (fun σ9 => RegOK.m1 [5, 6, 7, 8, 9] ⟨[(5, .ptr (σ1 3) 0), (6, I m), (7, I (k : Int)), (8, .ptr (σ6 0) 0), (9, I 1)], (.box (σ0 0) (fc f)) :: (.box (σ1 3) (Cur.av x).cells) :: (.box (σ6 0) [I (pk x.l0 x.h0 (bitN k 0)), I 0, I 0]) :: mem⟩ (.cons (s_move (.tmp 9 (I 0))) (.cons (s_add (.tmp 19 (I 0)) (.int .i64 (1)) (inK_i64 (by decide))) (.cons (s_assign (.tmp 20 (I 1))) .nil))) ?_)
   refine thenQ_n (ACL.turn ?_)
   refine AC.seq ?_
   refine AC.rq (fun σ8 => RegOK.m1 [5, 6, 7, 8, 9, 18] ⟨[(5, .ptr (σ1 3) 0), (6, I m), (7, I (k : Int)), (8, .ptr (σ6 0) 0), (9, I 1), (18, .bool (decide ((1 : Int) < 3)))], (.box (σ0 0) (fc f)) :: (.box (σ1 3) (Cur.av x).cells) :: (.box (σ6 0) [I (pk x.l0 x.h0 (bitN k 0)), I 0, I 0]) :: mem⟩ (.cons (s_move (.tmp 9 (I 1))) (.cons (s_lss (.tmp 17 (I 1)) (.int .i64 (3))) .nil)) ?_)
   refine AC.cend (decide ((1 : Int) < 3)) rfl rfl (fun hc => ?_) (fun hc => absurd hc (by simp))
   refine AC.skip ?_
   refine thenQ_n ?_
   refine AC.join (fun T => (True) ∧ T = ⟨[(5, .ptr (σ1 3) 0), (6, I m), (7, I (k : Int)), (8, .ptr (σ6 0) 0), (9, I 1)], (.box (σ0 0) (fc f)) :: (.box (σ1 3) (Cur.av x).cells) :: (.box (σ6 0) [I (pk x.l0 x.h0 (bitN k 0)), I (pk x.l1 x.h1 (bitN k 1)), I 0]) :: mem⟩) ?_ ?_
   ·skip
    refine AC.block ?_
    refine AC.rq (fun σ10 => RegOK.m1 [5, 6, 7, 8, 9] ⟨[(5, .ptr (σ1 3) 0), (6, I m), (7, I (k : Int)), (8, .ptr (σ6 0) 0), (9, I 1)], (.box (σ0 0) (fc f)) :: (.box (σ1 3) (Cur.av x).cells) :: (.box (σ6 0) [I (pk x.l0 x.h0 (bitN k 0)), I (x.l1), I 0]) :: mem⟩ (.cons (s_move (.tmp 9 (I 1))) (.cons (s_move (.tmp 9 (I 1))) (.cons (s_indexAddrA arr45 (.tmp 5 (.ptr (σ1 3) 0)) (.tmp 22 (I 1)) (by decide) (by decide)) (.cons (s_fieldAddr fld26_0 (.tmp 23 (.ptr (σ1 3) 2))) (.cons (s_load1 (cs := (Cur.av x).cells) (c := I (x.l1)) 1 tyS3 (.tmp 24 (.ptr (σ1 3) 2)) rfl) (.cons (s_indexAddrA arr164 (.tmp 8 (.ptr (σ6 0) 0)) (.tmp 21 (I 1)) (by decide) (by decide)) (.cons (s_store (cs := [I (pk x.l0 x.h0 (bitN k 0)), I 0, I 0]) 2 sz3 (.tmp 26 (.ptr (σ6 0) 1)) (.tmp 25 (I (x.l1))) rfl rfl rfl (Nat.le_of_ble_eq_true rfl)) .nil))))))) ?_)
    refine AC.rq (fun σ11 => RegOK.m1 [5, 6, 7, 8, 9, 32] ⟨[(5, .ptr (σ1 3) 0), (6, I m), (7, I (k : Int)), (8, .ptr (σ6 0) 0), (9, I 1), (32, .bool (decide ((((k : Int) / 2 ^ 1).tmod 2) = 1)))], (.box (σ0 0) (fc f)) :: (.box (σ1 3) (Cur.av x).cells) :: (.box (σ6 0) [I (pk x.l0 x.h0 (bitN k 0)), I (x.l1), I 0]) :: mem⟩ (.cons (s_move (.tmp 7 (I (k : Int)))) (.cons (s_move (.tmp 9 (I 1))) (.cons (s_conv (.tmp 28 (I 1)) ⟨_, Try.underlying3⟩ Try.underlying165 (inK_u64 (by omega))) (.cons (s_shr (n := 1) (.tmp 27 (I (k : Int))) (.tmp 29 (.int .u64 1)) (by decide)) (.cons (s_rem (.tmp 30 (I ((k : Int) / 2 ^ 1))) (.int .i64 (2)) (by omega)) (.cons (s_eql (.tmp 31 (I (((k : Int) / 2 ^ 1).tmod 2))) (.int .i64 (1))) .nil)))))) ?_)
    refine AC.cend (decide ((((k : Int) / 2 ^ 1).tmod 2) = 1)) rfl rfl (fun hc => ?_) (fun hc => ?_)
    ·have q4 := iD.1 hc
     refine AC.re (fun σ12 => RegOK.m1 [5, 6, 7, 8, 9] ⟨[(5, .ptr (σ1 3) 0), (6, I m), (7, I (k : Int)), (8, .ptr (σ6 0) 0), (9, I 1)], (.box (σ0 0) (fc f)) :: (.box (σ1 3) (Cur.av x).cells) :: (.box (σ6 0) [I (pk x.l0 x.h0 (bitN k 0)), I (x.h1), I 0]) :: mem⟩ (.cons (s_move (.tmp 9 (I 1))) (.cons (s_move (.tmp 9 (I 1))) (.cons (s_indexAddrA arr45 (.tmp 5 (.ptr (σ1 3) 0)) (.tmp 34 (I 1)) (by decide) (by decide)) (.cons (s_fieldAddr fld26_1 (.tmp 35 (.ptr (σ1 3) 2))) (.cons (s_load1 (cs := (Cur.av x).cells) (c := I (x.h1)) 1 tyS3 (.tmp 36 (.ptr (σ1 3) 3)) rfl) (.cons (s_indexAddrA arr164 (.tmp 8 (.ptr (σ6 0) 0)) (.tmp 33 (I 1)) (by decide) (by decide)) (.cons (s_store (cs := [I (pk x.l0 x.h0 (bitN k 0)), I (x.l1), I 0]) 2 sz3 (.tmp 38 (.ptr (σ6 0) 1)) (.tmp 37 (I (x.h1))) rfl rfl rfl (Nat.le_of_ble_eq_true rfl)) .nil))))))) ?_)
     refine blockQ_n ?_
     exact thenQ_n ⟨_, ⟨(by trivial), rfl⟩, Weak.of [] (by kernel_rfl) (by first | (rw [show bitN k 1 = 1 from bit_iff.1 (by assumption)]; rfl) | (rw [show bitN k 1 = 0 from bit_no (fun h => absurd (bit_iff.2 h) (by assumption))]; rfl))⟩
    ·have q5 := iF iD hc
     refine AC.skip ?_
     refine blockQ_n ?_
     exact thenQ_n ⟨_, ⟨(by trivial), rfl⟩, Weak.of [] (by kernel_rfl) (by first | (rw [show bitN k 1 = 1 from bit_iff.1 (by assumption)]; rfl) | (rw [show bitN k 1 = 0 from bit_no (fun h => absurd (bit_iff.2 h) (by assumption))]; rfl))⟩
   ·rintro _ ⟨-, rfl⟩
    refine AC.re (fun σ9 => RegOK.m1 [5, 6, 7, 8, 9] ⟨[(5, .ptr (σ1 3) 0), (6, I m), (7, I (k : Int)), (8, .ptr (σ6 0) 0), (9, I 2)], (.box (σ0 0) (fc f)) :: (.box (σ1 3) (Cur.av x).cells) :: (.box (σ6 0) [I (pk x.l0 x.h0 (bitN k 0)), I (pk x.l1 x.h1 (bitN k 1)), I 0]) :: mem⟩ (.cons (s_move (.tmp 9 (I 1))) (.cons (s_add (.tmp 19 (I 1)) (.int .i64 (1)) (inK_i64 (by decide))) (.cons (s_assign (.tmp 20 (I 2))) .nil))) ?_)
    refine thenQ_n (ACL.turn ?_)
    refine AC.seq ?_
    refine AC.rq (fun σ8 => RegOK.m1 [5, 6, 7, 8, 9, 18] ⟨[(5, .ptr (σ1 3) 0), (6, I m), (7, I (k : Int)), (8, .ptr (σ6 0) 0), (9, I 2), (18, .bool (decide ((2 : Int) < 3)))], (.box (σ0 0) (fc f)) :: (.box (σ1 3) (Cur.av x).cells) :: (.box (σ6 0) [I (pk x.l0 x.h0 (bitN k 0)), I (pk x.l1 x.h1 (bitN k 1)), I 0]) :: mem⟩ (.cons (s_move (.tmp 9 (I 2))) (.cons (s_lss (.tmp 17 (I 2)) (.int .i64 (3))) .nil)) ?_)
    refine AC.cend (decide ((2 : Int) < 3)) rfl rfl (fun hc => ?_) (fun hc => absurd hc (by simp))
    refine AC.skip ?_
    refine thenQ_n ?_
    refine AC.join (fun T => (True) ∧ T = ⟨[(5, .ptr (σ1 3) 0), (6, I m), (7, I (k : Int)), (8, .ptr (σ6 0) 0), (9, I 2)], (.box (σ0 0) (fc f)) :: (.box (σ1 3) (Cur.av x).cells) :: (.box (σ6 0) [I (pk x.l0 x.h0 (bitN k 0)), I (pk x.l1 x.h1 (bitN k 1)), I (pk x.l2 x.h2 (bitN k 2))]) :: mem⟩) ?_ ?_
    ·skip
     refine AC.block ?_
     refine AC.rq (fun σ10 => RegOK.m1 [5, 6, 7, 8, 9] ⟨[(5, .ptr (σ1 3) 0), (6, I m), (7, I (k : Int)), (8, .ptr (σ6 0) 0), (9, I 2)], (.box (σ0 0) (fc f)) :: (.box (σ1 3) (Cur.av x).cells) :: (.box (σ6 0) [I (pk x.l0 x.h0 (bitN k 0)), I (pk x.l1 x.h1 (bitN k 1)), I (x.l2)]) :: mem⟩ (.cons (s_move (.tmp 9 (I 2))) (.cons (s_move (.tmp 9 (I 2))) (.cons (s_indexAddrA arr45 (.tmp 5 (.ptr (σ1 3) 0)) (.tmp 22 (I 2)) (by decide) (by decide)) (.cons (s_fieldAddr fld26_0 (.tmp 23 (.ptr (σ1 3) 4))) (.cons (s_load1 (cs := (Cur.av x).cells) (c := I (x.l2)) 1 tyS3 (.tmp 24 (.ptr (σ1 3) 4)) rfl) (.cons (s_indexAddrA arr164 (.tmp 8 (.ptr (σ6 0) 0)) (.tmp 21 (I 2)) (by decide) (by decide)) (.cons (s_store (cs := [I (pk x.l0 x.h0 (bitN k 0)), I (pk x.l1 x.h1 (bitN k 1)), I 0]) 2 sz3 (.tmp 26 (.ptr (σ6 0) 2)) (.tmp 25 (I (x.l2))) rfl rfl rfl (Nat.le_of_ble_eq_true rfl)) .nil))))))) ?_)
     refine AC.rq (fun σ11 => RegOK.m1 [5, 6, 7, 8, 9, 32] ⟨[(5, .ptr (σ1 3) 0), (6, I m), (7, I (k : Int)), (8, .ptr (σ6 0) 0), (9, I 2), (32, .bool (decide ((((k : Int) / 2 ^ 2).tmod 2) = 1)))], (.box (σ0 0) (fc f)) :: (.box (σ1 3) (Cur.av x).cells) :: (.box (σ6 0) [I (pk x.l0 x.h0 (bitN k 0)), I (pk x.l1 x.h1 (bitN k 1)), I (x.l2)]) :: mem⟩ (.cons (s_move (.tmp 7 (I (k : Int)))) (.cons (s_move (.tmp 9 (I 2))) (.cons (s_conv (.tmp 28 (I 2)) ⟨_, Try.underlying3⟩ Try.underlying165 (inK_u64 (by omega))) (.cons (s_shr (n := 2) (.tmp 27 (I (k : Int))) (.tmp 29 (.int .u64 2)) (by decide)) (.cons (s_rem (.tmp 30 (I ((k : Int) / 2 ^ 2))) (.int .i64 (2)) (by omega)) (.cons (s_eql (.tmp 31 (I (((k : Int) / 2 ^ 2).tmod 2))) (.int .i64 (1))) .nil)))))) ?_)
     refine AC.cend (decide ((((k : Int) / 2 ^ 2).tmod 2) = 1)) rfl rfl (fun hc => ?_) (fun hc => ?_)
     ·have q6 := iD.1 hc
      refine AC.re (fun σ12 => RegOK.m1 [5, 6, 7, 8, 9] ⟨[(5, .ptr (σ1 3) 0), (6, I m), (7, I (k : Int)), (8, .ptr (σ6 0) 0), (9, I 2)], (.box (σ0 0) (fc f)) :: (.box (σ1 3) (Cur.av x).cells) :: (.box (σ6 0) [I (pk x.l0 x.h0 (bitN k 0)), I (pk x.l1 x.h1 (bitN k 1)), I (x.h2)]) :: mem⟩ (.cons (s_move (.tmp 9 (I 2))) (.cons (s_move (.tmp 9 (I 2))) (.cons (s_indexAddrA arr45 (.tmp 5 (.ptr (σ1 3) 0)) (.tmp 34 (I 2)) (by decide) (by decide)) (.cons (s_fieldAddr fld26_1 (.tmp 35 (.ptr (σ1 3) 4))) (.cons (s_load1 (cs := (Cur.av x).cells) (c := I (x.h2)) 1 tyS3 (.tmp 36 (.ptr (σ1 3) 5)) rfl) (.cons (s_indexAddrA arr164 (.tmp 8 (.ptr (σ6 0) 0)) (.tmp 33 (I 2)) (by decide) (by decide)) (.cons (s_store (cs := [I (pk x.l0 x.h0 (bitN k 0)), I (pk x.l1 x.h1 (bitN k 1)), I (x.l2)]) 2 sz3 (.tmp 38 (.ptr (σ6 0) 2)) (.tmp 37 (I (x.h2))) rfl rfl rfl (Nat.le_of_ble_eq_true rfl)) .nil))))))) ?_)
      refine blockQ_n ?_
      exact thenQ_n ⟨_, ⟨(by trivial), rfl⟩, Weak.of [] (by kernel_rfl) (by first | (rw [show bitN k 2 = 1 from bit_iff.1 (by assumption)]; rfl) | (rw [show bitN k 2 = 0 from bit_no (fun h => absurd (bit_iff.2 h) (by assumption))]; rfl))⟩
     ·have q7 := iF iD hc
      refine AC.skip ?_
      refine blockQ_n ?_
      exact thenQ_n ⟨_, ⟨(by trivial), rfl⟩, Weak.of [] (by kernel_rfl) (by first | (rw [show bitN k 2 = 1 from bit_iff.1 (by assumption)]; rfl) | (rw [show bitN k 2 = 0 from bit_no (fun h => absurd (bit_iff.2 h) (by assumption))]; rfl))⟩
    ·rintro _ ⟨-, rfl⟩
     refine AC.re (fun σ9 => RegOK.m1 [5, 6, 7, 8, 9] ⟨[(5, .ptr (σ1 3) 0), (6, I m), (7, I (k : Int)), (8, .ptr (σ6 0) 0), (9, I 3)], (.box (σ0 0) (fc f)) :: (.box (σ1 3) (Cur.av x).cells) :: (.box (σ6 0) [I (pk x.l0 x.h0 (bitN k 0)), I (pk x.l1 x.h1 (bitN k 1)), I (pk x.l2 x.h2 (bitN k 2))]) :: mem⟩ (.cons (s_move (.tmp 9 (I 2))) (.cons (s_add (.tmp 19 (I 2)) (.int .i64 (1)) (inK_i64 (by decide))) (.cons (s_assign (.tmp 20 (I 3))) .nil))) ?_)
     refine thenQ_n (ACL.turn ?_)
     refine AC.seq ?_
     refine AC.rq (fun σ8 => RegOK.m1 [5, 6, 7, 8, 9, 18] ⟨[(5, .ptr (σ1 3) 0), (6, I m), (7, I (k : Int)), (8, .ptr (σ6 0) 0), (9, I 3), (18, .bool (decide ((3 : Int) < 3)))], (.box (σ0 0) (fc f)) :: (.box (σ1 3) (Cur.av x).cells) :: (.box (σ6 0) [I (pk x.l0 x.h0 (bitN k 0)), I (pk x.l1 x.h1 (bitN k 1)), I (pk x.l2 x.h2 (bitN k 2))]) :: mem⟩ (.cons (s_move (.tmp 9 (I 3))) (.cons (s_lss (.tmp 17 (I 3)) (.int .i64 (3))) .nil)) ?_)
     refine AC.cend (decide ((3 : Int) < 3)) rfl rfl (fun hc => absurd hc (by simp)) (fun hc => ?_)
     refine AC.exit ?_
     refine thenQ_x ?_
     refine thenQ_x ?_
     refine blockQ_x ?_
     refine thenQ_n ?_
     have p0 := pk_in (bitN k 0) (show 0 ≤ x.l0 ∧ x.l0 ≤ 40000000 by omega) (show 0 ≤ x.h0 ∧ x.h0 ≤ 40000000 by omega)
     have p1 := pk_in (bitN k 1) (show 0 ≤ x.l1 ∧ x.l1 ≤ 40000000 by omega) (show 0 ≤ x.h1 ∧ x.h1 ≤ 40000000 by omega)
     have p2 := pk_in (bitN k 2) (show 0 ≤ x.l2 ∧ x.l2 ≤ 40000000 by omega) (show 0 ≤ x.h2 ∧ x.h2 ≤ 40000000 by omega)
     have m0 := mulN 40000000 40000000 (a := pk x.l0 x.h0 (bitN k 0)) (b := pk x.l0 x.h0 (bitN k 0)) p0 p0
     have m1 := mulN 40000000 40000000 (a := pk x.l1 x.h1 (bitN k 1)) (b := pk x.l1 x.h1 (bitN k 1)) p1 p1
     have m2 := mulN 40000000 40000000 (a := pk x.l2 x.h2 (bitN k 2)) (b := pk x.l2 x.h2 (bitN k 2)) p2 p2
     have m3 := mulN 40000000 40000000 (a := pk x.l0 x.h0 (bitN k 0)) (b := pk x.l1 x.h1 (bitN k 1)) p0 p1
     have m4 := mulN 40000000 40000000 (a := pk x.l1 x.h1 (bitN k 1)) (b := pk x.l2 x.h2 (bitN k 2)) p1 p2
     have m5 := mulN 40000000 40000000 (a := pk x.l2 x.h2 (bitN k 2)) (b := pk x.l0 x.h0 (bitN k 0)) p2 p0
     have hQ := nq_bound hx (i := bitN k 0) (j := bitN k 1) (k := bitN k 2)
     unfold nq at hQ
     generalize hga : (pk x.l0 x.h0 (bitN k 0)) = a at *
     generalize hgb : (pk x.l1 x.h1 (bitN k 1)) = b at *
     generalize hgd : (pk x.l2 x.h2 (bitN k 2)) = d at *
     refine AC.re (fun σ13 => RegOK.m1 [5, 6, 7] ⟨[(5, .ptr (σ1 3) 0), (6, I (max m ((((((a * a) + (b * b)) + (d * d)) - (a * b)) - (b * d)) - (d * a)))), (7, I (k : Int))], (.box (σ0 0) (fc f)) :: (.box (σ1 3) (Cur.av x).cells) :: (.box (σ6 0) [I a, I b, I d]) :: mem⟩ (.cons (s_move (.tmp 6 (I m))) (.cons (s_indexAddrA arr164 (.tmp 8 (.ptr (σ6 0) 0)) (.int .i64 (0)) (by decide) (by decide)) (.cons (s_load1 (cs := [I a, I b, I d]) (c := I a) 2 tyS3 (.tmp 40 (.ptr (σ6 0) 0)) rfl) (.cons (s_indexAddrA arr164 (.tmp 8 (.ptr (σ6 0) 0)) (.int .i64 (0)) (by decide) (by decide)) (.cons (s_load1 (cs := [I a, I b, I d]) (c := I a) 2 tyS3 (.tmp 42 (.ptr (σ6 0) 0)) rfl) (.cons (s_mul (.tmp 41 (I a)) (.tmp 43 (I a)) (inK_i64 (by omega))) (.cons (s_indexAddrA arr164 (.tmp 8 (.ptr (σ6 0) 0)) (.int .i64 (1)) (by decide) (by decide)) (.cons (s_load1 (cs := [I a, I b, I d]) (c := I b) 2 tyS3 (.tmp 45 (.ptr (σ6 0) 1)) rfl) (.cons (s_indexAddrA arr164 (.tmp 8 (.ptr (σ6 0) 0)) (.int .i64 (1)) (by decide) (by decide)) (.cons (s_load1 (cs := [I a, I b, I d]) (c := I b) 2 tyS3 (.tmp 47 (.ptr (σ6 0) 1)) rfl) (.cons (s_mul (.tmp 46 (I b)) (.tmp 48 (I b)) (inK_i64 (by omega))) (.cons (s_add (.tmp 44 (I (a * a))) (.tmp 49 (I (b * b))) (inK_i64 (by omega))) (.cons (s_indexAddrA arr164 (.tmp 8 (.ptr (σ6 0) 0)) (.int .i64 (2)) (by decide) (by decide)) (.cons (s_load1 (cs := [I a, I b, I d]) (c := I d) 2 tyS3 (.tmp 51 (.ptr (σ6 0) 2)) rfl) (.cons (s_indexAddrA arr164 (.tmp 8 (.ptr (σ6 0) 0)) (.int .i64 (2)) (by decide) (by decide)) (.cons (s_load1 (cs := [I a, I b, I d]) (c := I d) 2 tyS3 (.tmp 53 (.ptr (σ6 0) 2)) rfl) (.cons (s_mul (.tmp 52 (I d)) (.tmp 54 (I d)) (inK_i64 (by omega))) (.cons (s_add (.tmp 50 (I ((a * a) + (b * b)))) (.tmp 55 (I (d * d))) (inK_i64 (by omega))) (.cons (s_indexAddrA arr164 (.tmp 8 (.ptr (σ6 0) 0)) (.int .i64 (0)) (by decide) (by decide)) (.cons (s_load1 (cs := [I a, I b, I d]) (c := I a) 2 tyS3 (.tmp 57 (.ptr (σ6 0) 0)) rfl) (.cons (s_indexAddrA arr164 (.tmp 8 (.ptr (σ6 0) 0)) (.int .i64 (1)) (by decide) (by decide)) (.cons (s_load1 (cs := [I a, I b, I d]) (c := I b) 2 tyS3 (.tmp 59 (.ptr (σ6 0) 1)) rfl) (.cons (s_mul (.tmp 58 (I a)) (.tmp 60 (I b)) (inK_i64 (by omega))) (.cons (s_sub (.tmp 56 (I (((a * a) + (b * b)) + (d * d)))) (.tmp 61 (I (a * b))) (inK_i64 (by omega))) (.cons (s_indexAddrA arr164 (.tmp 8 (.ptr (σ6 0) 0)) (.int .i64 (1)) (by decide) (by decide)) (.cons (s_load1 (cs := [I a, I b, I d]) (c := I b) 2 tyS3 (.tmp 63 (.ptr (σ6 0) 1)) rfl) (.cons (s_indexAddrA arr164 (.tmp 8 (.ptr (σ6 0) 0)) (.int .i64 (2)) (by decide) (by decide)) (.cons (s_load1 (cs := [I a, I b, I d]) (c := I d) 2 tyS3 (.tmp 65 (.ptr (σ6 0) 2)) rfl) (.cons (s_mul (.tmp 64 (I b)) (.tmp 66 (I d)) (inK_i64 (by omega))) (.cons (s_sub (.tmp 62 (I ((((a * a) + (b * b)) + (d * d)) - (a * b)))) (.tmp 67 (I (b * d))) (inK_i64 (by omega))) (.cons (s_indexAddrA arr164 (.tmp 8 (.ptr (σ6 0) 0)) (.int .i64 (2)) (by decide) (by decide)) (.cons (s_load1 (cs := [I a, I b, I d]) (c := I d) 2 tyS3 (.tmp 69 (.ptr (σ6 0) 2)) rfl) (.cons (s_indexAddrA arr164 (.tmp 8 (.ptr (σ6 0) 0)) (.int .i64 (0)) (by decide) (by decide)) (.cons (s_load1 (cs := [I a, I b, I d]) (c := I a) 2 tyS3 (.tmp 71 (.ptr (σ6 0) 0)) rfl) (.cons (s_mul (.tmp 70 (I d)) (.tmp 72 (I a)) (inK_i64 (by omega))) (.cons (s_sub (.tmp 68 (I (((((a * a) + (b * b)) + (d * d)) - (a * b)) - (b * d)))) (.tmp 73 (I (d * a))) (inK_i64 (by omega))) (.cons (s_maxF (x := m) (l := [((((((a * a) + (b * b)) + (d * d)) - (a * b)) - (b * d)) - (d * a))]) (.cons (.tmp 39 (I m)) (.cons (.tmp 74 (I ((((((a * a) + (b * b)) + (d * d)) - (a * b)) - (b * d)) - (d * a)))) .nil))) (.cons (s_assign (.tmp 75 (I (max m ((((((a * a) + (b * b)) + (d * d)) - (a * b)) - (b * d)) - (d * a)))))) .nil)))))))))))))))))))))))))))))))))))))) ?_)
     refine blockQ_n ?_
     refine thenQ_n ?_
     refine AC.re (fun σ5 => RegOK.m1 [5, 6, 7] ⟨[(5, .ptr (σ1 3) 0), (6, I (max m ((((((a * a) + (b * b)) + (d * d)) - (a * b)) - (b * d)) - (d * a)))), (7, I ((k : Int) + 1))], (.box (σ0 0) (fc f)) :: (.box (σ1 3) (Cur.av x).cells) :: (.box (σ6 0) [I a, I b, I d]) :: mem⟩ (.cons (s_move (.tmp 7 (I (k : Int)))) (.cons (s_add (.tmp 15 (I (k : Int))) (.int .i64 (1)) (inK_i64 (by omega))) (.cons (s_assign (.tmp 16 (I ((k : Int) + 1)))) .nil))) ?_)
     refine thenQ_n ⟨_, ?_, _, ⟨(k + 1), (max m ((((((a * a) + (b * b)) + (d * d)) - (a * b)) - (b * d)) - (d * a))), rfl, ⟨(by omega), (by subst hga hgb hgd; rw [hm]; rfl)⟩, rfl⟩, Weak.of [2] (by kernel_rfl) (by kernel_rfl)⟩
     omega
 ·have q8 := iF iD hc
  refine AC.exit ?_
  refine thenQ_x ?_
  refine thenQ_x ?_
  refine blockQ_x ?_
  refine thenQ_n ?_
  refine AC.rq (fun σ14 => RegOK.m1 [4] ⟨[(4, I (rup m))], (.box (σ0 0) (fc f)) :: (.box (σ1 3) (Cur.av x).cells) :: .hole :: mem⟩ (.cons (s_move (.tmp 6 (I m))) (.cons (s_call (r := I (rup m)) (.func 119) (.cons (.tmp 76 (I m)) .nil) call119 (F119 (m) (by omega))) (.cons (s_assign (.tmp 77 (I (rup m)))) .nil))) ?_)
  refine AC.ret ?_
  exact FinQ.ret (result1 rfl (res_tmp (v := I (rup m)) rfl rfl)) ⟨by (have e : k = 8 := by omega); subst e; rw [hm, itR_eq]; rfl, rfl⟩
end Go.Proofs.Ytahdgadjpkcnjaa
end
section
set_option maxRecDepth 100000
namespace Go.Proofs.Ytahdgadjpkcnjaa
open Go.Proofs
theorem F38 (f : Feeder) (c : Int) (hok : f.ok) : Pure Try.prog 38 [Feeder.av f, I c] (.tuple [.slice (((pathRes f c).1).map I) none, I ((pathRes f c).2)]) := by
 intro mem
 refine Meets.body 1 Try.func38 rfl rfl ?_
 refine AC.rq (fun σ0 => RegOK.m1 [1, 2] ⟨[(1, I c), (2, .ptr (σ0 0) 0)], (.box (σ0 0) (fc f)) :: mem⟩ (.cons (s_box 0 (σ0 0) (.tmp 0 (Feeder.av f)) rfl) (.cons (s_assign .nils) (.cons (s_assign (.int .i64 (0))) .nil))) ?_)
 refine AC.rq (fun σ1 => RegOK.m1 [1, 2, 6] ⟨[(1, I c), (2, .ptr (σ0 0) 0), (6, I (askedOf f c))], (.box (σ0 0) (fc f)) :: mem⟩ (.cons (s_loadA (cs := (fc f)) (l := (fc f)) 0 tyA28 (.tmp 2 (.ptr (σ0 0) 0)) rfl rfl) (.cons (s_move (.tmp 1 (I c))) (.cons (s_call (r := I (askedOf f c)) (.func 79) (.cons (.tmp 7 (Feeder.av f)) (.cons (.tmp 8 (I c)) (.cons (.bool false) .nil))) call79 (F79f f (c) (by exact hok))) (.cons (s_assign (.tmp 9 (I (askedOf f c)))) .nil)))) ?_)
 refine AC.seq ?_
 refine AC.rq (fun σ2 => RegOK.m1 [1, 2, 6, 11] ⟨[(1, I c), (2, .ptr (σ0 0) 0), (6, I (askedOf f c)), (11, .bool (decide ((askedOf f c) ≠ 0)))], (.box (σ0 0) (fc f)) :: mem⟩ (.cons (s_move (.tmp 6 (I (askedOf f c)))) (.cons (s_neq (.tmp 10 (I (askedOf f c))) (.int .i64 (0))) .nil)) ?_)
 refine AC.cend (decide ((askedOf f c) ≠ 0)) rfl rfl (fun hc => ?_) (fun hc => ?_)
 ·have q1 := iD.1 hc
  refine AC.rq (fun σ3 => RegOK.m1 [4, 5] ⟨[(4, .nils), (5, I (askedOf f c))], (.box (σ0 0) (fc f)) :: mem⟩ (.cons (s_move (.tmp 6 (I (askedOf f c)))) (.cons (s_assign .nils) (.cons (s_assign (.tmp 12 (I (askedOf f c)))) .nil))) ?_)
  refine AC.ret ?_
  refine thenQ_r ?_
  exact FinQ.ret (result2 rfl (res_nils (res_tmp (v := .nils) rfl rfl)) (res_tmp (v := I (askedOf f c)) rfl rfl)) ⟨by unfold pathRes; first | (rw [if_pos (by omega)]; rfl) | (rw [if_neg (by omega)]; rfl), rfl⟩
 ·have q2 := iF iD hc
  have hz := asked_zero (f := f) (c := c) (by omega)
  obtain ⟨n, hcn⟩ : ∃ n : Nat, c = (n : Int) := ⟨c.toNat, by omega⟩
  subst hcn
  have g := FG.of hz.1
  refine AC.skip ?_
  refine thenQ_n ?_
  refine AC.rq (fun σ4 => RegOK.m1 [4, 5] ⟨[(4, .slice (((pathI f.nodes n)).map I) none), (5, I 0)], (.box (σ0 0) (fc f)) :: mem⟩ (.cons (s_loadA (cs := (fc f)) (l := (fc f)) 0 tyA28 (.tmp 2 (.ptr (σ0 0) 0)) rfl rfl) (.cons (s_move (.tmp 1 (I (n : Int)))) (.cons (s_call (r := .slice (((pathI f.nodes n)).map I) none) (.func 90) (.cons (.tmp 13 (Feeder.av f)) (.cons (.tmp 14 (I (n : Int))) .nil)) call90 (F90 (f) (n) (by assumption) (by omega))) (.cons (s_assign (.tmp 15 (.slice (((pathI f.nodes n)).map I) none))) (.cons (s_assign (.int .i64 (0))) .nil))))) ?_)
  refine AC.ret ?_
  exact FinQ.ret (result2 rfl (res_tmp (v := .slice (((pathI f.nodes n)).map I) none) rfl rfl) (res_tmp (v := I 0) rfl rfl)) ⟨by unfold pathRes; first | (rw [if_pos (by omega)]; rfl) | (rw [if_neg (by omega)]; rfl), rfl⟩
theorem F40 (f : Feeder) (c : Int) (hok : f.ok) : Pure Try.prog 40 [Feeder.av f, I c] (.tuple [Cur.av (curRes f c).1, I ((curRes f c).2)]) := by
 intro mem
 refine Meets.body 2 Try.func40 rfl rfl ?_
 refine AC.rq (fun σ0 => RegOK.m1 [1, 2, 4] ⟨[(1, I c), (2, .ptr (σ0 0) 0), (4, .ptr (σ0 1) 0)], (.box (σ0 0) (fc f)) :: (.box (σ0 1) [I 0, I 0, I 0, I 0, I 0, I 0]) :: mem⟩ (.cons (s_box 0 (σ0 0) (.tmp 0 (Feeder.av f)) rfl) (.cons (s_alloc 1 (σ0 1) zero45) (.cons (s_assign (.int .i64 (0))) .nil))) ?_)
 refine AC.rq (fun σ1 => RegOK.m1 [1, 2, 4, 6] ⟨[(1, I c), (2, .ptr (σ0 0) 0), (4, .ptr (σ0 1) 0), (6, I (innerOf f c))], (.box (σ0 0) (fc f)) :: (.box (σ0 1) [I 0, I 0, I 0, I 0, I 0, I 0]) :: mem⟩ (.cons (s_loadA (cs := (fc f)) (l := (fc f)) 0 tyA28 (.tmp 2 (.ptr (σ0 0) 0)) rfl rfl) (.cons (s_move (.tmp 1 (I c))) (.cons (s_call (r := I (innerOf f c)) (.func 79) (.cons (.tmp 7 (Feeder.av f)) (.cons (.tmp 8 (I c)) (.cons (.bool true) .nil))) call79 (F79t f (c) (by exact hok))) (.cons (s_assign (.tmp 9 (I (innerOf f c)))) .nil)))) ?_)
 refine AC.seq ?_
 refine AC.rq (fun σ2 => RegOK.m1 [1, 2, 4, 6, 11] ⟨[(1, I c), (2, .ptr (σ0 0) 0), (4, .ptr (σ0 1) 0), (6, I (innerOf f c)), (11, .bool (decide ((innerOf f c) ≠ 0)))], (.box (σ0 0) (fc f)) :: (.box (σ0 1) [I 0, I 0, I 0, I 0, I 0, I 0]) :: mem⟩ (.cons (s_move (.tmp 6 (I (innerOf f c)))) (.cons (s_neq (.tmp 10 (I (innerOf f c))) (.int .i64 (0))) .nil)) ?_)
 refine AC.cend (decide ((innerOf f c) ≠ 0)) rfl rfl (fun hc => ?_) (fun hc => ?_)
 ·have q1 := iD.1 hc
  refine AC.rq (fun σ3 => RegOK.m1 [4, 5] ⟨[(4, .ptr (σ0 1) 0), (5, I (innerOf f c))], (.box (σ0 0) (fc f)) :: (.box (σ0 1) [I 0, I 0, I 0, I 0, I 0, I 0]) :: mem⟩ (.cons (s_buildArr (l := [I 0, I 0, I 0, I 0, I 0, I 0]) zero45 arr45 .nil rfl) (.cons (s_move (.tmp 6 (I (innerOf f c)))) (.cons (s_store (cs := [I 0, I 0, I 0, I 0, I 0, I 0]) 1 sz45 (.tmp 4 (.ptr (σ0 1) 0)) (.tmp 12 (.agg [I 0, I 0, I 0, I 0, I 0, I 0])) rfl rfl rfl (Nat.le_of_ble_eq_true rfl)) (.cons (s_assign (.tmp 13 (I (innerOf f c)))) .nil)))) ?_)
  refine AC.ret ?_
  refine thenQ_r ?_
  exact FinQ.ret (result2 rfl (res_cell (s := (σ0 1)) (cs := [I 0, I 0, I 0, I 0, I 0, I 0]) (l := [I 0, I 0, I 0, I 0, I 0, I 0]) 1 rfl rfl rfl tyA45 rfl rfl) (res_tmp (v := I (innerOf f c)) rfl rfl)) ⟨by unfold curRes; first | rw [if_pos (by omega)] | (rw [if_neg (by omega)]; first | rw [if_pos (by omega)] | (rw [if_neg (by omega)]; rfl) | rfl), rfl⟩
 ·have q2 := iF iD hc
  have hz := inner_zero (f := f) (c := c) (by omega)
  obtain ⟨n, hcn⟩ : ∃ n : Nat, c = (n : Int) := ⟨c.toNat, by omega⟩
  subst hcn
  have g := FG.of hz.1
  refine AC.skip ?_
  refine thenQ_n ?_
  refine AC.rq (fun σ4 => RegOK.m1 [4, 5] ⟨[(4, .ptr (σ0 1) 0), (5, I 0)], (.box (σ0 0) (fc f)) :: (.box (σ0 1) (Cur.av (cur f n)).cells) :: mem⟩ (.cons (s_loadA (cs := (fc f)) (l := (fc f)) 0 tyA28 (.tmp 2 (.ptr (σ0 0) 0)) rfl rfl) (.cons (s_move (.tmp 1 (I (n : Int)))) (.cons (s_call (r := Cur.av (cur f n)) (.func 82) (.cons (.tmp 14 (Feeder.av f)) (.cons (.tmp 15 (I (n : Int))) .nil)) call82 (F82 (f) (n) (by assumption) (by omega) (by omega))) (.cons (s_store (cs := [I 0, I 0, I 0, I 0, I 0, I 0]) 1 sz45 (.tmp 4 (.ptr (σ0 1) 0)) (.tmp 16 (Cur.av (cur f n))) rfl rfl rfl (Nat.le_of_ble_eq_true rfl)) (.cons (s_assign (.int .i64 (0))) .nil))))) ?_)
  refine AC.ret ?_
  exact FinQ.ret (result2 rfl (res_cell (s := (σ0 1)) (cs := (Cur.av (cur f n)).cells) (l := (Cur.av (cur f n)).cells) 1 rfl rfl rfl tyA45 rfl rfl) (res_tmp (v := I 0) rfl rfl)) ⟨by unfold curRes; first | rw [if_pos (by omega)] | (rw [if_neg (by omega)]; first | rw [if_pos (by omega)] | (rw [if_neg (by omega)]; rfl) | rfl), rfl⟩
theorem F41 (f : Feeder) (c : Int) (hok : f.ok) : Pure Try.prog 41 [Feeder.av f, I c] (.tuple [I ((neutRes f c).1), I ((neutRes f c).2)]) := by
 intro mem
 refine Meets.body 1 Try.func41 rfl rfl ?_
 refine AC.rq (fun σ0 => RegOK.m1 [1, 2] ⟨[(1, I c), (2, .ptr (σ0 0) 0)], (.box (σ0 0) (fc f)) :: mem⟩ (.cons (s_box 0 (σ0 0) (.tmp 0 (Feeder.av f)) rfl) (.cons (s_assign (.int .i64 (0))) (.cons (s_assign (.int .i64 (0))) .nil))) ?_)
 refine AC.rq (fun σ1 => RegOK.m1 [1, 2, 6] ⟨[(1, I c), (2, .ptr (σ0 0) 0), (6, I (innerOf f c))], (.box (σ0 0) (fc f)) :: mem⟩ (.cons (s_loadA (cs := (fc f)) (l := (fc f)) 0 tyA28 (.tmp 2 (.ptr (σ0 0) 0)) rfl rfl) (.cons (s_move (.tmp 1 (I c))) (.cons (s_call (r := I (innerOf f c)) (.func 79) (.cons (.tmp 7 (Feeder.av f)) (.cons (.tmp 8 (I c)) (.cons (.bool true) .nil))) call79 (F79t f (c) (by exact hok))) (.cons (s_assign (.tmp 9 (I (innerOf f c)))) .nil)))) ?_)
 refine AC.seq ?_
 refine AC.rq (fun σ2 => RegOK.m1 [1, 2, 6, 11] ⟨[(1, I c), (2, .ptr (σ0 0) 0), (6, I (innerOf f c)), (11, .bool (decide ((innerOf f c) ≠ 0)))], (.box (σ0 0) (fc f)) :: mem⟩ (.cons (s_move (.tmp 6 (I (innerOf f c)))) (.cons (s_neq (.tmp 10 (I (innerOf f c))) (.int .i64 (0))) .nil)) ?_)
 refine AC.cend (decide ((innerOf f c) ≠ 0)) rfl rfl (fun hc => ?_) (fun hc => ?_)
 ·have q1 := iD.1 hc
  refine AC.rq (fun σ3 => RegOK.m1 [4, 5] ⟨[(4, I 0), (5, I (innerOf f c))], (.box (σ0 0) (fc f)) :: mem⟩ (.cons (s_move (.tmp 6 (I (innerOf f c)))) (.cons (s_assign (.int .i64 (0))) (.cons (s_assign (.tmp 12 (I (innerOf f c)))) .nil))) ?_)
  refine AC.ret ?_
  refine thenQ_r ?_
  exact FinQ.ret (result2 rfl (res_tmp (v := I 0) rfl rfl) (res_tmp (v := I (innerOf f c)) rfl rfl)) ⟨by unfold neutRes; first | rw [if_pos (by omega)] | (rw [if_neg (by omega)]; first | rw [if_pos (by omega)] | (rw [if_neg (by omega)]; rfl) | rfl), rfl⟩
 ·have q2 := iF iD hc
  have hz := inner_zero (f := f) (c := c) (by omega)
  obtain ⟨n, hcn⟩ : ∃ n : Nat, c = (n : Int) := ⟨c.toNat, by omega⟩
  subst hcn
  have g := FG.of hz.1
  refine AC.skip ?_
  refine thenQ_n ?_
  refine AC.rq (fun σ4 => RegOK.m1 [4, 5] ⟨[(4, I (neut (cur f n))), (5, I 0)], (.box (σ0 0) (fc f)) :: mem⟩ (.cons (s_loadA (cs := (fc f)) (l := (fc f)) 0 tyA28 (.tmp 2 (.ptr (σ0 0) 0)) rfl rfl) (.cons (s_move (.tmp 1 (I (n : Int)))) (.cons (s_call (r := I (neut (cur f n))) (.func 91) (.cons (.tmp 13 (Feeder.av f)) (.cons (.tmp 14 (I (n : Int))) .nil)) call91 (F91 (f) (n) (by assumption) (by omega) (by omega))) (.cons (s_assign (.tmp 15 (I (neut (cur f n))))) (.cons (s_assign (.int .i64 (0))) .nil))))) ?_)
  refine AC.ret ?_
  exact FinQ.ret (result2 rfl (res_tmp (v := I (neut (cur f n))) rfl rfl) (res_tmp (v := I 0) rfl rfl)) ⟨by unfold neutRes; first | rw [if_pos (by omega)] | (rw [if_neg (by omega)]; first | rw [if_pos (by omega)] | (rw [if_neg (by omega)]; rfl) | rfl), rfl⟩
theorem F39 (l m : List Int) (hl : (l.length : Int) ≤ 9223372036854775807) (hm : (m.length : Int) ≤ 9223372036854775807) : Pure Try.prog 39 [.slice ((l).map I) none, .slice ((m).map I) none] (.bool (decide (l = m))) := by
 intro mem
 refine Meets.body 0 Try.func39 rfl rfl ?_
 refine AC.rq (fun σ0 => RegOK.m1 [0, 1] ⟨[(0, .slice ((l).map I) none), (1, .slice ((m).map I) none)], mem⟩ (.cons (s_assign (.bool false)) .nil) ?_)
 refine AC.seq ?_
 refine AC.rq (fun σ1 => RegOK.m1 [0, 1, 10] ⟨[(0, .slice ((l).map I) none), (1, .slice ((m).map I) none), (10, .bool (decide ((l.length : Int) ≠ (m.length : Int))))], mem⟩ (.cons (s_move (.tmp 0 (.slice ((l).map I) none))) (.cons (s_lenM (l := l) slc48 (.tmp 6 (.slice ((l).map I) none))) (.cons (s_move (.tmp 1 (.slice ((m).map I) none))) (.cons (s_lenM (l := m) slc48 (.tmp 8 (.slice ((m).map I) none))) (.cons (s_neq (.tmp 7 (I (l.length : Int))) (.tmp 9 (I (m.length : Int)))) .nil))))) ?_)
 refine AC.cend (decide ((l.length : Int) ≠ (m.length : Int))) rfl rfl (fun hc => ?_) (fun hc => ?_)
 ·have q1 := iD.1 hc
  refine AC.rq (fun σ2 => RegOK.m1 [4] ⟨[(4, .bool (false))], mem⟩ (.cons (s_assign (.bool false)) .nil) ?_)
  refine AC.ret ?_
  refine thenQ_r ?_
  exact FinQ.ret (result1 rfl (res_tmp (v := .bool (false)) rfl rfl)) ⟨by refine congrArg AV.bool ?_; symm; first | exact decide_eq_false (fun h => by subst h; omega) | exact decide_eq_true (ints_all (by omega) (fun j hj => hn j (by omega))), rfl⟩
 ·have q2 := iF iD hc
  refine AC.skip ?_
  refine thenQ_n ?_
  refine AC.seq ?_
  refine AC.rq (fun σ3 => RegOK.m1 [0, 1, 5] ⟨[(0, .slice ((l).map I) none), (1, .slice ((m).map I) none), (5, I 0)], mem⟩ (.cons (s_assign (.int .i64 (0))) .nil) ?_)
  refine AC.block ?_
  refine AC.loopW (fun mz T => ∃ (k : Nat), mz = l.length - k ∧ ((k ≤ l.length) ∧ (∀ j : Nat, j < k → l.getD j 0 = m.getD j 0)) ∧ T = ⟨[(0, .slice ((l).map I) none), (1, .slice ((m).map I) none), (5, I (k : Int))], mem⟩) _ ⟨[(0, .slice ((l).map I) none), (1, .slice ((m).map I) none), (5, I ((0) : Int))], mem⟩ ⟨0, rfl, ⟨(by omega), (by intro j hj; omega)⟩, rfl⟩ (Weak.of [] (by kernel_rfl) (by kernel_rfl)) ?_ Fr.plain
  rintro _ _ ⟨k, rfl, ⟨hk, hn⟩, rfl⟩
  refine AC.seq ?_
  refine AC.rq (fun σ4 => RegOK.m1 [0, 1, 5, 14] ⟨[(0, .slice ((l).map I) none), (1, .slice ((m).map I) none), (5, I (k : Int)), (14, .bool (decide ((k : Int) < (l.length : Int))))], mem⟩ (.cons (s_move (.tmp 5 (I (k : Int)))) (.cons (s_move (.tmp 0 (.slice ((l).map I) none))) (.cons (s_lenM (l := l) slc48 (.tmp 12 (.slice ((l).map I) none))) (.cons (s_lss (.tmp 11 (I (k : Int))) (.tmp 13 (I (l.length : Int)))) .nil)))) ?_)
  refine AC.cend (decide ((k : Int) < (l.length : Int))) rfl rfl (fun hc => ?_) (fun hc => ?_)
  ·have q3 := iD.1 hc
   refine AC.skip ?_
   refine thenQ_n ?_
   refine AC.bseq ?_
   refine AC.rq (fun σ6 => RegOK.m1 [0, 1, 5, 25] ⟨[(0, .slice ((l).map I) none), (1, .slice ((m).map I) none), (5, I (k : Int)), (25, .bool (decide ((l.getD k 0) ≠ (m.getD k 0))))], mem⟩ (.cons (s_move (.tmp 0 (.slice ((l).map I) none))) (.cons (s_move (.tmp 5 (I (k : Int)))) (.cons (s_ixM (l := l) (f := I) (0) slc48 (.tmp 17 (.slice ((l).map I) none)) (.tmp 18 (I (k : Int))) (by omega) rfl) (.cons (s_load1e (c := I (l.getD k 0)) tyS3 (.tmp 19 (.eptr (I (l.getD k 0)) 0)) rfl) (.cons (s_move (.tmp 1 (.slice ((m).map I) none))) (.cons (s_move (.tmp 5 (I (k : Int)))) (.cons (s_ixM (l := m) (f := I) (0) slc48 (.tmp 21 (.slice ((m).map I) none)) (.tmp 22 (I (k : Int))) (by omega) rfl) (.cons (s_load1e (c := I (m.getD k 0)) tyS3 (.tmp 23 (.eptr (I (m.getD k 0)) 0)) rfl) (.cons (s_neq (.tmp 20 (I (l.getD k 0))) (.tmp 24 (I (m.getD k 0)))) .nil))))))))) ?_)
   refine AC.cend (decide ((l.getD k 0) ≠ (m.getD k 0))) rfl rfl (fun hc => ?_) (fun hc => ?_)
   ·have q4 := iD.1 hc
    refine AC.rq (fun σ7 => RegOK.m1 [4] ⟨[(4, .bool (false))], mem⟩ (.cons (s_assign (.bool false)) .nil) ?_)
    refine AC.ret ?_
    refine blockQ_r ?_
    refine thenQ_r ?_
    refine thenQ_r ?_
    refine blockQ_r ?_
    refine thenQ_r ?_
    exact FinQ.ret (result1 rfl (res_tmp (v := .bool (false)) rfl rfl)) ⟨by refine congrArg AV.bool ?_; symm; first | exact decide_eq_false (fun h => by subst h; omega) | exact decide_eq_true (ints_all (by omega) (fun j hj => hn j (by omega))), rfl⟩
   ·have q5 := iF iD hc
    refine AC.skip ?_
    refine blockQ_n ?_
    refine thenQ_n ?_
    refine AC.re (fun σ5 => RegOK.m1 [0, 1, 5] ⟨[(0, .slice ((l).map I) none), (1, .slice ((m).map I) none), (5, I ((k : Int) + 1))], mem⟩ (.cons (s_move (.tmp 5 (I (k : Int)))) (.cons (s_add (.tmp 15 (I (k : Int))) (.int .i64 (1)) (inK_i64 (by omega))) (.cons (s_assign (.tmp 16 (I ((k : Int) + 1)))) .nil))) ?_)
    refine thenQ_n ⟨_, ?_, _, ⟨(k + 1), rfl, ⟨(by omega), (by intro j hj; rcases Decidable.em (j = k) with e | e; (subst e; omega); exact hn j (by omega))⟩, rfl⟩, Weak.of [] (by kernel_rfl) (by kernel_rfl)⟩
    omega
  ·have q6 := iF iD hc
   refine AC.exit ?_
   refine thenQ_x ?_
   refine thenQ_x ?_
   refine blockQ_x ?_
   refine thenQ_n ?_
   refine AC.rq (fun σ8 => RegOK.m1 [4] ⟨[(4, .bool (true))], mem⟩ (.cons (s_assign (.bool true)) .nil) ?_)
   refine AC.ret ?_
   exact FinQ.ret (result1 rfl (res_tmp (v := .bool (true)) rfl rfl)) ⟨by refine congrArg AV.bool ?_; symm; first | exact decide_eq_false (fun h => by subst h; omega) | exact decide_eq_true (ints_all (by omega) (fun j hj => hn j (by omega))), rfl⟩
end Go.Proofs.Ytahdgadjpkcnjaa
end
section
set_option maxRecDepth 100000
namespace Go.Proofs.Ytahdgadjpkcnjaa
open Go.Proofs
theorem F14 (f : Feeder) (c : Int) (hok : f.ok) : Pure Try.prog 14 [Feeder.av f, I c] (.bool true) := by
 intro mem
 have pl := pathRes_len f c
 refine Meets.body 3 Try.func14 rfl rfl ?_
 refine AC.rq (fun σ0 => RegOK.m1 [1, 2] ⟨[(1, I c), (2, .ptr (σ0 0) 0)], (.box (σ0 0) (fc f)) :: .hole :: .hole :: mem⟩ (.cons (s_box 0 (σ0 0) (.tmp 0 (Feeder.av f)) rfl) (.cons (s_assign (.bool false)) .nil)) ?_)
 refine AC.rq (fun σ1 => RegOK.m1 [1, 2, 5, 6] ⟨[(1, I c), (2, .ptr (σ0 0) 0), (5, .slice (((pathRes f c).1).map I) none), (6, I ((pathRes f c).2))], (.box (σ0 0) (fc f)) :: .hole :: .hole :: mem⟩ (.cons (s_loadA (cs := (fc f)) (l := (fc f)) 0 tyA28 (.tmp 2 (.ptr (σ0 0) 0)) rfl rfl) (.cons (s_move (.tmp 1 (I c))) (.cons (s_call (r := .tuple [.slice (((pathRes f c).1).map I) none, I ((pathRes f c).2)]) (.func 21) (.cons (.tmp 14 (Feeder.av f)) (.cons (.tmp 15 (I c)) .nil)) call21 (F21 (f) (c) (by exact hok))) (.cons (s_move (.tmp 16 (.tuple [.slice (((pathRes f c).1).map I) none, I ((pathRes f c).2)]))) (.cons (s_extract (v := .slice (((pathRes f c).1).map I) none) (.tmp 13 (.tuple [.slice (((pathRes f c).1).map I) none, I ((pathRes f c).2)])) rfl) (.cons (s_extract (v := I ((pathRes f c).2)) (.tmp 13 (.tuple [.slice (((pathRes f c).1).map I) none, I ((pathRes f c).2)])) rfl) (.cons (s_assign (.tmp 17 (.slice (((pathRes f c).1).map I) none))) (.cons (s_assign (.tmp 18 (I ((pathRes f c).2)))) .nil)))))))) ?_)
 refine AC.rq (fun σ2 => RegOK.m1 [1, 2, 5, 6, 7, 8] ⟨[(1, I c), (2, .ptr (σ0 0) 0), (5, .slice (((pathRes f c).1).map I) none), (6, I ((pathRes f c).2)), (7, .slice (((pathRes f c).1).map I) none), (8, I ((pathRes f c).2))], (.box (σ0 0) (fc f)) :: .hole :: .hole :: mem⟩ (.cons (s_loadA (cs := (fc f)) (l := (fc f)) 0 tyA28 (.tmp 2 (.ptr (σ0 0) 0)) rfl rfl) (.cons (s_move (.tmp 1 (I c))) (.cons (s_call (r := .tuple [.slice (((pathRes f c).1).map I) none, I ((pathRes f c).2)]) (.func 38) (.cons (.tmp 20 (Feeder.av f)) (.cons (.tmp 21 (I c)) .nil)) call38 (F38 (f) (c) (by exact hok))) (.cons (s_move (.tmp 22 (.tuple [.slice (((pathRes f c).1).map I) none, I ((pathRes f c).2)]))) (.cons (s_extract (v := .slice (((pathRes f c).1).map I) none) (.tmp 19 (.tuple [.slice (((pathRes f c).1).map I) none, I ((pathRes f c).2)])) rfl) (.cons (s_extract (v := I ((pathRes f c).2)) (.tmp 19 (.tuple [.slice (((pathRes f c).1).map I) none, I ((pathRes f c).2)])) rfl) (.cons (s_assign (.tmp 23 (.slice (((pathRes f c).1).map I) none))) (.cons (s_assign (.tmp 24 (I ((pathRes f c).2)))) .nil)))))))) ?_)
 refine AC.seq ?_
 refine AC.rq (fun σ3 => RegOK.m1 [1, 2, 33] ⟨[(1, I c), (2, .ptr (σ0 0) 0), (33, .bool ((decide ((pathRes f c).2 ≠ (pathRes f c).2) || (!(decide ((pathRes f c).1 = (pathRes f c).1))))))], (.box (σ0 0) (fc f)) :: .hole :: .hole :: mem⟩ (.cons (s_move (.tmp 6 (I ((pathRes f c).2)))) (.cons (s_move (.tmp 8 (I ((pathRes f c).2)))) (.cons (s_neq (.tmp 25 (I ((pathRes f c).2))) (.tmp 26 (I ((pathRes f c).2)))) (.cons (s_move (.tmp 27 (.bool (decide ((pathRes f c).2 ≠ (pathRes f c).2))))) (.cons (Step.guard _ rfl (.bool (decide ((pathRes f c).2 ≠ (pathRes f c).2))) gF (fun hb => s_move (.tmp 5 (.slice (((pathRes f c).1).map I) none)))) (.cons (Step.guard _ rfl (.bool (decide ((pathRes f c).2 ≠ (pathRes f c).2))) gF (fun hb => s_move (.tmp 7 (.slice (((pathRes f c).1).map I) none)))) (.cons (Step.guard _ rfl (.bool (decide ((pathRes f c).2 ≠ (pathRes f c).2))) gF (fun hb => s_call (r := .bool (decide ((pathRes f c).1 = (pathRes f c).1))) (.func 39) (.cons (.tmpC hb 29 (.slice (((pathRes f c).1).map I) none)) (.cons (.tmpC hb 30 (.slice (((pathRes f c).1).map I) none)) .nil)) call39 (F39 (pathRes f c).1 (pathRes f c).1 (by have hq := (iN iD).1 hb; omega) (by have hq := (iN iD).1 hb; omega)))) (.cons (Step.guard _ rfl (.bool (decide ((pathRes f c).2 ≠ (pathRes f c).2))) gF (fun hb => s_not (.tmpC hb 31 (.bool (decide ((pathRes f c).1 = (pathRes f c).1)))))) (.cons (s_or' (e := (!(decide ((pathRes f c).2 ≠ (pathRes f c).2)))) (q := (!(decide ((pathRes f c).1 = (pathRes f c).1)))) (fun h => (notMk h)) (.tmp 28 (.bool (decide ((pathRes f c).2 ≠ (pathRes f c).2))))) .nil))))))))) ?_)
 refine AC.cend ((decide ((pathRes f c).2 ≠ (pathRes f c).2) || (!(decide ((pathRes f c).1 = (pathRes f c).1))))) rfl rfl (fun hc => ?_) (fun hc => ?_)
 ·have q1 := (iO iD (iN iD)).1 hc
  refine AC.rq (fun σ4 => RegOK.m1 [4] ⟨[(4, .bool (false))], (.box (σ0 0) (fc f)) :: .hole :: .hole :: mem⟩ (.cons (s_assign (.bool false)) .nil) ?_)
  refine AC.ret ?_
  refine thenQ_r ?_
  exact FinQ.ret (result1 rfl (res_tmp (v := .bool (false)) rfl rfl)) ⟨by first | rfl | (exfalso; simp at q1; done) | (exfalso; simp at q3; done) | simp, rfl⟩
 ·have q2 := iF (iO iD (iN iD)) hc
  refine AC.skip ?_
  refine thenQ_n ?_
  refine AC.rq (fun σ5 => RegOK.m1 [1, 2, 6, 9] ⟨[(1, I c), (2, .ptr (σ0 0) 0), (6, I ((curRes f c).2)), (9, .ptr (σ5 6) 0)], (.box (σ0 0) (fc f)) :: (.box (σ5 6) (Cur.av (curRes f c).1).cells) :: .hole :: mem⟩ (.cons (s_loadA (cs := (fc f)) (l := (fc f)) 0 tyA28 (.tmp 2 (.ptr (σ0 0) 0)) rfl rfl) (.cons (s_move (.tmp 1 (I c))) (.cons (s_call (r := .tuple [Cur.av (curRes f c).1, I ((curRes f c).2)]) (.func 22) (.cons (.tmp 35 (Feeder.av f)) (.cons (.tmp 36 (I c)) .nil)) call22 (F22 (f) (c) (by exact hok))) (.cons (s_move (.tmp 37 (.tuple [Cur.av (curRes f c).1, I ((curRes f c).2)]))) (.cons (s_extract (v := Cur.av (curRes f c).1) (.tmp 34 (.tuple [Cur.av (curRes f c).1, I ((curRes f c).2)])) rfl) (.cons (s_extract (v := I ((curRes f c).2)) (.tmp 34 (.tuple [Cur.av (curRes f c).1, I ((curRes f c).2)])) rfl) (.cons (s_alloc 1 (σ5 6) zero45) (.cons (s_store (cs := [I 0, I 0, I 0, I 0, I 0, I 0]) 1 sz45 (.tmp 9 (.ptr (σ5 6) 0)) (.tmp 38 (Cur.av (curRes f c).1)) rfl rfl rfl (Nat.le_of_ble_eq_true rfl)) (.cons (s_assign (.tmp 39 (I ((curRes f c).2)))) .nil))))))))) ?_)
  refine AC.rq (fun σ6 => RegOK.m1 [1, 2, 6, 8, 9, 10] ⟨[(1, I c), (2, .ptr (σ0 0) 0), (6, I ((curRes f c).2)), (8, I ((curRes f c).2)), (9, .ptr (σ5 6) 0), (10, .ptr (σ6 6) 0)], (.box (σ0 0) (fc f)) :: (.box (σ5 6) (Cur.av (curRes f c).1).cells) :: (.box (σ6 6) (Cur.av (curRes f c).1).cells) :: mem⟩ (.cons (s_loadA (cs := (fc f)) (l := (fc f)) 0 tyA28 (.tmp 2 (.ptr (σ0 0) 0)) rfl rfl) (.cons (s_move (.tmp 1 (I c))) (.cons (s_call (r := .tuple [Cur.av (curRes f c).1, I ((curRes f c).2)]) (.func 40) (.cons (.tmp 41 (Feeder.av f)) (.cons (.tmp 42 (I c)) .nil)) call40 (F40 (f) (c) (by exact hok))) (.cons (s_move (.tmp 43 (.tuple [Cur.av (curRes f c).1, I ((curRes f c).2)]))) (.cons (s_extract (v := Cur.av (curRes f c).1) (.tmp 40 (.tuple [Cur.av (curRes f c).1, I ((curRes f c).2)])) rfl) (.cons (s_extract (v := I ((curRes f c).2)) (.tmp 40 (.tuple [Cur.av (curRes f c).1, I ((curRes f c).2)])) rfl) (.cons (s_alloc 2 (σ6 6) zero45) (.cons (s_store (cs := [I 0, I 0, I 0, I 0, I 0, I 0]) 2 sz45 (.tmp 10 (.ptr (σ6 6) 0)) (.tmp 44 (Cur.av (curRes f c).1)) rfl rfl rfl (Nat.le_of_ble_eq_true rfl)) (.cons (s_assign (.tmp 45 (I ((curRes f c).2)))) .nil))))))))) ?_)
  refine AC.seq ?_
  refine AC.rq (fun σ7 => RegOK.m1 [1, 2, 53] ⟨[(1, I c), (2, .ptr (σ0 0) 0), (53, .bool (((!((decide ((curRes f c).1.l0 = (curRes f c).1.l0) && (decide ((curRes f c).1.h0 = (curRes f c).1.h0) && true)) && ((decide ((curRes f c).1.l1 = (curRes f c).1.l1) && (decide ((curRes f c).1.h1 = (curRes f c).1.h1) && true)) && (decide ((curRes f c).1.l2 = (curRes f c).1.l2) && (decide ((curRes f c).1.h2 = (curRes f c).1.h2) && true))))) || decide ((curRes f c).2 ≠ (curRes f c).2))))], (.box (σ0 0) (fc f)) :: (.box (σ5 6) (Cur.av (curRes f c).1).cells) :: (.box (σ6 6) (Cur.av (curRes f c).1).cells) :: mem⟩ (.cons (s_loadA (cs := (Cur.av (curRes f c).1).cells) (l := (Cur.av (curRes f c).1).cells) 1 tyA45 (.tmp 9 (.ptr (σ5 6) 0)) rfl rfl) (.cons (s_loadA (cs := (Cur.av (curRes f c).1).cells) (l := (Cur.av (curRes f c).1).cells) 2 tyA45 (.tmp 10 (.ptr (σ6 6) 0)) rfl rfl) (.cons (s_data_neq (.tmp 46 (Cur.av (curRes f c).1)) (.tmp 47 (Cur.av (curRes f c).1)) (eqT45 ((curRes f c).1.l0) ((curRes f c).1.h0) ((curRes f c).1.l1) ((curRes f c).1.h1) ((curRes f c).1.l2) ((curRes f c).1.h2) ((curRes f c).1.l0) ((curRes f c).1.h0) ((curRes f c).1.l1) ((curRes f c).1.h1) ((curRes f c).1.l2) ((curRes f c).1.h2)) rfl rfl rfl) (.cons (s_move (.tmp 48 (.bool ((!((decide ((curRes f c).1.l0 = (curRes f c).1.l0) && (decide ((curRes f c).1.h0 = (curRes f c).1.h0) && true)) && ((decide ((curRes f c).1.l1 = (curRes f c).1.l1) && (decide ((curRes f c).1.h1 = (curRes f c).1.h1) && true)) && (decide ((curRes f c).1.l2 = (curRes f c).1.l2) && (decide ((curRes f c).1.h2 = (curRes f c).1.h2) && true))))))))) (.cons (Step.guard _ rfl (.bool ((!((decide ((curRes f c).1.l0 = (curRes f c).1.l0) && (decide ((curRes f c).1.h0 = (curRes f c).1.h0) && true)) && ((decide ((curRes f c).1.l1 = (curRes f c).1.l1) && (decide ((curRes f c).1.h1 = (curRes f c).1.h1) && true)) && (decide ((curRes f c).1.l2 = (curRes f c).1.l2) && (decide ((curRes f c).1.h2 = (curRes f c).1.h2) && true))))))) gF (fun hb => s_move (.tmp 6 (I ((curRes f c).2))))) (.cons (Step.guard _ rfl (.bool ((!((decide ((curRes f c).1.l0 = (curRes f c).1.l0) && (decide ((curRes f c).1.h0 = (curRes f c).1.h0) && true)) && ((decide ((curRes f c).1.l1 = (curRes f c).1.l1) && (decide ((curRes f c).1.h1 = (curRes f c).1.h1) && true)) && (decide ((curRes f c).1.l2 = (curRes f c).1.l2) && (decide ((curRes f c).1.h2 = (curRes f c).1.h2) && true))))))) gF (fun hb => s_move (.tmp 8 (I ((curRes f c).2))))) (.cons (Step.guard _ rfl (.bool ((!((decide ((curRes f c).1.l0 = (curRes f c).1.l0) && (decide ((curRes f c).1.h0 = (curRes f c).1.h0) && true)) && ((decide ((curRes f c).1.l1 = (curRes f c).1.l1) && (decide ((curRes f c).1.h1 = (curRes f c).1.h1) && true)) && (decide ((curRes f c).1.l2 = (curRes f c).1.l2) && (decide ((curRes f c).1.h2 = (curRes f c).1.h2) && true))))))) gF (fun hb => s_neq (.tmpC hb 50 (I ((curRes f c).2))) (.tmpC hb 51 (I ((curRes f c).2))))) (.cons (s_or' (e := (!(!((decide ((curRes f c).1.l0 = (curRes f c).1.l0) && (decide ((curRes f c).1.h0 = (curRes f c).1.h0) && true)) && ((decide ((curRes f c).1.l1 = (curRes f c).1.l1) && (decide ((curRes f c).1.h1 = (curRes f c).1.h1) && true)) && (decide ((curRes f c).1.l2 = (curRes f c).1.l2) && (decide ((curRes f c).1.h2 = (curRes f c).1.h2) && true))))))) (q := decide ((curRes f c).2 ≠ (curRes f c).2)) (fun h => (notMk h)) (.tmp 49 (.bool ((!((decide ((curRes f c).1.l0 = (curRes f c).1.l0) && (decide ((curRes f c).1.h0 = (curRes f c).1.h0) && true)) && ((decide ((curRes f c).1.l1 = (curRes f c).1.l1) && (decide ((curRes f c).1.h1 = (curRes f c).1.h1) && true)) && (decide ((curRes f c).1.l2 = (curRes f c).1.l2) && (decide ((curRes f c).1.h2 = (curRes f c).1.h2) && true))))))))) .nil)))))))) ?_)
  refine AC.cend (((!((decide ((curRes f c).1.l0 = (curRes f c).1.l0) && (decide ((curRes f c).1.h0 = (curRes f c).1.h0) && true)) && ((decide ((curRes f c).1.l1 = (curRes f c).1.l1) && (decide ((curRes f c).1.h1 = (curRes f c).1.h1) && true)) && (decide ((curRes f c).1.l2 = (curRes f c).1.l2) && (decide ((curRes f c).1.h2 = (curRes f c).1.h2) && true))))) || decide ((curRes f c).2 ≠ (curRes f c).2))) rfl rfl (fun hc => ?_) (fun hc => ?_)
  ·have q3 := (iO (iN (iA (iA iD (iA iD iB)) (iA (iA iD (iA iD iB)) (iA iD (iA iD iB))))) iD).1 hc
   refine AC.rq (fun σ8 => RegOK.m1 [4] ⟨[(4, .bool (false))], (.box (σ0 0) (fc f)) :: (.box (σ5 6) (Cur.av (curRes f c).1).cells) :: (.box (σ6 6) (Cur.av (curRes f c).1).cells) :: mem⟩ (.cons (s_assign (.bool false)) .nil) ?_)
   refine AC.ret ?_
   refine thenQ_r ?_
   exact FinQ.ret (result1 rfl (res_tmp (v := .bool (false)) rfl rfl)) ⟨by first | rfl | (exfalso; simp at q1; done) | (exfalso; simp at q3; done) | simp, rfl⟩
  ·have q4 := iF (iO (iN (iA (iA iD (iA iD iB)) (iA (iA iD (iA iD iB)) (iA iD (iA iD iB))))) iD) hc
   refine AC.skip ?_
   refine thenQ_n ?_
   refine AC.rq (fun σ9 => RegOK.m1 [1, 2, 6, 11] ⟨[(1, I c), (2, .ptr (σ0 0) 0), (6, I ((neutRes f c).2)), (11, I ((neutRes f c).1))], (.box (σ0 0) (fc f)) :: (.box (σ5 6) (Cur.av (curRes f c).1).cells) :: (.box (σ6 6) (Cur.av (curRes f c).1).cells) :: mem⟩ (.cons (s_loadA (cs := (fc f)) (l := (fc f)) 0 tyA28 (.tmp 2 (.ptr (σ0 0) 0)) rfl rfl) (.cons (s_move (.tmp 1 (I c))) (.cons (s_call (r := .tuple [I ((neutRes f c).1), I ((neutRes f c).2)]) (.func 32) (.cons (.tmp 55 (Feeder.av f)) (.cons (.tmp 56 (I c)) .nil)) call32 (F32 (f) (c) (by exact hok))) (.cons (s_move (.tmp 57 (.tuple [I ((neutRes f c).1), I ((neutRes f c).2)]))) (.cons (s_extract (v := I ((neutRes f c).1)) (.tmp 54 (.tuple [I ((neutRes f c).1), I ((neutRes f c).2)])) rfl) (.cons (s_extract (v := I ((neutRes f c).2)) (.tmp 54 (.tuple [I ((neutRes f c).1), I ((neutRes f c).2)])) rfl) (.cons (s_assign (.tmp 58 (I ((neutRes f c).1)))) (.cons (s_assign (.tmp 59 (I ((neutRes f c).2)))) .nil)))))))) ?_)
   refine AC.rq (fun σ10 => RegOK.m1 [6, 8, 11, 12] ⟨[(6, I ((neutRes f c).2)), (8, I ((neutRes f c).2)), (11, I ((neutRes f c).1)), (12, I ((neutRes f c).1))], (.box (σ0 0) (fc f)) :: (.box (σ5 6) (Cur.av (curRes f c).1).cells) :: (.box (σ6 6) (Cur.av (curRes f c).1).cells) :: mem⟩ (.cons (s_loadA (cs := (fc f)) (l := (fc f)) 0 tyA28 (.tmp 2 (.ptr (σ0 0) 0)) rfl rfl) (.cons (s_move (.tmp 1 (I c))) (.cons (s_call (r := .tuple [I ((neutRes f c).1), I ((neutRes f c).2)]) (.func 41) (.cons (.tmp 61 (Feeder.av f)) (.cons (.tmp 62 (I c)) .nil)) call41 (F41 (f) (c) (by exact hok))) (.cons (s_move (.tmp 63 (.tuple [I ((neutRes f c).1), I ((neutRes f c).2)]))) (.cons (s_extract (v := I ((neutRes f c).1)) (.tmp 60 (.tuple [I ((neutRes f c).1), I ((neutRes f c).2)])) rfl) (.cons (s_extract (v := I ((neutRes f c).2)) (.tmp 60 (.tuple [I ((neutRes f c).1), I ((neutRes f c).2)])) rfl) (.cons (s_assign (.tmp 64 (I ((neutRes f c).1)))) (.cons (s_assign (.tmp 65 (I ((neutRes f c).2)))) .nil)))))))) ?_)
   refine AC.rq (fun σ11 => RegOK.m1 [4] ⟨[(4, .bool (((decide ((neutRes f c).1 = (neutRes f c).1) && decide ((neutRes f c).2 = (neutRes f c).2)) && true)))], (.box (σ0 0) (fc f)) :: (.box (σ5 6) (Cur.av (curRes f c).1).cells) :: (.box (σ6 6) (Cur.av (curRes f c).1).cells) :: mem⟩ (.cons (s_move (.tmp 11 (I ((neutRes f c).1)))) (.cons (s_move (.tmp 12 (I ((neutRes f c).1)))) (.cons (s_eql (.tmp 66 (I ((neutRes f c).1))) (.tmp 67 (I ((neutRes f c).1)))) (.cons (s_move (.tmp 68 (.bool (decide ((neutRes f c).1 = (neutRes f c).1))))) (.cons (Step.guard _ rfl (.bool (decide ((neutRes f c).1 = (neutRes f c).1))) gT (fun hb => s_move (.tmp 6 (I ((neutRes f c).2))))) (.cons (Step.guard _ rfl (.bool (decide ((neutRes f c).1 = (neutRes f c).1))) gT (fun hb => s_move (.tmp 8 (I ((neutRes f c).2))))) (.cons (Step.guard _ rfl (.bool (decide ((neutRes f c).1 = (neutRes f c).1))) gT (fun hb => s_eql (.tmpC hb 70 (I ((neutRes f c).2))) (.tmpC hb 71 (I ((neutRes f c).2))))) (.cons (s_and' (q := decide ((neutRes f c).2 = (neutRes f c).2)) (fun h => h) (.tmp 69 (.bool (decide ((neutRes f c).1 = (neutRes f c).1))))) (.cons (s_move (.tmp 73 (.bool ((decide ((neutRes f c).1 = (neutRes f c).1) && decide ((neutRes f c).2 = (neutRes f c).2)))))) (.cons (Step.guard _ rfl (.bool ((decide ((neutRes f c).1 = (neutRes f c).1) && decide ((neutRes f c).2 = (neutRes f c).2)))) gT (fun hb => s_call (r := .bool (true)) (.func 18) .nil call18 F18)) (.cons (s_and' (q := true) (fun h => h) (.tmp 74 (.bool ((decide ((neutRes f c).1 = (neutRes f c).1) && decide ((neutRes f c).2 = (neutRes f c).2)))))) (.cons (s_assign (.tmp 76 (.bool (((decide ((neutRes f c).1 = (neutRes f c).1) && decide ((neutRes f c).2 = (neutRes f c).2)) && true))))) .nil)))))))))))) ?_)
   refine AC.ret ?_
   exact FinQ.ret (result1 rfl (res_tmp (v := .bool (((decide ((neutRes f c).1 = (neutRes f c).1) && decide ((neutRes f c).2 = (neutRes f c).2)) && true))) rfl rfl)) ⟨by first | rfl | (exfalso; simp at q1; done) | (exfalso; simp at q3; done) | simp, rfl⟩
end Go.Proofs.Ytahdgadjpkcnjaa
end
section

namespace Go.Proofs.Ytahdgadjpkcnjaa
open Go.Proofs
section
variable {H : Type} {enc : TypeId × Value → H} {w : World}
theorem opens3 : Opens enc Try.prog w 3 1 Int (fun n => [.int .i64 n]) (fun n => (Lit.int .i64 n).wf = true) := .int Try.underlying3 (by kernel_rfl)
theorem opens9 : Opens enc Try.prog w 9 1 ByteArray (fun s => [.str s]) (fun s => s.size ≤ maxLen) := .str Try.underlying9 (by kernel_rfl)
theorem big {n : Nat} (h : n ≤ maxLen) : (n : Int) ≤ 9223372036854775807 := by simp only [maxLen] at h; omega
theorem opens26 : Opens enc Try.prog w 26 2 (Int × Int) (fun x => [I x.1, I x.2]) (fun _ => True) :=
  Opens.map (Opens.struct Try.underlying26 (by kernel_rfl) (.cons rfl opens3 (.cons rfl opens3 (.nil _))) (fun _ => rfl)) (fun x => (x.1, x.2.1)) _ _ (fun _ => rfl) (fun _ _ => trivial)
theorem opensCable : Opens enc Try.prog w 71 6 Cable (fun x => [.str x.name, I x.coreLo, I x.coreHi, I x.earthLo, I x.earthHi, I x.rated]) Cable.ok :=
  Opens.map (Opens.struct Try.underlying71 (by kernel_rfl) (.cons rfl opens9 (.cons rfl opens26 (.cons rfl opens26 (.cons rfl opens3 (.nil _))))) (fun _ => rfl))
    (fun x => (⟨x.1, x.2.1.1, x.2.1.2, x.2.2.1.1, x.2.2.1.2, x.2.2.2.1⟩ : Cable)) _ _ (fun _ => rfl) (fun _ h => big h.1)
theorem opensPoint : Opens enc Try.prog w 141 3 Point (fun x => [I x.cur, I x.lo, I x.hi]) (fun _ => True) :=
  Opens.map (Opens.struct Try.underlying141 (by kernel_rfl) (.cons rfl opens3 (.cons rfl opens26 (.nil _))) (fun _ => rfl)) (fun x => (⟨x.1, x.2.1.1, x.2.1.2⟩ : Point)) _ _ (fun _ => rfl) (fun _ _ => trivial)
theorem opensFuse : Opens enc Try.prog w 94 3 Fuse (fun x => [.str x.name, I x.rated, .slice (x.points.map Point.av) none]) Fuse.ok :=
  Opens.map (Opens.struct Try.underlying94 (by kernel_rfl) (.cons rfl opens9 (.cons rfl opens3 (.cons rfl (.slice Point.av Try.underlying92 (by kernel_rfl) opensPoint (by decide) (fun _ => rfl) (fun _ => rfl)) (.nil _)))) (fun _ => rfl))
    (fun x => (⟨x.1, x.2.1, x.2.2.1⟩ : Fuse)) _ _ (fun _ => rfl) (fun _ h => ⟨big h.1, big h.2.2.1.1⟩)
theorem opens45 : Opens enc Try.prog w 45 6 ((Int × Int) × (Int × Int) × (Int × Int)) (fun x => [I x.1.1, I x.1.2, I x.2.1.1, I x.2.1.2, I x.2.2.1, I x.2.2.2]) (fun _ => True) :=
  ⟨by kernel_rfl, fun fuel cs x hx => by
    obtain ⟨l, ⟨hl, _⟩, h⟩ := (Opens.array (enc := enc) (w := w) Try.underlying45 (by kernel_rfl) opens26 (fun _ => rfl)).2 fuel cs x hx
    match l, hl with
    | [a, b, c], _ => exact ⟨(a, b, c), trivial, h⟩⟩
theorem opensNode : Opens enc Try.prog w 47 11 Node (fun x => [.str x.name, I x.parent, I x.cable, I x.length, I x.fuse, I x.lo0, I x.hi0, I x.lo1, I x.hi1, I x.lo2, I x.hi2]) Node.ok :=
  Opens.map (Opens.struct Try.underlying47 (by kernel_rfl) (.cons rfl opens9 (.cons rfl opens3 (.cons rfl opens3 (.cons rfl opens3 (.cons rfl opens3 (.cons rfl opens45 (.nil _))))))) (fun _ => rfl))
    (fun x => (⟨x.1, x.2.1, x.2.2.1, x.2.2.2.1, x.2.2.2.2.1, x.2.2.2.2.2.1.1.1, x.2.2.2.2.2.1.1.2, x.2.2.2.2.2.1.2.1.1, x.2.2.2.2.2.1.2.1.2, x.2.2.2.2.2.1.2.2.1, x.2.2.2.2.2.1.2.2.2⟩ : Node)) _ _ (fun _ => rfl) (fun _ h => big h.1)
theorem opensFeed : Opens enc Try.prog w 28 9 Feeder (fun x => [.slice (x.cables.map Cable.av) none, .slice (x.fuses.map Fuse.av) none, .slice (x.nodes.map Node.av) none, I x.vLo, I x.vHi, I x.sLo, I x.sHi, I x.drop, I x.limit]) Feeder.ok :=
  Opens.map (Opens.struct Try.underlying28 (by kernel_rfl) (.cons rfl (.slice Cable.av Try.underlying22 (by kernel_rfl) opensCable (by decide) (fun _ => rfl) (fun _ => rfl)) (.cons rfl (.slice Fuse.av Try.underlying23 (by kernel_rfl) opensFuse (by decide) (fun _ => rfl) (fun _ => rfl))
    (.cons rfl (.slice Node.av Try.underlying24 (by kernel_rfl) opensNode (by decide) (fun _ => rfl) (fun _ => rfl)) (.cons rfl opens26 (.cons rfl opens26 (.cons rfl opens3 (.cons rfl opens3 (.nil _)))))))) (fun _ => rfl))
    (fun x => (⟨x.1, x.2.1, x.2.2.1, x.2.2.2.1.1, x.2.2.2.1.2, x.2.2.2.2.1.1, x.2.2.2.2.1.2, x.2.2.2.2.2.1, x.2.2.2.2.2.2.1⟩ : Feeder)) _ _ (fun _ => rfl) (fun _ h => ⟨big h.1.1, big h.2.1.1, big h.2.2.1.1, h.1.2, h.2.1.2, h.2.2.1.2⟩)
end
end Go.Proofs.Ytahdgadjpkcnjaa
end
