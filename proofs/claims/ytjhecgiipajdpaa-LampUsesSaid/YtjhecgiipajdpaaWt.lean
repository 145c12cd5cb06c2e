/- Walks of functions, each once (written by wip/gen/gen.py). -/
import Derived.Test.YtjhecgiipajdpaaSp16
import Derived.Test.YtjhecgiipajdpaaWe
import Derived.Test.YtjhecgiipajdpaaWi
set_option linter.unusedVariables false
set_option linter.unusedSimpArgs false
set_option maxRecDepth 100000
namespace Go.Proofs.Ytjhecgiipajdpaa
open Go.Proofs
theorem F33 (c : Cat) (i : Int) (H M L : Int) (hcat : c.ok) : Pure Try.prog 33 [Cat.av c, I i, .agg [I H, I M, I L]] (.tuple [.agg [I ((Flux c i H M L).1), I ((Flux c i H M L).2.1)], I ((Flux c i H M L).2.2)]) := by
  intro mem
  have ⟨hc1, hc2, hc3, hc4⟩ := hcat
  refine Meets.body 3 Try.func33 rfl rfl ?_
  refine AC.rseq Fr.plain mixed (fun σ0 => RegOK.mk1 [1, 3, 5, 6] ⟨[(1, I i), (3, .ptr (σ0 0) 0), (5, .ptr (σ0 1) 0), (6, .ptr (σ0 2) 0)], (Ent.box (σ0 0) (Cat.av c).cells) :: (Ent.box (σ0 1) [I H, I M, I L]) :: (Ent.box (σ0 2) [I 0, I 0]) :: mem⟩ (.cons (s_box 0 (σ0 0) (.tmp 0 (Cat.av c)) rfl) (.cons (s_box 1 (σ0 1) (.tmp 2 (.agg [I H, I M, I L])) rfl) (.cons (s_alloc 2 (σ0 2) zero37) (.cons (s_assign (.int .i64 (0))) .nil)))) (by kernel_rfl) ?_)
  refine AC.rseq Fr.plain mixed (fun σ1 => RegOK.mk1 [1, 3, 5, 6, 8] ⟨[(1, I i), (3, .ptr (σ0 0) 0), (5, .ptr (σ0 1) 0), (6, .ptr (σ0 2) 0), (8, I (lampedE c i))], (Ent.box (σ0 0) (Cat.av c).cells) :: (Ent.box (σ0 1) [I H, I M, I L]) :: (Ent.box (σ0 2) [I 0, I 0]) :: mem⟩ (.cons (s_loadA (cs := (Cat.av c).cells) (l := (Cat.av c).cells) 0 tyA25 (.tmp 3 (.ptr (σ0 0) 0)) rfl rfl) (.cons (s_move (.tmp 1 (I i))) (.cons (s_call (r := I (lampedE c i)) (.func 66) (.cons (.tmp 9 (Cat.av c)) (.cons (.tmp 10 (I i)) .nil)) call66 (F66 (c) (i) (by exact hcat))) (.cons (s_assign (.tmp 11 (I (lampedE c i)))) .nil)))) (by kernel_rfl) ?_)
  refine AC.seq ?_
  refine AC.rseq Fr.plain mixed (fun σ2 => RegOK.mk1 [1, 3, 5, 6, 8, 13] ⟨[(1, I i), (3, .ptr (σ0 0) 0), (5, .ptr (σ0 1) 0), (6, .ptr (σ0 2) 0), (8, I (lampedE c i)), (13, .bool (decide ((lampedE c i) = 0)))], (Ent.box (σ0 0) (Cat.av c).cells) :: (Ent.box (σ0 1) [I H, I M, I L]) :: (Ent.box (σ0 2) [I 0, I 0]) :: mem⟩ (.cons (s_move (.tmp 8 (I (lampedE c i)))) (.cons (s_eql (.tmp 12 (I (lampedE c i))) (.int .i64 (0))) .nil)) (by kernel_rfl) ?_)
  refine AC.cend (decide ((lampedE c i) = 0)) rfl rfl (fun hc => ?_) (fun hc => ?_)
  · have q1 := iD.1 hc
    refine AC.rend Fr.plain mixed (fun σ3 => RegOK.mk1 [1, 3, 5, 6, 8] ⟨[(1, I i), (3, .ptr (σ0 0) 0), (5, .ptr (σ0 1) 0), (6, .ptr (σ0 2) 0), (8, I (useErr H M L))], (Ent.box (σ0 0) (Cat.av c).cells) :: (Ent.box (σ0 1) [I H, I M, I L]) :: (Ent.box (σ0 2) [I 0, I 0]) :: mem⟩ (.cons (s_loadA (cs := [I H, I M, I L]) (l := [I H, I M, I L]) 1 tyA68 (.tmp 5 (.ptr (σ0 1) 0)) rfl rfl) (.cons (s_call (r := I (useErr H M L)) (.func 67) (.cons (.tmp 14 (.agg [I H, I M, I L])) .nil) call67 (F67 (H) (M) (L))) (.cons (s_assign (.tmp 15 (I (useErr H M L)))) .nil))) (by kernel_rfl) ?_)
    refine thenQ_n ?_
    refine AC.seq ?_
    refine AC.rseq Fr.plain mixed (fun σ4 => RegOK.mk1 [1, 3, 5, 6, 8, 17] ⟨[(1, I i), (3, .ptr (σ0 0) 0), (5, .ptr (σ0 1) 0), (6, .ptr (σ0 2) 0), (8, I (useErr H M L)), (17, .bool (decide ((useErr H M L) ≠ 0)))], (Ent.box (σ0 0) (Cat.av c).cells) :: (Ent.box (σ0 1) [I H, I M, I L]) :: (Ent.box (σ0 2) [I 0, I 0]) :: mem⟩ (.cons (s_move (.tmp 8 (I (useErr H M L)))) (.cons (s_neq (.tmp 16 (I (useErr H M L))) (.int .i64 (0))) .nil)) (by kernel_rfl) ?_)
    refine AC.cend (decide ((useErr H M L) ≠ 0)) rfl rfl (fun hc => ?_) (fun hc => ?_)
    · have q2 := iD.1 hc
      refine AC.rseq Fr.plain mixed (fun σ5 => RegOK.mk1 [6, 7] ⟨[(6, .ptr (σ0 2) 0), (7, I (useErr H M L))], (Ent.box (σ0 0) (Cat.av c).cells) :: (Ent.box (σ0 1) [I H, I M, I L]) :: (Ent.box (σ0 2) [I 0, I 0]) :: mem⟩ (.cons (s_build (l := [I 0, I 0]) zero37 plc37 .nil rfl) (.cons (s_move (.tmp 8 (I (useErr H M L)))) (.cons (s_store (cs := [I 0, I 0]) 2 sz37 (.tmp 6 (.ptr (σ0 2) 0)) (.tmp 18 (.agg [I 0, I 0])) rfl rfl rfl (Nat.le_of_ble_eq_true rfl)) (.cons (s_assign (.tmp 19 (I (useErr H M L)))) .nil)))) (by kernel_rfl) ?_)
      refine AC.ret ?_
      refine thenQ_r ?_
      exact FinQ.ret (result2 rfl (res_cell (s := (σ0 2)) (cs := [I 0, I 0]) (l := [I 0, I 0]) 2 rfl rfl rfl tyA37 rfl rfl) (res_tmp (v := I (useErr H M L)) rfl rfl)) ⟨by unfold Flux; (try rw [hE4]); (repeat' split) <;> first | rfl | (exfalso; omega), rfl⟩
    · have q3 := iF iD hc
      have hE : lampedE c i = 0 := by omega
      have ⟨hE1, hE2, hE3, hE4⟩ := lampedE_ok hE
      have gl := ((check_ok hE1).2.2.2 i.toNat (by omega)).1
      have hU : useErr H M L = 0 := by omega
      have hu := useErr_ok hU
      refine AC.skip ?_
      refine thenQ_n ?_
      refine AC.rseq Fr.plain mixed (fun σ6 => RegOK.mk1 [6, 7] ⟨[(6, .ptr (σ0 2) 0), (7, I 0)], (Ent.box (σ0 0) (Cat.av c).cells) :: (Ent.box (σ0 1) [I H, I M, I L]) :: (Ent.box (σ0 2) [I (fluxLo (c.lamps.getD (i).toNat default) H M L), I (fluxHi (c.lamps.getD (i).toNat default) H M L)]) :: mem⟩ (.cons (s_fieldAddr fld25_1 (.tmp 3 (.ptr (σ0 0) 0))) (.cons (s_load1 (cs := (Cat.av c).cells) (c := .slice ((c.lamps).map Lamp.av) none) 0 tyS23 (.tmp 20 (.ptr (σ0 0) 1)) rfl) (.cons (s_move (.tmp 1 (I i))) (.cons (s_ixM (l := c.lamps) (f := Lamp.av) (default) slc23 (.tmp 21 (.slice ((c.lamps).map Lamp.av) none)) (.tmp 22 (I i)) (by omega) rfl) (.cons (s_loadAe (l := (Lamp.av (c.lamps.getD (i).toNat default)).cells) tyA45 (.tmp 23 (.eptr (Lamp.av (c.lamps.getD (i).toNat default)) 0)) rfl rfl) (.cons (s_loadA (cs := [I H, I M, I L]) (l := [I H, I M, I L]) 1 tyA68 (.tmp 5 (.ptr (σ0 1) 0)) rfl rfl) (.cons (s_call (r := .agg [I (fluxLo (c.lamps.getD (i).toNat default) H M L), I (fluxHi (c.lamps.getD (i).toNat default) H M L)]) (.func 68) (.cons (.tmp 24 (Lamp.av (c.lamps.getD (i).toNat default))) (.cons (.tmp 25 (.agg [I H, I M, I L])) .nil)) call68 (F68 ((c.lamps.getD (i).toNat default)) (H) (M) (L) (by first | assumption | exact gl) (by omega))) (.cons (s_store (cs := [I 0, I 0]) 2 sz37 (.tmp 6 (.ptr (σ0 2) 0)) (.tmp 26 (.agg [I (fluxLo (c.lamps.getD (i).toNat default) H M L), I (fluxHi (c.lamps.getD (i).toNat default) H M L)])) rfl rfl rfl (Nat.le_of_ble_eq_true rfl)) (.cons (s_assign (.int .i64 (0))) .nil))))))))) (by kernel_rfl) ?_)
      refine AC.ret ?_
      exact FinQ.ret (result2 rfl (res_cell (s := (σ0 2)) (cs := [I (fluxLo (c.lamps.getD (i).toNat default) H M L), I (fluxHi (c.lamps.getD (i).toNat default) H M L)]) (l := [I (fluxLo (c.lamps.getD (i).toNat default) H M L), I (fluxHi (c.lamps.getD (i).toNat default) H M L)]) 2 rfl rfl rfl tyA37 rfl rfl) (res_tmp (v := I 0) rfl rfl)) ⟨by unfold Flux; (try rw [hE4]); (repeat' split) <;> first | rfl | (exfalso; omega), rfl⟩
  · have q4 := iF iD hc
    refine AC.skip ?_
    refine thenQ_n ?_
    refine AC.seq ?_
    refine AC.rseq Fr.plain mixed (fun σ4 => RegOK.mk1 [1, 3, 5, 6, 8, 17] ⟨[(1, I i), (3, .ptr (σ0 0) 0), (5, .ptr (σ0 1) 0), (6, .ptr (σ0 2) 0), (8, I (lampedE c i)), (17, .bool (decide ((lampedE c i) ≠ 0)))], (Ent.box (σ0 0) (Cat.av c).cells) :: (Ent.box (σ0 1) [I H, I M, I L]) :: (Ent.box (σ0 2) [I 0, I 0]) :: mem⟩ (.cons (s_move (.tmp 8 (I (lampedE c i)))) (.cons (s_neq (.tmp 16 (I (lampedE c i))) (.int .i64 (0))) .nil)) (by kernel_rfl) ?_)
    refine AC.cend (decide ((lampedE c i) ≠ 0)) rfl rfl (fun hc => ?_) (fun hc => ?_)
    · have q5 := iD.1 hc
      refine AC.rseq Fr.plain mixed (fun σ5 => RegOK.mk1 [6, 7] ⟨[(6, .ptr (σ0 2) 0), (7, I (lampedE c i))], (Ent.box (σ0 0) (Cat.av c).cells) :: (Ent.box (σ0 1) [I H, I M, I L]) :: (Ent.box (σ0 2) [I 0, I 0]) :: mem⟩ (.cons (s_build (l := [I 0, I 0]) zero37 plc37 .nil rfl) (.cons (s_move (.tmp 8 (I (lampedE c i)))) (.cons (s_store (cs := [I 0, I 0]) 2 sz37 (.tmp 6 (.ptr (σ0 2) 0)) (.tmp 18 (.agg [I 0, I 0])) rfl rfl rfl (Nat.le_of_ble_eq_true rfl)) (.cons (s_assign (.tmp 19 (I (lampedE c i)))) .nil)))) (by kernel_rfl) ?_)
      refine AC.ret ?_
      refine thenQ_r ?_
      exact FinQ.ret (result2 rfl (res_cell (s := (σ0 2)) (cs := [I 0, I 0]) (l := [I 0, I 0]) 2 rfl rfl rfl tyA37 rfl rfl) (res_tmp (v := I (lampedE c i)) rfl rfl)) ⟨by unfold Flux; (try rw [hE4]); (repeat' split) <;> first | rfl | (exfalso; omega), rfl⟩
    · have q6 := iF iD hc
      have hE : lampedE c i = 0 := by omega
      have ⟨hE1, hE2, hE3, hE4⟩ := lampedE_ok hE
      have gl := ((check_ok hE1).2.2.2 i.toNat (by omega)).1
      have hU : useErr H M L = 0 := by omega
      have hu := useErr_ok hU
      refine AC.skip ?_
      refine thenQ_n ?_
      refine AC.rseq Fr.plain mixed (fun σ6 => RegOK.mk1 [6, 7] ⟨[(6, .ptr (σ0 2) 0), (7, I 0)], (Ent.box (σ0 0) (Cat.av c).cells) :: (Ent.box (σ0 1) [I H, I M, I L]) :: (Ent.box (σ0 2) [I (fluxLo (c.lamps.getD (i).toNat default) H M L), I (fluxHi (c.lamps.getD (i).toNat default) H M L)]) :: mem⟩ (.cons (s_fieldAddr fld25_1 (.tmp 3 (.ptr (σ0 0) 0))) (.cons (s_load1 (cs := (Cat.av c).cells) (c := .slice ((c.lamps).map Lamp.av) none) 0 tyS23 (.tmp 20 (.ptr (σ0 0) 1)) rfl) (.cons (s_move (.tmp 1 (I i))) (.cons (s_ixM (l := c.lamps) (f := Lamp.av) (default) slc23 (.tmp 21 (.slice ((c.lamps).map Lamp.av) none)) (.tmp 22 (I i)) (by omega) rfl) (.cons (s_loadAe (l := (Lamp.av (c.lamps.getD (i).toNat default)).cells) tyA45 (.tmp 23 (.eptr (Lamp.av (c.lamps.getD (i).toNat default)) 0)) rfl rfl) (.cons (s_loadA (cs := [I H, I M, I L]) (l := [I H, I M, I L]) 1 tyA68 (.tmp 5 (.ptr (σ0 1) 0)) rfl rfl) (.cons (s_call (r := .agg [I (fluxLo (c.lamps.getD (i).toNat default) H M L), I (fluxHi (c.lamps.getD (i).toNat default) H M L)]) (.func 68) (.cons (.tmp 24 (Lamp.av (c.lamps.getD (i).toNat default))) (.cons (.tmp 25 (.agg [I H, I M, I L])) .nil)) call68 (F68 ((c.lamps.getD (i).toNat default)) (H) (M) (L) (by first | assumption | exact gl) (by omega))) (.cons (s_store (cs := [I 0, I 0]) 2 sz37 (.tmp 6 (.ptr (σ0 2) 0)) (.tmp 26 (.agg [I (fluxLo (c.lamps.getD (i).toNat default) H M L), I (fluxHi (c.lamps.getD (i).toNat default) H M L)])) rfl rfl rfl (Nat.le_of_ble_eq_true rfl)) (.cons (s_assign (.int .i64 (0))) .nil))))))))) (by kernel_rfl) ?_)
      refine AC.ret ?_
      exact FinQ.ret (result2 rfl (res_cell (s := (σ0 2)) (cs := [I (fluxLo (c.lamps.getD (i).toNat default) H M L), I (fluxHi (c.lamps.getD (i).toNat default) H M L)]) (l := [I (fluxLo (c.lamps.getD (i).toNat default) H M L), I (fluxHi (c.lamps.getD (i).toNat default) H M L)]) 2 rfl rfl rfl tyA37 rfl rfl) (res_tmp (v := I 0) rfl rfl)) ⟨by unfold Flux; (try rw [hE4]); (repeat' split) <;> first | rfl | (exfalso; omega), rfl⟩

end Go.Proofs.Ytjhecgiipajdpaa
