/- Walks of functions, each once (written by wip/gen/gen.py). -/
import Derived.Test.YtjhecgiipajdpaaSp19
import Derived.Test.YtjhecgiipajdpaaWa
set_option linter.unusedVariables false
set_option linter.unusedSimpArgs false
set_option maxRecDepth 100000
namespace Go.Proofs.Ytjhecgiipajdpaa
open Go.Proofs
theorem F98 (a : Int) (b : Int) (hb : (-5000 ≤ a ∧ a ≤ 5000) ∧ (-5000 ≤ b ∧ b ≤ 5000)) : Pure Try.prog 98 [I a, I b] (.tuple [I (sqLo a b), I (sqHi a b)]) := by
  intro mem
  have s1 := mulB 5000 5000 (a := a) (b := a) (by omega) (by omega)
  have s2 := mulB 5000 5000 (a := b) (b := b) (by omega) (by omega)
  refine Meets.body 0 Try.func98 rfl rfl ?_
  refine AC.rseq Fr.plain mixed (fun σ0 => RegOK.mk1 [0, 1] ⟨[(0, I a), (1, I b)], mem⟩ (.cons (s_assign (.int .i64 (0))) (.cons (s_assign (.int .i64 (0))) .nil)) (by kernel_rfl) ?_)
  refine AC.rseq Fr.plain mixed (fun σ1 => RegOK.mk1 [0, 1, 4, 5] ⟨[(0, I a), (1, I b), (4, I (min (a * a) (b * b))), (5, I (max (a * a) (b * b)))], mem⟩ (.cons (s_move (.tmp 0 (I a))) (.cons (s_move (.tmp 0 (I a))) (.cons (s_mul (.tmp 6 (I a)) (.tmp 7 (I a)) (inK_i64 (by omega))) (.cons (s_move (.tmp 1 (I b))) (.cons (s_move (.tmp 1 (I b))) (.cons (s_mul (.tmp 9 (I b)) (.tmp 10 (I b)) (inK_i64 (by omega))) (.cons (s_minF (x := (a * a)) (l := [(b * b)]) (.cons (.tmp 8 (I (a * a))) (.cons (.tmp 11 (I (b * b))) .nil))) (.cons (s_move (.tmp 0 (I a))) (.cons (s_move (.tmp 0 (I a))) (.cons (s_mul (.tmp 13 (I a)) (.tmp 14 (I a)) (inK_i64 (by omega))) (.cons (s_move (.tmp 1 (I b))) (.cons (s_move (.tmp 1 (I b))) (.cons (s_mul (.tmp 16 (I b)) (.tmp 17 (I b)) (inK_i64 (by omega))) (.cons (s_maxF (x := (a * a)) (l := [(b * b)]) (.cons (.tmp 15 (I (a * a))) (.cons (.tmp 18 (I (b * b))) .nil))) (.cons (s_assign (.tmp 12 (I (min (a * a) (b * b))))) (.cons (s_assign (.tmp 19 (I (max (a * a) (b * b))))) .nil)))))))))))))))) (by kernel_rfl) ?_)
  refine AC.seq ?_
  refine AC.rseq Fr.plain mixed (fun σ2 => RegOK.mk1 [4, 5, 25] ⟨[(4, I (min (a * a) (b * b))), (5, I (max (a * a) (b * b))), (25, .bool ((decide (a ≤ 0) && decide (0 ≤ b))))], mem⟩ (.cons (s_move (.tmp 0 (I a))) (.cons (s_leq (.tmp 20 (I a)) (.int .i64 (0))) (.cons (s_move (.tmp 21 (.bool (decide (a ≤ 0))))) (.cons (Step.guard _ rfl (.bool (decide (a ≤ 0))) gT (fun hb => s_move (.tmp 1 (I b)))) (.cons (Step.guard _ rfl (.bool (decide (a ≤ 0))) gT (fun hb => s_leq (.int .i64 (0)) (.tmpC hb 23 (I b)))) (.cons (s_and' (q := decide (0 ≤ b)) (fun h => h) (.tmp 22 (.bool (decide (a ≤ 0))))) .nil)))))) (by kernel_rfl) ?_)
  refine AC.cend ((decide (a ≤ 0) && decide (0 ≤ b))) rfl rfl (fun hc => ?_) (fun hc => ?_)
  · have q1 := (iA iD iD).1 hc
    refine AC.rend Fr.plain mixed (fun σ3 => RegOK.mk1 [4, 5] ⟨[(4, I 0), (5, I (max (a * a) (b * b)))], mem⟩ (.cons (s_assign (.int .i64 (0))) .nil) (by kernel_rfl) ?_)
    refine thenQ_n ?_
    refine AC.rseq Fr.plain mixed (fun σ4 => RegOK.mk1 [4, 5] ⟨[(4, I 0), (5, I (max (a * a) (b * b)))], mem⟩ (.cons (s_move (.tmp 4 (I 0))) (.cons (s_move (.tmp 5 (I (max (a * a) (b * b))))) (.cons (s_assign (.tmp 26 (I 0))) (.cons (s_assign (.tmp 27 (I (max (a * a) (b * b))))) .nil)))) (by kernel_rfl) ?_)
    refine AC.ret ?_
    exact FinQ.ret (result2 rfl (res_tmp (v := I 0) rfl rfl) (res_tmp (v := I (max (a * a) (b * b))) rfl rfl)) ⟨by unfold sqLo sqHi; first | rw [if_pos (by assumption)] | rw [if_neg (by assumption)], rfl⟩
  · have q2 := iF (iA iD iD) hc
    refine AC.skip ?_
    refine thenQ_n ?_
    refine AC.rseq Fr.plain mixed (fun σ4 => RegOK.mk1 [4, 5] ⟨[(4, I (min (a * a) (b * b))), (5, I (max (a * a) (b * b)))], mem⟩ (.cons (s_move (.tmp 4 (I (min (a * a) (b * b))))) (.cons (s_move (.tmp 5 (I (max (a * a) (b * b))))) (.cons (s_assign (.tmp 26 (I (min (a * a) (b * b))))) (.cons (s_assign (.tmp 27 (I (max (a * a) (b * b))))) .nil)))) (by kernel_rfl) ?_)
    refine AC.ret ?_
    exact FinQ.ret (result2 rfl (res_tmp (v := I (min (a * a) (b * b))) rfl rfl) (res_tmp (v := I (max (a * a) (b * b))) rfl rfl)) ⟨by unfold sqLo sqHi; first | rw [if_pos (by assumption)] | rw [if_neg (by assumption)], rfl⟩

theorem F99 (n : Int) (hn : 0 ≤ n ∧ n ≤ 60000000) : Pure Try.prog 99 [I n] (I (root17 n)) := by
  intro mem
  refine Meets.body 0 Try.func99 rfl rfl ?_
  refine AC.rseq Fr.plain mixed (fun σ0 => RegOK.mk1 [0] ⟨[(0, I n)], mem⟩ (.cons (s_assign (.int .i64 (0))) .nil) (by kernel_rfl) ?_)
  refine AC.rseq Fr.plain mixed (fun σ1 => RegOK.mk1 [0, 3] ⟨[(0, I n), (3, I 0)], mem⟩ (.cons (s_assign (.int .i64 (0))) .nil) (by kernel_rfl) ?_)
  refine AC.seq ?_
  refine AC.rseq Fr.plain mixed (fun σ2 => RegOK.mk1 [0, 3, 4] ⟨[(0, I n), (3, I 0), (4, I 65536)], mem⟩ (.cons (s_assign (.int .i64 (65536))) .nil) (by kernel_rfl) ?_)
  refine AC.block ?_
  refine AC.loopW (fun mz T => ∃ (k : Nat), ∃ (b : Int), ∃ (r : Int), mz = 0 + k ∧ ((k ≤ 17) ∧ (b = bitOf k) ∧ (0 ≤ r) ∧ (r * r ≤ n) ∧ (rt n k r = root17 n)) ∧ T = ⟨[(0, I n), (3, I r), (4, I b)], mem⟩) _ ⟨[(0, I n), (3, I (0)), (4, I (65536))], mem⟩ ⟨17, 65536, 0, rfl, ⟨(by omega), (by rfl), (by omega), (by omega), (by rfl)⟩, rfl⟩ (Weak.of [] (by kernel_rfl) (by kernel_rfl)) ?_ Fr.plain
  rintro _ _ ⟨k, b, r, rfl, ⟨hk, hb, hr, hs, ht⟩, rfl⟩
  refine AC.seq ?_
  refine AC.rseq Fr.plain mixed (fun σ3 => RegOK.mk1 [0, 3, 4, 6] ⟨[(0, I n), (3, I r), (4, I b), (6, .bool (decide (0 < b)))], mem⟩ (.cons (s_move (.tmp 4 (I b))) (.cons (s_gtr (.tmp 5 (I b)) (.int .i64 (0))) .nil)) (by kernel_rfl) ?_)
  refine AC.cend (decide (0 < b)) rfl rfl (fun hc => ?_) (fun hc => ?_)
  · have q1 := iD.1 hc
    have hk0 : k ≠ 0 := by
      intro e
      subst e
      rw [hb] at q1
      exact absurd q1 (by decide)
    obtain ⟨j, rfl⟩ := Nat.exists_eq_succ_of_ne_zero hk0
    have hbj : b = 2 ^ j := hb
    have hbb := bitOf_le hk
    rw [← hb] at hbb
    have hr2 := sq_lt (a := r) (b := 131072) (by omega) (by omega)
    have m := mulN 200000 200000 (a := r + b) (b := r + b) (by omega) (by omega)
    have hh := bitOf_half j
    rw [show bitOf (j + 1) = b from hb.symm] at hh
    have hb2 := bitOf_le (k := j) (by omega)
    refine AC.skip ?_
    refine thenQ_n ?_
    refine AC.bseq ?_
    refine AC.rseq Fr.plain mixed (fun σ5 => RegOK.mk1 [0, 3, 4, 17] ⟨[(0, I n), (3, I r), (4, I b), (17, .bool (decide (((r + b) * (r + b)) ≤ n)))], mem⟩ (.cons (s_move (.tmp 3 (I r))) (.cons (s_move (.tmp 4 (I b))) (.cons (s_add (.tmp 9 (I r)) (.tmp 10 (I b)) (inK_i64 (by omega))) (.cons (s_move (.tmp 3 (I r))) (.cons (s_move (.tmp 4 (I b))) (.cons (s_add (.tmp 12 (I r)) (.tmp 13 (I b)) (inK_i64 (by omega))) (.cons (s_mul (.tmp 11 (I (r + b))) (.tmp 14 (I (r + b))) (inK_i64 (by omega))) (.cons (s_move (.tmp 0 (I n))) (.cons (s_leq (.tmp 15 (I ((r + b) * (r + b)))) (.tmp 16 (I n))) .nil))))))))) (by kernel_rfl) ?_)
    refine AC.cend (decide (((r + b) * (r + b)) ≤ n)) rfl rfl (fun hc => ?_) (fun hc => ?_)
    · have q2 := iD.1 hc
      refine AC.rend Fr.plain mixed (fun σ6 => RegOK.mk1 [0, 3, 4] ⟨[(0, I n), (3, I (r + b)), (4, I b)], mem⟩ (.cons (s_move (.tmp 3 (I r))) (.cons (s_move (.tmp 4 (I b))) (.cons (s_add (.tmp 18 (I r)) (.tmp 19 (I b)) (inK_i64 (by omega))) (.cons (s_assign (.tmp 20 (I (r + b)))) .nil)))) (by kernel_rfl) ?_)
      refine blockQ_n ?_
      refine thenQ_n ?_
      refine AC.rend Fr.plain mixed (fun σ4 => RegOK.mk1 [0, 3, 4] ⟨[(0, I n), (3, I (r + b)), (4, I (b.tdiv 2))], mem⟩ (.cons (s_move (.tmp 4 (I b))) (.cons (s_quo (.tmp 7 (I b)) (.int .i64 (2)) (by omega) (inK_i64 (by rw [hh]; omega))) (.cons (s_assign (.tmp 8 (I (b.tdiv 2)))) .nil))) (by kernel_rfl) ?_)
      refine thenQ_n ⟨_, ?_, _, ⟨j, (b.tdiv 2), (r + b), rfl, ⟨(by omega), (by exact hh), (by omega), (by omega), (by rw [← ht]; show rt n j _ = rt n j (if _ then _ else _); first | rw [if_pos (by rw [← hbj]; assumption), hbj] | rw [if_neg (by rw [← hbj]; assumption)])⟩, rfl⟩, Weak.of [] (by kernel_rfl) (by kernel_rfl)⟩
      omega
    · have q3 := iF iD hc
      refine AC.skip ?_
      refine blockQ_n ?_
      refine thenQ_n ?_
      refine AC.rend Fr.plain mixed (fun σ4 => RegOK.mk1 [0, 3, 4] ⟨[(0, I n), (3, I r), (4, I (b.tdiv 2))], mem⟩ (.cons (s_move (.tmp 4 (I b))) (.cons (s_quo (.tmp 7 (I b)) (.int .i64 (2)) (by omega) (inK_i64 (by rw [hh]; omega))) (.cons (s_assign (.tmp 8 (I (b.tdiv 2)))) .nil))) (by kernel_rfl) ?_)
      refine thenQ_n ⟨_, ?_, _, ⟨j, (b.tdiv 2), r, rfl, ⟨(by omega), (by exact hh), (by omega), (by omega), (by rw [← ht]; show rt n j _ = rt n j (if _ then _ else _); first | rw [if_pos (by rw [← hbj]; assumption), hbj] | rw [if_neg (by rw [← hbj]; assumption)])⟩, rfl⟩, Weak.of [] (by kernel_rfl) (by kernel_rfl)⟩
      omega
  · have q4 := iF iD hc
    have hk0 : k = 0 := by
      rcases Nat.eq_zero_or_pos k with e | e
      · exact e
      · obtain ⟨j, rfl⟩ := Nat.exists_eq_succ_of_ne_zero (show k ≠ 0 by omega)
        have := bitOf_pos j
        rw [show bitOf (j + 1) = b from hb.symm] at this
        omega
    subst hk0
    refine AC.exit ?_
    refine thenQ_x ?_
    refine thenQ_x ?_
    refine blockQ_x ?_
    refine thenQ_n ?_
    refine AC.rseq Fr.plain mixed (fun σ7 => RegOK.mk1 [2] ⟨[(2, I r)], mem⟩ (.cons (s_move (.tmp 3 (I r))) (.cons (s_assign (.tmp 21 (I r))) .nil)) (by kernel_rfl) ?_)
    refine AC.ret ?_
    exact FinQ.ret (result1 rfl (res_tmp (v := I r) rfl rfl)) ⟨by rw [← ht]; rfl, rfl⟩

theorem F100 (n : Int) (hn : 0 ≤ n ∧ n ≤ 10000) : Pure Try.prog 100 [I n] (I (cub n)) := by
  intro mem
  have m := mulN 10000 10000 (a := n) (b := n) hn hn
  have m2 := mulN 100000000 10000 (a := n * n) (b := n) (by omega) hn
  refine Meets.body 0 Try.func100 rfl rfl ?_
  refine AC.rseq Fr.plain mixed (fun σ0 => RegOK.mk1 [0] ⟨[(0, I n)], mem⟩ (.cons (s_assign (.int .i64 (0))) .nil) (by kernel_rfl) ?_)
  refine AC.rseq Fr.plain mixed (fun σ1 => RegOK.mk1 [2] ⟨[(2, I ((n * n) * n))], mem⟩ (.cons (s_move (.tmp 0 (I n))) (.cons (s_move (.tmp 0 (I n))) (.cons (s_mul (.tmp 3 (I n)) (.tmp 4 (I n)) (inK_i64 (by omega))) (.cons (s_move (.tmp 0 (I n))) (.cons (s_mul (.tmp 5 (I (n * n))) (.tmp 6 (I n)) (inK_i64 (by omega))) (.cons (s_assign (.tmp 7 (I ((n * n) * n)))) .nil)))))) (by kernel_rfl) ?_)
  refine AC.ret ?_
  exact FinQ.ret (result1 rfl (res_tmp (v := I ((n * n) * n)) rfl rfl)) ⟨by rfl, rfl⟩

theorem F74 (x y : Int) (u0 : Int) (u1 : Int) (v0 : Int) (v1 : Int) (hx : 0 ≤ x ∧ x ≤ 10000000) (hy : 0 ≤ y ∧ y ≤ 10000000) (hu : Rg u0 u1) (hv : Rg v0 v1) : Pure Try.prog 74 [.agg [I x, I y], I u0, I u1, I v0, I v1] (.agg [I (pieceLo x u0 u1 v0 v1), I (pieceHi y u0 u1 v0 v1)]) := by
  intro mem
  have nf := near_in hu hv
  have rs := roots_in hu hv
  have pi := piece_in hx hu hv
  have pj := piece_in hy hu hv
  have s1 := sqLo_hi hu.2.1
  have s2 := sqLo_hi hv.2.1
  have ar := area_in hu hv
  have c1 := cub_big rs.1
  have c2 := cub_big (show 1000 ≤ rootUp (farSq u0 u1 v0 v1) by omega)
  have m1 := mulN 10000 10000 (a := root17 (farSq u0 u1 v0 v1)) (b := root17 (farSq u0 u1 v0 v1)) (by unfold rootUp at rs; split at rs <;> omega) (by unfold rootUp at rs; split at rs <;> omega)
  have rf : 0 ≤ root17 (farSq u0 u1 v0 v1) ∧ root17 (farSq u0 u1 v0 v1) ≤ 7747 := by unfold rootUp at rs; split at rs <;> omega
  have ra := mulN 10000 10000 (a := u1 - u0) (b := v1 - v0) (by unfold Rg at hu; omega) (by unfold Rg at hv; omega)
  have hu9 := hu
  have hv9 := hv
  unfold Rg at hu9 hv9
  unfold area at *
  unfold nearSq farSq at *
  refine Meets.body 2 Try.func74 rfl rfl ?_
  refine AC.rseq Fr.plain mixed (fun σ0 => RegOK.mk1 [1, 2, 3, 4, 5, 10] ⟨[(1, I u0), (2, I u1), (3, I v0), (4, I v1), (5, .ptr (σ0 0) 0), (10, .ptr (σ0 1) 0)], (Ent.box (σ0 0) [I x, I y]) :: (Ent.box (σ0 1) [I 0, I 0]) :: mem⟩ (.cons (s_box 0 (σ0 0) (.tmp 0 (.agg [I x, I y])) rfl) (.cons (s_alloc 1 (σ0 1) zero37) .nil)) (by kernel_rfl) ?_)
  refine AC.rseq Fr.plain mixed (fun σ1 => RegOK.mk1 [1, 2, 3, 4, 5, 10, 11, 12] ⟨[(1, I u0), (2, I u1), (3, I v0), (4, I v1), (5, .ptr (σ0 0) 0), (10, .ptr (σ0 1) 0), (11, I (sqLo u0 u1)), (12, I (sqHi u0 u1))], (Ent.box (σ0 0) [I x, I y]) :: (Ent.box (σ0 1) [I 0, I 0]) :: mem⟩ (.cons (s_move (.tmp 1 (I u0))) (.cons (s_move (.tmp 2 (I u1))) (.cons (s_call (r := .tuple [I (sqLo u0 u1), I (sqHi u0 u1)]) (.func 98) (.cons (.tmp 18 (I u0)) (.cons (.tmp 19 (I u1)) .nil)) call98 (F98 (u0) (u1) (by omega))) (.cons (s_move (.tmp 20 (.tuple [I (sqLo u0 u1), I (sqHi u0 u1)]))) (.cons (s_extract (v := I (sqLo u0 u1)) (.tmp 17 (.tuple [I (sqLo u0 u1), I (sqHi u0 u1)])) rfl) (.cons (s_extract (v := I (sqHi u0 u1)) (.tmp 17 (.tuple [I (sqLo u0 u1), I (sqHi u0 u1)])) rfl) (.cons (s_assign (.tmp 21 (I (sqLo u0 u1)))) (.cons (s_assign (.tmp 22 (I (sqHi u0 u1)))) .nil)))))))) (by kernel_rfl) ?_)
  refine AC.rseq Fr.plain mixed (fun σ2 => RegOK.mk1 [1, 2, 3, 4, 5, 10, 11, 12, 13, 14] ⟨[(1, I u0), (2, I u1), (3, I v0), (4, I v1), (5, .ptr (σ0 0) 0), (10, .ptr (σ0 1) 0), (11, I (sqLo u0 u1)), (12, I (sqHi u0 u1)), (13, I (sqLo v0 v1)), (14, I (sqHi v0 v1))], (Ent.box (σ0 0) [I x, I y]) :: (Ent.box (σ0 1) [I 0, I 0]) :: mem⟩ (.cons (s_move (.tmp 3 (I v0))) (.cons (s_move (.tmp 4 (I v1))) (.cons (s_call (r := .tuple [I (sqLo v0 v1), I (sqHi v0 v1)]) (.func 98) (.cons (.tmp 24 (I v0)) (.cons (.tmp 25 (I v1)) .nil)) call98 (F98 (v0) (v1) (by omega))) (.cons (s_move (.tmp 26 (.tuple [I (sqLo v0 v1), I (sqHi v0 v1)]))) (.cons (s_extract (v := I (sqLo v0 v1)) (.tmp 23 (.tuple [I (sqLo v0 v1), I (sqHi v0 v1)])) rfl) (.cons (s_extract (v := I (sqHi v0 v1)) (.tmp 23 (.tuple [I (sqLo v0 v1), I (sqHi v0 v1)])) rfl) (.cons (s_assign (.tmp 27 (I (sqLo v0 v1)))) (.cons (s_assign (.tmp 28 (I (sqHi v0 v1)))) .nil)))))))) (by kernel_rfl) ?_)
  refine AC.rseq Fr.plain mixed (fun σ3 => RegOK.mk1 [1, 2, 3, 4, 5, 10, 11, 12] ⟨[(1, I u0), (2, I u1), (3, I v0), (4, I v1), (5, .ptr (σ0 0) 0), (10, .ptr (σ0 1) 0), (11, I (((sqLo u0 u1) + (sqLo v0 v1)) + 1000000)), (12, I (((sqHi u0 u1) + (sqHi v0 v1)) + 1000000))], (Ent.box (σ0 0) [I x, I y]) :: (Ent.box (σ0 1) [I 0, I 0]) :: mem⟩ (.cons (s_move (.tmp 11 (I (sqLo u0 u1)))) (.cons (s_move (.tmp 13 (I (sqLo v0 v1)))) (.cons (s_add (.tmp 29 (I (sqLo u0 u1))) (.tmp 30 (I (sqLo v0 v1))) (inK_i64 (by omega))) (.cons (s_add (.tmp 31 (I ((sqLo u0 u1) + (sqLo v0 v1)))) (.int .i64 (1000000)) (inK_i64 (by omega))) (.cons (s_move (.tmp 12 (I (sqHi u0 u1)))) (.cons (s_move (.tmp 14 (I (sqHi v0 v1)))) (.cons (s_add (.tmp 33 (I (sqHi u0 u1))) (.tmp 34 (I (sqHi v0 v1))) (inK_i64 (by omega))) (.cons (s_add (.tmp 35 (I ((sqHi u0 u1) + (sqHi v0 v1)))) (.int .i64 (1000000)) (inK_i64 (by omega))) (.cons (s_assign (.tmp 32 (I (((sqLo u0 u1) + (sqLo v0 v1)) + 1000000)))) (.cons (s_assign (.tmp 36 (I (((sqHi u0 u1) + (sqHi v0 v1)) + 1000000)))) .nil)))))))))) (by kernel_rfl) ?_)
  refine AC.rseq Fr.plain mixed (fun σ4 => RegOK.mk1 [1, 2, 3, 4, 5, 10, 11, 12, 15] ⟨[(1, I u0), (2, I u1), (3, I v0), (4, I v1), (5, .ptr (σ0 0) 0), (10, .ptr (σ0 1) 0), (11, I (((sqLo u0 u1) + (sqLo v0 v1)) + 1000000)), (12, I (((sqHi u0 u1) + (sqHi v0 v1)) + 1000000)), (15, I (root17 (((sqHi u0 u1) + (sqHi v0 v1)) + 1000000)))], (Ent.box (σ0 0) [I x, I y]) :: (Ent.box (σ0 1) [I 0, I 0]) :: mem⟩ (.cons (s_move (.tmp 12 (I (((sqHi u0 u1) + (sqHi v0 v1)) + 1000000)))) (.cons (s_call (r := I (root17 (((sqHi u0 u1) + (sqHi v0 v1)) + 1000000))) (.func 99) (.cons (.tmp 37 (I (((sqHi u0 u1) + (sqHi v0 v1)) + 1000000))) .nil) call99 (F99 ((((sqHi u0 u1) + (sqHi v0 v1)) + 1000000)) (by omega))) (.cons (s_assign (.tmp 38 (I (root17 (((sqHi u0 u1) + (sqHi v0 v1)) + 1000000))))) .nil))) (by kernel_rfl) ?_)
  refine AC.seq ?_
  refine AC.rseq Fr.plain mixed (fun σ5 => RegOK.mk1 [1, 2, 3, 4, 5, 10, 11, 15, 43] ⟨[(1, I u0), (2, I u1), (3, I v0), (4, I v1), (5, .ptr (σ0 0) 0), (10, .ptr (σ0 1) 0), (11, I (((sqLo u0 u1) + (sqLo v0 v1)) + 1000000)), (15, I (root17 (((sqHi u0 u1) + (sqHi v0 v1)) + 1000000))), (43, .bool (decide (((root17 (((sqHi u0 u1) + (sqHi v0 v1)) + 1000000)) * (root17 (((sqHi u0 u1) + (sqHi v0 v1)) + 1000000))) < (((sqHi u0 u1) + (sqHi v0 v1)) + 1000000))))], (Ent.box (σ0 0) [I x, I y]) :: (Ent.box (σ0 1) [I 0, I 0]) :: mem⟩ (.cons (s_move (.tmp 15 (I (root17 (((sqHi u0 u1) + (sqHi v0 v1)) + 1000000))))) (.cons (s_move (.tmp 15 (I (root17 (((sqHi u0 u1) + (sqHi v0 v1)) + 1000000))))) (.cons (s_mul (.tmp 39 (I (root17 (((sqHi u0 u1) + (sqHi v0 v1)) + 1000000)))) (.tmp 40 (I (root17 (((sqHi u0 u1) + (sqHi v0 v1)) + 1000000)))) (inK_i64 (by omega))) (.cons (s_move (.tmp 12 (I (((sqHi u0 u1) + (sqHi v0 v1)) + 1000000)))) (.cons (s_lss (.tmp 41 (I ((root17 (((sqHi u0 u1) + (sqHi v0 v1)) + 1000000)) * (root17 (((sqHi u0 u1) + (sqHi v0 v1)) + 1000000))))) (.tmp 42 (I (((sqHi u0 u1) + (sqHi v0 v1)) + 1000000)))) .nil))))) (by kernel_rfl) ?_)
  refine AC.cend (decide (((root17 (((sqHi u0 u1) + (sqHi v0 v1)) + 1000000)) * (root17 (((sqHi u0 u1) + (sqHi v0 v1)) + 1000000))) < (((sqHi u0 u1) + (sqHi v0 v1)) + 1000000))) rfl rfl (fun hc => ?_) (fun hc => ?_)
  · have q1 := iD.1 hc
    have hru : rootUp (((sqHi u0 u1) + (sqHi v0 v1)) + 1000000) = root17 (((sqHi u0 u1) + (sqHi v0 v1)) + 1000000) + 1 := by unfold rootUp; rw [if_pos (by omega)]
    rw [hru] at c2 rs
    refine AC.rend Fr.plain mixed (fun σ6 => RegOK.mk1 [1, 2, 3, 4, 5, 10, 11, 15] ⟨[(1, I u0), (2, I u1), (3, I v0), (4, I v1), (5, .ptr (σ0 0) 0), (10, .ptr (σ0 1) 0), (11, I (((sqLo u0 u1) + (sqLo v0 v1)) + 1000000)), (15, I ((root17 (((sqHi u0 u1) + (sqHi v0 v1)) + 1000000)) + 1))], (Ent.box (σ0 0) [I x, I y]) :: (Ent.box (σ0 1) [I 0, I 0]) :: mem⟩ (.cons (s_move (.tmp 15 (I (root17 (((sqHi u0 u1) + (sqHi v0 v1)) + 1000000))))) (.cons (s_add (.tmp 44 (I (root17 (((sqHi u0 u1) + (sqHi v0 v1)) + 1000000)))) (.int .i64 (1)) (inK_i64 (by omega))) (.cons (s_assign (.tmp 45 (I ((root17 (((sqHi u0 u1) + (sqHi v0 v1)) + 1000000)) + 1)))) .nil))) (by kernel_rfl) ?_)
    refine thenQ_n ?_
    refine AC.rseq Fr.plain mixed (fun σ7 => RegOK.mk1 [5, 10, 11, 15, 16] ⟨[(5, .ptr (σ0 0) 0), (10, .ptr (σ0 1) 0), (11, I (((sqLo u0 u1) + (sqLo v0 v1)) + 1000000)), (15, I ((root17 (((sqHi u0 u1) + (sqHi v0 v1)) + 1000000)) + 1)), (16, I (((u1 - u0) * (v1 - v0)) * 1000))], (Ent.box (σ0 0) [I x, I y]) :: (Ent.box (σ0 1) [I 0, I 0]) :: mem⟩ (.cons (s_move (.tmp 2 (I u1))) (.cons (s_move (.tmp 1 (I u0))) (.cons (s_sub (.tmp 46 (I u1)) (.tmp 47 (I u0)) (inK_i64 (by omega))) (.cons (s_move (.tmp 4 (I v1))) (.cons (s_move (.tmp 3 (I v0))) (.cons (s_sub (.tmp 49 (I v1)) (.tmp 50 (I v0)) (inK_i64 (by omega))) (.cons (s_mul (.tmp 48 (I (u1 - u0))) (.tmp 51 (I (v1 - v0))) (inK_i64 (by omega))) (.cons (s_mul (.tmp 52 (I ((u1 - u0) * (v1 - v0)))) (.int .i64 (1000)) (inK_i64 (by omega))) (.cons (s_assign (.tmp 53 (I (((u1 - u0) * (v1 - v0)) * 1000)))) .nil))))))))) (by kernel_rfl) ?_)
    refine AC.rseq Fr.plain mixed (fun σ8 => RegOK.mk1 [10] ⟨[(10, .ptr (σ0 1) 0)], (Ent.box (σ0 0) [I x, I y]) :: (Ent.box (σ0 1) [I ((x * (((u1 - u0) * (v1 - v0)) * 1000)) / (cub ((root17 (((sqHi u0 u1) + (sqHi v0 v1)) + 1000000)) + 1))), I (up (y * (((u1 - u0) * (v1 - v0)) * 1000)) (cub (root17 (((sqLo u0 u1) + (sqLo v0 v1)) + 1000000))))]) :: mem⟩ (.cons (s_fieldAddr fld37_0 (.tmp 5 (.ptr (σ0 0) 0))) (.cons (s_load1 (cs := [I x, I y]) (c := I x) 0 tyS3 (.tmp 54 (.ptr (σ0 0) 0)) rfl) (.cons (s_move (.tmp 16 (I (((u1 - u0) * (v1 - v0)) * 1000)))) (.cons (s_mul (.tmp 55 (I x)) (.tmp 56 (I (((u1 - u0) * (v1 - v0)) * 1000))) (inK_i64 (by omega))) (.cons (s_move (.tmp 15 (I ((root17 (((sqHi u0 u1) + (sqHi v0 v1)) + 1000000)) + 1)))) (.cons (s_call (r := I (cub ((root17 (((sqHi u0 u1) + (sqHi v0 v1)) + 1000000)) + 1))) (.func 100) (.cons (.tmp 58 (I ((root17 (((sqHi u0 u1) + (sqHi v0 v1)) + 1000000)) + 1))) .nil) call100 (F100 (((root17 (((sqHi u0 u1) + (sqHi v0 v1)) + 1000000)) + 1)) (by omega))) (.cons (s_call (r := I ((x * (((u1 - u0) * (v1 - v0)) * 1000)) / (cub ((root17 (((sqHi u0 u1) + (sqHi v0 v1)) + 1000000)) + 1)))) (.func 64) (.cons (.tmp 57 (I (x * (((u1 - u0) * (v1 - v0)) * 1000)))) (.cons (.tmp 59 (I (cub ((root17 (((sqHi u0 u1) + (sqHi v0 v1)) + 1000000)) + 1)))) .nil)) call64 (F64 ((x * (((u1 - u0) * (v1 - v0)) * 1000))) ((cub ((root17 (((sqHi u0 u1) + (sqHi v0 v1)) + 1000000)) + 1))) (by omega) (by omega))) (.cons (s_fieldAddr fld37_1 (.tmp 5 (.ptr (σ0 0) 0))) (.cons (s_load1 (cs := [I x, I y]) (c := I y) 0 tyS3 (.tmp 61 (.ptr (σ0 0) 1)) rfl) (.cons (s_move (.tmp 16 (I (((u1 - u0) * (v1 - v0)) * 1000)))) (.cons (s_mul (.tmp 62 (I y)) (.tmp 63 (I (((u1 - u0) * (v1 - v0)) * 1000))) (inK_i64 (by omega))) (.cons (s_move (.tmp 11 (I (((sqLo u0 u1) + (sqLo v0 v1)) + 1000000)))) (.cons (s_call (r := I (root17 (((sqLo u0 u1) + (sqLo v0 v1)) + 1000000))) (.func 99) (.cons (.tmp 65 (I (((sqLo u0 u1) + (sqLo v0 v1)) + 1000000))) .nil) call99 (F99 ((((sqLo u0 u1) + (sqLo v0 v1)) + 1000000)) (by omega))) (.cons (s_call (r := I (cub (root17 (((sqLo u0 u1) + (sqLo v0 v1)) + 1000000)))) (.func 100) (.cons (.tmp 66 (I (root17 (((sqLo u0 u1) + (sqLo v0 v1)) + 1000000)))) .nil) call100 (F100 ((root17 (((sqLo u0 u1) + (sqLo v0 v1)) + 1000000))) (by omega))) (.cons (s_call (r := I (up (y * (((u1 - u0) * (v1 - v0)) * 1000)) (cub (root17 (((sqLo u0 u1) + (sqLo v0 v1)) + 1000000))))) (.func 65) (.cons (.tmp 64 (I (y * (((u1 - u0) * (v1 - v0)) * 1000)))) (.cons (.tmp 67 (I (cub (root17 (((sqLo u0 u1) + (sqLo v0 v1)) + 1000000))))) .nil)) call65 (F65 ((y * (((u1 - u0) * (v1 - v0)) * 1000))) ((cub (root17 (((sqLo u0 u1) + (sqLo v0 v1)) + 1000000)))) (by omega) (by omega))) (.cons (s_build (l := [I ((x * (((u1 - u0) * (v1 - v0)) * 1000)) / (cub ((root17 (((sqHi u0 u1) + (sqHi v0 v1)) + 1000000)) + 1))), I (up (y * (((u1 - u0) * (v1 - v0)) * 1000)) (cub (root17 (((sqLo u0 u1) + (sqLo v0 v1)) + 1000000))))]) zero37 plc37 (.cons rfl (.tmp 60 (I ((x * (((u1 - u0) * (v1 - v0)) * 1000)) / (cub ((root17 (((sqHi u0 u1) + (sqHi v0 v1)) + 1000000)) + 1))))) (.cons rfl (.tmp 68 (I (up (y * (((u1 - u0) * (v1 - v0)) * 1000)) (cub (root17 (((sqLo u0 u1) + (sqLo v0 v1)) + 1000000)))))) .nil)) rfl) (.cons (s_store (cs := [I 0, I 0]) 1 sz37 (.tmp 10 (.ptr (σ0 1) 0)) (.tmp 69 (.agg [I ((x * (((u1 - u0) * (v1 - v0)) * 1000)) / (cub ((root17 (((sqHi u0 u1) + (sqHi v0 v1)) + 1000000)) + 1))), I (up (y * (((u1 - u0) * (v1 - v0)) * 1000)) (cub (root17 (((sqLo u0 u1) + (sqLo v0 v1)) + 1000000))))])) rfl rfl rfl (Nat.le_of_ble_eq_true rfl)) .nil))))))))))))))))) (by kernel_rfl) ?_)
    refine AC.ret ?_
    exact FinQ.ret (result1 rfl (res_cell (s := (σ0 1)) (cs := [I ((x * (((u1 - u0) * (v1 - v0)) * 1000)) / (cub ((root17 (((sqHi u0 u1) + (sqHi v0 v1)) + 1000000)) + 1))), I (up (y * (((u1 - u0) * (v1 - v0)) * 1000)) (cub (root17 (((sqLo u0 u1) + (sqLo v0 v1)) + 1000000))))]) (l := [I ((x * (((u1 - u0) * (v1 - v0)) * 1000)) / (cub ((root17 (((sqHi u0 u1) + (sqHi v0 v1)) + 1000000)) + 1))), I (up (y * (((u1 - u0) * (v1 - v0)) * 1000)) (cub (root17 (((sqLo u0 u1) + (sqLo v0 v1)) + 1000000))))]) 1 rfl rfl rfl tyA37 rfl rfl)) ⟨by unfold pieceLo pieceHi area farSq nearSq; rw [hru], rfl⟩
  · have q2 := iF iD hc
    have hru : rootUp (((sqHi u0 u1) + (sqHi v0 v1)) + 1000000) = root17 (((sqHi u0 u1) + (sqHi v0 v1)) + 1000000) := by unfold rootUp; rw [if_neg (by omega)]
    rw [hru] at c2 rs
    refine AC.skip ?_
    refine thenQ_n ?_
    refine AC.rseq Fr.plain mixed (fun σ7 => RegOK.mk1 [5, 10, 11, 15, 16] ⟨[(5, .ptr (σ0 0) 0), (10, .ptr (σ0 1) 0), (11, I (((sqLo u0 u1) + (sqLo v0 v1)) + 1000000)), (15, I (root17 (((sqHi u0 u1) + (sqHi v0 v1)) + 1000000))), (16, I (((u1 - u0) * (v1 - v0)) * 1000))], (Ent.box (σ0 0) [I x, I y]) :: (Ent.box (σ0 1) [I 0, I 0]) :: mem⟩ (.cons (s_move (.tmp 2 (I u1))) (.cons (s_move (.tmp 1 (I u0))) (.cons (s_sub (.tmp 46 (I u1)) (.tmp 47 (I u0)) (inK_i64 (by omega))) (.cons (s_move (.tmp 4 (I v1))) (.cons (s_move (.tmp 3 (I v0))) (.cons (s_sub (.tmp 49 (I v1)) (.tmp 50 (I v0)) (inK_i64 (by omega))) (.cons (s_mul (.tmp 48 (I (u1 - u0))) (.tmp 51 (I (v1 - v0))) (inK_i64 (by omega))) (.cons (s_mul (.tmp 52 (I ((u1 - u0) * (v1 - v0)))) (.int .i64 (1000)) (inK_i64 (by omega))) (.cons (s_assign (.tmp 53 (I (((u1 - u0) * (v1 - v0)) * 1000)))) .nil))))))))) (by kernel_rfl) ?_)
    refine AC.rseq Fr.plain mixed (fun σ8 => RegOK.mk1 [10] ⟨[(10, .ptr (σ0 1) 0)], (Ent.box (σ0 0) [I x, I y]) :: (Ent.box (σ0 1) [I ((x * (((u1 - u0) * (v1 - v0)) * 1000)) / (cub (root17 (((sqHi u0 u1) + (sqHi v0 v1)) + 1000000)))), I (up (y * (((u1 - u0) * (v1 - v0)) * 1000)) (cub (root17 (((sqLo u0 u1) + (sqLo v0 v1)) + 1000000))))]) :: mem⟩ (.cons (s_fieldAddr fld37_0 (.tmp 5 (.ptr (σ0 0) 0))) (.cons (s_load1 (cs := [I x, I y]) (c := I x) 0 tyS3 (.tmp 54 (.ptr (σ0 0) 0)) rfl) (.cons (s_move (.tmp 16 (I (((u1 - u0) * (v1 - v0)) * 1000)))) (.cons (s_mul (.tmp 55 (I x)) (.tmp 56 (I (((u1 - u0) * (v1 - v0)) * 1000))) (inK_i64 (by omega))) (.cons (s_move (.tmp 15 (I (root17 (((sqHi u0 u1) + (sqHi v0 v1)) + 1000000))))) (.cons (s_call (r := I (cub (root17 (((sqHi u0 u1) + (sqHi v0 v1)) + 1000000)))) (.func 100) (.cons (.tmp 58 (I (root17 (((sqHi u0 u1) + (sqHi v0 v1)) + 1000000)))) .nil) call100 (F100 ((root17 (((sqHi u0 u1) + (sqHi v0 v1)) + 1000000))) (by omega))) (.cons (s_call (r := I ((x * (((u1 - u0) * (v1 - v0)) * 1000)) / (cub (root17 (((sqHi u0 u1) + (sqHi v0 v1)) + 1000000))))) (.func 64) (.cons (.tmp 57 (I (x * (((u1 - u0) * (v1 - v0)) * 1000)))) (.cons (.tmp 59 (I (cub (root17 (((sqHi u0 u1) + (sqHi v0 v1)) + 1000000))))) .nil)) call64 (F64 ((x * (((u1 - u0) * (v1 - v0)) * 1000))) ((cub (root17 (((sqHi u0 u1) + (sqHi v0 v1)) + 1000000)))) (by omega) (by omega))) (.cons (s_fieldAddr fld37_1 (.tmp 5 (.ptr (σ0 0) 0))) (.cons (s_load1 (cs := [I x, I y]) (c := I y) 0 tyS3 (.tmp 61 (.ptr (σ0 0) 1)) rfl) (.cons (s_move (.tmp 16 (I (((u1 - u0) * (v1 - v0)) * 1000)))) (.cons (s_mul (.tmp 62 (I y)) (.tmp 63 (I (((u1 - u0) * (v1 - v0)) * 1000))) (inK_i64 (by omega))) (.cons (s_move (.tmp 11 (I (((sqLo u0 u1) + (sqLo v0 v1)) + 1000000)))) (.cons (s_call (r := I (root17 (((sqLo u0 u1) + (sqLo v0 v1)) + 1000000))) (.func 99) (.cons (.tmp 65 (I (((sqLo u0 u1) + (sqLo v0 v1)) + 1000000))) .nil) call99 (F99 ((((sqLo u0 u1) + (sqLo v0 v1)) + 1000000)) (by omega))) (.cons (s_call (r := I (cub (root17 (((sqLo u0 u1) + (sqLo v0 v1)) + 1000000)))) (.func 100) (.cons (.tmp 66 (I (root17 (((sqLo u0 u1) + (sqLo v0 v1)) + 1000000)))) .nil) call100 (F100 ((root17 (((sqLo u0 u1) + (sqLo v0 v1)) + 1000000))) (by omega))) (.cons (s_call (r := I (up (y * (((u1 - u0) * (v1 - v0)) * 1000)) (cub (root17 (((sqLo u0 u1) + (sqLo v0 v1)) + 1000000))))) (.func 65) (.cons (.tmp 64 (I (y * (((u1 - u0) * (v1 - v0)) * 1000)))) (.cons (.tmp 67 (I (cub (root17 (((sqLo u0 u1) + (sqLo v0 v1)) + 1000000))))) .nil)) call65 (F65 ((y * (((u1 - u0) * (v1 - v0)) * 1000))) ((cub (root17 (((sqLo u0 u1) + (sqLo v0 v1)) + 1000000)))) (by omega) (by omega))) (.cons (s_build (l := [I ((x * (((u1 - u0) * (v1 - v0)) * 1000)) / (cub (root17 (((sqHi u0 u1) + (sqHi v0 v1)) + 1000000)))), I (up (y * (((u1 - u0) * (v1 - v0)) * 1000)) (cub (root17 (((sqLo u0 u1) + (sqLo v0 v1)) + 1000000))))]) zero37 plc37 (.cons rfl (.tmp 60 (I ((x * (((u1 - u0) * (v1 - v0)) * 1000)) / (cub (root17 (((sqHi u0 u1) + (sqHi v0 v1)) + 1000000)))))) (.cons rfl (.tmp 68 (I (up (y * (((u1 - u0) * (v1 - v0)) * 1000)) (cub (root17 (((sqLo u0 u1) + (sqLo v0 v1)) + 1000000)))))) .nil)) rfl) (.cons (s_store (cs := [I 0, I 0]) 1 sz37 (.tmp 10 (.ptr (σ0 1) 0)) (.tmp 69 (.agg [I ((x * (((u1 - u0) * (v1 - v0)) * 1000)) / (cub (root17 (((sqHi u0 u1) + (sqHi v0 v1)) + 1000000)))), I (up (y * (((u1 - u0) * (v1 - v0)) * 1000)) (cub (root17 (((sqLo u0 u1) + (sqLo v0 v1)) + 1000000))))])) rfl rfl rfl (Nat.le_of_ble_eq_true rfl)) .nil))))))))))))))))) (by kernel_rfl) ?_)
    refine AC.ret ?_
    exact FinQ.ret (result1 rfl (res_cell (s := (σ0 1)) (cs := [I ((x * (((u1 - u0) * (v1 - v0)) * 1000)) / (cub (root17 (((sqHi u0 u1) + (sqHi v0 v1)) + 1000000)))), I (up (y * (((u1 - u0) * (v1 - v0)) * 1000)) (cub (root17 (((sqLo u0 u1) + (sqLo v0 v1)) + 1000000))))]) (l := [I ((x * (((u1 - u0) * (v1 - v0)) * 1000)) / (cub (root17 (((sqHi u0 u1) + (sqHi v0 v1)) + 1000000)))), I (up (y * (((u1 - u0) * (v1 - v0)) * 1000)) (cub (root17 (((sqLo u0 u1) + (sqLo v0 v1)) + 1000000))))]) 1 rfl rfl rfl tyA37 rfl rfl)) ⟨by unfold pieceLo pieceHi area farSq nearSq; rw [hru], rfl⟩

end Go.Proofs.Ytjhecgiipajdpaa
