/- What ages; parts and halves of rectangles; small tables. -/
import Derived.Test.YtjhecgiipajdpaaSp14
import Derived.Test.YtjhecgiipajdpaaSp16
import Derived.Test.YtjhecgiipajdpaaAv17
set_option linter.unusedVariables false
set_option linter.unusedSimpArgs false
namespace Go.Proofs.Ytjhecgiipajdpaa
/-! ### Ages -/
theorem flux_ok {c : Cat} {i H M L : Int} (h : (Flux c i H M L).2.2 = 0) : lampedE c i = 0 ∧ useErr H M L = 0 ∧ (Flux c i H M L).1 = fluxLo (c.lamps.getD i.toNat default) H M L ∧ (Flux c i H M L).2.1 = fluxHi (c.lamps.getD i.toNat default) H M L := by
  unfold Flux at h
  split at h
  · rename_i h1; exact absurd h h1
  · rename_i h1
    split at h
    · rename_i h2; exact absurd h h2
    · rename_i h2
      have e := (lampedE_ok (Decidable.not_not.1 h1)).2.2.2
      refine ⟨Decidable.not_not.1 h1, Decidable.not_not.1 h2, ?_, ?_⟩ <;> (unfold Flux; rw [if_neg h1, if_neg h2, e])
theorem power_eq {c : Cat} {i L : Int} (hE : lampedE c i = 0) (hL : 0 ≤ L ∧ L ≤ 1000) : (Power c i L).2.2 = 0 ∧ (Power c i L).1 = powerLo (c.lamps.getD i.toNat default) L ∧ (Power c i L).2.1 = powerHi (c.lamps.getD i.toNat default) L := by
  have e := (lampedE_ok hE).2.2.2
  unfold Power
  rw [if_neg (by omega), if_neg (by omega), e]
  exact ⟨rfl, rfl, rfl⟩
theorem power_mono {x : Lamp} (g : GoodL x) {L L' : Int} (h : 0 ≤ L' ∧ L' ≤ L ∧ L ≤ 1000) : powerLo x L' ≤ powerLo x L ∧ powerHi x L' ≤ powerHi x L := by
  have p := power_in g (L := L') (by omega)
  have b := g.standing
  have c := g.tolerance
  have m := Int.mul_le_mul_of_nonneg_left h.2.1 (show 0 ≤ x.power - x.standing by omega)
  have q : powerT x L' ≤ powerT x L := by unfold powerT; omega
  exact ⟨(step_dn (by decide) ⟨p.2.2.1.1, q⟩ ⟨by omega, Int.le_refl _⟩).2, (step_up (by decide) ⟨p.2.2.1.1, q⟩ ⟨by omega, Int.le_refl _⟩).2⟩
theorem towards_eq {c : Cat} {i H M L : Int} (X0 X1 Y0 Y1 h : Int) (hE : lampedE c i = 0) (hU : useErr H M L = 0) : Towards c i H M L X0 X1 Y0 Y1 h =
    if rectErr X0 X1 Y0 Y1 h ≠ 0 then (0, 0, rectErr X0 X1 Y0 Y1 h)
    else ((ovr (c.tables.getD (c.lamps.getD i.toNat default).table.toNat default) X0 X1 Y0 Y1 h).1 * fluxLo (c.lamps.getD i.toNat default) H M L / 1000, up ((ovr (c.tables.getD (c.lamps.getD i.toNat default).table.toNat default) X0 X1 Y0 Y1 h).2 * fluxHi (c.lamps.getD i.toNat default) H M L) 1000, 0) := by
  have e := (lampedE_ok hE).2.2.2
  unfold Towards
  rw [if_neg (by omega), if_neg (by omega), e]
theorem ages {c : Cat} {i H M L m0 m1 m2 : Int} (X0 X1 Y0 Y1 h : Int) (hm : (0 ≤ m0 ∧ m0 ≤ 65535) ∧ (0 ≤ m1 ∧ m1 ≤ 65535) ∧ (0 ≤ m2 ∧ m2 ≤ 65535)) (e1 : (Flux c i H M L).2.2 = 0) (e2 : (Flux c i (w64 (H + m0)) (w64 (M + m1)) (w64 (L - m2))).2.2 = 0) :
    ((Flux c i (w64 (H + m0)) (w64 (M + m1)) (w64 (L - m2))).1 ≤ (Flux c i H M L).1 ∧ (Flux c i (w64 (H + m0)) (w64 (M + m1)) (w64 (L - m2))).2.1 ≤ (Flux c i H M L).2.1 ∧ (Flux c i H M L).1 ≤ (Flux c i H M L).2.1 ∧ 0 ≤ (Flux c i (w64 (H + m0)) (w64 (M + m1)) (w64 (L - m2))).1) ∧
    ((Power c i L).2.2 = 0 ∧ (Power c i (w64 (L - m2))).2.2 = 0 ∧ (Power c i (w64 (L - m2))).1 ≤ (Power c i L).1 ∧ (Power c i (w64 (L - m2))).2.1 ≤ (Power c i L).2.1) ∧
    ((Towards c i H M L X0 X1 Y0 Y1 h).2.2 = (Towards c i (w64 (H + m0)) (w64 (M + m1)) (w64 (L - m2)) X0 X1 Y0 Y1 h).2.2 ∧
      (Towards c i (w64 (H + m0)) (w64 (M + m1)) (w64 (L - m2)) X0 X1 Y0 Y1 h).1 ≤ (Towards c i H M L X0 X1 Y0 Y1 h).1 ∧ (Towards c i (w64 (H + m0)) (w64 (M + m1)) (w64 (L - m2)) X0 X1 Y0 Y1 h).2.1 ≤ (Towards c i H M L X0 X1 Y0 Y1 h).2.1) := by
  obtain ⟨hE, hU, f1, f2⟩ := flux_ok e1
  obtain ⟨_, hU', f3, f4⟩ := flux_ok e2
  have hu := useErr_ok hU
  have hu' := useErr_ok hU'
  have w0 : w64 (H + m0) = H + m0 := w64_of (by omega)
  have w1 : w64 (M + m1) = M + m1 := w64_of (by omega)
  have w2 : w64 (L - m2) = L - m2 := w64_of (by omega)
  rw [f1, f2, f3, f4]
  rw [w0, w1, w2] at hU' hu' ⊢
  have g1 : 0 ≤ H ∧ H ≤ H + m0 := by omega
  have g2 : 0 ≤ M ∧ M ≤ M + m1 := by omega
  have g3 : 0 ≤ L - m2 ∧ L - m2 ≤ L := by omega
  generalize H + m0 = H' at *
  generalize M + m1 = M' at *
  generalize L - m2 = L' at *
  obtain ⟨k1, k2, k3, k4⟩ := lampedE_ok hE
  obtain ⟨gl, tb1, tb2⟩ := (check_ok k1).2.2.2 i.toNat (by omega)
  have m := flux_mono gl g1 g2 g3
  have pm := power_mono gl (L := L) (L' := L') (by omega)
  have p1 := power_eq hE (L := L) (by omega)
  have p2 := power_eq hE (L := L') (by omega)
  refine ⟨⟨m.1.2, m.2.2, ?_, m.1.1⟩, by omega, ?_⟩
  · -- the ends are in order
    have a := gl.age
    have d := gl.dirt
    have l := gl.lumens
    have s1 : fluxLo (c.lamps.getD i.toNat default) H M L ≤ fluxHi (c.lamps.getD i.toNat default) H M L := by
      unfold fluxLo fluxHi leftDn leftUp
      have e1 : 0 ≤ max (1000000 - (c.lamps.getD i.toNat default).ageHi * H) 0 ∧ max (1000000 - (c.lamps.getD i.toNat default).ageHi * H) 0 ≤ max (1000000 - (c.lamps.getD i.toNat default).ageLo * H) 0 := by
        have := Int.mul_le_mul_of_nonneg_right a.2.1 g1.1; omega
      have e2 : 0 ≤ max (1000 - (c.lamps.getD i.toNat default).dirtHi * M) 0 ∧ max (1000 - (c.lamps.getD i.toNat default).dirtHi * M) 0 ≤ max (1000 - (c.lamps.getD i.toNat default).dirtLo * M) 0 := by
        have := Int.mul_le_mul_of_nonneg_right d.2.1 g2.1; omega
      have du : ∀ {x x' m m' k : Int}, 0 < k → (0 ≤ x ∧ x ≤ x') → (0 ≤ m ∧ m ≤ m') → 0 ≤ x * m / k ∧ x * m / k ≤ up (x' * m') k := fun hk hx hm =>
        ⟨Int.ediv_nonneg (Int.mul_nonneg hx.1 hm.1) (by omega), dn_up hk (Int.mul_le_mul hx.2 hm.2 hm.1 (by omega))⟩
      exact (du (by decide) (du (by decide) (du (by decide) ⟨by omega, Int.le_refl _⟩ e1) e2) ⟨by omega, Int.le_refl _⟩).2
    exact s1
  · rw [towards_eq X0 X1 Y0 Y1 h hE hU, towards_eq X0 X1 Y0 Y1 h hE hU']
    by_cases hr : rectErr X0 X1 Y0 Y1 h ≠ 0
    · rw [if_pos hr, if_pos hr]
      exact ⟨rfl, Int.le_refl _, Int.le_refl _⟩
    · rw [if_neg hr, if_neg hr]
      have hrr := rectErr_ok (Decidable.not_not.1 hr)
      have g := (check_ok k1).2.2.1 (c.lamps.getD i.toNat default).table.toNat (by omega)
      have ho := over_in (g.view hrr.1) (1000 * X0) (1000 * X1) (1000 * Y0) (1000 * Y1)
      have s1 := step_dn (d := 1000) (by decide) ⟨ho.1.1, Int.le_refl _⟩ m.1
      have s2 := step_up (d := 1000) (by decide) ⟨ho.2.1, Int.le_refl _⟩ m.2
      exact ⟨rfl, s1.2, s2.2⟩

/-! ### Parts -/
theorem cross_rng {l : List Int} {a b x : Int} (hab : a ≤ b) (h : x ∈ cross l a b) : a ≤ x ∧ x ≤ b := by
  unfold cross at h
  simp only [List.mem_append, List.mem_cons, List.not_mem_nil, or_false, List.mem_filter, Bool.and_eq_true, decide_eq_true_eq] at h
  omega
theorem cross_half {l : List Int} {a m b x : Int} (h : x ∈ cross l a b) : x ∈ cross l a m ∨ x ∈ cross l m b := by
  unfold cross at *
  simp only [List.mem_append, List.mem_cons, List.not_mem_nil, or_false, List.mem_filter, Bool.and_eq_true, decide_eq_true_eq] at *
  rcases h with (h | h) | ⟨h, h1, h2⟩
  · exact .inl (.inl (.inl h))
  · exact .inr (.inl (.inr h))
  · rcases Int.lt_trichotomy x m with e | e | e
    · exact .inl (.inr ⟨h, h1, e⟩)
    · exact .inl (.inl (.inr e))
    · exact .inr (.inr ⟨h, e, h2⟩)
section
variable {t : Table} {us vs : List Int}
theorem near_pt (g : GoodV t us vs) {u v x0 x1 y0 y1 : Int} (hx : x0 ≤ u ∧ u ≤ x1) (hy : y0 ≤ v ∧ v ≤ y1) : (over t us vs x0 x1 y0 y1).1 - 1 ≤ atLo t us vs u v ∧ atHi t us vs u v ≤ (over t us vs x0 x1 y0 y1).2 + 1 := by
  by_cases hb : hasB us vs u v = true
  · obtain ⟨k1, k2⟩ := In1.of_has g hb
    have o := over_holds g k1 k2 hx hy
    have a := at_holds g k1 k2
    have P : 0 < cellD us vs (fld us u) (fld vs v) := Int.mul_pos (k1.step g.ui) (k2.step g.vi)
    have h1 := Int.lt_of_mul_lt_mul_right (Int.lt_of_le_of_lt o.1 a.1.2) (Int.le_of_lt P)
    have h2 := Int.lt_of_mul_lt_mul_right (Int.lt_of_lt_of_le a.2.2 o.2) (Int.le_of_lt P)
    omega
  · have o := over_out (t := t) hx hy (Bool.eq_false_iff.2 hb)
    unfold atLo atHi
    rw [if_neg hb, if_neg hb]
    omega
theorem near_sub (g : GoodV t us vs) {x0 x1 y0 y1 a0 a1 b0 b1 : Int} (h1 : x0 ≤ a0 ∧ a0 ≤ a1 ∧ a1 ≤ x1) (h2 : y0 ≤ b0 ∧ b0 ≤ b1 ∧ b1 ≤ y1) :
    (over t us vs x0 x1 y0 y1).1 - 1 ≤ (over t us vs a0 a1 b0 b1).1 ∧ (over t us vs a0 a1 b0 b1).2 ≤ (over t us vs x0 x1 y0 y1).2 + 1 := by
  obtain ⟨⟨u, v, p1, e1⟩, ⟨u', v', p2, e2⟩, _⟩ := Cov.over t us vs a0 a1 b0 b1
  have key : ∀ u v, Pts us vs a0 a1 b0 b1 u v → (x0 ≤ u ∧ u ≤ x1) ∧ (y0 ≤ v ∧ v ≤ y1) := by
    rintro u v (⟨h, k⟩ | ⟨h, k, _⟩)
    · omega
    · have := cross_rng h1.2.1 h
      have := cross_rng h2.2.1 k
      omega
  have n1 := near_pt g (key u v p1).1 (key u v p1).2
  have n2 := near_pt g (key u' v' p2).1 (key u' v' p2).2
  omega
theorem half_x {x0 m x1 y0 y1 : Int} : min (over t us vs x0 m y0 y1).1 (over t us vs m x1 y0 y1).1 ≤ (over t us vs x0 x1 y0 y1).1 ∧ (over t us vs x0 x1 y0 y1).2 ≤ max (over t us vs x0 m y0 y1).2 (over t us vs m x1 y0 y1).2 := by
  obtain ⟨⟨u, v, p1, e1⟩, ⟨u', v', p2, e2⟩, _⟩ := Cov.over t us vs x0 x1 y0 y1
  have A := (Cov.over t us vs x0 m y0 y1).2.2
  have B := (Cov.over t us vs m x1 y0 y1).2.2
  have key : ∀ u v, Pts us vs x0 x1 y0 y1 u v → Pts us vs x0 m y0 y1 u v ∨ Pts us vs m x1 y0 y1 u v := by
    rintro u v (⟨h | h, k⟩ | ⟨h, k, hb⟩)
    · exact .inl (.inl ⟨.inl h, k⟩)
    · exact .inr (.inl ⟨.inr h, k⟩)
    · rcases cross_half (m := m) h with h | h
      · exact .inl (.inr ⟨h, k, hb⟩)
      · exact .inr (.inr ⟨h, k, hb⟩)
  constructor
  · rcases key u v p1 with h | h
    · have := (A u v h).1; omega
    · have := (B u v h).1; omega
  · rcases key u' v' p2 with h | h
    · have := (A u' v' h).2; omega
    · have := (B u' v' h).2; omega
theorem half_y {x0 m x1 y0 y1 : Int} : min (over t us vs x0 x1 y0 m).1 (over t us vs x0 x1 m y1).1 ≤ (over t us vs x0 x1 y0 y1).1 ∧ (over t us vs x0 x1 y0 y1).2 ≤ max (over t us vs x0 x1 y0 m).2 (over t us vs x0 x1 m y1).2 := by
  obtain ⟨⟨u, v, p1, e1⟩, ⟨u', v', p2, e2⟩, _⟩ := Cov.over t us vs x0 x1 y0 y1
  have A := (Cov.over t us vs x0 x1 y0 m).2.2
  have B := (Cov.over t us vs x0 x1 m y1).2.2
  have key : ∀ u v, Pts us vs x0 x1 y0 y1 u v → Pts us vs x0 x1 y0 m u v ∨ Pts us vs x0 x1 m y1 u v := by
    rintro u v (⟨h, k | k⟩ | ⟨h, k, hb⟩)
    · exact .inl (.inl ⟨h, .inl k⟩)
    · exact .inr (.inl ⟨h, .inr k⟩)
    · rcases cross_half (m := m) k with k | k
      · exact .inl (.inr ⟨h, k, hb⟩)
      · exact .inr (.inr ⟨h, k, hb⟩)
  constructor
  · rcases key u v p1 with h | h
    · have := (A u v h).1; omega
    · have := (B u v h).1; omega
  · rcases key u' v' p2 with h | h
    · have := (A u' v' h).2; omega
    · have := (B u' v' h).2; omega
end
theorem over_ok {c : Cat} {i X0 X1 Y0 Y1 H : Int} (h : (Over c i X0 X1 Y0 Y1 H).2.2 = 0) : tabled c i = 0 ∧ rectErr X0 X1 Y0 Y1 H = 0 := by
  unfold Over at h
  split at h
  · rename_i h1; exact absurd h h1
  · rename_i h1
    split at h
    · rename_i h2; exact absurd h h2
    · rename_i h2; exact ⟨Decidable.not_not.1 h1, Decidable.not_not.1 h2⟩
theorem over_eq {c : Cat} {i X0 X1 Y0 Y1 H : Int} (h1 : tabled c i = 0) (h2 : rectErr X0 X1 Y0 Y1 H = 0) :
    (Over c i X0 X1 Y0 Y1 H).2.2 = 0 ∧ (Over c i X0 X1 Y0 Y1 H).1 = (ovr (c.tables.getD i.toNat default) X0 X1 Y0 Y1 H).1 ∧ (Over c i X0 X1 Y0 Y1 H).2.1 = (ovr (c.tables.getD i.toNat default) X0 X1 Y0 Y1 H).2 := by
  unfold Over
  rw [if_neg (by omega), if_neg (by omega)]
  exact ⟨rfl, rfl, rfl⟩
theorem intensity_ok {c : Cat} {i X Y H : Int} (h : (Intensity c i X Y H).2.2 = 0) : tabled c i = 0 ∧ rectErr X X Y Y H = 0 := by
  unfold Intensity at h
  split at h
  · rename_i h1; exact absurd h h1
  · rename_i h1
    split at h
    · rename_i h2; exact absurd h h2
    · rename_i h2; exact ⟨Decidable.not_not.1 h1, Decidable.not_not.1 h2⟩
theorem intensity_eq {c : Cat} {i X Y H : Int} (h1 : tabled c i = 0) (h2 : rectErr X X Y Y H = 0) :
    (Intensity c i X Y H).2.2 = 0 ∧ (Intensity c i X Y H).1 = atLo (c.tables.getD i.toNat default) (sc (c.tables.getD i.toNat default).us H) (sc (c.tables.getD i.toNat default).vs H) (1000 * X) (1000 * Y) ∧
      (Intensity c i X Y H).2.1 = atHi (c.tables.getD i.toNat default) (sc (c.tables.getD i.toNat default).us H) (sc (c.tables.getD i.toNat default).vs H) (1000 * X) (1000 * Y) := by
  unfold Intensity
  rw [if_neg (by omega), if_neg (by omega)]
  exact ⟨rfl, rfl, rfl⟩
theorem rectErr_of {X0 X1 Y0 Y1 H : Int} (h0 : 1 ≤ H ∧ H ≤ 30000) (h1 : -200000 ≤ X0 ∧ X0 ≤ X1 ∧ X1 ≤ 200000) (h2 : -200000 ≤ Y0 ∧ Y0 ≤ Y1 ∧ Y1 ≤ 200000) : rectErr X0 X1 Y0 Y1 H = 0 := by
  unfold rectErr
  rw [if_neg (by omega), if_neg (by omega)]
/-- A number between two, by so many 255ths. -/
theorem way {a b k : Int} (h : a ≤ b) (hk : 0 ≤ k ∧ k ≤ 255) (hb : -200000 ≤ a ∧ b ≤ 200000) : (0 ≤ (b - a) * k ∧ (b - a) * k ≤ 102000000) ∧ (0 ≤ ((b - a) * k).tdiv 255 ∧ ((b - a) * k).tdiv 255 ≤ 400000) ∧ a ≤ a + ((b - a) * k).tdiv 255 ∧ a + ((b - a) * k).tdiv 255 ≤ b := by
  have m := mulN 400000 255 (a := b - a) (b := k) (by omega) hk
  have m2 : (b - a) * k ≤ (b - a) * 255 := Int.mul_le_mul_of_nonneg_left hk.2 (by omega)
  rw [Int.tdiv_eq_ediv_of_nonneg m.1]
  omega
/-- A part that is a rectangle of the whole, and a point of it. -/
theorem parts1 {c : Cat} {i X0 X1 Y0 Y1 H A0 A1 B0 B1 : Int} (h : (Over c i X0 X1 Y0 Y1 H).2.2 = 0) (h1 : X0 ≤ A0 ∧ A0 ≤ A1 ∧ A1 ≤ X1) (h2 : Y0 ≤ B0 ∧ B0 ≤ B1 ∧ B1 ≤ Y1) :
    ((0 ≤ (Over c i X0 X1 Y0 Y1 H).1 ∧ (Over c i X0 X1 Y0 Y1 H).1 ≤ 10000000) ∧ (0 ≤ (Over c i X0 X1 Y0 Y1 H).2.1 ∧ (Over c i X0 X1 Y0 Y1 H).2.1 ≤ 10000000)) ∧
    (Over c i A0 A1 B0 B1 H).2.2 = 0 ∧ (Over c i X0 X1 Y0 Y1 H).1 - 1 ≤ (Over c i A0 A1 B0 B1 H).1 ∧ (Over c i A0 A1 B0 B1 H).2.1 ≤ (Over c i X0 X1 Y0 Y1 H).2.1 + 1 ∧
    (Intensity c i A1 B1 H).2.2 = 0 ∧ (Over c i X0 X1 Y0 Y1 H).1 - 1 ≤ (Intensity c i A1 B1 H).1 ∧ (Intensity c i A1 B1 H).2.1 ≤ (Over c i X0 X1 Y0 Y1 H).2.1 + 1 := by
  obtain ⟨hT, hR⟩ := over_ok h
  have hrr := rectErr_ok hR
  obtain ⟨t1, t2, t3⟩ := tabled_ok hT
  have gv := ((check_ok t1).2.2.1 i.toNat (by omega)).view hrr.1
  have e1 := over_eq hT hR
  have e2 := over_eq hT (rectErr_of hrr.1 (X0 := A0) (X1 := A1) (Y0 := B0) (Y1 := B1) (by omega) (by omega))
  have e3 := intensity_eq hT (rectErr_of hrr.1 (X0 := A1) (X1 := A1) (Y0 := B1) (Y1 := B1) (by omega) (by omega))
  have b := over_in gv (1000 * X0) (1000 * X1) (1000 * Y0) (1000 * Y1)
  have n1 := near_sub gv (x0 := 1000 * X0) (x1 := 1000 * X1) (y0 := 1000 * Y0) (y1 := 1000 * Y1) (a0 := 1000 * A0) (a1 := 1000 * A1) (b0 := 1000 * B0) (b1 := 1000 * B1) (by omega) (by omega)
  have n2 := near_pt gv (x0 := 1000 * X0) (x1 := 1000 * X1) (y0 := 1000 * Y0) (y1 := 1000 * Y1) (u := 1000 * A1) (v := 1000 * B1) (by omega) (by omega)
  rw [e1.2.1, e1.2.2, e2.2.1, e2.2.2, e3.2.1, e3.2.2]
  exact ⟨b, e2.1, n1.1, n1.2, e3.1, n2.1, n2.2⟩
theorem halves {c : Cat} {i X0 X1 Y0 Y1 H m n : Int} (h : (Over c i X0 X1 Y0 Y1 H).2.2 = 0) (hm : X0 ≤ m ∧ m ≤ X1) (hn : Y0 ≤ n ∧ n ≤ Y1) :
    (min (Over c i X0 m Y0 Y1 H).1 (Over c i m X1 Y0 Y1 H).1 ≤ (Over c i X0 X1 Y0 Y1 H).1 ∧ (Over c i X0 X1 Y0 Y1 H).2.1 ≤ max (Over c i X0 m Y0 Y1 H).2.1 (Over c i m X1 Y0 Y1 H).2.1) ∧
    (min (Over c i X0 X1 Y0 n H).1 (Over c i X0 X1 n Y1 H).1 ≤ (Over c i X0 X1 Y0 Y1 H).1 ∧ (Over c i X0 X1 Y0 Y1 H).2.1 ≤ max (Over c i X0 X1 Y0 n H).2.1 (Over c i X0 X1 n Y1 H).2.1) := by
  obtain ⟨hT, hR⟩ := over_ok h
  have hrr := rectErr_ok hR
  have e1 := over_eq hT hR
  have e2 := over_eq hT (rectErr_of hrr.1 (X0 := X0) (X1 := m) (Y0 := Y0) (Y1 := Y1) (by omega) (by omega))
  have e3 := over_eq hT (rectErr_of hrr.1 (X0 := m) (X1 := X1) (Y0 := Y0) (Y1 := Y1) (by omega) (by omega))
  have e4 := over_eq hT (rectErr_of hrr.1 (X0 := X0) (X1 := X1) (Y0 := Y0) (Y1 := n) (by omega) (by omega))
  have e5 := over_eq hT (rectErr_of hrr.1 (X0 := X0) (X1 := X1) (Y0 := n) (Y1 := Y1) (by omega) (by omega))
  rw [e1.2.1, e1.2.2, e2.2.1, e2.2.2, e3.2.1, e3.2.2, e4.2.1, e4.2.2, e5.2.1, e5.2.2]
  exact ⟨half_x, half_y⟩
end Go.Proofs.Ytjhecgiipajdpaa
