/- The interpolation without rounding: what Intensity and Over enclose. -/
import Derived.Test.YtjhecgiipajdpaaSp12
set_option linter.unusedVariables false
set_option linter.unusedSimpArgs false
namespace Go.Proofs.Ytjhecgiipajdpaa
theorem ip_left (x y a b : Int) : ip x y a b a = x * (b - a) := by unfold ip; grind
theorem ip_right (x y a b : Int) : ip x y a b b = y * (b - a) := by unfold ip; grind
theorem ip_scale (x y a b n c : Int) : ip (x * c) (y * c) a b n = ip x y a b n * c := by unfold ip; grind
theorem ip_neg (x y a b n : Int) : ip (-x) (-y) a b n = -ip x y a b n := by unfold ip; grind
theorem ip_plus (x y a b n c : Int) : ip (x + c) (y + c) a b n = ip x y a b n + c * (b - a) := by unfold ip; grind
theorem ip_lin (x y a b n m : Int) : ip x y a b n = ip x y a b m + (y - x) * (n - m) := by unfold ip; grind
theorem ip_swap (p q r s x y a b u v : Int) : ip (ip p q x y v) (ip r s x y v) a b u = ip (ip p r a b u) (ip q s a b u) x y v := by unfold ip; grind
theorem ip_mono {x y x' y' a b n : Int} (hx : x ≤ x') (hy : y ≤ y') (h1 : a ≤ n) (h2 : n ≤ b) : ip x y a b n ≤ ip x' y' a b n := by
  unfold ip
  have p1 : x * (b - n) ≤ x' * (b - n) := Int.mul_le_mul_of_nonneg_right hx (by omega)
  have p2 : y * (n - a) ≤ y' * (n - a) := Int.mul_le_mul_of_nonneg_right hy (by omega)
  omega
theorem dn_le (x : Int) {d : Int} (hd : 0 < d) : x / d * d ≤ x := Int.ediv_mul_le x (by omega)
theorem dn_lt (x : Int) {d : Int} (hd : 0 < d) : x < (x / d + 1) * d := Int.lt_ediv_add_one_mul_self x hd
/-- Rounded down twice. -/
theorem dn2 {S0 S1 a b u d : Int} (hd : 0 < d) (hab : a < b) (h1 : a ≤ u) (h2 : u ≤ b) :
    ip (S0 / d) (S1 / d) a b u / (b - a) * ((b - a) * d) ≤ ip S0 S1 a b u ∧ ip S0 S1 a b u < (ip (S0 / d) (S1 / d) a b u / (b - a) + 2) * ((b - a) * d) := by
  have hw : 0 < b - a := by omega
  have e1 := dn_le S0 hd
  have e2 := dn_le S1 hd
  have e3 := dn_lt S0 hd
  have e4 := dn_lt S1 hd
  generalize hq0 : S0 / d = q0 at *
  generalize hq1 : S1 / d = q1 at *
  have f1 := dn_le (ip q0 q1 a b u) hw
  have f2 := dn_lt (ip q0 q1 a b u) hw
  generalize hQ : ip q0 q1 a b u = Q at *
  generalize hL : Q / (b - a) = L at *
  have g1 : ip (q0 * d) (q1 * d) a b u ≤ ip S0 S1 a b u := ip_mono e1 e2 h1 h2
  rw [ip_scale, hQ] at g1
  have g2 : ip S0 S1 a b u ≤ ip ((q0 + 1) * d - 1) ((q1 + 1) * d - 1) a b u := ip_mono (by omega) (by omega) h1 h2
  have g3 : ip ((q0 + 1) * d - 1) ((q1 + 1) * d - 1) a b u = Q * d + (b - a) * d - (b - a) := by rw [← hQ]; unfold ip; grind
  rw [g3] at g2
  have k1 : L * (b - a) * d ≤ Q * d := Int.mul_le_mul_of_nonneg_right f1 (by omega)
  have k2 : Q * d ≤ ((L + 1) * (b - a) - 1) * d := Int.mul_le_mul_of_nonneg_right (by omega) (by omega)
  have k3 : L * ((b - a) * d) = L * (b - a) * d := by rw [Int.mul_assoc]
  have k4 : (L + 2) * ((b - a) * d) = ((L + 1) * (b - a) - 1) * d + (b - a) * d + d := by grind
  exact ⟨by omega, by omega⟩
theorem up2 {S0 S1 a b u d : Int} (hd : 0 < d) (hab : a < b) (h1 : a ≤ u) (h2 : u ≤ b) :
    ip S0 S1 a b u ≤ up (ip (up S0 d) (up S1 d) a b u) (b - a) * ((b - a) * d) ∧ (up (ip (up S0 d) (up S1 d) a b u) (b - a) - 2) * ((b - a) * d) < ip S0 S1 a b u := by
  have h := dn2 (S0 := -S0) (S1 := -S1) hd hab h1 h2
  have e : up (ip (up S0 d) (up S1 d) a b u) (b - a) = -(ip (-S0 / d) (-S1 / d) a b u / (b - a)) := by
    unfold up
    rw [ip_neg, Int.neg_neg]
  rw [e]
  rw [ip_neg] at h
  generalize ip (-S0 / d) (-S1 / d) a b u / (b - a) = L at *
  have k1 : -L * ((b - a) * d) = -(L * ((b - a) * d)) := Int.neg_mul ..
  have k2 : (-L - 2) * ((b - a) * d) = -((L + 2) * ((b - a) * d)) := by grind
  omega

/-! ### Fields -/
def cellN (vals : List (List Int)) (us vs : List Int) (i k : Nat) (u v : Int) : Int := ip (sideN vals vs i k v) (sideN vals vs (i + 1) k v) (us.getD i 0) (us.getD (i + 1) 0) u
abbrev cellD (us vs : List Int) (i k : Nat) : Int := stepD us i * stepD vs k
def In1 (l : List Int) (i : Nat) (u : Int) : Prop := i + 1 < l.length ∧ l.getD i 0 ≤ u ∧ u ≤ l.getD (i + 1) 0
theorem In1.adj {l : List Int} (hr : rising l = true) {i j : Nat} {u : Int} (h : In1 l i u) (k : In1 l j u) : i = j ∨ (j = i + 1 ∧ u = l.getD j 0) ∨ (i = j + 1 ∧ u = l.getD i 0) := by
  obtain ⟨h1, h2, h3⟩ := h
  obtain ⟨k1, k2, k3⟩ := k
  rcases Nat.lt_trichotomy i j with e | e | e
  · have a := rising_le hr (i := i + 1) (j := j) (by omega) (by omega)
    rcases Nat.lt_or_ge (i + 1) j with e2 | e2
    · have b := rising_lt hr j (i + 1) e2 (by omega)
      omega
    · have e3 : j = i + 1 := by omega
      subst e3
      exact .inr (.inl ⟨rfl, by omega⟩)
  · exact .inl e
  · have a := rising_le hr (i := j + 1) (j := i) (by omega) (by omega)
    rcases Nat.lt_or_ge (j + 1) i with e2 | e2
    · have b := rising_lt hr i (j + 1) e2 (by omega)
      omega
    · have e3 : i = j + 1 := by omega
      subst e3
      exact .inr (.inr ⟨rfl, by omega⟩)
/-- The interpolation along a list: at a shared tangent, that of either field. -/
theorem ip_shared {l : List Int} (hr : rising l = true) {f : Nat → Int} {i j : Nat} {u : Int} (h : In1 l i u) (k : In1 l j u) :
    ip (f i) (f (i + 1)) (l.getD i 0) (l.getD (i + 1) 0) u * stepD l j = ip (f j) (f (j + 1)) (l.getD j 0) (l.getD (j + 1) 0) u * stepD l i := by
  rcases h.adj hr k with e | ⟨e, e2⟩ | ⟨e, e2⟩
  · rw [e]
  · subst e; rw [e2, ip_left, ip_right]; unfold stepD; grind
  · subst e; rw [e2, ip_left, ip_right]; unfold stepD; grind
theorem cell_same {vals : List (List Int)} {us vs : List Int} (hu : rising us = true) (hv : rising vs = true) {i k j m : Nat} {u v : Int} (h1 : In1 us i u) (h2 : In1 vs k v) (h3 : In1 us j u) (h4 : In1 vs m v) :
    cellN vals us vs i k u v * cellD us vs j m = cellN vals us vs j m u v * cellD us vs i k := by
  have s : ∀ a, sideN vals vs a k v * stepD vs m = sideN vals vs a m v * stepD vs k := fun a => ip_shared hv (f := fun k => val vals a k) h2 h4
  have e1 : cellN vals us vs i k u v * stepD vs m = cellN vals us vs i m u v * stepD vs k := by
    unfold cellN
    rw [← ip_scale, ← ip_scale, s, s]
  have e2 : cellN vals us vs i m u v * stepD us j = cellN vals us vs j m u v * stepD us i := ip_shared hu (f := fun a => sideN vals vs a m v) h1 h3
  unfold cellD
  calc cellN vals us vs i k u v * (stepD us j * stepD vs m) = cellN vals us vs i k u v * stepD vs m * stepD us j := by grind
    _ = cellN vals us vs i m u v * stepD vs k * stepD us j := by rw [e1]
    _ = cellN vals us vs i m u v * stepD us j * stepD vs k := by grind
    _ = cellN vals us vs j m u v * stepD us i * stepD vs k := by rw [e2]
    _ = _ := by grind
section
variable {t : Table} {us vs : List Int}
theorem In1.step {l : List Int} (hr : rising l = true) {i : Nat} {u : Int} (h : In1 l i u) : 0 < stepD l i := by
  have := rising_get hr h.1
  unfold stepD; omega
theorem In1.has (g : GoodV t us vs) {i k : Nat} {u v : Int} (h1 : In1 us i u) (h2 : In1 vs k v) : hasB us vs u v = true := by
  rw [hasB_iff]
  have a := rising_le g.ui (i := 0) (j := i) (by omega) (by have := h1.1; omega)
  have b := rising_le g.ui (i := i + 1) (j := us.length - 1) (by have := h1.1; omega) (by have := h1.1; omega)
  have c := rising_le g.vi (i := 0) (j := k) (by omega) (by have := h2.1; omega)
  have d := rising_le g.vi (i := k + 1) (j := vs.length - 1) (by have := h2.1; omega) (by have := h2.1; omega)
  have h3 := h1.2
  have h4 := h2.2
  omega
theorem In1.of_has (g : GoodV t us vs) {u v : Int} (h : hasB us vs u v = true) : In1 us (fld us u) u ∧ In1 vs (fld vs v) v := by
  rw [hasB_iff] at h
  exact ⟨fld_spec g.ul.1 h.1.1 h.1.2, fld_spec g.vl.1 h.2.1 h.2.2⟩
/-- What an intensity encloses, and how closely. -/
theorem at_holds (g : GoodV t us vs) {i k : Nat} {u v : Int} (h1 : In1 us i u) (h2 : In1 vs k v) :
    (atLo t us vs u v * cellD us vs i k ≤ cellN t.values us vs i k u v ∧ cellN t.values us vs i k u v < (atLo t us vs u v + 2) * cellD us vs i k) ∧
    (cellN t.values us vs i k u v ≤ atHi t us vs u v * cellD us vs i k ∧ (atHi t us vs u v - 2) * cellD us vs i k < cellN t.values us vs i k u v) := by
  have hb := In1.has g h1 h2
  obtain ⟨k1, k2⟩ := In1.of_has g hb
  have hs := cell_same (vals := t.values) g.ui g.vi h1 h2 k1 k2
  have p1 := k1.step g.ui
  have p2 := k2.step g.vi
  have q1 := h1.step g.ui
  have q2 := h2.step g.vi
  have P : 0 < cellD us vs (fld us u) (fld vs v) := Int.mul_pos p1 p2
  have Q : 0 < cellD us vs i k := Int.mul_pos q1 q2
  have hu : us.getD (fld us u) 0 < us.getD (fld us u + 1) 0 := rising_get g.ui k1.1
  have L := dn2 (S0 := sideN t.values vs (fld us u) (fld vs v) v) (S1 := sideN t.values vs (fld us u + 1) (fld vs v) v) p2 hu k1.2.1 k1.2.2
  have H := up2 (S0 := sideN t.values vs (fld us u) (fld vs v) v) (S1 := sideN t.values vs (fld us u + 1) (fld vs v) v) p2 hu k1.2.1 k1.2.2
  have eL : atLo t us vs u v = ip (sideN t.values vs (fld us u) (fld vs v) v / stepD vs (fld vs v)) (sideN t.values vs (fld us u + 1) (fld vs v) v / stepD vs (fld vs v)) (us.getD (fld us u) 0) (us.getD (fld us u + 1) 0) u / stepD us (fld us u) := by
    unfold atLo; rw [if_pos hb]; rfl
  have eH : atHi t us vs u v = up (ip (up (sideN t.values vs (fld us u) (fld vs v) v) (stepD vs (fld vs v))) (up (sideN t.values vs (fld us u + 1) (fld vs v) v) (stepD vs (fld vs v))) (us.getD (fld us u) 0) (us.getD (fld us u + 1) 0) u) (stepD us (fld us u)) := by
    unfold atHi; rw [if_pos hb]; rfl
  have L' : atLo t us vs u v * cellD us vs (fld us u) (fld vs v) ≤ cellN t.values us vs (fld us u) (fld vs v) u v ∧ cellN t.values us vs (fld us u) (fld vs v) u v < (atLo t us vs u v + 2) * cellD us vs (fld us u) (fld vs v) := by
    rw [eL]; exact L
  have H' : cellN t.values us vs (fld us u) (fld vs v) u v ≤ atHi t us vs u v * cellD us vs (fld us u) (fld vs v) ∧ (atHi t us vs u v - 2) * cellD us vs (fld us u) (fld vs v) < cellN t.values us vs (fld us u) (fld vs v) u v := by
    rw [eH]; exact H
  clear L H eL eH
  generalize cellN t.values us vs (fld us u) (fld vs v) u v = N' at *
  generalize cellN t.values us vs i k u v = N at *
  generalize cellD us vs (fld us u) (fld vs v) = D' at *
  generalize cellD us vs i k = D at *
  generalize atLo t us vs u v = lo at *
  generalize atHi t us vs u v = hi at *
  have m1 := Int.mul_le_mul_of_nonneg_right L'.1 (Int.le_of_lt Q)
  have m2 := Int.mul_lt_mul_of_pos_right L'.2 Q
  have m3 := Int.mul_le_mul_of_nonneg_right H'.1 (Int.le_of_lt Q)
  have m4 := Int.mul_lt_mul_of_pos_right H'.2 Q
  rw [← hs] at m1 m2 m3 m4
  have c : ∀ x : Int, x * D' * D = x * D * D' := fun x => by rw [Int.mul_assoc, Int.mul_assoc, Int.mul_comm D']
  rw [c] at m1 m2 m3 m4
  exact ⟨⟨Int.le_of_mul_le_mul_right m1 P, Int.lt_of_mul_lt_mul_right m2 (Int.le_of_lt P)⟩, ⟨Int.le_of_mul_le_mul_right m3 P, Int.lt_of_mul_lt_mul_right m4 (Int.le_of_lt P)⟩⟩

/-! ### The extremes over a rectangle are at crossings -/
theorem cross_fst (l : List Int) (a b : Int) : a ∈ cross l a b := by unfold cross; simp
theorem cross_snd (l : List Int) (a b : Int) : b ∈ cross l a b := by unfold cross; simp
theorem cross_mid {l : List Int} {a b : Int} {i : Nat} (hi : i < l.length) (h1 : a ≤ l.getD i 0) (h2 : l.getD i 0 ≤ b) : l.getD i 0 ∈ cross l a b := by
  rcases Decidable.em (l.getD i 0 = a) with e | e
  · rw [e]; exact cross_fst ..
  rcases Decidable.em (l.getD i 0 = b) with e2 | e2
  · rw [e2]; exact cross_snd ..
  unfold cross
  exact List.mem_append_right _ (List.mem_filter.2 ⟨getD_mem hi, by rw [Bool.and_eq_true, decide_eq_true_eq, decide_eq_true_eq]; omega⟩)
theorem least1 {l : List Int} {i : Nat} {u a b : Int} (h : In1 l i u) (ha : a ≤ u) (hb : u ≤ b) : ∃ m, m ∈ cross l a b ∧ In1 l i m ∧ m ≤ u := by
  rcases Decidable.em (a ≤ l.getD i 0) with e | e
  · exact ⟨l.getD i 0, cross_mid (by have := h.1; omega) e (by have := h.2.1; omega), ⟨h.1, Int.le_refl _, by have := h.2; omega⟩, h.2.1⟩
  · exact ⟨a, cross_fst .., ⟨h.1, by omega, by have := h.2.2; omega⟩, ha⟩
theorem most1 {l : List Int} {i : Nat} {u a b : Int} (h : In1 l i u) (ha : a ≤ u) (hb : u ≤ b) : ∃ m, m ∈ cross l a b ∧ In1 l i m ∧ u ≤ m := by
  rcases Decidable.em (l.getD (i + 1) 0 ≤ b) with e | e
  · exact ⟨l.getD (i + 1) 0, cross_mid h.1 (by have := h.2.2; omega) e, ⟨h.1, by have := h.2; omega, Int.le_refl _⟩, h.2.2⟩
  · exact ⟨b, cross_snd .., ⟨h.1, by have := h.2.1; omega, by omega⟩, hb⟩
theorem less1 {l : List Int} {i : Nat} {u a b : Int} (x y p q : Int) (h : In1 l i u) (ha : a ≤ u) (hb : u ≤ b) : ∃ m, m ∈ cross l a b ∧ In1 l i m ∧ ip x y p q m ≤ ip x y p q u := by
  rcases Decidable.em (x ≤ y) with e | e
  · obtain ⟨m, h1, h2, h3⟩ := least1 h ha hb
    have := Int.mul_nonneg (show 0 ≤ y - x by omega) (show 0 ≤ u - m by omega)
    exact ⟨m, h1, h2, by rw [ip_lin x y p q u m]; omega⟩
  · obtain ⟨m, h1, h2, h3⟩ := most1 h ha hb
    have := Int.mul_nonneg (show 0 ≤ x - y by omega) (show 0 ≤ m - u by omega)
    have e2 : (y - x) * (u - m) = (x - y) * (m - u) := by grind
    exact ⟨m, h1, h2, by rw [ip_lin x y p q u m]; omega⟩
theorem more1 {l : List Int} {i : Nat} {u a b : Int} (x y p q : Int) (h : In1 l i u) (ha : a ≤ u) (hb : u ≤ b) : ∃ m, m ∈ cross l a b ∧ In1 l i m ∧ ip x y p q u ≤ ip x y p q m := by
  obtain ⟨m, h1, h2, h3⟩ := less1 (-x) (-y) p q h ha hb
  rw [ip_neg, ip_neg] at h3
  exact ⟨m, h1, h2, by omega⟩
theorem cellN_swap (vals : List (List Int)) (us vs : List Int) (i k : Nat) (u v : Int) : cellN vals us vs i k u v =
    ip (ip (val vals i k) (val vals (i + 1) k) (us.getD i 0) (us.getD (i + 1) 0) u) (ip (val vals i (k + 1)) (val vals (i + 1) (k + 1)) (us.getD i 0) (us.getD (i + 1) 0) u) (vs.getD k 0) (vs.getD (k + 1) 0) v := ip_swap ..
theorem corner_less (vals : List (List Int)) {i k : Nat} {u v x0 x1 y0 y1 : Int} (h1 : In1 us i u) (h2 : In1 vs k v) (hx : x0 ≤ u ∧ u ≤ x1) (hy : y0 ≤ v ∧ v ≤ y1) :
    ∃ p q, p ∈ cross us x0 x1 ∧ q ∈ cross vs y0 y1 ∧ In1 us i p ∧ In1 vs k q ∧ cellN vals us vs i k p q ≤ cellN vals us vs i k u v := by
  obtain ⟨p, a1, a2, a3⟩ := less1 (sideN vals vs i k v) (sideN vals vs (i + 1) k v) (us.getD i 0) (us.getD (i + 1) 0) h1 hx.1 hx.2
  obtain ⟨q, b1, b2, b3⟩ := less1 (ip (val vals i k) (val vals (i + 1) k) (us.getD i 0) (us.getD (i + 1) 0) p) (ip (val vals i (k + 1)) (val vals (i + 1) (k + 1)) (us.getD i 0) (us.getD (i + 1) 0) p) (vs.getD k 0) (vs.getD (k + 1) 0) h2 hy.1 hy.2
  rw [← cellN_swap, ← cellN_swap] at b3
  exact ⟨p, q, a1, b1, a2, b2, Int.le_trans b3 a3⟩
theorem corner_more (vals : List (List Int)) {i k : Nat} {u v x0 x1 y0 y1 : Int} (h1 : In1 us i u) (h2 : In1 vs k v) (hx : x0 ≤ u ∧ u ≤ x1) (hy : y0 ≤ v ∧ v ≤ y1) :
    ∃ p q, p ∈ cross us x0 x1 ∧ q ∈ cross vs y0 y1 ∧ In1 us i p ∧ In1 vs k q ∧ cellN vals us vs i k u v ≤ cellN vals us vs i k p q := by
  obtain ⟨p, a1, a2, a3⟩ := more1 (sideN vals vs i k v) (sideN vals vs (i + 1) k v) (us.getD i 0) (us.getD (i + 1) 0) h1 hx.1 hx.2
  obtain ⟨q, b1, b2, b3⟩ := more1 (ip (val vals i k) (val vals (i + 1) k) (us.getD i 0) (us.getD (i + 1) 0) p) (ip (val vals i (k + 1)) (val vals (i + 1) (k + 1)) (us.getD i 0) (us.getD (i + 1) 0) p) (vs.getD k 0) (vs.getD (k + 1) 0) h2 hy.1 hy.2
  rw [← cellN_swap, ← cellN_swap] at b3
  exact ⟨p, q, a1, b1, a2, b2, Int.le_trans a3 b3⟩
/-- Over encloses the interpolation at every point of the rectangle. -/
theorem over_holds (g : GoodV t us vs) {i k : Nat} {u v x0 x1 y0 y1 : Int} (h1 : In1 us i u) (h2 : In1 vs k v) (hx : x0 ≤ u ∧ u ≤ x1) (hy : y0 ≤ v ∧ v ≤ y1) :
    (over t us vs x0 x1 y0 y1).1 * cellD us vs i k ≤ cellN t.values us vs i k u v ∧ cellN t.values us vs i k u v ≤ (over t us vs x0 x1 y0 y1).2 * cellD us vs i k := by
  have C := (Cov.over t us vs x0 x1 y0 y1).2.2
  have Q : 0 ≤ cellD us vs i k := Int.le_of_lt (Int.mul_pos (h1.step g.ui) (h2.step g.vi))
  obtain ⟨p, q, a1, a2, a3, a4, a5⟩ := corner_less t.values h1 h2 hx hy
  obtain ⟨r, s, b1, b2, b3, b4, b5⟩ := corner_more t.values h1 h2 hx hy
  have c1 := (C p q (.inr ⟨a1, a2, In1.has g a3 a4⟩)).1
  have c2 := (C r s (.inr ⟨b1, b2, In1.has g b3 b4⟩)).2
  have d1 := (at_holds g a3 a4).1.1
  have d2 := (at_holds g b3 b4).2.1
  have e1 := Int.mul_le_mul_of_nonneg_right c1 Q
  have e2 := Int.mul_le_mul_of_nonneg_right c2 Q
  omega
/-- A point of the rectangle out of the table: so is a corner. -/
theorem over_out {u v x0 x1 y0 y1 : Int} (hx : x0 ≤ u ∧ u ≤ x1) (hy : y0 ≤ v ∧ v ≤ y1) (h : hasB us vs u v = false) : (over t us vs x0 x1 y0 y1).1 ≤ 0 ∧ t.side ≤ (over t us vs x0 x1 y0 y1).2 := by
  have C := (Cov.over t us vs x0 x1 y0 y1).2.2
  have hn : ¬ ((us.getD 0 0 ≤ u ∧ u ≤ us.getD (us.length - 1) 0) ∧ (vs.getD 0 0 ≤ v ∧ v ≤ vs.getD (vs.length - 1) 0)) := fun hh => by
    rw [hasB_iff.2 hh] at h; cases h
  have key : ∃ p q, (p = x0 ∨ p = x1) ∧ (q = y0 ∨ q = y1) ∧ hasB us vs p q = false := by
    have nb : ∀ p q, ¬ ((us.getD 0 0 ≤ p ∧ p ≤ us.getD (us.length - 1) 0) ∧ (vs.getD 0 0 ≤ q ∧ q ≤ vs.getD (vs.length - 1) 0)) → hasB us vs p q = false := fun p q hh => by
      rw [Bool.eq_false_iff]; exact fun h2 => hh (hasB_iff.1 h2)
    rcases Decidable.em (us.getD 0 0 ≤ u) with e1 | e1
    · rcases Decidable.em (u ≤ us.getD (us.length - 1) 0) with e2 | e2
      · rcases Decidable.em (vs.getD 0 0 ≤ v) with e3 | e3
        · exact ⟨x0, y1, .inl rfl, .inr rfl, nb _ _ (by omega)⟩
        · exact ⟨x0, y0, .inl rfl, .inl rfl, nb _ _ (by omega)⟩
      · exact ⟨x1, y0, .inr rfl, .inl rfl, nb _ _ (by omega)⟩
    · exact ⟨x0, y0, .inl rfl, .inl rfl, nb _ _ (by omega)⟩
  obtain ⟨p, q, k1, k2, k3⟩ := key
  have c := C p q (.inl ⟨k1, k2⟩)
  unfold atLo atHi at c
  rw [k3] at c
  simpa using c
end
end Go.Proofs.Ytjhecgiipajdpaa
