/- The intensity is between the values around it; the first field that a direction is in. -/
import Derived.Test.YtjhecgiipajdpaaSp13
set_option linter.unusedVariables false
set_option linter.unusedSimpArgs false
namespace Go.Proofs.Ytjhecgiipajdpaa
theorem up_le {x d : Int} (hd : 0 < d) {M : Int} (h : x ≤ M * d) : up x d ≤ M := by
  unfold up
  have : -M ≤ (-x) / d := by rw [Int.le_ediv_iff_mul_le hd, Int.neg_mul]; omega
  omega
theorem le_dn {x d : Int} (hd : 0 < d) {m : Int} (h : m * d ≤ x) : m ≤ x / d := by
  rw [Int.le_ediv_iff_mul_le hd]; exact h
theorem dn_up {x y d : Int} (hd : 0 < d) (h : x ≤ y) : x / d ≤ up y d := by
  unfold up
  have h1 := dn_le x hd
  have h2 := dn_le (-y) hd
  rcases Int.lt_or_le (-(-y / d)) (x / d) with h3 | h3
  · have h4 : (-(-y / d)) * d < x / d * d := Int.mul_lt_mul_of_pos_right h3 hd
    rw [Int.neg_mul] at h4
    omega
  · exact h3
theorem ip_bound {x y a b n m M : Int} (hx : m ≤ x ∧ x ≤ M) (hy : m ≤ y ∧ y ≤ M) (h1 : a ≤ n) (h2 : n ≤ b) : m * (b - a) ≤ ip x y a b n ∧ ip x y a b n ≤ M * (b - a) := by
  have e : ∀ c : Int, ip c c a b n = c * (b - a) := fun c => by unfold ip; grind
  exact ⟨by rw [← e]; exact ip_mono hx.1 hy.1 h1 h2, by rw [← e]; exact ip_mono hx.2 hy.2 h1 h2⟩
/-- The interpolation along a list, in any field that the number is in. -/
theorem ip_any {l : List Int} (hr : rising l = true) {f : Nat → Int} {i j : Nat} {u m M : Int} (h : In1 l i u) (k : In1 l j u) (h1 : m ≤ f i ∧ f i ≤ M) (h2 : m ≤ f (i + 1) ∧ f (i + 1) ≤ M) :
    m * stepD l j ≤ ip (f j) (f (j + 1)) (l.getD j 0) (l.getD (j + 1) 0) u ∧ ip (f j) (f (j + 1)) (l.getD j 0) (l.getD (j + 1) 0) u ≤ M * stepD l j := by
  have s := ip_shared hr (f := f) h k
  have b := ip_bound h1 h2 h.2.1 h.2.2
  have p : 0 < stepD l i := by have := rising_get hr h.1; unfold stepD; omega
  have q : 0 < stepD l j := by have := rising_get hr k.1; unfold stepD; omega
  have m1 := Int.mul_le_mul_of_nonneg_right b.1 (Int.le_of_lt q)
  have m2 := Int.mul_le_mul_of_nonneg_right b.2 (Int.le_of_lt q)
  rw [s] at m1 m2
  have c : ∀ x : Int, x * stepD l i * stepD l j = x * stepD l j * stepD l i := fun x => by rw [Int.mul_assoc, Int.mul_assoc, Int.mul_comm (stepD l i)]
  rw [show l.getD (i + 1) 0 - l.getD i 0 = stepD l i from rfl] at m1 m2
  rw [c] at m1 m2
  exact ⟨Int.le_of_mul_le_mul_right m1 p, Int.le_of_mul_le_mul_right m2 p⟩
theorem ip_node {l : List Int} (hr : rising l = true) (f : Nat → Int) {i j : Nat} (hi : i < l.length) (k : In1 l j (l.getD i 0)) : ip (f j) (f (j + 1)) (l.getD j 0) (l.getD (j + 1) 0) (l.getD i 0) = f i * stepD l j := by
  have h1 : ¬ i < j := fun h => by have := rising_lt hr j i h (by have := k.1; omega); have := k.2.1; omega
  have h2 : ¬ j + 1 < i := fun h => by have := rising_lt hr i (j + 1) h hi; have := k.2.2; omega
  have h3 : i = j ∨ i = j + 1 := by omega
  rcases h3 with e | e
  · subst e; rw [ip_left]
  · subst e; rw [ip_right]
section
variable {t : Table} {us vs : List Int}
theorem side_between (g : GoodV t us vs) {a k j : Nat} {v m M : Int} (h : In1 vs k v) (h' : In1 vs j v) (h1 : m ≤ val t.values a k ∧ val t.values a k ≤ M) (h2 : m ≤ val t.values a (k + 1) ∧ val t.values a (k + 1) ≤ M) :
    (m ≤ sideLo t.values vs a j v ∧ sideLo t.values vs a j v ≤ M) ∧ (m ≤ sideHi t.values vs a j v ∧ sideHi t.values vs a j v ≤ M) ∧ sideLo t.values vs a j v ≤ sideHi t.values vs a j v := by
  have b := ip_any g.vi (f := fun k => val t.values a k) h h' h1 h2
  have q := h'.step g.vi
  have e1 : m ≤ sideLo t.values vs a j v := le_dn q b.1
  have e2 : sideHi t.values vs a j v ≤ M := up_le q b.2
  have e3 : sideLo t.values vs a j v ≤ sideHi t.values vs a j v := dn_up q (Int.le_refl _)
  omega
theorem atLo_has {u v : Int} (hb : hasB us vs u v = true) : atLo t us vs u v = ip (sideLo t.values vs (fld us u) (fld vs v) v) (sideLo t.values vs (fld us u + 1) (fld vs v) v) (us.getD (fld us u) 0) (us.getD (fld us u + 1) 0) u / stepD us (fld us u) := by
  unfold atLo; rw [if_pos hb]
theorem atHi_has {u v : Int} (hb : hasB us vs u v = true) : atHi t us vs u v = up (ip (sideHi t.values vs (fld us u) (fld vs v) v) (sideHi t.values vs (fld us u + 1) (fld vs v) v) (us.getD (fld us u) 0) (us.getD (fld us u + 1) 0) u) (stepD us (fld us u)) := by
  unfold atHi; rw [if_pos hb]
theorem at_le (g : GoodV t us vs) (u v : Int) : atLo t us vs u v ≤ atHi t us vs u v := by
  by_cases hb : hasB us vs u v = true
  · obtain ⟨k1, k2⟩ := In1.of_has g hb
    rw [atLo_has hb, atHi_has hb]
    have q := k2.step g.vi
    exact dn_up (k1.step g.ui) (ip_mono (dn_up q (Int.le_refl _)) (dn_up q (Int.le_refl _)) k1.2.1 k1.2.2)
  · unfold atLo atHi
    rw [if_neg hb, if_neg hb]
    exact g.side.1
/-- Between the least and the greatest of the values around it. -/
theorem at_between (g : GoodV t us vs) {i k : Nat} {u v m M : Int} (h1 : In1 us i u) (h2 : In1 vs k v)
    (c1 : m ≤ val t.values i k ∧ val t.values i k ≤ M) (c2 : m ≤ val t.values i (k + 1) ∧ val t.values i (k + 1) ≤ M) (c3 : m ≤ val t.values (i + 1) k ∧ val t.values (i + 1) k ≤ M) (c4 : m ≤ val t.values (i + 1) (k + 1) ∧ val t.values (i + 1) (k + 1) ≤ M) :
    m ≤ atLo t us vs u v ∧ atHi t us vs u v ≤ M := by
  have hb := In1.has g h1 h2
  obtain ⟨k1, k2⟩ := In1.of_has g hb
  rw [atLo_has hb, atHi_has hb]
  have s1 := side_between g h2 k2 c1 c2
  have s2 := side_between g h2 k2 c3 c4
  have q := k1.step g.ui
  exact ⟨le_dn q (ip_any g.ui (f := fun a => sideLo t.values vs a (fld vs v) v) h1 k1 s1.1 s2.1).1, up_le q (ip_any g.ui (f := fun a => sideHi t.values vs a (fld vs v) v) h1 k1 s1.2.1 s2.2.1).2⟩
/-- At tangents of the table: the value itself. -/
theorem at_node (g : GoodV t us vs) {i k : Nat} (hi : i < us.length) (hk : k < vs.length) : atLo t us vs (us.getD i 0) (vs.getD k 0) = val t.values i k ∧ atHi t us vs (us.getD i 0) (vs.getD k 0) = val t.values i k := by
  have hb : hasB us vs (us.getD i 0) (vs.getD k 0) = true := by
    rw [hasB_iff]
    exact ⟨⟨rising_le g.ui (Nat.zero_le _) hi, rising_le g.ui (by omega) (by omega)⟩, ⟨rising_le g.vi (Nat.zero_le _) hk, rising_le g.vi (by omega) (by omega)⟩⟩
  obtain ⟨k1, k2⟩ := In1.of_has g hb
  have p1 := k1.step g.ui
  have p2 := k2.step g.vi
  have up_mul : ∀ {x d : Int}, 0 < d → up (x * d) d = x := fun {x d} hd => by
    unfold up
    rw [← Int.neg_mul, Int.mul_ediv_cancel _ (by omega), Int.neg_neg]
  have s1 : ∀ a, sideLo t.values vs a (fld vs (vs.getD k 0)) (vs.getD k 0) = val t.values a k := fun a => by
    unfold sideLo sideN
    rw [ip_node g.vi (fun k => val t.values a k) hk k2, Int.mul_ediv_cancel _ (by omega)]
  have s2 : ∀ a, sideHi t.values vs a (fld vs (vs.getD k 0)) (vs.getD k 0) = val t.values a k := fun a => by
    unfold sideHi sideN
    rw [ip_node g.vi (fun k => val t.values a k) hk k2, up_mul p2]
  rw [atLo_has hb, atHi_has hb]
  simp only [s1, s2]
  rw [ip_node g.ui (fun a => val t.values a k) hi k1]
  exact ⟨Int.mul_ediv_cancel _ (by omega), up_mul p1⟩
end
/-! ### The first field -/
def findI {β : Type} (p : Nat → Option β) (n : Nat) : Option β := (List.range n).findSome? p
theorem findI_some {β : Type} {p : Nat → Option β} {n i : Nat} {x : β} (hi : i < n) (h : p i = some x) (hn : ∀ j, j < i → p j = none) : findI p n = some x := by
  unfold findI
  have e : n = i + (1 + (n - i - 1)) := by omega
  rw [e, List.range_add, List.findSome?_append, List.range_add, List.map_append, List.findSome?_append]
  have h0 : (List.range i).findSome? p = none := by
    rw [List.findSome?_eq_none_iff]
    intro j hj
    exact hn j (List.mem_range.1 hj)
  rw [h0]
  simp [h]
theorem findI_none {β : Type} {p : Nat → Option β} {n : Nat} (hn : ∀ j, j < n → p j = none) : findI p n = none := by
  unfold findI
  rw [List.findSome?_eq_none_iff]
  intro j hj
  exact hn j (List.mem_range.1 hj)
theorem findI_of {β : Type} {p : Nat → Option β} {n : Nat} {x : β} (h : findI p n = some x) : ∃ i, i < n ∧ p i = some x := by
  unfold findI at h
  obtain ⟨i, hi, h2⟩ := List.exists_of_findSome?_eq_some h
  exact ⟨i, List.mem_range.1 hi, h2⟩
theorem findI_no {β : Type} {p : Nat → Option β} {n : Nat} (h : findI p n = none) : ∀ i, i < n → p i = none := by
  unfold findI at h
  rw [List.findSome?_eq_none_iff] at h
  exact fun i hi => h i (List.mem_range.2 hi)
def in1B (l : List Int) (i : Nat) (u : Int) : Bool := decide (l.getD i 0 ≤ u) && decide (u ≤ l.getD (i + 1) 0)
def firstK (us vs : List Int) (u v : Int) (i : Nat) (k : Nat) : Option (Nat × Nat) := if (in1B us i u && in1B vs k v) = true then some (i, k) else none
def firstI (us vs : List Int) (u v : Int) (i : Nat) : Option (Nat × Nat) := findI (firstK us vs u v i) (vs.length - 1)
def firstC (us vs : List Int) (u v : Int) : Option (Nat × Nat) := findI (firstI us vs u v) (us.length - 1)
theorem in1B_iff {l : List Int} {i : Nat} {u : Int} : in1B l i u = true ↔ l.getD i 0 ≤ u ∧ u ≤ l.getD (i + 1) 0 := by
  unfold in1B; simp only [Bool.and_eq_true, decide_eq_true_eq]
theorem firstC_some {us vs : List Int} {u v : Int} {i k : Nat} (h : firstC us vs u v = some (i, k)) : In1 us i u ∧ In1 vs k v := by
  obtain ⟨j, hj, h1⟩ := findI_of h
  obtain ⟨m, hm, h2⟩ := findI_of h1
  unfold firstK at h2
  split at h2
  · rename_i hb
    injection h2 with h2
    injection h2 with e1 e2
    subst e1; subst e2
    rw [Bool.and_eq_true, in1B_iff, in1B_iff] at hb
    exact ⟨⟨by omega, hb.1⟩, ⟨by omega, hb.2⟩⟩
  · cases h2
theorem firstC_none {t : Table} {us vs : List Int} (g : GoodV t us vs) {u v : Int} (h : firstC us vs u v = none) : hasB us vs u v = false := by
  rw [Bool.eq_false_iff]
  intro hb
  obtain ⟨k1, k2⟩ := In1.of_has g hb
  have h1 := findI_no (findI_no h (fld us u) (by have := k1.1; omega)) (fld vs v) (by have := k2.1; omega)
  unfold firstK at h1
  rw [if_pos (by rw [Bool.and_eq_true, in1B_iff, in1B_iff]; exact ⟨k1.2, k2.2⟩)] at h1
  cases h1
end Go.Proofs.Ytjhecgiipajdpaa
