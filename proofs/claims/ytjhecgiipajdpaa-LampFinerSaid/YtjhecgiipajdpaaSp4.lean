/- The interpolation: fields, views, enclosures. -/
import Derived.Test.YtjhecgiipajdpaaSp3
import Derived.Test.YtjhecgiipajdpaaAv14
set_option linter.unusedVariables false
set_option linter.unusedSimpArgs false
namespace Go.Proofs.Ytjhecgiipajdpaa

def sc (l : List Int) (h : Int) : List Int := l.map fun n => n * h
theorem sc_length (l : List Int) (h : Int) : (sc l h).length = l.length := List.length_map _
theorem sc_get (l : List Int) (h : Int) (j : Nat) : (sc l h).getD j 0 = l.getD j 0 * h := by
  unfold sc
  rw [List.getD_eq_getElem?_getD, List.getD_eq_getElem?_getD, List.getElem?_map]
  cases l[j]? <;> simp
theorem sc_take {l : List Int} {h : Int} {k : Nat} (hk : k < l.length) : sc (l.take k) h ++ [l.getD k 0 * h] = sc (l.take (k + 1)) h := by
  rw [List.take_add_one, List.getD_eq_getElem?_getD, List.getElem?_eq_getElem hk]
  unfold sc
  rw [List.map_append]
  rfl
theorem rising_lt {l : List Int} (h : rising l = true) : ∀ (j i : Nat), i < j → j < l.length → l.getD i 0 < l.getD j 0
  | 0, i, h1, _ => by omega
  | j + 1, i, h1, h2 => by
    have h3 := rising_get h h2
    rcases Nat.lt_or_ge i j with h4 | h4
    · have := rising_lt h j i h4 (by omega); omega
    · have : i = j := by omega
      subst this; exact h3
theorem rising_le {l : List Int} (h : rising l = true) {i j : Nat} (h1 : i ≤ j) (h2 : j < l.length) : l.getD i 0 ≤ l.getD j 0 := by
  rcases Nat.lt_or_ge i j with h4 | h4
  · have := rising_lt h j i h4 h2; omega
  · have : i = j := by omega
    subst this; omega

/-- The field that a number is in. -/
def fldAux (l : List Int) (n : Int) : Nat → Nat
  | 0 => 0
  | k + 1 => if l.getD k 0 ≤ n then k else fldAux l n k
def fld (l : List Int) (n : Int) : Nat := fldAux l n (l.length - 1)
theorem fldAux_spec (l : List Int) (n : Int) : ∀ k : Nat, (fldAux l n k = 0 ∨ fldAux l n k < k) ∧ (fldAux l n k = 0 ∨ l.getD (fldAux l n k) 0 ≤ n) ∧ ∀ j : Nat, fldAux l n k < j → j < k → n < l.getD j 0
  | 0 => ⟨.inl rfl, .inl rfl, fun j _ h => by omega⟩
  | k + 1 => by
    obtain ⟨h1, h2, h3⟩ := fldAux_spec l n k
    unfold fldAux
    split
    · rename_i h
      exact ⟨.inr (by omega), .inr h, fun j h4 h5 => by omega⟩
    · rename_i h
      refine ⟨by omega, h2, fun j h4 h5 => ?_⟩
      rcases Nat.lt_or_ge j k with h6 | h6
      · exact h3 j h4 h6
      · have : j = k := by omega
        subst this; omega
def lowB (l : List Int) (x : Int) : Nat := l.findIdx fun y => decide (x ≤ y)
theorem lowB_eq {l : List Int} {x : Int} {k : Nat} (hk : k ≤ l.length) (h1 : ∀ j : Nat, j < k → l.getD j 0 < x) (h2 : ∀ j : Nat, k ≤ j → j < l.length → x ≤ l.getD j 0) : lowB l x = k := by
  unfold lowB
  have e : ∀ j, (hj : j < l.length) → l.getD j 0 = l[j] := fun j hj => by rw [List.getD_eq_getElem?_getD, List.getElem?_eq_getElem hj]; rfl
  rcases Nat.lt_or_ge k l.length with h | h
  · rw [List.findIdx_eq h]
    refine ⟨by rw [← e k h]; exact decide_eq_true (h2 k (Nat.le_refl _) h), fun j hj => ?_⟩
    rw [← e j (by omega)]
    exact decide_eq_false (by have := h1 j hj; omega)
  · have : k = l.length := by omega
    subst this
    rw [List.findIdx_eq_length]
    intro y hy
    obtain ⟨j, hj⟩ := List.getElem?_of_mem hy
    obtain ⟨hj1, hj2⟩ := List.getElem?_eq_some_iff.1 hj
    have := h1 j hj1
    rw [e j hj1, hj2] at this
    exact decide_eq_false (by omega)
theorem lowB_spec {l : List Int} (h : rising l = true) (x : Int) : lowB l x ≤ l.length ∧ (∀ j : Nat, j < lowB l x → l.getD j 0 < x) ∧ ∀ j : Nat, lowB l x ≤ j → j < l.length → x ≤ l.getD j 0 := by
  have e : ∀ j, (hj : j < l.length) → l.getD j 0 = l[j] := fun j hj => by rw [List.getD_eq_getElem?_getD, List.getElem?_eq_getElem hj]; rfl
  have hle : lowB l x ≤ l.length := List.findIdx_le_length
  refine ⟨hle, fun j hj => ?_, fun j h1 h2 => ?_⟩
  · have := List.not_of_lt_findIdx hj
    rw [e j (by omega)]
    simpa using this
  · have h3 : lowB l x < l.length := by omega
    have h4 : decide (x ≤ l[lowB l x]) = true := List.findIdx_getElem (w := h3)
    have h5 := of_decide_eq_true h4
    rw [← e _ h3] at h5
    have := rising_le h h1 h2
    omega
theorem field_eq {l : List Int} (h : rising l = true) (hl : 2 ≤ l.length) (n : Int) : max 0 (min ((lowB l (n + 1) : Int) - 1) ((l.length : Int) - 2)) = (fld l n : Int) := by
  obtain ⟨i1, i2, i3⟩ := lowB_spec h (n + 1)
  obtain ⟨f1, f2, f3⟩ := fldAux_spec l n (l.length - 1)
  unfold fld
  generalize hi : lowB l (n + 1) = i at *
  generalize hf : fldAux l n (l.length - 1) = f at *
  have key1 : i ≤ f → f = 0 := by
    intro hif
    rcases f2 with h0 | h0
    · exact h0
    · have := i3 f hif (by omega); omega
  have key2 : ∀ j : Nat, f < j → j < l.length - 1 → i ≤ j := by
    intro j h1 h2
    have a := f3 j h1 h2
    rcases Nat.lt_or_ge j i with h4 | h4
    · have := i2 j h4; omega
    · exact h4
  rcases Nat.lt_or_ge f i with h4 | h4
  · rcases Nat.lt_or_ge (f + 1) (l.length - 1) with h5 | h5
    · have := key2 (f + 1) (by omega) h5; omega
    · omega
  · have := key1 h4; omega
theorem fld_spec {l : List Int} (hl : 2 ≤ l.length) {n : Int} (h1 : l.getD 0 0 ≤ n) (h2 : n ≤ l.getD (l.length - 1) 0) : fld l n + 1 < l.length ∧ l.getD (fld l n) 0 ≤ n ∧ n ≤ l.getD (fld l n + 1) 0 := by
  obtain ⟨f1, f2, f3⟩ := fldAux_spec l n (l.length - 1)
  unfold fld
  generalize hf : fldAux l n (l.length - 1) = f at *
  refine ⟨by omega, ?_, ?_⟩
  · rcases f2 with h0 | h0
    · rw [h0]; exact h1
    · exact h0
  · rcases Nat.lt_or_ge (f + 1) (l.length - 1) with h5 | h5
    · have := f3 (f + 1) (by omega) h5; omega
    · have : f + 1 = l.length - 1 := by omega
      rw [this]; exact h2
theorem fld_lt {l : List Int} (hl : 2 ≤ l.length) (n : Int) : fld l n + 1 < l.length := by
  obtain ⟨f1, _⟩ := fldAux_spec l n (l.length - 1)
  unfold fld
  omega

def hasB (us vs : List Int) (u v : Int) : Bool := (decide (us.getD 0 0 ≤ u) && decide (u ≤ us.getD (us.length - 1) 0)) && (decide (vs.getD 0 0 ≤ v) && decide (v ≤ vs.getD (vs.length - 1) 0))
theorem hasB_iff {us vs : List Int} {u v : Int} : hasB us vs u v = true ↔ (us.getD 0 0 ≤ u ∧ u ≤ us.getD (us.length - 1) 0) ∧ (vs.getD 0 0 ≤ v ∧ v ≤ vs.getD (vs.length - 1) 0) := by
  unfold hasB; simp only [Bool.and_eq_true, decide_eq_true_eq]

/-! ### Interpolation -/
def ip (x y a b n : Int) : Int := x * (b - n) + y * (n - a)
theorem ip_in {x y a b n M : Int} (hx : 0 ≤ x ∧ x ≤ M) (hy : 0 ≤ y ∧ y ≤ M) (h1 : a ≤ n) (h2 : n ≤ b) : 0 ≤ ip x y a b n ∧ ip x y a b n ≤ M * (b - a) := by
  unfold ip
  have p1 : 0 ≤ x * (b - n) := Int.mul_nonneg hx.1 (by omega)
  have p2 : 0 ≤ y * (n - a) := Int.mul_nonneg hy.1 (by omega)
  have p3 : x * (b - n) ≤ M * (b - n) := Int.mul_le_mul_of_nonneg_right hx.2 (by omega)
  have p4 : y * (n - a) ≤ M * (n - a) := Int.mul_le_mul_of_nonneg_right hy.2 (by omega)
  have p5 : M * (b - n) + M * (n - a) = M * (b - a) := by rw [← Int.mul_add]; congr 1; omega
  omega
theorem div_in0 {p d M : Int} (hd : 0 < d) (h : 0 ≤ p ∧ p ≤ M * d) : 0 ≤ p / d ∧ p / d ≤ M :=
  ⟨Int.ediv_nonneg h.1 (by omega), Int.ediv_le_of_le_mul hd h.2⟩
theorem up_in0 {p d M : Int} (hd : 0 < d) (h : 0 ≤ p ∧ p ≤ M * d) : 0 ≤ up p d ∧ up p d ≤ M := by
  unfold up
  have h1 : (-p) / d ≤ 0 := by
    have := Int.ediv_le_ediv hd (show -p ≤ 0 by omega)
    simpa using this
  have h2 : -M ≤ (-p) / d := by
    rw [Int.le_ediv_iff_mul_le hd, Int.neg_mul]
    omega
  omega
abbrev val (vs : List (List Int)) (a k : Nat) : Int := (vs.getD a []).getD k 0
def sideN (vals : List (List Int)) (vs : List Int) (a k : Nat) (v : Int) : Int := ip (val vals a k) (val vals a (k + 1)) (vs.getD k 0) (vs.getD (k + 1) 0) v
abbrev stepD (vs : List Int) (k : Nat) : Int := vs.getD (k + 1) 0 - vs.getD k 0
def sideLo (vals : List (List Int)) (vs : List Int) (a k : Nat) (v : Int) : Int := sideN vals vs a k v / stepD vs k
def sideHi (vals : List (List Int)) (vs : List Int) (a k : Nat) (v : Int) : Int := up (sideN vals vs a k v) (stepD vs k)
def atLo (t : Table) (us vs : List Int) (u v : Int) : Int :=
  if hasB us vs u v = true then ip (sideLo t.values vs (fld us u) (fld vs v) v) (sideLo t.values vs (fld us u + 1) (fld vs v) v) (us.getD (fld us u) 0) (us.getD (fld us u + 1) 0) u / stepD us (fld us u) else 0
def atHi (t : Table) (us vs : List Int) (u v : Int) : Int :=
  if hasB us vs u v = true then up (ip (sideHi t.values vs (fld us u) (fld vs v) v) (sideHi t.values vs (fld us u + 1) (fld vs v) v) (us.getD (fld us u) 0) (us.getD (fld us u + 1) 0) u) (stepD us (fld us u)) else t.side

/-! ### A table that passed the check -/
structure Good (t : Table) : Prop where
  ul : 2 ≤ t.us.length ∧ t.us.length ≤ 12
  vl : 2 ≤ t.vs.length ∧ t.vs.length ≤ 12
  ur : ranged t.us (-5000) 5000 = true
  vr : ranged t.vs (-5000) 5000 = true
  ui : rising t.us = true
  vi : rising t.vs = true
  vn : t.values.length = t.us.length
  rows : ∀ a : Nat, a < t.us.length → (t.values.getD a []).length = t.vs.length
  vals : ∀ a b : Nat, a < t.us.length → b < t.vs.length → 0 ≤ val t.values a b ∧ val t.values a b ≤ 10000000
  side : 0 ≤ t.side ∧ t.side ≤ 10000000
theorem Good.of {t : Table} (h : tableErr t = 0) : Good t := by
  unfold tableErr at h
  split at h; · omega
  split at h; · omega
  split at h; · omega
  split at h; · omega
  split at h; · omega
  rename_i h1 h2 h3 h4 h5
  simp only [not_or, Decidable.not_not, ne_eq] at h1 h2 h3 h4 h5
  simp only [Bool.not_eq_true] at h4 h5
  have hrows : ∀ a : Nat, a < t.values.length → (t.values.getD a []).length = t.vs.length := by
    intro a ha
    have := List.any_eq_false.1 h4.2 _ (getD_mem (d := []) ha)
    simp only [decide_eq_true_eq, Decidable.not_not] at this
    omega
  have hvn : t.values.length = t.us.length := by omega
  refine ⟨by omega, by omega, h2.1, h2.2, h3.1, h3.2, hvn, fun a ha => hrows a (by omega), fun a b ha hb => ?_, h5.2.1⟩
  exact (rows_any hrows).1 h5.1 a b (by omega) hb
/-- A view: tangents times the depth. -/
structure GoodV (t : Table) (us vs : List Int) : Prop where
  ul : 2 ≤ us.length ∧ us.length ≤ 12
  vl : 2 ≤ vs.length ∧ vs.length ≤ 12
  ur : ∀ j : Nat, -150000000 ≤ us.getD j 0 ∧ us.getD j 0 ≤ 150000000
  vr : ∀ j : Nat, -150000000 ≤ vs.getD j 0 ∧ vs.getD j 0 ≤ 150000000
  ui : rising us = true
  vi : rising vs = true
  vn : t.values.length = us.length
  rows : ∀ a : Nat, a < us.length → (t.values.getD a []).length = vs.length
  vals : ∀ a b : Nat, a < us.length → b < vs.length → 0 ≤ val t.values a b ∧ val t.values a b ≤ 10000000
  side : 0 ≤ t.side ∧ t.side ≤ 10000000
theorem ranged_any {l : List Int} (h : ranged l (-5000) 5000 = true) (j : Nat) : -5000 ≤ l.getD j 0 ∧ l.getD j 0 ≤ 5000 := by
  rcases Nat.lt_or_ge j l.length with h1 | h1
  · exact ranged_get h h1
  · rw [List.getD_eq_getElem?_getD, List.getElem?_eq_none h1]; simp
theorem sc_rising {l : List Int} {h : Int} (hh : 0 < h) (hr : rising l = true) : rising (sc l h) = true :=
  rising_of fun j hj => by
    rw [sc_length] at hj
    rw [sc_get, sc_get]
    exact Int.mul_lt_mul_of_pos_right (rising_get hr hj) hh
theorem sc_in {l : List Int} {h : Int} (hr : ranged l (-5000) 5000 = true) (hh : 1 ≤ h ∧ h ≤ 30000) (j : Nat) : -150000000 ≤ (sc l h).getD j 0 ∧ (sc l h).getD j 0 ≤ 150000000 := by
  rw [sc_get]
  have h1 := ranged_any hr j
  have h2 := mulB 5000 30000 (a := l.getD j 0) (b := h) (by omega) (by omega)
  omega
theorem Good.view {t : Table} (g : Good t) {h : Int} (hh : 1 ≤ h ∧ h ≤ 30000) : GoodV t (sc t.us h) (sc t.vs h) where
  ul := by rw [sc_length]; exact g.ul
  vl := by rw [sc_length]; exact g.vl
  ur := sc_in g.ur hh
  vr := sc_in g.vr hh
  ui := sc_rising (by omega) g.ui
  vi := sc_rising (by omega) g.vi
  vn := by rw [sc_length]; exact g.vn
  rows := by rw [sc_length, sc_length]; exact g.rows
  vals := by rw [sc_length, sc_length]; exact g.vals
  side := g.side
theorem GoodV.vstep {t : Table} {us vs : List Int} (g : GoodV t us vs) {k : Nat} (hk : k + 1 < vs.length) : 0 < stepD vs k ∧ stepD vs k ≤ 300000000 := by
  have h1 := rising_get g.vi hk
  have h2 := g.vr k
  have h3 := g.vr (k + 1)
  unfold stepD
  omega
theorem GoodV.ustep {t : Table} {us vs : List Int} (g : GoodV t us vs) {k : Nat} (hk : k + 1 < us.length) : 0 < stepD us k ∧ stepD us k ≤ 300000000 := by
  have h1 := rising_get g.ui hk
  have h2 := g.ur k
  have h3 := g.ur (k + 1)
  unfold stepD
  omega
theorem GoodV.sideN_in {t : Table} {us vs : List Int} (g : GoodV t us vs) {a k : Nat} (ha : a < us.length) (hk : k + 1 < vs.length) {v : Int} (h1 : vs.getD k 0 ≤ v) (h2 : v ≤ vs.getD (k + 1) 0) : 0 ≤ sideN t.values vs a k v ∧ sideN t.values vs a k v ≤ 10000000 * stepD vs k :=
  ip_in (g.vals a k ha (by omega)) (g.vals a (k + 1) ha hk) h1 h2
theorem GoodV.side_in {t : Table} {us vs : List Int} (g : GoodV t us vs) {a k : Nat} (ha : a < us.length) (hk : k + 1 < vs.length) {v : Int} (h1 : vs.getD k 0 ≤ v) (h2 : v ≤ vs.getD (k + 1) 0) :
    (0 ≤ sideLo t.values vs a k v ∧ sideLo t.values vs a k v ≤ 10000000) ∧ (0 ≤ sideHi t.values vs a k v ∧ sideHi t.values vs a k v ≤ 10000000) :=
  ⟨div_in0 (g.vstep hk).1 (g.sideN_in ha hk h1 h2), up_in0 (g.vstep hk).1 (g.sideN_in ha hk h1 h2)⟩
theorem GoodV.at_in {t : Table} {us vs : List Int} (g : GoodV t us vs) (u v : Int) : (0 ≤ atLo t us vs u v ∧ atLo t us vs u v ≤ 10000000) ∧ (0 ≤ atHi t us vs u v ∧ atHi t us vs u v ≤ 10000000) := by
  unfold atLo atHi
  by_cases h : hasB us vs u v = true
  · rw [if_pos h, if_pos h]
    rw [hasB_iff] at h
    obtain ⟨i1, i2, i3⟩ := fld_spec g.ul.1 h.1.1 h.1.2
    obtain ⟨k1, k2, k3⟩ := fld_spec g.vl.1 h.2.1 h.2.2
    have s1 := g.side_in (a := fld us u) (by omega) k1 k2 k3
    have s2 := g.side_in (a := fld us u + 1) i1 k1 k2 k3
    exact ⟨div_in0 (g.ustep i1).1 (ip_in s1.1 s2.1 i2 i3), up_in0 (g.ustep i1).1 (ip_in s1.2 s2.2 i2 i3)⟩
  · rw [if_neg h, if_neg h]
    have := g.side
    omega
end Go.Proofs.Ytjhecgiipajdpaa
