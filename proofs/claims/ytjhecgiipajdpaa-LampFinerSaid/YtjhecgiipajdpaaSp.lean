/- What the functions of the lamps compute: data and plain functions. -/
import Derived.Test.YtjhecgiipajdpaaAv11
import Derived.Test.YtjhecgiipajdpaaTy
set_option linter.unusedVariables false
set_option linter.unusedSimpArgs false
namespace Go.Proofs.Ytjhecgiipajdpaa

structure Table where
  name : ByteArray
  us : List Int
  vs : List Int
  values : List (List Int)
  side : Int
  sky : Int
abbrev Table.av (t : Table) : AV := .agg [.str t.name, .slice (t.us.map I) none, .slice (t.vs.map I) none, .slice (t.values.map ints) none, I t.side, I t.sky]
instance : Inhabited Table := ⟨⟨⟨#[]⟩, [], [], [], 0, 0⟩⟩
structure Lamp where
  name : ByteArray
  table : Int
  kind : Int
  lumens : Int
  power : Int
  standing : Int
  tolerance : Int
  ageLo : Int
  ageHi : Int
  dirtLo : Int
  dirtHi : Int
  life : Int
  dim : Int
  restrike : Int
abbrev Lamp.av (x : Lamp) : AV := .agg [.str x.name, I x.table, I x.kind, I x.lumens, I x.power, I x.standing, I x.tolerance, I x.ageLo, I x.ageHi, I x.dirtLo, I x.dirtHi, I x.life, I x.dim, I x.restrike]
instance : Inhabited Lamp := ⟨⟨⟨#[]⟩, 0, 0, 0, 0, 0, 0, 0, 0, 0, 0, 0, 0, 0⟩⟩
structure Cat where
  tables : List Table
  lamps : List Lamp
abbrev Cat.av (c : Cat) : AV := .agg [.slice (c.tables.map Table.av) none, .slice (c.lamps.map Lamp.av) none]

/-! ### Names -/
def lowU (c : UInt8) : Bool := decide (97 ≤ (c.toNat : Int)) && decide ((c.toNat : Int) ≤ 122)
def digU (c : UInt8) : Bool := decide (48 ≤ (c.toNat : Int)) && decide ((c.toNat : Int) ≤ 57)
def okU (c : UInt8) : Bool := lowU c || digU c || decide ((c.toNat : Int) = 45)
def nameL (l : List UInt8) : Bool := decide (1 ≤ (l.length : Int)) && decide ((l.length : Int) ≤ 24) && lowU (l.getD 0 0) && l.all okU
def nameOK (s : ByteArray) : Bool := nameL s.data.toList

theorem all_getD {l : List UInt8} {p : UInt8 → Bool} (h : ∀ j : Nat, j < l.length → p (l.getD j 0) = true) : l.all p = true := by
  rw [List.all_eq_true]
  intro x hx
  obtain ⟨j, hj⟩ := List.getElem?_of_mem hx
  have := h j (List.getElem?_eq_some_iff.1 hj).1
  rwa [List.getD_eq_getElem?_getD, hj, Option.getD_some] at this
theorem not_all_getD {l : List UInt8} {p : UInt8 → Bool} (j : Nat) (hj : j < l.length) (h : p (l.getD j 0) = false) : l.all p = false := by
  rw [List.all_eq_false]
  exact ⟨l.getD j 0, by rw [List.getD_eq_getElem?_getD, List.getElem?_eq_getElem hj]; exact List.getElem_mem hj, by rw [h]; simp⟩
def okAt (c : Int) (j : Nat) : Prop := (97 ≤ c ∧ c ≤ 122) ∨ (j ≠ 0 ∧ ((48 ≤ c ∧ c ≤ 57) ∨ c = 45))
theorem okAt_ok {c : UInt8} {j : Nat} (h : okAt (c.toNat : Int) j) : okU c = true := by
  simp only [okU, lowU, digU, Bool.or_eq_true, Bool.and_eq_true, decide_eq_true_eq]
  unfold okAt at h; omega
theorem okAt_low {c : UInt8} (h : okAt (c.toNat : Int) 0) : lowU c = true := by
  simp only [lowU, Bool.and_eq_true, decide_eq_true_eq]
  unfold okAt at h; omega
theorem name18 {s : ByteArray} (h : ∀ j : Nat, j < s.data.toList.length → okAt ((s.data.toList.getD j 0).toNat : Int) j) : (decide (s ≠ ⟨#[]⟩) && decide ((s.size : Int) ≤ 24)) = nameOK s := by
  have hl : (s.size : Int) = (s.data.toList.length : Int) := by rw [Array.length_toList]; rfl
  have hall : s.data.toList.all okU = true := all_getD fun j hj => okAt_ok (h j hj)
  have hne : decide (s ≠ ⟨#[]⟩) = decide (1 ≤ (s.data.toList.length : Int)) := by
    rw [Bool.eq_iff_iff, decide_eq_true_iff, decide_eq_true_iff]
    constructor
    · intro hn
      rcases Nat.eq_zero_or_pos s.data.toList.length with h0 | h0
      · exfalso
        apply hn
        have : s.data = #[] := by
          rw [Array.length_toList] at h0
          exact Array.size_eq_zero_iff.1 h0
        cases s
        simp_all
      · omega
    · rintro hn rfl
      simp at hn
  rw [hl, hne]
  unfold nameOK nameL
  rw [hall, Bool.and_true]
  by_cases h1 : (1 : Int) ≤ (s.data.toList.length : Int)
  · rw [okAt_low (h 0 (by omega)), Bool.and_true]
  · rw [decide_eq_false h1]; simp
theorem name18f {s : ByteArray} {k : Nat} (hk : k < s.data.toList.length) (h : ¬ okAt ((s.data.toList.getD k 0).toNat : Int) k) : false = nameOK s := by
  unfold nameOK nameL
  by_cases h0 : k = 0
  · subst h0
    have : lowU (s.data.toList.getD 0 0) = false := by
      rw [Bool.eq_false_iff]
      intro hl
      simp only [lowU, Bool.and_eq_true, decide_eq_true_eq] at hl
      exact h (.inl hl)
    rw [this]; simp
  · have : okU (s.data.toList.getD k 0) = false := by
      rw [Bool.eq_false_iff]
      intro hl
      simp only [okU, lowU, digU, Bool.or_eq_true, Bool.and_eq_true, decide_eq_true_eq] at hl
      unfold okAt at h
      omega
    rw [not_all_getD k hk this]; simp
theorem name19 {s : ByteArray} (h0 : ¬ ((s.size : Int) < 1)) (h1 : ¬ (24 < (s.size : Int))) (h2 : 97 ≤ ((s.data.toList.getD 0 0).toNat : Int)) (h3 : ((s.data.toList.getD 0 0).toNat : Int) ≤ 122) (h : ∀ j : Nat, j < s.data.toList.length → okU (s.data.toList.getD j 0) = true) : true = nameOK s := by
  have hl : (s.size : Int) = (s.data.toList.length : Int) := by rw [Array.length_toList]; rfl
  unfold nameOK nameL
  rw [all_getD h]
  simp only [lowU]
  rw [decide_eq_true (by omega : (1:Int) ≤ (s.data.toList.length : Int)), decide_eq_true (by omega : (s.data.toList.length : Int) ≤ 24), decide_eq_true h2, decide_eq_true h3]
  rfl
theorem name19a {s : ByteArray} (h : (s.size : Int) < 1 ∨ 24 < (s.size : Int) ∨ ((s.data.toList.getD 0 0).toNat : Int) < 97 ∨ 122 < ((s.data.toList.getD 0 0).toNat : Int)) : false = nameOK s := by
  have hl : (s.size : Int) = (s.data.toList.length : Int) := by rw [Array.length_toList]; rfl
  symm
  rw [Bool.eq_false_iff]
  unfold nameOK nameL lowU
  simp only [ne_eq, Bool.and_eq_true, decide_eq_true_eq]
  omega
theorem name19f {s : ByteArray} {k : Nat} (hk : k < s.data.toList.length) (h : okU (s.data.toList.getD k 0) = false) : false = nameOK s := by
  unfold nameOK nameL
  rw [not_all_getD k hk h]; simp

/-! ### Division -/
def up (a b : Int) : Int := -((-a) / b)
theorem quo_in {a b : Int} (hb : 0 < b) (ha : -9223372036854775807 ≤ a ∧ a ≤ 9223372036854775807) : -9223372036854775807 ≤ a.tdiv b ∧ a.tdiv b ≤ 9223372036854775807 := by
  have h1 : a.tdiv b * b + a.tmod b = a := by have := Int.mul_tdiv_add_tmod a b; rw [Int.mul_comm]; exact this
  rcases Decidable.em (a < 0) with h | h
  · have h2 : (-a).tdiv b = -(a.tdiv b) := Int.neg_tdiv ..
    have h3 : 0 ≤ (-a).tdiv b := Int.tdiv_nonneg (by omega) (by omega)
    have h4 : (-a).tdiv b ≤ -a := Int.tdiv_le_self _ (by omega)
    omega
  · have h3 : 0 ≤ a.tdiv b := Int.tdiv_nonneg (by omega) (by omega)
    have h4 : a.tdiv b ≤ a := Int.tdiv_le_self _ (by omega)
    omega
/-- Rounded down. -/
theorem down_lt {a b : Int} (hb : 0 < b) (h : a.tmod b < 0) : a.tdiv b - 1 = a / b := by
  have h1 := Int.mul_tdiv_add_tmod a b
  have h2 : -b < a.tmod b := by
    have := Int.lt_tmod_of_pos a hb
    omega
  symm
  rw [Int.ediv_eq_iff_of_pos hb]
  constructor
  · have : (a.tdiv b - 1) * b = b * a.tdiv b - b := by rw [Int.sub_mul, Int.one_mul, Int.mul_comm]
    omega
  · have : (a.tdiv b - 1) * b = b * a.tdiv b - b := by rw [Int.sub_mul, Int.one_mul, Int.mul_comm]
    omega
theorem down_ge {a b : Int} (hb : 0 < b) (h : ¬ a.tmod b < 0) : a.tdiv b = a / b := by
  have h1 := Int.mul_tdiv_add_tmod a b
  have h2 : a.tmod b < b := Int.tmod_lt_of_pos a hb
  symm
  rw [Int.ediv_eq_iff_of_pos hb]
  constructor
  · have : (a.tdiv b) * b = b * a.tdiv b := Int.mul_comm ..
    omega
  · have : (a.tdiv b) * b = b * a.tdiv b := Int.mul_comm ..
    omega
theorem div_in {a b : Int} (hb : 0 < b) (ha : -9223372036854775806 ≤ a ∧ a ≤ 9223372036854775806) : -9223372036854775807 ≤ a / b ∧ a / b ≤ 9223372036854775807 := by
  by_cases h : a.tmod b < 0
  · have h1 := down_lt hb h
    have h2 := quo_in hb (a := a + 0) (by omega)
    rw [Int.add_zero] at h2
    have h3 : a < 0 := by
      rcases Decidable.em (a < 0) with h' | h'
      · exact h'
      · have := Int.tmod_nonneg b (a := a) (by omega); omega
    have h4 : -a.tdiv b ≤ -a := by
      have h2 : (-a).tdiv b = -(a.tdiv b) := Int.neg_tdiv ..
      have h4 : (-a).tdiv b ≤ -a := Int.tdiv_le_self _ (by omega)
      omega
    omega
  · have h1 := down_ge hb h
    have h2 := quo_in hb (a := a) (by omega)
    omega
end Go.Proofs.Ytjhecgiipajdpaa
