/- What the check of a catalogue computes. -/
import Derived.Test.YtjhecgiipajdpaaSp
set_option linter.unusedVariables false
set_option linter.unusedSimpArgs false
namespace Go.Proofs.Ytjhecgiipajdpaa

/-! ### Lists -/
theorem getD_mem {α : Type} {l : List α} {d : α} {j : Nat} (h : j < l.length) : l.getD j d ∈ l := by
  rw [List.getD_eq_getElem?_getD, List.getElem?_eq_getElem h]; exact List.getElem_mem h
theorem any_of {α : Type} {l : List α} {p : α → Bool} (d : α) {j : Nat} (hj : j < l.length) (h : p (l.getD j d) = true) : l.any p = true := List.any_eq_true.2 ⟨_, getD_mem hj, h⟩
theorem any_not {α : Type} {l : List α} {p : α → Bool} (d : α) (h : ∀ j : Nat, j < l.length → p (l.getD j d) = false) : l.any p = false := by
  rw [List.any_eq_false]
  intro x hx
  obtain ⟨j, hj⟩ := List.getElem?_of_mem hx
  have := h j (List.getElem?_eq_some_iff.1 hj).1
  rw [List.getD_eq_getElem?_getD, hj, Option.getD_some] at this
  rw [this]; simp
def idxI {α : Type} (p : α → Bool) (l : List α) : Int := if l.any p = true then (l.findIdx p : Int) else -1
theorem idx_found {α : Type} {p : α → Bool} {l : List α} (d : α) {k : Nat} (hk : k < l.length) (hn : ∀ j : Nat, j < k → p (l.getD j d) = false) (h : p (l.getD k d) = true) : (k : Int) = idxI p l := by
  unfold idxI
  rw [if_pos (any_of d hk h)]
  congr 1
  symm
  have e : ∀ j, (hj : j < l.length) → l.getD j d = l[j] := fun j hj => by rw [List.getD_eq_getElem?_getD, List.getElem?_eq_getElem hj]; rfl
  rw [List.findIdx_eq hk]
  refine ⟨by rw [← e k hk]; exact h, fun j hj => ?_⟩
  rw [← e j (by omega)]
  exact hn j hj
theorem idx_none {α : Type} {p : α → Bool} {l : List α} (d : α) (hn : ∀ j : Nat, j < l.length → p (l.getD j d) = false) : (-1 : Int) = idxI p l := by
  unfold idxI
  rw [if_neg]
  rw [any_not d hn]; simp
theorem idx_any {α : Type} (p : α → Bool) (l : List α) : decide (0 ≤ idxI p l) = l.any p := by
  unfold idxI
  split
  · rename_i h
    rw [h]
    exact decide_eq_true (by omega)
  · rename_i h
    rw [Bool.eq_false_iff.2 h]
    rfl

/-! ### The check -/
def ranged (l : List Int) (lo hi : Int) : Bool := !(l.any fun n => !(decide (lo ≤ n) && decide (n ≤ hi)))
def rising (l : List Int) : Bool := (List.range (l.length - 1)).all fun j => decide (l.getD j 0 < l.getD (j + 1) 0)
theorem ranged_all {l : List Int} {lo hi : Int} : ranged l lo hi = true ↔ ∀ n ∈ l, lo ≤ n ∧ n ≤ hi := by
  unfold ranged
  rw [Bool.not_eq_true', List.any_eq_false]
  simp only [Bool.not_eq_true', Bool.not_eq_false, Bool.and_eq_true, decide_eq_true_eq]
theorem ranged_get {l : List Int} {lo hi : Int} (h : ranged l lo hi = true) {j : Nat} (hj : j < l.length) : lo ≤ l.getD j 0 ∧ l.getD j 0 ≤ hi := ranged_all.1 h _ (getD_mem hj)
theorem ranged_of {l : List Int} {lo hi : Int} (h : ∀ j : Nat, j < l.length → lo ≤ l.getD j 0 ∧ l.getD j 0 ≤ hi) : ranged l lo hi = true := by
  rw [ranged_all]
  intro n hn
  obtain ⟨j, hj⟩ := List.getElem?_of_mem hn
  have := h j (List.getElem?_eq_some_iff.1 hj).1
  rwa [List.getD_eq_getElem?_getD, hj, Option.getD_some] at this
theorem not_ranged {l : List Int} {lo hi : Int} {j : Nat} (hj : j < l.length) (h : ¬ (lo ≤ l.getD j 0 ∧ l.getD j 0 ≤ hi)) : ranged l lo hi = false := by
  rw [Bool.eq_false_iff]
  exact fun hr => h (ranged_get hr hj)
theorem rising_of {l : List Int} (h : ∀ j : Nat, j + 1 < l.length → l.getD j 0 < l.getD (j + 1) 0) : rising l = true := by
  unfold rising
  rw [List.all_eq_true]
  intro j hj
  rw [List.mem_range] at hj
  exact decide_eq_true (h j (by omega))
theorem rising_get {l : List Int} (h : rising l = true) {j : Nat} (hj : j + 1 < l.length) : l.getD j 0 < l.getD (j + 1) 0 := by
  unfold rising at h
  rw [List.all_eq_true] at h
  exact of_decide_eq_true (h j (List.mem_range.2 (by omega)))
theorem not_rising {l : List Int} {j : Nat} (hj : j + 1 < l.length) (h : ¬ l.getD j 0 < l.getD (j + 1) 0) : rising l = false := by
  rw [Bool.eq_false_iff]
  exact fun hr => h (rising_get hr hj)

def tableErr (t : Table) : Int :=
  if ¬ (2 ≤ (t.us.length : Int) ∧ (t.us.length : Int) ≤ 12) ∨ ¬ (2 ≤ (t.vs.length : Int) ∧ (t.vs.length : Int) ≤ 12) then 3
  else if ¬ (ranged t.us (-5000) 5000 = true) ∨ ¬ (ranged t.vs (-5000) 5000 = true) then 7
  else if ¬ (rising t.us = true) ∨ ¬ (rising t.vs = true) then 2
  else if (t.values.length : Int) ≠ (t.us.length : Int) ∨ (t.values.any (fun l => decide ((l.length : Int) ≠ (t.vs.length : Int)))) = true then 6
  else if (t.values.any (fun l => !(ranged l 0 10000000))) = true ∨ ¬ ((0 ≤ t.side ∧ t.side ≤ 10000000) ∧ (0 ≤ t.sky ∧ t.sky ≤ 10000000)) then 7
  else 0
def lampErr (nT : Int) (x : Lamp) : Int :=
  if ¬ (0 ≤ x.table ∧ x.table ≤ nT - 1) then 4
  else if ¬ (1 ≤ x.kind ∧ x.kind ≤ 3) then 2
  else if ¬ ((1 ≤ x.lumens ∧ x.lumens ≤ 1000000) ∧ (1 ≤ x.power ∧ x.power ≤ 5000000) ∧ (0 ≤ x.standing ∧ x.standing ≤ x.power) ∧ (0 ≤ x.tolerance ∧ x.tolerance ≤ 1000) ∧
    (0 ≤ x.ageLo ∧ x.ageLo ≤ x.ageHi ∧ x.ageHi ≤ 1000) ∧ (0 ≤ x.dirtLo ∧ x.dirtLo ≤ x.dirtHi ∧ x.dirtHi ≤ 1000) ∧ (1 ≤ x.life ∧ x.life ≤ 200000) ∧ (0 ≤ x.dim ∧ x.dim ≤ 1000) ∧ (0 ≤ x.restrike ∧ x.restrike ≤ 3600)) then 7
  else if x.kind = 1 ∧ 0 < x.restrike then 2
  else 0
def errOf (name : ByteArray) (twice : Bool) (e : Int) : Int := if ¬ (nameOK name = true) then 6 else if twice = true then 5 else e
def tabErr (l : List Table) (i : Nat) : Int := errOf (l.getD i default).name ((l.take i).any fun y => decide (y.name = (l.getD i default).name)) (tableErr (l.getD i default))
def lmpErr (nT : Int) (l : List Lamp) (i : Nat) : Int := errOf (l.getD i default).name ((l.take i).any fun y => decide (y.name = (l.getD i default).name)) (lampErr nT (l.getD i default))
def firstErr (e : Nat → Int) : Nat → Nat → Int × Int
  | 0, _ => (0, 0)
  | n + 1, i => if e i ≠ 0 then ((i : Int), e i) else firstErr e n (i + 1)
theorem firstErr_found {e : Nat → Int} {k : Nat} (h : e k ≠ 0) : ∀ (n i : Nat), i ≤ k → k < i + n → (∀ j : Nat, i ≤ j → j < k → e j = 0) → firstErr e n i = ((k : Int), e k)
  | 0, i, h1, h2, _ => by omega
  | n + 1, i, h1, h2, h3 => by
    unfold firstErr
    by_cases hik : i = k
    · subst hik; rw [if_pos h]
    · rw [if_neg (by rw [h3 i (Nat.le_refl _) (by omega)]; simp)]
      exact firstErr_found h n (i + 1) (by omega) (by omega) (fun j h1 h2 => h3 j (by omega) h2)
theorem firstErr_none {e : Nat → Int} : ∀ (n i : Nat), (∀ j : Nat, i ≤ j → j < i + n → e j = 0) → firstErr e n i = (0, 0)
  | 0, i, _ => rfl
  | n + 1, i, h => by
    unfold firstErr
    rw [if_neg (by rw [h i (Nat.le_refl _) (by omega)]; simp)]
    exact firstErr_none n (i + 1) (fun j h1 h2 => h j (by omega) (by omega))
abbrev tabsErr (l : List Table) : Int × Int := firstErr (tabErr l) l.length 0
abbrev lmpsErr (nT : Int) (l : List Lamp) : Int × Int := firstErr (lmpErr nT l) l.length 0
def check (c : Cat) : Int × Int × Int :=
  if 10 < (c.tables.length : Int) ∨ 20 < (c.lamps.length : Int) then (0, 0, 3)
  else if (tabsErr c.tables).2 ≠ 0 then (1, (tabsErr c.tables).1, (tabsErr c.tables).2)
  else if (lmpsErr (c.tables.length : Int) c.lamps).2 ≠ 0 then (2, (lmpsErr (c.tables.length : Int) c.lamps).1, (lmpsErr (c.tables.length : Int) c.lamps).2)
  else (0, 0, 0)

/-! ### What fits into memory -/
def Table.ok (t : Table) : Prop := (t.name.size : Int) ≤ 9223372036854775807 ∧ (t.us.length : Int) ≤ 9223372036854775807 ∧ (t.vs.length : Int) ≤ 9223372036854775807 ∧ (t.values.length : Int) ≤ 9223372036854775807 ∧ ∀ l ∈ t.values, (l.length : Int) ≤ 9223372036854775807
def Lamp.ok (x : Lamp) : Prop := (x.name.size : Int) ≤ 9223372036854775807
def Cat.ok (c : Cat) : Prop := (c.tables.length : Int) ≤ 9223372036854775807 ∧ (c.lamps.length : Int) ≤ 9223372036854775807 ∧ (∀ t ∈ c.tables, t.ok) ∧ ∀ x ∈ c.lamps, x.ok

theorem ranged2 (a b lo hi : Int) : ranged [a, b] lo hi = true ↔ (lo ≤ a ∧ a ≤ hi) ∧ (lo ≤ b ∧ b ≤ hi) := by
  rw [ranged_all]; simp
theorem take_getD {α : Type} {l : List α} {d : α} {i j : Nat} (h : j < i) : (l.take i).getD j d = l.getD j d := by
  rw [List.getD_eq_getElem?_getD, List.getD_eq_getElem?_getD, List.getElem?_take, if_pos h]
theorem take_any_not {α : Type} {l : List α} {p : α → Bool} (d : α) {i : Nat} (h : ∀ j : Nat, j < i → p (l.getD j d) = false) : (l.take i).any p = false :=
  any_not d fun j hj => by
    rw [List.length_take] at hj
    rw [take_getD (by omega)]
    exact h j (by omega)
theorem take_any_of {α : Type} {l : List α} {p : α → Bool} (d : α) {i j : Nat} (hj : j < i) (hi : i ≤ l.length) (h : p (l.getD j d) = true) : (l.take i).any p = true :=
  any_of d (j := j) (by rw [List.length_take]; omega) (by rw [take_getD hj]; exact h)
theorem rows_any {v : List (List Int)} {m : Nat} (hlen : ∀ a : Nat, a < v.length → (v.getD a []).length = m) :
    (v.any fun l => !(ranged l 0 10000000)) = false ↔ ∀ a b : Nat, a < v.length → b < m → 0 ≤ (v.getD a []).getD b 0 ∧ (v.getD a []).getD b 0 ≤ 10000000 := by
  constructor
  · intro h a b ha hb
    rw [List.any_eq_false] at h
    have := h _ (getD_mem (d := []) ha)
    simp only [Bool.not_eq_true', Bool.not_eq_false] at this
    exact ranged_get this (by rw [hlen a ha]; exact hb)
  · intro h
    refine any_not [] fun a ha => ?_
    rw [ranged_of fun b hb => h a b ha (by rw [← hlen a ha]; exact hb)]
    rfl
theorem default_ok : (default : Table).ok := by refine ⟨?_, ?_, ?_, ?_, ?_⟩ <;> simp [default, ByteArray.size]
theorem Cat.ok.tab {c : Cat} (h : c.ok) {i : Nat} (hi : i < c.tables.length) : (c.tables.getD i default).ok := h.2.2.1 _ (getD_mem hi)
theorem Cat.ok.lam {c : Cat} (h : c.ok) {i : Nat} (hi : i < c.lamps.length) : (c.lamps.getD i default).ok := h.2.2.2 _ (getD_mem hi)
end Go.Proofs.Ytjhecgiipajdpaa
