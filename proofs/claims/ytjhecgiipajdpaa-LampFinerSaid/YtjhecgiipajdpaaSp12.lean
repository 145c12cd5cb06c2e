/- The reference's over: the same hull. -/
import Derived.Test.YtjhecgiipajdpaaSp11
set_option linter.unusedVariables false
set_option linter.unusedSimpArgs false
namespace Go.Proofs.Ytjhecgiipajdpaa
/-- Which crossings the reference takes. -/
def adm (us vs C D : List Int) (a c : Nat) : Prop := hasB us vs (C.getD a 0) (D.getD c 0) = true ∨ (a ≤ 1 ∧ c ≤ 1)
def Done (us vs C D : List Int) (i : Nat) (u v : Int) : Prop := ∃ a c : Nat, a < i ∧ c < D.length ∧ adm us vs C D a c ∧ u = C.getD a 0 ∧ v = D.getD c 0
def Done2 (us vs C D : List Int) (i j : Nat) (u v : Int) : Prop := Done us vs C D i u v ∨ ∃ c : Nat, c < j ∧ adm us vs C D i c ∧ u = C.getD i 0 ∧ v = D.getD c 0
theorem mem_cross2 {l : List Int} {a b x : Int} (hab : a ≤ b) : x ∈ cross2 l a b ↔ x ∈ cross l a b := by
  unfold cross2 cross
  simp only [List.mem_append, List.mem_cons, List.not_mem_nil, or_false, List.mem_filter, Bool.and_eq_true, decide_eq_true_eq]
  constructor
  · rintro (h | ⟨h, h1, h2⟩)
    · exact .inl h
    · rcases Decidable.em (x = a) with e | e
      · exact .inl (.inl e)
      · rcases Decidable.em (x = b) with e2 | e2
        · exact .inl (.inr e2)
        · exact .inr ⟨h, by omega, by omega⟩
  · rintro (h | ⟨h, h1, h2⟩)
    · exact .inl h
    · exact .inr ⟨h, by omega, by omega⟩
theorem getD_of_mem {l : List Int} {x : Int} (h : x ∈ l) : ∃ j : Nat, j < l.length ∧ l.getD j 0 = x := by
  obtain ⟨j, hj⟩ := List.getElem?_of_mem h
  exact ⟨j, (List.getElem?_eq_some_iff.1 hj).1, by rw [List.getD_eq_getElem?_getD, hj]; rfl⟩
theorem done_all {us vs : List Int} {x0 x1 y0 y1 u v : Int} (hx : x0 ≤ x1) (hy : y0 ≤ y1) :
    Done us vs (cross2 us x0 x1) (cross2 vs y0 y1) (cross2 us x0 x1).length u v ↔ Pts us vs x0 x1 y0 y1 u v := by
  constructor
  · rintro ⟨a, c, ha, hc, h | ⟨h1, h2⟩, rfl, rfl⟩
    · exact .inr ⟨(mem_cross2 hx).1 (getD_mem ha), (mem_cross2 hy).1 (getD_mem hc), h⟩
    · left
      have e : ∀ (l : List Int) (p q : Int) (j : Nat), j ≤ 1 → (cross2 l p q).getD j 0 = p ∨ (cross2 l p q).getD j 0 = q := by
        intro l p q j hj
        match j, hj with
        | 0, _ => left; rfl
        | 1, _ => right; rfl
      exact ⟨e us x0 x1 a h1, e vs y0 y1 c h2⟩
  · rintro (⟨h1, h2⟩ | ⟨h1, h2, h3⟩)
    · have e : ∀ (l : List Int) (p q x : Int), x = p ∨ x = q → ∃ j : Nat, j < (cross2 l p q).length ∧ j ≤ 1 ∧ (cross2 l p q).getD j 0 = x := by
        intro l p q x h
        have hlen : 2 ≤ (cross2 l p q).length := by unfold cross2; simp
        rcases h with rfl | rfl
        · exact ⟨0, by omega, by omega, rfl⟩
        · exact ⟨1, by omega, by omega, rfl⟩
      obtain ⟨a, a1, a2, a3⟩ := e us x0 x1 u h1
      obtain ⟨c, c1, c2, c3⟩ := e vs y0 y1 v h2
      exact ⟨a, c, a1, c1, .inr ⟨a2, c2⟩, a3.symm, c3.symm⟩
    · obtain ⟨a, a1, a2⟩ := getD_of_mem ((mem_cross2 hx).2 h1)
      obtain ⟨c, c1, c2⟩ := getD_of_mem ((mem_cross2 hy).2 h2)
      exact ⟨a, c, a1, c1, .inl (by rw [a2, c2]; exact h3), a2.symm, c2.symm⟩
/-- How far the reference has come. -/
def Far (t : Table) (us vs C D : List Int) (i j : Nat) (f : Bool) (lo hi : Int) : Prop := (f = true ∧ i = 0 ∧ j = 0) ∨ (f = false ∧ Cov t us vs (lo, hi) (Done2 us vs C D i j))
section
variable {t : Table} {us vs C D : List Int} {i j : Nat} {f : Bool} {lo hi : Int}
theorem Far.skip (h : Far t us vs C D i j f lo hi) (hn : ¬ adm us vs C D i j) : Far t us vs C D i (j + 1) f lo hi := by
  rcases h with ⟨_, h1, h2⟩ | ⟨h1, h2⟩
  · exact absurd (.inr ⟨by omega, by omega⟩) hn
  · refine .inr ⟨h1, h2.same fun u v => ?_⟩
    constructor
    · rintro (h | ⟨c, h3, h4⟩)
      · exact .inl h
      · exact .inr ⟨c, by omega, h4⟩
    · rintro (h | ⟨c, h3, h4, h5⟩)
      · exact .inl h
      · rcases Decidable.em (c = j) with e | e
        · subst e; exact absurd h4 hn
        · exact .inr ⟨c, by omega, h4, h5⟩
theorem Far.first (h : Far t us vs C D i j true lo hi) (ha : adm us vs C D i j) : Far t us vs C D i (j + 1) false (min (atLo t us vs (C.getD i 0) (D.getD j 0)) (atLo t us vs (C.getD i 0) (D.getD j 0))) (max (atHi t us vs (C.getD i 0) (D.getD j 0)) (atHi t us vs (C.getD i 0) (D.getD j 0))) := by
  rcases h with ⟨_, h1, h2⟩ | ⟨h1, h2⟩
  · refine .inr ⟨rfl, ?_⟩
    rw [Int.min_self, Int.max_self]
    refine (Cov.one t us vs _ _).same fun u v => ?_
    constructor
    · rintro ⟨rfl, rfl⟩; exact .inr ⟨j, by omega, ha, rfl, rfl⟩
    · rintro (⟨a, c, h3, _⟩ | ⟨c, h3, h4, h5, h6⟩)
      · omega
      · have : c = j := by omega
        subst this; exact ⟨h5, h6⟩
  · cases h1
theorem Far.next (h : Far t us vs C D i j false lo hi) (ha : adm us vs C D i j) : Far t us vs C D i (j + 1) false (min lo (atLo t us vs (C.getD i 0) (D.getD j 0))) (max hi (atHi t us vs (C.getD i 0) (D.getD j 0))) := by
  rcases h with ⟨h1, _⟩ | ⟨h1, h2⟩
  · cases h1
  · refine .inr ⟨rfl, (h2.add (C.getD i 0) (D.getD j 0)).same fun u v => ?_⟩
    constructor
    · rintro ((h | ⟨c, h3, h4⟩) | ⟨rfl, rfl⟩)
      · exact .inl h
      · exact .inr ⟨c, by omega, h4⟩
      · exact .inr ⟨j, by omega, ha, rfl, rfl⟩
    · rintro (h | ⟨c, h3, h4, h5, h6⟩)
      · exact .inl (.inl h)
      · rcases Decidable.em (c = j) with e | e
        · subst e; exact .inr ⟨h5, h6⟩
        · exact .inl (.inr ⟨c, by omega, h4, h5, h6⟩)
theorem Far.row (h : Far t us vs C D i D.length f lo hi) (hD : 2 ≤ D.length) : Far t us vs C D (i + 1) 0 f lo hi := by
  rcases h with ⟨_, h1, h2⟩ | ⟨h1, h2⟩
  · omega
  · refine .inr ⟨h1, h2.same fun u v => ?_⟩
    constructor
    · rintro (⟨a, c, h3, h4⟩ | ⟨c, h3, h4, h5, h6⟩)
      · exact .inl ⟨a, c, by omega, h4⟩
      · exact .inl ⟨i, c, by omega, h3, h4, h5, h6⟩
    · rintro (⟨a, c, h3, h4, h5, h6, h7⟩ | ⟨c, h3, _⟩)
      · rcases Decidable.em (a = i) with e | e
        · subst e; exact .inr ⟨c, h4, h5, h6, h7⟩
        · exact .inl ⟨a, c, by omega, h4, h5, h6, h7⟩
      · omega
end
theorem Far.over {t : Table} {us vs : List Int} {x0 x1 y0 y1 : Int} {f : Bool} {lo hi : Int} (hx : x0 ≤ x1) (hy : y0 ≤ y1) (h : Far t us vs (cross2 us x0 x1) (cross2 vs y0 y1) (cross2 us x0 x1).length 0 f lo hi) : (lo, hi) = over t us vs x0 x1 y0 y1 := by
  rcases h with ⟨_, h1, _⟩ | ⟨h1, h2⟩
  · have hlen : 2 ≤ (cross2 us x0 x1).length := by unfold cross2; simp
    omega
  · refine h2.unique (Cov.over t us vs x0 x1 y0 y1) fun u v => ?_
    rw [← done_all hx hy]
    constructor
    · rintro (h | ⟨c, h3, _⟩)
      · exact h
      · omega
    · exact .inl
theorem cross2_in {l : List Int} {a b M : Int} (h : ∀ j : Nat, -M ≤ l.getD j 0 ∧ l.getD j 0 ≤ M) (ha : -M ≤ a ∧ a ≤ M) (hb : -M ≤ b ∧ b ≤ M) (i : Nat) : -M ≤ (cross2 l a b).getD i 0 ∧ (cross2 l a b).getD i 0 ≤ M := by
  rcases Nat.lt_or_ge i (cross2 l a b).length with hi | hi
  · have hm := getD_mem (d := (0 : Int)) hi
    generalize (cross2 l a b).getD i 0 = x at *
    unfold cross2 at hm
    rcases List.mem_append.1 hm with hm | hm
    · simp only [List.mem_cons, List.not_mem_nil, or_false] at hm
      rcases hm with rfl | rfl <;> assumption
    · have := (List.mem_filter.1 hm).1
      obtain ⟨j, hj⟩ := List.getElem?_of_mem this
      have h2 := h j
      rw [List.getD_eq_getElem?_getD, hj, Option.getD_some] at h2
      exact h2
  · rw [List.getD_eq_getElem?_getD, List.getElem?_eq_none hi]
    simp only [Option.getD_none]
    omega
end Go.Proofs.Ytjhecgiipajdpaa
