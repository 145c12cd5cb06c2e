/- What is over a rectangle, as a hull of points. -/
import Derived.Test.YtjhecgiipajdpaaSp10
set_option linter.unusedVariables false
set_option linter.unusedSimpArgs false
namespace Go.Proofs.Ytjhecgiipajdpaa
/-- The hull of the intensities at some points. -/
def Cov (t : Table) (us vs : List Int) (o : Int × Int) (S : Int → Int → Prop) : Prop :=
  (∃ u v, S u v ∧ o.1 = atLo t us vs u v) ∧ (∃ u v, S u v ∧ o.2 = atHi t us vs u v) ∧ ∀ u v, S u v → o.1 ≤ atLo t us vs u v ∧ atHi t us vs u v ≤ o.2
theorem Cov.unique {t : Table} {us vs : List Int} {o o' : Int × Int} {S S' : Int → Int → Prop} (h : Cov t us vs o S) (k : Cov t us vs o' S') (e : ∀ u v, S u v ↔ S' u v) : o = o' := by
  obtain ⟨⟨u1, v1, a1, a2⟩, ⟨u2, v2, a3, a4⟩, a5⟩ := h
  obtain ⟨⟨u3, v3, b1, b2⟩, ⟨u4, v4, b3, b4⟩, b5⟩ := k
  have c1 := a5 u3 v3 ((e _ _).2 b1)
  have c2 := a5 u4 v4 ((e _ _).2 b3)
  have c3 := b5 u1 v1 ((e _ _).1 a1)
  have c4 := b5 u2 v2 ((e _ _).1 a3)
  apply Prod.ext
  · omega
  · omega
theorem Cov.same {t : Table} {us vs : List Int} {o : Int × Int} {S S' : Int → Int → Prop} (h : Cov t us vs o S) (e : ∀ u v, S u v ↔ S' u v) : Cov t us vs o S' := by
  obtain ⟨⟨u1, v1, a1, a2⟩, ⟨u2, v2, a3, a4⟩, a5⟩ := h
  exact ⟨⟨u1, v1, (e _ _).1 a1, a2⟩, ⟨u2, v2, (e _ _).1 a3, a4⟩, fun u v h => a5 u v ((e _ _).2 h)⟩
theorem Cov.one (t : Table) (us vs : List Int) (u v : Int) : Cov t us vs (atLo t us vs u v, atHi t us vs u v) (fun a b => a = u ∧ b = v) :=
  ⟨⟨u, v, ⟨rfl, rfl⟩, rfl⟩, ⟨u, v, ⟨rfl, rfl⟩, rfl⟩, fun a b ⟨h1, h2⟩ => by subst h1; subst h2; exact ⟨Int.le_refl _, Int.le_refl _⟩⟩
theorem Cov.add {t : Table} {us vs : List Int} {o : Int × Int} {S : Int → Int → Prop} (h : Cov t us vs o S) (u v : Int) : Cov t us vs (min o.1 (atLo t us vs u v), max o.2 (atHi t us vs u v)) (fun a b => S a b ∨ (a = u ∧ b = v)) := by
  obtain ⟨⟨u1, v1, a1, a2⟩, ⟨u2, v2, a3, a4⟩, a5⟩ := h
  refine ⟨?_, ?_, fun a b hab => ?_⟩
  · rcases Decidable.em (o.1 ≤ atLo t us vs u v) with hl | hl
    · exact ⟨u1, v1, .inl a1, by show min _ _ = _; omega⟩
    · exact ⟨u, v, .inr ⟨rfl, rfl⟩, by show min _ _ = _; omega⟩
  · rcases Decidable.em (atHi t us vs u v ≤ o.2) with hl | hl
    · exact ⟨u2, v2, .inl a3, by show max _ _ = _; omega⟩
    · exact ⟨u, v, .inr ⟨rfl, rfl⟩, by show max _ _ = _; omega⟩
  · show min _ _ ≤ _ ∧ _ ≤ max _ _
    rcases hab with hab | ⟨rfl, rfl⟩
    · have := a5 a b hab; omega
    · omega
theorem Cov.inner {t : Table} {us vs : List Int} (u : Int) : ∀ (l : List Int) {o : Int × Int} {S : Int → Int → Prop}, Cov t us vs o S → Cov t us vs (innerE t us vs u o l) (fun a b => S a b ∨ (a = u ∧ b ∈ l ∧ hasB us vs u b = true))
  | [], o, S, h => h.same fun a b => by simp
  | v :: r, o, S, h => by
    unfold innerE
    rw [List.foldl_cons]
    by_cases hb : hasB us vs u v = true
    · have h1 : stepE t us vs u o v = (min o.1 (atLo t us vs u v), max o.2 (atHi t us vs u v)) := by unfold stepE; rw [if_pos hb]
      rw [h1]
      refine (Cov.inner u r (h.add u v)).same fun a b => ?_
      constructor
      · rintro ((h | ⟨rfl, rfl⟩) | ⟨rfl, h2, h3⟩)
        · exact .inl h
        · exact .inr ⟨rfl, List.mem_cons_self, hb⟩
        · exact .inr ⟨rfl, List.mem_cons_of_mem _ h2, h3⟩
      · rintro (h | ⟨rfl, h2, h3⟩)
        · exact .inl (.inl h)
        · rcases List.mem_cons.1 h2 with rfl | h2
          · exact .inl (.inr ⟨rfl, rfl⟩)
          · exact .inr ⟨rfl, h2, h3⟩
    · have h1 : stepE t us vs u o v = o := by unfold stepE; rw [if_neg hb]
      rw [h1]
      refine (Cov.inner u r h).same fun a b => ?_
      constructor
      · rintro (h | ⟨rfl, h2, h3⟩)
        · exact .inl h
        · exact .inr ⟨rfl, List.mem_cons_of_mem _ h2, h3⟩
      · rintro (h | ⟨rfl, h2, h3⟩)
        · exact .inl h
        · rcases List.mem_cons.1 h2 with rfl | h2
          · exact absurd h3 hb
          · exact .inr ⟨rfl, h2, h3⟩
theorem Cov.outer {t : Table} {us vs : List Int} (ys : List Int) : ∀ (l : List Int) {o : Int × Int} {S : Int → Int → Prop}, Cov t us vs o S → Cov t us vs (l.foldl (fun o u => innerE t us vs u o ys) o) (fun a b => S a b ∨ (a ∈ l ∧ b ∈ ys ∧ hasB us vs a b = true))
  | [], o, S, h => h.same fun a b => by simp
  | u :: r, o, S, h => by
    rw [List.foldl_cons]
    refine (Cov.outer ys r (h.inner u ys)).same fun a b => ?_
    constructor
    · rintro ((h | ⟨rfl, h2, h3⟩) | ⟨h1, h2, h3⟩)
      · exact .inl h
      · exact .inr ⟨List.mem_cons_self, h2, h3⟩
      · exact .inr ⟨List.mem_cons_of_mem _ h1, h2, h3⟩
    · rintro (h | ⟨h1, h2, h3⟩)
      · exact .inl (.inl h)
      · rcases List.mem_cons.1 h1 with rfl | h1
        · exact .inl (.inr ⟨rfl, h2, h3⟩)
        · exact .inr ⟨h1, h2, h3⟩
/-- The corners, and the crossings that are in the table. -/
def Pts (us vs : List Int) (x0 x1 y0 y1 u v : Int) : Prop := ((u = x0 ∨ u = x1) ∧ (v = y0 ∨ v = y1)) ∨ (u ∈ cross us x0 x1 ∧ v ∈ cross vs y0 y1 ∧ hasB us vs u v = true)
theorem Cov.over (t : Table) (us vs : List Int) (x0 x1 y0 y1 : Int) : Cov t us vs (over t us vs x0 x1 y0 y1) (Pts us vs x0 x1 y0 y1) := by
  have h0 : Cov t us vs (cornerE t us vs x0 x1 y0 y1) (fun u v => (u = x0 ∨ u = x1) ∧ (v = y0 ∨ v = y1)) := by
    have := (((Cov.one t us vs x0 y0).add x0 y1).add x1 y0).add x1 y1
    refine Cov.same (S := fun a b => (((a = x0 ∧ b = y0) ∨ (a = x0 ∧ b = y1)) ∨ (a = x1 ∧ b = y0)) ∨ (a = x1 ∧ b = y1)) this fun u v => ?_
    constructor
    · rintro (((⟨h, k⟩ | ⟨h, k⟩) | ⟨h, k⟩) | ⟨h, k⟩)
      · exact ⟨.inl h, .inl k⟩
      · exact ⟨.inl h, .inr k⟩
      · exact ⟨.inr h, .inl k⟩
      · exact ⟨.inr h, .inr k⟩
    · rintro ⟨h | h, k | k⟩
      · exact .inl (.inl (.inl ⟨h, k⟩))
      · exact .inl (.inl (.inr ⟨h, k⟩))
      · exact .inl (.inr ⟨h, k⟩)
      · exact .inr ⟨h, k⟩
  have h1 := Cov.outer (cross vs y0 y1) (cross us x0 x1) h0
  unfold Go.Proofs.Ytjhecgiipajdpaa.over ov
  rw [List.take_length]
  exact h1
end Go.Proofs.Ytjhecgiipajdpaa
