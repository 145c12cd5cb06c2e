/- Hulls, crossings, fluxes. -/
import Derived.Test.YtjhecgiipajdpaaSp4
set_option linter.unusedVariables false
set_option linter.unusedSimpArgs false
namespace Go.Proofs.Ytjhecgiipajdpaa
abbrev encA (e : Int × Int) : AV := .agg [I e.1, I e.2]
def hLo (a : Int) (l : List (Int × Int)) : Int := l.foldl (fun m e => min m e.1) a
def hHi (b : Int) (l : List (Int × Int)) : Int := l.foldl (fun m e => max m e.2) b
theorem hLo_take {a : Int} {l : List (Int × Int)} {k : Nat} (hk : k < l.length) : min (hLo a (l.take k)) (l.getD k (0, 0)).1 = hLo a (l.take (k + 1)) := by
  rw [List.take_add_one, List.getD_eq_getElem?_getD, List.getElem?_eq_getElem hk]
  unfold hLo
  rw [List.foldl_append]
  rfl
theorem hHi_take {a : Int} {l : List (Int × Int)} {k : Nat} (hk : k < l.length) : max (hHi a (l.take k)) (l.getD k (0, 0)).2 = hHi a (l.take (k + 1)) := by
  rw [List.take_add_one, List.getD_eq_getElem?_getD, List.getElem?_eq_getElem hk]
  unfold hHi
  rw [List.foldl_append]
  rfl
def leftDn (n a d H M L : Int) : Int := n * max (1000000 - a * H) 0 / 1000000 * max (1000 - d * M) 0 / 1000 * L / 1000
def leftUp (n a d H M L : Int) : Int := up (up (up (n * max (1000000 - a * H) 0) 1000000 * max (1000 - d * M) 0) 1000 * L) 1000
def fluxLo (x : Lamp) (H M L : Int) : Int := leftDn x.lumens x.ageHi x.dirtHi H M L
def fluxHi (x : Lamp) (H M L : Int) : Int := leftUp x.lumens x.ageLo x.dirtLo H M L
/-- A lamp that passed the check. -/
structure GoodL (x : Lamp) : Prop where
  lumens : 1 ≤ x.lumens ∧ x.lumens ≤ 1000000
  power : 1 ≤ x.power ∧ x.power ≤ 5000000
  standing : 0 ≤ x.standing ∧ x.standing ≤ x.power
  tolerance : 0 ≤ x.tolerance ∧ x.tolerance ≤ 1000
  age : 0 ≤ x.ageLo ∧ x.ageLo ≤ x.ageHi ∧ x.ageHi ≤ 1000
  dirt : 0 ≤ x.dirtLo ∧ x.dirtLo ≤ x.dirtHi ∧ x.dirtHi ≤ 1000
  dim : 0 ≤ x.dim ∧ x.dim ≤ 1000
theorem GoodL.of {n : Int} {x : Lamp} (h : lampErr n x = 0) : GoodL x ∧ 0 ≤ x.table ∧ x.table ≤ n - 1 := by
  unfold lampErr at h
  split at h; · omega
  split at h; · omega
  split at h; · omega
  rename_i h1 h2 h3
  simp only [Decidable.not_not] at h1 h2 h3
  exact ⟨⟨h3.1, h3.2.1, h3.2.2.1, h3.2.2.2.1, h3.2.2.2.2.1, h3.2.2.2.2.2.1, h3.2.2.2.2.2.2.2.1⟩, h1⟩

/-! ### What a passed check says -/
theorem firstErr_zero {e : Nat → Int} : ∀ (n i : Nat), (firstErr e n i).2 = 0 → ∀ j : Nat, i ≤ j → j < i + n → e j = 0
  | 0, i, _, j, h1, h2 => by omega
  | n + 1, i, h, j, h1, h2 => by
    unfold firstErr at h
    split at h
    · rename_i hne; exact absurd h hne
    · rename_i hne
      rcases Nat.eq_or_lt_of_le h1 with rfl | h3
      · exact Decidable.not_not.1 hne
      · exact firstErr_zero n (i + 1) h j h3 (by omega)
theorem check_ok {c : Cat} (h : (check c).2.2 = 0) : c.tables.length ≤ 10 ∧ c.lamps.length ≤ 20 ∧ (∀ i : Nat, i < c.tables.length → Good (c.tables.getD i default)) ∧
    ∀ i : Nat, i < c.lamps.length → GoodL (c.lamps.getD i default) ∧ 0 ≤ (c.lamps.getD i default).table ∧ (c.lamps.getD i default).table ≤ (c.tables.length : Int) - 1 := by
  unfold check at h
  split at h
  · simp at h
  · rename_i h1
    split at h
    · rename_i h2; exact absurd h h2
    · rename_i h2
      split at h
      · rename_i h3; exact absurd h h3
      · rename_i h3
        have t := firstErr_zero _ _ (Decidable.not_not.1 h2)
        have l := firstErr_zero _ _ (Decidable.not_not.1 h3)
        refine ⟨by omega, by omega, fun i hi => ?_, fun i hi => ?_⟩
        · have := t i (by omega) (by omega)
          unfold tabErr errOf at this
          split at this; · omega
          split at this; · omega
          exact Good.of this
        · have := l i (by omega) (by omega)
          unfold lmpErr errOf at this
          split at this; · omega
          split at this; · omega
          exact GoodL.of this
theorem tabled_ok {c : Cat} {i : Int} (h : tabled c i = 0) : (check c).2.2 = 0 ∧ 0 ≤ i ∧ i < (c.tables.length : Int) := by
  unfold tabled at h
  split at h
  · omega
  · rename_i h1
    refine ⟨h, ?_⟩
    have : 0 ≤ i ∧ i ≤ (c.tables.length : Int) - 1 := Decidable.not_not.1 (fun hn => h1 ⟨h, hn⟩)
    omega
theorem lampedE_ok {c : Cat} {i : Int} (h : lampedE c i = 0) : (check c).2.2 = 0 ∧ 0 ≤ i ∧ i < (c.lamps.length : Int) ∧ lampedX c i = c.lamps.getD i.toNat default := by
  have hx : lampedX c i = c.lamps.getD i.toNat default := by unfold lampedX; rw [if_pos h]
  unfold lampedE at h
  split at h
  · omega
  · rename_i h1
    refine ⟨h, ?_⟩
    have : 0 ≤ i ∧ i ≤ (c.lamps.length : Int) - 1 := Decidable.not_not.1 (fun hn => h1 ⟨h, hn⟩)
    exact ⟨by omega, by omega, hx⟩
theorem rectErr_ok {x0 x1 y0 y1 h : Int} (e : rectErr x0 x1 y0 y1 h = 0) : (1 ≤ h ∧ h ≤ 30000) ∧ (-200000 ≤ x0 ∧ x0 ≤ x1 ∧ x1 ≤ 200000) ∧ (-200000 ≤ y0 ∧ y0 ≤ y1 ∧ y1 ≤ 200000) := by
  unfold rectErr at e
  split at e; · omega
  split at e; · omega
  omega
end Go.Proofs.Ytjhecgiipajdpaa
