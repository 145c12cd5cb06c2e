/- Levels and powers. -/
import Derived.Test.YtjhecgiipajdpaaSp9
set_option linter.unusedVariables false
set_option linter.unusedSimpArgs false
namespace Go.Proofs.Ytjhecgiipajdpaa
def Level (c : Cat) (i want : Int) : Int × Int :=
  if lampedE c i ≠ 0 ∨ want ≤ 0 then (0, lampedE c i) else (min (max (max want 1) (lampedX c i).dim) 1000, 0)
theorem level_ok {c : Cat} {i want : Int} (h : (Level c i want).2 = 0) : lampedE c i = 0 := by
  unfold Level at h
  split at h
  · exact h
  · rename_i h1; exact Decidable.not_not.1 (fun h2 => h1 (.inl h2))
theorem level_eq {c : Cat} {i : Int} (h : lampedE c i = 0) (want : Int) : (Level c i want).2 = 0 ∧ (Level c i want).1 = if want ≤ 0 then 0 else min (max (max want 1) (c.lamps.getD i.toNat default).dim) 1000 := by
  have hx := (lampedE_ok h).2.2.2
  unfold Level
  rw [h, hx]
  by_cases h1 : want ≤ 0
  · rw [if_pos (.inr h1), if_pos h1]; exact ⟨rfl, rfl⟩
  · rw [if_neg (by simp [h1]), if_neg h1]; exact ⟨rfl, rfl⟩
end Go.Proofs.Ytjhecgiipajdpaa
