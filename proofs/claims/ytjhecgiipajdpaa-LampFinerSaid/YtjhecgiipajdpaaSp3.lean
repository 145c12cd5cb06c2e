/- What the functions that ask the check compute. -/
import Derived.Test.YtjhecgiipajdpaaSp2
set_option linter.unusedVariables false
set_option linter.unusedSimpArgs false
namespace Go.Proofs.Ytjhecgiipajdpaa
def tabled (c : Cat) (i : Int) : Int := if (check c).2.2 = 0 ∧ ¬ (0 ≤ i ∧ i ≤ (c.tables.length : Int) - 1) then 4 else (check c).2.2
def lampedE (c : Cat) (i : Int) : Int := if (check c).2.2 = 0 ∧ ¬ (0 ≤ i ∧ i ≤ (c.lamps.length : Int) - 1) then 4 else (check c).2.2
def lampedX (c : Cat) (i : Int) : Lamp := if lampedE c i = 0 then c.lamps.getD i.toNat default else default
theorem ranged4 (a b c d lo hi : Int) : ranged [a, b, c, d] lo hi = true ↔ (lo ≤ a ∧ a ≤ hi) ∧ (lo ≤ b ∧ b ≤ hi) ∧ (lo ≤ c ∧ c ≤ hi) ∧ (lo ≤ d ∧ d ≤ hi) := by
  rw [ranged_all]; simp
def rectErr (x0 x1 y0 y1 h : Int) : Int :=
  if ¬ (1 ≤ h ∧ h ≤ 30000) ∨ ¬ ((-200000 ≤ x0 ∧ x0 ≤ 200000) ∧ (-200000 ≤ x1 ∧ x1 ≤ 200000) ∧ (-200000 ≤ y0 ∧ y0 ≤ 200000) ∧ (-200000 ≤ y1 ∧ y1 ≤ 200000)) then 7
  else if x1 < x0 ∨ y1 < y0 then 2 else 0
def useErr (a b c : Int) : Int := if ¬ (0 ≤ a ∧ a ≤ 200000) ∨ ¬ (0 ≤ b ∧ b ≤ 600) ∨ ¬ (0 ≤ c ∧ c ≤ 1000) then 7 else 0
end Go.Proofs.Ytjhecgiipajdpaa
