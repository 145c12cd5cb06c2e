/- What Over computes; the sample. -/
import Derived.Test.YtjhecgiipajdpaaSp8
import Derived.Test.YtjhecgiipajdpaaAv15
set_option linter.unusedVariables false
set_option linter.unusedSimpArgs false
namespace Go.Proofs.Ytjhecgiipajdpaa
def Over (c : Cat) (i X0 X1 Y0 Y1 H : Int) : Int × Int × Int :=
  if tabled c i ≠ 0 then (0, 0, tabled c i)
  else if rectErr X0 X1 Y0 Y1 H ≠ 0 then (0, 0, rectErr X0 X1 Y0 Y1 H)
  else ((over (c.tables.getD i.toNat default) (sc (c.tables.getD i.toNat default).us H) (sc (c.tables.getD i.toNat default).vs H) (1000 * X0) (1000 * X1) (1000 * Y0) (1000 * Y1)).1,
    (over (c.tables.getD i.toNat default) (sc (c.tables.getD i.toNat default).us H) (sc (c.tables.getD i.toNat default).vs H) (1000 * X0) (1000 * X1) (1000 * Y0) (1000 * Y1)).2, 0)
def sample : Cat := ⟨[⟨⟨#[119, 105, 100, 101]⟩, [-1000, 0, 2000], [-1000, 1000], [[100, 300], [200, 600], [0, 100]], 50, 5⟩], [⟨⟨#[104, 101, 97, 100]⟩, 0, 1, 8000, 60000, 500, 50, 2, 4, 3, 5, 100000, 200, 0⟩]⟩
theorem sample_ok : sample.ok := by
  refine ⟨by decide, by decide, fun t ht => ?_, fun x hx => ?_⟩
  · simp only [sample, List.mem_singleton] at ht
    subst ht
    refine ⟨by decide, by decide, by decide, by decide, fun l hl => ?_⟩
    simp only [List.mem_cons, List.not_mem_nil, or_false] at hl
    rcases hl with rfl | rfl | rfl <;> decide
  · simp only [sample, List.mem_singleton] at hx
    subst hx
    show ((_ : Nat) : Int) ≤ _
    decide
theorem awake : ((((decide ((Over sample 0 (-4000) 4000 0 8000 8000).2.2 = 0) && decide ((Flux sample 0 10000 6 1000).2.2 = 0)) && (decide ((Over sample 0 (-4000) 4000 0 8000 8000).1 = 300) && decide ((Over sample 0 (-4000) 4000 0 8000 8000).2.1 = 600))) &&
    (decide ((Flux sample 0 10000 6 1000).1 = 7449) && decide ((Flux sample 0 10000 6 1000).2.1 = 7699)))) = true := by decide +kernel
end Go.Proofs.Ytjhecgiipajdpaa
