/- The arguments of the lamps' laws: what a reading of each type is of. -/
import Derived.Test.YtjhecgiipajdpaaSp2
import Derived.Test.YtjhecgiipajdpaaAv16
set_option linter.unusedVariables false
set_option linter.unusedSimpArgs false
namespace Go.Proofs.Ytjhecgiipajdpaa
open Go.Proofs
section
variable {H : Type} {enc : TypeId × Value → H} {w : World}
theorem opens3 : Opens enc Try.prog w 3 1 Int (fun n => [.int .i64 n]) (fun n => (Lit.int .i64 n).wf = true) := .int Try.underlying3 (by kernel_rfl)
theorem opens9 : Opens enc Try.prog w 9 1 ByteArray (fun s => [.str s]) (fun s => s.size ≤ maxLen) := .str Try.underlying9 (by kernel_rfl)
theorem opens52 : Opens enc Try.prog w 52 1 (List Int) (fun l => [ints l]) (fun l => l.length ≤ maxLen ∧ ∀ n ∈ l, (Lit.int .i64 n).wf = true) := .slice I Try.underlying52 (by kernel_rfl) opens3 (by decide) (fun _ => rfl) (fun _ => rfl)
theorem opens53 : Opens enc Try.prog w 53 1 (List (List Int)) (fun l => [.slice (l.map ints) none]) (fun l => l.length ≤ maxLen ∧ ∀ r ∈ l, r.length ≤ maxLen ∧ ∀ n ∈ r, (Lit.int .i64 n).wf = true) := .slice ints Try.underlying53 (by kernel_rfl) opens52 (by decide) (fun _ => rfl) (fun _ => rfl)
theorem big {n : Nat} (h : n ≤ maxLen) : (n : Int) ≤ 9223372036854775807 := by simp only [maxLen] at h; omega
theorem opensTable : Opens enc Try.prog w 55 6 Table (fun t => [.str t.name, ints t.us, ints t.vs, .slice (t.values.map ints) none, I t.side, I t.sky]) Table.ok :=
  Opens.map (Opens.struct Try.underlying55 (by kernel_rfl) (.cons rfl opens9 (.cons rfl opens52 (.cons rfl opens52 (.cons rfl opens53 (.cons rfl opens3 (.cons rfl opens3 (.nil _))))))) (fun _ => rfl))
    (fun x => (⟨x.1, x.2.1, x.2.2.1, x.2.2.2.1, x.2.2.2.2.1, x.2.2.2.2.2.1⟩ : Table)) _ _ (fun _ => rfl) (fun x h => ⟨big h.1, big h.2.1.1, big h.2.2.1.1, big h.2.2.2.1.1, fun l hl => big (h.2.2.2.1.2 l hl).1⟩)
theorem opens37 : Opens enc Try.prog w 37 2 (Int × Int) (fun x => [I x.1, I x.2]) (fun _ => True) :=
  Opens.map (Opens.struct Try.underlying37 (by kernel_rfl) (.cons rfl opens3 (.cons rfl opens3 (.nil _))) (fun _ => rfl)) (fun x => (x.1, x.2.1)) _ _ (fun _ => rfl) (fun _ _ => trivial)
theorem opensLamp : Opens enc Try.prog w 45 14 Lamp (fun x => [.str x.name, I x.table, I x.kind, I x.lumens, I x.power, I x.standing, I x.tolerance, I x.ageLo, I x.ageHi, I x.dirtLo, I x.dirtHi, I x.life, I x.dim, I x.restrike]) Lamp.ok :=
  Opens.map (Opens.struct Try.underlying45 (by kernel_rfl) (.cons rfl opens9 (.cons rfl opens3 (.cons rfl opens3 (.cons rfl opens3 (.cons rfl opens3 (.cons rfl opens3 (.cons rfl opens3 (.cons rfl opens37 (.cons rfl opens37 (.cons rfl opens3 (.cons rfl opens3 (.cons rfl opens3 (.nil _))))))))))))) (fun _ => rfl))
    (fun x => (⟨x.1, x.2.1, x.2.2.1, x.2.2.2.1, x.2.2.2.2.1, x.2.2.2.2.2.1, x.2.2.2.2.2.2.1, x.2.2.2.2.2.2.2.1.1, x.2.2.2.2.2.2.2.1.2, x.2.2.2.2.2.2.2.2.1.1, x.2.2.2.2.2.2.2.2.1.2, x.2.2.2.2.2.2.2.2.2.1, x.2.2.2.2.2.2.2.2.2.2.1, x.2.2.2.2.2.2.2.2.2.2.2.1⟩ : Lamp)) _ _ (fun _ => rfl) (fun x h => big h.1)
theorem opens41 : Opens enc Try.prog w 41 2 (List Int) (fun l => l.flatMap fun n => [.int .i64 n]) (fun l => l.length = 2 ∧ ∀ n ∈ l, (Lit.int .i64 n).wf = true) := .array Try.underlying41 (by kernel_rfl) opens3 (fun _ => rfl)
theorem opens33 : Opens enc Try.prog w 33 4 (Int × Int × Int × Int) (fun x => [I x.1, I x.2.1, I x.2.2.1, I x.2.2.2]) (fun _ => True) :=
  Opens.map (Opens.struct Try.underlying33 (by kernel_rfl) (.cons rfl opens3 (.cons rfl opens3 (.cons rfl opens3 (.cons rfl opens3 (.nil _))))) (fun _ => rfl)) (fun x => (x.1, x.2.1, x.2.2.1, x.2.2.2.1)) _ _ (fun _ => rfl) (fun _ _ => trivial)
theorem opens48 : Opens enc Try.prog w 48 4 (Int × Int × Int × Int) (fun x => [I x.1, I x.2.1, I x.2.2.1, I x.2.2.2]) (fun _ => True) :=
  Opens.map (Opens.struct Try.underlying48 (by kernel_rfl) (.cons rfl opens3 (.cons rfl opens3 (.cons rfl opens3 (.cons rfl opens3 (.nil _))))) (fun _ => rfl)) (fun x => (x.1, x.2.1, x.2.2.1, x.2.2.2.1)) _ _ (fun _ => rfl) (fun _ _ => trivial)
theorem opens35 : Opens enc Try.prog w 35 5 (Int × Int × Int × Int × Int) (fun x => [I x.1, I x.2.1, I x.2.2.1, I x.2.2.2.1, I x.2.2.2.2]) (fun _ => True) :=
  Opens.map (Opens.struct Try.underlying35 (by kernel_rfl) (.cons rfl opens33 (.cons rfl opens3 (.nil _))) (fun _ => rfl)) (fun x => (x.1.1, x.1.2.1, x.1.2.2.1, x.1.2.2.2, x.2.1)) _ _ (fun _ => rfl) (fun _ _ => trivial)
theorem opens68 : Opens enc Try.prog w 68 3 (Int × Int × Int) (fun x => [I x.1, I x.2.1, I x.2.2]) (fun _ => True) :=
  Opens.map (Opens.struct Try.underlying68 (by kernel_rfl) (.cons rfl opens3 (.cons rfl opens3 (.cons rfl opens3 (.nil _)))) (fun _ => rfl)) (fun x => (x.1, x.2.1, x.2.2.1)) _ _ (fun _ => rfl) (fun _ _ => trivial)
theorem opens70 : Opens enc Try.prog w 70 9 (Int × (Int × Int × Int) × Int × Int × Int × Int × Int) (fun x => [I x.1, I x.2.1.1, I x.2.1.2.1, I x.2.1.2.2, I x.2.2.1, I x.2.2.2.1, I x.2.2.2.2.1, I x.2.2.2.2.2.1, I x.2.2.2.2.2.2]) (fun _ => True) :=
  Opens.map (Opens.struct Try.underlying70 (by kernel_rfl) (.cons rfl opens3 (.cons rfl opens68 (.cons rfl opens35 (.nil _)))) (fun _ => rfl)) (fun x => (x.1, x.2.1, x.2.2.1)) _ _ (fun _ => rfl) (fun _ _ => trivial)
theorem opensCat : Opens enc Try.prog w 25 2 Cat (fun c => [.slice (c.tables.map Table.av) none, .slice (c.lamps.map Lamp.av) none]) Cat.ok :=
  Opens.map (Opens.struct Try.underlying25 (by kernel_rfl) (.cons rfl (.slice Table.av Try.underlying22 (by kernel_rfl) opensTable (by decide) (fun _ => rfl) (fun _ => rfl)) (.cons rfl (.slice Lamp.av Try.underlying23 (by kernel_rfl) opensLamp (by decide) (fun _ => rfl) (fun _ => rfl)) (.nil _))) (fun _ => rfl))
    (fun x => (⟨x.1, x.2.1⟩ : Cat)) _ _ (fun _ => rfl) (fun x h => ⟨big h.1.1, big h.2.1.1, h.1.2, h.2.1.2⟩)
theorem opens60 : Opens enc Try.prog w 60 8 (Cat × Int × Int × Int × Int × Int × Int) (fun x => [.slice (x.1.tables.map Table.av) none, .slice (x.1.lamps.map Lamp.av) none, I x.2.1, I x.2.2.1, I x.2.2.2.1, I x.2.2.2.2.1, I x.2.2.2.2.2.1, I x.2.2.2.2.2.2]) (fun x => x.1.ok) :=
  Opens.map (Opens.struct Try.underlying60 (by kernel_rfl) (.cons rfl opensCat (.cons rfl opens3 (.cons rfl opens35 (.nil _)))) (fun _ => rfl)) (fun x => (x.1, x.2.1, x.2.2.1)) _ _ (fun _ => rfl) (fun _ h => h.1)
theorem opens5 : Opens enc Try.prog w 5 1 Int (fun n => [.int .u8 n]) (fun n => (Lit.int .u8 n).wf = true) := .int Try.underlying5 (by kernel_rfl)
theorem opens76 : Opens enc Try.prog w 76 1 Int (fun n => [.int .u16 n]) (fun n => (Lit.int .u16 n).wf = true) := .int Try.underlying76 (by kernel_rfl)
theorem opens51 : Opens enc Try.prog w 51 2 (List Int) (fun l => l.flatMap fun n => [.int .u8 n]) (fun l => l.length = 2 ∧ ∀ n ∈ l, (Lit.int .u8 n).wf = true) := .array Try.underlying51 (by kernel_rfl) opens5 (fun _ => rfl)
theorem opens77 : Opens enc Try.prog w 77 3 (List Int) (fun l => l.flatMap fun n => [.int .u16 n]) (fun l => l.length = 3 ∧ ∀ n ∈ l, (Lit.int .u16 n).wf = true) := .array Try.underlying77 (by kernel_rfl) opens76 (fun _ => rfl)
end
end Go.Proofs.Ytjhecgiipajdpaa
