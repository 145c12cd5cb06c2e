/-
  No cell of these rows narrows 'for every input' (looked for: loops, veiled, ifaces, maps, wideKeys, modest, calm, conditions, laid).
  DERIVED. THE GIVEN ROWS OF THIS SEAT. 12 by the template 'for every input the law returns true; each argument reads behind the call as it read before'; 0 by the template 'total and deterministic' (their statements: YtahdgadjpkcnjaaTotals.lean).
  GIVEN WITH THE SEED: the statements are not yours to turn. If you find one false, say at which input.
  Laid BY PROGRAM, IN A SANDBOX (cutbox-rows.mjs): the forced cells as the released guide's own fill.sh prints them over the translation 5b84d6569d78ab23… (all of the seat's roots in one cut). By AI agents, Wed Nov 11 2026. No macro, syntax, notation, axiom, sorry.
-/
import Derived.Test.YtahdgadjpkcnjaaChecked
import GoSem.Claim
import GoSem.ClaimJoined
import GoSem.ClaimMapViews
import Derived.JoinedTies
import Derived.KernelRfl
namespace Go.Proofs.Ytahdgadjpkcnjaa
/- THE CELL 'sum', in the pinned program and in every row, IS THE sha256 OF THE DUMP (.gsa) THAT YtahdgadjpkcnjaaProg.lean LOADS. Nothing in Lean hashes anything: it is a label: what it is worth is what the hold of that sum in a sandbox is worth. -/
noncomputable def Try.pinned : Pinned := { name := "ytahdgadjpkcnjaa", sum := "5b84d6569d78ab23a27b22269b1470abf08dc6e8a56fec917605f840b058b41b", checked := Try.checked }
namespace Rows
def none {H : Type} : Left H := { results := [], args := [] }

/-- 'linkboylaw06.FeedSelects': WHATEVER THE INPUT: true; the input reads as it did. -/
def feedSelectsSpec : ChangeSpec := { name := "feedSelects", fn := fun _ => fun
  | [d1, d2, d3] => { results := [.lit (.bool true)], args := [d1, d2, d3] }
  | _ => none }
def feedSelectsRow : OpenClaim := { program := "ytahdgadjpkcnjaa", sum := "5b84d6569d78ab23a27b22269b1470abf08dc6e8a56fec917605f840b058b41b", func := "linkboy/linkboylaw06.FeedSelects", spec := "feedSelects", unfollowed := true, recurses := true, plainKeys := false, apart := false }
def FeedSelectsSaid : Prop := feedSelectsRow.holds Try.pinned (OpenSpec.ofChange feedSelectsSpec)

/-- ITS FALSE NEIGHBOUR: 'it returns false'. Refute it at one input. -/
def feedSelectsWrong : ChangeSpec := { name := "feedSelects", fn := fun _ => fun
  | [d1, d2, d3] => { results := [.lit (.bool false)], args := [d1, d2, d3] }
  | _ => none }
def FeedSelectsWrongFalsely : Prop := feedSelectsRow.holds Try.pinned (OpenSpec.ofChange feedSelectsWrong)

/-- 'linkboylaw06.FeedOnly': WHATEVER THE INPUT: true; the input reads as it did. -/
def feedOnlySpec : ChangeSpec := { name := "feedOnly", fn := fun _ => fun
  | [d1, d2, d3] => { results := [.lit (.bool true)], args := [d1, d2, d3] }
  | _ => none }
def feedOnlyRow : OpenClaim := { program := "ytahdgadjpkcnjaa", sum := "5b84d6569d78ab23a27b22269b1470abf08dc6e8a56fec917605f840b058b41b", func := "linkboy/linkboylaw06.FeedOnly", spec := "feedOnly", unfollowed := true, recurses := true, plainKeys := false, apart := false }
def FeedOnlySaid : Prop := feedOnlyRow.holds Try.pinned (OpenSpec.ofChange feedOnlySpec)

/-- ITS FALSE NEIGHBOUR: 'it returns false'. Refute it at one input. -/
def feedOnlyWrong : ChangeSpec := { name := "feedOnly", fn := fun _ => fun
  | [d1, d2, d3] => { results := [.lit (.bool false)], args := [d1, d2, d3] }
  | _ => none }
def FeedOnlyWrongFalsely : Prop := feedOnlyRow.holds Try.pinned (OpenSpec.ofChange feedOnlyWrong)

/-- 'linkboylaw06.FeedChecks': WHATEVER THE INPUT: true; the input reads as it did. -/
def feedChecksSpec : ChangeSpec := { name := "feedChecks", fn := fun _ => fun
  | [d] => { results := [.lit (.bool true)], args := [d] }
  | _ => none }
def feedChecksRow : OpenClaim := { program := "ytahdgadjpkcnjaa", sum := "5b84d6569d78ab23a27b22269b1470abf08dc6e8a56fec917605f840b058b41b", func := "linkboy/linkboylaw06.FeedChecks", spec := "feedChecks", unfollowed := true, recurses := true, plainKeys := false, apart := false }
def FeedChecksSaid : Prop := feedChecksRow.holds Try.pinned (OpenSpec.ofChange feedChecksSpec)

/-- ITS FALSE NEIGHBOUR: 'it returns false'. Refute it at one input. -/
def feedChecksWrong : ChangeSpec := { name := "feedChecks", fn := fun _ => fun
  | [d] => { results := [.lit (.bool false)], args := [d] }
  | _ => none }
def FeedChecksWrongFalsely : Prop := feedChecksRow.holds Try.pinned (OpenSpec.ofChange feedChecksWrong)

/-- 'linkboylaw06.FeedDrops': WHATEVER THE INPUT: true; the input reads as it did. -/
def feedDropsSpec : ChangeSpec := { name := "feedDrops", fn := fun _ => fun
  | [d1, d2, d3] => { results := [.lit (.bool true)], args := [d1, d2, d3] }
  | _ => none }
def feedDropsRow : OpenClaim := { program := "ytahdgadjpkcnjaa", sum := "5b84d6569d78ab23a27b22269b1470abf08dc6e8a56fec917605f840b058b41b", func := "linkboy/linkboylaw06.FeedDrops", spec := "feedDrops", unfollowed := true, recurses := true, plainKeys := false, apart := false }
def FeedDropsSaid : Prop := feedDropsRow.holds Try.pinned (OpenSpec.ofChange feedDropsSpec)

/-- ITS FALSE NEIGHBOUR: 'it returns false'. Refute it at one input. -/
def feedDropsWrong : ChangeSpec := { name := "feedDrops", fn := fun _ => fun
  | [d1, d2, d3] => { results := [.lit (.bool false)], args := [d1, d2, d3] }
  | _ => none }
def FeedDropsWrongFalsely : Prop := feedDropsRow.holds Try.pinned (OpenSpec.ofChange feedDropsWrong)

/-- 'linkboylaw06.FeedJudges': WHATEVER THE INPUT: true; the input reads as it did. -/
def feedJudgesSpec : ChangeSpec := { name := "feedJudges", fn := fun _ => fun
  | [d] => { results := [.lit (.bool true)], args := [d] }
  | _ => none }
def feedJudgesRow : OpenClaim := { program := "ytahdgadjpkcnjaa", sum := "5b84d6569d78ab23a27b22269b1470abf08dc6e8a56fec917605f840b058b41b", func := "linkboy/linkboylaw06.FeedJudges", spec := "feedJudges", unfollowed := true, recurses := true, plainKeys := false, apart := false }
def FeedJudgesSaid : Prop := feedJudgesRow.holds Try.pinned (OpenSpec.ofChange feedJudgesSpec)

/-- ITS FALSE NEIGHBOUR: 'it returns false'. Refute it at one input. -/
def feedJudgesWrong : ChangeSpec := { name := "feedJudges", fn := fun _ => fun
  | [d] => { results := [.lit (.bool false)], args := [d] }
  | _ => none }
def FeedJudgesWrongFalsely : Prop := feedJudgesRow.holds Try.pinned (OpenSpec.ofChange feedJudgesWrong)

/-- 'linkboylaw06.FeedLoses': WHATEVER THE INPUT: true; the input reads as it did. -/
def feedLosesSpec : ChangeSpec := { name := "feedLoses", fn := fun _ => fun
  | [d1, d2] => { results := [.lit (.bool true)], args := [d1, d2] }
  | _ => none }
def feedLosesRow : OpenClaim := { program := "ytahdgadjpkcnjaa", sum := "5b84d6569d78ab23a27b22269b1470abf08dc6e8a56fec917605f840b058b41b", func := "linkboy/linkboylaw06.FeedLoses", spec := "feedLoses", unfollowed := true, recurses := true, plainKeys := false, apart := false }
def FeedLosesSaid : Prop := feedLosesRow.holds Try.pinned (OpenSpec.ofChange feedLosesSpec)

/-- ITS FALSE NEIGHBOUR: 'it returns false'. Refute it at one input. -/
def feedLosesWrong : ChangeSpec := { name := "feedLoses", fn := fun _ => fun
  | [d1, d2] => { results := [.lit (.bool false)], args := [d1, d2] }
  | _ => none }
def FeedLosesWrongFalsely : Prop := feedLosesRow.holds Try.pinned (OpenSpec.ofChange feedLosesWrong)

/-- 'linkboylaw06.FeedTrees': WHATEVER THE INPUT: true; the input reads as it did. -/
def feedTreesSpec : ChangeSpec := { name := "feedTrees", fn := fun _ => fun
  | [d1, d2, d3] => { results := [.lit (.bool true)], args := [d1, d2, d3] }
  | _ => none }
def feedTreesRow : OpenClaim := { program := "ytahdgadjpkcnjaa", sum := "5b84d6569d78ab23a27b22269b1470abf08dc6e8a56fec917605f840b058b41b", func := "linkboy/linkboylaw06.FeedTrees", spec := "feedTrees", unfollowed := true, recurses := true, plainKeys := false, apart := false }
def FeedTreesSaid : Prop := feedTreesRow.holds Try.pinned (OpenSpec.ofChange feedTreesSpec)

/-- ITS FALSE NEIGHBOUR: 'it returns false'. Refute it at one input. -/
def feedTreesWrong : ChangeSpec := { name := "feedTrees", fn := fun _ => fun
  | [d1, d2, d3] => { results := [.lit (.bool false)], args := [d1, d2, d3] }
  | _ => none }
def FeedTreesWrongFalsely : Prop := feedTreesRow.holds Try.pinned (OpenSpec.ofChange feedTreesWrong)

/-- 'linkboylaw06.FeedWider': WHATEVER THE INPUT: true; the input reads as it did. -/
def feedWiderSpec : ChangeSpec := { name := "feedWider", fn := fun _ => fun
  | [d1, d2, d3] => { results := [.lit (.bool true)], args := [d1, d2, d3] }
  | _ => none }
def feedWiderRow : OpenClaim := { program := "ytahdgadjpkcnjaa", sum := "5b84d6569d78ab23a27b22269b1470abf08dc6e8a56fec917605f840b058b41b", func := "linkboy/linkboylaw06.FeedWider", spec := "feedWider", unfollowed := true, recurses := true, plainKeys := false, apart := false }
def FeedWiderSaid : Prop := feedWiderRow.holds Try.pinned (OpenSpec.ofChange feedWiderSpec)

/-- ITS FALSE NEIGHBOUR: 'it returns false'. Refute it at one input. -/
def feedWiderWrong : ChangeSpec := { name := "feedWider", fn := fun _ => fun
  | [d1, d2, d3] => { results := [.lit (.bool false)], args := [d1, d2, d3] }
  | _ => none }
def FeedWiderWrongFalsely : Prop := feedWiderRow.holds Try.pinned (OpenSpec.ofChange feedWiderWrong)

/-- 'linkboylaw06.FeedMelts': WHATEVER THE INPUT: true; the input reads as it did. -/
def feedMeltsSpec : ChangeSpec := { name := "feedMelts", fn := fun _ => fun
  | [d1, d2, d3] => { results := [.lit (.bool true)], args := [d1, d2, d3] }
  | _ => none }
def feedMeltsRow : OpenClaim := { program := "ytahdgadjpkcnjaa", sum := "5b84d6569d78ab23a27b22269b1470abf08dc6e8a56fec917605f840b058b41b", func := "linkboy/linkboylaw06.FeedMelts", spec := "feedMelts", unfollowed := true, recurses := true, plainKeys := false, apart := false }
def FeedMeltsSaid : Prop := feedMeltsRow.holds Try.pinned (OpenSpec.ofChange feedMeltsSpec)

/-- ITS FALSE NEIGHBOUR: 'it returns false'. Refute it at one input. -/
def feedMeltsWrong : ChangeSpec := { name := "feedMelts", fn := fun _ => fun
  | [d1, d2, d3] => { results := [.lit (.bool false)], args := [d1, d2, d3] }
  | _ => none }
def FeedMeltsWrongFalsely : Prop := feedMeltsRow.holds Try.pinned (OpenSpec.ofChange feedMeltsWrong)

/-- 'linkboylaw06.FeedDarks': WHATEVER THE INPUT: true; the input reads as it did. -/
def feedDarksSpec : ChangeSpec := { name := "feedDarks", fn := fun _ => fun
  | [d1, d2] => { results := [.lit (.bool true)], args := [d1, d2] }
  | _ => none }
def feedDarksRow : OpenClaim := { program := "ytahdgadjpkcnjaa", sum := "5b84d6569d78ab23a27b22269b1470abf08dc6e8a56fec917605f840b058b41b", func := "linkboy/linkboylaw06.FeedDarks", spec := "feedDarks", unfollowed := true, recurses := true, plainKeys := false, apart := false }
def FeedDarksSaid : Prop := feedDarksRow.holds Try.pinned (OpenSpec.ofChange feedDarksSpec)

/-- ITS FALSE NEIGHBOUR: 'it returns false'. Refute it at one input. -/
def feedDarksWrong : ChangeSpec := { name := "feedDarks", fn := fun _ => fun
  | [d1, d2] => { results := [.lit (.bool false)], args := [d1, d2] }
  | _ => none }
def FeedDarksWrongFalsely : Prop := feedDarksRow.holds Try.pinned (OpenSpec.ofChange feedDarksWrong)

/-- 'linkboylaw06.FeedMore': WHATEVER THE INPUT: true; the input reads as it did. -/
def feedMoreSpec : ChangeSpec := { name := "feedMore", fn := fun _ => fun
  | [d1, d2, d3] => { results := [.lit (.bool true)], args := [d1, d2, d3] }
  | _ => none }
def feedMoreRow : OpenClaim := { program := "ytahdgadjpkcnjaa", sum := "5b84d6569d78ab23a27b22269b1470abf08dc6e8a56fec917605f840b058b41b", func := "linkboy/linkboylaw06.FeedMore", spec := "feedMore", unfollowed := true, recurses := true, plainKeys := false, apart := false }
def FeedMoreSaid : Prop := feedMoreRow.holds Try.pinned (OpenSpec.ofChange feedMoreSpec)

/-- ITS FALSE NEIGHBOUR: 'it returns false'. Refute it at one input. -/
def feedMoreWrong : ChangeSpec := { name := "feedMore", fn := fun _ => fun
  | [d1, d2, d3] => { results := [.lit (.bool false)], args := [d1, d2, d3] }
  | _ => none }
def FeedMoreWrongFalsely : Prop := feedMoreRow.holds Try.pinned (OpenSpec.ofChange feedMoreWrong)

/-- 'linkboylaw06.FeedCurrents': WHATEVER THE INPUT: true; the input reads as it did. -/
def feedCurrentsSpec : ChangeSpec := { name := "feedCurrents", fn := fun _ => fun
  | [d1, d2] => { results := [.lit (.bool true)], args := [d1, d2] }
  | _ => none }
def feedCurrentsRow : OpenClaim := { program := "ytahdgadjpkcnjaa", sum := "5b84d6569d78ab23a27b22269b1470abf08dc6e8a56fec917605f840b058b41b", func := "linkboy/linkboylaw06.FeedCurrents", spec := "feedCurrents", unfollowed := true, recurses := true, plainKeys := false, apart := false }
def FeedCurrentsSaid : Prop := feedCurrentsRow.holds Try.pinned (OpenSpec.ofChange feedCurrentsSpec)

/-- ITS FALSE NEIGHBOUR: 'it returns false'. Refute it at one input. -/
def feedCurrentsWrong : ChangeSpec := { name := "feedCurrents", fn := fun _ => fun
  | [d1, d2] => { results := [.lit (.bool false)], args := [d1, d2] }
  | _ => none }
def FeedCurrentsWrongFalsely : Prop := feedCurrentsRow.holds Try.pinned (OpenSpec.ofChange feedCurrentsWrong)

/- THE SECOND FORM. 'bulk': how many values and letters a reading holds, each counted each time it is reached (what is shared counts as often as it is met; a slice's spare places count too). A statement '..UptoSaid' is the law's where the arguments, and the package variables that the reading takes, are together of bulk at most 1048576: NARROWER than '..Said'. Prove '..Said' where nothing that the law and all that it calls make is longer than what came in: it says more and counts as full. Else prove '..UptoSaid'. A law counts once. -/
mutual
def uptoBulk {H : Type} : DataW H → Nat
  | .lit (.string bytes) => bytes.length + 1
  | .lit _ => 1
  | .nil => 1
  | .ptr d => uptoBulk d + 1
  | .slice elems spare => uptoBulkAll elems + uptoBulkAll spare + 1
  | .agg parts => uptoBulkAll parts + 1
  | .iface _ d => uptoBulk d + 1
  | .map entries => uptoBulkEntries entries + 1
  | .held _ => 1
def uptoBulkAll {H : Type} : List (DataW H) → Nat
  | [] => 0
  | d :: r => uptoBulk d + uptoBulkAll r
def uptoBulkEntries {H : Type} : List (Lit × DataW H) → Nat
  | [] => 0
  | x :: r => uptoBulkEntry x + uptoBulkEntries r
def uptoBulkEntry {H : Type} : Lit × DataW H → Nat
  | (.string bytes, d) => bytes.length + uptoBulk d + 1
  | (_, d) => uptoBulk d + 1
 end
def uptoSmall : (H : Type) → List (DataW H) → Bool := fun _ ds => decide (uptoBulkAll ds ≤ 1048576)
def OpenSpec.upto (s : _root_.Go.ChangeSpec) : _root_.Go.OpenSpec := { _root_.Go.OpenSpec.ofChange s with cond := some uptoSmall }

/-- 'linkboylaw06.FeedSelects', WHERE WHAT IT READS IS OF BULK AT MOST 1048576: true; the input reads as it did. -/
def feedSelectsUptoRow : OpenClaim := { program := "ytahdgadjpkcnjaa", sum := "5b84d6569d78ab23a27b22269b1470abf08dc6e8a56fec917605f840b058b41b", func := "linkboy/linkboylaw06.FeedSelects", spec := "feedSelects", unfollowed := true, recurses := true, plainKeys := false, apart := false, narrowed := true }
def FeedSelectsUptoSaid : Prop := feedSelectsUptoRow.holds Try.pinned (OpenSpec.upto feedSelectsSpec)

/-- 'linkboylaw06.FeedOnly', WHERE WHAT IT READS IS OF BULK AT MOST 1048576: true; the input reads as it did. -/
def feedOnlyUptoRow : OpenClaim := { program := "ytahdgadjpkcnjaa", sum := "5b84d6569d78ab23a27b22269b1470abf08dc6e8a56fec917605f840b058b41b", func := "linkboy/linkboylaw06.FeedOnly", spec := "feedOnly", unfollowed := true, recurses := true, plainKeys := false, apart := false, narrowed := true }
def FeedOnlyUptoSaid : Prop := feedOnlyUptoRow.holds Try.pinned (OpenSpec.upto feedOnlySpec)

/-- 'linkboylaw06.FeedChecks', WHERE WHAT IT READS IS OF BULK AT MOST 1048576: true; the input reads as it did. -/
def feedChecksUptoRow : OpenClaim := { program := "ytahdgadjpkcnjaa", sum := "5b84d6569d78ab23a27b22269b1470abf08dc6e8a56fec917605f840b058b41b", func := "linkboy/linkboylaw06.FeedChecks", spec := "feedChecks", unfollowed := true, recurses := true, plainKeys := false, apart := false, narrowed := true }
def FeedChecksUptoSaid : Prop := feedChecksUptoRow.holds Try.pinned (OpenSpec.upto feedChecksSpec)

/-- 'linkboylaw06.FeedDrops', WHERE WHAT IT READS IS OF BULK AT MOST 1048576: true; the input reads as it did. -/
def feedDropsUptoRow : OpenClaim := { program := "ytahdgadjpkcnjaa", sum := "5b84d6569d78ab23a27b22269b1470abf08dc6e8a56fec917605f840b058b41b", func := "linkboy/linkboylaw06.FeedDrops", spec := "feedDrops", unfollowed := true, recurses := true, plainKeys := false, apart := false, narrowed := true }
def FeedDropsUptoSaid : Prop := feedDropsUptoRow.holds Try.pinned (OpenSpec.upto feedDropsSpec)

/-- 'linkboylaw06.FeedJudges', WHERE WHAT IT READS IS OF BULK AT MOST 1048576: true; the input reads as it did. -/
def feedJudgesUptoRow : OpenClaim := { program := "ytahdgadjpkcnjaa", sum := "5b84d6569d78ab23a27b22269b1470abf08dc6e8a56fec917605f840b058b41b", func := "linkboy/linkboylaw06.FeedJudges", spec := "feedJudges", unfollowed := true, recurses := true, plainKeys := false, apart := false, narrowed := true }
def FeedJudgesUptoSaid : Prop := feedJudgesUptoRow.holds Try.pinned (OpenSpec.upto feedJudgesSpec)

/-- 'linkboylaw06.FeedLoses', WHERE WHAT IT READS IS OF BULK AT MOST 1048576: true; the input reads as it did. -/
def feedLosesUptoRow : OpenClaim := { program := "ytahdgadjpkcnjaa", sum := "5b84d6569d78ab23a27b22269b1470abf08dc6e8a56fec917605f840b058b41b", func := "linkboy/linkboylaw06.FeedLoses", spec := "feedLoses", unfollowed := true, recurses := true, plainKeys := false, apart := false, narrowed := true }
def FeedLosesUptoSaid : Prop := feedLosesUptoRow.holds Try.pinned (OpenSpec.upto feedLosesSpec)

/-- 'linkboylaw06.FeedTrees', WHERE WHAT IT READS IS OF BULK AT MOST 1048576: true; the input reads as it did. -/
def feedTreesUptoRow : OpenClaim := { program := "ytahdgadjpkcnjaa", sum := "5b84d6569d78ab23a27b22269b1470abf08dc6e8a56fec917605f840b058b41b", func := "linkboy/linkboylaw06.FeedTrees", spec := "feedTrees", unfollowed := true, recurses := true, plainKeys := false, apart := false, narrowed := true }
def FeedTreesUptoSaid : Prop := feedTreesUptoRow.holds Try.pinned (OpenSpec.upto feedTreesSpec)

/-- 'linkboylaw06.FeedWider', WHERE WHAT IT READS IS OF BULK AT MOST 1048576: true; the input reads as it did. -/
def feedWiderUptoRow : OpenClaim := { program := "ytahdgadjpkcnjaa", sum := "5b84d6569d78ab23a27b22269b1470abf08dc6e8a56fec917605f840b058b41b", func := "linkboy/linkboylaw06.FeedWider", spec := "feedWider", unfollowed := true, recurses := true, plainKeys := false, apart := false, narrowed := true }
def FeedWiderUptoSaid : Prop := feedWiderUptoRow.holds Try.pinned (OpenSpec.upto feedWiderSpec)

/-- 'linkboylaw06.FeedMelts', WHERE WHAT IT READS IS OF BULK AT MOST 1048576: true; the input reads as it did. -/
def feedMeltsUptoRow : OpenClaim := { program := "ytahdgadjpkcnjaa", sum := "5b84d6569d78ab23a27b22269b1470abf08dc6e8a56fec917605f840b058b41b", func := "linkboy/linkboylaw06.FeedMelts", spec := "feedMelts", unfollowed := true, recurses := true, plainKeys := false, apart := false, narrowed := true }
def FeedMeltsUptoSaid : Prop := feedMeltsUptoRow.holds Try.pinned (OpenSpec.upto feedMeltsSpec)

/-- 'linkboylaw06.FeedDarks', WHERE WHAT IT READS IS OF BULK AT MOST 1048576: true; the input reads as it did. -/
def feedDarksUptoRow : OpenClaim := { program := "ytahdgadjpkcnjaa", sum := "5b84d6569d78ab23a27b22269b1470abf08dc6e8a56fec917605f840b058b41b", func := "linkboy/linkboylaw06.FeedDarks", spec := "feedDarks", unfollowed := true, recurses := true, plainKeys := false, apart := false, narrowed := true }
def FeedDarksUptoSaid : Prop := feedDarksUptoRow.holds Try.pinned (OpenSpec.upto feedDarksSpec)

/-- 'linkboylaw06.FeedMore', WHERE WHAT IT READS IS OF BULK AT MOST 1048576: true; the input reads as it did. -/
def feedMoreUptoRow : OpenClaim := { program := "ytahdgadjpkcnjaa", sum := "5b84d6569d78ab23a27b22269b1470abf08dc6e8a56fec917605f840b058b41b", func := "linkboy/linkboylaw06.FeedMore", spec := "feedMore", unfollowed := true, recurses := true, plainKeys := false, apart := false, narrowed := true }
def FeedMoreUptoSaid : Prop := feedMoreUptoRow.holds Try.pinned (OpenSpec.upto feedMoreSpec)

/-- 'linkboylaw06.FeedCurrents', WHERE WHAT IT READS IS OF BULK AT MOST 1048576: true; the input reads as it did. -/
def feedCurrentsUptoRow : OpenClaim := { program := "ytahdgadjpkcnjaa", sum := "5b84d6569d78ab23a27b22269b1470abf08dc6e8a56fec917605f840b058b41b", func := "linkboy/linkboylaw06.FeedCurrents", spec := "feedCurrents", unfollowed := true, recurses := true, plainKeys := false, apart := false, narrowed := true }
def FeedCurrentsUptoSaid : Prop := feedCurrentsUptoRow.holds Try.pinned (OpenSpec.upto feedCurrentsSpec)

end Rows
end Go.Proofs.Ytahdgadjpkcnjaa
