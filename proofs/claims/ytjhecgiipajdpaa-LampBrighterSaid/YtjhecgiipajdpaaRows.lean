/-
  No cell of these rows narrows 'for every input' (looked for: loops, veiled, ifaces, maps, wideKeys, modest, calm, conditions, laid).
  DERIVED. THE GIVEN ROWS OF THIS SEAT. 13 by the template 'for every input the law returns true; each argument reads behind the call as it read before'; 0 by the template 'total and deterministic' (their statements: YtjhecgiipajdpaaTotals.lean).
  GIVEN WITH THE SEED: the statements are not yours to turn. If you find one false, say at which input.
  Laid BY PROGRAM, IN A SANDBOX (cutbox-rows.mjs): the forced cells as the released guide's own fill.sh prints them over the translation b62e5362a26c2a97… (all of the seat's roots in one cut). By AI agents, Wed Nov 11 2026. No macro, syntax, notation, axiom, sorry.
-/
import Derived.Test.YtjhecgiipajdpaaChecked
import GoSem.Claim
import GoSem.ClaimJoined
import GoSem.ClaimMapViews
import Derived.JoinedTies
import Derived.KernelRfl
namespace Go.Proofs.Ytjhecgiipajdpaa
/- THE CELL 'sum', in the pinned program and in every row, IS THE sha256 OF THE DUMP (.gsa) THAT YtjhecgiipajdpaaProg.lean LOADS. Nothing in Lean hashes anything: it is a label: what it is worth is what the hold of that sum in a sandbox is worth. -/
noncomputable def Try.pinned : Pinned := { name := "ytjhecgiipajdpaa", sum := "b62e5362a26c2a9746933daefd75eb6a89ccd0ec55c5d391dd809c613b35eb76", checked := Try.checked }
namespace Rows
def none {H : Type} : Left H := { results := [], args := [] }

/-- 'linkboylaw02.LampChecks': WHATEVER THE INPUT: true; the input reads as it did. -/
def lampChecksSpec : ChangeSpec := { name := "lampChecks", fn := fun _ => fun
  | [d1, d2] => { results := [.lit (.bool true)], args := [d1, d2] }
  | _ => none }
def lampChecksRow : OpenClaim := { program := "ytjhecgiipajdpaa", sum := "b62e5362a26c2a9746933daefd75eb6a89ccd0ec55c5d391dd809c613b35eb76", func := "linkboy/linkboylaw02.LampChecks", spec := "lampChecks", unfollowed := true, recurses := true, apart := false }
def LampChecksSaid : Prop := lampChecksRow.holds Try.pinned (OpenSpec.ofChange lampChecksSpec)

/-- ITS FALSE NEIGHBOUR: 'it returns false'. Refute it at one input. -/
def lampChecksWrong : ChangeSpec := { name := "lampChecks", fn := fun _ => fun
  | [d1, d2] => { results := [.lit (.bool false)], args := [d1, d2] }
  | _ => none }
def LampChecksWrongFalsely : Prop := lampChecksRow.holds Try.pinned (OpenSpec.ofChange lampChecksWrong)

/-- 'linkboylaw02.LampOvers': WHATEVER THE INPUT: true; the input reads as it did. -/
def lampOversSpec : ChangeSpec := { name := "lampOvers", fn := fun _ => fun
  | [d1, d2, d3] => { results := [.lit (.bool true)], args := [d1, d2, d3] }
  | _ => none }
def lampOversRow : OpenClaim := { program := "ytjhecgiipajdpaa", sum := "b62e5362a26c2a9746933daefd75eb6a89ccd0ec55c5d391dd809c613b35eb76", func := "linkboy/linkboylaw02.LampOvers", spec := "lampOvers", unfollowed := true, recurses := true, apart := false }
def LampOversSaid : Prop := lampOversRow.holds Try.pinned (OpenSpec.ofChange lampOversSpec)

/-- ITS FALSE NEIGHBOUR: 'it returns false'. Refute it at one input. -/
def lampOversWrong : ChangeSpec := { name := "lampOvers", fn := fun _ => fun
  | [d1, d2, d3] => { results := [.lit (.bool false)], args := [d1, d2, d3] }
  | _ => none }
def LampOversWrongFalsely : Prop := lampOversRow.holds Try.pinned (OpenSpec.ofChange lampOversWrong)

/-- 'linkboylaw02.LampLevels': WHATEVER THE INPUT: true; the input reads as it did. -/
def lampLevelsSpec : ChangeSpec := { name := "lampLevels", fn := fun _ => fun
  | [d1, d2, d3] => { results := [.lit (.bool true)], args := [d1, d2, d3] }
  | _ => none }
def lampLevelsRow : OpenClaim := { program := "ytjhecgiipajdpaa", sum := "b62e5362a26c2a9746933daefd75eb6a89ccd0ec55c5d391dd809c613b35eb76", func := "linkboy/linkboylaw02.LampLevels", spec := "lampLevels", unfollowed := true, recurses := true, apart := false }
def LampLevelsSaid : Prop := lampLevelsRow.holds Try.pinned (OpenSpec.ofChange lampLevelsSpec)

/-- ITS FALSE NEIGHBOUR: 'it returns false'. Refute it at one input. -/
def lampLevelsWrong : ChangeSpec := { name := "lampLevels", fn := fun _ => fun
  | [d1, d2, d3] => { results := [.lit (.bool false)], args := [d1, d2, d3] }
  | _ => none }
def LampLevelsWrongFalsely : Prop := lampLevelsRow.holds Try.pinned (OpenSpec.ofChange lampLevelsWrong)

/-- 'linkboylaw02.LampIntensities': WHATEVER THE INPUT: true; the input reads as it did. -/
def lampIntensitiesSpec : ChangeSpec := { name := "lampIntensities", fn := fun _ => fun
  | [d1, d2] => { results := [.lit (.bool true)], args := [d1, d2] }
  | _ => none }
def lampIntensitiesRow : OpenClaim := { program := "ytjhecgiipajdpaa", sum := "b62e5362a26c2a9746933daefd75eb6a89ccd0ec55c5d391dd809c613b35eb76", func := "linkboy/linkboylaw02.LampIntensities", spec := "lampIntensities", unfollowed := true, recurses := true, apart := false }
def LampIntensitiesSaid : Prop := lampIntensitiesRow.holds Try.pinned (OpenSpec.ofChange lampIntensitiesSpec)

/-- ITS FALSE NEIGHBOUR: 'it returns false'. Refute it at one input. -/
def lampIntensitiesWrong : ChangeSpec := { name := "lampIntensities", fn := fun _ => fun
  | [d1, d2] => { results := [.lit (.bool false)], args := [d1, d2] }
  | _ => none }
def LampIntensitiesWrongFalsely : Prop := lampIntensitiesRow.holds Try.pinned (OpenSpec.ofChange lampIntensitiesWrong)

/-- 'linkboylaw02.LampBetween': WHATEVER THE INPUT: true; the input reads as it did. -/
def lampBetweenSpec : ChangeSpec := { name := "lampBetween", fn := fun _ => fun
  | [d1, d2, d3] => { results := [.lit (.bool true)], args := [d1, d2, d3] }
  | _ => none }
def lampBetweenRow : OpenClaim := { program := "ytjhecgiipajdpaa", sum := "b62e5362a26c2a9746933daefd75eb6a89ccd0ec55c5d391dd809c613b35eb76", func := "linkboy/linkboylaw02.LampBetween", spec := "lampBetween", unfollowed := true, recurses := true, apart := false }
def LampBetweenSaid : Prop := lampBetweenRow.holds Try.pinned (OpenSpec.ofChange lampBetweenSpec)

/-- ITS FALSE NEIGHBOUR: 'it returns false'. Refute it at one input. -/
def lampBetweenWrong : ChangeSpec := { name := "lampBetween", fn := fun _ => fun
  | [d1, d2, d3] => { results := [.lit (.bool false)], args := [d1, d2, d3] }
  | _ => none }
def LampBetweenWrongFalsely : Prop := lampBetweenRow.holds Try.pinned (OpenSpec.ofChange lampBetweenWrong)

/-- 'linkboylaw02.LampHolds': WHATEVER THE INPUT: true; the input reads as it did. -/
def lampHoldsSpec : ChangeSpec := { name := "lampHolds", fn := fun _ => fun
  | [d1, d2] => { results := [.lit (.bool true)], args := [d1, d2] }
  | _ => none }
def lampHoldsRow : OpenClaim := { program := "ytjhecgiipajdpaa", sum := "b62e5362a26c2a9746933daefd75eb6a89ccd0ec55c5d391dd809c613b35eb76", func := "linkboy/linkboylaw02.LampHolds", spec := "lampHolds", unfollowed := true, recurses := true, apart := false }
def LampHoldsSaid : Prop := lampHoldsRow.holds Try.pinned (OpenSpec.ofChange lampHoldsSpec)

/-- ITS FALSE NEIGHBOUR: 'it returns false'. Refute it at one input. -/
def lampHoldsWrong : ChangeSpec := { name := "lampHolds", fn := fun _ => fun
  | [d1, d2] => { results := [.lit (.bool false)], args := [d1, d2] }
  | _ => none }
def LampHoldsWrongFalsely : Prop := lampHoldsRow.holds Try.pinned (OpenSpec.ofChange lampHoldsWrong)

/-- 'linkboylaw02.LampParts': WHATEVER THE INPUT: true; the input reads as it did. -/
def lampPartsSpec : ChangeSpec := { name := "lampParts", fn := fun _ => fun
  | [d1, d2] => { results := [.lit (.bool true)], args := [d1, d2] }
  | _ => none }
def lampPartsRow : OpenClaim := { program := "ytjhecgiipajdpaa", sum := "b62e5362a26c2a9746933daefd75eb6a89ccd0ec55c5d391dd809c613b35eb76", func := "linkboy/linkboylaw02.LampParts", spec := "lampParts", unfollowed := true, recurses := true, apart := false }
def LampPartsSaid : Prop := lampPartsRow.holds Try.pinned (OpenSpec.ofChange lampPartsSpec)

/-- ITS FALSE NEIGHBOUR: 'it returns false'. Refute it at one input. -/
def lampPartsWrong : ChangeSpec := { name := "lampParts", fn := fun _ => fun
  | [d1, d2] => { results := [.lit (.bool false)], args := [d1, d2] }
  | _ => none }
def LampPartsWrongFalsely : Prop := lampPartsRow.holds Try.pinned (OpenSpec.ofChange lampPartsWrong)

/-- 'linkboylaw02.LampTowards': WHATEVER THE INPUT: true; the input reads as it did. -/
def lampTowardsSpec : ChangeSpec := { name := "lampTowards", fn := fun _ => fun
  | [d1, d2] => { results := [.lit (.bool true)], args := [d1, d2] }
  | _ => none }
def lampTowardsRow : OpenClaim := { program := "ytjhecgiipajdpaa", sum := "b62e5362a26c2a9746933daefd75eb6a89ccd0ec55c5d391dd809c613b35eb76", func := "linkboy/linkboylaw02.LampTowards", spec := "lampTowards", unfollowed := true, recurses := true, apart := false }
def LampTowardsSaid : Prop := lampTowardsRow.holds Try.pinned (OpenSpec.ofChange lampTowardsSpec)

/-- ITS FALSE NEIGHBOUR: 'it returns false'. Refute it at one input. -/
def lampTowardsWrong : ChangeSpec := { name := "lampTowards", fn := fun _ => fun
  | [d1, d2] => { results := [.lit (.bool false)], args := [d1, d2] }
  | _ => none }
def LampTowardsWrongFalsely : Prop := lampTowardsRow.holds Try.pinned (OpenSpec.ofChange lampTowardsWrong)

/-- 'linkboylaw02.LampUses': WHATEVER THE INPUT: true; the input reads as it did. -/
def lampUsesSpec : ChangeSpec := { name := "lampUses", fn := fun _ => fun
  | [d1, d2, d3] => { results := [.lit (.bool true)], args := [d1, d2, d3] }
  | _ => none }
def lampUsesRow : OpenClaim := { program := "ytjhecgiipajdpaa", sum := "b62e5362a26c2a9746933daefd75eb6a89ccd0ec55c5d391dd809c613b35eb76", func := "linkboy/linkboylaw02.LampUses", spec := "lampUses", unfollowed := true, recurses := true, apart := false }
def LampUsesSaid : Prop := lampUsesRow.holds Try.pinned (OpenSpec.ofChange lampUsesSpec)

/-- ITS FALSE NEIGHBOUR: 'it returns false'. Refute it at one input. -/
def lampUsesWrong : ChangeSpec := { name := "lampUses", fn := fun _ => fun
  | [d1, d2, d3] => { results := [.lit (.bool false)], args := [d1, d2, d3] }
  | _ => none }
def LampUsesWrongFalsely : Prop := lampUsesRow.holds Try.pinned (OpenSpec.ofChange lampUsesWrong)

/-- 'linkboylaw02.LampAges': WHATEVER THE INPUT: true; the input reads as it did. -/
def lampAgesSpec : ChangeSpec := { name := "lampAges", fn := fun _ => fun
  | [d1, d2, d3] => { results := [.lit (.bool true)], args := [d1, d2, d3] }
  | _ => none }
def lampAgesRow : OpenClaim := { program := "ytjhecgiipajdpaa", sum := "b62e5362a26c2a9746933daefd75eb6a89ccd0ec55c5d391dd809c613b35eb76", func := "linkboy/linkboylaw02.LampAges", spec := "lampAges", unfollowed := true, recurses := true, apart := false }
def LampAgesSaid : Prop := lampAgesRow.holds Try.pinned (OpenSpec.ofChange lampAgesSpec)

/-- ITS FALSE NEIGHBOUR: 'it returns false'. Refute it at one input. -/
def lampAgesWrong : ChangeSpec := { name := "lampAges", fn := fun _ => fun
  | [d1, d2, d3] => { results := [.lit (.bool false)], args := [d1, d2, d3] }
  | _ => none }
def LampAgesWrongFalsely : Prop := lampAgesRow.holds Try.pinned (OpenSpec.ofChange lampAgesWrong)

/-- 'linkboylaw02.LampShares': WHATEVER THE INPUT: true; the input reads as it did. -/
def lampSharesSpec : ChangeSpec := { name := "lampShares", fn := fun _ => fun
  | [d1, d2, d3] => { results := [.lit (.bool true)], args := [d1, d2, d3] }
  | _ => none }
def lampSharesRow : OpenClaim := { program := "ytjhecgiipajdpaa", sum := "b62e5362a26c2a9746933daefd75eb6a89ccd0ec55c5d391dd809c613b35eb76", func := "linkboy/linkboylaw02.LampShares", spec := "lampShares", unfollowed := true, recurses := true, apart := false }
def LampSharesSaid : Prop := lampSharesRow.holds Try.pinned (OpenSpec.ofChange lampSharesSpec)

/-- ITS FALSE NEIGHBOUR: 'it returns false'. Refute it at one input. -/
def lampSharesWrong : ChangeSpec := { name := "lampShares", fn := fun _ => fun
  | [d1, d2, d3] => { results := [.lit (.bool false)], args := [d1, d2, d3] }
  | _ => none }
def LampSharesWrongFalsely : Prop := lampSharesRow.holds Try.pinned (OpenSpec.ofChange lampSharesWrong)

/-- 'linkboylaw02.LampFiner': WHATEVER THE INPUT: true; the input reads as it did. -/
def lampFinerSpec : ChangeSpec := { name := "lampFiner", fn := fun _ => fun
  | [d1, d2, d3] => { results := [.lit (.bool true)], args := [d1, d2, d3] }
  | _ => none }
def lampFinerRow : OpenClaim := { program := "ytjhecgiipajdpaa", sum := "b62e5362a26c2a9746933daefd75eb6a89ccd0ec55c5d391dd809c613b35eb76", func := "linkboy/linkboylaw02.LampFiner", spec := "lampFiner", unfollowed := true, recurses := true, apart := false }
def LampFinerSaid : Prop := lampFinerRow.holds Try.pinned (OpenSpec.ofChange lampFinerSpec)

/-- ITS FALSE NEIGHBOUR: 'it returns false'. Refute it at one input. -/
def lampFinerWrong : ChangeSpec := { name := "lampFiner", fn := fun _ => fun
  | [d1, d2, d3] => { results := [.lit (.bool false)], args := [d1, d2, d3] }
  | _ => none }
def LampFinerWrongFalsely : Prop := lampFinerRow.holds Try.pinned (OpenSpec.ofChange lampFinerWrong)

/-- 'linkboylaw02.LampBrighter': WHATEVER THE INPUT: true; the input reads as it did. -/
def lampBrighterSpec : ChangeSpec := { name := "lampBrighter", fn := fun _ => fun
  | [d1, d2, d3] => { results := [.lit (.bool true)], args := [d1, d2, d3] }
  | _ => none }
def lampBrighterRow : OpenClaim := { program := "ytjhecgiipajdpaa", sum := "b62e5362a26c2a9746933daefd75eb6a89ccd0ec55c5d391dd809c613b35eb76", func := "linkboy/linkboylaw02.LampBrighter", spec := "lampBrighter", unfollowed := true, recurses := true, apart := false }
def LampBrighterSaid : Prop := lampBrighterRow.holds Try.pinned (OpenSpec.ofChange lampBrighterSpec)

/-- ITS FALSE NEIGHBOUR: 'it returns false'. Refute it at one input. -/
def lampBrighterWrong : ChangeSpec := { name := "lampBrighter", fn := fun _ => fun
  | [d1, d2, d3] => { results := [.lit (.bool false)], args := [d1, d2, d3] }
  | _ => none }
def LampBrighterWrongFalsely : Prop := lampBrighterRow.holds Try.pinned (OpenSpec.ofChange lampBrighterWrong)

/- THE SECOND FORM. 'bulk': how many values and letters a reading holds, each counted each time it is reached (what is shared counts as often as it is met; a slice's spare places count too). A statement '..UptoSaid' is the law's where the arguments, and the package variables that the reading takes, are together of bulk at most 1048576: NARROWER than '..Said'. Prove '..Said' where nothing that the law and all that it calls make is longer than what came in: it says more and counts as full. Else prove '..UptoSaid'. A law counts once. -/
mutual
def uptoBulk {H : Type} : DataW H → Nat
  | .lit (.string bytes) => bytes.length + 1
  | .lit _ => 1
  | .nil => 1
  | .ptr d => uptoBulk d + 1
  | .slice elems spare => uptoBulkAll elems + uptoBulkAll spare + 1
  | .agg parts => uptoBulkAll parts + 1
  | .iface _ d => uptoBulk d + 1
  | .map entries => uptoBulkEntries entries + 1
  | .held _ => 1
def uptoBulkAll {H : Type} : List (DataW H) → Nat
  | [] => 0
  | d :: r => uptoBulk d + uptoBulkAll r
def uptoBulkEntries {H : Type} : List (Lit × DataW H) → Nat
  | [] => 0
  | x :: r => uptoBulkEntry x + uptoBulkEntries r
def uptoBulkEntry {H : Type} : Lit × DataW H → Nat
  | (.string bytes, d) => bytes.length + uptoBulk d + 1
  | (_, d) => uptoBulk d + 1
 end
def uptoSmall : (H : Type) → List (DataW H) → Bool := fun _ ds => decide (uptoBulkAll ds ≤ 1048576)
def OpenSpec.upto (s : _root_.Go.ChangeSpec) : _root_.Go.OpenSpec := { _root_.Go.OpenSpec.ofChange s with cond := some uptoSmall }

/-- 'linkboylaw02.LampChecks', WHERE WHAT IT READS IS OF BULK AT MOST 1048576: true; the input reads as it did. -/
def lampChecksUptoRow : OpenClaim := { program := "ytjhecgiipajdpaa", sum := "b62e5362a26c2a9746933daefd75eb6a89ccd0ec55c5d391dd809c613b35eb76", func := "linkboy/linkboylaw02.LampChecks", spec := "lampChecks", unfollowed := true, recurses := true, apart := false, narrowed := true }
def LampChecksUptoSaid : Prop := lampChecksUptoRow.holds Try.pinned (OpenSpec.upto lampChecksSpec)

/-- 'linkboylaw02.LampOvers', WHERE WHAT IT READS IS OF BULK AT MOST 1048576: true; the input reads as it did. -/
def lampOversUptoRow : OpenClaim := { program := "ytjhecgiipajdpaa", sum := "b62e5362a26c2a9746933daefd75eb6a89ccd0ec55c5d391dd809c613b35eb76", func := "linkboy/linkboylaw02.LampOvers", spec := "lampOvers", unfollowed := true, recurses := true, apart := false, narrowed := true }
def LampOversUptoSaid : Prop := lampOversUptoRow.holds Try.pinned (OpenSpec.upto lampOversSpec)

/-- 'linkboylaw02.LampLevels', WHERE WHAT IT READS IS OF BULK AT MOST 1048576: true; the input reads as it did. -/
def lampLevelsUptoRow : OpenClaim := { program := "ytjhecgiipajdpaa", sum := "b62e5362a26c2a9746933daefd75eb6a89ccd0ec55c5d391dd809c613b35eb76", func := "linkboy/linkboylaw02.LampLevels", spec := "lampLevels", unfollowed := true, recurses := true, apart := false, narrowed := true }
def LampLevelsUptoSaid : Prop := lampLevelsUptoRow.holds Try.pinned (OpenSpec.upto lampLevelsSpec)

/-- 'linkboylaw02.LampIntensities', WHERE WHAT IT READS IS OF BULK AT MOST 1048576: true; the input reads as it did. -/
def lampIntensitiesUptoRow : OpenClaim := { program := "ytjhecgiipajdpaa", sum := "b62e5362a26c2a9746933daefd75eb6a89ccd0ec55c5d391dd809c613b35eb76", func := "linkboy/linkboylaw02.LampIntensities", spec := "lampIntensities", unfollowed := true, recurses := true, apart := false, narrowed := true }
def LampIntensitiesUptoSaid : Prop := lampIntensitiesUptoRow.holds Try.pinned (OpenSpec.upto lampIntensitiesSpec)

/-- 'linkboylaw02.LampBetween', WHERE WHAT IT READS IS OF BULK AT MOST 1048576: true; the input reads as it did. -/
def lampBetweenUptoRow : OpenClaim := { program := "ytjhecgiipajdpaa", sum := "b62e5362a26c2a9746933daefd75eb6a89ccd0ec55c5d391dd809c613b35eb76", func := "linkboy/linkboylaw02.LampBetween", spec := "lampBetween", unfollowed := true, recurses := true, apart := false, narrowed := true }
def LampBetweenUptoSaid : Prop := lampBetweenUptoRow.holds Try.pinned (OpenSpec.upto lampBetweenSpec)

/-- 'linkboylaw02.LampHolds', WHERE WHAT IT READS IS OF BULK AT MOST 1048576: true; the input reads as it did. -/
def lampHoldsUptoRow : OpenClaim := { program := "ytjhecgiipajdpaa", sum := "b62e5362a26c2a9746933daefd75eb6a89ccd0ec55c5d391dd809c613b35eb76", func := "linkboy/linkboylaw02.LampHolds", spec := "lampHolds", unfollowed := true, recurses := true, apart := false, narrowed := true }
def LampHoldsUptoSaid : Prop := lampHoldsUptoRow.holds Try.pinned (OpenSpec.upto lampHoldsSpec)

/-- 'linkboylaw02.LampParts', WHERE WHAT IT READS IS OF BULK AT MOST 1048576: true; the input reads as it did. -/
def lampPartsUptoRow : OpenClaim := { program := "ytjhecgiipajdpaa", sum := "b62e5362a26c2a9746933daefd75eb6a89ccd0ec55c5d391dd809c613b35eb76", func := "linkboy/linkboylaw02.LampParts", spec := "lampParts", unfollowed := true, recurses := true, apart := false, narrowed := true }
def LampPartsUptoSaid : Prop := lampPartsUptoRow.holds Try.pinned (OpenSpec.upto lampPartsSpec)

/-- 'linkboylaw02.LampTowards', WHERE WHAT IT READS IS OF BULK AT MOST 1048576: true; the input reads as it did. -/
def lampTowardsUptoRow : OpenClaim := { program := "ytjhecgiipajdpaa", sum := "b62e5362a26c2a9746933daefd75eb6a89ccd0ec55c5d391dd809c613b35eb76", func := "linkboy/linkboylaw02.LampTowards", spec := "lampTowards", unfollowed := true, recurses := true, apart := false, narrowed := true }
def LampTowardsUptoSaid : Prop := lampTowardsUptoRow.holds Try.pinned (OpenSpec.upto lampTowardsSpec)

/-- 'linkboylaw02.LampUses', WHERE WHAT IT READS IS OF BULK AT MOST 1048576: true; the input reads as it did. -/
def lampUsesUptoRow : OpenClaim := { program := "ytjhecgiipajdpaa", sum := "b62e5362a26c2a9746933daefd75eb6a89ccd0ec55c5d391dd809c613b35eb76", func := "linkboy/linkboylaw02.LampUses", spec := "lampUses", unfollowed := true, recurses := true, apart := false, narrowed := true }
def LampUsesUptoSaid : Prop := lampUsesUptoRow.holds Try.pinned (OpenSpec.upto lampUsesSpec)

/-- 'linkboylaw02.LampAges', WHERE WHAT IT READS IS OF BULK AT MOST 1048576: true; the input reads as it did. -/
def lampAgesUptoRow : OpenClaim := { program := "ytjhecgiipajdpaa", sum := "b62e5362a26c2a9746933daefd75eb6a89ccd0ec55c5d391dd809c613b35eb76", func := "linkboy/linkboylaw02.LampAges", spec := "lampAges", unfollowed := true, recurses := true, apart := false, narrowed := true }
def LampAgesUptoSaid : Prop := lampAgesUptoRow.holds Try.pinned (OpenSpec.upto lampAgesSpec)

/-- 'linkboylaw02.LampShares', WHERE WHAT IT READS IS OF BULK AT MOST 1048576: true; the input reads as it did. -/
def lampSharesUptoRow : OpenClaim := { program := "ytjhecgiipajdpaa", sum := "b62e5362a26c2a9746933daefd75eb6a89ccd0ec55c5d391dd809c613b35eb76", func := "linkboy/linkboylaw02.LampShares", spec := "lampShares", unfollowed := true, recurses := true, apart := false, narrowed := true }
def LampSharesUptoSaid : Prop := lampSharesUptoRow.holds Try.pinned (OpenSpec.upto lampSharesSpec)

/-- 'linkboylaw02.LampFiner', WHERE WHAT IT READS IS OF BULK AT MOST 1048576: true; the input reads as it did. -/
def lampFinerUptoRow : OpenClaim := { program := "ytjhecgiipajdpaa", sum := "b62e5362a26c2a9746933daefd75eb6a89ccd0ec55c5d391dd809c613b35eb76", func := "linkboy/linkboylaw02.LampFiner", spec := "lampFiner", unfollowed := true, recurses := true, apart := false, narrowed := true }
def LampFinerUptoSaid : Prop := lampFinerUptoRow.holds Try.pinned (OpenSpec.upto lampFinerSpec)

/-- 'linkboylaw02.LampBrighter', WHERE WHAT IT READS IS OF BULK AT MOST 1048576: true; the input reads as it did. -/
def lampBrighterUptoRow : OpenClaim := { program := "ytjhecgiipajdpaa", sum := "b62e5362a26c2a9746933daefd75eb6a89ccd0ec55c5d391dd809c613b35eb76", func := "linkboy/linkboylaw02.LampBrighter", spec := "lampBrighter", unfollowed := true, recurses := true, apart := false, narrowed := true }
def LampBrighterUptoSaid : Prop := lampBrighterUptoRow.holds Try.pinned (OpenSpec.upto lampBrighterSpec)

end Rows
end Go.Proofs.Ytjhecgiipajdpaa
