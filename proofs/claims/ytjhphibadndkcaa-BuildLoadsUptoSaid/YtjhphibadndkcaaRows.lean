/-
  No cell of these rows narrows 'for every input' (looked for: loops, veiled, ifaces, maps, wideKeys, modest, calm, conditions, laid).
  DERIVED. THE GIVEN ROWS OF THIS SEAT. 13 by the template 'for every input the law returns true; each argument reads behind the call as it read before'; 0 by the template 'total and deterministic' (their statements: YtjhphibadndkcaaTotals.lean).
  GIVEN WITH THE SEED: the statements are not yours to turn. If you find one false, say at which input.
  Laid BY PROGRAM, IN A SANDBOX (cutbox-rows.mjs): the forced cells as the released guide's own fill.sh prints them over the translation 30fe3ccf75c13dcd… (all of the seat's roots in one cut). By AI agents, Wed Nov 11 2026. No macro, syntax, notation, axiom, sorry.
-/
import Derived.Test.YtjhphibadndkcaaChecked
import GoSem.Claim
import GoSem.ClaimJoined
import GoSem.ClaimMapViews
import Derived.JoinedTies
import Derived.KernelRfl
namespace Go.Proofs.Ytjhphibadndkcaa
/- THE CELL 'sum', in the pinned program and in every row, IS THE sha256 OF THE DUMP (.gsa) THAT YtjhphibadndkcaaProg.lean LOADS. Nothing in Lean hashes anything: it is a label: what it is worth is what the hold of that sum in a sandbox is worth. -/
noncomputable def Try.pinned : Pinned := { name := "ytjhphibadndkcaa", sum := "30fe3ccf75c13dcdee065c06c32c8f432d491a9c87b0deeb5706bf4371f08195", checked := Try.checked }
namespace Rows
def none {H : Type} : Left H := { results := [], args := [] }

/-- 'waltzerlaw08.BuildOrders': WHATEVER THE INPUT: true; the input reads as it did. -/
def buildOrdersSpec : ChangeSpec := { name := "buildOrders", fn := fun _ => fun
  | [d] => { results := [.lit (.bool true)], args := [d] }
  | _ => none }
def buildOrdersRow : OpenClaim := { program := "ytjhphibadndkcaa", sum := "30fe3ccf75c13dcdee065c06c32c8f432d491a9c87b0deeb5706bf4371f08195", func := "waltzer/waltzerlaw08.BuildOrders", spec := "buildOrders", unfollowed := true, recurses := true, apart := false }
def BuildOrdersSaid : Prop := buildOrdersRow.holds Try.pinned (OpenSpec.ofChange buildOrdersSpec)

/-- ITS FALSE NEIGHBOUR: 'it returns false'. Refute it at one input. -/
def buildOrdersWrong : ChangeSpec := { name := "buildOrders", fn := fun _ => fun
  | [d] => { results := [.lit (.bool false)], args := [d] }
  | _ => none }
def BuildOrdersWrongFalsely : Prop := buildOrdersRow.holds Try.pinned (OpenSpec.ofChange buildOrdersWrong)

/-- 'waltzerlaw08.BuildTimes': WHATEVER THE INPUT: true; the input reads as it did. -/
def buildTimesSpec : ChangeSpec := { name := "buildTimes", fn := fun _ => fun
  | [d1, d2] => { results := [.lit (.bool true)], args := [d1, d2] }
  | _ => none }
def buildTimesRow : OpenClaim := { program := "ytjhphibadndkcaa", sum := "30fe3ccf75c13dcdee065c06c32c8f432d491a9c87b0deeb5706bf4371f08195", func := "waltzer/waltzerlaw08.BuildTimes", spec := "buildTimes", unfollowed := true, recurses := true, apart := false }
def BuildTimesSaid : Prop := buildTimesRow.holds Try.pinned (OpenSpec.ofChange buildTimesSpec)

/-- ITS FALSE NEIGHBOUR: 'it returns false'. Refute it at one input. -/
def buildTimesWrong : ChangeSpec := { name := "buildTimes", fn := fun _ => fun
  | [d1, d2] => { results := [.lit (.bool false)], args := [d1, d2] }
  | _ => none }
def BuildTimesWrongFalsely : Prop := buildTimesRow.holds Try.pinned (OpenSpec.ofChange buildTimesWrong)

/-- 'waltzerlaw08.BuildBounds': WHATEVER THE INPUT: true; the input reads as it did. -/
def buildBoundsSpec : ChangeSpec := { name := "buildBounds", fn := fun _ => fun
  | [d1, d2] => { results := [.lit (.bool true)], args := [d1, d2] }
  | _ => none }
def buildBoundsRow : OpenClaim := { program := "ytjhphibadndkcaa", sum := "30fe3ccf75c13dcdee065c06c32c8f432d491a9c87b0deeb5706bf4371f08195", func := "waltzer/waltzerlaw08.BuildBounds", spec := "buildBounds", unfollowed := true, recurses := true, apart := false }
def BuildBoundsSaid : Prop := buildBoundsRow.holds Try.pinned (OpenSpec.ofChange buildBoundsSpec)

/-- ITS FALSE NEIGHBOUR: 'it returns false'. Refute it at one input. -/
def buildBoundsWrong : ChangeSpec := { name := "buildBounds", fn := fun _ => fun
  | [d1, d2] => { results := [.lit (.bool false)], args := [d1, d2] }
  | _ => none }
def BuildBoundsWrongFalsely : Prop := buildBoundsRow.holds Try.pinned (OpenSpec.ofChange buildBoundsWrong)

/-- 'waltzerlaw08.BuildFirst': WHATEVER THE INPUT: true; the input reads as it did. -/
def buildFirstSpec : ChangeSpec := { name := "buildFirst", fn := fun _ => fun
  | [d1, d2] => { results := [.lit (.bool true)], args := [d1, d2] }
  | _ => none }
def buildFirstRow : OpenClaim := { program := "ytjhphibadndkcaa", sum := "30fe3ccf75c13dcdee065c06c32c8f432d491a9c87b0deeb5706bf4371f08195", func := "waltzer/waltzerlaw08.BuildFirst", spec := "buildFirst", unfollowed := true, recurses := true, apart := false }
def BuildFirstSaid : Prop := buildFirstRow.holds Try.pinned (OpenSpec.ofChange buildFirstSpec)

/-- ITS FALSE NEIGHBOUR: 'it returns false'. Refute it at one input. -/
def buildFirstWrong : ChangeSpec := { name := "buildFirst", fn := fun _ => fun
  | [d1, d2] => { results := [.lit (.bool false)], args := [d1, d2] }
  | _ => none }
def BuildFirstWrongFalsely : Prop := buildFirstRow.holds Try.pinned (OpenSpec.ofChange buildFirstWrong)

/-- 'waltzerlaw08.BuildLogs': WHATEVER THE INPUT: true; the input reads as it did. -/
def buildLogsSpec : ChangeSpec := { name := "buildLogs", fn := fun _ => fun
  | [d1, d2] => { results := [.lit (.bool true)], args := [d1, d2] }
  | _ => none }
def buildLogsRow : OpenClaim := { program := "ytjhphibadndkcaa", sum := "30fe3ccf75c13dcdee065c06c32c8f432d491a9c87b0deeb5706bf4371f08195", func := "waltzer/waltzerlaw08.BuildLogs", spec := "buildLogs", unfollowed := true, recurses := true, apart := false }
def BuildLogsSaid : Prop := buildLogsRow.holds Try.pinned (OpenSpec.ofChange buildLogsSpec)

/-- ITS FALSE NEIGHBOUR: 'it returns false'. Refute it at one input. -/
def buildLogsWrong : ChangeSpec := { name := "buildLogs", fn := fun _ => fun
  | [d1, d2] => { results := [.lit (.bool false)], args := [d1, d2] }
  | _ => none }
def BuildLogsWrongFalsely : Prop := buildLogsRow.holds Try.pinned (OpenSpec.ofChange buildLogsWrong)

/-- 'waltzerlaw08.BuildChecks': WHATEVER THE INPUT: true; the input reads as it did. -/
def buildChecksSpec : ChangeSpec := { name := "buildChecks", fn := fun _ => fun
  | [d1, d2] => { results := [.lit (.bool true)], args := [d1, d2] }
  | _ => none }
def buildChecksRow : OpenClaim := { program := "ytjhphibadndkcaa", sum := "30fe3ccf75c13dcdee065c06c32c8f432d491a9c87b0deeb5706bf4371f08195", func := "waltzer/waltzerlaw08.BuildChecks", spec := "buildChecks", unfollowed := true, recurses := true, apart := false }
def BuildChecksSaid : Prop := buildChecksRow.holds Try.pinned (OpenSpec.ofChange buildChecksSpec)

/-- ITS FALSE NEIGHBOUR: 'it returns false'. Refute it at one input. -/
def buildChecksWrong : ChangeSpec := { name := "buildChecks", fn := fun _ => fun
  | [d1, d2] => { results := [.lit (.bool false)], args := [d1, d2] }
  | _ => none }
def BuildChecksWrongFalsely : Prop := buildChecksRow.holds Try.pinned (OpenSpec.ofChange buildChecksWrong)

/-- 'waltzerlaw08.BuildLacks': WHATEVER THE INPUT: true; the input reads as it did. -/
def buildLacksSpec : ChangeSpec := { name := "buildLacks", fn := fun _ => fun
  | [d1, d2] => { results := [.lit (.bool true)], args := [d1, d2] }
  | _ => none }
def buildLacksRow : OpenClaim := { program := "ytjhphibadndkcaa", sum := "30fe3ccf75c13dcdee065c06c32c8f432d491a9c87b0deeb5706bf4371f08195", func := "waltzer/waltzerlaw08.BuildLacks", spec := "buildLacks", unfollowed := true, recurses := true, apart := false }
def BuildLacksSaid : Prop := buildLacksRow.holds Try.pinned (OpenSpec.ofChange buildLacksSpec)

/-- ITS FALSE NEIGHBOUR: 'it returns false'. Refute it at one input. -/
def buildLacksWrong : ChangeSpec := { name := "buildLacks", fn := fun _ => fun
  | [d1, d2] => { results := [.lit (.bool false)], args := [d1, d2] }
  | _ => none }
def BuildLacksWrongFalsely : Prop := buildLacksRow.holds Try.pinned (OpenSpec.ofChange buildLacksWrong)

/-- 'waltzerlaw08.BuildStands': WHATEVER THE INPUT: true; the input reads as it did. -/
def buildStandsSpec : ChangeSpec := { name := "buildStands", fn := fun _ => fun
  | [d1, d2] => { results := [.lit (.bool true)], args := [d1, d2] }
  | _ => none }
def buildStandsRow : OpenClaim := { program := "ytjhphibadndkcaa", sum := "30fe3ccf75c13dcdee065c06c32c8f432d491a9c87b0deeb5706bf4371f08195", func := "waltzer/waltzerlaw08.BuildStands", spec := "buildStands", unfollowed := true, recurses := true, apart := false }
def BuildStandsSaid : Prop := buildStandsRow.holds Try.pinned (OpenSpec.ofChange buildStandsSpec)

/-- ITS FALSE NEIGHBOUR: 'it returns false'. Refute it at one input. -/
def buildStandsWrong : ChangeSpec := { name := "buildStands", fn := fun _ => fun
  | [d1, d2] => { results := [.lit (.bool false)], args := [d1, d2] }
  | _ => none }
def BuildStandsWrongFalsely : Prop := buildStandsRow.holds Try.pinned (OpenSpec.ofChange buildStandsWrong)

/-- 'waltzerlaw08.BuildPins': WHATEVER THE INPUT: true; the input reads as it did. -/
def buildPinsSpec : ChangeSpec := { name := "buildPins", fn := fun _ => fun
  | [d1, d2] => { results := [.lit (.bool true)], args := [d1, d2] }
  | _ => none }
def buildPinsRow : OpenClaim := { program := "ytjhphibadndkcaa", sum := "30fe3ccf75c13dcdee065c06c32c8f432d491a9c87b0deeb5706bf4371f08195", func := "waltzer/waltzerlaw08.BuildPins", spec := "buildPins", unfollowed := true, recurses := true, apart := false }
def BuildPinsSaid : Prop := buildPinsRow.holds Try.pinned (OpenSpec.ofChange buildPinsSpec)

/-- ITS FALSE NEIGHBOUR: 'it returns false'. Refute it at one input. -/
def buildPinsWrong : ChangeSpec := { name := "buildPins", fn := fun _ => fun
  | [d1, d2] => { results := [.lit (.bool false)], args := [d1, d2] }
  | _ => none }
def BuildPinsWrongFalsely : Prop := buildPinsRow.holds Try.pinned (OpenSpec.ofChange buildPinsWrong)

/-- 'waltzerlaw08.BuildPacks': WHATEVER THE INPUT: true; the input reads as it did. -/
def buildPacksSpec : ChangeSpec := { name := "buildPacks", fn := fun _ => fun
  | [d1, d2] => { results := [.lit (.bool true)], args := [d1, d2] }
  | _ => none }
def buildPacksRow : OpenClaim := { program := "ytjhphibadndkcaa", sum := "30fe3ccf75c13dcdee065c06c32c8f432d491a9c87b0deeb5706bf4371f08195", func := "waltzer/waltzerlaw08.BuildPacks", spec := "buildPacks", unfollowed := true, recurses := true, apart := false }
def BuildPacksSaid : Prop := buildPacksRow.holds Try.pinned (OpenSpec.ofChange buildPacksSpec)

/-- ITS FALSE NEIGHBOUR: 'it returns false'. Refute it at one input. -/
def buildPacksWrong : ChangeSpec := { name := "buildPacks", fn := fun _ => fun
  | [d1, d2] => { results := [.lit (.bool false)], args := [d1, d2] }
  | _ => none }
def BuildPacksWrongFalsely : Prop := buildPacksRow.holds Try.pinned (OpenSpec.ofChange buildPacksWrong)

/-- 'waltzerlaw08.BuildLoads': WHATEVER THE INPUT: true; the input reads as it did. -/
def buildLoadsSpec : ChangeSpec := { name := "buildLoads", fn := fun _ => fun
  | [d1, d2, d3] => { results := [.lit (.bool true)], args := [d1, d2, d3] }
  | _ => none }
def buildLoadsRow : OpenClaim := { program := "ytjhphibadndkcaa", sum := "30fe3ccf75c13dcdee065c06c32c8f432d491a9c87b0deeb5706bf4371f08195", func := "waltzer/waltzerlaw08.BuildLoads", spec := "buildLoads", unfollowed := true, recurses := true, apart := false }
def BuildLoadsSaid : Prop := buildLoadsRow.holds Try.pinned (OpenSpec.ofChange buildLoadsSpec)

/-- ITS FALSE NEIGHBOUR: 'it returns false'. Refute it at one input. -/
def buildLoadsWrong : ChangeSpec := { name := "buildLoads", fn := fun _ => fun
  | [d1, d2, d3] => { results := [.lit (.bool false)], args := [d1, d2, d3] }
  | _ => none }
def BuildLoadsWrongFalsely : Prop := buildLoadsRow.holds Try.pinned (OpenSpec.ofChange buildLoadsWrong)

/-- 'waltzerlaw08.BuildLists': WHATEVER THE INPUT: true; the input reads as it did. -/
def buildListsSpec : ChangeSpec := { name := "buildLists", fn := fun _ => fun
  | [d1, d2] => { results := [.lit (.bool true)], args := [d1, d2] }
  | _ => none }
def buildListsRow : OpenClaim := { program := "ytjhphibadndkcaa", sum := "30fe3ccf75c13dcdee065c06c32c8f432d491a9c87b0deeb5706bf4371f08195", func := "waltzer/waltzerlaw08.BuildLists", spec := "buildLists", unfollowed := true, recurses := true, apart := false }
def BuildListsSaid : Prop := buildListsRow.holds Try.pinned (OpenSpec.ofChange buildListsSpec)

/-- ITS FALSE NEIGHBOUR: 'it returns false'. Refute it at one input. -/
def buildListsWrong : ChangeSpec := { name := "buildLists", fn := fun _ => fun
  | [d1, d2] => { results := [.lit (.bool false)], args := [d1, d2] }
  | _ => none }
def BuildListsWrongFalsely : Prop := buildListsRow.holds Try.pinned (OpenSpec.ofChange buildListsWrong)

/-- 'waltzerlaw08.BuildBack': WHATEVER THE INPUT: true; the input reads as it did. -/
def buildBackSpec : ChangeSpec := { name := "buildBack", fn := fun _ => fun
  | [d1, d2] => { results := [.lit (.bool true)], args := [d1, d2] }
  | _ => none }
def buildBackRow : OpenClaim := { program := "ytjhphibadndkcaa", sum := "30fe3ccf75c13dcdee065c06c32c8f432d491a9c87b0deeb5706bf4371f08195", func := "waltzer/waltzerlaw08.BuildBack", spec := "buildBack", unfollowed := true, recurses := true, apart := false }
def BuildBackSaid : Prop := buildBackRow.holds Try.pinned (OpenSpec.ofChange buildBackSpec)

/-- ITS FALSE NEIGHBOUR: 'it returns false'. Refute it at one input. -/
def buildBackWrong : ChangeSpec := { name := "buildBack", fn := fun _ => fun
  | [d1, d2] => { results := [.lit (.bool false)], args := [d1, d2] }
  | _ => none }
def BuildBackWrongFalsely : Prop := buildBackRow.holds Try.pinned (OpenSpec.ofChange buildBackWrong)

/- THE SECOND FORM. 'bulk': how many values and letters a reading holds, each counted each time it is reached (what is shared counts as often as it is met; a slice's spare places count too). A statement '..UptoSaid' is the law's where the arguments, and the package variables that the reading takes, are together of bulk at most 1048576: NARROWER than '..Said'. Prove '..Said' where nothing that the law and all that it calls make is longer than what came in: it says more and counts as full. Else prove '..UptoSaid'. A law counts once. -/
mutual
def uptoBulk {H : Type} : DataW H → Nat
  | .lit (.string bytes) => bytes.length + 1
  | .lit _ => 1
  | .nil => 1
  | .ptr d => uptoBulk d + 1
  | .slice elems spare => uptoBulkAll elems + uptoBulkAll spare + 1
  | .agg parts => uptoBulkAll parts + 1
  | .iface _ d => uptoBulk d + 1
  | .map entries => uptoBulkEntries entries + 1
  | .held _ => 1
def uptoBulkAll {H : Type} : List (DataW H) → Nat
  | [] => 0
  | d :: r => uptoBulk d + uptoBulkAll r
def uptoBulkEntries {H : Type} : List (Lit × DataW H) → Nat
  | [] => 0
  | x :: r => uptoBulkEntry x + uptoBulkEntries r
def uptoBulkEntry {H : Type} : Lit × DataW H → Nat
  | (.string bytes, d) => bytes.length + uptoBulk d + 1
  | (_, d) => uptoBulk d + 1
 end
def uptoSmall : (H : Type) → List (DataW H) → Bool := fun _ ds => decide (uptoBulkAll ds ≤ 1048576)
def OpenSpec.upto (s : _root_.Go.ChangeSpec) : _root_.Go.OpenSpec := { _root_.Go.OpenSpec.ofChange s with cond := some uptoSmall }

/-- 'waltzerlaw08.BuildOrders', WHERE WHAT IT READS IS OF BULK AT MOST 1048576: true; the input reads as it did. -/
def buildOrdersUptoRow : OpenClaim := { program := "ytjhphibadndkcaa", sum := "30fe3ccf75c13dcdee065c06c32c8f432d491a9c87b0deeb5706bf4371f08195", func := "waltzer/waltzerlaw08.BuildOrders", spec := "buildOrders", unfollowed := true, recurses := true, apart := false, narrowed := true }
def BuildOrdersUptoSaid : Prop := buildOrdersUptoRow.holds Try.pinned (OpenSpec.upto buildOrdersSpec)

/-- 'waltzerlaw08.BuildTimes', WHERE WHAT IT READS IS OF BULK AT MOST 1048576: true; the input reads as it did. -/
def buildTimesUptoRow : OpenClaim := { program := "ytjhphibadndkcaa", sum := "30fe3ccf75c13dcdee065c06c32c8f432d491a9c87b0deeb5706bf4371f08195", func := "waltzer/waltzerlaw08.BuildTimes", spec := "buildTimes", unfollowed := true, recurses := true, apart := false, narrowed := true }
def BuildTimesUptoSaid : Prop := buildTimesUptoRow.holds Try.pinned (OpenSpec.upto buildTimesSpec)

/-- 'waltzerlaw08.BuildBounds', WHERE WHAT IT READS IS OF BULK AT MOST 1048576: true; the input reads as it did. -/
def buildBoundsUptoRow : OpenClaim := { program := "ytjhphibadndkcaa", sum := "30fe3ccf75c13dcdee065c06c32c8f432d491a9c87b0deeb5706bf4371f08195", func := "waltzer/waltzerlaw08.BuildBounds", spec := "buildBounds", unfollowed := true, recurses := true, apart := false, narrowed := true }
def BuildBoundsUptoSaid : Prop := buildBoundsUptoRow.holds Try.pinned (OpenSpec.upto buildBoundsSpec)

/-- 'waltzerlaw08.BuildFirst', WHERE WHAT IT READS IS OF BULK AT MOST 1048576: true; the input reads as it did. -/
def buildFirstUptoRow : OpenClaim := { program := "ytjhphibadndkcaa", sum := "30fe3ccf75c13dcdee065c06c32c8f432d491a9c87b0deeb5706bf4371f08195", func := "waltzer/waltzerlaw08.BuildFirst", spec := "buildFirst", unfollowed := true, recurses := true, apart := false, narrowed := true }
def BuildFirstUptoSaid : Prop := buildFirstUptoRow.holds Try.pinned (OpenSpec.upto buildFirstSpec)

/-- 'waltzerlaw08.BuildLogs', WHERE WHAT IT READS IS OF BULK AT MOST 1048576: true; the input reads as it did. -/
def buildLogsUptoRow : OpenClaim := { program := "ytjhphibadndkcaa", sum := "30fe3ccf75c13dcdee065c06c32c8f432d491a9c87b0deeb5706bf4371f08195", func := "waltzer/waltzerlaw08.BuildLogs", spec := "buildLogs", unfollowed := true, recurses := true, apart := false, narrowed := true }
def BuildLogsUptoSaid : Prop := buildLogsUptoRow.holds Try.pinned (OpenSpec.upto buildLogsSpec)

/-- 'waltzerlaw08.BuildChecks', WHERE WHAT IT READS IS OF BULK AT MOST 1048576: true; the input reads as it did. -/
def buildChecksUptoRow : OpenClaim := { program := "ytjhphibadndkcaa", sum := "30fe3ccf75c13dcdee065c06c32c8f432d491a9c87b0deeb5706bf4371f08195", func := "waltzer/waltzerlaw08.BuildChecks", spec := "buildChecks", unfollowed := true, recurses := true, apart := false, narrowed := true }
def BuildChecksUptoSaid : Prop := buildChecksUptoRow.holds Try.pinned (OpenSpec.upto buildChecksSpec)

/-- 'waltzerlaw08.BuildLacks', WHERE WHAT IT READS IS OF BULK AT MOST 1048576: true; the input reads as it did. -/
def buildLacksUptoRow : OpenClaim := { program := "ytjhphibadndkcaa", sum := "30fe3ccf75c13dcdee065c06c32c8f432d491a9c87b0deeb5706bf4371f08195", func := "waltzer/waltzerlaw08.BuildLacks", spec := "buildLacks", unfollowed := true, recurses := true, apart := false, narrowed := true }
def BuildLacksUptoSaid : Prop := buildLacksUptoRow.holds Try.pinned (OpenSpec.upto buildLacksSpec)

/-- 'waltzerlaw08.BuildStands', WHERE WHAT IT READS IS OF BULK AT MOST 1048576: true; the input reads as it did. -/
def buildStandsUptoRow : OpenClaim := { program := "ytjhphibadndkcaa", sum := "30fe3ccf75c13dcdee065c06c32c8f432d491a9c87b0deeb5706bf4371f08195", func := "waltzer/waltzerlaw08.BuildStands", spec := "buildStands", unfollowed := true, recurses := true, apart := false, narrowed := true }
def BuildStandsUptoSaid : Prop := buildStandsUptoRow.holds Try.pinned (OpenSpec.upto buildStandsSpec)

/-- 'waltzerlaw08.BuildPins', WHERE WHAT IT READS IS OF BULK AT MOST 1048576: true; the input reads as it did. -/
def buildPinsUptoRow : OpenClaim := { program := "ytjhphibadndkcaa", sum := "30fe3ccf75c13dcdee065c06c32c8f432d491a9c87b0deeb5706bf4371f08195", func := "waltzer/waltzerlaw08.BuildPins", spec := "buildPins", unfollowed := true, recurses := true, apart := false, narrowed := true }
def BuildPinsUptoSaid : Prop := buildPinsUptoRow.holds Try.pinned (OpenSpec.upto buildPinsSpec)

/-- 'waltzerlaw08.BuildPacks', WHERE WHAT IT READS IS OF BULK AT MOST 1048576: true; the input reads as it did. -/
def buildPacksUptoRow : OpenClaim := { program := "ytjhphibadndkcaa", sum := "30fe3ccf75c13dcdee065c06c32c8f432d491a9c87b0deeb5706bf4371f08195", func := "waltzer/waltzerlaw08.BuildPacks", spec := "buildPacks", unfollowed := true, recurses := true, apart := false, narrowed := true }
def BuildPacksUptoSaid : Prop := buildPacksUptoRow.holds Try.pinned (OpenSpec.upto buildPacksSpec)

/-- 'waltzerlaw08.BuildLoads', WHERE WHAT IT READS IS OF BULK AT MOST 1048576: true; the input reads as it did. -/
def buildLoadsUptoRow : OpenClaim := { program := "ytjhphibadndkcaa", sum := "30fe3ccf75c13dcdee065c06c32c8f432d491a9c87b0deeb5706bf4371f08195", func := "waltzer/waltzerlaw08.BuildLoads", spec := "buildLoads", unfollowed := true, recurses := true, apart := false, narrowed := true }
def BuildLoadsUptoSaid : Prop := buildLoadsUptoRow.holds Try.pinned (OpenSpec.upto buildLoadsSpec)

/-- 'waltzerlaw08.BuildLists', WHERE WHAT IT READS IS OF BULK AT MOST 1048576: true; the input reads as it did. -/
def buildListsUptoRow : OpenClaim := { program := "ytjhphibadndkcaa", sum := "30fe3ccf75c13dcdee065c06c32c8f432d491a9c87b0deeb5706bf4371f08195", func := "waltzer/waltzerlaw08.BuildLists", spec := "buildLists", unfollowed := true, recurses := true, apart := false, narrowed := true }
def BuildListsUptoSaid : Prop := buildListsUptoRow.holds Try.pinned (OpenSpec.upto buildListsSpec)

/-- 'waltzerlaw08.BuildBack', WHERE WHAT IT READS IS OF BULK AT MOST 1048576: true; the input reads as it did. -/
def buildBackUptoRow : OpenClaim := { program := "ytjhphibadndkcaa", sum := "30fe3ccf75c13dcdee065c06c32c8f432d491a9c87b0deeb5706bf4371f08195", func := "waltzer/waltzerlaw08.BuildBack", spec := "buildBack", unfollowed := true, recurses := true, apart := false, narrowed := true }
def BuildBackUptoSaid : Prop := buildBackUptoRow.holds Try.pinned (OpenSpec.upto buildBackSpec)

end Rows
end Go.Proofs.Ytjhphibadndkcaa
