/-
  No cell of these rows narrows 'for every input' (looked for: loops, veiled, ifaces, maps, wideKeys, modest, calm, conditions, laid).
  DERIVED. THE GIVEN ROWS OF THIS SEAT. 13 by the template 'for every input the law returns true; each argument reads behind the call as it read before'; 0 by the template 'total and deterministic' (their statements: YtjkchkjdpcnmkaaTotals.lean).
  GIVEN WITH THE SEED: the statements are not yours to turn. If you find one false, say at which input.
  Laid BY PROGRAM, IN A SANDBOX (cutbox-rows.mjs): the forced cells as the released guide's own fill.sh prints them over the translation 370abfad5ed9125b… (all of the seat's roots in one cut). By AI agents, Wed Nov 11 2026. No macro, syntax, notation, axiom, sorry.
-/
import Derived.Test.YtjkchkjdpcnmkaaChecked
import GoSem.Claim
import GoSem.ClaimJoined
import GoSem.ClaimMapViews
import Derived.JoinedTies
import Derived.KernelRfl
namespace Go.Proofs.Ytjkchkjdpcnmkaa
/- THE CELL 'sum', in the pinned program and in every row, IS THE sha256 OF THE DUMP (.gsa) THAT YtjkchkjdpcnmkaaProg.lean LOADS. Nothing in Lean hashes anything: it is a label: what it is worth is what the hold of that sum in a sandbox is worth. -/
noncomputable def Try.pinned : Pinned := { name := "ytjkchkjdpcnmkaa", sum := "370abfad5ed9125b6386249d7da5bb38548465f828d7de9e1c958c42dcb9cafc", checked := Try.checked }
namespace Rows
def none {H : Type} : Left H := { results := [], args := [] }

/-- 'waltzerlaw10.InspectChecks': WHATEVER THE INPUT: true; the input reads as it did. -/
def inspectChecksSpec : ChangeSpec := { name := "inspectChecks", fn := fun _ => fun
  | [d1, d2] => { results := [.lit (.bool true)], args := [d1, d2] }
  | _ => none }
def inspectChecksRow : OpenClaim := { program := "ytjkchkjdpcnmkaa", sum := "370abfad5ed9125b6386249d7da5bb38548465f828d7de9e1c958c42dcb9cafc", func := "waltzer/waltzerlaw10.InspectChecks", spec := "inspectChecks", unfollowed := true, recurses := true, apart := false }
def InspectChecksSaid : Prop := inspectChecksRow.holds Try.pinned (OpenSpec.ofChange inspectChecksSpec)

/-- ITS FALSE NEIGHBOUR: 'it returns false'. Refute it at one input. -/
def inspectChecksWrong : ChangeSpec := { name := "inspectChecks", fn := fun _ => fun
  | [d1, d2] => { results := [.lit (.bool false)], args := [d1, d2] }
  | _ => none }
def InspectChecksWrongFalsely : Prop := inspectChecksRow.holds Try.pinned (OpenSpec.ofChange inspectChecksWrong)

/-- 'waltzerlaw10.InspectMore': WHATEVER THE INPUT: true; the input reads as it did. -/
def inspectMoreSpec : ChangeSpec := { name := "inspectMore", fn := fun _ => fun
  | [d1, d2, d3] => { results := [.lit (.bool true)], args := [d1, d2, d3] }
  | _ => none }
def inspectMoreRow : OpenClaim := { program := "ytjkchkjdpcnmkaa", sum := "370abfad5ed9125b6386249d7da5bb38548465f828d7de9e1c958c42dcb9cafc", func := "waltzer/waltzerlaw10.InspectMore", spec := "inspectMore", unfollowed := true, recurses := true, apart := false }
def InspectMoreSaid : Prop := inspectMoreRow.holds Try.pinned (OpenSpec.ofChange inspectMoreSpec)

/-- ITS FALSE NEIGHBOUR: 'it returns false'. Refute it at one input. -/
def inspectMoreWrong : ChangeSpec := { name := "inspectMore", fn := fun _ => fun
  | [d1, d2, d3] => { results := [.lit (.bool false)], args := [d1, d2, d3] }
  | _ => none }
def InspectMoreWrongFalsely : Prop := inspectMoreRow.holds Try.pinned (OpenSpec.ofChange inspectMoreWrong)

/-- 'waltzerlaw10.InspectWhys': WHATEVER THE INPUT: true; the input reads as it did. -/
def inspectWhysSpec : ChangeSpec := { name := "inspectWhys", fn := fun _ => fun
  | [d1, d2, d3] => { results := [.lit (.bool true)], args := [d1, d2, d3] }
  | _ => none }
def inspectWhysRow : OpenClaim := { program := "ytjkchkjdpcnmkaa", sum := "370abfad5ed9125b6386249d7da5bb38548465f828d7de9e1c958c42dcb9cafc", func := "waltzer/waltzerlaw10.InspectWhys", spec := "inspectWhys", unfollowed := true, recurses := true, apart := false }
def InspectWhysSaid : Prop := inspectWhysRow.holds Try.pinned (OpenSpec.ofChange inspectWhysSpec)

/-- ITS FALSE NEIGHBOUR: 'it returns false'. Refute it at one input. -/
def inspectWhysWrong : ChangeSpec := { name := "inspectWhys", fn := fun _ => fun
  | [d1, d2, d3] => { results := [.lit (.bool false)], args := [d1, d2, d3] }
  | _ => none }
def InspectWhysWrongFalsely : Prop := inspectWhysRow.holds Try.pinned (OpenSpec.ofChange inspectWhysWrong)

/-- 'waltzerlaw10.InspectUntil': WHATEVER THE INPUT: true; the input reads as it did. -/
def inspectUntilSpec : ChangeSpec := { name := "inspectUntil", fn := fun _ => fun
  | [d1, d2, d3] => { results := [.lit (.bool true)], args := [d1, d2, d3] }
  | _ => none }
def inspectUntilRow : OpenClaim := { program := "ytjkchkjdpcnmkaa", sum := "370abfad5ed9125b6386249d7da5bb38548465f828d7de9e1c958c42dcb9cafc", func := "waltzer/waltzerlaw10.InspectUntil", spec := "inspectUntil", unfollowed := true, recurses := true, apart := false }
def InspectUntilSaid : Prop := inspectUntilRow.holds Try.pinned (OpenSpec.ofChange inspectUntilSpec)

/-- ITS FALSE NEIGHBOUR: 'it returns false'. Refute it at one input. -/
def inspectUntilWrong : ChangeSpec := { name := "inspectUntil", fn := fun _ => fun
  | [d1, d2, d3] => { results := [.lit (.bool false)], args := [d1, d2, d3] }
  | _ => none }
def InspectUntilWrongFalsely : Prop := inspectUntilRow.holds Try.pinned (OpenSpec.ofChange inspectUntilWrong)

/-- 'waltzerlaw10.InspectForce': WHATEVER THE INPUT: true; the input reads as it did. -/
def inspectForceSpec : ChangeSpec := { name := "inspectForce", fn := fun _ => fun
  | [d1, d2, d3] => { results := [.lit (.bool true)], args := [d1, d2, d3] }
  | _ => none }
def inspectForceRow : OpenClaim := { program := "ytjkchkjdpcnmkaa", sum := "370abfad5ed9125b6386249d7da5bb38548465f828d7de9e1c958c42dcb9cafc", func := "waltzer/waltzerlaw10.InspectForce", spec := "inspectForce", unfollowed := true, recurses := true, apart := false }
def InspectForceSaid : Prop := inspectForceRow.holds Try.pinned (OpenSpec.ofChange inspectForceSpec)

/-- ITS FALSE NEIGHBOUR: 'it returns false'. Refute it at one input. -/
def inspectForceWrong : ChangeSpec := { name := "inspectForce", fn := fun _ => fun
  | [d1, d2, d3] => { results := [.lit (.bool false)], args := [d1, d2, d3] }
  | _ => none }
def InspectForceWrongFalsely : Prop := inspectForceRow.holds Try.pinned (OpenSpec.ofChange inspectForceWrong)

/-- 'waltzerlaw10.InspectReleased': WHATEVER THE INPUT: true; the input reads as it did. -/
def inspectReleasedSpec : ChangeSpec := { name := "inspectReleased", fn := fun _ => fun
  | [d1, d2, d3] => { results := [.lit (.bool true)], args := [d1, d2, d3] }
  | _ => none }
def inspectReleasedRow : OpenClaim := { program := "ytjkchkjdpcnmkaa", sum := "370abfad5ed9125b6386249d7da5bb38548465f828d7de9e1c958c42dcb9cafc", func := "waltzer/waltzerlaw10.InspectReleased", spec := "inspectReleased", unfollowed := true, recurses := true, apart := false }
def InspectReleasedSaid : Prop := inspectReleasedRow.holds Try.pinned (OpenSpec.ofChange inspectReleasedSpec)

/-- ITS FALSE NEIGHBOUR: 'it returns false'. Refute it at one input. -/
def inspectReleasedWrong : ChangeSpec := { name := "inspectReleased", fn := fun _ => fun
  | [d1, d2, d3] => { results := [.lit (.bool false)], args := [d1, d2, d3] }
  | _ => none }
def InspectReleasedWrongFalsely : Prop := inspectReleasedRow.holds Try.pinned (OpenSpec.ofChange inspectReleasedWrong)

/-- 'waltzerlaw10.InspectDays': WHATEVER THE INPUT: true; the input reads as it did. -/
def inspectDaysSpec : ChangeSpec := { name := "inspectDays", fn := fun _ => fun
  | [d1, d2, d3] => { results := [.lit (.bool true)], args := [d1, d2, d3] }
  | _ => none }
def inspectDaysRow : OpenClaim := { program := "ytjkchkjdpcnmkaa", sum := "370abfad5ed9125b6386249d7da5bb38548465f828d7de9e1c958c42dcb9cafc", func := "waltzer/waltzerlaw10.InspectDays", spec := "inspectDays", unfollowed := true, recurses := true, apart := false }
def InspectDaysSaid : Prop := inspectDaysRow.holds Try.pinned (OpenSpec.ofChange inspectDaysSpec)

/-- ITS FALSE NEIGHBOUR: 'it returns false'. Refute it at one input. -/
def inspectDaysWrong : ChangeSpec := { name := "inspectDays", fn := fun _ => fun
  | [d1, d2, d3] => { results := [.lit (.bool false)], args := [d1, d2, d3] }
  | _ => none }
def InspectDaysWrongFalsely : Prop := inspectDaysRow.holds Try.pinned (OpenSpec.ofChange inspectDaysWrong)

/-- 'waltzerlaw10.InspectVisits': WHATEVER THE INPUT: true; the input reads as it did. -/
def inspectVisitsSpec : ChangeSpec := { name := "inspectVisits", fn := fun _ => fun
  | [d1, d2] => { results := [.lit (.bool true)], args := [d1, d2] }
  | _ => none }
def inspectVisitsRow : OpenClaim := { program := "ytjkchkjdpcnmkaa", sum := "370abfad5ed9125b6386249d7da5bb38548465f828d7de9e1c958c42dcb9cafc", func := "waltzer/waltzerlaw10.InspectVisits", spec := "inspectVisits", unfollowed := true, recurses := true, apart := false }
def InspectVisitsSaid : Prop := inspectVisitsRow.holds Try.pinned (OpenSpec.ofChange inspectVisitsSpec)

/-- ITS FALSE NEIGHBOUR: 'it returns false'. Refute it at one input. -/
def inspectVisitsWrong : ChangeSpec := { name := "inspectVisits", fn := fun _ => fun
  | [d1, d2] => { results := [.lit (.bool false)], args := [d1, d2] }
  | _ => none }
def InspectVisitsWrongFalsely : Prop := inspectVisitsRow.holds Try.pinned (OpenSpec.ofChange inspectVisitsWrong)

/-- 'waltzerlaw10.InspectSigns': WHATEVER THE INPUT: true; the input reads as it did. -/
def inspectSignsSpec : ChangeSpec := { name := "inspectSigns", fn := fun _ => fun
  | [d1, d2] => { results := [.lit (.bool true)], args := [d1, d2] }
  | _ => none }
def inspectSignsRow : OpenClaim := { program := "ytjkchkjdpcnmkaa", sum := "370abfad5ed9125b6386249d7da5bb38548465f828d7de9e1c958c42dcb9cafc", func := "waltzer/waltzerlaw10.InspectSigns", spec := "inspectSigns", unfollowed := true, recurses := true, apart := false }
def InspectSignsSaid : Prop := inspectSignsRow.holds Try.pinned (OpenSpec.ofChange inspectSignsSpec)

/-- ITS FALSE NEIGHBOUR: 'it returns false'. Refute it at one input. -/
def inspectSignsWrong : ChangeSpec := { name := "inspectSigns", fn := fun _ => fun
  | [d1, d2] => { results := [.lit (.bool false)], args := [d1, d2] }
  | _ => none }
def InspectSignsWrongFalsely : Prop := inspectSignsRow.holds Try.pinned (OpenSpec.ofChange inspectSignsWrong)

/-- 'waltzerlaw10.InspectFewest': WHATEVER THE INPUT: true; the input reads as it did. -/
def inspectFewestSpec : ChangeSpec := { name := "inspectFewest", fn := fun _ => fun
  | [d1, d2, d3] => { results := [.lit (.bool true)], args := [d1, d2, d3] }
  | _ => none }
def inspectFewestRow : OpenClaim := { program := "ytjkchkjdpcnmkaa", sum := "370abfad5ed9125b6386249d7da5bb38548465f828d7de9e1c958c42dcb9cafc", func := "waltzer/waltzerlaw10.InspectFewest", spec := "inspectFewest", unfollowed := true, recurses := true, apart := false }
def InspectFewestSaid : Prop := inspectFewestRow.holds Try.pinned (OpenSpec.ofChange inspectFewestSpec)

/-- ITS FALSE NEIGHBOUR: 'it returns false'. Refute it at one input. -/
def inspectFewestWrong : ChangeSpec := { name := "inspectFewest", fn := fun _ => fun
  | [d1, d2, d3] => { results := [.lit (.bool false)], args := [d1, d2, d3] }
  | _ => none }
def InspectFewestWrongFalsely : Prop := inspectFewestRow.holds Try.pinned (OpenSpec.ofChange inspectFewestWrong)

/-- 'waltzerlaw10.InspectAfter': WHATEVER THE INPUT: true; the input reads as it did. -/
def inspectAfterSpec : ChangeSpec := { name := "inspectAfter", fn := fun _ => fun
  | [d1, d2, d3] => { results := [.lit (.bool true)], args := [d1, d2, d3] }
  | _ => none }
def inspectAfterRow : OpenClaim := { program := "ytjkchkjdpcnmkaa", sum := "370abfad5ed9125b6386249d7da5bb38548465f828d7de9e1c958c42dcb9cafc", func := "waltzer/waltzerlaw10.InspectAfter", spec := "inspectAfter", unfollowed := true, recurses := true, apart := false }
def InspectAfterSaid : Prop := inspectAfterRow.holds Try.pinned (OpenSpec.ofChange inspectAfterSpec)

/-- ITS FALSE NEIGHBOUR: 'it returns false'. Refute it at one input. -/
def inspectAfterWrong : ChangeSpec := { name := "inspectAfter", fn := fun _ => fun
  | [d1, d2, d3] => { results := [.lit (.bool false)], args := [d1, d2, d3] }
  | _ => none }
def InspectAfterWrongFalsely : Prop := inspectAfterRow.holds Try.pinned (OpenSpec.ofChange inspectAfterWrong)

/-- 'waltzerlaw10.InspectSeals': WHATEVER THE INPUT: true; the input reads as it did. -/
def inspectSealsSpec : ChangeSpec := { name := "inspectSeals", fn := fun _ => fun
  | [d1, d2, d3] => { results := [.lit (.bool true)], args := [d1, d2, d3] }
  | _ => none }
def inspectSealsRow : OpenClaim := { program := "ytjkchkjdpcnmkaa", sum := "370abfad5ed9125b6386249d7da5bb38548465f828d7de9e1c958c42dcb9cafc", func := "waltzer/waltzerlaw10.InspectSeals", spec := "inspectSeals", unfollowed := true, recurses := true, apart := false }
def InspectSealsSaid : Prop := inspectSealsRow.holds Try.pinned (OpenSpec.ofChange inspectSealsSpec)

/-- ITS FALSE NEIGHBOUR: 'it returns false'. Refute it at one input. -/
def inspectSealsWrong : ChangeSpec := { name := "inspectSeals", fn := fun _ => fun
  | [d1, d2, d3] => { results := [.lit (.bool false)], args := [d1, d2, d3] }
  | _ => none }
def InspectSealsWrongFalsely : Prop := inspectSealsRow.holds Try.pinned (OpenSpec.ofChange inspectSealsWrong)

/-- 'waltzerlaw10.InspectChanged': WHATEVER THE INPUT: true; the input reads as it did. -/
def inspectChangedSpec : ChangeSpec := { name := "inspectChanged", fn := fun _ => fun
  | [d1, d2, d3] => { results := [.lit (.bool true)], args := [d1, d2, d3] }
  | _ => none }
def inspectChangedRow : OpenClaim := { program := "ytjkchkjdpcnmkaa", sum := "370abfad5ed9125b6386249d7da5bb38548465f828d7de9e1c958c42dcb9cafc", func := "waltzer/waltzerlaw10.InspectChanged", spec := "inspectChanged", unfollowed := true, recurses := true, apart := false }
def InspectChangedSaid : Prop := inspectChangedRow.holds Try.pinned (OpenSpec.ofChange inspectChangedSpec)

/-- ITS FALSE NEIGHBOUR: 'it returns false'. Refute it at one input. -/
def inspectChangedWrong : ChangeSpec := { name := "inspectChanged", fn := fun _ => fun
  | [d1, d2, d3] => { results := [.lit (.bool false)], args := [d1, d2, d3] }
  | _ => none }
def InspectChangedWrongFalsely : Prop := inspectChangedRow.holds Try.pinned (OpenSpec.ofChange inspectChangedWrong)

/- THE SECOND FORM. 'bulk': how many values and letters a reading holds, each counted each time it is reached (what is shared counts as often as it is met; a slice's spare places count too). A statement '..UptoSaid' is the law's where the arguments, and the package variables that the reading takes, are together of bulk at most 1048576: NARROWER than '..Said'. Prove '..Said' where nothing that the law and all that it calls make is longer than what came in: it says more and counts as full. Else prove '..UptoSaid'. A law counts once. -/
mutual
def uptoBulk {H : Type} : DataW H → Nat
  | .lit (.string bytes) => bytes.length + 1
  | .lit _ => 1
  | .nil => 1
  | .ptr d => uptoBulk d + 1
  | .slice elems spare => uptoBulkAll elems + uptoBulkAll spare + 1
  | .agg parts => uptoBulkAll parts + 1
  | .iface _ d => uptoBulk d + 1
  | .map entries => uptoBulkEntries entries + 1
  | .held _ => 1
def uptoBulkAll {H : Type} : List (DataW H) → Nat
  | [] => 0
  | d :: r => uptoBulk d + uptoBulkAll r
def uptoBulkEntries {H : Type} : List (Lit × DataW H) → Nat
  | [] => 0
  | x :: r => uptoBulkEntry x + uptoBulkEntries r
def uptoBulkEntry {H : Type} : Lit × DataW H → Nat
  | (.string bytes, d) => bytes.length + uptoBulk d + 1
  | (_, d) => uptoBulk d + 1
 end
def uptoSmall : (H : Type) → List (DataW H) → Bool := fun _ ds => decide (uptoBulkAll ds ≤ 1048576)
def OpenSpec.upto (s : _root_.Go.ChangeSpec) : _root_.Go.OpenSpec := { _root_.Go.OpenSpec.ofChange s with cond := some uptoSmall }

/-- 'waltzerlaw10.InspectChecks', WHERE WHAT IT READS IS OF BULK AT MOST 1048576: true; the input reads as it did. -/
def inspectChecksUptoRow : OpenClaim := { program := "ytjkchkjdpcnmkaa", sum := "370abfad5ed9125b6386249d7da5bb38548465f828d7de9e1c958c42dcb9cafc", func := "waltzer/waltzerlaw10.InspectChecks", spec := "inspectChecks", unfollowed := true, recurses := true, apart := false, narrowed := true }
def InspectChecksUptoSaid : Prop := inspectChecksUptoRow.holds Try.pinned (OpenSpec.upto inspectChecksSpec)

/-- 'waltzerlaw10.InspectMore', WHERE WHAT IT READS IS OF BULK AT MOST 1048576: true; the input reads as it did. -/
def inspectMoreUptoRow : OpenClaim := { program := "ytjkchkjdpcnmkaa", sum := "370abfad5ed9125b6386249d7da5bb38548465f828d7de9e1c958c42dcb9cafc", func := "waltzer/waltzerlaw10.InspectMore", spec := "inspectMore", unfollowed := true, recurses := true, apart := false, narrowed := true }
def InspectMoreUptoSaid : Prop := inspectMoreUptoRow.holds Try.pinned (OpenSpec.upto inspectMoreSpec)

/-- 'waltzerlaw10.InspectWhys', WHERE WHAT IT READS IS OF BULK AT MOST 1048576: true; the input reads as it did. -/
def inspectWhysUptoRow : OpenClaim := { program := "ytjkchkjdpcnmkaa", sum := "370abfad5ed9125b6386249d7da5bb38548465f828d7de9e1c958c42dcb9cafc", func := "waltzer/waltzerlaw10.InspectWhys", spec := "inspectWhys", unfollowed := true, recurses := true, apart := false, narrowed := true }
def InspectWhysUptoSaid : Prop := inspectWhysUptoRow.holds Try.pinned (OpenSpec.upto inspectWhysSpec)

/-- 'waltzerlaw10.InspectUntil', WHERE WHAT IT READS IS OF BULK AT MOST 1048576: true; the input reads as it did. -/
def inspectUntilUptoRow : OpenClaim := { program := "ytjkchkjdpcnmkaa", sum := "370abfad5ed9125b6386249d7da5bb38548465f828d7de9e1c958c42dcb9cafc", func := "waltzer/waltzerlaw10.InspectUntil", spec := "inspectUntil", unfollowed := true, recurses := true, apart := false, narrowed := true }
def InspectUntilUptoSaid : Prop := inspectUntilUptoRow.holds Try.pinned (OpenSpec.upto inspectUntilSpec)

/-- 'waltzerlaw10.InspectForce', WHERE WHAT IT READS IS OF BULK AT MOST 1048576: true; the input reads as it did. -/
def inspectForceUptoRow : OpenClaim := { program := "ytjkchkjdpcnmkaa", sum := "370abfad5ed9125b6386249d7da5bb38548465f828d7de9e1c958c42dcb9cafc", func := "waltzer/waltzerlaw10.InspectForce", spec := "inspectForce", unfollowed := true, recurses := true, apart := false, narrowed := true }
def InspectForceUptoSaid : Prop := inspectForceUptoRow.holds Try.pinned (OpenSpec.upto inspectForceSpec)

/-- 'waltzerlaw10.InspectReleased', WHERE WHAT IT READS IS OF BULK AT MOST 1048576: true; the input reads as it did. -/
def inspectReleasedUptoRow : OpenClaim := { program := "ytjkchkjdpcnmkaa", sum := "370abfad5ed9125b6386249d7da5bb38548465f828d7de9e1c958c42dcb9cafc", func := "waltzer/waltzerlaw10.InspectReleased", spec := "inspectReleased", unfollowed := true, recurses := true, apart := false, narrowed := true }
def InspectReleasedUptoSaid : Prop := inspectReleasedUptoRow.holds Try.pinned (OpenSpec.upto inspectReleasedSpec)

/-- 'waltzerlaw10.InspectDays', WHERE WHAT IT READS IS OF BULK AT MOST 1048576: true; the input reads as it did. -/
def inspectDaysUptoRow : OpenClaim := { program := "ytjkchkjdpcnmkaa", sum := "370abfad5ed9125b6386249d7da5bb38548465f828d7de9e1c958c42dcb9cafc", func := "waltzer/waltzerlaw10.InspectDays", spec := "inspectDays", unfollowed := true, recurses := true, apart := false, narrowed := true }
def InspectDaysUptoSaid : Prop := inspectDaysUptoRow.holds Try.pinned (OpenSpec.upto inspectDaysSpec)

/-- 'waltzerlaw10.InspectVisits', WHERE WHAT IT READS IS OF BULK AT MOST 1048576: true; the input reads as it did. -/
def inspectVisitsUptoRow : OpenClaim := { program := "ytjkchkjdpcnmkaa", sum := "370abfad5ed9125b6386249d7da5bb38548465f828d7de9e1c958c42dcb9cafc", func := "waltzer/waltzerlaw10.InspectVisits", spec := "inspectVisits", unfollowed := true, recurses := true, apart := false, narrowed := true }
def InspectVisitsUptoSaid : Prop := inspectVisitsUptoRow.holds Try.pinned (OpenSpec.upto inspectVisitsSpec)

/-- 'waltzerlaw10.InspectSigns', WHERE WHAT IT READS IS OF BULK AT MOST 1048576: true; the input reads as it did. -/
def inspectSignsUptoRow : OpenClaim := { program := "ytjkchkjdpcnmkaa", sum := "370abfad5ed9125b6386249d7da5bb38548465f828d7de9e1c958c42dcb9cafc", func := "waltzer/waltzerlaw10.InspectSigns", spec := "inspectSigns", unfollowed := true, recurses := true, apart := false, narrowed := true }
def InspectSignsUptoSaid : Prop := inspectSignsUptoRow.holds Try.pinned (OpenSpec.upto inspectSignsSpec)

/-- 'waltzerlaw10.InspectFewest', WHERE WHAT IT READS IS OF BULK AT MOST 1048576: true; the input reads as it did. -/
def inspectFewestUptoRow : OpenClaim := { program := "ytjkchkjdpcnmkaa", sum := "370abfad5ed9125b6386249d7da5bb38548465f828d7de9e1c958c42dcb9cafc", func := "waltzer/waltzerlaw10.InspectFewest", spec := "inspectFewest", unfollowed := true, recurses := true, apart := false, narrowed := true }
def InspectFewestUptoSaid : Prop := inspectFewestUptoRow.holds Try.pinned (OpenSpec.upto inspectFewestSpec)

/-- 'waltzerlaw10.InspectAfter', WHERE WHAT IT READS IS OF BULK AT MOST 1048576: true; the input reads as it did. -/
def inspectAfterUptoRow : OpenClaim := { program := "ytjkchkjdpcnmkaa", sum := "370abfad5ed9125b6386249d7da5bb38548465f828d7de9e1c958c42dcb9cafc", func := "waltzer/waltzerlaw10.InspectAfter", spec := "inspectAfter", unfollowed := true, recurses := true, apart := false, narrowed := true }
def InspectAfterUptoSaid : Prop := inspectAfterUptoRow.holds Try.pinned (OpenSpec.upto inspectAfterSpec)

/-- 'waltzerlaw10.InspectSeals', WHERE WHAT IT READS IS OF BULK AT MOST 1048576: true; the input reads as it did. -/
def inspectSealsUptoRow : OpenClaim := { program := "ytjkchkjdpcnmkaa", sum := "370abfad5ed9125b6386249d7da5bb38548465f828d7de9e1c958c42dcb9cafc", func := "waltzer/waltzerlaw10.InspectSeals", spec := "inspectSeals", unfollowed := true, recurses := true, apart := false, narrowed := true }
def InspectSealsUptoSaid : Prop := inspectSealsUptoRow.holds Try.pinned (OpenSpec.upto inspectSealsSpec)

/-- 'waltzerlaw10.InspectChanged', WHERE WHAT IT READS IS OF BULK AT MOST 1048576: true; the input reads as it did. -/
def inspectChangedUptoRow : OpenClaim := { program := "ytjkchkjdpcnmkaa", sum := "370abfad5ed9125b6386249d7da5bb38548465f828d7de9e1c958c42dcb9cafc", func := "waltzer/waltzerlaw10.InspectChanged", spec := "inspectChanged", unfollowed := true, recurses := true, apart := false, narrowed := true }
def InspectChangedUptoSaid : Prop := inspectChangedUptoRow.holds Try.pinned (OpenSpec.upto inspectChangedSpec)

end Rows
end Go.Proofs.Ytjkchkjdpcnmkaa
