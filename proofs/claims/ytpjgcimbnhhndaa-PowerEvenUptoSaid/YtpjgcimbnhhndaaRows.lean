/-
  No cell of these rows narrows 'for every input' (looked for: loops, veiled, ifaces, maps, wideKeys, modest, calm, conditions, laid).
  DERIVED. THE GIVEN ROWS OF THIS SEAT. 14 by the template 'for every input the law returns true; each argument reads behind the call as it read before'; 0 by the template 'total and deterministic' (their statements: YtpjgcimbnhhndaaTotals.lean).
  GIVEN WITH THE SEED: the statements are not yours to turn. If you find one false, say at which input.
  Laid BY PROGRAM, IN A SANDBOX (cutbox-rows.mjs): the forced cells as the released guide's own fill.sh prints them over the translation 93607ea6d402ef2f… (all of the seat's roots in one cut). By AI agents, Wed Nov 11 2026. No macro, syntax, notation, axiom, sorry.
-/
import Derived.Test.YtpjgcimbnhhndaaChecked
import GoSem.Claim
import GoSem.ClaimJoined
import GoSem.ClaimMapViews
import Derived.JoinedTies
import Derived.KernelRfl
namespace Go.Proofs.Ytpjgcimbnhhndaa
/- THE CELL 'sum', in the pinned program and in every row, IS THE sha256 OF THE DUMP (.gsa) THAT YtpjgcimbnhhndaaProg.lean LOADS. Nothing in Lean hashes anything: it is a label: what it is worth is what the hold of that sum in a sandbox is worth. -/
noncomputable def Try.pinned : Pinned := { name := "ytpjgcimbnhhndaa", sum := "93607ea6d402ef2fccd39fa8df109b81041f5887a6f12f3b35c9e238ac05aeea", checked := Try.checked }
namespace Rows
def none {H : Type} : Left H := { results := [], args := [] }

/-- 'waltzerlaw05.PowerSheds': WHATEVER THE INPUT: true; the input reads as it did. -/
def powerShedsSpec : ChangeSpec := { name := "powerSheds", fn := fun _ => fun
  | [d1, d2] => { results := [.lit (.bool true)], args := [d1, d2] }
  | _ => none }
def powerShedsRow : OpenClaim := { program := "ytpjgcimbnhhndaa", sum := "93607ea6d402ef2fccd39fa8df109b81041f5887a6f12f3b35c9e238ac05aeea", func := "waltzer/waltzerlaw05.PowerSheds", spec := "powerSheds", inPlace := ["slices.overlaps[int]"], unfollowed := true, recurses := true, apart := false }
def PowerShedsSaid : Prop := powerShedsRow.holds Try.pinned (OpenSpec.ofChange powerShedsSpec)

/-- ITS FALSE NEIGHBOUR: 'it returns false'. Refute it at one input. -/
def powerShedsWrong : ChangeSpec := { name := "powerSheds", fn := fun _ => fun
  | [d1, d2] => { results := [.lit (.bool false)], args := [d1, d2] }
  | _ => none }
def PowerShedsWrongFalsely : Prop := powerShedsRow.holds Try.pinned (OpenSpec.ofChange powerShedsWrong)

/-- 'waltzerlaw05.PowerLong': WHATEVER THE INPUT: true; the input reads as it did. -/
def powerLongSpec : ChangeSpec := { name := "powerLong", fn := fun _ => fun
  | [d1, d2, d3] => { results := [.lit (.bool true)], args := [d1, d2, d3] }
  | _ => none }
def powerLongRow : OpenClaim := { program := "ytpjgcimbnhhndaa", sum := "93607ea6d402ef2fccd39fa8df109b81041f5887a6f12f3b35c9e238ac05aeea", func := "waltzer/waltzerlaw05.PowerLong", spec := "powerLong", inPlace := ["slices.overlaps[int]"], unfollowed := true, recurses := true, apart := false }
def PowerLongSaid : Prop := powerLongRow.holds Try.pinned (OpenSpec.ofChange powerLongSpec)

/-- ITS FALSE NEIGHBOUR: 'it returns false'. Refute it at one input. -/
def powerLongWrong : ChangeSpec := { name := "powerLong", fn := fun _ => fun
  | [d1, d2, d3] => { results := [.lit (.bool false)], args := [d1, d2, d3] }
  | _ => none }
def PowerLongWrongFalsely : Prop := powerLongRow.holds Try.pinned (OpenSpec.ofChange powerLongWrong)

/-- 'waltzerlaw05.PowerPlays': WHATEVER THE INPUT: true; the input reads as it did. -/
def powerPlaysSpec : ChangeSpec := { name := "powerPlays", fn := fun _ => fun
  | [d1, d2, d3] => { results := [.lit (.bool true)], args := [d1, d2, d3] }
  | _ => none }
def powerPlaysRow : OpenClaim := { program := "ytpjgcimbnhhndaa", sum := "93607ea6d402ef2fccd39fa8df109b81041f5887a6f12f3b35c9e238ac05aeea", func := "waltzer/waltzerlaw05.PowerPlays", spec := "powerPlays", inPlace := ["slices.overlaps[int]"], unfollowed := true, recurses := true, apart := false }
def PowerPlaysSaid : Prop := powerPlaysRow.holds Try.pinned (OpenSpec.ofChange powerPlaysSpec)

/-- ITS FALSE NEIGHBOUR: 'it returns false'. Refute it at one input. -/
def powerPlaysWrong : ChangeSpec := { name := "powerPlays", fn := fun _ => fun
  | [d1, d2, d3] => { results := [.lit (.bool false)], args := [d1, d2, d3] }
  | _ => none }
def PowerPlaysWrongFalsely : Prop := powerPlaysRow.holds Try.pinned (OpenSpec.ofChange powerPlaysWrong)

/-- 'waltzerlaw05.PowerNearest': WHATEVER THE INPUT: true; the input reads as it did. -/
def powerNearestSpec : ChangeSpec := { name := "powerNearest", fn := fun _ => fun
  | [d1, d2, d3] => { results := [.lit (.bool true)], args := [d1, d2, d3] }
  | _ => none }
def powerNearestRow : OpenClaim := { program := "ytpjgcimbnhhndaa", sum := "93607ea6d402ef2fccd39fa8df109b81041f5887a6f12f3b35c9e238ac05aeea", func := "waltzer/waltzerlaw05.PowerNearest", spec := "powerNearest", inPlace := ["slices.overlaps[int]"], unfollowed := true, recurses := true, apart := false }
def PowerNearestSaid : Prop := powerNearestRow.holds Try.pinned (OpenSpec.ofChange powerNearestSpec)

/-- ITS FALSE NEIGHBOUR: 'it returns false'. Refute it at one input. -/
def powerNearestWrong : ChangeSpec := { name := "powerNearest", fn := fun _ => fun
  | [d1, d2, d3] => { results := [.lit (.bool false)], args := [d1, d2, d3] }
  | _ => none }
def PowerNearestWrongFalsely : Prop := powerNearestRow.holds Try.pinned (OpenSpec.ofChange powerNearestWrong)

/-- 'waltzerlaw05.PowerLeast': WHATEVER THE INPUT: true; the input reads as it did. -/
def powerLeastSpec : ChangeSpec := { name := "powerLeast", fn := fun _ => fun
  | [d1, d2, d3] => { results := [.lit (.bool true)], args := [d1, d2, d3] }
  | _ => none }
def powerLeastRow : OpenClaim := { program := "ytpjgcimbnhhndaa", sum := "93607ea6d402ef2fccd39fa8df109b81041f5887a6f12f3b35c9e238ac05aeea", func := "waltzer/waltzerlaw05.PowerLeast", spec := "powerLeast", inPlace := ["slices.overlaps[int]"], unfollowed := true, recurses := true, apart := false }
def PowerLeastSaid : Prop := powerLeastRow.holds Try.pinned (OpenSpec.ofChange powerLeastSpec)

/-- ITS FALSE NEIGHBOUR: 'it returns false'. Refute it at one input. -/
def powerLeastWrong : ChangeSpec := { name := "powerLeast", fn := fun _ => fun
  | [d1, d2, d3] => { results := [.lit (.bool false)], args := [d1, d2, d3] }
  | _ => none }
def PowerLeastWrongFalsely : Prop := powerLeastRow.holds Try.pinned (OpenSpec.ofChange powerLeastWrong)

/-- 'waltzerlaw05.PowerRuns': WHATEVER THE INPUT: true; the input reads as it did. -/
def powerRunsSpec : ChangeSpec := { name := "powerRuns", fn := fun _ => fun
  | [d1, d2, d3] => { results := [.lit (.bool true)], args := [d1, d2, d3] }
  | _ => none }
def powerRunsRow : OpenClaim := { program := "ytpjgcimbnhhndaa", sum := "93607ea6d402ef2fccd39fa8df109b81041f5887a6f12f3b35c9e238ac05aeea", func := "waltzer/waltzerlaw05.PowerRuns", spec := "powerRuns", inPlace := ["slices.overlaps[int]"], unfollowed := true, recurses := true, apart := false }
def PowerRunsSaid : Prop := powerRunsRow.holds Try.pinned (OpenSpec.ofChange powerRunsSpec)

/-- ITS FALSE NEIGHBOUR: 'it returns false'. Refute it at one input. -/
def powerRunsWrong : ChangeSpec := { name := "powerRuns", fn := fun _ => fun
  | [d1, d2, d3] => { results := [.lit (.bool false)], args := [d1, d2, d3] }
  | _ => none }
def PowerRunsWrongFalsely : Prop := powerRunsRow.holds Try.pinned (OpenSpec.ofChange powerRunsWrong)

/-- 'waltzerlaw05.PowerSums': WHATEVER THE INPUT: true; the input reads as it did. -/
def powerSumsSpec : ChangeSpec := { name := "powerSums", fn := fun _ => fun
  | [d1, d2, d3] => { results := [.lit (.bool true)], args := [d1, d2, d3] }
  | _ => none }
def powerSumsRow : OpenClaim := { program := "ytpjgcimbnhhndaa", sum := "93607ea6d402ef2fccd39fa8df109b81041f5887a6f12f3b35c9e238ac05aeea", func := "waltzer/waltzerlaw05.PowerSums", spec := "powerSums", inPlace := ["slices.overlaps[int]"], unfollowed := true, recurses := true, apart := false }
def PowerSumsSaid : Prop := powerSumsRow.holds Try.pinned (OpenSpec.ofChange powerSumsSpec)

/-- ITS FALSE NEIGHBOUR: 'it returns false'. Refute it at one input. -/
def powerSumsWrong : ChangeSpec := { name := "powerSums", fn := fun _ => fun
  | [d1, d2, d3] => { results := [.lit (.bool false)], args := [d1, d2, d3] }
  | _ => none }
def PowerSumsWrongFalsely : Prop := powerSumsRow.holds Try.pinned (OpenSpec.ofChange powerSumsWrong)

/-- 'waltzerlaw05.PowerMargin': WHATEVER THE INPUT: true; the input reads as it did. -/
def powerMarginSpec : ChangeSpec := { name := "powerMargin", fn := fun _ => fun
  | [d1, d2, d3] => { results := [.lit (.bool true)], args := [d1, d2, d3] }
  | _ => none }
def powerMarginRow : OpenClaim := { program := "ytpjgcimbnhhndaa", sum := "93607ea6d402ef2fccd39fa8df109b81041f5887a6f12f3b35c9e238ac05aeea", func := "waltzer/waltzerlaw05.PowerMargin", spec := "powerMargin", inPlace := ["slices.overlaps[int]"], unfollowed := true, recurses := true, apart := false }
def PowerMarginSaid : Prop := powerMarginRow.holds Try.pinned (OpenSpec.ofChange powerMarginSpec)

/-- ITS FALSE NEIGHBOUR: 'it returns false'. Refute it at one input. -/
def powerMarginWrong : ChangeSpec := { name := "powerMargin", fn := fun _ => fun
  | [d1, d2, d3] => { results := [.lit (.bool false)], args := [d1, d2, d3] }
  | _ => none }
def PowerMarginWrongFalsely : Prop := powerMarginRow.holds Try.pinned (OpenSpec.ofChange powerMarginWrong)

/-- 'waltzerlaw05.PowerShares': WHATEVER THE INPUT: true; the input reads as it did. -/
def powerSharesSpec : ChangeSpec := { name := "powerShares", fn := fun _ => fun
  | [d] => { results := [.lit (.bool true)], args := [d] }
  | _ => none }
def powerSharesRow : OpenClaim := { program := "ytpjgcimbnhhndaa", sum := "93607ea6d402ef2fccd39fa8df109b81041f5887a6f12f3b35c9e238ac05aeea", func := "waltzer/waltzerlaw05.PowerShares", spec := "powerShares", inPlace := ["slices.overlaps[int]"], unfollowed := true, recurses := true, apart := false }
def PowerSharesSaid : Prop := powerSharesRow.holds Try.pinned (OpenSpec.ofChange powerSharesSpec)

/-- ITS FALSE NEIGHBOUR: 'it returns false'. Refute it at one input. -/
def powerSharesWrong : ChangeSpec := { name := "powerShares", fn := fun _ => fun
  | [d] => { results := [.lit (.bool false)], args := [d] }
  | _ => none }
def PowerSharesWrongFalsely : Prop := powerSharesRow.holds Try.pinned (OpenSpec.ofChange powerSharesWrong)

/-- 'waltzerlaw05.PowerEven': WHATEVER THE INPUT: true; the input reads as it did. -/
def powerEvenSpec : ChangeSpec := { name := "powerEven", fn := fun _ => fun
  | [d1, d2] => { results := [.lit (.bool true)], args := [d1, d2] }
  | _ => none }
def powerEvenRow : OpenClaim := { program := "ytpjgcimbnhhndaa", sum := "93607ea6d402ef2fccd39fa8df109b81041f5887a6f12f3b35c9e238ac05aeea", func := "waltzer/waltzerlaw05.PowerEven", spec := "powerEven", inPlace := ["slices.overlaps[int]"], unfollowed := true, recurses := true, apart := false }
def PowerEvenSaid : Prop := powerEvenRow.holds Try.pinned (OpenSpec.ofChange powerEvenSpec)

/-- ITS FALSE NEIGHBOUR: 'it returns false'. Refute it at one input. -/
def powerEvenWrong : ChangeSpec := { name := "powerEven", fn := fun _ => fun
  | [d1, d2] => { results := [.lit (.bool false)], args := [d1, d2] }
  | _ => none }
def PowerEvenWrongFalsely : Prop := powerEvenRow.holds Try.pinned (OpenSpec.ofChange powerEvenWrong)

/-- 'waltzerlaw05.PowerAmps': WHATEVER THE INPUT: true; the input reads as it did. -/
def powerAmpsSpec : ChangeSpec := { name := "powerAmps", fn := fun _ => fun
  | [d1, d2, d3] => { results := [.lit (.bool true)], args := [d1, d2, d3] }
  | _ => none }
def powerAmpsRow : OpenClaim := { program := "ytpjgcimbnhhndaa", sum := "93607ea6d402ef2fccd39fa8df109b81041f5887a6f12f3b35c9e238ac05aeea", func := "waltzer/waltzerlaw05.PowerAmps", spec := "powerAmps", inPlace := ["slices.overlaps[int]"], unfollowed := true, recurses := true, apart := false }
def PowerAmpsSaid : Prop := powerAmpsRow.holds Try.pinned (OpenSpec.ofChange powerAmpsSpec)

/-- ITS FALSE NEIGHBOUR: 'it returns false'. Refute it at one input. -/
def powerAmpsWrong : ChangeSpec := { name := "powerAmps", fn := fun _ => fun
  | [d1, d2, d3] => { results := [.lit (.bool false)], args := [d1, d2, d3] }
  | _ => none }
def PowerAmpsWrongFalsely : Prop := powerAmpsRow.holds Try.pinned (OpenSpec.ofChange powerAmpsWrong)

/-- 'waltzerlaw05.PowerLists': WHATEVER THE INPUT: true; the input reads as it did. -/
def powerListsSpec : ChangeSpec := { name := "powerLists", fn := fun _ => fun
  | [d] => { results := [.lit (.bool true)], args := [d] }
  | _ => none }
def powerListsRow : OpenClaim := { program := "ytpjgcimbnhhndaa", sum := "93607ea6d402ef2fccd39fa8df109b81041f5887a6f12f3b35c9e238ac05aeea", func := "waltzer/waltzerlaw05.PowerLists", spec := "powerLists", inPlace := ["slices.overlaps[int]"], unfollowed := true, recurses := true, apart := false }
def PowerListsSaid : Prop := powerListsRow.holds Try.pinned (OpenSpec.ofChange powerListsSpec)

/-- ITS FALSE NEIGHBOUR: 'it returns false'. Refute it at one input. -/
def powerListsWrong : ChangeSpec := { name := "powerLists", fn := fun _ => fun
  | [d] => { results := [.lit (.bool false)], args := [d] }
  | _ => none }
def PowerListsWrongFalsely : Prop := powerListsRow.holds Try.pinned (OpenSpec.ofChange powerListsWrong)

/-- 'waltzerlaw05.PowerHires': WHATEVER THE INPUT: true; the input reads as it did. -/
def powerHiresSpec : ChangeSpec := { name := "powerHires", fn := fun _ => fun
  | [d1, d2, d3] => { results := [.lit (.bool true)], args := [d1, d2, d3] }
  | _ => none }
def powerHiresRow : OpenClaim := { program := "ytpjgcimbnhhndaa", sum := "93607ea6d402ef2fccd39fa8df109b81041f5887a6f12f3b35c9e238ac05aeea", func := "waltzer/waltzerlaw05.PowerHires", spec := "powerHires", inPlace := ["slices.overlaps[int]"], unfollowed := true, recurses := true, apart := false }
def PowerHiresSaid : Prop := powerHiresRow.holds Try.pinned (OpenSpec.ofChange powerHiresSpec)

/-- ITS FALSE NEIGHBOUR: 'it returns false'. Refute it at one input. -/
def powerHiresWrong : ChangeSpec := { name := "powerHires", fn := fun _ => fun
  | [d1, d2, d3] => { results := [.lit (.bool false)], args := [d1, d2, d3] }
  | _ => none }
def PowerHiresWrongFalsely : Prop := powerHiresRow.holds Try.pinned (OpenSpec.ofChange powerHiresWrong)

/-- 'waltzerlaw05.PowerHired': WHATEVER THE INPUT: true; the input reads as it did. -/
def powerHiredSpec : ChangeSpec := { name := "powerHired", fn := fun _ => fun
  | [d1, d2, d3] => { results := [.lit (.bool true)], args := [d1, d2, d3] }
  | _ => none }
def powerHiredRow : OpenClaim := { program := "ytpjgcimbnhhndaa", sum := "93607ea6d402ef2fccd39fa8df109b81041f5887a6f12f3b35c9e238ac05aeea", func := "waltzer/waltzerlaw05.PowerHired", spec := "powerHired", inPlace := ["slices.overlaps[int]"], unfollowed := true, recurses := true, apart := false }
def PowerHiredSaid : Prop := powerHiredRow.holds Try.pinned (OpenSpec.ofChange powerHiredSpec)

/-- ITS FALSE NEIGHBOUR: 'it returns false'. Refute it at one input. -/
def powerHiredWrong : ChangeSpec := { name := "powerHired", fn := fun _ => fun
  | [d1, d2, d3] => { results := [.lit (.bool false)], args := [d1, d2, d3] }
  | _ => none }
def PowerHiredWrongFalsely : Prop := powerHiredRow.holds Try.pinned (OpenSpec.ofChange powerHiredWrong)

/- THE SECOND FORM. 'bulk': how many values and letters a reading holds, each counted each time it is reached (what is shared counts as often as it is met; a slice's spare places count too). A statement '..UptoSaid' is the law's where the arguments, and the package variables that the reading takes, are together of bulk at most 1048576: NARROWER than '..Said'. Prove '..Said' where nothing that the law and all that it calls make is longer than what came in: it says more and counts as full. Else prove '..UptoSaid'. A law counts once. -/
mutual
def uptoBulk {H : Type} : DataW H → Nat
  | .lit (.string bytes) => bytes.length + 1
  | .lit _ => 1
  | .nil => 1
  | .ptr d => uptoBulk d + 1
  | .slice elems spare => uptoBulkAll elems + uptoBulkAll spare + 1
  | .agg parts => uptoBulkAll parts + 1
  | .iface _ d => uptoBulk d + 1
  | .map entries => uptoBulkEntries entries + 1
  | .held _ => 1
def uptoBulkAll {H : Type} : List (DataW H) → Nat
  | [] => 0
  | d :: r => uptoBulk d + uptoBulkAll r
def uptoBulkEntries {H : Type} : List (Lit × DataW H) → Nat
  | [] => 0
  | x :: r => uptoBulkEntry x + uptoBulkEntries r
def uptoBulkEntry {H : Type} : Lit × DataW H → Nat
  | (.string bytes, d) => bytes.length + uptoBulk d + 1
  | (_, d) => uptoBulk d + 1
 end
def uptoSmall : (H : Type) → List (DataW H) → Bool := fun _ ds => decide (uptoBulkAll ds ≤ 1048576)
def OpenSpec.upto (s : _root_.Go.ChangeSpec) : _root_.Go.OpenSpec := { _root_.Go.OpenSpec.ofChange s with cond := some uptoSmall }

/-- 'waltzerlaw05.PowerSheds', WHERE WHAT IT READS IS OF BULK AT MOST 1048576: true; the input reads as it did. -/
def powerShedsUptoRow : OpenClaim := { program := "ytpjgcimbnhhndaa", sum := "93607ea6d402ef2fccd39fa8df109b81041f5887a6f12f3b35c9e238ac05aeea", func := "waltzer/waltzerlaw05.PowerSheds", spec := "powerSheds", inPlace := ["slices.overlaps[int]"], unfollowed := true, recurses := true, apart := false, narrowed := true }
def PowerShedsUptoSaid : Prop := powerShedsUptoRow.holds Try.pinned (OpenSpec.upto powerShedsSpec)

/-- 'waltzerlaw05.PowerLong', WHERE WHAT IT READS IS OF BULK AT MOST 1048576: true; the input reads as it did. -/
def powerLongUptoRow : OpenClaim := { program := "ytpjgcimbnhhndaa", sum := "93607ea6d402ef2fccd39fa8df109b81041f5887a6f12f3b35c9e238ac05aeea", func := "waltzer/waltzerlaw05.PowerLong", spec := "powerLong", inPlace := ["slices.overlaps[int]"], unfollowed := true, recurses := true, apart := false, narrowed := true }
def PowerLongUptoSaid : Prop := powerLongUptoRow.holds Try.pinned (OpenSpec.upto powerLongSpec)

/-- 'waltzerlaw05.PowerPlays', WHERE WHAT IT READS IS OF BULK AT MOST 1048576: true; the input reads as it did. -/
def powerPlaysUptoRow : OpenClaim := { program := "ytpjgcimbnhhndaa", sum := "93607ea6d402ef2fccd39fa8df109b81041f5887a6f12f3b35c9e238ac05aeea", func := "waltzer/waltzerlaw05.PowerPlays", spec := "powerPlays", inPlace := ["slices.overlaps[int]"], unfollowed := true, recurses := true, apart := false, narrowed := true }
def PowerPlaysUptoSaid : Prop := powerPlaysUptoRow.holds Try.pinned (OpenSpec.upto powerPlaysSpec)

/-- 'waltzerlaw05.PowerNearest', WHERE WHAT IT READS IS OF BULK AT MOST 1048576: true; the input reads as it did. -/
def powerNearestUptoRow : OpenClaim := { program := "ytpjgcimbnhhndaa", sum := "93607ea6d402ef2fccd39fa8df109b81041f5887a6f12f3b35c9e238ac05aeea", func := "waltzer/waltzerlaw05.PowerNearest", spec := "powerNearest", inPlace := ["slices.overlaps[int]"], unfollowed := true, recurses := true, apart := false, narrowed := true }
def PowerNearestUptoSaid : Prop := powerNearestUptoRow.holds Try.pinned (OpenSpec.upto powerNearestSpec)

/-- 'waltzerlaw05.PowerLeast', WHERE WHAT IT READS IS OF BULK AT MOST 1048576: true; the input reads as it did. -/
def powerLeastUptoRow : OpenClaim := { program := "ytpjgcimbnhhndaa", sum := "93607ea6d402ef2fccd39fa8df109b81041f5887a6f12f3b35c9e238ac05aeea", func := "waltzer/waltzerlaw05.PowerLeast", spec := "powerLeast", inPlace := ["slices.overlaps[int]"], unfollowed := true, recurses := true, apart := false, narrowed := true }
def PowerLeastUptoSaid : Prop := powerLeastUptoRow.holds Try.pinned (OpenSpec.upto powerLeastSpec)

/-- 'waltzerlaw05.PowerRuns', WHERE WHAT IT READS IS OF BULK AT MOST 1048576: true; the input reads as it did. -/
def powerRunsUptoRow : OpenClaim := { program := "ytpjgcimbnhhndaa", sum := "93607ea6d402ef2fccd39fa8df109b81041f5887a6f12f3b35c9e238ac05aeea", func := "waltzer/waltzerlaw05.PowerRuns", spec := "powerRuns", inPlace := ["slices.overlaps[int]"], unfollowed := true, recurses := true, apart := false, narrowed := true }
def PowerRunsUptoSaid : Prop := powerRunsUptoRow.holds Try.pinned (OpenSpec.upto powerRunsSpec)

/-- 'waltzerlaw05.PowerSums', WHERE WHAT IT READS IS OF BULK AT MOST 1048576: true; the input reads as it did. -/
def powerSumsUptoRow : OpenClaim := { program := "ytpjgcimbnhhndaa", sum := "93607ea6d402ef2fccd39fa8df109b81041f5887a6f12f3b35c9e238ac05aeea", func := "waltzer/waltzerlaw05.PowerSums", spec := "powerSums", inPlace := ["slices.overlaps[int]"], unfollowed := true, recurses := true, apart := false, narrowed := true }
def PowerSumsUptoSaid : Prop := powerSumsUptoRow.holds Try.pinned (OpenSpec.upto powerSumsSpec)

/-- 'waltzerlaw05.PowerMargin', WHERE WHAT IT READS IS OF BULK AT MOST 1048576: true; the input reads as it did. -/
def powerMarginUptoRow : OpenClaim := { program := "ytpjgcimbnhhndaa", sum := "93607ea6d402ef2fccd39fa8df109b81041f5887a6f12f3b35c9e238ac05aeea", func := "waltzer/waltzerlaw05.PowerMargin", spec := "powerMargin", inPlace := ["slices.overlaps[int]"], unfollowed := true, recurses := true, apart := false, narrowed := true }
def PowerMarginUptoSaid : Prop := powerMarginUptoRow.holds Try.pinned (OpenSpec.upto powerMarginSpec)

/-- 'waltzerlaw05.PowerShares', WHERE WHAT IT READS IS OF BULK AT MOST 1048576: true; the input reads as it did. -/
def powerSharesUptoRow : OpenClaim := { program := "ytpjgcimbnhhndaa", sum := "93607ea6d402ef2fccd39fa8df109b81041f5887a6f12f3b35c9e238ac05aeea", func := "waltzer/waltzerlaw05.PowerShares", spec := "powerShares", inPlace := ["slices.overlaps[int]"], unfollowed := true, recurses := true, apart := false, narrowed := true }
def PowerSharesUptoSaid : Prop := powerSharesUptoRow.holds Try.pinned (OpenSpec.upto powerSharesSpec)

/-- 'waltzerlaw05.PowerEven', WHERE WHAT IT READS IS OF BULK AT MOST 1048576: true; the input reads as it did. -/
def powerEvenUptoRow : OpenClaim := { program := "ytpjgcimbnhhndaa", sum := "93607ea6d402ef2fccd39fa8df109b81041f5887a6f12f3b35c9e238ac05aeea", func := "waltzer/waltzerlaw05.PowerEven", spec := "powerEven", inPlace := ["slices.overlaps[int]"], unfollowed := true, recurses := true, apart := false, narrowed := true }
def PowerEvenUptoSaid : Prop := powerEvenUptoRow.holds Try.pinned (OpenSpec.upto powerEvenSpec)

/-- 'waltzerlaw05.PowerAmps', WHERE WHAT IT READS IS OF BULK AT MOST 1048576: true; the input reads as it did. -/
def powerAmpsUptoRow : OpenClaim := { program := "ytpjgcimbnhhndaa", sum := "93607ea6d402ef2fccd39fa8df109b81041f5887a6f12f3b35c9e238ac05aeea", func := "waltzer/waltzerlaw05.PowerAmps", spec := "powerAmps", inPlace := ["slices.overlaps[int]"], unfollowed := true, recurses := true, apart := false, narrowed := true }
def PowerAmpsUptoSaid : Prop := powerAmpsUptoRow.holds Try.pinned (OpenSpec.upto powerAmpsSpec)

/-- 'waltzerlaw05.PowerLists', WHERE WHAT IT READS IS OF BULK AT MOST 1048576: true; the input reads as it did. -/
def powerListsUptoRow : OpenClaim := { program := "ytpjgcimbnhhndaa", sum := "93607ea6d402ef2fccd39fa8df109b81041f5887a6f12f3b35c9e238ac05aeea", func := "waltzer/waltzerlaw05.PowerLists", spec := "powerLists", inPlace := ["slices.overlaps[int]"], unfollowed := true, recurses := true, apart := false, narrowed := true }
def PowerListsUptoSaid : Prop := powerListsUptoRow.holds Try.pinned (OpenSpec.upto powerListsSpec)

/-- 'waltzerlaw05.PowerHires', WHERE WHAT IT READS IS OF BULK AT MOST 1048576: true; the input reads as it did. -/
def powerHiresUptoRow : OpenClaim := { program := "ytpjgcimbnhhndaa", sum := "93607ea6d402ef2fccd39fa8df109b81041f5887a6f12f3b35c9e238ac05aeea", func := "waltzer/waltzerlaw05.PowerHires", spec := "powerHires", inPlace := ["slices.overlaps[int]"], unfollowed := true, recurses := true, apart := false, narrowed := true }
def PowerHiresUptoSaid : Prop := powerHiresUptoRow.holds Try.pinned (OpenSpec.upto powerHiresSpec)

/-- 'waltzerlaw05.PowerHired', WHERE WHAT IT READS IS OF BULK AT MOST 1048576: true; the input reads as it did. -/
def powerHiredUptoRow : OpenClaim := { program := "ytpjgcimbnhhndaa", sum := "93607ea6d402ef2fccd39fa8df109b81041f5887a6f12f3b35c9e238ac05aeea", func := "waltzer/waltzerlaw05.PowerHired", spec := "powerHired", inPlace := ["slices.overlaps[int]"], unfollowed := true, recurses := true, apart := false, narrowed := true }
def PowerHiredUptoSaid : Prop := powerHiredUptoRow.holds Try.pinned (OpenSpec.upto powerHiredSpec)

end Rows
end Go.Proofs.Ytpjgcimbnhhndaa
