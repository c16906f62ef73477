/-
  No cell of these rows narrows 'for every input' (looked for: loops, veiled, ifaces, maps, wideKeys, modest, calm, conditions, laid).
  DERIVED. THE GIVEN ROWS OF THIS SEAT. 11 by the template 'for every input the law returns true; each argument reads behind the call as it read before'; 0 by the template 'total and deterministic' (their statements: YtlhapfgcnfooeaaTotals.lean).
  GIVEN WITH THE SEED: the statements are not yours to turn. If you find one false, say at which input.
  Laid BY PROGRAM, IN A SANDBOX (cutbox-rows.mjs): the forced cells as the released guide's own fill.sh prints them over the translation c88c8b7de9409649… (all of the seat's roots in one cut). By AI agents, Wed Nov 11 2026. No macro, syntax, notation, axiom, sorry.
-/
import Derived.Test.YtlhapfgcnfooeaaChecked
import GoSem.Claim
import GoSem.ClaimJoined
import GoSem.ClaimMapViews
import Derived.JoinedTies
import Derived.KernelRfl
namespace Go.Proofs.Ytlhapfgcnfooeaa
/- THE CELL 'sum', in the pinned program and in every row, IS THE sha256 OF THE DUMP (.gsa) THAT YtlhapfgcnfooeaaProg.lean LOADS. Nothing in Lean hashes anything: it is a label: what it is worth is what the hold of that sum in a sandbox is worth. -/
noncomputable def Try.pinned : Pinned := { name := "ytlhapfgcnfooeaa", sum := "c88c8b7de9409649f0035b607c837b804c3b7b5a5144a45dcf1449f0533afd86", checked := Try.checked }
namespace Rows
def none {H : Type} : Left H := { results := [], args := [] }

/-- 'waltzerlaw01.TokensBuys': WHATEVER THE INPUT: true; the input reads as it did. -/
def tokensBuysSpec : ChangeSpec := { name := "tokensBuys", fn := fun _ => fun
  | [d1, d2] => { results := [.lit (.bool true)], args := [d1, d2] }
  | _ => none }
def tokensBuysRow : OpenClaim := { program := "ytlhapfgcnfooeaa", sum := "c88c8b7de9409649f0035b607c837b804c3b7b5a5144a45dcf1449f0533afd86", func := "waltzer/waltzerlaw01.TokensBuys", spec := "tokensBuys", unfollowed := true, recurses := true, apart := false }
def TokensBuysSaid : Prop := tokensBuysRow.holds Try.pinned (OpenSpec.ofChange tokensBuysSpec)

/-- ITS FALSE NEIGHBOUR: 'it returns false'. Refute it at one input. -/
def tokensBuysWrong : ChangeSpec := { name := "tokensBuys", fn := fun _ => fun
  | [d1, d2] => { results := [.lit (.bool false)], args := [d1, d2] }
  | _ => none }
def TokensBuysWrongFalsely : Prop := tokensBuysRow.holds Try.pinned (OpenSpec.ofChange tokensBuysWrong)

/-- 'waltzerlaw01.TokensNoWin': WHATEVER THE INPUT: true; the input reads as it did. -/
def tokensNoWinSpec : ChangeSpec := { name := "tokensNoWin", fn := fun _ => fun
  | [d1, d2, d3] => { results := [.lit (.bool true)], args := [d1, d2, d3] }
  | _ => none }
def tokensNoWinRow : OpenClaim := { program := "ytlhapfgcnfooeaa", sum := "c88c8b7de9409649f0035b607c837b804c3b7b5a5144a45dcf1449f0533afd86", func := "waltzer/waltzerlaw01.TokensNoWin", spec := "tokensNoWin", unfollowed := true, recurses := true, apart := false }
def TokensNoWinSaid : Prop := tokensNoWinRow.holds Try.pinned (OpenSpec.ofChange tokensNoWinSpec)

/-- ITS FALSE NEIGHBOUR: 'it returns false'. Refute it at one input. -/
def tokensNoWinWrong : ChangeSpec := { name := "tokensNoWin", fn := fun _ => fun
  | [d1, d2, d3] => { results := [.lit (.bool false)], args := [d1, d2, d3] }
  | _ => none }
def TokensNoWinWrongFalsely : Prop := tokensNoWinRow.holds Try.pinned (OpenSpec.ofChange tokensNoWinWrong)

/-- 'waltzerlaw01.TokensStay': WHATEVER THE INPUT: true; the input reads as it did. -/
def tokensStaySpec : ChangeSpec := { name := "tokensStay", fn := fun _ => fun
  | [d1, d2] => { results := [.lit (.bool true)], args := [d1, d2] }
  | _ => none }
def tokensStayRow : OpenClaim := { program := "ytlhapfgcnfooeaa", sum := "c88c8b7de9409649f0035b607c837b804c3b7b5a5144a45dcf1449f0533afd86", func := "waltzer/waltzerlaw01.TokensStay", spec := "tokensStay", unfollowed := true, recurses := true, apart := false }
def TokensStaySaid : Prop := tokensStayRow.holds Try.pinned (OpenSpec.ofChange tokensStaySpec)

/-- ITS FALSE NEIGHBOUR: 'it returns false'. Refute it at one input. -/
def tokensStayWrong : ChangeSpec := { name := "tokensStay", fn := fun _ => fun
  | [d1, d2] => { results := [.lit (.bool false)], args := [d1, d2] }
  | _ => none }
def TokensStayWrongFalsely : Prop := tokensStayRow.holds Try.pinned (OpenSpec.ofChange tokensStayWrong)

/-- 'waltzerlaw01.TokensAgree': WHATEVER THE INPUT: true; the input reads as it did. -/
def tokensAgreeSpec : ChangeSpec := { name := "tokensAgree", fn := fun _ => fun
  | [d1, d2] => { results := [.lit (.bool true)], args := [d1, d2] }
  | _ => none }
def tokensAgreeRow : OpenClaim := { program := "ytlhapfgcnfooeaa", sum := "c88c8b7de9409649f0035b607c837b804c3b7b5a5144a45dcf1449f0533afd86", func := "waltzer/waltzerlaw01.TokensAgree", spec := "tokensAgree", unfollowed := true, recurses := true, apart := false }
def TokensAgreeSaid : Prop := tokensAgreeRow.holds Try.pinned (OpenSpec.ofChange tokensAgreeSpec)

/-- ITS FALSE NEIGHBOUR: 'it returns false'. Refute it at one input. -/
def tokensAgreeWrong : ChangeSpec := { name := "tokensAgree", fn := fun _ => fun
  | [d1, d2] => { results := [.lit (.bool false)], args := [d1, d2] }
  | _ => none }
def TokensAgreeWrongFalsely : Prop := tokensAgreeRow.holds Try.pinned (OpenSpec.ofChange tokensAgreeWrong)

/-- 'waltzerlaw01.TokensFree': WHATEVER THE INPUT: true; the input reads as it did. -/
def tokensFreeSpec : ChangeSpec := { name := "tokensFree", fn := fun _ => fun
  | [d1, d2, d3] => { results := [.lit (.bool true)], args := [d1, d2, d3] }
  | _ => none }
def tokensFreeRow : OpenClaim := { program := "ytlhapfgcnfooeaa", sum := "c88c8b7de9409649f0035b607c837b804c3b7b5a5144a45dcf1449f0533afd86", func := "waltzer/waltzerlaw01.TokensFree", spec := "tokensFree", unfollowed := true, recurses := true, apart := false }
def TokensFreeSaid : Prop := tokensFreeRow.holds Try.pinned (OpenSpec.ofChange tokensFreeSpec)

/-- ITS FALSE NEIGHBOUR: 'it returns false'. Refute it at one input. -/
def tokensFreeWrong : ChangeSpec := { name := "tokensFree", fn := fun _ => fun
  | [d1, d2, d3] => { results := [.lit (.bool false)], args := [d1, d2, d3] }
  | _ => none }
def TokensFreeWrongFalsely : Prop := tokensFreeRow.holds Try.pinned (OpenSpec.ofChange tokensFreeWrong)

/-- 'waltzerlaw01.TokensFloats': WHATEVER THE INPUT: true; the input reads as it did. -/
def tokensFloatsSpec : ChangeSpec := { name := "tokensFloats", fn := fun _ => fun
  | [d1, d2] => { results := [.lit (.bool true)], args := [d1, d2] }
  | _ => none }
def tokensFloatsRow : OpenClaim := { program := "ytlhapfgcnfooeaa", sum := "c88c8b7de9409649f0035b607c837b804c3b7b5a5144a45dcf1449f0533afd86", func := "waltzer/waltzerlaw01.TokensFloats", spec := "tokensFloats", unfollowed := true, recurses := true, apart := false }
def TokensFloatsSaid : Prop := tokensFloatsRow.holds Try.pinned (OpenSpec.ofChange tokensFloatsSpec)

/-- ITS FALSE NEIGHBOUR: 'it returns false'. Refute it at one input. -/
def tokensFloatsWrong : ChangeSpec := { name := "tokensFloats", fn := fun _ => fun
  | [d1, d2] => { results := [.lit (.bool false)], args := [d1, d2] }
  | _ => none }
def TokensFloatsWrongFalsely : Prop := tokensFloatsRow.holds Try.pinned (OpenSpec.ofChange tokensFloatsWrong)

/-- 'waltzerlaw01.TokensAccounts': WHATEVER THE INPUT: true; the input reads as it did. -/
def tokensAccountsSpec : ChangeSpec := { name := "tokensAccounts", fn := fun _ => fun
  | [d1, d2, d3] => { results := [.lit (.bool true)], args := [d1, d2, d3] }
  | _ => none }
def tokensAccountsRow : OpenClaim := { program := "ytlhapfgcnfooeaa", sum := "c88c8b7de9409649f0035b607c837b804c3b7b5a5144a45dcf1449f0533afd86", func := "waltzer/waltzerlaw01.TokensAccounts", spec := "tokensAccounts", unfollowed := true, recurses := true, apart := false }
def TokensAccountsSaid : Prop := tokensAccountsRow.holds Try.pinned (OpenSpec.ofChange tokensAccountsSpec)

/-- ITS FALSE NEIGHBOUR: 'it returns false'. Refute it at one input. -/
def tokensAccountsWrong : ChangeSpec := { name := "tokensAccounts", fn := fun _ => fun
  | [d1, d2, d3] => { results := [.lit (.bool false)], args := [d1, d2, d3] }
  | _ => none }
def TokensAccountsWrongFalsely : Prop := tokensAccountsRow.holds Try.pinned (OpenSpec.ofChange tokensAccountsWrong)

/-- 'waltzerlaw01.TokensCheap': WHATEVER THE INPUT: true; the input reads as it did. -/
def tokensCheapSpec : ChangeSpec := { name := "tokensCheap", fn := fun _ => fun
  | [d1, d2] => { results := [.lit (.bool true)], args := [d1, d2] }
  | _ => none }
def tokensCheapRow : OpenClaim := { program := "ytlhapfgcnfooeaa", sum := "c88c8b7de9409649f0035b607c837b804c3b7b5a5144a45dcf1449f0533afd86", func := "waltzer/waltzerlaw01.TokensCheap", spec := "tokensCheap", unfollowed := true, recurses := true, apart := false }
def TokensCheapSaid : Prop := tokensCheapRow.holds Try.pinned (OpenSpec.ofChange tokensCheapSpec)

/-- ITS FALSE NEIGHBOUR: 'it returns false'. Refute it at one input. -/
def tokensCheapWrong : ChangeSpec := { name := "tokensCheap", fn := fun _ => fun
  | [d1, d2] => { results := [.lit (.bool false)], args := [d1, d2] }
  | _ => none }
def TokensCheapWrongFalsely : Prop := tokensCheapRow.holds Try.pinned (OpenSpec.ofChange tokensCheapWrong)

/-- 'waltzerlaw01.TokensPlays': WHATEVER THE INPUT: true; the input reads as it did. -/
def tokensPlaysSpec : ChangeSpec := { name := "tokensPlays", fn := fun _ => fun
  | [d1, d2, d3] => { results := [.lit (.bool true)], args := [d1, d2, d3] }
  | _ => none }
def tokensPlaysRow : OpenClaim := { program := "ytlhapfgcnfooeaa", sum := "c88c8b7de9409649f0035b607c837b804c3b7b5a5144a45dcf1449f0533afd86", func := "waltzer/waltzerlaw01.TokensPlays", spec := "tokensPlays", unfollowed := true, recurses := true, apart := false }
def TokensPlaysSaid : Prop := tokensPlaysRow.holds Try.pinned (OpenSpec.ofChange tokensPlaysSpec)

/-- ITS FALSE NEIGHBOUR: 'it returns false'. Refute it at one input. -/
def tokensPlaysWrong : ChangeSpec := { name := "tokensPlays", fn := fun _ => fun
  | [d1, d2, d3] => { results := [.lit (.bool false)], args := [d1, d2, d3] }
  | _ => none }
def TokensPlaysWrongFalsely : Prop := tokensPlaysRow.holds Try.pinned (OpenSpec.ofChange tokensPlaysWrong)

/-- 'waltzerlaw01.TokensGroups': WHATEVER THE INPUT: true; the input reads as it did. -/
def tokensGroupsSpec : ChangeSpec := { name := "tokensGroups", fn := fun _ => fun
  | [d1, d2] => { results := [.lit (.bool true)], args := [d1, d2] }
  | _ => none }
def tokensGroupsRow : OpenClaim := { program := "ytlhapfgcnfooeaa", sum := "c88c8b7de9409649f0035b607c837b804c3b7b5a5144a45dcf1449f0533afd86", func := "waltzer/waltzerlaw01.TokensGroups", spec := "tokensGroups", unfollowed := true, recurses := true, apart := false }
def TokensGroupsSaid : Prop := tokensGroupsRow.holds Try.pinned (OpenSpec.ofChange tokensGroupsSpec)

/-- ITS FALSE NEIGHBOUR: 'it returns false'. Refute it at one input. -/
def tokensGroupsWrong : ChangeSpec := { name := "tokensGroups", fn := fun _ => fun
  | [d1, d2] => { results := [.lit (.bool false)], args := [d1, d2] }
  | _ => none }
def TokensGroupsWrongFalsely : Prop := tokensGroupsRow.holds Try.pinned (OpenSpec.ofChange tokensGroupsWrong)

/-- 'waltzerlaw01.TokensBegin': WHATEVER THE INPUT: true; the input reads as it did. -/
def tokensBeginSpec : ChangeSpec := { name := "tokensBegin", fn := fun _ => fun
  | [d1, d2, d3] => { results := [.lit (.bool true)], args := [d1, d2, d3] }
  | _ => none }
def tokensBeginRow : OpenClaim := { program := "ytlhapfgcnfooeaa", sum := "c88c8b7de9409649f0035b607c837b804c3b7b5a5144a45dcf1449f0533afd86", func := "waltzer/waltzerlaw01.TokensBegin", spec := "tokensBegin", unfollowed := true, recurses := true, apart := false }
def TokensBeginSaid : Prop := tokensBeginRow.holds Try.pinned (OpenSpec.ofChange tokensBeginSpec)

/-- ITS FALSE NEIGHBOUR: 'it returns false'. Refute it at one input. -/
def tokensBeginWrong : ChangeSpec := { name := "tokensBegin", fn := fun _ => fun
  | [d1, d2, d3] => { results := [.lit (.bool false)], args := [d1, d2, d3] }
  | _ => none }
def TokensBeginWrongFalsely : Prop := tokensBeginRow.holds Try.pinned (OpenSpec.ofChange tokensBeginWrong)

/- THE SECOND FORM. 'bulk': how many values and letters a reading holds, each counted each time it is reached (what is shared counts as often as it is met; a slice's spare places count too). A statement '..UptoSaid' is the law's where the arguments, and the package variables that the reading takes, are together of bulk at most 1048576: NARROWER than '..Said'. Prove '..Said' where nothing that the law and all that it calls make is longer than what came in: it says more and counts as full. Else prove '..UptoSaid'. A law counts once. -/
mutual
def uptoBulk {H : Type} : DataW H → Nat
  | .lit (.string bytes) => bytes.length + 1
  | .lit _ => 1
  | .nil => 1
  | .ptr d => uptoBulk d + 1
  | .slice elems spare => uptoBulkAll elems + uptoBulkAll spare + 1
  | .agg parts => uptoBulkAll parts + 1
  | .iface _ d => uptoBulk d + 1
  | .map entries => uptoBulkEntries entries + 1
  | .held _ => 1
def uptoBulkAll {H : Type} : List (DataW H) → Nat
  | [] => 0
  | d :: r => uptoBulk d + uptoBulkAll r
def uptoBulkEntries {H : Type} : List (Lit × DataW H) → Nat
  | [] => 0
  | x :: r => uptoBulkEntry x + uptoBulkEntries r
def uptoBulkEntry {H : Type} : Lit × DataW H → Nat
  | (.string bytes, d) => bytes.length + uptoBulk d + 1
  | (_, d) => uptoBulk d + 1
 end
def uptoSmall : (H : Type) → List (DataW H) → Bool := fun _ ds => decide (uptoBulkAll ds ≤ 1048576)
def OpenSpec.upto (s : _root_.Go.ChangeSpec) : _root_.Go.OpenSpec := { _root_.Go.OpenSpec.ofChange s with cond := some uptoSmall }

/-- 'waltzerlaw01.TokensBuys', WHERE WHAT IT READS IS OF BULK AT MOST 1048576: true; the input reads as it did. -/
def tokensBuysUptoRow : OpenClaim := { program := "ytlhapfgcnfooeaa", sum := "c88c8b7de9409649f0035b607c837b804c3b7b5a5144a45dcf1449f0533afd86", func := "waltzer/waltzerlaw01.TokensBuys", spec := "tokensBuys", unfollowed := true, recurses := true, apart := false, narrowed := true }
def TokensBuysUptoSaid : Prop := tokensBuysUptoRow.holds Try.pinned (OpenSpec.upto tokensBuysSpec)

/-- 'waltzerlaw01.TokensNoWin', WHERE WHAT IT READS IS OF BULK AT MOST 1048576: true; the input reads as it did. -/
def tokensNoWinUptoRow : OpenClaim := { program := "ytlhapfgcnfooeaa", sum := "c88c8b7de9409649f0035b607c837b804c3b7b5a5144a45dcf1449f0533afd86", func := "waltzer/waltzerlaw01.TokensNoWin", spec := "tokensNoWin", unfollowed := true, recurses := true, apart := false, narrowed := true }
def TokensNoWinUptoSaid : Prop := tokensNoWinUptoRow.holds Try.pinned (OpenSpec.upto tokensNoWinSpec)

/-- 'waltzerlaw01.TokensStay', WHERE WHAT IT READS IS OF BULK AT MOST 1048576: true; the input reads as it did. -/
def tokensStayUptoRow : OpenClaim := { program := "ytlhapfgcnfooeaa", sum := "c88c8b7de9409649f0035b607c837b804c3b7b5a5144a45dcf1449f0533afd86", func := "waltzer/waltzerlaw01.TokensStay", spec := "tokensStay", unfollowed := true, recurses := true, apart := false, narrowed := true }
def TokensStayUptoSaid : Prop := tokensStayUptoRow.holds Try.pinned (OpenSpec.upto tokensStaySpec)

/-- 'waltzerlaw01.TokensAgree', WHERE WHAT IT READS IS OF BULK AT MOST 1048576: true; the input reads as it did. -/
def tokensAgreeUptoRow : OpenClaim := { program := "ytlhapfgcnfooeaa", sum := "c88c8b7de9409649f0035b607c837b804c3b7b5a5144a45dcf1449f0533afd86", func := "waltzer/waltzerlaw01.TokensAgree", spec := "tokensAgree", unfollowed := true, recurses := true, apart := false, narrowed := true }
def TokensAgreeUptoSaid : Prop := tokensAgreeUptoRow.holds Try.pinned (OpenSpec.upto tokensAgreeSpec)

/-- 'waltzerlaw01.TokensFree', WHERE WHAT IT READS IS OF BULK AT MOST 1048576: true; the input reads as it did. -/
def tokensFreeUptoRow : OpenClaim := { program := "ytlhapfgcnfooeaa", sum := "c88c8b7de9409649f0035b607c837b804c3b7b5a5144a45dcf1449f0533afd86", func := "waltzer/waltzerlaw01.TokensFree", spec := "tokensFree", unfollowed := true, recurses := true, apart := false, narrowed := true }
def TokensFreeUptoSaid : Prop := tokensFreeUptoRow.holds Try.pinned (OpenSpec.upto tokensFreeSpec)

/-- 'waltzerlaw01.TokensFloats', WHERE WHAT IT READS IS OF BULK AT MOST 1048576: true; the input reads as it did. -/
def tokensFloatsUptoRow : OpenClaim := { program := "ytlhapfgcnfooeaa", sum := "c88c8b7de9409649f0035b607c837b804c3b7b5a5144a45dcf1449f0533afd86", func := "waltzer/waltzerlaw01.TokensFloats", spec := "tokensFloats", unfollowed := true, recurses := true, apart := false, narrowed := true }
def TokensFloatsUptoSaid : Prop := tokensFloatsUptoRow.holds Try.pinned (OpenSpec.upto tokensFloatsSpec)

/-- 'waltzerlaw01.TokensAccounts', WHERE WHAT IT READS IS OF BULK AT MOST 1048576: true; the input reads as it did. -/
def tokensAccountsUptoRow : OpenClaim := { program := "ytlhapfgcnfooeaa", sum := "c88c8b7de9409649f0035b607c837b804c3b7b5a5144a45dcf1449f0533afd86", func := "waltzer/waltzerlaw01.TokensAccounts", spec := "tokensAccounts", unfollowed := true, recurses := true, apart := false, narrowed := true }
def TokensAccountsUptoSaid : Prop := tokensAccountsUptoRow.holds Try.pinned (OpenSpec.upto tokensAccountsSpec)

/-- 'waltzerlaw01.TokensCheap', WHERE WHAT IT READS IS OF BULK AT MOST 1048576: true; the input reads as it did. -/
def tokensCheapUptoRow : OpenClaim := { program := "ytlhapfgcnfooeaa", sum := "c88c8b7de9409649f0035b607c837b804c3b7b5a5144a45dcf1449f0533afd86", func := "waltzer/waltzerlaw01.TokensCheap", spec := "tokensCheap", unfollowed := true, recurses := true, apart := false, narrowed := true }
def TokensCheapUptoSaid : Prop := tokensCheapUptoRow.holds Try.pinned (OpenSpec.upto tokensCheapSpec)

/-- 'waltzerlaw01.TokensPlays', WHERE WHAT IT READS IS OF BULK AT MOST 1048576: true; the input reads as it did. -/
def tokensPlaysUptoRow : OpenClaim := { program := "ytlhapfgcnfooeaa", sum := "c88c8b7de9409649f0035b607c837b804c3b7b5a5144a45dcf1449f0533afd86", func := "waltzer/waltzerlaw01.TokensPlays", spec := "tokensPlays", unfollowed := true, recurses := true, apart := false, narrowed := true }
def TokensPlaysUptoSaid : Prop := tokensPlaysUptoRow.holds Try.pinned (OpenSpec.upto tokensPlaysSpec)

/-- 'waltzerlaw01.TokensGroups', WHERE WHAT IT READS IS OF BULK AT MOST 1048576: true; the input reads as it did. -/
def tokensGroupsUptoRow : OpenClaim := { program := "ytlhapfgcnfooeaa", sum := "c88c8b7de9409649f0035b607c837b804c3b7b5a5144a45dcf1449f0533afd86", func := "waltzer/waltzerlaw01.TokensGroups", spec := "tokensGroups", unfollowed := true, recurses := true, apart := false, narrowed := true }
def TokensGroupsUptoSaid : Prop := tokensGroupsUptoRow.holds Try.pinned (OpenSpec.upto tokensGroupsSpec)

/-- 'waltzerlaw01.TokensBegin', WHERE WHAT IT READS IS OF BULK AT MOST 1048576: true; the input reads as it did. -/
def tokensBeginUptoRow : OpenClaim := { program := "ytlhapfgcnfooeaa", sum := "c88c8b7de9409649f0035b607c837b804c3b7b5a5144a45dcf1449f0533afd86", func := "waltzer/waltzerlaw01.TokensBegin", spec := "tokensBegin", unfollowed := true, recurses := true, apart := false, narrowed := true }
def TokensBeginUptoSaid : Prop := tokensBeginUptoRow.holds Try.pinned (OpenSpec.upto tokensBeginSpec)

end Rows
end Go.Proofs.Ytlhapfgcnfooeaa
