/- The abstract interpreter 'Vi', thirty-fourth part: a range over a function that yields the elements of a list, in order. No condition beyond those typed in each theorem. -/
import Derived.Test.YtncngmcojppmgaaGreatVi33
import Derived.RangeFuncWrites
namespace Go.Vi
open Go.RowKit
def qkX (H : FH) (W W' : World) : Prop := ∀ (b : Nat) (c : Array Value), H b = some c → W'.heap[b]? = W.heap[b]?
def qkW (O : Nat → Prop) (W W' : World) : Prop := ∀ b, O b → W'.heap[b]? = W.heap[b]?
def ItStep (B : Nat) (O O' : Nat → Prop) (W W' : World) : Prop :=
 ∃ row, W.grownBy W' row ∧ (∀ r, row = some r → O r ∨ (B ≤ r ∧ ∃ o : Go.Obj, W.heap[r]? = some o ∧ o.isCells = false)) ∧ ∀ b, O' b ↔ O b ∨ (W.heap.size ≤ b ∧ b < W'.heap.size)
section
variable {P : Program}
end
end Go.Vi
