/- The abstract interpreter 'Vi', thirty-eighth part: all code, ranges over functions with it; the contract of a function. No condition beyond those typed in each theorem. -/
import Derived.Test.YtncngmcojppmgaaGreatVi37
namespace Go.Vi
open Go.RowKit
section
variable {P : Program} {C : Ctx} {cfg : jM} {R : Type} {r : R} {s s' s1 : St} {a a' a1 : Act} {w w' W W' W1 : World} {H H' Hf : FH} {Φ Φ' : Nat → qC}
def qiy (W W' : World) : Prop := ∀ (b : Nat) (c : Array Value) (t : TypeId) (f : Nat × Nat), W.heap[b]? = some (.cells c t f) → W'.heap[b]? = some (.cells c t f)
theorem qiy.cell (h : qiy W W') {ad : Addr} {v : Value} (hv : W.cell? ad = some v) : W'.cell? ad = some v := by
 unfold World.cell? at hv ⊢
 cases e : W.heap[ad.block]? with
 | none => rw [e] at hv; simp at hv
 | some o =>
  rw [e] at hv
  cases o with
  | cells c t f => rw [h _ _ _ _ e]; exact hv
  | _ => simp at hv
end
end Go.Vi
