/- The abstract interpreter 'Vi', fortieth part: the last step for a function with ranges over functions. No condition beyond those typed in each theorem. -/
import Derived.Test.YtncngmcojppmgaaGreatVi39
namespace Go.Vi
def qi9 (P : Program) (l : List (Nat × qep)) : Prop := ∀ x ∈ l, jO P x.1 ∧ qeH P x.1 x.2
theorem mkNil {P : Program} : qi9 P [] := by intro x hx; cases hx
theorem mkCons {P : Program} {f : Nat} {p : qep} {l : List (Nat × qep)} (h : jO P f ∧ qeH P f p) (hl : qi9 P l) : qi9 P ((f, p) :: l) := by
 intro x hx
 rcases List.mem_cons.1 hx with rfl | hx
 ·exact h
 ·exact hl x hx
theorem mk_ok {P : Program} {l : List (Nat × qep)} (h : qi9 P l) : ∀ f m, lk l f = some m → jO P f ∧ qeH P f m := fun f m hl => h (f, m) (qbB hl)
end Go.Vi
