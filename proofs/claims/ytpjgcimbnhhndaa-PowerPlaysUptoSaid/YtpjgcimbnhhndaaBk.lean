/- What is of small bulk is short; what each law's last theorem needs of the program. No condition beyond those typed in each theorem. -/
import Derived.Test.YtpjgcimbnhhndaaLw1
namespace Go.Proofs.Try.V
open Go.Vi
set_option maxRecDepth 100000

abbrev intsTy : Ty := .list false 3 (.int .i64)
theorem len_sum {α : Type} {g : α → Nat} (h : ∀ x, 1 ≤ g x) : ∀ l : List α, l.length ≤ (l.map g).sum
  | [] => Nat.zero_le _
  | x :: l => by
    have := len_sum h l
    have := h x
    simp only [List.map_cons, List.sum_cons, List.length_cons]
    omega
theorem bulk_ints (l : List Int) : l.length + 1 ≤ bulk intsTy l := by
  have e : bulk intsTy l = (l.map (bulk (.int .i64))).sum + 1 := rfl
  have := len_sum (g := bulk (.int .i64)) (fun _ => Nat.le_refl _) l
  omega
end Go.Proofs.Try.V
namespace Go.Proofs.Ytpjgcimbnhhndaa
open Go.Vi Go.Proofs.Try.V
theorem own_try : ownKnob Try.prog.godebug = none := by kernel_rfl
theorem laidOut_try : laidOutB Try.prog = true := by kernel_rfl
end Go.Proofs.Ytpjgcimbnhhndaa
