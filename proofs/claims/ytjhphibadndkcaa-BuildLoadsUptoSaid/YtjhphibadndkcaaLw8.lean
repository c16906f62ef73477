/- Plain laws of layer 8 (for buildOrders). No condition beyond those typed in each theorem. -/
import Derived.Test.YtjhphibadndkcaaLw7
namespace Go.Proofs.Try.V
open Go.Vi
set_option maxRecDepth 100000

theorem sum_ge {α : Type} {g : α → Nat} : ∀ {l : List α} {x : α}, x ∈ l → g x ≤ (l.map g).sum
  | y :: l, x, h => by
    rw [List.map_cons, List.sum_cons]
    rcases List.mem_cons.1 h with rfl | h
    · omega
    · have := sum_ge (g := g) h; omega
theorem sum_len {α : Type} {g h : α → Nat} (hg : ∀ x, h x ≤ g x) : ∀ (l : List α), (l.map h).sum ≤ (l.map g).sum
  | [] => Nat.le_refl _
  | x :: l => by
    rw [List.map_cons, List.sum_cons, List.map_cons, List.sum_cons]
    have := sum_len hg l
    have := hg x
    omega
theorem len_sum {α : Type} {g : α → Nat} (hg : ∀ x, 1 ≤ g x) : ∀ (l : List α), l.length ≤ (l.map g).sum
  | [] => Nat.zero_le _
  | x :: l => by
    rw [List.map_cons, List.sum_cons, List.length_cons]
    have := len_sum hg l
    have := hg x
    omega
theorem flat_sum {α : Type} : ∀ (l : List (List α)), l.flatten.length = (l.map List.length).sum
  | [] => rfl
  | x :: l => by rw [List.flatten_cons, List.length_append, List.map_cons, List.sum_cons, flat_sum l]

abbrev intsTy : Ty := .list false 3 (.int .i64)
abbrev partTy : Ty := .str (.pair (.int .i64) (.pair (.int .i64) (.pair (.int .i64) intsTy)))
abbrev kitTy : Ty := .str (.pair (.list false 38 partTy) (.pair (.int .i64) (.list false 26 intsTy)))
theorem bulk_ints (l : List Int) : bulk intsTy l = l.length + 1 := by
  show (l.map fun _ => 1).sum + 1 = _
  congr 1
  induction l with
  | nil => rfl
  | cons x l ih => rw [List.map_cons, List.sum_cons, ih, List.length_cons]; omega
theorem small_of {k : Kit} (h : bulk kitTy k ≤ 1048576) : Small k := by
  have h1 : bulk kitTy k = ((k.1.map (bulk partTy)).sum + 1) + (1 + ((k.2.2.map (bulk intsTy)).sum + 1)) + 1 := rfl
  have hp : ∀ p : Part, bulk partTy p = 1 + (1 + (1 + bulk intsTy p.2.2.2)) + 1 := fun _ => rfl
  have e1 := len_sum (g := bulk partTy) (fun p => by rw [hp]; omega) k.1
  have e2 := len_sum (g := bulk intsTy) (fun l => by rw [bulk_ints]; omega) k.2.2
  have e3 := sum_len (h := List.length) (g := bulk intsTy) (fun l => by rw [bulk_ints]; omega) k.2.2
  refine ⟨by omega, fun p hp' => ?_, by omega, fun v hv => ?_, ?_⟩
  · have := sum_ge (g := bulk partTy) hp'
    rw [hp, bulk_ints] at this
    omega
  · have := sum_ge (g := bulk intsTy) hv
    rw [bulk_ints] at this
    omega
  · rw [flat_sum]
    omega
end Go.Proofs.Try.V
