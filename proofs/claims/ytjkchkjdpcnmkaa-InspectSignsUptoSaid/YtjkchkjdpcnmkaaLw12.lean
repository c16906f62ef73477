/- Plain laws of layer 10, twelfth part: what is of small bulk is short. No condition beyond those typed in each theorem. -/
import Derived.Test.YtjkchkjdpcnmkaaLw11
namespace Go.Proofs.Try.V
open Go.Vi
set_option maxRecDepth 100000

abbrev ruleTy : Ty := .str (.pair (.int .i64) (.pair (.int .i64) (.pair (.int .i64) .bool)))
abbrev entTy : Ty := .str (.pair (.int .i64) (.pair (.int .i64) (.pair (.int .i64) (.pair (.int .i64) (.int .i64)))))
abbrev intsTy : Ty := .list false 3 (.int .i64)
abbrev bookTy : Ty := .str (.pair (.list false 48 ruleTy) (.pair intsTy intsTy))
abbrev entsTy : Ty := .list false 34 entTy
theorem len_sum {α : Type} {g : α → Nat} (h : ∀ x, 1 ≤ g x) : ∀ l : List α, l.length ≤ (l.map g).sum
  | [] => Nat.zero_le _
  | x :: l => by
    have := len_sum h l
    have := h x
    simp only [List.map_cons, List.sum_cons, List.length_cons]
    omega
theorem bulk_ints (l : List Int) : l.length + 1 ≤ bulk intsTy l := by
  have e : bulk intsTy l = (l.map (bulk (.int .i64))).sum + 1 := rfl
  have := len_sum (g := bulk (.int .i64)) (fun _ => Nat.le_refl _) l
  omega
theorem bulk_ents (l : List Ent) : l.length + 1 ≤ bulk entsTy l := by
  have e : bulk entsTy l = (l.map (bulk entTy)).sum + 1 := rfl
  have : l.length ≤ (l.map (bulk entTy)).sum := len_sum (g := bulk entTy) (fun x => by show 1 ≤ _ + 1; omega) l
  omega
theorem sized_bulk {b : Book} (h : bulk bookTy b ≤ 1048576) : Sized b := by
  have e : bulk bookTy b = ((b.1.map (bulk ruleTy)).sum + 1) + (bulk intsTy b.2.1 + bulk intsTy b.2.2) + 1 := rfl
  have e1 : b.1.length ≤ (b.1.map (bulk ruleTy)).sum := len_sum (g := bulk ruleTy) (fun x => by show 1 ≤ _ + 1; omega) b.1
  have e2 := bulk_ints b.2.1
  have e3 := bulk_ints b.2.2
  exact ⟨by omega, by omega, by omega⟩
end Go.Proofs.Try.V
