/- BuildOrders (second form): for every kit of small bulk the law returns true, and the kit reads as before. No condition beyond the statement's own. -/
import Derived.Test.YtjhphibadndkcaaLw7
namespace Go.Proofs.Try.V
open Go.Vi
set_option maxRecDepth 100000

theorem sum_ge {α : Type} {g : α → Nat} : ∀ {l : List α} {x : α}, x ∈ l → g x ≤ (l.map g).sum
  | y :: l, x, h => by
    rw [List.map_cons, List.sum_cons]
    rcases List.mem_cons.1 h with rfl | h
    · omega
    · have := sum_ge (g := g) h; omega
theorem sum_len {α : Type} {g h : α → Nat} (hg : ∀ x, h x ≤ g x) : ∀ (l : List α), (l.map h).sum ≤ (l.map g).sum
  | [] => Nat.le_refl _
  | x :: l => by
    rw [List.map_cons, List.sum_cons, List.map_cons, List.sum_cons]
    have := sum_len hg l
    have := hg x
    omega
theorem len_sum {α : Type} {g : α → Nat} (hg : ∀ x, 1 ≤ g x) : ∀ (l : List α), l.length ≤ (l.map g).sum
  | [] => Nat.zero_le _
  | x :: l => by
    rw [List.map_cons, List.sum_cons, List.length_cons]
    have := len_sum hg l
    have := hg x
    omega
theorem flat_sum {α : Type} : ∀ (l : List (List α)), l.flatten.length = (l.map List.length).sum
  | [] => rfl
  | x :: l => by rw [List.flatten_cons, List.length_append, List.map_cons, List.sum_cons, flat_sum l]

abbrev intsTy : Ty := .list false 3 (.int .i64)
abbrev partTy : Ty := .str (.pair (.int .i64) (.pair (.int .i64) (.pair (.int .i64) intsTy)))
abbrev kitTy : Ty := .str (.pair (.list false 38 partTy) (.pair (.int .i64) (.list false 26 intsTy)))
theorem bulk_ints (l : List Int) : bulk intsTy l = l.length + 1 := by
  show (l.map fun _ => 1).sum + 1 = _
  congr 1
  induction l with
  | nil => rfl
  | cons x l ih => rw [List.map_cons, List.sum_cons, ih, List.length_cons]; omega
theorem small_of {k : Kit} (h : bulk kitTy k ≤ 1048576) : Small k := by
  have h1 : bulk kitTy k = ((k.1.map (bulk partTy)).sum + 1) + (1 + ((k.2.2.map (bulk intsTy)).sum + 1)) + 1 := rfl
  have hp : ∀ p : Part, bulk partTy p = 1 + (1 + (1 + bulk intsTy p.2.2.2)) + 1 := fun _ => rfl
  have e1 := len_sum (g := bulk partTy) (fun p => by rw [hp]; omega) k.1
  have e2 := len_sum (g := bulk intsTy) (fun l => by rw [bulk_ints]; omega) k.2.2
  have e3 := sum_len (h := List.length) (g := bulk intsTy) (fun l => by rw [bulk_ints]; omega) k.2.2
  refine ⟨by omega, fun p hp' => ?_, by omega, fun v hv => ?_, ?_⟩
  · have := sum_ge (g := bulk partTy) hp'
    rw [hp, bulk_ints] at this
    omega
  · have := sum_ge (g := bulk intsTy) hv
    rw [bulk_ints] at this
    omega
  · rw [flat_sum]
    omega
end Go.Proofs.Try.V

namespace Go.Proofs.Ytjhphibadndkcaa
open Go.Vi Go.Proofs.Try.V
theorem own_try : ownKnob Try.prog.godebug = none := by kernel_rfl
theorem laidOut_try : laidOutB Try.prog = true := by kernel_rfl

set_option maxRecDepth 100000 in
theorem lifted3 (os : Os) (started : os.Started) (H : Type) (enc : TypeId × Value → H) (F : Stop.Interp) :
    ReturnsInHanded {} Try.checked os 3 .any ((Rows.OpenSpec.upto Rows.buildOrdersSpec).pre6 enc Try.prog Try.f3 Rows.buildOrdersUptoRow.domain false) (((Rows.OpenSpec.upto Rows.buildOrdersSpec).at F).post enc Try.prog Try.f3 false true false false) := by
  refine returnsInHanded_of_cond (C := Try.checked) (s := Rows.OpenSpec.upto Rows.buildOrdersSpec) (k := Rows.uptoSmall) rfl own_try started (by kernel_rfl) Try.func3
    (OpenSpec.witness (enc := enc) (C := Try.checked) (s := Rows.OpenSpec.upto Rows.buildOrdersSpec) (k := Rows.uptoSmall) rfl false ⟨#[], #[.agg #[.slice none 0 0, .int .i64 0, .slice none 0 0]], []⟩ 8 (by kernel_rfl) (by kernel_rfl) (by kernel_rfl)
      (x := ([.agg [.nil, .lit (.int .i64 0), .nil]], [], [])) (by kernel_rfl) rfl (by kernel_rfl)) ?_
  intro W base args ds gs before hval hW _ hk _
  exact law_post (s := Rows.buildOrdersSpec) h3 laidOut_try (by kernel_rfl) (rt := 4) (by kernel_rfl) Try.underlying4 rfl
    (fun ds hds => match ds, hds with | [_], _ => rfl) (fun d _ hb => ⟨(), law3 d.1 (small_of (by simpa [bulkAll] using hb)) works_eq⟩) hval hW hk

theorem buildOrders_upto : Rows.BuildOrdersUptoSaid :=
  OpenClaim.holds_of_cond 3 Try.f3 rfl rfl rfl rfl rfl rfl rfl ⟨rfl, rfl, rfl, rfl, rfl⟩ rfl rfl rfl rfl rfl (by kernel_rfl) Try.func3 (by kernel_rfl)
    (of_decide_eq_true (by kernel_rfl)) (by unfold Func.isWrapper; first | (rw [if_pos (by decide +kernel)]; kernel_rfl) | (rw [if_neg (by decide +kernel)]; exact ⟨rfl, rfl⟩))
    (fun os started H enc _ F => lifted3 os started H enc F)
end Go.Proofs.Ytjhphibadndkcaa
