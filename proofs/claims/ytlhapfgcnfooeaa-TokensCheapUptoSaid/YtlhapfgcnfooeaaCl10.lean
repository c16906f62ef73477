/- TokensCheap: for every fair and the rest of small bulk the law returns true, and all read as before. No condition beyond the statement's own. -/
import Derived.Test.YtlhapfgcnfooeaaBk
import Derived.Test.YtlhapfgcnfooeaaLw23

namespace Go.Proofs.Ytlhapfgcnfooeaa
open Go.Vi Go.Proofs.Try.V
set_option maxRecDepth 100000 in
theorem lifted10 (os : Os) (started : os.Started) (H : Type) (enc : TypeId × Value → H) (F : Stop.Interp) :
    ReturnsInHanded {} Try.checked os 10 .any ((Rows.OpenSpec.upto Rows.tokensCheapSpec).pre6 enc Try.prog Try.f10 Rows.tokensCheapUptoRow.domain false) (((Rows.OpenSpec.upto Rows.tokensCheapSpec).at F).post enc Try.prog Try.f10 false true false false) := by
  refine returnsInHanded_of_cond (C := Try.checked) (s := Rows.OpenSpec.upto Rows.tokensCheapSpec) (k := Rows.uptoSmall) rfl own_try started (by kernel_rfl) Try.func10
    (OpenSpec.witness (enc := enc) (C := Try.checked) (s := Rows.OpenSpec.upto Rows.tokensCheapSpec) (k := Rows.uptoSmall) rfl false ⟨#[], #[.agg #[.int .i64 0, .int .i64 0, .slice none 0 0, .slice none 0 0, .slice none 0 0, .int .i64 0, .int .i64 0, .int .i64 0], .agg #[.int .i64 0, .int .i64 0, .slice none 0 0]], []⟩ 8 (by kernel_rfl) (by kernel_rfl) (by kernel_rfl)
      (x := ([.agg [.lit (.int .i64 0), .lit (.int .i64 0), .nil, .nil, .nil, .lit (.int .i64 0), .lit (.int .i64 0), .lit (.int .i64 0)], .agg [.lit (.int .i64 0), .lit (.int .i64 0), .nil]], [], [])) (by kernel_rfl) rfl (by kernel_rfl)) ?_
  intro W base args ds gs before hval hW _ hk _
  refine law_post (s := Rows.tokensCheapSpec) h10 laidOut_try (by kernel_rfl) (rt := 4) (by kernel_rfl) Try.underlying4 rfl
    (fun ds hds => match ds, hds with | [_, _], _ => rfl) (fun d _ hb => ⟨(), ?_⟩) hval hW hk
  have hb2 : bulk fairTy d.1 + (bulk (.str (.pair (.int .i64) (.pair (.int .i64) intsTy))) d.2.1 + 0) ≤ 1048576 := hb
  have e : bulk (.str (.pair (.int .i64) (.pair (.int .i64) intsTy))) d.2.1 = (1 + (1 + bulk intsTy d.2.1.2.2)) + 1 := rfl
  have hl := bulk_ints d.2.1.2.2
  exact law10 d.1 (sized_bulk (by omega)) d.2.1 (by omega)

theorem tokensCheap_upto : Rows.TokensCheapUptoSaid :=
  OpenClaim.holds_of_cond 10 Try.f10 rfl rfl rfl rfl rfl rfl rfl ⟨rfl, rfl, rfl, rfl, rfl⟩ rfl rfl rfl rfl rfl (by kernel_rfl) Try.func10 (by kernel_rfl)
    (of_decide_eq_true (by kernel_rfl)) (by unfold Func.isWrapper; first | (rw [if_pos (by decide +kernel)]; kernel_rfl) | (rw [if_neg (by decide +kernel)]; exact ⟨rfl, rfl⟩))
    (fun os started H enc _ F => lifted10 os started H enc F)
end Go.Proofs.Ytlhapfgcnfooeaa
