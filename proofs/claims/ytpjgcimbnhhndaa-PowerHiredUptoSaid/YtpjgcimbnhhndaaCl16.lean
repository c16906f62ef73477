/- PowerHired: for every arguments of small bulk the law returns true, and all read as before. No condition beyond the statement's own. -/
import Derived.Test.YtpjgcimbnhhndaaBk
import Derived.Test.YtpjgcimbnhhndaaLw27

namespace Go.Proofs.Ytpjgcimbnhhndaa
open Go.Vi Go.Proofs.Try.V
set_option maxRecDepth 100000 in
theorem lifted16 (os : Os) (started : os.Started) (H : Type) (enc : TypeId × Value → H) (F : Stop.Interp) :
    ReturnsInHanded {} Try.checked os 16 .any ((Rows.OpenSpec.upto Rows.powerHiredSpec).pre6 enc Try.prog Try.f16 Rows.powerHiredUptoRow.domain false) (((Rows.OpenSpec.upto Rows.powerHiredSpec).at F).post enc Try.prog Try.f16 false true false false) := by
  refine returnsInHanded_of_cond (C := Try.checked) (s := Rows.OpenSpec.upto Rows.powerHiredSpec) (k := Rows.uptoSmall) rfl own_try started (by kernel_rfl) Try.func16
    (OpenSpec.witness (enc := enc) (C := Try.checked) (s := Rows.OpenSpec.upto Rows.powerHiredSpec) (k := Rows.uptoSmall) rfl false ⟨#[], #[.slice none 0 0, .slice none 0 0, .agg #[.int .i64 0, .int .i64 0, .slice none 0 0]], []⟩ 8 (by kernel_rfl) (by kernel_rfl) (by kernel_rfl)
      (x := ([.nil, .nil, .agg [.lit (.int .i64 0), .lit (.int .i64 0), .nil]], [], [])) (by kernel_rfl) rfl (by kernel_rfl)) ?_
  intro W base args ds gs before hval hW _ hk _
  refine law_post (s := Rows.powerHiredSpec) h16 laidOut_try (by kernel_rfl) (rt := 4) (by kernel_rfl) Try.underlying4 rfl
    (fun ds hds => match ds, hds with | [_, _, _], _ => rfl) (fun d _ hb => ⟨(), ?_⟩) hval hW hk
  have hb2 : bulk intsTy d.1 + (bulk intsTy d.2.1 + (bulk (.str (.pair (.int .i64) (.pair (.int .i64) intsTy))) d.2.2.1 + 0)) ≤ 1048576 := hb
  have e : bulk (.str (.pair (.int .i64) (.pair (.int .i64) intsTy))) d.2.2.1 = (1 + (1 + bulk intsTy d.2.2.1.2.2)) + 1 := rfl
  have hl := bulk_ints d.2.2.1.2.2
  exact hired_law d.1 d.2.1 d.2.2.1 (by omega)

theorem powerHired_upto : Rows.PowerHiredUptoSaid :=
  OpenClaim.holds_of_cond 16 Try.f16 rfl rfl rfl rfl rfl rfl rfl ⟨rfl, rfl, rfl, rfl, rfl⟩ rfl rfl rfl rfl rfl (by kernel_rfl) Try.func16 (by kernel_rfl)
    (of_decide_eq_true (by kernel_rfl)) (by unfold Func.isWrapper; first | (rw [if_pos (by decide +kernel)]; kernel_rfl) | (rw [if_neg (by decide +kernel)]; exact ⟨rfl, rfl⟩))
    (fun os started H enc _ F => lifted16 os started H enc F)
end Go.Proofs.Ytpjgcimbnhhndaa
