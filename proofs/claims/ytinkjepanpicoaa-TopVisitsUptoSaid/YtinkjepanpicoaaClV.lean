/- TopVisits: for every gala and days of small bulk the law returns true, and all read as before. No condition beyond the statement's own. -/
import Derived.Test.YtinkjepanpicoaaT12v
import Derived.Test.YtinkjepanpicoaaRows
namespace Go.Proofs.Ytinkjepanpicoaa
open Go.Vi Go.Proofs.Try.V
theorem own_try : ownKnob Try.prog.godebug = none := by kernel_rfl
theorem laidOut_try : laidOutB Try.prog = true := by kernel_rfl
end Go.Proofs.Ytinkjepanpicoaa

namespace Go.Proofs.Ytinkjepanpicoaa
open Go.Vi Go.Proofs.Try.V
set_option maxRecDepth 100000 in
theorem liftedV (os : Os) (started : os.Started) (H : Type) (enc : TypeId × Value → H) (F : Stop.Interp) :
    ReturnsInHanded {} Try.checked os 4 .any ((Rows.OpenSpec.upto Rows.topVisitsSpec).pre6 enc Try.prog Try.f4 Rows.topVisitsUptoRow.domain false) (((Rows.OpenSpec.upto Rows.topVisitsSpec).at F).post enc Try.prog Try.f4 false true false false) := by
  refine returnsInHanded_of_cond (C := Try.checked) (s := Rows.OpenSpec.upto Rows.topVisitsSpec) (k := Rows.uptoSmall) rfl own_try started (by kernel_rfl) Try.func4
    (OpenSpec.witness (enc := enc) (C := Try.checked) (s := Rows.OpenSpec.upto Rows.topVisitsSpec) (k := Rows.uptoSmall) rfl false ⟨#[], #[.agg #[.slice none 0 0, .int .i64 0, .slice none 0 0, .slice none 0 0, .slice none 0 0, .slice none 0 0, .int .i64 0, .slice none 0 0, .slice none 0 0, .int .i64 0, .int .i64 0, .int .i64 0, .slice none 0 0, .slice none 0 0], .agg #[.int .i64 0, .int .i64 0, .int .i64 0, .int .i64 0]], []⟩ 24 (by kernel_rfl) (by kernel_rfl) (by kernel_rfl)
      (x := ([.agg [.agg [.nil, .lit (.int .i64 0)], .agg [.nil, .nil, .nil], .nil, .lit (.int .i64 0), .agg [.nil, .nil, .lit (.int .i64 0), .lit (.int .i64 0), .lit (.int .i64 0)], .nil, .nil], .agg [.lit (.int .i64 0), .lit (.int .i64 0), .lit (.int .i64 0), .lit (.int .i64 0)]], [], [])) (by kernel_rfl) rfl (by kernel_rfl)) ?_
  intro W base args ds gs before hval hW _ hk _
  refine law_post (s := Rows.topVisitsSpec) h4 laidOut_try (by kernel_rfl) (rt := 4) (by kernel_rfl) Try.underlying4 rfl
    (fun ds hds => match ds, hds with | [_, _], _ => rfl) (fun d _ _ => ⟨(), ?_⟩) hval hW hk
  exact Top.law_visits d.1 d.2.1

theorem topVisits_upto : Rows.TopVisitsUptoSaid :=
  OpenClaim.holds_of_cond 4 Try.f4 rfl rfl rfl rfl rfl rfl rfl ⟨rfl, rfl, rfl, rfl, rfl⟩ rfl rfl rfl rfl rfl (by kernel_rfl) Try.func4 (by kernel_rfl)
    (of_decide_eq_true (by kernel_rfl)) (by unfold Func.isWrapper; first | (rw [if_pos (by decide +kernel)]; kernel_rfl) | (rw [if_neg (by decide +kernel)]; exact ⟨rfl, rfl⟩))
    (fun os started H enc _ F => liftedV os started H enc F)
end Go.Proofs.Ytinkjepanpicoaa
