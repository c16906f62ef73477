/- PowerPlays: for every arguments of small bulk the law returns true, and all read as before. No condition beyond the statement's own. -/
import Derived.Test.YtpjgcimbnhhndaaBk
import Derived.Test.YtpjgcimbnhhndaaLw32

namespace Go.Proofs.Ytpjgcimbnhhndaa
open Go.Vi Go.Proofs.Try.V
set_option maxRecDepth 100000 in
theorem lifted5 (os : Os) (started : os.Started) (H : Type) (enc : TypeId × Value → H) (F : Stop.Interp) :
    ReturnsInHanded {} Try.checked os 5 .any ((Rows.OpenSpec.upto Rows.powerPlaysSpec).pre6 enc Try.prog Try.f5 Rows.powerPlaysUptoRow.domain false) (((Rows.OpenSpec.upto Rows.powerPlaysSpec).at F).post enc Try.prog Try.f5 false true false false) := by
  refine returnsInHanded_of_cond (C := Try.checked) (s := Rows.OpenSpec.upto Rows.powerPlaysSpec) (k := Rows.uptoSmall) rfl own_try started (by kernel_rfl) Try.func5
    (OpenSpec.witness (enc := enc) (C := Try.checked) (s := Rows.OpenSpec.upto Rows.powerPlaysSpec) (k := Rows.uptoSmall) rfl false ⟨#[], #[.agg #[.slice none 0 0, .slice none 0 0, .int .i64 0, .int .i64 0, .int .i64 0], .int .i64 0, .slice none 0 0], []⟩ 8 (by kernel_rfl) (by kernel_rfl) (by kernel_rfl)
      (x := ([.agg [.nil, .nil, .lit (.int .i64 0), .lit (.int .i64 0), .lit (.int .i64 0)], .lit (.int .i64 0), .nil], [], [])) (by kernel_rfl) rfl (by kernel_rfl)) ?_
  intro W base args ds gs before hval hW _ hk _
  refine law_post (s := Rows.powerPlaysSpec) h5 laidOut_try (by kernel_rfl) (rt := 4) (by kernel_rfl) Try.underlying4 rfl
    (fun ds hds => match ds, hds with | [_, _, _], _ => rfl) (fun d _ hb => ⟨(), ?_⟩) hval hW hk
  exact plays_law d.1 d.2.1 d.2.2.1

theorem powerPlays_upto : Rows.PowerPlaysUptoSaid :=
  OpenClaim.holds_of_cond 5 Try.f5 rfl rfl rfl rfl rfl rfl rfl ⟨rfl, rfl, rfl, rfl, rfl⟩ rfl rfl rfl rfl rfl (by kernel_rfl) Try.func5 (by kernel_rfl)
    (of_decide_eq_true (by kernel_rfl)) (by unfold Func.isWrapper; first | (rw [if_pos (by decide +kernel)]; kernel_rfl) | (rw [if_neg (by decide +kernel)]; exact ⟨rfl, rfl⟩))
    (fun os started H enc _ F => lifted5 os started H enc F)
end Go.Proofs.Ytpjgcimbnhhndaa
