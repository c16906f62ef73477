/- PowerEven: for every arguments of small bulk the law returns true, and all read as before. No condition beyond the statement's own. -/
import Derived.Test.YtpjgcimbnhhndaaLs35

namespace Go.Proofs.Ytpjgcimbnhhndaa
open Go.Vi Go.Proofs.Try.V
set_option maxRecDepth 100000 in
theorem lifted12 (os : Os) (started : os.Started) (H : Type) (enc : TypeId × Value → H) (F : Stop.Interp) :
    ReturnsInHanded {} Try.checked os 12 .any ((Rows.OpenSpec.upto Rows.powerEvenSpec).pre6 enc Try.prog Try.f12 Rows.powerEvenUptoRow.domain false) (((Rows.OpenSpec.upto Rows.powerEvenSpec).at F).post enc Try.prog Try.f12 false true false false) := by
  refine returnsInHanded_of_cond (C := Try.checked) (s := Rows.OpenSpec.upto Rows.powerEvenSpec) (k := Rows.uptoSmall) rfl own_try started (by kernel_rfl) Try.func12
    (OpenSpec.witness (enc := enc) (C := Try.checked) (s := Rows.OpenSpec.upto Rows.powerEvenSpec) (k := Rows.uptoSmall) rfl false ⟨#[], #[.slice none 0 0, .slice none 0 0], []⟩ 8 (by kernel_rfl) (by kernel_rfl) (by kernel_rfl)
      (x := ([.nil, .nil], [], [])) (by kernel_rfl) rfl (by kernel_rfl)) ?_
  intro W base args ds gs before hval hW _ hk _
  refine law_post (s := Rows.powerEvenSpec) h12 laidOut_try (by kernel_rfl) (rt := 4) (by kernel_rfl) Try.underlying4 rfl
    (fun ds hds => match ds, hds with | [_, _], _ => rfl) (fun d _ hb => ⟨(), ?_⟩) hval hW hk
  exact law12 d.1 d.2.1

theorem powerEven_upto : Rows.PowerEvenUptoSaid :=
  OpenClaim.holds_of_cond 12 Try.f12 rfl rfl rfl rfl rfl rfl rfl ⟨rfl, rfl, rfl, rfl, rfl⟩ rfl rfl rfl rfl rfl (by kernel_rfl) Try.func12 (by kernel_rfl)
    (of_decide_eq_true (by kernel_rfl)) (by unfold Func.isWrapper; first | (rw [if_pos (by decide +kernel)]; kernel_rfl) | (rw [if_neg (by decide +kernel)]; exact ⟨rfl, rfl⟩))
    (fun os started H enc _ F => lifted12 os started H enc F)
end Go.Proofs.Ytpjgcimbnhhndaa
