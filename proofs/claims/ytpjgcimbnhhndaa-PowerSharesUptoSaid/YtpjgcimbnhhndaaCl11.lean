/- PowerShares: for every arguments of small bulk the law returns true, and all read as before. No condition beyond the statement's own. -/

import Derived.Test.YtpjgcimbnhhndaaLs34

namespace Go.Proofs.Ytpjgcimbnhhndaa
open Go.Vi Go.Proofs.Try.V
set_option maxRecDepth 100000 in
theorem lifted11 (os : Os) (started : os.Started) (H : Type) (enc : TypeId × Value → H) (F : Stop.Interp) :
    ReturnsInHanded {} Try.checked os 11 .any ((Rows.OpenSpec.upto Rows.powerSharesSpec).pre6 enc Try.prog Try.f11 Rows.powerSharesUptoRow.domain false) (((Rows.OpenSpec.upto Rows.powerSharesSpec).at F).post enc Try.prog Try.f11 false true false false) := by
  refine returnsInHanded_of_cond (C := Try.checked) (s := Rows.OpenSpec.upto Rows.powerSharesSpec) (k := Rows.uptoSmall) rfl own_try started (by kernel_rfl) Try.func11
    (OpenSpec.witness (enc := enc) (C := Try.checked) (s := Rows.OpenSpec.upto Rows.powerSharesSpec) (k := Rows.uptoSmall) rfl false ⟨#[], #[.slice none 0 0], []⟩ 8 (by kernel_rfl) (by kernel_rfl) (by kernel_rfl)
      (x := ([.nil], [], [])) (by kernel_rfl) rfl (by kernel_rfl)) ?_
  intro W base args ds gs before hval hW _ hk _
  refine law_post (s := Rows.powerSharesSpec) h11 laidOut_try (by kernel_rfl) (rt := 4) (by kernel_rfl) Try.underlying4 rfl
    (fun ds hds => match ds, hds with | [_], _ => rfl) (fun d _ hb => ⟨(), ?_⟩) hval hW hk
  have hl := bulk_ints d.1
  have hb2 : bulk intsTy d.1 + 0 ≤ 1048576 := hb
  exact law11 d.1 (by omega)

theorem powerShares_upto : Rows.PowerSharesUptoSaid :=
  OpenClaim.holds_of_cond 11 Try.f11 rfl rfl rfl rfl rfl rfl rfl ⟨rfl, rfl, rfl, rfl, rfl⟩ rfl rfl rfl rfl rfl (by kernel_rfl) Try.func11 (by kernel_rfl)
    (of_decide_eq_true (by kernel_rfl)) (by unfold Func.isWrapper; first | (rw [if_pos (by decide +kernel)]; kernel_rfl) | (rw [if_neg (by decide +kernel)]; exact ⟨rfl, rfl⟩))
    (fun os started H enc _ F => lifted11 os started H enc F)
end Go.Proofs.Ytpjgcimbnhhndaa
