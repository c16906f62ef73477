/- BuildLoads: for every kit and list of small bulk the law returns true, and all read as before. No condition beyond the statement's own. -/
import Derived.Test.YtjhphibadndkcaaCl0
import Derived.Test.YtjhphibadndkcaaLw28

namespace Go.Proofs.Ytjhphibadndkcaa
open Go.Vi Go.Proofs.Try.V
set_option maxRecDepth 100000 in
theorem lifted13 (os : Os) (started : os.Started) (H : Type) (enc : TypeId × Value → H) (F : Stop.Interp) :
    ReturnsInHanded {} Try.checked os 13 .any ((Rows.OpenSpec.upto Rows.buildLoadsSpec).pre6 enc Try.prog Try.f13 Rows.buildLoadsUptoRow.domain false) (((Rows.OpenSpec.upto Rows.buildLoadsSpec).at F).post enc Try.prog Try.f13 false true false false) := by
  refine returnsInHanded_of_cond (C := Try.checked) (s := Rows.OpenSpec.upto Rows.buildLoadsSpec) (k := Rows.uptoSmall) rfl own_try started (by kernel_rfl) Try.func13
    (OpenSpec.witness (enc := enc) (C := Try.checked) (s := Rows.OpenSpec.upto Rows.buildLoadsSpec) (k := Rows.uptoSmall) rfl false ⟨#[], #[.agg #[.slice none 0 0, .int .i64 0, .slice none 0 0], .int .i64 0, .slice none 0 0], []⟩ 8 (by kernel_rfl) (by kernel_rfl) (by kernel_rfl)
      (x := ([.agg [.nil, .lit (.int .i64 0), .nil], .lit (.int .i64 0), .nil], [], [])) (by kernel_rfl) rfl (by kernel_rfl)) ?_
  intro W base args ds gs before hval hW _ hk _
  refine law_post (s := Rows.buildLoadsSpec) h13 laidOut_try (by kernel_rfl) (rt := 4) (by kernel_rfl) Try.underlying4 rfl
    (fun ds hds => match ds, hds with | [_, _, _], _ => rfl) (fun d _ hb => ⟨(), ?_⟩) hval hW hk
  have hb2 : bulk kitTy d.1 + (1 + (bulk intsTy d.2.2.1 + 0)) ≤ 1048576 := hb
  have hl := bulk_ints d.2.2.1
  exact law13 d.1 (small_of (by omega)) d.2.1 d.2.2.1 (by omega)

theorem buildLoads_upto : Rows.BuildLoadsUptoSaid :=
  OpenClaim.holds_of_cond 13 Try.f13 rfl rfl rfl rfl rfl rfl rfl ⟨rfl, rfl, rfl, rfl, rfl⟩ rfl rfl rfl rfl rfl (by kernel_rfl) Try.func13 (by kernel_rfl)
    (of_decide_eq_true (by kernel_rfl)) (by unfold Func.isWrapper; first | (rw [if_pos (by decide +kernel)]; kernel_rfl) | (rw [if_neg (by decide +kernel)]; exact ⟨rfl, rfl⟩))
    (fun os started H enc _ F => lifted13 os started H enc F)
end Go.Proofs.Ytjhphibadndkcaa
