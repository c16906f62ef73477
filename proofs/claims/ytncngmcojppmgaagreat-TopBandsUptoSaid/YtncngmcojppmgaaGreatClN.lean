/- TopBands: for every evening, groups and number of small bulk the law returns true, and all read as before. No condition beyond the statement's own. -/
import Derived.Test.YtncngmcojppmgaaGreatB13
import Derived.Test.YtncngmcojppmgaaGreatRows
namespace Go.Proofs.YtncngmcojppmgaaGreat
open Go.Vi Go.Proofs.Tryz.V
theorem own_try : ownKnob Tryz.prog.godebug = none := by kernel_rfl
theorem qjK : laidOutB Tryz.prog = true := by kernel_rfl
end Go.Proofs.YtncngmcojppmgaaGreat
namespace Go.Proofs.YtncngmcojppmgaaGreat
open Go.Vi Go.Proofs.Tryz.V
set_option maxRecDepth 100000 in
theorem liftedN (os : Os) (started : os.Started) (H : Type) (enc : TypeId × Value → H) (F : Stop.Interp) :
  ReturnsInHanded {} Tryz.checked os 3 .any ((Rows.OpenSpec.upto Rows.topBandsSpec).pre6 enc Tryz.prog Tryz.f3 Rows.topBandsUptoRow.domain false) (((Rows.OpenSpec.upto Rows.topBandsSpec).at F).post enc Tryz.prog Tryz.f3 false true false false) := by
 refine returnsInHanded_of_cond (C := Tryz.checked) (s := Rows.OpenSpec.upto Rows.topBandsSpec) (k := Rows.uptoSmall) rfl own_try started (by kernel_rfl) Tryz.func3
  (OpenSpec.witness (enc := enc) (C := Tryz.checked) (s := Rows.OpenSpec.upto Rows.topBandsSpec) (k := Rows.uptoSmall) rfl false ⟨#[], #[.agg #[.slice none 0 0, .int .i64 0], .slice none 0 0, .int .i64 0], []⟩ 24 (by kernel_rfl) (by kernel_rfl) (by kernel_rfl)
   (x := ([.agg [.nil, .lit (.int .i64 0)], .nil, .lit (.int .i64 0)], [], [])) (by kernel_rfl) rfl (by kernel_rfl)) ?_
 intro W base args ds gs before hval hW _ hk _
 refine law_post (s := Rows.topBandsSpec) h3 qjK (by kernel_rfl) (rt := 4) (by kernel_rfl) Tryz.underlying4 rfl
  (fun ds hds => match ds, hds with | [_, _, _], _ => rfl) (fun d _ _ => ⟨(), ?_⟩) hval hW hk
 exact Bd.law_bands d.1 d.2.1 d.2.2.1
theorem topBands_upto : Rows.TopBandsUptoSaid :=
 OpenClaim.holds_of_cond 3 Tryz.f3 rfl rfl rfl rfl rfl rfl rfl ⟨rfl, rfl, rfl, rfl, rfl⟩ rfl rfl rfl rfl rfl (by kernel_rfl) Tryz.func3 (by kernel_rfl)
  (of_decide_eq_true (by kernel_rfl)) (by unfold Func.isWrapper; first | (rw [if_pos (by decide +kernel)]; kernel_rfl) | (rw [if_neg (by decide +kernel)]; exact ⟨rfl, rfl⟩))
  (fun os started H enc _ F => liftedN os started H enc F)
end Go.Proofs.YtncngmcojppmgaaGreat
