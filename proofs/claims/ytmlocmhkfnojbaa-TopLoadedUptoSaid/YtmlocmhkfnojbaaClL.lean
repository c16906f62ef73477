/- TopLoaded: for every map, lorry and haul of small bulk the law returns true, and all read as before. No condition beyond the statement's own. -/
import Derived.Test.YtmlocmhkfnojbaaE5
import Derived.Test.YtmlocmhkfnojbaaRows
namespace Go.Proofs.Ytmlocmhkfnojbaa
open Go.Vi Go.Proofs.Try.V
theorem own_try : ownKnob Try.prog.godebug = none := by kernel_rfl
theorem qlC : laidOutB Try.prog = true := by kernel_rfl
end Go.Proofs.Ytmlocmhkfnojbaa
namespace Go.Proofs.Ytmlocmhkfnojbaa
open Go.Vi Go.Proofs.Try.V
set_option maxRecDepth 100000 in
theorem liftedL (os : Os) (started : os.Started) (H : Type) (enc : TypeId × Value → H) (F : Stop.Interp) :
  ReturnsInHanded {} Try.checked os 3 .any ((Rows.OpenSpec.upto Rows.topLoadedSpec).pre6 enc Try.prog Try.f3 Rows.topLoadedUptoRow.domain false) (((Rows.OpenSpec.upto Rows.topLoadedSpec).at F).post enc Try.prog Try.f3 false true false false) := by
 refine returnsInHanded_of_cond (C := Try.checked) (s := Rows.OpenSpec.upto Rows.topLoadedSpec) (k := Rows.uptoSmall) rfl own_try started (by kernel_rfl) Try.func3
  (OpenSpec.witness (enc := enc) (C := Try.checked) (s := Rows.OpenSpec.upto Rows.topLoadedSpec) (k := Rows.uptoSmall) rfl false ⟨#[], #[.agg #[.slice none 0 0, .slice none 0 0], .agg #[.int .i64 0, .int .i64 0, .int .i64 0, .int .i64 0, .int .i64 0, .int .i64 0], .agg #[.slice none 0 0, .int .i64 0, .slice none 0 0, .int .i64 0, .int .i64 0, .int .i64 0]], []⟩ 24 (by kernel_rfl) (by kernel_rfl) (by kernel_rfl)
   (x := ([.agg [.nil, .nil], .agg [.lit (.int .i64 0), .lit (.int .i64 0), .lit (.int .i64 0), .lit (.int .i64 0), .lit (.int .i64 0), .lit (.int .i64 0)], .agg [.agg [.nil, .lit (.int .i64 0), .nil], .lit (.int .i64 0), .lit (.int .i64 0), .lit (.int .i64 0)]], [], [])) (by kernel_rfl) rfl (by kernel_rfl)) ?_
 intro W base args ds gs before hval hW _ hk _
 refine law_post (s := Rows.topLoadedSpec) h3 qlC (by kernel_rfl) (rt := 4) (by kernel_rfl) Try.underlying4 rfl
  (fun ds hds => match ds, hds with | [_, _, _], _ => rfl) (fun d _ _ => ⟨(), ?_⟩) hval hW hk
 exact Cv.law_loads d.1 d.2.1 d.2.2.1
theorem topLoaded_upto : Rows.TopLoadedUptoSaid :=
 OpenClaim.holds_of_cond 3 Try.f3 rfl rfl rfl rfl rfl rfl rfl ⟨rfl, rfl, rfl, rfl, rfl⟩ rfl rfl rfl rfl rfl (by kernel_rfl) Try.func3 (by kernel_rfl)
  (of_decide_eq_true (by kernel_rfl)) (by unfold Func.isWrapper; first | (rw [if_pos (by decide +kernel)]; kernel_rfl) | (rw [if_neg (by decide +kernel)]; exact ⟨rfl, rfl⟩))
  (fun os started H enc _ F => liftedL os started H enc F)
end Go.Proofs.Ytmlocmhkfnojbaa
