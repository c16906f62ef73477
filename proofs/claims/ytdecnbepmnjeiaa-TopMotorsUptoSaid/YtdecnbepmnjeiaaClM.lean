/- TopMotors: for every circuit, presses and motors of small bulk the law returns true, and all read as before. No condition beyond the statement's own. -/
import Derived.Test.YtdecnbepmnjeiaaT05m
import Derived.Test.YtdecnbepmnjeiaaRows
namespace Go.Proofs.Ytdecnbepmnjeiaa
open Go.Vi Go.Proofs.Try.V
theorem own_try : ownKnob Try.prog.godebug = none := by kernel_rfl
theorem qje : laidOutB Try.prog = true := by kernel_rfl
end Go.Proofs.Ytdecnbepmnjeiaa
namespace Go.Proofs.Ytdecnbepmnjeiaa
open Go.Vi Go.Proofs.Try.V
set_option maxRecDepth 100000 in
theorem liftedM (os : Os) (started : os.Started) (H : Type) (enc : TypeId × Value → H) (F : Stop.Interp) :
  ReturnsInHanded {} Try.checked os 3 .any ((Rows.OpenSpec.upto Rows.topMotorsSpec).pre6 enc Try.prog Try.f3 Rows.topMotorsUptoRow.domain false) (((Rows.OpenSpec.upto Rows.topMotorsSpec).at F).post enc Try.prog Try.f3 false true false false) := by
 refine returnsInHanded_of_cond (C := Try.checked) (s := Rows.OpenSpec.upto Rows.topMotorsSpec) (k := Rows.uptoSmall) rfl own_try started (by kernel_rfl) Try.func3
  (OpenSpec.witness (enc := enc) (C := Try.checked) (s := Rows.OpenSpec.upto Rows.topMotorsSpec) (k := Rows.uptoSmall) rfl false ⟨#[], #[.agg #[.slice none 0 0, .slice none 0 0], .slice none 0 0, .agg #[.int .i64 0, .int .i64 0, .slice none 0 0]], []⟩ 24 (by kernel_rfl) (by kernel_rfl) (by kernel_rfl)
   (x := ([.agg [.nil, .nil], .nil, .agg [.lit (.int .i64 0), .lit (.int .i64 0), .nil]], [], [])) (by kernel_rfl) rfl (by kernel_rfl)) ?_
 intro W base args ds gs before hval hW _ hk _
 refine law_post (s := Rows.topMotorsSpec) h3 qje (by kernel_rfl) (rt := 4) (by kernel_rfl) Try.underlying4 rfl
  (fun ds hds => match ds, hds with | [_, _, _], _ => rfl) (fun d _ _ => ⟨(), ?_⟩) hval hW hk
 exact Top.law_motors d.1 d.2.1 d.2.2.1
theorem topMotors_upto : Rows.TopMotorsUptoSaid :=
 OpenClaim.holds_of_cond 3 Try.f3 rfl rfl rfl rfl rfl rfl rfl ⟨rfl, rfl, rfl, rfl, rfl⟩ rfl rfl rfl rfl rfl (by kernel_rfl) Try.func3 (by kernel_rfl)
  (of_decide_eq_true (by kernel_rfl)) (by unfold Func.isWrapper; first | (rw [if_pos (by decide +kernel)]; kernel_rfl) | (rw [if_neg (by decide +kernel)]; exact ⟨rfl, rfl⟩))
  (fun os started H enc _ F => liftedM os started H enc F)
end Go.Proofs.Ytdecnbepmnjeiaa
