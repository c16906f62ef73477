/- The makers of function values that capture numbers. No condition. -/
import Derived.Test.YtdecnbepmnjeiaaIt2
import Derived.Test.YtdecnbepmnjeiaaIt3
namespace Go.Proofs.Try.Mk
open Go.Vi
set_option maxRecDepth 100000
def tyM : List (Nat × Ty) := [(3, .int .i64)]
theorem qjx : tysB Try.prog tyM = true := by kernel_rfl
theorem mixed : Try.prog.follows .mixedOrders = true := by kernel_rfl
def m50 : qdX := ⟨⟨[.v (.int .i64), .v (.int .i64)], [.v (.ptr (.int .i64)), .v (.ptr (.int .i64))], fun d => some ((some d.1, some d.2.1, ()), ())⟩, 51⟩
def c50 : jN := ⟨6, tyM, [], [], [], [], [], [], [], [], [], [], [], [], none⟩
theorem F50_eq (n : Nat) (d) : absMk c50 n Try.f50 (body Try.f50) [.v (.int .i64), .v (.int .i64)] 51 [.v (.ptr (.int .i64)), .v (.ptr (.int .i64))] d = some ((some d.1, some d.2.1, ()), ()) := by kernel_rfl
theorem d50 : qr c50 (body Try.f50) = true := by kernel_rfl
theorem k50 : jT Try.prog 50 ∧ qdW Try.prog 50 m50 := ⟨qaS Try.func50 rfl (by kernel_rfl), qi7 mixed (qH qjx qu rfl (by kernel_rfl)) Try.func50 (c := body Try.f50) rfl rfl (qaw (qT (by kernel_rfl))) d50 (by decide) fun d y h => ⟨0, (F50_eq 0 d).trans h⟩⟩
end Go.Proofs.Try.Mk
