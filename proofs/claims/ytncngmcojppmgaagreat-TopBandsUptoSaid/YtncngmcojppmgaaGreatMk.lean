/- The makers of function values that capture numbers. No condition. -/
import Derived.Test.YtncngmcojppmgaaGreatVi40
import Derived.Test.YtncngmcojppmgaaGreatProg
namespace Go.Proofs.Tryz.Mk
open Go.Vi
set_option maxRecDepth 100000
def tyM : List (Nat × Ty) := [(3, .int .i64)]
theorem tyM_ok : tysB Tryz.prog tyM = true := by kernel_rfl
theorem qb4 : Tryz.prog.follows .mixedOrders = true := by kernel_rfl
def m36 : qep := ⟨⟨[.v (.int .i64), .v (.int .i64)], [.v (.ptr (.int .i64)), .v (.ptr (.int .i64))], fun d => some ((some d.1, some d.2.1, ()), ())⟩, 37⟩
def c36 : jM := ⟨6, tyM, [], [], [], [], [], [], [], [], [], [], [], [], none, [], []⟩
theorem F36_eq (n : Nat) (d) : absMk c36 n Tryz.f36 (body Tryz.f36) [.v (.int .i64), .v (.int .i64)] 37 [.v (.ptr (.int .i64)), .v (.ptr (.int .i64))] d = some ((some d.1, some d.2.1, ()), ()) := by kernel_rfl
theorem d36 : qw c36 (body Tryz.f36) = true := by kernel_rfl
theorem k36 : jO Tryz.prog 36 ∧ qeH Tryz.prog 36 m36 := ⟨qbd Tryz.func36 rfl (by kernel_rfl), mk_sound qb4 (qH tyM_ok qv rfl (by kernel_rfl)) Tryz.func36 (c := body Tryz.f36) rfl rfl (qbh (qL (by kernel_rfl))) d36 (by decide) fun d y h => ⟨0, (F36_eq 0 d).trans h⟩⟩
end Go.Proofs.Tryz.Mk
