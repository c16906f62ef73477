/- The makers of function values that capture numbers. No condition. -/
import Derived.Test.YtealdoeaafoemaaGreatIt2
import Derived.Test.YtealdoeaafoemaaGreatIb2
namespace Go.Proofs.Tryz.Mk
open Go.Vi
set_option maxRecDepth 100000
def tyM : List (Nat × Ty) := [(3, .int .i64)]
theorem qfr : tysB Tryz.prog tyM = true := by kernel_rfl
theorem qcL : Tryz.prog.follows .mixedOrders = true := by kernel_rfl
def m49 : qdn := ⟨⟨[.v (.int .i64), .v (.int .i64)], [.v (.ptr (.int .i64)), .v (.ptr (.int .i64))], fun d => some ((some d.1, some d.2.1, ()), ())⟩, 50⟩
def c49 : qS := ⟨6, tyM, [], [], [], [], [], [], [], [], [], [], [], [], none⟩
theorem F49_eq (n : Nat) (d) : qj3 c49 n Tryz.f49 (body Tryz.f49) [.v (.int .i64), .v (.int .i64)] 50 [.v (.ptr (.int .i64)), .v (.ptr (.int .i64))] d = some ((some d.1, some d.2.1, ()), ()) := by kernel_rfl
theorem d49 : ql c49 (body Tryz.f49) = true := by kernel_rfl
theorem k49 : jJ Tryz.prog 49 ∧ qc6 Tryz.prog 49 m49 := ⟨qab Tryz.func49 rfl (by kernel_rfl), qe9 qcL (qp qfr qh rfl (by kernel_rfl)) Tryz.func49 (c := body Tryz.f49) rfl rfl (qam (qr (by kernel_rfl))) d49 (by decide) fun d y h => ⟨0, (F49_eq 0 d).trans h⟩⟩
def m65 : qdn := ⟨⟨[.v (.int .i64)], [.v (.ptr (.int .i64))], fun d => some ((some d.1, ()), ())⟩, 66⟩
def c65 : qS := ⟨4, tyM, [], [], [], [], [], [], [], [], [], [], [], [], none⟩
theorem F65_eq (n : Nat) (d) : qj3 c65 n Tryz.f65 (body Tryz.f65) [.v (.int .i64)] 66 [.v (.ptr (.int .i64))] d = some ((some d.1, ()), ()) := by kernel_rfl
theorem d65 : ql c65 (body Tryz.f65) = true := by kernel_rfl
theorem k65 : jJ Tryz.prog 65 ∧ qc6 Tryz.prog 65 m65 := ⟨qab Tryz.func65 rfl (by kernel_rfl), qe9 qcL (qp qfr qh rfl (by kernel_rfl)) Tryz.func65 (c := body Tryz.f65) rfl rfl (qam (qr (by kernel_rfl))) d65 (by decide) fun d y h => ⟨0, (F65_eq 0 d).trans h⟩⟩
end Go.Proofs.Tryz.Mk
