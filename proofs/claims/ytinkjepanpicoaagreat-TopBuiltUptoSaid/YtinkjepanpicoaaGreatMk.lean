/- The makers of function values that capture numbers. No condition. -/
import Derived.Test.YtinkjepanpicoaaGreatIt2
import Derived.Test.YtinkjepanpicoaaGreatIb2
namespace Go.Proofs.Tryz.Mk
open Go.Vi
set_option maxRecDepth 100000
def tyM : List (Nat × Ty) := [(3, .int .i64)]
theorem qfr : tysB Tryz.prog tyM = true := by kernel_rfl
theorem mixed : Tryz.prog.follows .mixedOrders = true := by kernel_rfl
def m77 : qcP := ⟨⟨[.v (.int .i64), .v (.int .i64)], [.v (.ptr (.int .i64)), .v (.ptr (.int .i64))], fun d => some ((some d.1, some d.2.1, ()), ())⟩, 78⟩
def c77 : qW := ⟨6, tyM, [], [], [], [], [], [], [], [], [], [], [], [], none⟩
theorem F77_eq (n : Nat) (d) : qj9 c77 n Tryz.f77 (body Tryz.f77) [.v (.int .i64), .v (.int .i64)] 78 [.v (.ptr (.int .i64)), .v (.ptr (.int .i64))] d = some ((some d.1, some d.2.1, ()), ()) := by kernel_rfl
theorem d77 : ql c77 (body Tryz.f77) = true := by kernel_rfl
theorem k77 : jH Tryz.prog 77 ∧ qcW Tryz.prog 77 m77 := ⟨qat Tryz.func77 rfl (by kernel_rfl), qe4 mixed (qn qfr qh rfl (by kernel_rfl)) Tryz.func77 (c := body Tryz.f77) rfl rfl (qaI (qr (by kernel_rfl))) d77 (by decide) fun d y h => ⟨0, (F77_eq 0 d).trans h⟩⟩
def m23 : qcP := ⟨⟨[.v (.int .i64)], [.v (.ptr (.int .i64))], fun d => some ((some d.1, ()), ())⟩, 24⟩
def c23 : qW := ⟨4, tyM, [], [], [], [], [], [], [], [], [], [], [], [], none⟩
theorem F23_eq (n : Nat) (d) : qj9 c23 n Tryz.f23 (body Tryz.f23) [.v (.int .i64)] 24 [.v (.ptr (.int .i64))] d = some ((some d.1, ()), ()) := by kernel_rfl
theorem d23 : ql c23 (body Tryz.f23) = true := by kernel_rfl
theorem k23 : jH Tryz.prog 23 ∧ qcW Tryz.prog 23 m23 := ⟨qat Tryz.func23 rfl (by kernel_rfl), qe4 mixed (qn qfr qh rfl (by kernel_rfl)) Tryz.func23 (c := body Tryz.f23) rfl rfl (qaI (qr (by kernel_rfl))) d23 (by decide) fun d y h => ⟨0, (F23_eq 0 d).trans h⟩⟩
def m33 : qcP := ⟨⟨[.v (.int .i64), .v (.int .i64)], [.v (.ptr (.int .i64)), .v (.ptr (.int .i64))], fun d => some ((some d.1, some d.2.1, ()), ())⟩, 34⟩
def c33 : qW := ⟨6, tyM, [], [], [], [], [], [], [], [], [], [], [], [], none⟩
theorem d33 : ql c33 (body Tryz.f33) = true := by kernel_rfl
end Go.Proofs.Tryz.Mk
