/- The makers of function values that capture numbers. No condition. -/
import Derived.Test.YtinkjepanpicoaaGreatIt2
import Derived.Test.YtinkjepanpicoaaGreatIb2
namespace Go.Proofs.Tryz.Mk
open Go.Vi
set_option maxRecDepth 100000
def tyM : List (Nat × Ty) := [(3, .int .i64)]
theorem qee : tysB Tryz.prog tyM = true := by kernel_rfl
theorem mixed : Tryz.prog.follows .mixedOrders = true := by kernel_rfl
def m77 : qcA := ⟨⟨[.v (.int .i64), .v (.int .i64)], [.v (.ptr (.int .i64)), .v (.ptr (.int .i64))], fun d => some ((some d.1, some d.2.1, ()), ())⟩, 78⟩
def c77 : qX := ⟨6, tyM, [], [], [], [], [], [], [], [], [], [], [], [], none⟩
theorem F77_eq (n : Nat) (d) : qh1 c77 n Tryz.f77 (body Tryz.f77) [.v (.int .i64), .v (.int .i64)] 78 [.v (.ptr (.int .i64)), .v (.ptr (.int .i64))] d = some ((some d.1, some d.2.1, ()), ()) := by kernel_rfl
theorem d77 : qn c77 (body Tryz.f77) = true := by kernel_rfl
theorem k77 : jI Tryz.prog 77 ∧ qcp Tryz.prog 77 m77 := ⟨qaq Tryz.func77 rfl (by kernel_rfl), qdG mixed (qo qee qh rfl (by kernel_rfl)) Tryz.func77 (c := body Tryz.f77) rfl rfl (qav (qr (by kernel_rfl))) d77 (by decide) fun d y h => ⟨0, (F77_eq 0 d).trans h⟩⟩
def m23 : qcA := ⟨⟨[.v (.int .i64)], [.v (.ptr (.int .i64))], fun d => some ((some d.1, ()), ())⟩, 24⟩
def c23 : qX := ⟨4, tyM, [], [], [], [], [], [], [], [], [], [], [], [], none⟩
theorem F23_eq (n : Nat) (d) : qh1 c23 n Tryz.f23 (body Tryz.f23) [.v (.int .i64)] 24 [.v (.ptr (.int .i64))] d = some ((some d.1, ()), ()) := by kernel_rfl
theorem d23 : qn c23 (body Tryz.f23) = true := by kernel_rfl
theorem k23 : jI Tryz.prog 23 ∧ qcp Tryz.prog 23 m23 := ⟨qaq Tryz.func23 rfl (by kernel_rfl), qdG mixed (qo qee qh rfl (by kernel_rfl)) Tryz.func23 (c := body Tryz.f23) rfl rfl (qav (qr (by kernel_rfl))) d23 (by decide) fun d y h => ⟨0, (F23_eq 0 d).trans h⟩⟩
def m33 : qcA := ⟨⟨[.v (.int .i64), .v (.int .i64)], [.v (.ptr (.int .i64)), .v (.ptr (.int .i64))], fun d => some ((some d.1, some d.2.1, ()), ())⟩, 34⟩
def c33 : qX := ⟨6, tyM, [], [], [], [], [], [], [], [], [], [], [], [], none⟩
theorem F33_eq (n : Nat) (d) : qh1 c33 n Tryz.f33 (body Tryz.f33) [.v (.int .i64), .v (.int .i64)] 34 [.v (.ptr (.int .i64)), .v (.ptr (.int .i64))] d = some ((some d.1, some d.2.1, ()), ()) := by kernel_rfl
theorem d33 : qn c33 (body Tryz.f33) = true := by kernel_rfl
theorem k33 : jI Tryz.prog 33 ∧ qcp Tryz.prog 33 m33 := ⟨qaq Tryz.func33 rfl (by kernel_rfl), qdG mixed (qo qee qh rfl (by kernel_rfl)) Tryz.func33 (c := body Tryz.f33) rfl rfl (qav (qr (by kernel_rfl))) d33 (by decide) fun d y h => ⟨0, (F33_eq 0 d).trans h⟩⟩
end Go.Proofs.Tryz.Mk
