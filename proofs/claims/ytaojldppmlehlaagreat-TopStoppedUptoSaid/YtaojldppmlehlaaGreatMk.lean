/- The makers of function values that capture numbers. No condition. -/
import Derived.Test.YtaojldppmlehlaaGreatIt2
import Derived.Test.YtaojldppmlehlaaGreatIb2
namespace Go.Proofs.Tryz.Mk
open Go.Vi
set_option maxRecDepth 100000
def tyM : List (Nat × Ty) := [(3, .int .i64)]
theorem qfa : tysB Tryz.prog tyM = true := by kernel_rfl
theorem qdB : Tryz.prog.follows .mixedOrders = true := by kernel_rfl
def m66 : qc9 := ⟨⟨[.v (.int .i64), .v (.int .i64)], [.v (.ptr (.int .i64)), .v (.ptr (.int .i64))], fun d => some ((some d.1, some d.2.1, ()), ())⟩, 67⟩
def c66 : qT := ⟨6, tyM, [], [], [], [], [], [], [], [], [], [], [], [], none⟩
theorem F66_eq (n : Nat) (d) : qjJ c66 n Tryz.f66 (body Tryz.f66) [.v (.int .i64), .v (.int .i64)] 67 [.v (.ptr (.int .i64)), .v (.ptr (.int .i64))] d = some ((some d.1, some d.2.1, ()), ()) := by kernel_rfl
theorem d66 : qj c66 (body Tryz.f66) = true := by kernel_rfl
theorem k66 : jR Tryz.prog 66 ∧ qcP Tryz.prog 66 m66 := ⟨qaq Tryz.func66 rfl (by kernel_rfl), qeQ qdB (qn qfa qh rfl (by kernel_rfl)) Tryz.func66 (c := body Tryz.f66) rfl rfl (qak (qr (by kernel_rfl))) d66 (by decide) fun d y h => ⟨0, (F66_eq 0 d).trans h⟩⟩
def m20 : qc9 := ⟨⟨[.v (.int .i64)], [.v (.ptr (.int .i64))], fun d => some ((some d.1, ()), ())⟩, 21⟩
def c20 : qT := ⟨4, tyM, [], [], [], [], [], [], [], [], [], [], [], [], none⟩
theorem F20_eq (n : Nat) (d) : qjJ c20 n Tryz.f20 (body Tryz.f20) [.v (.int .i64)] 21 [.v (.ptr (.int .i64))] d = some ((some d.1, ()), ()) := by kernel_rfl
theorem d20 : qj c20 (body Tryz.f20) = true := by kernel_rfl
theorem k20 : jR Tryz.prog 20 ∧ qcP Tryz.prog 20 m20 := ⟨qaq Tryz.func20 rfl (by kernel_rfl), qeQ qdB (qn qfa qh rfl (by kernel_rfl)) Tryz.func20 (c := body Tryz.f20) rfl rfl (qak (qr (by kernel_rfl))) d20 (by decide) fun d y h => ⟨0, (F20_eq 0 d).trans h⟩⟩
end Go.Proofs.Tryz.Mk
