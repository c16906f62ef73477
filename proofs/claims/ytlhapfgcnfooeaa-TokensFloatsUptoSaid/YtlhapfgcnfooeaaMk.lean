/- The maker of a function value that captures two numbers. No condition. -/
import Derived.Test.YtlhapfgcnfooeaaVi40
import Derived.Test.YtlhapfgcnfooeaaProg
namespace Go.Proofs.Try.Mk
open Go.Vi
set_option maxRecDepth 100000
def m47 : Maker := ⟨⟨[.v (.int .i64), .v (.int .i64)], [.v (.ptr (.int .i64)), .v (.ptr (.int .i64))], fun d => some ((some d.1, some d.2.1, ()), ())⟩, 48⟩
def tyM : List (Nat × Ty) := [(3, .int .i64)]
theorem tyM_ok : tysB Try.prog tyM = true := by kernel_rfl
theorem mixed : Try.prog.follows .mixedOrders = true := by kernel_rfl
def c47 : Cfg := ⟨6, tyM, [], [], [], [], [], [], [], [], [], [], [], []⟩
theorem F47_eq (n : Nat) (d) : absMk c47 n Try.f47 (body Try.f47) [.v (.int .i64), .v (.int .i64)] 48 [.v (.ptr (.int .i64)), .v (.ptr (.int .i64))] d = some ((some d.1, some d.2.1, ()), ()) := by kernel_rfl
theorem d47 : drawOK c47 (body Try.f47) = true := by kernel_rfl
theorem k47 : Callable Try.prog 47 ∧ SoundC Try.prog 47 m47 := ⟨callable_of Try.func47 rfl (by kernel_rfl), mk_sound mixed (cfg_ok tyM_ok goodNil rfl (by kernel_rfl)) Try.func47 (c := body Try.f47) rfl rfl (loops_ok (noLoops (by kernel_rfl))) d47 (by decide) fun d y h => ⟨0, (F47_eq 0 d).trans h⟩⟩
end Go.Proofs.Try.Mk
