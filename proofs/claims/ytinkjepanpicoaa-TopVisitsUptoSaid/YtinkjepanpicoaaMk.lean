/- The makers of function values that capture numbers. No condition. -/
import Derived.Test.YtinkjepanpicoaaIt2
import Derived.Test.YtinkjepanpicoaaIb2
namespace Go.Proofs.Try.Mk
open Go.Vi
set_option maxRecDepth 100000
def tyM : List (Nat × Ty) := [(3, .int .i64)]
theorem tyM_ok : tysB Try.prog tyM = true := by kernel_rfl
theorem mixed : Try.prog.follows .mixedOrders = true := by kernel_rfl
def m49 : Maker := ⟨⟨[.v (.int .i64), .v (.int .i64)], [.v (.ptr (.int .i64)), .v (.ptr (.int .i64))], fun d => some ((some d.1, some d.2.1, ()), ())⟩, 50⟩
def c49 : Cfg := ⟨6, tyM, [], [], [], [], [], [], [], [], [], [], [], [], none⟩
theorem F49_eq (n : Nat) (d) : absMk c49 n Try.f49 (body Try.f49) [.v (.int .i64), .v (.int .i64)] 50 [.v (.ptr (.int .i64)), .v (.ptr (.int .i64))] d = some ((some d.1, some d.2.1, ()), ()) := by kernel_rfl
theorem d49 : drawOK c49 (body Try.f49) = true := by kernel_rfl
theorem k49 : Callable Try.prog 49 ∧ SoundC Try.prog 49 m49 := ⟨callable_of Try.func49 rfl (by kernel_rfl), mk_sound mixed (cfg_ok tyM_ok goodNil rfl (by kernel_rfl)) Try.func49 (c := body Try.f49) rfl rfl (loops_ok (noLoops (by kernel_rfl))) d49 (by decide) fun d y h => ⟨0, (F49_eq 0 d).trans h⟩⟩
def m67 : Maker := ⟨⟨[.v (.int .i64)], [.v (.ptr (.int .i64))], fun d => some ((some d.1, ()), ())⟩, 68⟩
def c67 : Cfg := ⟨4, tyM, [], [], [], [], [], [], [], [], [], [], [], [], none⟩
theorem F67_eq (n : Nat) (d) : absMk c67 n Try.f67 (body Try.f67) [.v (.int .i64)] 68 [.v (.ptr (.int .i64))] d = some ((some d.1, ()), ()) := by kernel_rfl
theorem d67 : drawOK c67 (body Try.f67) = true := by kernel_rfl
theorem k67 : Callable Try.prog 67 ∧ SoundC Try.prog 67 m67 := ⟨callable_of Try.func67 rfl (by kernel_rfl), mk_sound mixed (cfg_ok tyM_ok goodNil rfl (by kernel_rfl)) Try.func67 (c := body Try.f67) rfl rfl (loops_ok (noLoops (by kernel_rfl))) d67 (by decide) fun d y h => ⟨0, (F67_eq 0 d).trans h⟩⟩
end Go.Proofs.Try.Mk
