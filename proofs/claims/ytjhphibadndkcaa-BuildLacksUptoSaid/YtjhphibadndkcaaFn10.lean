/- The contracts of functions of the program, printed by program from the interpreter: each says what a call returns. No condition beyond those typed in each theorem. -/
import Derived.Test.YtjhphibadndkcaaFn9
namespace Go.Proofs.Try.V
open Go.Vi
set_option maxRecDepth 100000
-- function 99
noncomputable def F99 (n : Nat) (x_0 : Int) (y_1 : Int) : Option ((Int × Int × Unit) × (Unit)) :=
  negK 32 (negK 32 (bindV (IntKind.wrap .u64 ((bitsI .and .u64 x_0 4294967295) * (bitsI .and .u64 y_1 4294967295))) fun z1 => negK 32 (bindV (IntKind.wrap .u64 ((IntKind.wrap .u64 ((shrI .u64 x_0 32) * (bitsI .and .u64 y_1 4294967295))) + (shrI .u64 z1 32))) fun z2 => negK 32 (bindV (IntKind.wrap .u64 ((bitsI .and .u64 z2 4294967295) + (IntKind.wrap .u64 ((bitsI .and .u64 x_0 4294967295) * (shrI .u64 y_1 32))))) fun z3 => negK 32 (bindV (IntKind.wrap .u64 ((IntKind.wrap .u64 ((IntKind.wrap .u64 ((shrI .u64 x_0 32) * (shrI .u64 y_1 32))) + (shrI .u64 z2 32))) + (shrI .u64 z3 32))) fun z4 => some ((z4, (IntKind.wrap .u64 (x_0 * y_1)), ()), ()))))))
noncomputable def g99 (d : Int × Int × Unit) : Option ((Int × Int × Unit) × (Unit)) := F99 fuel d.1 d.2.1
noncomputable def p99 : Prim := ⟨[.v (.int .u64), .v (.int .u64)], [.v (.int .u64), .v (.int .u64)], g99⟩
noncomputable def c99 : Cfg := ⟨51, tyT, [], [], [], [], []⟩
theorem F99_eq (n : Nat) (d) : absFn c99 n Try.f99 (body Try.f99) [.v (.int .u64), .v (.int .u64)] [.v (.int .u64), .v (.int .u64)] d = F99 n d.1 d.2.1 := by kernel_rfl
theorem d99 : drawOK c99 (body Try.f99) = true := by kernel_rfl
theorem h99 : GoodF Try.prog 99 p99 := fn_done mixed (cfg := c99) (cfg_ok tyT_ok (goodNil) rfl (by kernel_rfl)) Try.func99 rfl rfl (by kernel_rfl) rfl (noLoops (by kernel_rfl)) d99 (fun d y h => ⟨fuel, (F99_eq fuel d).trans h⟩)
-- function 96
noncomputable def F96 (n : Nat) (x_0 : Int) (y_1 : Int) : Option ((Int × Int × Unit) × (Unit)) :=
  derefK (g99 (x_0, y_1, ())) fun y1 => some ((y1.1.1, y1.1.2.1, ()), ())
noncomputable def g96 (d : Int × Int × Unit) : Option ((Int × Int × Unit) × (Unit)) := F96 fuel d.1 d.2.1
noncomputable def p96 : Prim := ⟨[.v (.int .u64), .v (.int .u64)], [.v (.int .u64), .v (.int .u64)], g96⟩
noncomputable def c96 : Cfg := ⟨30, tyT, [], [(99, p99)], [], [], []⟩
theorem F96_eq (n : Nat) (d) : absFn c96 n Try.f96 (body Try.f96) [.v (.int .u64), .v (.int .u64)] [.v (.int .u64), .v (.int .u64)] d = F96 n d.1 d.2.1 := by kernel_rfl
theorem d96 : drawOK c96 (body Try.f96) = true := by kernel_rfl
theorem h96 : GoodF Try.prog 96 p96 := fn_done mixed (cfg := c96) (cfg_ok tyT_ok (goodCons h99 goodNil) rfl (by kernel_rfl)) Try.func96 rfl rfl (by kernel_rfl) rfl (noLoops (by kernel_rfl)) d96 (fun d y h => ⟨fuel, (F96_eq fuel d).trans h⟩)
end Go.Proofs.Try.V
