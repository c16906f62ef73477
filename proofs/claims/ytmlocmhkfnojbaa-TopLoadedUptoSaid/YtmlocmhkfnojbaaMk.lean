/- The makers of function values that capture numbers. No condition. -/
import Derived.Test.YtmlocmhkfnojbaaVi40
import Derived.Test.YtmlocmhkfnojbaaProg
namespace Go.Proofs.Try.Mk
open Go.Vi
set_option maxRecDepth 100000
def tyM:List (Nat×Ty):=[(3,.int .i64)]
theorem qmd:tysB Try.prog tyM=true:=by kernel_rfl
theorem mixed:Try.prog.follows .mixedOrders=true:=by kernel_rfl
def m45:qeV:=⟨⟨[.v (.int .i64),.v (.int .i64)],[.v (.ptr (.int .i64)),.v (.ptr (.int .i64))],λd=>some ((some d.1,some d.2.1,()),())⟩,46⟩
def c45:jG:=⟨6,tyM,[],[],[],[],[],[],[],[],[],[],[],[],none,[],[],[],none,none,[]⟩
theorem F45_eq(n:Nat)(d):absMk c45 n Try.f45 (body Try.f45) [.v (.int .i64),.v (.int .i64)] 46 [.v (.ptr (.int .i64)),.v (.ptr (.int .i64))] d=some ((some d.1,some d.2.1,()),()):=by kernel_rfl
theorem d45:qD c45 (body Try.f45)=true:=by kernel_rfl
theorem k45:qW Try.prog 45/\qeU Try.prog 45 m45:=⟨qY Try.func45 rfl (by kernel_rfl),qlu mixed (qL qmd qC rfl (by kernel_rfl)) Try.func45 (c:=body Try.f45) rfl rfl (qbh (qT (by kernel_rfl))) d45 (by decide) λd y h=>⟨0,(F45_eq 0 d).trans h⟩⟩
end Go.Proofs.Try.Mk
