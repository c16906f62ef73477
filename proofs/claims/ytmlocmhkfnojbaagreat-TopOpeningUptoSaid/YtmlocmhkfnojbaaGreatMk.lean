/- The makers of function values that capture numbers. No condition. -/
import Derived.Test.YtmlocmhkfnojbaaGreatIb2
namespace Go.Proofs.Tryz.Mk
open Go.Vi
set_option maxRecDepth 100000
def JS:List (Nat×Ty):=[(3,.int .i64)]
theorem TM:Aa Tryz.prog JS=true:=by kernel_rfl
theorem mixed:Tryz.prog.follows .mixedOrders=true:=by kernel_rfl
def m44:zb:=⟨⟨[.v (.int .i64),.v (.int .i64)],[.v (.ptr (.int .i64)),.v (.ptr (.int .i64))],λd=>some ((some d.1,some d.2.1,()),())⟩,45⟩
def c44:jB:=⟨6,JS,[],[],[],[],[],[],[],[],[],[],[],[],none,[],[],[],none,none,[]⟩
theorem PR(n:Nat)(d):xg c44 n Tryz.f44 (body Tryz.f44) [.v (.int .i64),.v (.int .i64)] 45 [.v (.ptr (.int .i64)),.v (.ptr (.int .i64))] d=some ((some d.1,some d.2.1,()),()):=by kernel_rfl
theorem d44:qs c44 (body Tryz.f44)=true:=by kernel_rfl
theorem k44:jD Tryz.prog 44/\Hi Tryz.prog 44 m44:=⟨qX Tryz.func44 rfl (by kernel_rfl),qi5 mixed (qz TM qq rfl (by kernel_rfl)) Tryz.func44 (c:=body Tryz.f44) rfl rfl (xQ (qE (by kernel_rfl))) d44 (by decide) λd y h=>⟨0,(PR 0 d).trans h⟩⟩
end Go.Proofs.Tryz.Mk
