/- The abstract interpreter 'Vi', thirty-third part: code within a round of a range over a function. No condition beyond those typed in each theorem. -/
import Derived.Test.YtncngmcojppmgaaGreatViC
import Derived.RangeFuncFrom
import Derived.RangeFuncCalls
import Derived.RangeFuncLeaves
import Derived.LoopNIn
import Derived.OwnWalkIn
import Derived.OrdersIn
namespace Go.Vi
section
variable {P : Program} {C : Ctx} {cfg : jM} {R : Type} {r : R} {s s' : St} {a : Act} {w : World} {H : FH} {Φ : Nat → qC} {l n : Nat}
end
end Go.Vi
