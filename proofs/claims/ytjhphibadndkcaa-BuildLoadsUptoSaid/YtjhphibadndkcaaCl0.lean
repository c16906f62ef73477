/- What each law's last theorem needs of the program. No condition. -/
import Derived.Test.YtjhphibadndkcaaLw8
namespace Go.Proofs.Ytjhphibadndkcaa
open Go.Vi Go.Proofs.Try.V
theorem own_try : ownKnob Try.prog.godebug = none := by kernel_rfl
theorem laidOut_try : laidOutB Try.prog = true := by kernel_rfl
end Go.Proofs.Ytjhphibadndkcaa
