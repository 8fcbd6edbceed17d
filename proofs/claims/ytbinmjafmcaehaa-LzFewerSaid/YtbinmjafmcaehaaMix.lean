/- A part of the proof: Mix. -/
import Derived.Test.YtbinmjafmcaehaaTy3
import Derived.Test.YtbinmjafmcaehaaAb22
import Derived.Test.YtbinmjafmcaehaaProg
import Derived.KernelRfl
namespace Go.AB
open Go
theorem mix : Go.Proofs.Try.prog.follows .mixedOrders = true := by kernel_rfl
end Go.AB
