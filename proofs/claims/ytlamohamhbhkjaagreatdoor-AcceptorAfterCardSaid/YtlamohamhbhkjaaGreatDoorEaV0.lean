/- The evaluator answers 'true' at AcceptorAfter(0). No condition. -/
import Derived.Test.YtlamohamhbhkjaaGreatDoorEaF
import Derived.KernelRfl
namespace Go.Ev
open Go.Eng
theorem ev_after0 : isT (eval FK 3 [.c (.i 3 0)] ⟨[], .z⟩) = true := by kernel_rfl
end Go.Ev
