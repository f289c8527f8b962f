/- The evaluator answers 'true' at AcceptorAfter(1). No condition. -/
import Derived.Test.YtlamohamhbhkjaaGreatDoorEaF
import Derived.KernelRfl
namespace Go.Ev
open Go.Eng
theorem ev_after1 : isT (eval FK 3 [.c (.i 3 1)] ⟨[], .z⟩) = true := by kernel_rfl
end Go.Ev
