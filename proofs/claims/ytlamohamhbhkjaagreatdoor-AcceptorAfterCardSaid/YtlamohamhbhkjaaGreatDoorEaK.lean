/- The evaluator answers 'true' at the closed call of 'known'. No condition. -/
import Derived.Test.YtlamohamhbhkjaaGreatDoorEa2
import Derived.Test.YtlamohamhbhkjaaGreatDoorIs
import Derived.KernelRfl
namespace Go.Ev
open Go.Eng
theorem ev_known : isT (eval FF 7 [] ⟨[], .z⟩) = true := by kernel_rfl
end Go.Ev
