/- The table with 'known' as a function that answers 'true'. No condition. -/
import Derived.Test.YtlamohamhbhkjaaGreatDoorEa2
import Derived.Test.YtlamohamhbhkjaaGreatDoorIs
namespace Go.Ev
open Go.Eng
noncomputable def FK : Nat → Option Fx := fun n => Bool.rec (motive := fun _ => Option Fx) (FF n) (some oTrue) (Nat.beq n 7)
end Go.Ev
