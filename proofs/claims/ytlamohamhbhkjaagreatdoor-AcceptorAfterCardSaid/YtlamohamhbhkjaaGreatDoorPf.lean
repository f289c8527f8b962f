/- Worlds in which what was there is as it was: what a row asks of them. No condition. -/
import Derived.Test.YtlamohamhbhkjaaGreatDoorOwn
import Derived.Test.YtlamohamhbhkjaaGreatDoorDraw
import GoSem.ClaimChange
namespace Go.Ev
open Go.RowKit Go.Eng
theorem kept_of_old {w w' : World} {may : MemPlace → Prop} (h : Old w w') : w.keptBut w' may := by
  refine ⟨h.os, h.output, fun i hi => ?_⟩
  rw [h.block i hi]
  cases hb : w.heap[i]? with
  | none => rfl
  | some o =>
    cases o with
    | cells c t fr => exact ⟨rfl, rfl, rfl, fun _ _ => rfl⟩
    | map es clock => exact .inr ⟨rfl, rfl⟩
    | _ => rfl
end Go.Ev
