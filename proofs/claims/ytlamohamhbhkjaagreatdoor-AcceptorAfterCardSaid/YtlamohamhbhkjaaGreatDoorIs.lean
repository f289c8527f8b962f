/- Is an answer 'true'? And a function that answers 'true' wherever it is called. No condition. -/
import Derived.Test.YtlamohamhbhkjaaGreatDoorSn
namespace Go.Ev
open Go.RowKit Go.Eng
noncomputable def isT (a : A) : Bool := Option.rec (motive := fun _ => Bool) false (fun p => Prod.rec (motive := fun _ => Bool) (fun v _ => V.rec (motive := fun _ => Bool) (fun c => isD c (fun d => isB d (fun b => b))) (fun _ => false) (fun _ => false) false v) p) a
theorem isT_inv {a : A} (h : isT a = true) : ∃ h', a = some (vB true, h') := by
  cases a with
  | none => cases h
  | some p =>
    obtain ⟨v, h'⟩ := p
    cases v with
    | g l => cases h
    | t l => cases h
    | u => cases h
    | c x =>
      cases x with
      | i k n => cases h
      | p a o => cases h
      | o d =>
        cases d with
        | b x => have : x = true := h; subst this; exact ⟨h', rfl⟩
        | _ => cases h
/-- A function of no argument that answers 'true'. -/
noncomputable def oTrue : Fx := fun _ args h k => a0 (k (vB true) h) args
section
variable {P : Program} {n : Nat}
theorem a0_inv {k : A} {l : St} {r : V × Hp} (h : a0 k l = some r) : l = [] ∧ k = some r := by
  cases l with
  | nil => exact ⟨rfl, h⟩
  | cons x l => exact nN h
theorem true_ok (hn : callOk P n = true) (hc : ∀ w, Calls P n #[] w (Ret fun vv w' => vv = .bool true ∧ Old w w')) : Sound P n oTrue := by
  intro c hC args vs h w ρ k r hk hargs H o a K Q hK
  obtain ⟨rfl, h1⟩ := a0_inv hk
  cases vs with
  | cons v vs => exact hargs.elim
  | nil =>
    rw [run_callFunc_enter hn, Oper.upon_enter]
    refine Calls.mono (hc w) fun e w' he => ?_
    cases e with
    | returned vv =>
      obtain ⟨v', e1, rfl, hO⟩ := he
      simp only [Ending.returned.injEq] at e1
      subst e1
      exact hK _ _ ⟨ρ, _, h, h1, rfl, H.old hO, frOld H hO⟩
    | panicked ch => obtain ⟨v', e1, _⟩ := he; cases e1
    | outgrown => obtain ⟨v', e1, _⟩ := he; cases e1
theorem load64_ok (hx : ExtP P n (Extern.Atomic.loadT (.int .i64))) : Sound P n oLd64 := load_ok hx
theorem load32_ok (hx : ExtP P n (Extern.Atomic.loadT (.int .u32))) : Sound P n oLd32 := load_ok hx
/-- A closed call that the evaluator answers 'true'. -/
theorem call_true {F : Nat → Option Fx} (hF : ∀ n x, F n = some x → Sound P n x) (hn : callOk P n = true) {vs : List Value} {args : St} (ha : VRs (fun _ => none) args vs) (he : isT (eval F n args ⟨[], .z⟩) = true) (w : World) :
    Calls P n vs.toArray w (Ret fun vv w' => vv = .bool true ∧ Old w w') := by
  obtain ⟨h', e⟩ := isT_inv he
  refine Calls.mono (call_closed hF hn ha e w) fun e w' h1 => ?_
  cases e with
  | returned vv =>
    obtain ⟨v', e1, ⟨ρ, h2⟩, hO⟩ := h1
    exact ⟨v', e1, h2, hO⟩
  | panicked ch => obtain ⟨v', e1, _⟩ := h1; cases e1
  | outgrown => obtain ⟨v', e1, _⟩ := h1; cases e1
end
end Go.Ev
