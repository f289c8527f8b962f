/- The engine: a walk over a function's code in small steps, the frame told as a list of slots and values. It holds for every program; it has no condition. -/
import Derived.WalkKit
import Derived.Deep.LoopGhost
namespace Go.Eng
open Go.RowKit

abbrev Env := List (Nat × Value)

/-- The value of a slot. -/
def get : Env → Nat → Option Value
  | [], _ => none
  | (k, v) :: r, t => match Nat.beq k t with | true => some v | false => get r t

/-- A frame is as the list says. -/
structure Agr (n : Nat) (a : Act) (e : Env) : Prop where
  defers : a.defers = []
  size : a.tmps.size = n
  vals : ∀ t v, get e t = some v → a.tmps.getD t undef = v

theorem Agr.put {n d : Nat} {a : Act} {e : Env} {v : Value} (h : Agr n a e) (hd : Nat.blt d n = true) : Agr n (a.put (some d) v) ((d, v) :: e) := by
  have hd' : d < n := by simpa [Nat.blt_eq] using hd
  refine ⟨h.defers, by simp [Act.put, h.size], ?_⟩
  intro t u hu
  simp only [get] at hu
  split at hu
  · rename_i hb
    have : d = t := Nat.eq_of_beq_eq_true hb
    subst this
    simp only [Option.some.injEq] at hu
    subst hu
    simp [Act.put, Array.getD_eq_getD_getElem?, h.size, hd']
  · rename_i hb
    have hne : d ≠ t := fun e => by subst e; simp at hb
    have := h.vals t u hu
    simp only [Act.put, Array.getD_eq_getD_getElem?] at this ⊢
    rw [Array.getElem?_setIfInBounds_ne hne]
    exact this

theorem Agr.none {n : Nat} {a : Act} {e : Env} {v : Value} (h : Agr n a e) : Agr n (a.put Option.none v) e := h

theorem Agr.sub {n : Nat} {a : Act} {e e' : Env} (h : Agr n a e) (hs : ∀ t v, get e' t = some v → get e t = some v) : Agr n a e' :=
  ⟨h.defers, h.size, fun t v hv => h.vals t v (hs t v hv)⟩

/-- A slot's value said otherwise. -/
theorem Agr.say {n t : Nat} {a : Act} {e : Env} {v u : Value} (h : Agr n a e) (hv : get e t = some v) (hu : v = u) : Agr n a ((t, u) :: e) := by
  subst hu
  refine h.sub fun s x hx => ?_
  simp only [get] at hx
  split at hx
  · rename_i hb
    rw [← Nat.eq_of_beq_eq_true hb, hv]; exact hx
  · exact hx

/-- Only these slots. -/
def keep : List Nat → Env → Option Env
  | [], _ => some []
  | t :: ts, e => match get e t with
    | some v => match keep ts e with
      | some r => some ((t, v) :: r)
      | none => none
    | none => none

theorem Agr.keep {n : Nat} {a : Act} {e : Env} : ∀ {ts : List Nat} {e' : Env}, Agr n a e → Eng.keep ts e = some e' → Agr n a e'
  | [], e', h, hk => by simp only [Eng.keep, Option.some.injEq] at hk; subst hk; exact ⟨h.defers, h.size, fun t v hv => by simp [get] at hv⟩
  | t :: ts, e', h, hk => by
    simp only [Eng.keep] at hk
    split at hk
    · rename_i v hv
      split at hk
      · rename_i r hr
        simp only [Option.some.injEq] at hk
        subst hk
        have ih := Agr.keep h hr
        refine ⟨h.defers, h.size, fun s x hx => ?_⟩
        simp only [get] at hx
        split at hx
        · rename_i hb
          have := Nat.eq_of_beq_eq_true hb
          subst this
          simp only [Option.some.injEq] at hx
          subst hx
          exact h.vals _ _ hv
        · exact ih.vals _ _ hx
      · cases hk
    · cases hk

def ev (e : Env) : Operand → Option Value
  | .tmp t => get e t
  | .const v => some v
  | .global g => some (.pointer (some ⟨g, 0, none⟩))
  | .func f => some (.func (.func f) #[] #[])

theorem Agr.ev {n : Nat} {a : Act} {e : Env} {x : Operand} {v : Value} (h : Agr n a e) (hx : ev e x = some v) : a.eval x = v := by
  cases x with
  | tmp t => exact h.vals t v hx
  | const u => simpa [Eng.ev, Act.eval] using hx
  | global g => simpa [Eng.ev, Act.eval] using hx
  | func f => simpa [Eng.ev, Act.eval] using hx

def evs (e : Env) : List Operand → Option (List Value)
  | [] => some []
  | x :: xs => match ev e x with
    | some v => match evs e xs with
      | some vs => some (v :: vs)
      | none => none
    | none => none

theorem Agr.evs {n : Nat} {a : Act} {e : Env} (h : Agr n a e) : ∀ {xs : List Operand} {vs : List Value}, evs e xs = some vs → xs.map a.eval = vs
  | [], vs, hk => by simp only [Eng.evs, Option.some.injEq] at hk; subst hk; rfl
  | x :: xs, vs, hk => by
    simp only [Eng.evs] at hk
    split at hk
    · rename_i v hv
      split at hk
      · rename_i r hr
        simp only [Option.some.injEq] at hk
        subst hk
        simp [h.ev hv, Agr.evs h hr]
      · cases hk
    · cases hk

section judgements
variable (P : Program) (n : Nat)
/-- The code from here on. -/
def C (Q : Exit → Act → World → Prop) (c : Code) (e : Env) (w : World) : Prop := ∀ a, Agr n a e → c.wp P Q a w
/-- The operations from here on. -/
def G (ops : Array Oper) (Q : Exit → Act → World → Prop) (rest : List Oper) (e : Env) (w : World) : Prop := ∀ a, Agr n a e → wpList P ops Q rest a w
/-- What is left behind an end of a kind. -/
def N (Q : Exit → Act → World → Prop) (x : Exit) (e : Env) (w : World) : Prop := ∀ a, Agr n a e → Q x a w
end judgements

section code
variable {P : Program} {n : Nat} {Q : Exit → Act → World → Prop} {e : Env} {w : World}
theorem cSeq {x y : Code} (h : C P n (Exit.then (y.wp P Q) Q) x e w) : C P n Q (.seq x y) e w := fun a ha => wp_seq (h a ha)
theorem cSkip (h : N n Q .normal e w) : C P n Q .skip e w := fun a ha => wp_skip (h a ha)
theorem cRet (h : N n Q .ret e w) : C P n Q .ret e w := fun a ha => wp_ret (h a ha)
theorem cExit {id : Nat} (h : N n Q (.exit id) e w) : C P n Q (.exit id) e w := fun a ha => wp_exit (h a ha)
theorem cBlock {id : Nat} {c : Code} (h : C P n (Exit.inBlock id Q) c e w) : C P n Q (.block id c) e w := fun a ha => wp_block (h a ha)
theorem cReg {id : Nat} {l : List Oper} (h : G P n l.toArray Q l e w) : C P n Q (.region id l.toArray false) e w := fun a ha => wp_region_lit (h a ha)
theorem cCond {c : Operand} {x y : Code} {b : Bool} (hc : ev e c = some (.bool b)) (ht : b = true → C P n Q x e w) (hf : b = false → C P n Q y e w) : C P n Q (.cond c x y) e w :=
  fun a ha => wp_cond_split (ha.ev hc) (fun h => ht h a ha) (fun h => hf h a ha)
theorem cTrue {c : Operand} {x y : Code} (hc : ev e c = some (.bool true)) (ht : C P n Q x e w) : C P n Q (.cond c x y) e w := fun a ha => wp_cond_true (ha.ev hc) (ht a ha)
theorem cFalse {c : Operand} {x y : Code} (hc : ev e c = some (.bool false)) (ht : C P n Q y e w) : C P n Q (.cond c x y) e w := fun a ha => wp_cond_false (ha.ev hc) (ht a ha)
theorem cKeep {c : Code} (ts : List Nat) {e' : Env} (hk : keep ts e = some e') (h : C P n Q c e' w) : C P n Q c e w := fun a ha => h a (ha.keep hk)
theorem nThen {y : Code} (h : C P n Q y e w) : N n (Exit.then (y.wp P Q) Q) .normal e w := h
theorem nThenK {K : Act → World → Prop} (h : ∀ a, Agr n a e → K a w) : N n (Exit.then K Q) .normal e w := h
theorem nBlock {id : Nat} (h : N n Q .normal e w) : N n (Exit.inBlock id Q) .normal e w := h
theorem xThen {id : Nat} {K : Act → World → Prop} (h : N n Q (.exit id) e w) : N n (Exit.then K Q) (.exit id) e w := h
theorem xHit {id : Nat} (h : N n Q .normal e w) : N n (Exit.inBlock id Q) (.exit id) e w := fun a ha => by simp only [Exit.inBlock, if_true]; exact h a ha
theorem xMiss {id id' : Nat} (hne : Nat.beq id' id = false) (h : N n Q (.exit id') e w) : N n (Exit.inBlock id Q) (.exit id') e w := fun a ha => by
  have : id' ≠ id := fun e => by subst e; simp at hne
  simp only [Exit.inBlock, if_neg this]; exact h a ha
theorem rThen {K : Act → World → Prop} (h : N n Q .ret e w) : N n (Exit.then K Q) .ret e w := h
theorem rBlock {id : Nat} (h : N n Q .ret e w) : N n (Exit.inBlock id Q) .ret e w := h
theorem gEnd {ops : Array Oper} (h : N n Q .normal e w) : G P n ops Q [] e w := h
theorem gKeep {ops : Array Oper} {rest : List Oper} (ts : List Nat) {e' : Env} (hk : keep ts e = some e') (h : G P n ops Q rest e' w) : G P n ops Q rest e w := fun a ha => h a (ha.keep hk)
theorem nKeep {x : Exit} (ts : List Nat) {e' : Env} (hk : keep ts e = some e') (h : N n Q x e' w) : N n Q x e w := fun a ha => h a (ha.keep hk)
end code

/-! ### A loop -/
theorem get_app : ∀ (v r : Env) (t : Nat) (x : Value), get (v ++ r) t = some x → get v t = some x ∨ get r t = some x
  | [], r, t, x, h => .inr h
  | (k, u) :: v, r, t, x, h => by
    simp only [List.cons_append, get] at h ⊢
    split at h
    · rename_i hb; exact .inl h
    · rename_i hb; exact get_app v r t x h
theorem agr_app {n : Nat} {a : Act} {v r : Env} (h1 : Agr n a v) (h2 : Agr n a r) : Agr n a (v ++ r) :=
  ⟨h1.defers, h1.size, fun t x hx => (get_app v r t x hx).elim (h1.vals t x) (h2.vals t x)⟩
/-- What a round hands on. -/
def Back (n : Nat) (rest : Env) (I : Nat → Env → World → Prop) (m : Nat) : Act → World → Prop :=
  fun a w => ∃ m' v, m' < m ∧ Agr n a (v ++ rest) ∧ I m' v w
theorem cLoop {P : Program} {n : Nat} {Q : Exit → Act → World → Prop} {e rest e0 : Env} {w : World} {c : Code} (ts vs : List Nat) (hk : keep ts e = some rest) (hv : keep vs e = some e0)
    (I : Nat → Env → World → Prop) (m0 : Nat) (h0 : I m0 e0 w) (round : ∀ m v w, I m v w → C P n (Exit.then (Back n rest I m) Q) c (v ++ rest) w) : C P n Q (.loop c) e w := by
  intro a ha
  refine wp_loop_ghost (fun m a w => ∃ v, Agr n a (v ++ rest) ∧ I m v w) m0 ⟨e0, agr_app (ha.keep hv) (ha.keep hk), h0⟩ ?_
  rintro m a w ⟨v, hA, hI⟩
  refine wp_mono (round m v w hI a hA) ?_
  intro x a' w' hq
  cases x with
  | normal =>
    obtain ⟨m', v', hlt, hA', hI'⟩ := hq
    exact ⟨m', hlt, v', hA', hI'⟩
  | exit id => exact hq
  | goto l => exact hq
  | ret => exact hq
  | panic ch => exact hq
  | outgrown => exact hq
theorem nBack {n m m' : Nat} {Q : Exit → Act → World → Prop} {e rest v : Env} {w : World} {I : Nat → Env → World → Prop} (ts : List Nat) (hk : keep ts e = some (v ++ rest)) (hlt : m' < m) (h : I m' v w) :
    N n (Exit.then (Back n rest I m) Q) .normal e w := fun _ ha => ⟨m', v, hlt, ha.keep hk, h⟩

/-! ### Into a function, and out of it -/
def enum : Nat → List Value → Env
  | _, [] => []
  | k, v :: r => (k, v) :: enum (k + 1) r

theorem get_enum : ∀ (l : List Value) (k t : Nat) (v : Value), get (enum k l) t = some v → k ≤ t ∧ l[t - k]? = some v
  | [], k, t, v, h => by simp [enum, get] at h
  | u :: l, k, t, v, h => by
    simp only [enum, get] at h
    split at h
    · rename_i hb
      have := Nat.eq_of_beq_eq_true hb
      subst this
      simp only [Option.some.injEq] at h
      subst h
      simp
    · rename_i hb
      obtain ⟨h1, h2⟩ := get_enum l (k + 1) t v h
      refine ⟨by omega, ?_⟩
      rw [show t - k = (t - (k + 1)) + 1 by omega]
      simpa using h2

theorem agr_enter {n : Nat} {args : List Value} (hn : Nat.ble args.length n = true) :
    Agr n { tmps := args.toArray ++ Array.replicate (n - args.toArray.size) undef, defers := [] } (enum 0 args) := by
  have hn' : args.length ≤ n := Nat.le_of_ble_eq_true hn
  refine ⟨rfl, by simp; omega, fun t v h => ?_⟩
  obtain ⟨_, h2⟩ := get_enum args 0 t v h
  simp only [Nat.sub_zero] at h2
  have hlt : t < args.length := (List.getElem?_eq_some_iff.1 h2).1
  simp only [Array.getD_eq_getD_getElem?]
  rw [Array.getElem?_append_left (by simpa using hlt)]
  simp [h2]

theorem enter {P : Program} {f : FuncId} {fn : Func} {c : Code} {args : List Value} {w : World} {R : Ending → World → Prop} {n : Nat}
    (hf : P.funcs[f]? = some fn) (hb : fn.body = some c) (hn : fn.ntmps = n) (ha : Nat.ble args.length n = true)
    (h : C P n (bodyPost P fn R) c (enum 0 args) w) : Calls P f args.toArray w R := by
  refine calls_of_wp hf hb (h _ ?_)
  rw [hn]
  exact agr_enter ha

theorem out1 {P : Program} {fn : Func} {n t : Nat} {e : Env} {w : World} {R : Ending → World → Prop} {v : Value} {x : Exit} (hx : x = .ret ∨ x = .normal)
    (hr : fn.results = #[.tmp t]) (hg : get e t = some v) (h : R (.returned v) w) : N n (bodyPost P fn R) x e w := by
  intro a ha
  have hp : (results fn a.tmps).run P w = .ok v w := by rw [results_tmp hr, ha.vals t v hg]
  rcases hx with rfl | rfl <;> exact ⟨ha.defers, v, hp, h⟩
theorem out0 {P : Program} {fn : Func} {n : Nat} {e : Env} {w : World} {R : Ending → World → Prop} {x : Exit} (hx : x = .ret ∨ x = .normal)
    (hr : fn.results = #[]) (h : R (.returned (.tuple #[])) w) : N n (bodyPost P fn R) x e w := by
  intro a ha
  have hp : (results fn a.tmps).run P w = .ok (.tuple #[]) w := results_none hr _ _ _
  rcases hx with rfl | rfl <;> exact ⟨ha.defers, _, hp, h⟩
theorem out2 {P : Program} {fn : Func} {n t u : Nat} {e : Env} {w : World} {R : Ending → World → Prop} {v v' : Value} {x : Exit} (hx : x = .ret ∨ x = .normal)
    (hr : fn.results = #[.tmp t, .tmp u]) (hg : get e t = some v) (hg' : get e u = some v') (h : R (.returned (.tuple #[v, v'])) w) : N n (bodyPost P fn R) x e w := by
  intro a ha
  have hp : (results fn a.tmps).run P w = .ok (.tuple #[v, v']) w := by rw [results_tmp2 hr, ha.vals t v hg, ha.vals u v' hg']
  rcases hx with rfl | rfl <;> exact ⟨ha.defers, _, hp, h⟩
theorem out3 {P : Program} {fn : Func} {n t u s : Nat} {e : Env} {w : World} {R : Ending → World → Prop} {v v' v'' : Value} {x : Exit} (hx : x = .ret ∨ x = .normal)
    (hr : fn.results = #[.tmp t, .tmp u, .tmp s]) (hg : get e t = some v) (hg' : get e u = some v') (hg'' : get e s = some v'') (h : R (.returned (.tuple #[v, v', v''])) w) : N n (bodyPost P fn R) x e w := by
  intro a ha
  have hp : (results fn a.tmps).run P w = .ok (.tuple #[v, v', v'']) w := by
    have : (results fn a.tmps).run P w = .ok (.tuple #[a.tmps.getD t undef, a.tmps.getD u undef, a.tmps.getD s undef]) w := by simp [results, hr]
    rw [this, ha.vals t v hg, ha.vals u v' hg', ha.vals s v'' hg'']
  rcases hx with rfl | rfl <;> exact ⟨ha.defers, _, hp, h⟩

theorem notT {b : Bool} (h : (!b) = true) : b = false := by simpa using h
theorem notF {b : Bool} (h : (!b) = false) : b = true := by simpa using h
/-- What a call hands back, and in which world. -/
def Ret (R : Value → World → Prop) : Ending → World → Prop := fun e w' => ∃ v, e = .returned v ∧ R v w'

end Go.Eng
