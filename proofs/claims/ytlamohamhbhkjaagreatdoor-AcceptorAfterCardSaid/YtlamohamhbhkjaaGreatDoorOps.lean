/- The engine's second part: operations that touch no memory, many in one step; calls. It holds for every program; it has no condition. -/
import Derived.Test.YtlamohamhbhkjaaGreatDoorEng
namespace Go.Eng
open Go.RowKit

/-- What a walk must know of a program's types. -/
structure Tab where
  flds : List (Nat × List (Nat × Nat))
  strs : List Nat
  slcs : List (Nat × Nat × Nat)
  aggs : List (Nat × Nat)
  flat : List Nat
  ptrs : List Nat

def lk {α : Type} : List (Nat × α) → Nat → Option α
  | [], _ => none
  | (k, v) :: r, t => match Nat.beq k t with | true => some v | false => lk r t
def mem : List Nat → Nat → Bool
  | [], _ => false
  | k :: r, t => match Nat.beq k t with | true => true | false => mem r t
def nth {α : Type} : List α → Nat → Option α
  | [], _ => none
  | a :: _, 0 => some a
  | _ :: r, n + 1 => nth r n

def isAggD : TypeDesc → Bool
  | .struct _ | .array _ _ => true
  | _ => false

def fldsOk (P : Program) (t : Nat) (offs : List (Nat × Nat)) : Bool :=
  match P.underlying t with
  | some (.struct fs) => offs.all fun (i, o) => match fs[i]? with
    | some f => f.offset == o && (match P.info? f.type with | some x => !(x.size == 0) | none => false)
    | none => false
  | _ => false
def Tab.check (P : Program) (tb : Tab) : Bool :=
  (tb.flds.all fun (t, offs) => fldsOk P t offs) &&
  (tb.strs.all fun t => match P.underlying t with | some .string => true | _ => false) &&
  (tb.slcs.all fun (t, el, k) => (match P.underlying t with | some (.slice x) => x == el | _ => false) && (match P.info? el with | some x => x.size == k && !(k == 0) | none => false)) &&
  (tb.aggs.all fun (t, k) => (match P.underlying t with | some d => isAggD d | none => false) && (match P.info? t with | some x => x.size == k | none => false)) &&
  (tb.flat.all fun t => (match P.underlying t with | some d => !isAggD d | none => false) && (match P.info? t with | some x => x.size == 1 | none => false)) &&
  (tb.ptrs.all fun t => match P.underlying t with | some (.pointer _) => true | _ => false)

/-- The table, and that it is right. -/
structure Tk (P : Program) where
  tb : Tab
  ok : tb.check P = true

theorem lk_mem {α : Type} : ∀ {l : List (Nat × α)} {t : Nat} {v : α}, lk l t = some v → (t, v) ∈ l
  | [], t, v, h => by simp [lk] at h
  | (k, u) :: r, t, v, h => by
    simp only [lk] at h
    split at h
    · rename_i hb
      have := Nat.eq_of_beq_eq_true hb
      subst this
      simp only [Option.some.injEq] at h
      subst h
      simp
    · exact List.mem_cons_of_mem _ (lk_mem h)
theorem mem_mem : ∀ {l : List Nat} {t : Nat}, mem l t = true → t ∈ l
  | [], t, h => by simp [mem] at h
  | k :: r, t, h => by
    simp only [mem] at h
    split at h
    · rename_i hb
      have := Nat.eq_of_beq_eq_true hb
      subst this
      simp
    · exact List.mem_cons_of_mem _ (mem_mem h)
theorem nth_get {α : Type} : ∀ (l : List α) (n : Nat), nth l n = l[n]?
  | [], n => by simp [nth]
  | a :: r, 0 => by simp [nth]
  | a :: r, n + 1 => by simp [nth, nth_get r n]

section
variable {P : Program} (T : Tk P)
theorem Tk.parts : (∀ x ∈ T.tb.flds, fldsOk P x.1 x.2 = true) ∧ (∀ t ∈ T.tb.strs, P.underlying t = some .string) ∧
    (∀ x ∈ T.tb.slcs, P.underlying x.1 = some (.slice x.2.1) ∧ ∃ i, P.info? x.2.1 = some i ∧ i.size = x.2.2 ∧ x.2.2 ≠ 0) ∧
    (∀ x ∈ T.tb.aggs, (∃ d, P.underlying x.1 = some d ∧ isAggD d = true) ∧ ∃ i, P.info? x.1 = some i ∧ i.size = x.2) ∧
    (∀ t ∈ T.tb.flat, (∃ d, P.underlying t = some d ∧ isAggD d = false) ∧ ∃ i, P.info? t = some i ∧ i.size = 1) ∧ (∀ t ∈ T.tb.ptrs, ∃ e, P.underlying t = some (.pointer e)) := by
  have h := T.ok
  simp only [Tab.check, Bool.and_eq_true, List.all_eq_true] at h
  obtain ⟨⟨⟨⟨⟨h1, h2⟩, h3⟩, h4⟩, h5⟩, h6⟩ := h
  refine ⟨fun x hx => h1 x hx, fun t ht => ?_, fun x hx => ?_, fun x hx => ?_, fun t ht => ?_, fun t ht => ?_⟩
  · have := h2 t ht; split at this <;> simp_all
  · have := h3 x hx
    obtain ⟨a, b⟩ := this
    constructor
    · split at a <;> simp_all
    · split at b
      · rename_i i hi; simp at b; exact ⟨i, hi, b.1, b.2⟩
      · cases b
  · have := h4 x hx
    obtain ⟨a, b⟩ := this
    constructor
    · split at a
      · rename_i d hd; exact ⟨d, hd, a⟩
      · cases a
    · split at b
      · rename_i i hi; simp at b; exact ⟨i, hi, b⟩
      · cases b
  · have := h5 t ht
    obtain ⟨a, b⟩ := this
    constructor
    · split at a
      · rename_i d hd; exact ⟨d, hd, by simpa using a⟩
      · cases a
    · split at b
      · rename_i i hi; simp at b; exact ⟨i, hi, b⟩
      · cases b
  · have := h6 t ht
    split at this
    · rename_i e hd; exact ⟨e, hd⟩
    · cases this

theorem run_fieldAt {t i o : Nat} {offs : List (Nat × Nat)} (h1 : lk T.tb.flds t = some offs) (h2 : lk offs i = some o) (b q : Nat) (w : World) :
    (Instr.fieldAt t (.pointer (some ⟨b, q, none⟩)) i).run P w = .ok (.pointer (some ⟨b, q + o, none⟩)) w := by
  have h := T.parts.1 _ (lk_mem h1)
  unfold fldsOk at h
  simp only at h
  split at h
  · rename_i fs hu
    have := List.all_eq_true.1 h _ (lk_mem h2)
    simp only at this
    split at this
    · rename_i f hf
      simp only [Bool.and_eq_true, beq_iff_eq] at this
      obtain ⟨ho, hs⟩ := this
      split at hs
      · rename_i x hx
        have hz : ¬ x.size = 0 := by simpa using hs
        have hsz : (sizeOf f.type).run P w = .ok x.size w := by simp [sizeOf, typeInfo, hx]
        have hfp : (fieldPlace ⟨b, q, none⟩ f).run P w = .ok ⟨b, q + o, none⟩ w := by
          unfold fieldPlace
          rw [Sem.run_bind, hsz]
          simp only [Result.andThen_ok, hz, if_false, Sem.run_pure, ho]
          unfold Addr.add
          split <;> simp_all
        unfold Instr.fieldAt
        rw [Sem.run_bind, run_underlying hu w]
        simp [hf, Instr.sureAddr, hfp]
      · cases hs
    · cases this
  · cases h

/-- Comparisons of numbers, texts, pointers with nil. -/
def cmpV : BinOp → Value → Value → Option Value
  | .eql, .int k a, .int j b => match decide (k = j) with | true => some (.bool (a == b)) | false => none
  | .neq, .int k a, .int j b => match decide (k = j) with | true => some (.bool (a != b)) | false => none
  | .lss, .int k a, .int j b => match decide (k = j) with | true => some (.bool (decide (a < b))) | false => none
  | .leq, .int k a, .int j b => match decide (k = j) with | true => some (.bool (decide (a ≤ b))) | false => none
  | .gtr, .int k a, .int j b => match decide (k = j) with | true => some (.bool (decide (b < a))) | false => none
  | .geq, .int k a, .int j b => match decide (k = j) with | true => some (.bool (decide (b ≤ a))) | false => none
  | .eql, .string ⟨⟨l⟩⟩, .string ⟨⟨m⟩⟩ => some (.bool (l == m))
  | .neq, .string ⟨⟨l⟩⟩, .string ⟨⟨m⟩⟩ => some (.bool (!(l == m)))
  | _, _, _ => none

theorem run_cmp {op : BinOp} {x y v : Value} (h : cmpV op x y = some v) (t : TypeId) (ox oy : Operand) (w : World) :
    (do eqGuard op t ox oy x y; binOp op t x y : Sem Value).run P w = .ok v w := by
  unfold cmpV at h
  split at h <;> try (split at h)
  all_goals first
    | cases h; done
    | (simp only [Option.some.injEq] at h; subst h
       simp_all [eqGuard, binOp, Op.intCmp, Op.stringOp])

/-- The value of an operation that touches no memory. -/
def stepV (tb : Tab) (e : Env) : Op → Option Value
  | .move x => ev e x
  | .assign x => ev e x
  | .pick c a b => match ev e c with
    | some (.bool true) => ev e a
    | some (.bool false) => ev e b
    | _ => none
  | .extract t i => match ev e t with
    | some (.tuple ⟨vs⟩) => nth vs i
    | _ => none
  | .nilCheck x => match ev e x with
    | some (.pointer (some a)) => some (.pointer (some a))
    | _ => none
  | .fieldAddr t x i => match ev e x with
    | some (.pointer (some ⟨b, q, none⟩)) => match lk tb.flds t with
      | some offs => match lk offs i with
        | some o => some (.pointer (some ⟨b, q + o, none⟩))
        | none => none
      | none => none
    | _ => none
  | .makeFunc fn ⟨fs⟩ ⟨cs⟩ => match evs e fs with
    | some fv => match evs e cs with
      | some cv => some (.func fn ⟨fv⟩ ⟨cv⟩)
      | none => none
    | none => none
  | .unOp .not _ x => match ev e x with
    | some (.bool b) => some (.bool (!b))
    | _ => none
  | .binOp op _ x y _ => match ev e x with
    | some a => match ev e y with
      | some b => cmpV op a b
      | none => none
    | none => none
  | _ => none

theorem run_step {n : Nat} {a : Act} {e : Env} (ha : Agr n a e) {o : Oper} {v : Value} (h : stepV T.tb e o.op = some v) (w : World) :
    (execOp a.eval o).run P w = .ok (.value v) w := by
  unfold execOp
  generalize o.op = op at h
  cases op <;> simp only [stepV] at h <;> try (cases h; done)
  case move x => simp [ha.ev h]
  case assign x => simp [ha.ev h]
  case pick c x y =>
    split at h
    · rename_i hc; simp [ha.ev hc, ha.ev h, asBool]
    · rename_i hc; simp [ha.ev hc, ha.ev h, asBool]
    · cases h
  case nilCheck x =>
    split at h
    · rename_i b hb; simp only [Option.some.injEq] at h; subst h; simp [ha.ev hb]
    · cases h
  case binOp bop t x y yt =>
    split at h
    · rename_i u hu
      split at h
      · rename_i s hs
        have := run_cmp (P := P) h t x y w
        simp only [ha.ev hu, ha.ev hs]
        rw [Sem.run_bind, this]
        simp
      · cases h
    · cases h
  case unOp uop t x =>
    cases uop <;> simp only at h <;> try (cases h; done)
    split at h
    · rename_i b hb; simp only [Option.some.injEq] at h; subst h; simp [ha.ev hb, Op.unary]
    · cases h
  case makeFunc fn fs cs =>
    cases fs with | mk fs => cases cs with | mk cs =>
    simp only at h
    split at h
    · rename_i fv hf
      split at h
      · rename_i cv hc
        simp only [Option.some.injEq] at h; subst h
        simp [ha.evs hf, ha.evs hc, Instr.makeFunc]
      · cases h
    · cases h
  case fieldAddr t x i =>
    split at h
    · rename_i b q hb
      split at h
      · rename_i offs ho
        split at h
        · rename_i o' hi
          simp only [Option.some.injEq] at h; subst h
          simp only [ha.ev hb]
          rw [Sem.run_bind, run_fieldAt T ho hi b q w]
          simp
        · cases h
      · cases h
    · cases h
  case extract t i =>
    split at h
    · rename_i vs hv
      rw [nth_get] at h
      simp [ha.ev hv, Instr.extract, h]
    · cases h

/-- What a guard says: none, it is carried out, it is passed over. -/
def guardV (ops : List Oper) (e : Env) : Option (Nat × Bool) → Option Bool
  | none => some true
  | some (j, want) => match nth ops j with
    | some o => match o.dst with
      | some d => match get e d with
        | some (.bool true) => some want
        | some (.bool false) => some (!want)
        | some (.tuple _) => some false
        | _ => none
      | none => none
    | none => none

theorem guard_wanted {n : Nat} {a : Act} {e : Env} (ha : Agr n a e) {ops : List Oper} {o : Oper} {b : Bool} (hn : ∀ j o, nth ops j = some o → ∀ d, o.dst = some d → Nat.blt d n = true)
    (h : guardV ops e o.guard = some b) : Region.wanted o (yielded ops.toArray a.tmps) = b := by
  unfold Region.wanted
  generalize o.guard = g at h
  cases g with
  | none => simpa [guardV] using h
  | some g =>
    obtain ⟨j, want⟩ := g
    simp only [guardV] at h
    split at h
    · rename_i oj hj
      split at h
      · rename_i d hd
        have hlt : d < n := by simpa [Nat.blt_eq] using hn j oj hj d hd
        have hj' : ops[j]? = some oj := by rw [← nth_get]; exact hj
        have hz : ∀ u, get e d = some u → a.tmps[d]? = some u := by
          intro u hb
          have h1 := ha.vals d _ hb
          rw [Array.getD_eq_getD_getElem?] at h1
          have : d < a.tmps.size := by rw [ha.size]; exact hlt
          rw [Array.getElem?_eq_getElem this] at h1 ⊢
          simpa using h1
        have hx : ∀ bb, get e d = some (.bool bb) → yielded ops.toArray a.tmps j = some bb := by
          intro bb hb
          simp [yielded, hj', hd, hz _ hb]
        split at h
        · rename_i hb
          simp only [Option.some.injEq] at h; subst h
          simp only [hx _ hb]; cases want <;> rfl
        · rename_i hb
          simp only [Option.some.injEq] at h; subst h
          simp only [hx _ hb]; cases want <;> rfl
        · rename_i u hb
          simp only [Option.some.injEq] at h; subst h
          have : yielded ops.toArray a.tmps j = none := by simp [yielded, hj', hd, hz _ hb]
          simp only [this]; rfl
        · cases h
      · cases h
    · cases h

/-- The next k operations, which touch no memory. -/
def batch (tb : Tab) (n : Nat) (ops : List Oper) : Nat → List Oper → Env → Option (List Oper × Env)
  | 0, l, e => some (l, e)
  | _ + 1, [], _ => none
  | k + 1, o :: r, e => match o.dst with
    | some d => match Nat.blt d n with
      | true => match guardV ops e o.guard with
        | some true => match stepV tb e o.op with
          | some v => batch tb n ops k r ((d, v) :: e)
          | none => none
        | some false => batch tb n ops k r ((d, undef) :: e)
        | none => none
      | false => none
    | none => none

def dstsOk (n : Nat) : List Oper → Bool
  | [] => true
  | o :: r => (match o.dst with | some d => Nat.blt d n | none => true) && dstsOk n r
theorem dstsOk_nth {n : Nat} : ∀ {ops : List Oper}, dstsOk n ops = true → ∀ j o, nth ops j = some o → ∀ d, o.dst = some d → Nat.blt d n = true
  | [], _, j, o, h, d, hd => by simp [nth] at h
  | x :: r, hk, j, o, h, d, hd => by
    simp only [dstsOk, Bool.and_eq_true] at hk
    cases j with
    | zero => simp only [nth, Option.some.injEq] at h; subst h; simpa [hd] using hk.1
    | succ j => exact dstsOk_nth hk.2 j o h d hd

theorem batch_sound {n : Nat} {ops : List Oper} {Q : Exit → Act → World → Prop} {w : World} (hk : dstsOk n ops = true) :
    ∀ (k : Nat) (l : List Oper) (e : Env) (l' : List Oper) (e' : Env), batch T.tb n ops k l e = some (l', e') → G P n ops.toArray Q l' e' w → G P n ops.toArray Q l e w
  | 0, l, e, l', e', hb, h => by simp only [batch, Option.some.injEq, Prod.mk.injEq] at hb; obtain ⟨rfl, rfl⟩ := hb; exact h
  | _ + 1, [], e, l', e', hb, h => by simp [batch] at hb
  | k + 1, o :: r, e, l', e', hb, h => by
    simp only [batch] at hb
    split at hb
    · rename_i d hd
      split at hb
      · rename_i hlt
        split at hb
        · rename_i hg
          split at hb
          · rename_i v hv
            intro a ha
            have hw := guard_wanted ha (dstsOk_nth hk) hg
            unfold wpList
            rw [hw]
            simp only [if_true]
            refine .inl ?_
            unfold Oper.wp
            rw [run_step T ha hv]
            simp only [Oper.upon, hd]
            exact batch_sound hk k r _ l' e' hb h _ (ha.put hlt)
          · cases hb
        · rename_i hg
          intro a ha
          have hw := guard_wanted ha (dstsOk_nth hk) hg
          unfold wpList
          rw [hw]
          simp only [Bool.false_eq_true, if_false, hd]
          exact batch_sound hk k r _ l' e' hb h _ (ha.put hlt)
        · cases hb
      · cases hb
    · cases hb

theorem gB (k : Nat) {n : Nat} {l0 l l' : List Oper} {e e' : Env} {Q : Exit → Act → World → Prop} {w : World} (hk : dstsOk n l0 = true) (hb : batch T.tb n l0 k l e = some (l', e')) (h : G P n l0.toArray Q l' e' w) : G P n l0.toArray Q l e w :=
  batch_sound T hk k l e l' e' hb h

/-! ### Guards whose test is open; calls -/
theorem gUn {n : Nat} {l0 rest : List Oper} {e : Env} {Q : Exit → Act → World → Prop} {w : World} {d : Option Tmp} {op : Op} {ty : TypeId} {pos : String} {aft : Array Edge} {g : Option (Nat × Bool)}
    (hk : dstsOk n l0 = true) (hg : guardV l0 e g = some true) (h : G P n l0.toArray Q (⟨d, op, ty, pos, aft, none⟩ :: rest) e w) :
    G P n l0.toArray Q (⟨d, op, ty, pos, aft, g⟩ :: rest) e w := by
  intro a ha
  have hw := guard_wanted (o := ⟨d, op, ty, pos, aft, g⟩) ha (dstsOk_nth hk) hg
  have := h a ha
  unfold wpList at this ⊢
  rw [hw]
  simpa [Region.wanted, Oper.wp, Oper.asks, execOp, Oper.upon] using this
/-- A test in a slot, both ways. -/
theorem gTest {n t : Nat} {ops : Array Oper} {rest : List Oper} {e : Env} {Q : Exit → Act → World → Prop} {w : World} {b : Bool}
    (hg : get e t = some (.bool b)) (ht : b = true → G P n ops Q rest ((t, .bool true) :: e) w) (hf : b = false → G P n ops Q rest ((t, .bool false) :: e) w) : G P n ops Q rest e w := by
  intro a ha
  cases hb : b with
  | true => exact ht hb a (ha.say hg (by rw [hb]))
  | false => exact hf hb a (ha.say hg (by rw [hb]))
theorem gSay {n t : Nat} {ops : Array Oper} {rest : List Oper} {e : Env} {Q : Exit → Act → World → Prop} {w : World} {v u : Value}
    (hg : get e t = some v) (hu : v = u) (h : G P n ops Q rest ((t, u) :: e) w) : G P n ops Q rest e w := fun a ha => h a (ha.say hg hu)
theorem cSay {n t : Nat} {c : Code} {e : Env} {Q : Exit → Act → World → Prop} {w : World} {v u : Value}
    (hg : get e t = some v) (hu : v = u) (h : C P n Q c ((t, u) :: e) w) : C P n Q c e w := fun a ha => h a (ha.say hg hu)

/-- An operation by what its run comes to. -/
theorem gRun {n d : Nat} {ops : Array Oper} {rest : List Oper} {e : Env} {Q : Exit → Act → World → Prop} {w w' : World} {op : Op} {ty : TypeId} {pos : String} {aft : Array Edge} {v : Value}
    (hd : Nat.blt d n = true) (hr : ∀ a, Agr n a e → (execOp a.eval ⟨some d, op, ty, pos, aft, none⟩).run P w = .ok (.value v) w')
    (h : G P n ops Q rest ((d, v) :: e) w') : G P n ops Q (⟨some d, op, ty, pos, aft, none⟩ :: rest) e w := by
  intro a ha
  refine wpList_plain rfl fun K hK => ?_
  unfold Oper.wp
  rw [hr a ha]
  exact hK _ _ (h _ (ha.put hd))
theorem gRunU {n : Nat} {ops : Array Oper} {rest : List Oper} {e : Env} {Q : Exit → Act → World → Prop} {w w' : World} {op : Op} {ty : TypeId} {pos : String} {aft : Array Edge}
    (hr : ∀ a, Agr n a e → (execOp a.eval ⟨none, op, ty, pos, aft, none⟩).run P w = .ok .skip w')
    (h : G P n ops Q rest e w') : G P n ops Q (⟨none, op, ty, pos, aft, none⟩ :: rest) e w := by
  intro a ha
  refine wpList_plain rfl fun K hK => ?_
  unfold Oper.wp
  rw [hr a ha]
  exact hK _ _ (h _ ha)

def callOk (P : Program) (f : Nat) : Bool :=
  match P.funcs[f]? with
  | some fn => !(fn.name == "runtime.NumGoroutine") && fn.body.isSome
  | none => false
theorem run_callFunc_enter {f : Nat} (h : callOk P f = true) (args : Array Value) (w : World) : (callFunc f args).run P w = .ok (.enter f args) w := by
  unfold callOk at h
  split at h
  · rename_i fn hf
    simp only [Bool.and_eq_true, Bool.not_eq_true'] at h
    have hb : fn.body ≠ none := fun hx => by simp [hx] at h
    have hn : fn.name ≠ "runtime.NumGoroutine" := by simpa using h.1
    unfold callFunc
    simp [hf, hn, hb]
  · cases h

theorem gCall {n d f : Nat} {ops : Array Oper} {rest : List Oper} {e : Env} {Q : Exit → Act → World → Prop} {w : World} {fo : Operand} {as : List Operand} {ats : Array TypeId} {ty : TypeId} {pos : String} {aft : Array Edge}
    {fs cs vs : List Value} {R : Ending → World → Prop}
    (hd : Nat.blt d n = true) (hv : ev e fo = some (.func (.func f) fs.toArray cs.toArray)) (has : evs e as = some vs) (hf : callOk P f = true)
    (hc : Calls P f (fs ++ vs ++ cs).toArray w R) (k : ∀ x w', R x w' → ∃ v, x = .returned v ∧ G P n ops Q rest ((d, v) :: e) w') :
    G P n ops Q (⟨some d, .call { callee := .value fo, args := as.toArray, argTypes := ats }, ty, pos, aft, none⟩ :: rest) e w := by
  intro a ha
  refine wpList_plain rfl fun K hK => ?_
  unfold Oper.wp
  have hr : (execOp a.eval ⟨some d, .call { callee := .value fo, args := as.toArray, argTypes := ats }, ty, pos, aft, none⟩).run P w = .ok (.enter f (fs ++ vs ++ cs).toArray) w := by
    have h1 := ha.evs has
    simp [execOp, resolve, ha.ev hv, Deferred.ofValue, invoke, h1, run_callFunc_enter hf]
  rw [hr, Oper.upon_enter]
  refine hc.mono fun x w' hR => ?_
  obtain ⟨v, rfl, hG⟩ := k x w' hR
  exact hK _ _ (hG _ (ha.put hd))
/-- A call by a contract of the form 'Ret'. -/
theorem gCl {n d f : Nat} {ops : Array Oper} {rest : List Oper} {e : Env} {Q : Exit → Act → World → Prop} {w : World} {fo : Operand} {as : List Operand} {ats : Array TypeId} {ty : TypeId} {pos : String} {aft : Array Edge}
    {fs cs vs : List Value} {R : Value → World → Prop}
    (hd : Nat.blt d n = true) (hv : ev e fo = some (.func (.func f) fs.toArray cs.toArray)) (has : evs e as = some vs) (hf : callOk P f = true)
    (hc : Calls P f (fs ++ vs ++ cs).toArray w (Ret R)) (k : ∀ v w', R v w' → G P n ops Q rest ((d, v) :: e) w') :
    G P n ops Q (⟨some d, .call { callee := .value fo, args := as.toArray, argTypes := ats }, ty, pos, aft, none⟩ :: rest) e w :=
  gCall hd hv has hf hc fun _ w' ⟨v, hx, hR⟩ => ⟨v, hx, k v w' hR⟩
end
end Go.Eng
