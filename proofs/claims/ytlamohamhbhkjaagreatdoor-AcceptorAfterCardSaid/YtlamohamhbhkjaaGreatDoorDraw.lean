/- The engine's fifth part: regions that draw their order. What reads in every later world is taken first; the rest comes in its one order. It holds for every program; it has no condition but that the program leaves its orders open, which is asked of it. -/
import Derived.Test.YtlamohamhbhkjaaGreatDoorSl
import Derived.OrdersHeld
namespace Go.Eng
open Go.RowKit

section
variable {P : Program} {ops : Array Oper} {Q : Exit → Act → World → Prop} {S : World → Prop} {fin : List Nat}
/-- Whatever order is picked from here on; S holds behind each operation but the last ones. -/
def wpF (P : Program) (ops : Array Oper) (Q : Exit → Act → World → Prop) (S : World → Prop) (fin : List Nat) : Nat → Array Bool → Act → World → Prop
  | 0, listed, a, w => Region.ready .any ops listed = [] ∧ Q .normal a w
  | fuel + 1, listed, a, w =>
    (Region.ready .any ops listed = [] → Q .normal a w) ∧
    ∀ i ∈ Region.ready .any ops listed, wpOp P ops Q i (fun a' w' => (mem fin i = false → S w') ∧ wpF P ops Q S fin fuel (listed.setIfInBounds i true) a' w') a w
theorem wpF_any : ∀ (fuel : Nat) (listed : Array Bool) (a : Act) (w : World), wpF P ops Q S fin fuel listed a w → wpAny P .any ops Q fuel listed a w
  | 0, _, _, _, h => h
  | fuel + 1, _, _, _, h => ⟨h.1, fun i hi => wpOp_mono (fun a' w' h' => wpF_any fuel _ a' w' h'.2) (h.2 i hi)⟩

/-- Each of the last ones waits for operation i. -/
def finWait (ops : Array Oper) (fin : List Nat) (i : Nat) : Bool :=
  fin.all fun j => match ops[j]? with
    | some o => o.after.any fun e => Region.binds .any e && e.on == i
    | none => false
theorem finWait_spec {i j : Nat} (h : finWait ops fin i = true) (hj : mem fin j = true) {o : Oper} (ho : ops[j]? = some o) : ∃ e ∈ o.after, Region.binds .any e = true ∧ e.on = i := by
  have := List.all_eq_true.1 h j (mem_mem hj)
  rw [ho] at this
  obtain ⟨e, he, hb⟩ := Array.any_eq_true'.1 this
  simp only [Bool.and_eq_true, beq_iff_eq] at hb
  exact ⟨e, he, hb.1, hb.2⟩

theorem wpF_first {i : Nat} {oi : Oper} {v : Value} (hi : ops[i]? = some oi) (hsel : ∀ (j : Nat) (o : Oper) cs b, ops[j]? = some o → o.op ≠ .select cs b) (hfin : finWait ops fin i = true)
    (hQ : ∀ c a w, Q (.panic c) (a.put oi.dst v) w → Q (.panic c) a w) :
    ∀ (fuel : Nat) (listed : Array Bool) (a : Act) (w : World),
      (∀ j oj, ops[j]? = some oj → j ≠ i → listed.getD j true = false → (∀ e ∈ oj.after, Region.binds .any e = true → e.on ≠ i) → oi.apart ops oj = true) →
      i ∈ Region.ready .any ops listed → YieldsIf P ops S oi v a → S w →
      wpF P ops Q S fin fuel (listed.setIfInBounds i true) (a.put oi.dst v) w → wpF P ops Q S fin (fuel + 1) listed a w := by
  intro fuel
  induction fuel with
  | zero =>
    intro listed a w _ hr hy hS H
    refine ⟨fun h => (by rw [h] at hr; cases hr), fun j hj => ?_⟩
    by_cases hji : j = i
    · subst hji; exact hy.wpOp hi hS ⟨fun _ => hS, H⟩
    · have := ready_mono hj hji
      rw [H.1] at this
      cases this
  | succ fuel ih =>
    intro listed a w hfree hr hy hS H
    refine ⟨fun h => (by rw [h] at hr; cases hr), fun j hj => ?_⟩
    by_cases hji : j = i
    · subst hji; exact hy.wpOp hi hS ⟨fun _ => hS, H⟩
    · have h1 := H.2 j (ready_mono hj hji)
      obtain ⟨hjun, oj, hoj, hall⟩ := mem_ready.1 hj
      have hnot : ∀ e ∈ oj.after, Region.binds .any e = true → e.on ≠ i := fun e he hb heq => by
        have h1 := hall e he hb
        have h0 := (mem_ready.1 hr).1
        rw [heq] at h1
        rcases Nat.lt_or_ge i listed.size with h' | h'
        · simp [h'] at h0 h1; rw [h0] at h1; cases h1
        · simp [Array.getElem?_eq_none h'] at h1
      have hnf : mem fin j = false := by
        cases hm : mem fin j with
        | false => rfl
        | true =>
          obtain ⟨e, he, hb, hon⟩ := finWait_spec hfin hm hoj
          exact absurd hon (hnot e he hb)
      have h2 := wpOp_putIf hoj (hfree j oj hoj hji hjun hnot) (fun cs b => hsel i oi cs b hi) (fun cs b => hsel j oj cs b hoj) hQ hy h1
      have hfree' : ∀ k ok, ops[k]? = some ok → k ≠ i → (listed.setIfInBounds j true).getD k true = false →
          (∀ e ∈ ok.after, Region.binds .any e = true → e.on ≠ i) → oi.apart ops ok = true := fun k ok hk hki hun hno => by
        refine hfree k ok hk hki ?_ hno
        by_cases hjk : j = k
        · subst hjk; exact hjun
        · rw [getD_set_ne true hjk] at hun; exact hun
      refine wpOp_mono (fun a' w' h3 => ⟨fun _ => h3.2.1 hnf, ih (listed.setIfInBounds j true) a' w' hfree' (ready_mono hr (Ne.symm hji)) h3.1 (h3.2.1 hnf) ?_⟩) h2
      rw [Array.setIfInBounds_comm _ _ hji]
      exact h3.2.2
end

/-! ### In the engine's form. 'done': the operations that have come up -/
def lst (n : Nat) (done : List Nat) : List Bool := (List.range n).map fun i => mem done i
def D (P : Program) (n : Nat) (ops : List Oper) (Q : Exit → Act → World → Prop) (S : World → Prop) (fin : List Nat) (fuel : Nat) (listed : List Bool) (e : Env) (w : World) : Prop :=
  ∀ a, Agr n a e → wpF P ops.toArray Q S fin fuel listed.toArray a w

section laws
variable {P : Program} (T : Tk P) {n d : Nat} {ops : List Oper} {fin : List Nat} {e : Env} {Q : Exit → Act → World → Prop} {S : World → Prop} {w : World} {fuel : Nat} {listed : List Bool}
/-- A panic's end looks at no slot. -/
def PanicFree (Q : Exit → Act → World → Prop) : Prop := ∀ c (a a' : Act) w, a.defers = a'.defers → Q (.panic c) a w → Q (.panic c) a' w
class PF (Q : Exit → Act → World → Prop) : Prop where
  pf : PanicFree Q
instance {P : Program} {fn : Func} {R : Ending → World → Prop} : PF (bodyPost P fn R) := ⟨fun _ _ _ _ h q => ⟨h ▸ q.1, q.2⟩⟩
instance {K : Act → World → Prop} {Q : Exit → Act → World → Prop} [h : PF Q] : PF (Exit.then K Q) := ⟨fun c a a' w e q => h.pf c a a' w e q⟩
instance {id : Nat} {Q : Exit → Act → World → Prop} [h : PF Q] : PF (Exit.inBlock id Q) := ⟨fun c a a' w e q => h.pf c a a' w e q⟩
theorem dStart {id : Nat} {l : List Oper} (hm : P.follows .mixedOrders = true) (S : World → Prop) (fin : List Nat) (h : D P n l Q S fin l.length (List.replicate l.length false) e w.drew) : C P n Q (.region id l.toArray true) e w := by
  intro a ha
  refine wp_region_any hm (wpF_any (S := S) (fin := fin) _ _ _ _ ?_)
  have := h a ha
  simpa using this
def stOk (ops : List Oper) (fin : List Nat) (listed : List Bool) (i : Nat) : Bool :=
  Region.noSelect ops.toArray && Region.free .any ops.toArray listed.toArray i && (Region.ready .any ops.toArray listed.toArray).contains i && finWait ops.toArray fin i
theorem take_sound {i : Nat} {o : Oper} {v : Value} (hQ : PanicFree Q) (hk : stOk ops fin listed i = true) (ho : nth ops i = some o) {a : Act}
    (hy : YieldsIf P ops.toArray S o v a) (hS : S w) (h : wpF P ops.toArray Q S fin fuel (listed.set i true).toArray (a.put o.dst v) w) : wpF P ops.toArray Q S fin (fuel + 1) listed.toArray a w := by
  simp only [stOk, Bool.and_eq_true] at hk
  obtain ⟨⟨⟨h1, h2⟩, h3⟩, h4⟩ := hk
  have hi : ops.toArray[i]? = some o := by rw [nth_get] at ho; simpa using ho
  refine wpF_first hi (Region.noSelect_spec h1) h4 (fun c a w q => hQ c _ a w ?_ q) fuel listed.toArray a w (Region.free_spec hi h2) (by simpa using h3) hy hS (by simpa using h)
  cases o.dst <;> rfl
/-- The values of operations that touch no memory, in this order. -/
def dvals (tb : Tab) (n : Nat) (ops : List Oper) : List Nat → Env → Option Env
  | [], e => some e
  | i :: r, e => match nth ops i with
    | some o => match o.dst with
      | some d => match Nat.blt d n with
        | true => match guardV ops e o.guard with
          | some true => match stepV tb e o.op with
            | some v => dvals tb n ops r ((d, v) :: e)
            | none => none
          | some false => dvals tb n ops r ((d, undef) :: e)
          | none => none
        | false => none
      | none => none
    | none => none
def chk (ops : List Oper) (fin : List Nat) : List Nat → List Bool → Bool
  | [], _ => true
  | i :: r, listed => stOk ops fin listed i && chk ops fin r (listed.set i true)
def sets : List Nat → List Bool → List Bool
  | [], l => l
  | i :: r, l => sets r (l.set i true)
theorem dBatch [hQ : PF Q] (hS : S w) (hd : dstsOk n ops = true) : ∀ (is : List Nat) (listed : List Bool) (e e' : Env), chk ops fin is listed = true → dvals T.tb n ops is e = some e' →
    D P n ops Q S fin fuel (sets is listed) e' w → D P n ops Q S fin (fuel + is.length) listed e w
  | [], listed, e, e', _, hv, h => by simp only [dvals, Option.some.injEq] at hv; subst hv; exact h
  | i :: r, listed, e, e', hc, hv, h => by
    simp only [chk, Bool.and_eq_true] at hc
    simp only [dvals] at hv
    split at hv
    · rename_i o ho
      split at hv
      · rename_i d hdst
        split at hv
        · rename_i hb
          split at hv
          · rename_i hg
            split at hv
            · rename_i v hs
              intro a ha
              have ih := dBatch hS hd r (listed.set i true) ((d, v) :: e) e' hc.2 hv h _ (ha.put hb)
              refine take_sound PF.pf hc.1 ho (.inl ⟨guard_wanted ha (dstsOk_nth hd) hg, fun w' _ => run_step T ha hs w'⟩) hS ?_
              rw [hdst]; exact ih
            · cases hv
          · rename_i hg
            intro a ha
            have ih := dBatch hS hd r (listed.set i true) ((d, undef) :: e) e' hc.2 hv h _ (ha.put hb)
            refine take_sound PF.pf hc.1 ho (.inr ⟨guard_wanted ha (dstsOk_nth hd) hg, rfl⟩) hS ?_
            rw [hdst]; exact ih
          · cases hv
        · cases hv
      · cases hv
    · cases hv
/-- The same, the numbers told. -/
theorem dB (is : List Nat) {listed' : List Bool} {fuel' : Nat} {e' : Env} [hQ : PF Q] (hS : S w) (hd : dstsOk n ops = true) (hc : chk ops fin is listed = true) (hf : fuel' = fuel + is.length) (hl : sets is listed = listed') (hv : dvals T.tb n ops is e = some e')
    (h : D P n ops Q S fin fuel listed' e' w) : D P n ops Q S fin fuel' listed e w := by
  subst hf; subst hl; exact dBatch T hS hd is listed e e' hc hv h
/-- An operation that yields its value in every later world. -/
theorem dTake (i : Nat) {o : Oper} {v : Value} (ho : nth ops i = some o) (hdst : o.dst = some d) (hb : Nat.blt d n = true) [hQ : PF Q] (hS : S w) (hd : dstsOk n ops = true) (hc : stOk ops fin listed i = true)
    (hg : guardV ops e o.guard = some true) (hy : ∀ a, Agr n a e → ∀ w', S w' → (execOp a.eval o).run P w' = .ok (.value v) w') (h : D P n ops Q S fin fuel (listed.set i true) ((d, v) :: e) w) : D P n ops Q S fin (fuel + 1) listed e w := by
  intro a ha
  refine take_sound PF.pf hc ho (.inl ⟨guard_wanted ha (dstsOk_nth hd) hg, fun w' h' => hy a ha w' h'⟩) hS ?_
  rw [hdst]; exact h _ (ha.put hb)
theorem dLoad (i : Nat) {g q f k t : Nat} {x : Operand} {l : List Value} {v : Value} {ty : TypeId} {pos : String} {aft : Array Edge} {gd : Option (Nat × Bool)} (ho : nth ops i = some ⟨some d, .load t x, ty, pos, aft, gd⟩) (hb : Nat.blt d n = true) [hQ : PF Q] (hS : S w) (hd : dstsOk n ops = true) (hc : stOk ops fin listed i = true)
    (hg : guardV ops e gd = some true) (hx : ev e x = some (.pointer (some ⟨g, q, none⟩))) (ht : mem T.tb.flat t = true) (hr : ∀ w', S w' → Rd w' g k l) (hq : q = k + f) (hs : nth l f = some v)
    (h : D P n ops Q S fin fuel (listed.set i true) ((d, v) :: e) w) : D P n ops Q S fin (fuel + 1) listed e w :=
  dTake i ho rfl hb hS hd hc hg (fun a ha w' h' => by simp [execOp, ha.ev hx, Instr.loadAt, Instr.sureAddr, run_load1R T ht (hr w' h') hq hs]) h
theorem dLoadA (i : Nat) {g q f k t z : Nat} {x : Operand} {l vs : List Value} {ty : TypeId} {pos : String} {aft : Array Edge} {gd : Option (Nat × Bool)} (ho : nth ops i = some ⟨some d, .load t x, ty, pos, aft, gd⟩) (hb : Nat.blt d n = true) [hQ : PF Q] (hS : S w) (hd : dstsOk n ops = true) (hc : stOk ops fin listed i = true)
    (hg : guardV ops e gd = some true) (hx : ev e x = some (.pointer (some ⟨g, q, none⟩))) (ht : lk T.tb.aggs t = some z) (hr : ∀ w', S w' → Rd w' g k l) (hq : q = k + f) (hs : seg l f z = vs) (hn : vs.length = z)
    (h : D P n ops Q S fin fuel (listed.set i true) ((d, .agg vs.toArray) :: e) w) : D P n ops Q S fin (fuel + 1) listed e w :=
  dTake i ho rfl hb hS hd hc hg (fun a ha w' h' => by simp [execOp, ha.ev hx, Instr.loadAt, Instr.sureAddr, run_loadAR T ht (hr w' h') hq hs hn]) h
theorem dTest {t : Nat} {b : Bool} (hg : get e t = some (.bool b)) (ht : b = true → D P n ops Q S fin fuel listed ((t, .bool true) :: e) w) (hf : b = false → D P n ops Q S fin fuel listed ((t, .bool false) :: e) w) : D P n ops Q S fin fuel listed e w := by
  intro a ha
  cases hb : b with
  | true => exact ht hb a (ha.say hg (by rw [hb]))
  | false => exact hf hb a (ha.say hg (by rw [hb]))
/-- The one operation that may come up now: by the engine's law on it, at the end of a list of its own. -/
theorem dOp (i : Nat) {o : Oper} (ho : nth ops i = some o) (hd : dstsOk n ops = true) (hr : Region.ready .any ops.toArray listed.toArray = [i]) (hg : guardV ops e o.guard = some true) {o' : Oper} (ho' : o' = { o with guard := none }) (b : Bool) (hb : mem fin i = b)
    (h : ∀ K : Act → World → Prop, (∀ e' w', (b = false → S w') → D P n ops Q S fin fuel (listed.set i true) e' w' → N n (Exit.then K Q) .normal e' w') → G P n #[] (Exit.then K Q) [o'] e w) :
    D P n ops Q S fin (fuel + 1) listed e w := by
  subst ho'
  intro a ha
  refine ⟨fun hx => absurd (hr.symm.trans hx) (by simp), fun j hj => ?_⟩
  rw [hr] at hj
  simp only [List.mem_cons, List.not_mem_nil, or_false] at hj
  subst hj
  have hi : ops.toArray[j]? = some o := by rw [nth_get] at ho; simpa using ho
  unfold wpOp
  rw [hi]
  simp only [guard_wanted ha (dstsOk_nth hd) hg, if_true]
  have := h (fun a' w' => (mem fin j = false → S w') ∧ wpF P ops.toArray Q S fin fuel (listed.toArray.setIfInBounds j true) a' w')
    (fun e' w' hS hD a' ha' => ⟨fun hm => hS (hb ▸ hm), by have := hD a' ha'; simpa using this⟩) a ha
  unfold wpList at this
  simp only [Region.wanted, if_true] at this
  rcases this with hw | ⟨h1, h2⟩
  · refine .inl ?_
    have e1 : (wpList P #[] (Exit.then (fun a' w' => (mem fin j = false → S w') ∧ wpF P ops.toArray Q S fin fuel (listed.toArray.setIfInBounds j true) a' w') Q) []) =
        (fun a' w' => (mem fin j = false → S w') ∧ wpF P ops.toArray Q S fin fuel (listed.toArray.setIfInBounds j true) a' w') := rfl
    unfold Oper.wp at hw ⊢
    rw [e1] at hw
    have e2 : execOp a.eval { o with guard := none } = execOp a.eval o := rfl
    rw [e2] at hw
    generalize (execOp a.eval o).run P w = r at hw ⊢
    cases r with
    | ok nx w1 => cases nx <;> exact hw
    | halt x w1 => cases x <;> exact hw
  · exact .inr ⟨h1, by obtain ⟨a0, w0, q⟩ := h2; exact ⟨a0, w0, q⟩⟩
theorem dDone (hr : Region.ready .any ops.toArray listed.toArray = []) (h : N n Q .normal e w) : ∀ fuel, D P n ops Q S fin fuel listed e w
  | 0 => fun a ha => ⟨hr, h a ha⟩
  | _ + 1 => fun a ha => ⟨fun _ => h a ha, by rw [hr]; simp⟩
end laws
end Go.Eng
