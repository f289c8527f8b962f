/- The evaluator is right, seventeenth part: orders that are drawn: what comes ahead of what; what is quiet may be taken first; what was read is read again. No condition. -/
import Derived.Test.YtlamohamhbhkjaaGreatDoorSg
namespace Go.Ev
open Go.RowKit Go.Eng

section
variable {P : Program} {ops : List Oper} {Q : Exit → Act → World → Prop}
/-- One operation comes ahead of another. -/
inductive Anc (ops : List Oper) : Nat → Nat → Prop
  | one {i j : Nat} (h : i ∈ preds ops j) : Anc ops i j
  | step {i m j : Nat} (h : i ∈ preds ops m) (h' : Anc ops m j) : Anc ops i j
theorem bits_sound {i : Nat} : ∀ (l : List Nat) (s : Nat), Nat.testBit (l.foldl (fun s k => Nat.lor s (Nat.shiftLeft 1 k)) s) i = true → Nat.testBit s i = true ∨ i ∈ l
  | [], s, h => .inl h
  | k :: l, s, h => by
    rcases bits_sound l _ h with h1 | h1
    · have h2 : Nat.testBit (s ||| (1 <<< k)) i = true := h1
      rw [Nat.testBit_or, Nat.one_shiftLeft, Nat.testBit_two_pow] at h2
      simp only [Bool.or_eq_true, decide_eq_true_eq] at h2
      rcases h2 with h2 | h2
      · exact .inl h2
      · exact .inr (by rw [h2]; exact List.mem_cons_self ..)
    · exact .inr (List.mem_cons_of_mem _ h1)
theorem predsM_sound {i j : Nat} (h : Nat.testBit (predsM ops j) i = true) : i ∈ preds ops j := by
  rcases bits_sound _ _ h with h | h
  · simp at h
  · exact h
theorem ancs_sound {j : Nat} : ∀ (l : List Nat) (s : Nat), (∀ i, Nat.testBit s i = true → Anc ops i j) → ∀ i, Nat.testBit (ancsM ops l s) i = true → Anc ops i j
  | [], s, h, i, hi => h i hi
  | m :: l, s, h, i, hi => by
    simp only [ancsM] at hi
    split at hi
    · rename_i hm
      refine ancs_sound l _ (fun x hx => ?_) i hi
      have h2 : Nat.testBit (s ||| predsM ops m) x = true := hx
      rw [Nat.testBit_or, Bool.or_eq_true] at h2
      rcases h2 with h2 | h2
      · exact h x h2
      · exact .step (predsM_sound h2) (h m hm)
    · exact ancs_sound l s h i hi
theorem ancsOf_sound {i j : Nat} (h : i ∈ ancsOf ops j) : Anc ops i j := ancs_sound _ _ (fun _ hx => .one (predsM_sound hx)) i (List.mem_filter.1 h).2
theorem mem_preds {i j : Nat} : i ∈ preds ops j ↔ ∃ o, ops[j]? = some o ∧ ∃ e ∈ o.after, Region.binds .any e = true ∧ e.on = i := by
  unfold preds
  rw [nth_get]
  cases ops[j]? with
  | none => simp
  | some o => simp [List.mem_map, List.mem_filter, and_assoc]
/-- What comes ahead of what has come up has come up. -/
def Closed (ops : List Oper) (l : Array Bool) : Prop := ∀ j i, l.getD j false = true → i ∈ preds ops j → l.getD i false = true
theorem ready_preds {j : Nat} {l : Array Bool} (h : j ∈ Region.ready .any ops.toArray l) : l.getD j true = false ∧ j < ops.length ∧ ∀ i ∈ preds ops j, l.getD i false = true := by
  obtain ⟨h1, o, h2, h3⟩ := mem_ready.1 h
  have h2' : ops[j]? = some o := by simpa using h2
  refine ⟨h1, (List.getElem?_eq_some_iff.1 h2').1, fun i hi => ?_⟩
  obtain ⟨o', h4, e, he, hb, hon⟩ := mem_preds.1 hi
  rw [h2', Option.some.injEq] at h4
  subst h4
  rw [← hon]; exact h3 e he hb
theorem ready_of {j : Nat} {l : Array Bool} (h1 : l.getD j true = false) (h2 : j < ops.length) (h3 : ∀ i ∈ preds ops j, l.getD i false = true) : j ∈ Region.ready .any ops.toArray l := by
  refine mem_ready.2 ⟨h1, ops[j], by simp [h2], fun e he hb => h3 _ (mem_preds.2 ⟨ops[j], by simp [h2], e, he, hb, rfl⟩)⟩
theorem closed_anc {l : Array Bool} (hc : Closed ops l) {i j : Nat} (ha : Anc ops i j) : l.getD j false = true → l.getD i false = true := by
  induction ha with
  | one h => exact fun hj => hc _ _ hj h
  | step h _ ih => exact fun hj => hc _ _ (ih hj) h
theorem ready_anc' {l : Array Bool} (hc : Closed ops l) {i j : Nat} (ha : Anc ops i j) : (∀ i ∈ preds ops j, l.getD i false = true) → l.getD i false = true := by
  induction ha with
  | one h => exact fun h3 => h3 _ h
  | step h _ ih => exact fun h3 => hc _ _ (ih h3) h
theorem ready_anc {l : Array Bool} (hc : Closed ops l) {i j : Nat} (hj : j ∈ Region.ready .any ops.toArray l) (ha : Anc ops i j) : l.getD i false = true := ready_anc' hc ha (ready_preds hj).2.2
theorem getD_set_same {l : Array Bool} {i : Nat} (h : i < l.size) (d : Bool) : (l.setIfInBounds i true).getD i d = true := by simp [h]
theorem getD_or {l : Array Bool} {i j : Nat} (h : (l.setIfInBounds i true).getD j false = true) : j = i ∨ l.getD j false = true := by
  by_cases e : j = i
  · exact .inl e
  · rw [getD_set_ne false (Ne.symm e)] at h; exact .inr h
theorem Closed.set {l : Array Bool} (hc : Closed ops l) {i : Nat} (hi : i ∈ Region.ready .any ops.toArray l) : Closed ops (l.setIfInBounds i true) := fun j m hj hm => by
  obtain ⟨_, _, h3⟩ := ready_preds hi
  rcases getD_or hj with e | h
  · subst e; exact getD_set_true (h3 _ hm)
  · exact getD_set_true (hc _ _ h hm)
theorem unl_size {l : Array Bool} {i : Nat} (h : l.getD i true = false) : i < l.size := by
  rcases Nat.lt_or_ge i l.size with h' | h'
  · exact h'
  · simp [Array.getElem?_eq_none h'] at h
theorem getD_tf {l : Array Bool} {i : Nat} (h : l.getD i true = false) : l.getD i false = false := by
  have := unl_size h
  simp [this] at h ⊢
  exact h
theorem getD_ft {l : Array Bool} {i : Nat} (h : l.getD i false = true) : l.getD i true = true := by
  rcases Nat.lt_or_ge i l.size with h' | h'
  · simp [h'] at h ⊢; exact h
  · simp [Array.getElem?_eq_none h']

/-- Whatever order is picked from here on; S holds of what has come up and of the world, behind each operation. -/
def wpS (P : Program) (ops : List Oper) (Q : Exit → Act → World → Prop) (S : Array Bool → World → Prop) : Nat → Array Bool → Act → World → Prop
  | 0, listed, a, w => Region.ready .any ops.toArray listed = [] ∧ Q .normal a w
  | fuel + 1, listed, a, w =>
    (Region.ready .any ops.toArray listed = [] → Q .normal a w) ∧
    ∀ i ∈ Region.ready .any ops.toArray listed, wpOp P ops.toArray Q i (fun a' w' => S (listed.setIfInBounds i true) w' ∧ wpS P ops Q S fuel (listed.setIfInBounds i true) a' w') a w
theorem wpS_any {S : Array Bool → World → Prop} : ∀ (fuel : Nat) (listed : Array Bool) (a : Act) (w : World), wpS P ops Q S fuel listed a w → wpAny P .any ops.toArray Q fuel listed a w
  | 0, _, _, _, h => h
  | fuel + 1, _, _, _, h => ⟨h.1, fun i hi => wpOp_mono (fun a' w' h' => wpS_any fuel _ a' w' h'.2) (h.2 i hi)⟩
/-- Less is asked, from here on. -/
theorem wpS_drop {S S' : Array Bool → World → Prop} : ∀ (fuel : Nat) (l : Array Bool) (a : Act) (w : World), (∀ l' : Array Bool, (∀ j, l.getD j false = true → l'.getD j false = true) → ∀ w, S' l' w → S l' w) → wpS P ops Q S' fuel l a w → wpS P ops Q S fuel l a w
  | 0, _, _, _, _, h => h
  | fuel + 1, l, a, w, hs, h => ⟨h.1, fun i hi => wpOp_mono (fun a' w' h' => ⟨hs _ (fun j hj => getD_set_true hj) w' h'.1, wpS_drop fuel _ a' w' (fun l' hl' => hs l' (fun j hj => hl' j (getD_set_true hj))) h'.2⟩) (h.2 i hi)⟩
abbrev Pend := List (Nat × (World → Prop))
/-- What is asked of a world: of each reading, where nothing loud has come up behind it, that it would still read the same. -/
def SP (P : Program) (ops : List Oper) (pd : Pend) (l : Array Bool) (w : World) : Prop := ∀ p ∈ pd, (∃ j, quietAt P ops j = false ∧ l.getD j false = true ∧ Anc ops p.1 j) ∨ p.2 w
theorem sp_quiet {pd : Pend} {i : Nat} (hq : quietAt P ops i = true) {l : Array Bool} {w : World} (h : SP P ops pd (l.setIfInBounds i true) w) : SP P ops pd l w := fun p hp => by
  rcases h p hp with ⟨j, h1, h2, h3⟩ | h1
  · refine .inl ⟨j, h1, ?_, h3⟩
    rcases getD_or h2 with e | h4
    · subst e; rw [hq] at h1; cases h1
    · exact h4
  · exact .inr h1
theorem sp_set {pd : Pend} {i : Nat} {l : Array Bool} {w : World} (h : SP P ops pd l w) : SP P ops pd (l.setIfInBounds i true) w := fun p hp => by
  rcases h p hp with ⟨j, h1, h2, h3⟩ | h1
  · exact .inl ⟨j, h1, getD_set_true h2, h3⟩
  · exact .inr h1
/-- What is quiet may be taken first. -/
theorem take_q {i : Nat} {oi : Oper} {v : Value} {T : World → Prop} {pd : Pend} (hi : ops.toArray[i]? = some oi) (hsel : ∀ (j : Nat) (o : Oper) cs b, ops.toArray[j]? = some o → o.op ≠ .select cs b) (hQ : ∀ c a w, Q (.panic c) (a.put oi.dst v) w → Q (.panic c) a w)
    (hq : quietAt P ops i = true) (hT : (i, T) ∈ pd) :
    ∀ (fuel : Nat) (l : Array Bool) (a : Act) (w : World),
      (∀ j oj, ops.toArray[j]? = some oj → j ≠ i → l.getD j true = false → (∀ e ∈ oj.after, Region.binds .any e = true → e.on ≠ i) → oi.apart ops.toArray oj = true) →
      i ∈ Region.ready .any ops.toArray l → Closed ops l → YieldsIf P ops.toArray T oi v a → T w → SP P ops pd (l.setIfInBounds i true) w →
      wpS P ops Q (SP P ops pd) fuel (l.setIfInBounds i true) (a.put oi.dst v) w → wpS P ops Q (SP P ops pd) (fuel + 1) l a w := by
  intro fuel
  induction fuel with
  | zero =>
    intro l a w _ hr _ hy hTw hS H
    refine ⟨fun h => (by rw [h] at hr; cases hr), fun j hj => ?_⟩
    by_cases hji : j = i
    · subst hji; exact hy.wpOp hi hTw ⟨hS, H⟩
    · have := ready_mono hj hji
      rw [H.1] at this
      cases this
  | succ fuel ih =>
    intro l a w hfree hr hc hy hTw hS H
    refine ⟨fun h => (by rw [h] at hr; cases hr), fun j hj => ?_⟩
    by_cases hji : j = i
    · subst hji; exact hy.wpOp hi hTw ⟨hS, H⟩
    · have h1 := H.2 j (ready_mono hj hji)
      obtain ⟨hjun, oj, hoj, hall⟩ := mem_ready.1 hj
      have hiun : l.getD i false = false := getD_tf (mem_ready.1 hr).1
      have hnot : ∀ e ∈ oj.after, Region.binds .any e = true → e.on ≠ i := fun e he hb heq => by
        have h1 := hall e he hb
        rw [heq, hiun] at h1; cases h1
      have h2 := wpOp_putIf hoj (hfree j oj hoj hji hjun hnot) (fun cs b => hsel i oi cs b hi) (fun cs b => hsel j oj cs b hoj) hQ hy h1
      have hfree' : ∀ k ok, ops.toArray[k]? = some ok → k ≠ i → (l.setIfInBounds j true).getD k true = false →
          (∀ e ∈ ok.after, Region.binds .any e = true → e.on ≠ i) → oi.apart ops.toArray ok = true := fun k ok hk hki hun hno => by
        refine hfree k ok hk hki ?_ hno
        by_cases hjk : j = k
        · subst hjk; exact hjun
        · rw [getD_set_ne true hjk] at hun; exact hun
      refine wpOp_mono (fun a' w' h3 => ?_) h2
      have h4 : SP P ops pd ((l.setIfInBounds j true).setIfInBounds i true) w' := by
        rw [Array.setIfInBounds_comm _ _ hji]; exact h3.2.1
      have h5 : SP P ops pd (l.setIfInBounds j true) w' := sp_quiet hq h4
      have hcj : Closed ops (l.setIfInBounds j true) := hc.set hj
      have hT' : T w' := by
        rcases h5 _ hT with ⟨m, _, h7, h8⟩ | h6
        · have h9 := closed_anc hcj h8 h7
          have h10 : (l.setIfInBounds j true).getD i false = false := by
            rw [getD_set_ne false hji]; exact hiun
          have h9' : (l.setIfInBounds j true).getD i false = true := h9
          rw [h10] at h9'; cases h9'
        · exact h6
      refine ⟨h5, ih (l.setIfInBounds j true) a' w' hfree' (ready_mono hr (Ne.symm hji)) hcj h3.1 hT' h4 ?_⟩
      rw [Array.setIfInBounds_comm _ _ hji]
      exact h3.2.2
end

/-! ### The same value -/
section
variable {P : Program} {fm : List (Nat × Nat)} {nt : Nat} {ρ : Rho} {f : St} {L : Lm} {s : St} {a : Act} {r : V × Hp} {c : Call} {h : Hp} {w : World}
theorem andB_eq (a b : Bool) : andB a b = (a && b) := by cases a <;> rfl
theorem eqP_eq : ∀ (p q : Pth), eqP p q = true → p = q
  | [], [], _ => rfl
  | [], _ :: _, h => by cases h
  | _ :: _, [], h => by cases h
  | a :: p, b :: q, h => by
    have h' : Bool.rec (motive := fun _ => Bool) false (eqP p q) (eqB a b) = true := h
    cases e : eqB a b with
    | false => rw [e] at h'; cases h'
    | true =>
      rw [e] at h'
      rw [eqB_eq] at e
      rw [eqP_eq p q h', (beq_iff_eq.1 e)]
theorem ptr_fun {b : Pth} {o : Nat} {v v' : Value} (h : ptr ρ b o v) (h' : ptr ρ b o v') : v = v' := by
  obtain ⟨q, h1, rfl⟩ := h
  obtain ⟨q', h2, rfl⟩ := h'
  rw [h1, Option.some.injEq] at h2
  rw [h2]
/-- Two cells that are one stand for one value. -/
theorem sameC_val {x y : C} {v v' : Value} (hs : sameC x y = true) (h : CR ρ x v) (h' : CR ρ y v') : v = v' := by
  cases x with
  | i k n =>
    cases y with
    | i j m =>
      have hs' : andB (Nat.beq k j) (Nat.beq n m) = true := hs
      rw [andB_eq, Bool.and_eq_true] at hs'
      obtain ⟨kd, e1, h1, rfl⟩ := h
      obtain ⟨kd', e2, h2, rfl⟩ := h'
      have : kd = kd' := kc_inj (by rw [e1, e2, beq_inv hs'.1])
      rw [this, beq_inv hs'.2]
    | p b o => cases hs
    | o d => cases hs
  | p b o =>
    cases y with
    | i j m => cases hs
    | p b' o' =>
      have hs' : andB (eqP b b') (Nat.beq o o') = true := hs
      rw [andB_eq, Bool.and_eq_true] at hs'
      rw [← eqP_eq _ _ hs'.1, ← beq_inv hs'.2] at h'
      exact ptr_fun h h'
    | o d => cases hs
  | o d =>
    cases y with
    | i j m => cases hs
    | p b' o' => cases hs
    | o d' =>
      have hs' : sameD d d' = true := hs
      cases d with
      | b x =>
        cases d' with
        | b y =>
          have : eqB x y = true := hs'
          rw [eqB_eq] at this
          rw [show v = _ from h, show v' = _ from h', beq_iff_eq.1 this]
        | _ => cases hs'
      | s l =>
        cases d' with
        | s m =>
          have : eqL l m = true := hs'
          rw [eqL_eq] at this
          rw [h.1, h'.1, beq_iff_eq.1 this]
        | _ => cases hs'
      | np =>
        cases d' with
        | np => rw [show v = _ from h, show v' = _ from h']
        | _ => cases hs'
      | ns =>
        cases d' with
        | ns => rw [show v = _ from h, show v' = _ from h']
        | _ => cases hs'
      | sl a o n k =>
        cases d' with
        | sl b p m k' =>
          have hs2 : andB (eqP a b) (andB (Nat.beq o p) (andB (Nat.beq n m) (Nat.beq k k'))) = true := hs'
          simp only [andB_eq, Bool.and_eq_true] at hs2
          obtain ⟨e1, e2, e3, e4⟩ := hs2
          rw [← eqP_eq _ _ e1, ← beq_inv e2, ← beq_inv e3, ← beq_inv e4] at h'
          obtain ⟨q, h1, rfl, _⟩ := h
          obtain ⟨q', h2, rfl, _⟩ := h'
          rw [h1, Option.some.injEq] at h2
          rw [h2]
        | _ => cases hs'
      | sh a o n k =>
        cases d' with
        | sh b p m k' =>
          have hs2 : andB (eqP a b) (andB (Nat.beq o p) (andB (Nat.beq n m) (andB (Nat.beq k k') (Nat.ble 1 k)))) = true := hs'
          simp only [andB_eq, Bool.and_eq_true] at hs2
          obtain ⟨e1, e2, e3, e4, e5⟩ := hs2
          rw [← eqP_eq _ _ e1, ← beq_inv e2, ← beq_inv e3, ← beq_inv e4] at h'
          obtain ⟨q, cp, h1, rfl, _, h3⟩ := h
          obtain ⟨q', cp', h2, rfl, _, h4⟩ := h'
          rw [h1, Option.some.injEq] at h2
          subst h2
          have hk := ble_inv e5
          have : cp = cp' := by
            have : cp * k = cp' * k := by omega
            exact Nat.eq_of_mul_eq_mul_right (by omega) this
          rw [this]
        | _ => cases hs'
      | se => cases hs'
      | f n fs cs => cases hs'
      | raw z => cases hs'
theorem sameCs_val : ∀ {l m : List C} {vs vs' : List Value}, sameCs l m = true → CRs ρ l vs → CRs ρ m vs' → vs = vs'
  | [], [], [], [], _, _, _ => rfl
  | [], _ :: _, _, _, h, _, _ => by cases h
  | _ :: _, [], _, _, h, _, _ => by cases h
  | x :: l, y :: m, v :: vs, v' :: vs', h, h1, h2 => by
    have h' : andB (sameC x y) (sameCs l m) = true := h
    rw [andB_eq, Bool.and_eq_true] at h'
    rw [sameC_val h'.1 h1.1 h2.1, sameCs_val h'.2 h1.2 h2.2]
  | _ :: _, _ :: _, [], _, _, h, _ => h.elim
  | _ :: _, _ :: _, _ :: _, [], _, _, h => h.elim
  | [], [], _ :: _, _, _, h, _ => h.elim
  | [], [], [], _ :: _, _, _, h => h.elim
theorem sameV_inv {x y : V} {k : A} (h : sameV x y k = some r) : k = some r ∧ ∀ {v v' : Value}, VR ρ x v → VR ρ y v' → v = v' := by
  cases x with
  | c a =>
    obtain ⟨b, rfl, h1⟩ := toC_inv (show toC y (fun b => ifT (sameC a b) k) = some r from h)
    obtain ⟨h2, h3⟩ := ifT_inv h1
    exact ⟨h3, fun hv hv' => sameC_val h2 hv hv'⟩
  | g l =>
    obtain ⟨m, rfl, h1⟩ := toG_inv (show toG y (fun m => ifT (sameCs l m) k) = some r from h)
    obtain ⟨h2, h3⟩ := ifT_inv h1
    refine ⟨h3, fun hv hv' => ?_⟩
    obtain ⟨vs, h4, rfl⟩ := hv
    obtain ⟨vs', h5, rfl⟩ := hv'
    rw [sameCs_val h2 h4 h5]
  | t l => exact nN h
  | u => exact nN h

/-! ### What was read is read again -/
/-- A reading that waits: it reads so, or it was not wanted. -/
def PendOK (P : Program) (ops : List Oper) (a : Act) (p : Nat × (World → Prop)) : Prop :=
  ∃ o d rk x, nth ops p.1 = some o ∧ o.dst = some d ∧ RdOp P rk o.op x ∧ (Operand.tmp d ∉ o.op.operands) ∧ (x ∈ o.op.operands) ∧
    ((Region.wanted o (yielded ops.toArray a.tmps) = true ∧ p.2 = Reads rk (a.eval x) (a.tmps.getD d undef)) ∨ (Region.wanted o (yielded ops.toArray a.tmps) = false ∧ p.2 = fun _ => True))
theorem rd_den {rk : Rk} {op : Op} {x : Operand} (ho : RdOp P rk op x) (A' : AR fm nt ρ f L s a) {k' : Cn} (hk : (opV P (ofO fm L s.length) op).2.den c f s h k' = some r) : ∃ p, ofO fm L s.length x = some p ∧ rdC rk (oV p f s) h (fun v => k' v h) = some r := by
  have one : ∀ (g : O → Ins) (kd : Kd), insV P (ofO fm L s.length) op = Ev.one (ofO fm L s.length) g kd x → (∀ p, (g p).den c f s h k' = rdC rk (oV p f s) h (fun v => k' v h)) → ∃ p, ofO fm L s.length x = some p ∧ rdC rk (oV p f s) h (fun v => k' v h) = some r := fun g kd e hg => by
    unfold opV at hk
    rw [e] at hk
    unfold Ev.one at hk
    cases hp : ofO fm L s.length x with
    | none => rw [hp] at hk; exact nN (show (none : A) = some r from hk)
    | some p => rw [hp] at hk; exact ⟨p, rfl, (hg p).symm.trans hk⟩
  cases rk with
  | l1 =>
    obtain ⟨t, rfl, ha⟩ := ho
    exact one .ld1 .read (by simp only [insV, ha]) (fun p => rfl)
  | lA n =>
    obtain ⟨t, rfl, ha⟩ := ho
    exact one (.ldA n) .read (by simp only [insV, ha]) (fun p => rfl)
  | bs =>
    obtain ⟨st, t, e, rfl, h1, h2, h3⟩ := ho
    exact one .b2s .read (by simp only [insV, h1, h2, h3]) (fun p => rfl)
theorem agS_ok {ops : List Oper} {l : List Sp} {k : Kn} (A' : AR fm nt ρ f L s a) (H : HR ρ h w) : ∀ (pd : Pend) (ag : List Sp), agS P fm ops L s.length (pd.map Prod.fst) = some ag → (∀ p ∈ pd, PendOK P ops a p) → regC (dens (ag ++ l)) c f s h k = some r →
    (∀ p ∈ pd, p.2 w) ∧ regC (dens l) c f s h k = some r
  | [], ag, hs, _, hk => by
    simp only [List.map_nil, agS, Option.some.injEq] at hs
    subst hs
    exact ⟨(fun p hp => by cases hp), hk⟩
  | p :: pd, ag, hs, hp, hk => by
    obtain ⟨o, d, rk, x, h1, h2, h3, _, _, h4⟩ := hp p (by simp)
    simp only [List.map_cons, agS, h1, h2] at hs
    split at hs
    case h_2 => cases hs
    rename_i y hy
    split at hs
    case h_2 => cases hs
    rename_i ag' hag
    have ih := fun (hk' : regC (dens (ag' ++ l)) c f s h k = some r) => agS_ok (l := l) (k := k) A' H pd ag' hag (fun q hq => hp q (by simp [hq])) hk'
    -- one look
    have look : sAg y (opV P (ofO fm L s.length) o.op).2.den c f s h (fun f' s' h' => regC (dens (ag' ++ l)) c f' s' h' k) = some r → regC (dens (ag' ++ l)) c f s h k = some r ∧ Reads rk (a.eval x) (a.tmps.getD d undef) w := fun hh => by
      obtain ⟨q, hq, h5⟩ := rd_den h3 A' (show (opV P (ofO fm L s.length) o.op).2.den c f s h (fun v _ => sameV v (oV y f s) (regC (dens (ag' ++ l)) c f s h k)) = some r from hh)
      obtain ⟨v, h6, h7⟩ := rd_inv H (A'.opd hq) h5
      obtain ⟨h8, h9⟩ := sameV_inv (ρ := ρ) h6
      obtain ⟨vv, h10, h11⟩ := h7.reads H (A'.opd hq)
      have e := h9 h10 (A'.opd hy)
      have e' : vv = a.tmps.getD d undef := e
      rw [← e']
      exact ⟨h8, h11⟩
    have fin : ∀ hk' : regC (dens (ag' ++ l)) c f s h k = some r, p.2 w → (∀ q ∈ p :: pd, q.2 w) ∧ regC (dens l) c f s h k = some r := fun hk' hpw => by
      obtain ⟨h5, h6⟩ := ih hk'
      exact ⟨fun q hq => by rcases List.mem_cons.1 hq with rfl | hq; exact hpw; exact h5 q hq, h6⟩
    split at hs
    · rename_i hg
      simp only [Option.some.injEq] at hs
      subst hs
      obtain ⟨h5, h6⟩ := look hk
      have hw : Region.wanted o (yielded ops.toArray a.tmps) = true := by simp [Region.wanted, hg]
      rcases h4 with ⟨_, e⟩ | ⟨hw', _⟩
      · exact fin h5 (by rw [e]; exact h6)
      · rw [hw] at hw'; cases hw'
    · rename_i g want hg
      split at hs
      case h_2 => cases hs
      rename_i go hgo
      simp only [Option.some.injEq] at hs
      subst hs
      have hgd : ∃ o' d', nth ops g = some o' ∧ o'.dst = some d' ∧ ofO fm L s.length (.tmp d') = some go := by
        unfold grdV at hgo
        split at hgo
        · rename_i o' ho'
          split at hgo
          · rename_i d' hd'; exact ⟨o', d', ho', hd', hgo⟩
          · cases hgo
        · cases hgo
      obtain ⟨o', d', ho', hd', hgo'⟩ := hgd
      have hgv : VR ρ (oV go f s) (a.tmps.getD d' undef) := A'.opd hgo'
      have hwant := wanted_of (a := a) hg ho' hd'
      rcases gd_inv hgv (show toGd (oV go f s) (regC (dens (ag' ++ l)) c f s h k) (fun x => Bool.rec (motive := fun _ => A) (regC (dens (ag' ++ l)) c f s h k) (sAg y (opV P (ofO fm L s.length) o.op).2.den c f s h (fun f' s' h' => regC (dens (ag' ++ l)) c f' s' h' k)) (eqB x want)) = some r from hk) with ⟨b, e, h5⟩ | ⟨hne, h5⟩
      · rw [eqB_eq] at h5
        rw [e] at hwant
        simp only at hwant
        cases hb : (b == want) with
        | true =>
          rw [hb] at h5 hwant
          obtain ⟨h6, h7⟩ := look h5
          rcases h4 with ⟨_, e⟩ | ⟨hw', _⟩
          · exact fin h6 (by rw [e]; exact h7)
          · rw [hwant] at hw'; cases hw'
        | false =>
          rw [hb] at h5 hwant
          rcases h4 with ⟨hw', _⟩ | ⟨_, e⟩
          · rw [hwant] at hw'; cases hw'
          · exact fin h5 (by rw [e]; exact trivial)
      · have hw : Region.wanted o (yielded ops.toArray a.tmps) = false := by
          rw [hwant]
          split
          · rename_i b e; exact absurd e (hne b)
          · rfl
        rcases h4 with ⟨hw', _⟩ | ⟨_, e⟩
        · rw [hw] at hw'; cases hw'
        · exact fin h5 (by rw [e]; exact trivial)
end
end Go.Ev
