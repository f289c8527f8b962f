/- The evaluator is right, eighteenth part: orders that are drawn: what makes blocks may come early. No condition. -/
import Derived.Test.YtlamohamhbhkjaaGreatDoorSh
namespace Go.Ev
open Go.RowKit Go.Eng

/-- A maker's answer; its block's type. -/
def mkVal : Op → Nat → Value
  | .buildSlice _ len _, g => .slice (some ⟨g, 0, none⟩) len len
  | _, g => .pointer (some ⟨g, 0, none⟩)
def mkTy (P : Program) : Op → Nat
  | .alloc t => t
  | .box t _ => t
  | .buildSlice t _ _ => (sliceEl P t).getD 0
  | _ => 0
section
variable {P : Program} {ops : List Oper} {fm fc : List (Nat × Nat)} {nt : Nat} {M : List Nat} {ρ0 ρ : Rho} {h0 h : Hp} {w0 w : World} {f s : St} {L : Lm} {a : Act} {r : V × Hp} {c : Call} {Z : List (Nat × Nat)} {pd : Pend} {lr : Array Bool} {ld : List Bool} {G : Nat → Nat}
/-- A maker whose cells are known: not come up yet, or its block lies there. -/
def ZI (P : Program) (ops : List Oper) (fc : List (Nat × Nat)) (L : Lm) (ρ : Rho) (h : Hp) (w w0 : World) (a : Act) (s : St) (lr : Array Bool) (G : Nat → Nat) (z p : Nat) : Prop :=
  ∃ o d cs vs, nth ops z = some o ∧ o.dst = some d ∧ o.guard = none ∧ lk fc d = none ∧ lk L d = none ∧ p < s.length ∧ nthV (s.length - 1 - p) s = .g cs ∧ CRs ρ cs vs ∧
    (lr.getD z true = false → ∀ w', (execOp a.eval o).run P w' = .ok (.value (mkVal o.op w'.heap.size)) (w'.alloc (.cells vs.toArray (mkTy P o.op)))) ∧
    (lr.getD z true = true → a.tmps.getD d undef = mkVal o.op (G z) ∧ w.heap[G z]? = some (.cells vs.toArray (mkTy P o.op) (0, 0)) ∧ w0.heap.size ≤ G z ∧ ∀ b q, ρ b = some q → hget b h.m ≠ .no → q.b ≠ G z)
theorem stk_nth {s s' : St} (h : Stk s s') {p : Nat} (hp : p < s.length) : p < s'.length ∧ nthV (s'.length - 1 - p) s' = nthV (s.length - 1 - p) s := by
  rcases h with rfl | ⟨v, rfl⟩
  · exact ⟨hp, rfl⟩
  · refine ⟨by simp; omega, ?_⟩
    rw [List.length_cons, show s.length + 1 - 1 - p = (s.length - 1 - p) + 1 by omega, nthV_succ]
theorem ZI.next {z p : Nat} (hz : ZI P ops fc L ρ h w w0 a s lr G z p) {fc' : List (Nat × Nat)} {L' : Lm} {ρ' : Rho} {h' : Hp} {w' : World} {a' : Act} {s' : St} {lr' : Array Bool} {G' : Nat → Nat}
    (hfc : ∀ o d, nth ops z = some o → o.dst = some d → lk fc d = none → lk L d = none → lk fc' d = none ∧ lk L' d = none) (hst : Stk s s') (hE : Ext ρ ρ') (hlr : lr'.getD z true = lr.getD z true) (hG : G' z = G z)
    (hev : lr.getD z true = false → ∀ o, nth ops z = some o → execOp a'.eval o = execOp a.eval o) (htm : ∀ o d, nth ops z = some o → o.dst = some d → a'.tmps.getD d undef = a.tmps.getD d undef)
    (hbl : lr.getD z true = true → G z < w.heap.size → (∀ b q, ρ b = some q → hget b h.m ≠ .no → q.b ≠ G z) → w0.heap.size ≤ G z → w'.heap[G z]? = w.heap[G z]? ∧ ∀ b q, ρ' b = some q → hget b h'.m ≠ .no → q.b ≠ G z) :
    ZI P ops fc' L' ρ' h' w' w0 a' s' lr' G' z p := by
  obtain ⟨o, d, cs, vs, h1, h2, h3, h4, h5, h6, h7, h8, h9, h10⟩ := hz
  obtain ⟨h11, h12⟩ := hfc o d h1 h2 h4 h5
  obtain ⟨h13, h14⟩ := stk_nth hst h6
  refine ⟨o, d, cs, vs, h1, h2, h3, h11, h12, h13, h14.trans h7, CRs.ext hE h8, fun hl w'' => ?_, fun hl => ?_⟩
  · rw [hlr] at hl
    rw [hev hl o h1]; exact h9 hl w''
  · rw [hlr] at hl
    obtain ⟨h15, h16, h17, h18⟩ := h10 hl
    obtain ⟨h19, h20⟩ := hbl hl (Array.getElem?_eq_some_iff.1 h16).1 h18 h17
    rw [hG]
    exact ⟨(htm o d h1 h2).trans h15, h19.trans h16, h17, h20⟩
structure Inv (P : Program) (ops : List Oper) (nt : Nat) (M : List Nat) (ρ0 : Rho) (h0 : Hp) (w0 : World) (fc : List (Nat × Nat)) (L : Lm) (Z : List (Nat × Nat)) (pd : Pend) (lr : Array Bool) (ld : List Bool) (G : Nat → Nat) (ρ : Rho) (h : Hp) (w : World) (f s : St) (a : Act) : Prop where
  ar : AR fc nt ρ f L s a
  nm : Nm fc L
  one : One L
  hr : HR ρ h w
  fr : Fr ρ0 h0 w0 ρ h w
  pend : ∀ p ∈ pd, PendOK P ops a p
  pw : ∀ p ∈ pd, p.2 w
  zi : ∀ z p, lk Z z = some p → ZI P ops fc L ρ h w w0 a s lr G z p
  zap : ∀ z p z' p' o o', lk Z z = some p → lk Z z' = some p' → z ≠ z' → nth ops z = some o → nth ops z' = some o' → o.apart ops.toArray o' = true
  zM : ∀ z p, lk Z z = some p → M.contains z = true
  zp : ∀ z p o d, lk Z z = some p → nth ops z = some o → o.dst = some d → ∀ q ∈ pd, d ∉ slotsOf ops q.1
  gd : ∀ z p z' p', lk Z z = some p → lk Z z' = some p' → z ≠ z' → lr.getD z true = true → lr.getD z' true = true → G z ≠ G z'
  sz : lr.size = ops.length
  lsz : ld.length = ops.length
  up : ∀ j, ld.getD j true = true → lr.getD j true = true
  dn : ∀ j, lr.getD j true = true → ld.getD j true = true ∨ ∃ p, lk Z j = some p
  zl : ∀ z p, lk Z z = some p → ld.getD z true = false
  cl : Closed ops lr
/-- Reading the same behind new blocks. -/
theorem Reads.old {rk : Rk} {u v : Value} {w w' : World} (h : Reads rk u v w) (hO : Old w w') : Reads rk u v w' := by
  have cell : ∀ b o x, w.cell? ⟨b, o, none⟩ = some x → w'.cell? ⟨b, o, none⟩ = some x := fun b o x hc => by
    have hlt : b < w.heap.size := by
      rcases Nat.lt_or_ge b w.heap.size with h | h
      · exact h
      · simp [World.cell?, Array.getElem?_eq_none h] at hc
    rw [← hc]
    exact cell_block (hO.block b hlt) o
  cases rk with
  | l1 => obtain ⟨b, o, e, h1⟩ := h; exact ⟨b, o, e, cell b o v h1⟩
  | lA n => obtain ⟨b, o, vs, e, e2, h1, h2⟩ := h; exact ⟨b, o, vs, e, e2, h1, fun j x hj => cell _ _ _ (h2 j x hj)⟩
  | bs =>
    obtain ⟨l, e, h1⟩ := h
    refine ⟨l, e, ?_⟩
    rcases h1 with h1 | h1 | ⟨b, o, cp, h1, h2⟩
    · exact .inl h1
    · exact .inr (.inl h1)
    · exact .inr (.inr ⟨b, o, cp, h1, fun j hj => cell _ _ _ (h2 j hj)⟩)
theorem PendOK.old {p : Nat × (World → Prop)} (hp : PendOK P ops a p) {w w' : World} (h : p.2 w) (hO : Old w w') : p.2 w' := by
  obtain ⟨o, d, rk, x, _, _, _, _, _, h1⟩ := hp
  rcases h1 with ⟨_, e⟩ | ⟨_, e⟩
  · rw [e] at h ⊢; exact h.old hO
  · rw [e]; trivial
/-- A slot that a reading does not know. -/
theorem PendOK.put {p : Nat × (World → Prop)} (hp : PendOK P ops a p) {d : Option Nat} {v : Value} (hd : ∀ t, d = some t → t ∉ slotsOf ops p.1) : PendOK P ops (a.put d v) p := by
  obtain ⟨o, d', rk, x, h1, h2, h3, h3', hxm, h4⟩ := hp
  have hsl : slotsOf ops p.1 = o.looksAt ops.toArray ++ [d'] := by simp [slotsOf, h1, h2]
  have hlook : ∀ t, d = some t → t ∉ o.looksAt ops.toArray := fun t e hm => hd t e (by rw [hsl]; simp [hm])
  have hne : ∀ t, d = some t → t ≠ d' := fun t e e2 => hd t e (by rw [hsl, e2]; simp)
  have hw := wanted_put (ops := ops.toArray) o a d v hlook
  have htm : (a.put d v).tmps.getD d' undef = a.tmps.getD d' undef := by
    cases d with
    | none => rfl
    | some t => simp only [Act.put, Array.getD_eq_getD_getElem?]; rw [Array.getElem?_setIfInBounds_ne (hne t rfl)]
  have hx : (a.put d v).eval x = a.eval x := by
    refine Act.eval_put fun t e ex => hlook t e ?_
    rw [ex] at hxm
    unfold Oper.looksAt
    exact List.mem_append_left _ (List.mem_filterMap.2 ⟨.tmp t, by simpa using hxm, rfl⟩)
  refine ⟨o, d', rk, x, h1, h2, h3, h3', hxm, ?_⟩
  rw [hw, htm, hx]
  exact h4
theorem put_other {d t : Nat} {v : Value} (hne : d ≠ t) : (a.put (some d) v).tmps.getD t undef = a.tmps.getD t undef := by
  simp only [Act.put, Array.getD_eq_getD_getElem?]; rw [Array.getElem?_setIfInBounds_ne hne]
theorem apart_sym {x y : Oper} (h : x.apart ops.toArray y = true) : (∀ d, y.dst = some d → d ∉ x.looksAt ops.toArray) ∧ (∀ d d', x.dst = some d → y.dst = some d' → d' ≠ d) ∧ (∀ d, x.dst = some d → d ∉ y.looksAt ops.toArray) := by
  obtain ⟨h1, h2, h3⟩ := Oper.apart_spec h
  exact ⟨h3, fun d d' hd hd' e => h2 d hd (by rw [hd', e]), h1⟩
theorem getDl {l : List Bool} {i : Nat} (hi : i < l.length) (j : Nat) : (l.set i true).getD j true = true ↔ j = i ∨ l.getD j true = true := by
  by_cases e : j = i
  · subst e; simp [List.getD, hi]
  · simp [List.getD, List.getElem?_set, Ne.symm e, e]
theorem getDa {l : Array Bool} (j i : Nat) : (l.setIfInBounds i true).getD j true = true ↔ j = i ∨ l.getD j true = true := by
  by_cases e : j = i
  · subst e
    rcases Nat.lt_or_ge j l.size with h | h
    · simp [h]
    · simp [Array.getElem?_eq_none h]
  · rw [getD_set_ne true (Ne.symm e)]; simp [e]
/-- A maker comes up early. -/
theorem Inv.early {Q : Exit → Act → World → Prop} (hns : Region.noSelect ops.toArray = true) (hd : dstsOk nt ops = true) (I : Inv P ops nt M ρ0 h0 w0 fc L Z pd lr ld G ρ h w f s a) {i p : Nat} (hi : i ∈ Region.ready .any ops.toArray lr) (hp : lk Z i = some p) {K : Act → World → Prop}
    (hK : ∀ a' w' G', Inv P ops nt M ρ0 h0 w0 fc L Z pd (lr.setIfInBounds i true) ld G' ρ h w' f s a' → K a' w') : wpOp P ops.toArray Q i K a w := by
  obtain ⟨o, d, cs, vs, h1, h2, h3, h4, h5, h6, h7, h8, h9, h10⟩ := I.zi i p hp
  have hun : lr.getD i true = false := (mem_ready.1 hi).1
  have ho : ops.toArray[i]? = some o := by rw [nth_get] at h1; simpa using h1
  have hdn : d < nt := by simpa [Nat.blt_eq] using dstsOk_nth hd i o h1 d h2
  have hrun := h9 hun w
  unfold wpOp
  rw [ho]
  simp only [Region.wanted, h3, if_true]
  refine .inl ?_
  unfold Oper.wp
  rw [hrun]
  show K (a.put o.dst _) _
  rw [h2]
  have hO : Old w (w.alloc (.cells vs.toArray (mkTy P o.op))) := old_alloc w _
  have hnew : (w.alloc (.cells vs.toArray (mkTy P o.op))).heap[w.heap.size]? = some (.cells vs.toArray (mkTy P o.op) (0, 0)) := bx_alloc w _ vs
  refine hK _ _ (fun z => if z = i then w.heap.size else G z) ?_
  have hap : ∀ z p' o', lk Z z = some p' → z ≠ i → nth ops z = some o' → d ∉ o'.looksAt ops.toArray ∧ ∀ d', o'.dst = some d' → d' ≠ d := fun z p' o' hz hne ho' => by
    obtain ⟨e1, e2, _⟩ := apart_sym (I.zap z p' i p o' o hz hp hne ho' h1)
    exact ⟨e1 d h2, fun d' hd' e => e2 d' d hd' h2 e.symm⟩
  have hlive : ∀ b q, ρ b = some q → hget b h.m ≠ .no → q.b ≠ w.heap.size := fun b q hb _ e => by have := I.hr.lt b q hb; omega
  refine ⟨?_, I.nm, I.one, I.hr.old hO, I.fr.trans (frOld I.hr hO), fun q hq => (I.pend q hq).put (fun t e => by simp only [Option.some.injEq] at e; subst e; exact I.zp i p o d hp h1 h2 q hq), fun q hq => (I.pend q hq).old (I.pw q hq) hO, fun z p' hz => ?_,
    I.zap, I.zM, I.zp, fun z p' z' p'' hz hz' hne hl hl' => ?_, by simp [I.sz], I.lsz, fun j hj => (getDa j i).2 (.inr (I.up j hj)), fun j hj => ?_, I.zl, I.cl.set hi⟩
  · have A' := I.ar
    have hd' : d < a.tmps.size := by rw [A'.size]; exact hdn
    refine ⟨A'.defers, by simp [Act.put, A'.size], fun t j hj => ?_, fun t q hq => ?_, fun t j hj => ?_, fun t v hv => ?_⟩
    · rw [put_get hd', if_neg (fun e => by subst e; rw [h4] at hj; cases hj)]; exact A'.fr t j hj
    · rw [put_get hd', if_neg (fun e => by subst e; rw [h5] at hq; cases hq)]; exact A'.st t q hq
    · rw [put_get hd', if_neg (fun e => by subst e; rw [h5] at hj; cases hj)]; exact A'.al t j hj
    · rw [put_get hd', if_neg (fun e => by subst e; rw [h5] at hv; cases hv)]; exact A'.cn t v hv
  · by_cases e : z = i
    · subst e
      rw [hp, Option.some.injEq] at hz
      subst hz
      have hl : (lr.setIfInBounds z true).getD z true = true := (getDa z z).2 (.inl rfl)
      refine ⟨o, d, cs, vs, h1, h2, h3, h4, h5, h6, h7, h8, (fun hh => by rw [hl] at hh; cases hh), fun _ => ⟨?_, ?_, ?_, fun b q hb hg => ?_⟩⟩
      · have hd' : d < a.tmps.size := by rw [I.ar.size]; exact hdn
        rw [put_get hd']; simp
      · simp only [if_true]; exact hnew
      · simp only [if_true]; exact I.fr.size
      · simp only [if_true]; exact hlive b q hb hg
    · refine (I.zi z p' hz).next (fun _ _ _ _ e1 e2 => ⟨e1, e2⟩) (.inl rfl) (Ext.refl ρ) (getD_set_ne true (Ne.symm e)) (by simp [e]) (fun _ o' ho' => ?_) (fun o' d' ho' hd' => put_other (fun e2 => (hap z p' o' hz e ho').2 d' hd' e2.symm)) (fun _ hlt hlv hle => ⟨hO.block _ hlt, hlv⟩)
      refine execOp_put o' (fun cs b e2 => ?_) a _ _ (fun t e2 => by simp only [Option.some.injEq] at e2; subst e2; exact (hap z p' o' hz e ho').1)
      have ho2 : ops.toArray[z]? = some o' := by rw [nth_get] at ho'; simpa using ho'
      exact Region.noSelect_spec hns z o' cs b ho2 e2
  · have hsz : ∀ y py, lk Z y = some py → y ≠ i → lr.getD y true = true → G y ≠ w.heap.size := fun y py hy hne hl e => by
      obtain ⟨_, _, _, _, _, _, _, _, _, _, _, _, _, hx⟩ := I.zi y py hy
      obtain ⟨_, hx2, _⟩ := hx hl
      have := (Array.getElem?_eq_some_iff.1 hx2).1
      omega
    by_cases e : z = i <;> by_cases e' : z' = i
    · exact absurd (e.trans e'.symm) hne
    · simp only [e, e', if_true, if_false]
      have hl2 : lr.getD z' true = true := by rcases (getDa z' i).1 hl' with h | h; exact absurd h e'; exact h
      exact fun e2 => hsz z' p'' hz' e' hl2 e2.symm
    · simp only [e, e', if_true, if_false]
      have hl2 : lr.getD z true = true := by rcases (getDa z i).1 hl with h | h; exact absurd h e; exact h
      exact hsz z p' hz e hl2
    · simp only [e, e', if_false]
      have hl2 : lr.getD z' true = true := by rcases (getDa z' i).1 hl' with h | h; exact absurd h e'; exact h
      have hl3 : lr.getD z true = true := by rcases (getDa z i).1 hl with h | h; exact absurd h e; exact h
      exact I.gd z p' z' p'' hz hz' hne hl3 hl2
  · rcases (getDa j i).1 hj with e | hj
    · subst e; exact .inr ⟨p, hp⟩
    · exact I.dn j hj
/-- A block that lies there gets a name. -/
theorem HR.adopt (H : HR ρ h w) {g t : Nat} {cs : List C} {vs : List Value} (ty : Nat) (hg : w.heap[g]? = some (.cells vs.toArray t (0, 0))) (hn : ∀ b q, ρ b = some q → hget b h.m ≠ .no → q.b ≠ g) (hc : CRs ρ cs vs) (F : Fr ρ0 h0 w0 ρ h w) (h0' : w0.heap.size ≤ g) :
    HR (up ρ h.n ⟨g, 0, vs.length⟩) ⟨inc h.n, hput h.n (.c ty true cs) h.m⟩ w ∧ Fr ρ0 h0 w0 (up ρ h.n ⟨g, 0, vs.length⟩) ⟨inc h.n, hput h.n (.c ty true cs) h.m⟩ w := by
  have hE : Ext ρ (up ρ h.n ⟨g, 0, vs.length⟩) := up_ext H rfl
  have hlt : g < w.heap.size := (Array.getElem?_eq_some_iff.1 hg).1
  have hup : ∀ a q, up ρ h.n ⟨g, 0, vs.length⟩ a = some q → (a = h.n ∧ q = ⟨g, 0, vs.length⟩) ∨ (a ≠ h.n ∧ ρ a = some q) := fun a q hq => by
    unfold up at hq
    split at hq
    · rename_i e; simp only [Option.some.injEq] at hq; exact .inl ⟨e, hq.symm⟩
    · rename_i e; exact .inr ⟨e, hq⟩
  refine ⟨⟨fun a q ty' ex cs' hq hc' => ?_, fun a q l pos hq hc' => ?_, fun a a' q q' h1 h2 h3 h4 h5 => ?_, fun a q hq => ?_, fun a q hq => ?_⟩,
    ⟨F.ext.trans hE, F.os, F.tape, F.output, F.size, F.keep, fun a q h1 h2 h3 => ?_⟩⟩
  · rcases hup a q hq with ⟨rfl, rfl⟩ | ⟨hne, hq'⟩
    · simp only [hget_hput, Blk.c.injEq] at hc'
      obtain ⟨rfl, rfl, rfl⟩ := hc'
      have hl := CRs.len hc
      refine ⟨vs, Row.new hg, by show 0 + cs.length ≤ vs.length; omega, fun _ => ⟨rfl, hl⟩, CRs.ext hE ?_⟩
      rw [List.drop_zero, hl, List.take_length]; exact hc
    · rw [hget_ne _ _ _ _ hne] at hc'
      obtain ⟨l, h1, h3, h4, h5⟩ := H.row a q ty' ex cs' hq' hc'
      exact ⟨l, h1, h3, h4, CRs.ext hE h5⟩
  · rcases hup a q hq with ⟨rfl, rfl⟩ | ⟨hne, hq'⟩
    · simp only [hget_hput] at hc'; cases hc'
    · rw [hget_ne _ _ _ _ hne] at hc'
      exact H.it a q l pos hq' hc'
  · rcases hup a q h1 with ⟨rfl, rfl⟩ | ⟨hne, hq⟩ <;> rcases hup a' q' h2 with ⟨rfl, rfl⟩ | ⟨hne', hq'⟩
    · rfl
    · rw [hget_ne _ _ _ _ hne'] at h4
      exact absurd h5.symm (hn a' q' hq' h4)
    · rw [hget_ne _ _ _ _ hne] at h3
      exact absurd h5 (hn a q hq h3)
    · rw [hget_ne _ _ _ _ hne] at h3
      rw [hget_ne _ _ _ _ hne'] at h4
      exact H.apart a a' q q' hq hq' h3 h4 h5
  · show num a < num (inc h.n)
    rw [num_inc]
    rcases hup a q hq with ⟨rfl, rfl⟩ | ⟨hne, hq'⟩
    · omega
    · have := H.fresh a q hq'; omega
  · rcases hup a q hq with ⟨rfl, rfl⟩ | ⟨hne, hq'⟩
    · exact hlt
    · exact H.lt a q hq'
  · rcases hup a q h1 with ⟨rfl, rfl⟩ | ⟨hne, hq'⟩
    · simp only at h3; omega
    · rw [hget_ne _ _ _ _ hne] at h2
      exact F.live a q hq' h2 h3
end
end Go.Ev
