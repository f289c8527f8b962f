/- The evaluator is right, nineteenth part: regions that draw their order. No condition. -/
import Derived.Test.YtlamohamhbhkjaaGreatDoorSi
namespace Go.Ev
open Go.RowKit Go.Eng

/-- How many have not come up. -/
def unl (l : Array Bool) : Nat → Nat
  | 0 => 0
  | n + 1 => unl l n + (if l.getD n true = true then 0 else 1)
theorem unl_ge {l : Array Bool} {i : Nat} : ∀ {n : Nat}, n ≤ i → unl (l.setIfInBounds i true) n = unl l n
  | 0, _ => rfl
  | n + 1, h => by
    simp only [unl]
    rw [unl_ge (by omega), getD_set_ne true (show i ≠ n by omega)]
theorem unl_set {l : Array Bool} {i : Nat} (hl : l.getD i true = false) : ∀ {n : Nat}, i < n → unl l n = unl (l.setIfInBounds i true) n + 1
  | 0, h => by omega
  | n + 1, h => by
    simp only [unl]
    by_cases e : i = n
    · subst e
      rw [unl_ge (Nat.le_refl _), hl, getD_set_same (unl_size hl)]
      simp
    · rw [unl_set hl (show i < n by omega), getD_set_ne true e]
      omega
section
variable {P : Program} {ops : List Oper} {fm fc : List (Nat × Nat)} {nt : Nat} {M : List Nat} {ρ0 ρ : Rho} {h0 h : Hp} {w0 w : World} {f s : St} {L : Lm} {a : Act} {r : V × Hp} {c : Call} {k : Kn} {Z : List (Nat × Nat)} {pd : Pend} {lr : Array Bool} {ld : List Bool} {G : Nat → Nat} {Q : Exit → Act → World → Prop}
theorem rdK_op {op : Op} {rk : Rk} {x : Operand} (h : rdK P op = some (rk, x)) : RdOp P rk op x ∧ x ∈ op.operands := by
  unfold rdK at h
  split at h
  · split at h
    · rename_i ha; simp only [Option.some.injEq, Prod.mk.injEq] at h; obtain ⟨rfl, rfl⟩ := h; exact ⟨⟨_, rfl, ha⟩, by simp [Op.operands]⟩
    · rename_i n ha; simp only [Option.some.injEq, Prod.mk.injEq] at h; obtain ⟨rfl, rfl⟩ := h; exact ⟨⟨_, rfl, ha⟩, by simp [Op.operands]⟩
    · cases h
  · split at h
    case h_2 => cases h
    rename_i hs
    split at h
    case h_2 => cases h
    rename_i he
    split at h
    case h_2 => cases h
    rename_i ht
    simp only [Option.some.injEq, Prod.mk.injEq] at h
    obtain ⟨rfl, rfl⟩ := h
    exact ⟨⟨_, _, _, rfl, hs, he, ht⟩, by simp [Op.operands]⟩
  · cases h
theorem op_rdK {op : Op} {rk : Rk} {x : Operand} (h : RdOp P rk op x) : rdK P op = some (rk, x) := by
  cases rk with
  | l1 => obtain ⟨t, rfl, ha⟩ := h; simp only [rdK, ha]
  | lA n => obtain ⟨t, rfl, ha⟩ := h; simp only [rdK, ha]
  | bs => obtain ⟨st, t, e, rfl, h1, h2, h3⟩ := h; simp only [rdK, h1, h2, h3]
theorem mv_rdK {op : Op} {y : Operand} (h : unmv op = some y) : rdK P op = none := by
  unfold unmv at h
  split at h <;> first | rfl | cases h
theorem makes_loud {i : Nat} (h : makes ops i = true) : quietAt P ops i = false := by
  unfold makes at h
  split at h
  case h_2 => cases h
  rename_i o ho
  simp only [Bool.and_eq_true] at h
  have h1 := h.1.1
  unfold quietAt kdOf opV
  rw [ho]
  simp only
  have loud : ∀ op : Op, isMk op = true → quiet ((match insV P (fun _ => some (.f 0)) op with | some x => x | none => (Kd.loud, Ins.bad)) : Kd × Ins).1 = false := fun op hop => by
    cases hx : insV P (fun _ => some (.f 0)) op with
    | none => rfl
    | some y =>
      simp only
      unfold isMk at hop
      split at hop
      · simp only [insV] at hx
        split at hx
        · simp only [Option.some.injEq] at hx; subst hx; rfl
        · cases hx
      · simp only [insV] at hx
        split at hx
        · split at hx
          · split at hx
            · split at hx
              · simp only [Option.some.injEq] at hx; subst hx; rfl
              · cases hx
            · cases hx
          · cases hx
        · cases hx
      · simp only [insV, one, Option.some.injEq] at hx; subst hx; rfl
      · cases hop
  exact loud o.op h1
theorem opS_lk {x : Oper} {st : List Sp} {L' : Lm} {n n' : Nat} (hs : opS P fc ops x L n = some (st, L', n')) {t : Nat} (hl : lk L t = none) (hne : x.dst ≠ some t) : lk L' t = none := by
  have cons : ∀ d y, x.dst = some d → lk ((d, y) :: L) t = none := fun d y hd => by
    rw [lk_cons, if_neg (fun e => hne (by rw [hd, e]))]; exact hl
  unfold opS at hs
  split at hs
  · split at hs
    · simp only [Option.some.injEq, Prod.mk.injEq] at hs; obtain ⟨_, rfl, _⟩ := hs; exact hl
    · rename_i d hd
      split at hs
      · simp only [Option.some.injEq, Prod.mk.injEq] at hs; obtain ⟨_, rfl, _⟩ := hs; exact lk_none_drop hl
      · split at hs
        case h_1 => cases hs
        split at hs
        · simp only [Option.some.injEq, Prod.mk.injEq] at hs; obtain ⟨_, rfl, _⟩ := hs; exact cons d _ hd
        · simp only [Option.some.injEq, Prod.mk.injEq] at hs; obtain ⟨_, rfl, _⟩ := hs; exact cons d _ hd
  · split at hs
    case h_2 => cases hs
    split at hs
    · simp only [Option.some.injEq, Prod.mk.injEq] at hs; obtain ⟨_, rfl, _⟩ := hs; exact hl
    · rename_i d hd
      split at hs
      · simp only [Option.some.injEq, Prod.mk.injEq] at hs; obtain ⟨_, rfl, _⟩ := hs; exact lk_none_drop hl
      · split at hs
        case h_1 => cases hs
        simp only [Option.some.injEq, Prod.mk.injEq] at hs; obtain ⟨_, rfl, _⟩ := hs; exact cons d _ hd
theorem apZ {x : Oper} (h : apartZ ops Z x = true) {z p : Nat} (hz : lk Z z = some p) {o : Oper} (ho : nth ops z = some o) : o.apart ops.toArray x = true := by
  have := List.all_eq_true.1 h (z, p) (lk_mem hz)
  simp only [ho] at this
  exact this
theorem keepsP_put {x : Oper} {pl : List Nat} (h : keepsP ops pl x.dst = true) {i : Nat} (hi : i ∈ pl) : ∀ t, x.dst = some t → t ∉ slotsOf ops i := fun t ht => by
  unfold keepsP at h
  rw [ht] at h
  have := List.all_eq_true.1 h i hi
  simpa using this
theorem toA (ld : List Bool) (j : Nat) (d : Bool) : ld.toArray.getD j d = ld.getD j d := by simp [List.getD, Array.getD_eq_getD_getElem?]
theorem gl_ft {l : List Bool} {j : Nat} (h : l.getD j false = true) : l.getD j true = true ∧ j < l.length := by
  rcases Nat.lt_or_ge j l.length with h' | h'
  · refine ⟨?_, h'⟩
    simp [List.getD, h'] at h ⊢; exact h
  · simp [List.getD, List.getElem?_eq_none h'] at h
theorem ga_tf {l : Array Bool} {j : Nat} (h : l.getD j true = true) (hj : j < l.size) : l.getD j false = true := by simp [hj] at h ⊢; exact h
theorem gl_tf {l : List Bool} {j : Nat} (h : l.getD j true = true) (hj : j < l.length) : l.getD j false = true := by simp [List.getD, hj] at h ⊢; exact h
/-- What may come up by the plan may come up. -/
theorem Inv.ready (I : Inv P ops nt M ρ0 h0 w0 fc L Z pd lr ld G ρ h w f s a) {i : Nat} (hi : i ∈ rdy ops ld) (hl : lr.getD i true = false) : i ∈ Region.ready .any ops.toArray lr := by
  obtain ⟨_, h2, h3⟩ := ready_preds hi
  refine ready_of hl h2 fun j hj => ?_
  have := h3 j hj
  rw [toA] at this
  obtain ⟨h4, h5⟩ := gl_ft this
  exact ga_tf (I.up j h4) (by rw [I.sz, ← I.lsz]; exact h5)
theorem mem_marked : ∀ (l : List Nat) (ld : List Bool) (j : Nat), j < ld.length → ((marked l ld).getD j true = true ↔ ld.getD j true = true ∨ j ∈ l)
  | [], ld, j, _ => by simp [marked]
  | i :: l, ld, j, hj => by
    show (marked l (ld.set i true)).getD j true = true ↔ _
    rw [mem_marked l (ld.set i true) j (by simpa using hj)]
    rcases Nat.lt_or_ge i ld.length with hi | hi
    · rw [getDl hi]
      simp only [List.mem_cons]
      constructor
      · rintro ((h | h) | h)
        · exact .inr (.inl h)
        · exact .inl h
        · exact .inr (.inr h)
      · rintro (h | h | h)
        · exact .inl (.inr h)
        · exact .inl (.inl h)
        · exact .inr h
    · rw [List.set_eq_of_length_le hi]
      simp only [List.mem_cons]
      constructor
      · rintro (h | h)
        · exact .inl h
        · exact .inr (.inr h)
      · rintro (h | h | h)
        · exact .inl h
        · omega
        · exact .inr h
theorem marked_len : ∀ (l : List Nat) (ld : List Bool), (marked l ld).length = ld.length
  | [], _ => rfl
  | i :: l, ld => by show (marked l (ld.set i true)).length = _; rw [marked_len l]; simp
/-- What may come up may come up by the plan, if these makers had come up. -/
theorem Inv.back (I : Inv P ops nt M ρ0 h0 w0 fc L Z pd lr ld G ρ h w f s a) {i : Nat} (hi : i ∈ Region.ready .any ops.toArray lr) {l : List Nat} (hil : i ∉ l) (hl : ∀ z p, lk Z z = some p → lr.getD z true = true → z ∈ l) : i ∈ rdy ops (marked l ld) := by
  obtain ⟨h1, h2, h3⟩ := ready_preds hi
  have hil' : i < ld.length := by rw [I.lsz]; exact h2
  refine ready_of ?_ h2 fun j hj => ?_
  · rw [toA]
    cases hh : (marked l ld).getD i true with
    | false => rfl
    | true =>
      rcases (mem_marked l ld i hil').1 hh with h | h
      · rw [I.up i h] at h1; cases h1
      · exact absurd h hil
  · have h4 := h3 j hj
    have hjs : j < lr.size := by
      rcases Nat.lt_or_ge j lr.size with h | h
      · exact h
      · simp [Array.getElem?_eq_none h] at h4
    have hjl : j < ld.length := by rw [I.lsz, ← I.sz]; exact hjs
    rw [toA]
    refine gl_tf ((mem_marked l ld j hjl).2 ?_) (by rw [marked_len]; exact hjl)
    rcases I.dn j (getD_ft h4) with h | ⟨p, hp⟩
    · exact .inl h
    · exact .inr (hl j p hp (getD_ft h4))
/-- A maker that may come up is known. -/
theorem Inv.known (I : Inv P ops nt M ρ0 h0 w0 fc L Z pd lr ld G ρ h w f s a) {i : Nat} (hi : i ∈ Region.ready .any ops.toArray lr) (hM : i ∈ M) (hm : mOk ops M ld Z = true) : ∃ p, lk Z i = some p := by
  have h1 := List.all_eq_true.1 hm i hM
  have hun := (ready_preds hi).1
  simp only [Bool.or_eq_true, Bool.not_eq_true'] at h1
  rcases h1 with (h1 | h1) | h1
  · rw [I.up i h1] at hun; cases hun
  · exact Option.isSome_iff_exists.1 h1
  · have h2 := I.back hi (l := M.filter fun z => !(Nat.beq z i)) (by simp) (fun z p hz hl => by
      have h3 := I.zM z p hz
      have hne : z ≠ i := fun e => by subst e; rw [hl] at hun; cases hun
      have hb : Nat.beq z i = false := by
        cases hb : Nat.beq z i with
        | false => rfl
        | true => exact absurd (beq_inv hb) hne
      simp only [List.mem_filter, hb, Bool.not_false, and_true]
      simpa using h3)
    have h3 : (rdy ops (marked (M.filter fun z => !(Nat.beq z i)) ld)).contains i = true := by simpa using h2
    rw [h3] at h1; cases h1
theorem lk_dropK {α : Type} {d : Nat} : ∀ {l : List (Nat × α)} {t : Nat}, lk (dropK d l) t = if t = d then none else lk l t
  | [], t => by simp [dropK, lk]
  | (t', x) :: l, t => by
    simp only [dropK]
    split
    · rename_i hb
      have e := beq_inv hb
      subst e
      rw [lk_dropK, lk_cons]
      by_cases h : t = t'
      · simp [h]
      · simp [h]
    · rename_i hb
      have hne : t' ≠ d := fun e => by subst e; simp at hb
      rw [lk_cons, lk_cons, lk_dropK]
      by_cases h : t = t'
      · subst h; simp [hne]
      · simp [h]
theorem One.dropK {d : Nat} : ∀ {L : Lm}, One L → One (dropK d L)
  | [], _ => trivial
  | (t, x) :: L, h => by
    simp only [Ev.dropK]
    split
    · exact One.dropK h.2
    · refine ⟨?_, One.dropK h.2⟩
      rw [lk_dropK]
      split
      · rfl
      · exact h.1
/-- Without a slot. -/
theorem AR.dropK (A' : AR fc nt ρ f L s a) (d : Nat) : AR (dropK d fc) nt ρ f (dropK d L) s a := by
  refine ⟨A'.defers, A'.size, fun t j hj => ?_, fun t p hp => ?_, fun t j hj => ?_, fun t v hv => ?_⟩
  · rw [lk_dropK] at hj; split at hj; cases hj; exact A'.fr t j hj
  · rw [lk_dropK] at hp; split at hp; cases hp; exact A'.st t p hp
  · rw [lk_dropK] at hj; split at hj; cases hj; exact A'.al t j hj
  · rw [lk_dropK] at hv; split at hv; cases hv; exact A'.cn t v hv
theorem Nm.dropK (hn : Nm fc L) (d : Nat) : Nm (dropK d fc) (dropK d L) := ⟨fun t t' j h1 h2 => by
  rw [lk_dropK] at h1 h2
  split at h1
  · cases h1
  · split at h2
    · cases h2
    · exact hn.inj t t' j h1 h2, fun t x hx => by
  rw [lk_dropK] at hx ⊢
  split at hx
  · cases hx
  · rename_i e; rw [if_neg e]; exact hn.out t x hx⟩
end
end Go.Ev
