/- The evaluator is right, fifteenth part: an operation's step; regions that go in one order. No condition. -/
import Derived.Test.YtlamohamhbhkjaaGreatDoorSe
namespace Go.Ev
open Go.RowKit Go.Eng

section
variable {P : Program} {fm : List (Nat × Nat)} {nt : Nat} {ρ : Rho} {f : St} {L : Lm} {s : St} {a : Act} {r : V × Hp} {c : Call} {h : Hp} {w : World} {k : Cn} {kd : Kd} {i : Ins}
/-- No place of the frame twice. -/
def Inj (fm : List (Nat × Nat)) : Prop := ∀ t t' j, lk fm t = some j → lk fm t' = some j → t = t'
/-- A named slot is none of the frame's. -/
def Out (fm : List (Nat × Nat)) (L : Lm) : Prop := ∀ t x, lk L t = some x → lk fm t = none
theorem nthV_zero (v : V) (s : St) : nthV 0 (v :: s) = v := rfl
theorem nthV_succ (d : Nat) (v : V) (s : St) : nthV (d + 1) (v :: s) = nthV d s := rfl
theorem nthV_nil : ∀ d, nthV d [] = bot
  | 0 => rfl
  | d + 1 => rfl
theorem set_same : ∀ (j : Nat) (v : V) (f : St), nthV j (setV j v f) = v
  | 0, v, f => rfl
  | j + 1, v, [] => by show nthV (j + 1) (bot :: setV j v []) = v; rw [nthV_succ]; exact set_same j v []
  | j + 1, v, x :: f => by show nthV (j + 1) (x :: setV j v f) = v; rw [nthV_succ]; exact set_same j v f
theorem set_ne : ∀ (j j' : Nat) (v : V) (f : St), j' ≠ j → nthV j' (setV j v f) = nthV j' f
  | 0, 0, v, f, h => absurd rfl h
  | 0, j' + 1, v, [], _ => by show nthV (j' + 1) [v] = _; rw [nthV_succ, nthV_nil, nthV_nil]
  | 0, j' + 1, v, x :: f, _ => rfl
  | j + 1, 0, v, [], _ => rfl
  | j + 1, 0, v, x :: f, _ => rfl
  | j + 1, j' + 1, v, [], h => by
    show nthV (j' + 1) (bot :: setV j v []) = _
    rw [nthV_succ, set_ne j j' v [] (fun e => h (by rw [e])), nthV_nil, nthV_nil]
  | j + 1, j' + 1, v, x :: f, h => by
    show nthV (j' + 1) (x :: setV j v f) = nthV (j' + 1) (x :: f)
    rw [nthV_succ, nthV_succ]; exact set_ne j j' v f (fun e => h (by rw [e]))
theorem put_get {a : Act} {d t : Nat} {v : Value} (hd : d < a.tmps.size) : (a.put (some d) v).tmps.getD t undef = if t = d then v else a.tmps.getD t undef := by
  simp only [Act.put, Array.getD_eq_getD_getElem?]
  by_cases e : t = d
  · subst e; simp [hd]
  · rw [if_neg e, Array.getElem?_setIfInBounds_ne (fun h => e h.symm)]
theorem lk_cons {α : Type} {d t : Nat} {v : α} {l : List (Nat × α)} : lk ((d, v) :: l) t = if t = d then some v else lk l t := by
  simp only [lk]
  by_cases e : t = d
  · subst e; simp
  · rw [if_neg e]
    split
    · rename_i hb; exact absurd (Nat.eq_of_beq_eq_true hb).symm e
    · rfl
/-- Each slot is named once. -/
def One : Lm → Prop
  | [] => True
  | (t, _) :: r => lk r t = none ∧ One r
open Classical in
theorem drop_cons {j t : Nat} {x : Lc} {r : Lm} : drop j ((t, x) :: r) = if x = .al j then drop j r else (t, x) :: drop j r := by
  cases x with
  | al i =>
    simp only [drop]
    by_cases e : i = j
    · subst e; simp
    · rw [if_neg (by simpa using e)]
      split
      · rename_i hb; exact absurd (Nat.eq_of_beq_eq_true hb) e
      · rfl
  | st p => rw [if_neg (by simp)]; rfl
  | cn v => rw [if_neg (by simp)]; rfl
theorem lk_none_drop {j : Nat} : ∀ {L : Lm} {t : Nat}, lk L t = none → lk (drop j L) t = none
  | [], t, h => rfl
  | (t', x) :: r, t, h => by
    rw [lk_cons] at h
    rw [drop_cons]
    split at h
    · cases h
    · rename_i hne
      split
      · exact lk_none_drop h
      · rw [lk_cons, if_neg hne]; exact lk_none_drop h
theorem One.drop {j : Nat} : ∀ {L : Lm}, One L → One (drop j L)
  | [], _ => trivial
  | (t', x) :: r, h => by
    rw [drop_cons]
    split
    · exact One.drop h.2
    · exact ⟨lk_none_drop h.1, One.drop h.2⟩
theorem drop_lk {j : Nat} : ∀ {L : Lm} {t : Nat} {x : Lc}, One L → lk (drop j L) t = some x → lk L t = some x ∧ x ≠ .al j
  | [], t, x, _, h => by cases h
  | (t', y) :: r, t, x, ho, h => by
    rw [drop_cons] at h
    rw [lk_cons]
    split at h
    · obtain ⟨h1, h2⟩ := drop_lk ho.2 h
      refine ⟨?_, h2⟩
      by_cases e : t = t'
      · subst e; rw [ho.1] at h1; cases h1
      · rw [if_neg e]; exact h1
    · rename_i hy
      rw [lk_cons] at h
      by_cases e : t = t'
      · rw [if_pos e] at h ⊢
        simp only [Option.some.injEq] at h
        subst h
        exact ⟨rfl, hy⟩
      · rw [if_neg e] at h ⊢
        exact drop_lk ho.2 h
/-- The names, and the frame. -/
structure Nm (fm : List (Nat × Nat)) (L : Lm) : Prop where
  inj : Inj fm
  out : Out fm L
theorem AR.base (h : AR fm nt ρ f L s a) : AR fm nt ρ f [] [] a := ⟨h.defers, h.size, h.fr, fun t p hp => by simp [lk] at hp, fun t j hj => by simp [lk] at hj, fun t v hv => by simp [lk] at hv⟩
/-- A value is pushed. -/
theorem AR.push (h : AR fm nt ρ f L s a) {d : Nat} {v : V} {vv : Value} (hd : d < nt) (hf : lk fm d = none) (hv : VR ρ v vv) : AR fm nt ρ f ((d, .st s.length) :: L) (v :: s) (a.put (some d) vv) := by
  have hd' : d < a.tmps.size := by rw [h.size]; exact hd
  refine ⟨h.defers, by simp [Act.put, h.size], fun t j hj => ?_, fun t p hp => ?_, fun t j hj => ?_, fun t v' hv' => ?_⟩
  · rw [put_get hd']
    rw [if_neg (fun e => by subst e; rw [hf] at hj; cases hj)]
    exact h.fr t j hj
  · rw [lk_cons] at hp
    rw [put_get hd']
    split at hp
    · rename_i e
      simp only [Option.some.injEq, Lc.st.injEq] at hp
      subst hp
      rw [if_pos e]
      exact ⟨by simp, by rw [List.length_cons, Nat.add_sub_cancel, Nat.sub_self]; exact hv⟩
    · rename_i e
      rw [if_neg e]
      obtain ⟨h1, h2⟩ := h.st t p hp
      refine ⟨by simp; omega, ?_⟩
      rw [List.length_cons, show s.length + 1 - 1 - p = (s.length - 1 - p) + 1 by omega, nthV_succ]
      exact h2
  · rw [lk_cons] at hj
    rw [put_get hd']
    split at hj
    · simp at hj
    · rename_i e; rw [if_neg e]; exact h.al t j hj
  · rw [lk_cons] at hv'
    rw [put_get hd']
    split at hv'
    · simp at hv'
    · rename_i e; rw [if_neg e]; exact h.cn t v' hv'
/-- A value is pushed that no slot bears. -/
theorem AR.push' (h : AR fm nt ρ f L s a) (v : V) : AR fm nt ρ f L (v :: s) a :=
  ⟨h.defers, h.size, h.fr, fun t p hp => by
    obtain ⟨h1, h2⟩ := h.st t p hp
    refine ⟨by simp; omega, ?_⟩
    rw [List.length_cons, show s.length + 1 - 1 - p = (s.length - 1 - p) + 1 by omega, nthV_succ]
    exact h2, h.al, h.cn⟩
/-- A value goes into the frame. -/
theorem AR.setF (h : AR fm nt ρ f L s a) (hn : Nm fm L) (ho : One L) {d j : Nat} {v : V} {vv : Value} (hd : d < nt) (hf : lk fm d = some j) (hv : VR ρ v vv) : AR fm nt ρ (setV j v f) (drop j L) s (a.put (some d) vv) := by
  have hd' : d < a.tmps.size := by rw [h.size]; exact hd
  have hL : ∀ t x, lk L t = some x → t ≠ d := fun t x hx e => by subst e; have := hn.out t x hx; rw [hf] at this; cases this
  refine ⟨h.defers, by simp [Act.put, h.size], fun t j' hj => ?_, fun t p hp => ?_, fun t j' hj => ?_, fun t v' hv' => ?_⟩
  · rw [put_get hd']
    by_cases e : t = d
    · subst e
      rw [hf, Option.some.injEq] at hj
      subst hj
      rw [if_pos rfl, set_same]
      exact hv
    · rw [if_neg e, set_ne j j' v f (fun e' => by subst e'; exact e (hn.inj t d j' hj hf))]
      exact h.fr t j' hj
  · obtain ⟨h1, _⟩ := drop_lk ho hp
    rw [put_get hd', if_neg (hL t _ h1)]
    exact h.st t p h1
  · obtain ⟨h1, h2⟩ := drop_lk ho hj
    rw [put_get hd', if_neg (hL t _ h1), set_ne j j' v f (fun e' => h2 (by rw [e']))]
    exact h.al t j' h1
  · obtain ⟨h1, _⟩ := drop_lk ho hv'
    rw [put_get hd', if_neg (hL t _ h1)]
    exact h.cn t v' h1
/-- A slot gets another one's value, and its name. -/
theorem AR.name (h : AR fm nt ρ f L s a) {d : Nat} {x : Op} {lc : Lc} (hd : d < nt) (hf : lk fm d = none) (hx : nameV (ofO fm L s.length) s.length x = some lc) {y : Operand} (hy : unmv x = some y) :
    AR fm nt ρ f ((d, lc) :: L) s (a.put (some d) (a.eval y)) := by
  have hd' : d < a.tmps.size := by rw [h.size]; exact hd
  unfold nameV at hx
  rw [hy] at hx
  simp only at hx
  have hop : ∃ o, ofO fm L s.length y = some o := by
    split at hx <;> rename_i ho <;> first | exact ⟨_, ho⟩ | cases hx
  obtain ⟨o, ho⟩ := hop
  have hv := h.opd ho
  rw [ho] at hx
  have hlt : ∀ dd, o = .l dd → dd < s.length := fun dd e => by
    subst e
    cases y with
    | tmp t' =>
      simp only [ofO] at ho
      split at ho
      · rename_i p' hp'
        simp only [Option.some.injEq, O.l.injEq] at ho
        have := (h.st t' p' hp').1
        omega
      · simp at ho
      · simp at ho
      · split at ho <;> simp at ho
    | const v' => simp [ofO] at ho
    | global g => simp [ofO] at ho
    | func g => simp [ofO] at ho
  refine ⟨h.defers, by simp [Act.put, h.size], fun t j hj => ?_, fun t p hp => ?_, fun t j hj => ?_, fun t v hv' => ?_⟩
  · rw [put_get hd', if_neg (fun e => by subst e; rw [hf] at hj; cases hj)]
    exact h.fr t j hj
  · rw [lk_cons] at hp
    rw [put_get hd']
    split at hp
    · rename_i e
      simp only [Option.some.injEq] at hp
      subst hp
      rw [if_pos e]
      cases o with
      | l dd =>
        simp only [Option.some.injEq, Lc.st.injEq] at hx
        have := hlt dd rfl
        subst hx
        refine ⟨by omega, ?_⟩
        rw [show s.length - 1 - (s.length - 1 - dd) = dd by omega]
        exact hv
      | f jj => simp at hx
      | c vv' => simp at hx
    · rename_i e; rw [if_neg e]; exact h.st t p hp
  · rw [lk_cons] at hj
    rw [put_get hd']
    split at hj
    · rename_i e
      simp only [Option.some.injEq] at hj
      subst hj
      rw [if_pos e]
      cases o with
      | l dd => simp at hx
      | f jj =>
        simp only [Option.some.injEq, Lc.al.injEq] at hx
        subst hx
        exact hv
      | c vv' => simp at hx
    · rename_i e; rw [if_neg e]; exact h.al t j hj
  · rw [lk_cons] at hv'
    rw [put_get hd']
    split at hv'
    · rename_i e
      simp only [Option.some.injEq] at hv'
      subst hv'
      rw [if_pos e]
      cases o with
      | l dd => simp at hx
      | f jj => simp at hx
      | c vv' =>
        simp only [Option.some.injEq, Lc.cn.injEq] at hx
        subst hx
        exact hv
    · rename_i e; rw [if_neg e]; exact h.cn t v hv'
theorem dens_app : ∀ (l m : List Sp), dens (l ++ m) = dens l ++ dens m
  | [], m => rfl
  | x :: l, m => by simp only [List.cons_append, dens, dens_app l m]
theorem regC_cons (g : Stp) (l : List Stp) (c : Call) (f s : St) (h : Hp) (k : Kn) : regC (g :: l) c f s h k = g c f s h (fun f' s' h' => regC l c f' s' h' k) := rfl
/-- What a test says: of a bool it says that, else no. -/
theorem gd_inv {v : V} {vv : Value} {no : A} {kk : Bool → A} (hv : VR ρ v vv) (h : toGd v no kk = some r) : (∃ b, vv = .bool b ∧ kk b = some r) ∨ ((∀ b, vv ≠ .bool b) ∧ no = some r) := by
  cases v with
  | c x =>
    obtain ⟨d, rfl, h1⟩ := cD_inv (show cD (dG kk) x = some r from h)
    cases d with
    | b x => exact .inl ⟨x, hv, h1⟩
    | _ => exact nN h1
  | g l => exact nN h
  | t l => obtain ⟨vs, _, rfl⟩ := hv; exact .inr ⟨fun b => by simp, h⟩
  | u => exact nN h
theorem wanted_of {ops : List Oper} {x : Oper} {g : Nat} {want : Bool} (hg : x.guard = some (g, want)) {o : Oper} {d : Nat} (ho : nth ops g = some o) (hd : o.dst = some d) :
    Region.wanted x (yielded ops.toArray a.tmps) = match a.tmps.getD d undef with | .bool b => (b == want) | _ => false := by
  have ho' : ops[g]? = some o := by rw [← nth_get]; exact ho
  unfold Region.wanted
  rw [hg]
  simp only [yielded, List.getElem?_toArray, ho', Option.bind_some, hd]
  rw [Array.getD_eq_getD_getElem?]
  cases hx : a.tmps[d]? with
  | none => simp [undef]
  | some v => cases v <;> simp
/-- A row of values, or one more. -/
def Stk (s s' : St) : Prop := s' = s ∨ ∃ v, s' = v :: s
/-- An operation's step. -/
theorem opS_ok {ops : List Oper} {x : Oper} {st l : List Sp} {L' : Lm} {n' : Nat} {k : Kn} (hs : opS P fm ops x L s.length = some (st, L', n')) (A' : AR fm nt ρ f L s a) (hn : Nm fm L) (hone : One L) (hd : ∀ d, x.dst = some d → d < nt)
    (hk : regC (dens (st ++ l)) c f s h k = some r) :
    (Region.wanted x (yielded ops.toArray a.tmps) = true ∧ ∃ k' : Cn, (opV P (ofO fm L s.length) x.op).2.den c f s h k' = some r ∧
      ∀ (ρ' : Rho) (v : V) (h' : Hp) (vv : Value), k' v h' = some r → VR ρ' v vv → Ext ρ ρ' → (∀ y, unmv x.op = some y → vv = a.eval y) → ∃ f' s', s'.length = n' ∧ Stk s s' ∧ AR fm nt ρ' f' L' s' (a.put x.dst vv) ∧ regC (dens l) c f' s' h' k = some r) ∨
    (Region.wanted x (yielded ops.toArray a.tmps) = false ∧ ∃ f' s', s'.length = n' ∧ Stk s s' ∧ AR fm nt ρ f' L' s' (a.put x.dst undef) ∧ regC (dens l) c f' s' h k = some r) := by
  have und : ∀ ρ : Rho, VR ρ udf undef := fun ρ => ⟨[], trivial, rfl⟩
  unfold opS at hs
  split at hs
  · rename_i hg
    have hw : Region.wanted x (yielded ops.toArray a.tmps) = true := by simp [Region.wanted, hg]
    refine .inl ⟨hw, ?_⟩
    split at hs
    · rename_i hdst
      simp only [Option.some.injEq, Prod.mk.injEq] at hs
      obtain ⟨rfl, rfl, rfl⟩ := hs
      refine ⟨fun _ h' => regC (dens l) c f s h' k, hk, fun ρ' v h' vv h1 h2 hE _ => ⟨f, s, rfl, .inl rfl, ?_, h1⟩⟩
      rw [hdst]; exact A'.ext hE
    · rename_i d hdst
      have hdn := hd d hdst
      split at hs
      · rename_i j hj
        simp only [Option.some.injEq, Prod.mk.injEq] at hs
        obtain ⟨rfl, rfl, rfl⟩ := hs
        refine ⟨fun v h' => regC (dens l) c (setV j v f) s h' k, hk, fun ρ' v h' vv h1 h2 hE _ => ⟨_, s, rfl, .inl rfl, ?_, h1⟩⟩
        rw [hdst]; exact (A'.ext hE).setF hn hone hdn hj h2
      · rename_i hj
        split at hs
        case h_1 => cases hs
        split at hs
        · rename_i lc hlc
          simp only [Option.some.injEq, Prod.mk.injEq] at hs
          obtain ⟨rfl, rfl, rfl⟩ := hs
          have hmv : ∃ y o, unmv x.op = some y ∧ ofO fm L s.length y = some o ∧ (opV P (ofO fm L s.length) x.op).2 = .mov o := by
            unfold nameV at hlc
            split at hlc
            · rename_i y hy
              have : ∃ o, ofO fm L s.length y = some o := by
                split at hlc <;> rename_i ho <;> first | exact ⟨_, ho⟩ | cases hlc
              obtain ⟨o, ho⟩ := this
              refine ⟨y, o, hy, ho, ?_⟩
              unfold unmv at hy
              split at hy
              · rename_i hop; simp only [Option.some.injEq] at hy; subst hy; rw [hop]; simp [opV, insV, one, ho]
              · rename_i hop; simp only [Option.some.injEq] at hy; subst hy; rw [hop]; simp [opV, insV, one, ho]
              · cases hy
            · cases hlc
          obtain ⟨y, o, hy, ho, hi⟩ := hmv
          refine ⟨fun _ h' => regC (dens l) c f s h' k, by rw [hi]; exact hk, fun ρ' v h' vv h1 h2 hE hval => ⟨f, s, rfl, .inl rfl, ?_, h1⟩⟩
          rw [hdst, hval y hy]
          exact (A'.ext hE).name hdn hj hlc hy
        · simp only [Option.some.injEq, Prod.mk.injEq] at hs
          obtain ⟨rfl, rfl, rfl⟩ := hs
          refine ⟨fun v h' => regC (dens l) c f (v :: s) h' k, hk, fun ρ' v h' vv h1 h2 hE _ => ⟨f, v :: s, by simp, .inr ⟨v, rfl⟩, ?_, h1⟩⟩
          rw [hdst]; exact (A'.ext hE).push hdn hj h2
  · rename_i g want hg
    split at hs
    case h_2 => cases hs
    rename_i go hgo
    have hgd : ∃ o d, nth ops g = some o ∧ o.dst = some d ∧ ofO fm L s.length (.tmp d) = some go := by
      unfold grdV at hgo
      split at hgo
      · rename_i o ho
        split at hgo
        · rename_i d hd'; exact ⟨o, d, ho, hd', hgo⟩
        · cases hgo
      · cases hgo
    obtain ⟨o, d', ho, hd', hgo'⟩ := hgd
    have hgv : VR ρ (oV go f s) (a.tmps.getD d' undef) := A'.opd hgo'
    have hwant := wanted_of (a := a) hg ho hd'
    have split2 : ∀ (X Y : Stp) (K : Kn), sIf go want X Y c f s h K = some r → (Region.wanted x (yielded ops.toArray a.tmps) = true ∧ X c f s h K = some r) ∨ (Region.wanted x (yielded ops.toArray a.tmps) = false ∧ Y c f s h K = some r) := fun X Y K hK => by
      rcases gd_inv hgv (show toGd (oV go f s) (Y c f s h K) (fun x => Bool.rec (motive := fun _ => A) (Y c f s h K) (X c f s h K) (eqB x want)) = some r from hK) with ⟨b, e, h1⟩ | ⟨hne, h1⟩
      · rw [eqB_eq] at h1
        rw [e] at hwant
        simp only at hwant
        rw [hwant]
        cases hb : (b == want) with
        | true => rw [hb] at h1; exact .inl ⟨rfl, h1⟩
        | false => rw [hb] at h1; exact .inr ⟨rfl, h1⟩
      · refine .inr ⟨?_, h1⟩
        rw [hwant]
        split
        · rename_i b e; exact absurd e (hne b)
        · rfl
    split at hs
    · rename_i hdst
      simp only [Option.some.injEq, Prod.mk.injEq] at hs
      obtain ⟨rfl, rfl, rfl⟩ := hs
      rcases split2 _ _ _ (show sIf go want (sDo _) sNop c f s h (fun f' s' h' => regC (dens l) c f' s' h' k) = some r from hk) with ⟨hw, h1⟩ | ⟨hw, h1⟩
      · refine .inl ⟨hw, fun _ h' => regC (dens l) c f s h' k, h1, fun ρ' v h' vv h2 h3 hE _ => ⟨f, s, rfl, .inl rfl, ?_, h2⟩⟩
        rw [hdst]; exact A'.ext hE
      · refine .inr ⟨hw, f, s, rfl, .inl rfl, ?_, h1⟩
        rw [hdst]; exact A'
    · rename_i d hdst
      have hdn := hd d hdst
      split at hs
      · rename_i j hj
        simp only [Option.some.injEq, Prod.mk.injEq] at hs
        obtain ⟨rfl, rfl, rfl⟩ := hs
        rcases split2 _ _ _ (show sIf go want (sSet j _) (sSet j (xMov (.c udf))) c f s h (fun f' s' h' => regC (dens l) c f' s' h' k) = some r from hk) with ⟨hw, h1⟩ | ⟨hw, h1⟩
        · refine .inl ⟨hw, fun v h' => regC (dens l) c (setV j v f) s h' k, h1, fun ρ' v h' vv h2 h3 hE _ => ⟨_, s, rfl, .inl rfl, ?_, h2⟩⟩
          rw [hdst]; exact (A'.ext hE).setF hn hone hdn hj h3
        · refine .inr ⟨hw, setV j udf f, s, rfl, .inl rfl, ?_, h1⟩
          rw [hdst]; exact A'.setF hn hone hdn hj (und ρ)
      · rename_i hj
        split at hs
        case h_1 => cases hs
        simp only [Option.some.injEq, Prod.mk.injEq] at hs
        obtain ⟨rfl, rfl, rfl⟩ := hs
        rcases split2 _ _ _ (show sIf go want (sPush _) (sPush (xMov (.c udf))) c f s h (fun f' s' h' => regC (dens l) c f' s' h' k) = some r from hk) with ⟨hw, h1⟩ | ⟨hw, h1⟩
        · refine .inl ⟨hw, fun v h' => regC (dens l) c f (v :: s) h' k, h1, fun ρ' v h' vv h2 h3 hE _ => ⟨f, v :: s, by simp, .inr ⟨v, rfl⟩, ?_, h2⟩⟩
          rw [hdst]; exact (A'.ext hE).push hdn hj h3
        · refine .inr ⟨hw, f, udf :: s, by simp, .inr ⟨_, rfl⟩, ?_, h1⟩
          rw [hdst]; exact A'.push hdn hj (und ρ)
end
end Go.Ev
