/- The evaluator is right, sixteenth part: regions that go in one order. No condition. -/
import Derived.Test.YtlamohamhbhkjaaGreatDoorSf
namespace Go.Ev
open Go.RowKit Go.Eng

section
variable {P : Program} {fm : List (Nat × Nat)} {nt : Nat} {ρ : Rho} {f : St} {L : Lm} {s : St} {a : Act} {r : V × Hp} {c : Call} {h : Hp} {w : World} {k : Kn} {kd : Kd} {i : Ins}
theorem nm_drop (hn : Nm fm L) (ho : One L) (j : Nat) : Nm fm (drop j L) := ⟨hn.inj, fun t x hx => hn.out t x (drop_lk ho hx).1⟩
theorem nm_cons (hn : Nm fm L) {d : Nat} {x : Lc} (hd : lk fm d = none) : Nm fm ((d, x) :: L) := ⟨hn.inj, fun t y hy => by
  rw [lk_cons] at hy
  split at hy
  · rename_i e; rw [e]; exact hd
  · exact hn.out t y hy⟩
theorem opS_nm {ops : List Oper} {x : Oper} {st : List Sp} {L' : Lm} {n n' : Nat} (hs : opS P fm ops x L n = some (st, L', n')) (hn : Nm fm L) (ho : One L) : Nm fm L' ∧ One L' := by
  unfold opS at hs
  split at hs
  · split at hs
    · simp only [Option.some.injEq, Prod.mk.injEq] at hs; obtain ⟨_, rfl, _⟩ := hs; exact ⟨hn, ho⟩
    · rename_i d hd
      split at hs
      · simp only [Option.some.injEq, Prod.mk.injEq] at hs; obtain ⟨_, rfl, _⟩ := hs; exact ⟨nm_drop hn ho _, ho.drop⟩
      · rename_i hj
        split at hs
        case h_1 => cases hs
        rename_i hl
        split at hs
        · simp only [Option.some.injEq, Prod.mk.injEq] at hs; obtain ⟨_, rfl, _⟩ := hs; exact ⟨nm_cons hn hj, hl, ho⟩
        · simp only [Option.some.injEq, Prod.mk.injEq] at hs; obtain ⟨_, rfl, _⟩ := hs; exact ⟨nm_cons hn hj, hl, ho⟩
  · split at hs
    case h_2 => cases hs
    split at hs
    · simp only [Option.some.injEq, Prod.mk.injEq] at hs; obtain ⟨_, rfl, _⟩ := hs; exact ⟨hn, ho⟩
    · rename_i d hd
      split at hs
      · simp only [Option.some.injEq, Prod.mk.injEq] at hs; obtain ⟨_, rfl, _⟩ := hs; exact ⟨nm_drop hn ho _, ho.drop⟩
      · rename_i hj
        split at hs
        case h_1 => cases hs
        rename_i hl
        simp only [Option.some.injEq, Prod.mk.injEq] at hs; obtain ⟨_, rfl, _⟩ := hs; exact ⟨nm_cons hn hj, hl, ho⟩
/-- A move's value. -/
theorem mov_run {x : Oper} {y : Operand} (hy : unmv x.op = some y) (w : World) : (execOp a.eval x).run P w = .ok (.value (a.eval y)) w := by
  unfold unmv at hy
  split at hy
  · rename_i hop; simp only [Option.some.injEq] at hy; subst hy; simp [execOp, hop]
  · rename_i hop; simp only [Option.some.injEq] at hy; subst hy; simp [execOp, hop]
  · cases hy
theorem mov_den {op : Op} {y : Operand} (hy : unmv op = some y) (A' : AR fm nt ρ f L s a) {k' : Cn} (hk : (opV P (ofO fm L s.length) op).2.den c f s h k' = some r) : ∃ v, k' v h = some r ∧ VR ρ v (a.eval y) := by
  have : ∀ o, (o = .move y ∨ o = .assign y) → op = o → ∃ v, k' v h = some r ∧ VR ρ v (a.eval y) := fun o ho e => by
    subst e
    cases hz : ofO fm L s.length y with
    | none =>
      have e2 : (opV P (ofO fm L s.length) op).2 = .bad := by rcases ho with rfl | rfl <;> simp [opV, insV, one, hz]
      rw [e2] at hk
      exact nN (show (none : A) = some r from hk)
    | some z =>
      have e2 : (opV P (ofO fm L s.length) op).2 = .mov z := by rcases ho with rfl | rfl <;> simp [opV, insV, one, hz]
      rw [e2] at hk
      exact ⟨_, hk, A'.opd hz⟩
  unfold unmv at hy
  split at hy
  · simp only [Option.some.injEq] at hy; subst hy; exact this _ (.inl rfl) rfl
  · simp only [Option.some.injEq] at hy; subst hy; exact this _ (.inr rfl) rfl
  · cases hy
/-- An operation's step, where it is wanted: any operation. -/
theorem opS_wp {ops : List Oper} {x : Oper} {l : List Sp} {L' : Lm} {n' : Nat} {k' : Cn} (hC : CallOK P c) (A' : AR fm nt ρ f L s a) (H : HR ρ h w) (hk : (opV P (ofO fm L s.length) x.op).2.den c f s h k' = some r)
    (hgo : ∀ (ρ' : Rho) (v : V) (h' : Hp) (vv : Value), k' v h' = some r → VR ρ' v vv → Ext ρ ρ' → (∀ y, unmv x.op = some y → vv = a.eval y) → ∃ f' s', s'.length = n' ∧ Stk s s' ∧ AR fm nt ρ' f' L' s' (a.put x.dst vv) ∧ regC (dens l) c f' s' h' k = some r)
    {K : Act → World → Prop} {Q : Exit → Act → World → Prop} (hK : ∀ ρ' f' s' h' w' vv, s'.length = n' → Stk s s' → AR fm nt ρ' f' L' s' (a.put x.dst vv) → HR ρ' h' w' → Fr ρ h w ρ' h' w' → regC (dens l) c f' s' h' k = some r → K (a.put x.dst vv) w') : x.wp P a w K Q := by
  cases hm : unmv x.op with
  | some y =>
    obtain ⟨v, h1, h2⟩ := mov_den hm A' hk
    obtain ⟨f', s', h3, hst, h4, h5⟩ := hgo ρ v h _ h1 h2 (Ext.refl ρ) (fun z hz => by rw [hm, Option.some.injEq] at hz; rw [hz])
    unfold Oper.wp
    rw [mov_run hm w]
    exact hK ρ f' s' h w _ h3 hst h4 H (Fr.refl _ _ _) h5
  | none =>
    have hr := op_res (kd := (opV P (ofO fm L s.length) x.op).1) (i := (opV P (ofO fm L s.length) x.op).2) A' rfl H hk
    refine hr.wp hC H fun vv w' hf => ?_
    obtain ⟨ρ', v, h', h1, h2, h3, h4⟩ := hf
    obtain ⟨f', s', h5, hst, h6, h7⟩ := hgo ρ' v h' vv h1 h2 h4.ext (fun z hz => by rw [hm] at hz; cases hz)
    exact hK ρ' f' s' h' w' vv h5 hst h6 h3 h4 h7
theorem regV_ok {ops : List Oper} {Q : Exit → Act → World → Prop} (hC : CallOK P c) (ρ0 : Rho) (h0 : Hp) (w0 : World)
    (hQ : ∀ ρ' f' s' h' w' a', k f' s' h' = some r → AR fm nt ρ' f' [] [] a' → HR ρ' h' w' → Fr ρ0 h0 w0 ρ' h' w' → Q .normal a' w') :
    ∀ (rest : List Oper) (L : Lm) (sps : List Sp) (ρ : Rho) (f s : St) (h : Hp) (w : World) (a : Act), regV P fm ops rest L s.length = some sps → dstsOk nt rest = true → Nm fm L → One L → AR fm nt ρ f L s a → HR ρ h w → Fr ρ0 h0 w0 ρ h w →
      regC (dens sps) c f s h k = some r → wpList P ops.toArray Q rest a w
  | [], L, sps, ρ, f, s, h, w, a, hs, _, _, _, A', H, F, hk => by
    simp only [regV, Option.some.injEq] at hs
    subst hs
    exact hQ ρ f s h w a hk A'.base H F
  | x :: rest, L, sps, ρ, f, s, h, w, a, hs, hd, hn, ho, A', H, F, hk => by
    simp only [regV] at hs
    split at hs
    case h_2 => cases hs
    rename_i st L' n' hop
    split at hs
    case h_2 => cases hs
    rename_i l hl
    simp only [Option.some.injEq] at hs
    subst hs
    simp only [dstsOk, Bool.and_eq_true] at hd
    have hdx : ∀ d, x.dst = some d → d < nt := fun d e => by have := hd.1; rw [e] at this; simpa [Nat.blt_eq] using this
    obtain ⟨hn', ho'⟩ := opS_nm hop hn ho
    unfold wpList
    rcases opS_ok hop A' hn ho hdx hk with ⟨hw, k', h1, h2⟩ | ⟨hw, f', s', h1, _, h2, h3⟩
    · rw [if_pos hw]
      refine .inl (opS_wp (ops := ops) hC A' H h1 h2 fun ρ' f' s' h' w' vv h3 _ h4 h5 h6 h7 => ?_)
      subst h3
      exact regV_ok hC ρ0 h0 w0 hQ rest L' l ρ' f' s' h' w' _ hl hd.2 hn' ho' h4 h5 (F.trans h6) h7
    · rw [hw]
      simp only [Bool.false_eq_true, if_false]
      subst h1
      exact regV_ok hC ρ0 h0 w0 hQ rest L' l ρ f' s' h w _ hl hd.2 hn' ho' h2 H F h3
end
end Go.Ev
