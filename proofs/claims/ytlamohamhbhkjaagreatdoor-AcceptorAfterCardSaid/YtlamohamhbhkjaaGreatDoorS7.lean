/- The evaluator is right, seventh part: operations that look at no memory. No condition. -/
import Derived.Test.YtlamohamhbhkjaaGreatDoorS6
namespace Go.Ev
open Go.RowKit Go.Eng

/-- An operation's value in every world. -/
def PureAt (P : Program) (op : Op) (a : Act) (v : Value) : Prop := ∀ o : Oper, o.op = op → ∀ w, (execOp a.eval o).run P w = .ok (.value v) w
section
variable {P : Program} {fm : List (Nat × Nat)} {nt : Nat} {ρ : Rho} {f : St} {L : Lm} {s : St} {a : Act} {r : V × Hp} {c : Call} {h : Hp} {k : Cn}
theorem one_inv {o : Operand → Option O} {g : O → Ins} {kd kd' : Kd} {x : Operand} {i : Ins} (hh : one o g kd x = some (kd', i)) : ∃ y, o x = some y ∧ i = g y ∧ kd' = kd := by
  unfold one at hh
  split at hh
  · rename_i y hy; simp only [Option.some.injEq, Prod.mk.injEq] at hh; exact ⟨y, hy, hh.2.symm, hh.1.symm⟩
  · cases hh
theorem both_inv {o : Operand → Option O} {g : O → O → Ins} {kd kd' : Kd} {x y : Operand} {i : Ins} (hh : both o g kd x y = some (kd', i)) : ∃ p q, o x = some p ∧ o y = some q ∧ i = g p q ∧ kd' = kd := by
  unfold both at hh
  split at hh
  · rename_i p hp
    split at hh
    · rename_i q hq; simp only [Option.some.injEq, Prod.mk.injEq] at hh; exact ⟨p, q, hp, hq, hh.2.symm, hh.1.symm⟩
    · cases hh
  · cases hh
theorem p_mov (A' : AR fm nt ρ f L s a) {x : Operand} {y : O} (hy : ofO fm L s.length x = some y) (hk : xMov y c f s h k = some r) (op : Op) (hop : op = .move x ∨ op = .assign x) :
    ∃ v vv, k v h = some r ∧ VR ρ v vv ∧ PureAt P op a vv :=
  ⟨_, _, hk, A'.opd hy, fun o ho w => by
    rcases hop with rfl | rfl <;> simp [execOp, ho]⟩
theorem p_pick (A' : AR fm nt ρ f L s a) {x y z : Operand} {p q t : O} (hx : ofO fm L s.length x = some p) (hy : ofO fm L s.length y = some q) (hz : ofO fm L s.length z = some t) (hk : xPick p q t c f s h k = some r) :
    ∃ v vv, k v h = some r ∧ VR ρ v vv ∧ PureAt P (.pick x y z) a vv := by
  obtain ⟨b, hb, h1⟩ := toB_inv hk
  have h2 := A'.opd hx
  rw [hb] at h2
  have h2' : a.eval x = .bool b := h2
  cases b with
  | true => exact ⟨_, _, h1, A'.opd hy, fun o ho w => by simp [execOp, ho, h2', asBool]⟩
  | false => exact ⟨_, _, h1, A'.opd hz, fun o ho w => by simp [execOp, ho, h2', asBool]⟩
theorem p_not (A' : AR fm nt ρ f L s a) {x : Operand} {t : Nat} {p : O} (hx : ofO fm L s.length x = some p) (hk : xNot p c f s h k = some r) :
    ∃ v vv, k v h = some r ∧ VR ρ v vv ∧ PureAt P (.unOp .not t x) a vv := by
  obtain ⟨b, hb, h1⟩ := toB_inv hk
  have h2 := A'.opd hx
  rw [hb] at h2
  have h2' : a.eval x = .bool b := h2
  rw [fB_eq, notB_eq] at h1
  exact ⟨_, _, h1, vB_of _, fun o ho w => by simp [execOp, ho, h2', Op.unary]⟩
theorem ERs.get {l : List E} {m : List Value} {i : Nat} {e : E} : ERs ρ l m → l[i]? = some e → ∃ v, m[i]? = some v ∧ ER ρ e v := by
  induction l generalizing m i with
  | nil => intro _ hi; simp at hi
  | cons x l ih =>
    intro hR hi
    cases m with
    | nil => exact hR.elim
    | cons v m =>
      cases i with
      | zero => simp only [List.getElem?_cons_zero, Option.some.injEq] at hi; subst hi; exact ⟨v, rfl, hR.1⟩
      | succ i => simpa using ih hR.2 (by simpa using hi)
theorem p_ext (A' : AR fm nt ρ f L s a) {x : Operand} {i : Nat} {p : O} (hx : ofO fm L s.length x = some p) (hk : xExt p i c f s h k = some r) :
    ∃ v vv, k v h = some r ∧ VR ρ v vv ∧ PureAt P (.extract x i) a vv := by
  obtain ⟨l, hl, h1⟩ := toT_inv hk
  obtain ⟨e, h2, h3⟩ := nthC_inv h1
  have h4 := A'.opd hx
  rw [hl] at h4
  obtain ⟨vs, h5, h6⟩ := h4
  obtain ⟨v, h7, h8⟩ := ERs.get h5 h2
  refine ⟨_, v, h3, ?_, fun o ho w => ?_⟩
  · cases e with
    | c x => exact h8
    | g l => exact h8
  · simp [execOp, ho, h6, Instr.extract, h7]
theorem p_chk (A' : AR fm nt ρ f L s a) {x : Operand} {p : O} (hx : ofO fm L s.length x = some p) (hk : xChk p c f s h k = some r) :
    ∃ v vv, k v h = some r ∧ VR ρ v vv ∧ PureAt P (.nilCheck x) a vv := by
  obtain ⟨q, hq, h1⟩ := toC_inv hk
  have h4 := A'.opd hx
  rw [hq] at h4
  cases q with
  | i a n => exact nN h1
  | p b o =>
    obtain ⟨pl, h5, h6⟩ := h4
    exact ⟨_, _, h1, ⟨pl, h5, rfl⟩, fun o ho w => by simp [execOp, ho, h6]⟩
  | o d =>
    cases d with
    | f n fs cs =>
      obtain ⟨xs, ys, h5, h6, h7⟩ := h4
      exact ⟨_, _, h1, ⟨xs, ys, h5, h6, rfl⟩, fun o ho w => by simp [execOp, ho, h7]⟩
    | _ => exact nN h1
theorem p_fld (A' : AR fm nt ρ f L s a) {x : Operand} {t i : Nat} {p : O} {fs : Array Field} {fd : Field} {n : Nat} (hu : P.underlying t = some (.struct fs)) (hf : fs[i]? = some fd) (hs : sizeV P fd.type = some (n + 1)) (hx : ofO fm L s.length x = some p) (hk : xFld p fd.offset c f s h k = some r) :
    ∃ v vv, k v h = some r ∧ VR ρ v vv ∧ PureAt P (.fieldAddr t x i) a vv := by
  obtain ⟨b, o, hb, h1⟩ := toP_inv hk
  have h4 := A'.opd hx
  rw [hb] at h4
  obtain ⟨q, h5, h6⟩ := h4
  rw [fN_eq] at h1
  refine ⟨_, .pointer (some ⟨q.b, q.s + (o + fd.offset), none⟩), h1, ⟨q, h5, rfl⟩, fun o' ho w => ?_⟩
  unfold sizeV at hs
  split at hs
  case h_2 => cases hs
  rename_i inf hi
  simp only [Option.some.injEq] at hs
  have hsz : (sizeOf fd.type).run P w = .ok (n + 1) w := by simp [sizeOf, typeInfo, hi, hs]
  have hfp : (fieldPlace ⟨q.b, q.s + o, none⟩ fd).run P w = .ok ⟨q.b, q.s + (o + fd.offset), none⟩ w := by
    unfold fieldPlace
    rw [Sem.run_bind, hsz]
    simp only [Result.andThen_ok, Nat.add_eq_zero_iff, Nat.one_ne_zero, and_false, if_false, Sem.run_pure]
    unfold Addr.add
    split
    · rename_i h0; rw [h0]; rfl
    · simp [Nat.add_assoc]
  simp only [execOp, ho, h6]
  unfold Instr.fieldAt
  rw [Sem.run_bind, Sem.run_bind, run_underlying hu w]
  simp [hf, Instr.sureAddr, hfp]
theorem len_inv {v : V} {vv : Value} {kk : Nat → A} (hv : VR ρ v vv) (hk : vLen v kk = some r) : ∃ n, kk n = some r ∧ ((∃ ad cp, vv = .slice ad n cp) ∨ ∃ l : Str, vv = S l ∧ l.length = n) := by
  obtain ⟨x, rfl, h1⟩ := toC_inv hk
  obtain ⟨d, rfl, h2⟩ := cD_inv h1
  cases d with
  | s l =>
    have h3 : kk (lenN l) = some r := h2
    rw [lenN_eq] at h3
    exact ⟨_, h3, .inr ⟨_, hv.1, by simp⟩⟩
  | ns => exact ⟨0, h2, .inl ⟨_, _, hv⟩⟩
  | sl a o n c => obtain ⟨q, _, h4, _⟩ := hv; exact ⟨n, h2, .inl ⟨_, _, h4⟩⟩
  | sh a o n c => obtain ⟨q, _, _, h4, _⟩ := hv; exact ⟨n, h2, .inl ⟨_, _, h4⟩⟩
  | se => obtain ⟨_, _, h4⟩ := hv; exact ⟨0, h2, .inl ⟨_, _, h4⟩⟩
  | _ => exact nN h2
/-- A length is a number. -/
def lenOk (v : Value) : Prop := match v with
  | .slice _ n _ => n < 9223372036854775808
  | .string b => b.size < 9223372036854775808
  | _ => True
theorem toL_inv {v : V} {vv : Value} {nil : A} {kk : Pth → Nat → Nat → A} (hv : VR ρ v vv) (hk : toL v nil kk = some r) :
    (nil = some r ∧ ∃ ad cp, vv = .slice ad 0 cp) ∨ ∃ a' o n q cp, kk a' o n = some r ∧ ρ a' = some q ∧ vv = .slice (some ⟨q.b, q.s + o, none⟩) n cp ∧ n ≤ cp := by
  obtain ⟨x, rfl, h1⟩ := toC_inv hk
  obtain ⟨d, rfl, h2⟩ := cD_inv h1
  cases d with
  | ns => exact .inl ⟨h2, _, _, hv⟩
  | sl a o n c => obtain ⟨q, h3, h4, h5⟩ := hv; exact .inr ⟨_, _, _, q, _, h2, h3, h4, h5⟩
  | sh a o n c => obtain ⟨q, cp, h3, h4, h5, _⟩ := hv; exact .inr ⟨_, _, _, q, _, h2, h3, h4, h5⟩
  | se => obtain ⟨_, _, h4⟩ := hv; exact .inl ⟨h2, _, _, h4⟩
  | _ => exact nN h2
theorem i64_of {n : Nat} (h : n < 9223372036854775808) : VR ρ (vI 3 n) (.int .i64 (n : Int)) := ⟨.i64, rfl, by show n < 18446744073709551616; omega, by rw [sgn_pos .i64 h]⟩
theorem p_len (A' : AR fm nt ρ f L s a) {x : Operand} {t el : Nat} {p : O} (hu : P.underlying t = some (.slice el)) (hx : ofO fm L s.length x = some p) (hk : xLen p c f s h k = some r) :
    ∃ v vv, k v h = some r ∧ VR ρ v vv ∧ PureAt P (.call ⟨.builtin .len, #[x], #[t]⟩) a vv := by
  have run : ∀ (ad : Option Addr) (n cp : Nat), a.eval x = .slice ad n cp → PureAt P (.call ⟨.builtin .len, #[x], #[t]⟩) a (.int .i64 (n : Int)) := fun ad n cp e o ho w => by
    have : (Builtin.len_ #[t] o.type #[.slice ad n cp]).run P w = .ok (.int .i64 n) w := by
      unfold Builtin.len_
      simp [run_underlying hu w, goInt]
    simp [execOp, ho, resolve, invoke, builtin, e, this]
  rcases toL_inv (A'.opd hx) hk with ⟨h1, ad, cp, h2⟩ | ⟨a', o, n, q, cp, h1, h2, h3, h4⟩
  · exact ⟨_, _, h1, i64_of (by decide), run _ _ _ h2⟩
  · obtain ⟨h5, h6⟩ := lt_inv h1
    rw [fI_eq] at h6
    exact ⟨_, _, h6, i64_of h5, run _ _ _ h3⟩
theorem p_lenT (A' : AR fm nt ρ f L s a) {x : Operand} {t : Nat} {p : O} (hu : P.underlying t = some .string) (hx : ofO fm L s.length x = some p) (hk : xLenT p c f s h k = some r) :
    ∃ v vv, k v h = some r ∧ VR ρ v vv ∧ PureAt P (.call ⟨.builtin .len, #[x], #[t]⟩) a vv := by
  obtain ⟨l, hl, h1⟩ := toS_inv hk
  obtain ⟨h5, h6⟩ := lt_inv h1
  rw [fI_eq, lenN_eq] at h6
  rw [lenN_eq] at h5
  have h4 := A'.opd hx
  rw [hl] at h4
  have h7 : a.eval x = S (l.map UInt8.ofNat) := h4.1
  refine ⟨_, _, h6, i64_of h5, fun o ho w => ?_⟩
  have : (Builtin.len_ #[t] o.type #[S (l.map UInt8.ofNat)]).run P w = .ok (.int .i64 (l.length : Int)) w := by
    unfold Builtin.len_
    simp only [List.getElem?_toArray, List.getElem?_cons_zero, Sem.run_bind, run_underlying hu w, Result.andThen_ok, goInt, S, Sem.run_pure]
    show Result.ok (Value.int .i64 (((l.map UInt8.ofNat).length : Nat) : Int)) w = _
    simp
  simp [execOp, ho, resolve, invoke, builtin, h7, this]
theorem ixN_inv {v : V} {vv : Value} {kk : Nat → A} (hv : VR ρ v vv) (hk : ixN v kk = some r) : ∃ kd j, kk j = some r ∧ vv = .int kd (j : Int) := by
  obtain ⟨ka, j, rfl, h1⟩ := toI_inv hk
  obtain ⟨h0, h1⟩ := ifT_inv h1
  obtain ⟨h2, h3⟩ := lt_inv h1
  obtain ⟨kd, h4, h5, h6⟩ := hv
  refine ⟨kd, j, h3, ?_⟩
  rw [h6]
  have h7 : 3 ≤ kc kd := by rw [h4]; exact ble_inv h0
  have h8 : j < kb kd := by cases kd <;> simp only [kc, kb, km] at * <;> omega
  rw [sgn_pos kd h8]
theorem size_run {t n : Nat} (h : sizeV P t = some n) (w : World) : (sizeOf t).run P w = .ok n w := by
  unfold sizeV at h
  split at h
  · rename_i i hi; simp only [Option.some.injEq] at h; simp [sizeOf, typeInfo, hi, h]
  · cases h
theorem addr_add (b o n : Nat) : (⟨b, o, none⟩ : Addr).add n = ⟨b, o + n, none⟩ := by unfold Addr.add; split <;> simp_all
theorem p_ixS (A' : AR fm nt ρ f L s a) {x y : Operand} {t el n : Nat} {p q : O} (hu : P.underlying t = some (.slice el)) (hs : sizeV P el = some n) (hx : ofO fm L s.length x = some p) (hy : ofO fm L s.length y = some q) (hk : xIxS n p q c f s h k = some r) :
    ∃ v vv, k v h = some r ∧ VR ρ v vv ∧ PureAt P (.indexAddr t x y) a vv := by
  obtain ⟨kd, j, h1, h2⟩ := ixN_inv (A'.opd hy) hk
  rcases toL_inv (A'.opd hx) h1 with ⟨h3, _⟩ | ⟨a', o, m, pl, cp, h3, h4, h5, h6⟩
  · exact nN h3
  · obtain ⟨h7, h8⟩ := lt_inv h3
    rw [fN_eq] at h8
    refine ⟨_, .pointer (some ⟨pl.b, pl.s + (o + j * n), none⟩), h8, ⟨pl, h4, rfl⟩, fun o' ho w => ?_⟩
    have hi : (Instr.indexAt t (.slice (some ⟨pl.b, pl.s + o, none⟩) m cp) (.int kd (j : Int))).run P w = .ok (.pointer (some ⟨pl.b, pl.s + (o + j * n), none⟩)) w := by
      unfold Instr.indexAt
      simp only [asIntOf, Sem.run_bind, Sem.run_pure, Result.andThen_ok, run_underlying hu w]
      simp [h7, size_run hs w, addr_add, Nat.add_assoc]
    simp only [execOp, ho, h2, h5]
    rw [Sem.run_bind, hi]
    rfl
theorem p_ixA (A' : AR fm nt ρ f L s a) {x y : Operand} {t el n len : Nat} {p q : O} (hu : P.underlying t = some (.array len el)) (hs : sizeV P el = some n) (hx : ofO fm L s.length x = some p) (hy : ofO fm L s.length y = some q) (hk : xIxA len n p q c f s h k = some r) :
    ∃ v vv, k v h = some r ∧ VR ρ v vv ∧ PureAt P (.indexAddr t x y) a vv := by
  obtain ⟨kd, j, h1, h2⟩ := ixN_inv (A'.opd hy) hk
  obtain ⟨b, o, hb, h3⟩ := toP_inv h1
  have h4 := A'.opd hx
  rw [hb] at h4
  obtain ⟨pl, h5, h6⟩ := h4
  obtain ⟨h7, h8⟩ := lt_inv h3
  rw [fN_eq] at h8
  refine ⟨_, .pointer (some ⟨pl.b, pl.s + (o + j * n), none⟩), h8, ⟨pl, h5, rfl⟩, fun o' ho w => ?_⟩
  have hi : (Instr.indexAt t (.pointer (some ⟨pl.b, pl.s + o, none⟩)) (.int kd (j : Int))).run P w = .ok (.pointer (some ⟨pl.b, pl.s + (o + j * n), none⟩)) w := by
    unfold Instr.indexAt
    simp only [asIntOf, Sem.run_bind, Sem.run_pure, Result.andThen_ok, run_underlying hu w]
    simp [h7, size_run hs w, addr_add, Nat.add_assoc, Instr.sureAddr, run_underlying hu w]
  simp only [execOp, ho, h2, h6]
  rw [Sem.run_bind, hi]
  rfl
end
end Go.Ev
