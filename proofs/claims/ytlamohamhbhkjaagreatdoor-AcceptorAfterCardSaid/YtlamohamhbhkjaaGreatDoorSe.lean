/- The evaluator is right, fourteenth part: any operation. No condition. -/
import Derived.Test.YtlamohamhbhkjaaGreatDoorSd
namespace Go.Ev
open Go.RowKit Go.Eng

/-- Calls that the evaluator answers are answered so. -/
def CallOK (P : Program) (c : Call) : Prop :=
  ∀ (n : Nat) (args : St) (vs : List Value) (h : Hp) (w : World) (ρ : Rho) (k : Cn) (r : V × Hp), c n args h k = some r → VRs ρ args vs → HR ρ h w →
    ∀ (o : Oper) (a : Act) (K : Act → World → Prop) (Q : Exit → Act → World → Prop), (∀ vv w', Fin ρ h w k r vv w' → K (a.put o.dst vv) w') → o.upon P a K Q ((callFunc n vs.toArray).run P w)
/-- What an operation comes to. -/
inductive OpRes (P : Program) (c : Call) (op : Op) (a : Act) (ρ : Rho) (h : Hp) (w : World) (k : Cn) (r : V × Hp) (kd : Kd) (i : Ins) : Prop
  | pure (v : V) (vv : Value) (hkd : kd = .pure) (h1 : k v h = some r) (h2 : VR ρ v vv) (h3 : PureAt P op a vv) : OpRes P c op a ρ h w k r kd i
  | read (rk : Rk) (x : Operand) (p : O) (uw v : V) (hkd : kd = .read) (hi : i = (match rk with | .l1 => .ld1 p | .lA n => .ldA n p | .bs => .b2s p)) (h1 : k v h = some r) (h2 : Holds rk uw v h) (h3 : VR ρ uw (a.eval x)) (h4 : RdOp P rk op x) : OpRes P c op a ρ h w k r kd i
  | loud (hkd : kd = .loud) (h1 : OpRun P op a w (Fin ρ h w k r)) : OpRes P c op a ρ h w k r kd i
  | call (n : Nat) (args : St) (vs : List Value) (hkd : kd = .loud) (h1 : c n args h k = some r) (h2 : VRs ρ args vs) (h3 : ∀ x : Oper, x.op = op → (execOp a.eval x).run P w = (callFunc n vs.toArray).run P w) : OpRes P c op a ρ h w k r kd i
section
variable {P : Program} {fm : List (Nat × Nat)} {nt : Nat} {ρ : Rho} {f : St} {L : Lm} {s : St} {a : Act} {r : V × Hp} {c : Call} {h : Hp} {w : World} {k : Cn} {kd : Kd} {i : Ins}
theorem VRs.cat : ∀ {l l' : St} {m m' : List Value}, VRs ρ l m → VRs ρ l' m' → VRs ρ (l ++ l') (m ++ m')
  | [], _, [], _, _, h => h
  | _ :: _, _, _ :: _, _, h, h' => ⟨h.1, VRs.cat h.2 h'⟩
  | [], _, _ :: _, _, h, _ => h.elim
  | _ :: _, _, [], _, h, _ => h.elim
theorem capV_of : ∀ {l : List (Pth × Nat)} {m : List Value}, ptrs ρ l m → VRs ρ (capV l) m
  | [], [], _ => trivial
  | x :: l, v :: m, h => ⟨h.1, capV_of h.2⟩
  | [], _ :: _, h => h.elim
  | _ :: _, [], h => h.elim
theorem call_res (A' : AR fm nt ρ f L s a) {cl : Go.Call} (hi : callV P (ofO fm L s.length) cl = some (kd, i)) (H : HR ρ h w) (hk : i.den c f s h k = some r) : OpRes P c (.call cl) a ρ h w k r kd i := by
  unfold callV at hi
  split at hi
  · rename_i x t
    split at hi
    · rename_i hu
      obtain ⟨p, hp, rfl, rfl⟩ := one_inv hi
      obtain ⟨v, vv, h1, h2, h3⟩ := p_lenT (P := P) (c := c) A' hu hp hk
      exact .pure v vv rfl h1 h2 h3
    · rename_i el hu
      obtain ⟨p, hp, rfl, rfl⟩ := one_inv hi
      obtain ⟨v, vv, h1, h2, h3⟩ := p_len (P := P) (c := c) A' hu hp hk
      exact .pure v vv rfl h1 h2 h3
    · cases hi
  · rename_i x t
    split at hi
    · rename_i el he
      obtain ⟨p, hp, rfl, rfl⟩ := one_inv hi
      obtain ⟨v, vv, h1, h2, h3⟩ := p_cap (P := P) (c := c) A' (sliceEl_inv he) hp hk
      exact .pure v vv rfl h1 h2 h3
    · cases hi
  · rename_i x y t u
    split at hi
    case h_2 => cases hi
    rename_i el he
    split at hi
    case h_2 => cases hi
    rename_i n z hz
    split at hi
    · rename_i kd' hu
      obtain ⟨p, q, hp, hq, rfl, rfl⟩ := both_inv hi
      exact .loud rfl (m_apz (c := c) A' H (sliceEl_inv he) hz hu hp hq hk)
    · rename_i hu
      split at hi
      case h_2 => cases hi
      rename_i hb
      obtain ⟨p, q, hp, hq, rfl, rfl⟩ := both_inv hi
      exact .loud rfl (m_app (c := c) A' H (sliceEl_inv he) hz hu (.inl ⟨rfl, beq_inv hb⟩) hp hq hk)
    · rename_i e hu
      obtain ⟨p, q, hp, hq, rfl, rfl⟩ := both_inv hi
      exact .loud rfl (m_app (c := c) A' H (sliceEl_inv he) hz hu (.inr ⟨e, rfl⟩) hp hq hk)
    · cases hi
  · rename_i x y t u
    split at hi
    case h_2 => cases hi
    rename_i el he
    split at hi
    case h_2 => cases hi
    rename_i n z hz
    obtain ⟨p, q, hp, hq, rfl, rfl⟩ := both_inv hi
    exact .loud rfl (m_cpy (c := c) A' H (sliceEl_inv he) hz hp hq hk)
  · rename_i x t
    split at hi
    case h_2 => cases hi
    rename_i el he
    split at hi
    case h_2 => cases hi
    rename_i n z hz
    obtain ⟨p, hp, rfl, rfl⟩ := one_inv hi
    exact .loud rfl (m_clr (c := c) A' H (sliceEl_inv he) hz hp hk)
  · rename_i x y t u
    split at hi
    case h_2 => cases hi
    rename_i kd' hu
    obtain ⟨p, q, hp, hq, rfl, rfl⟩ := both_inv hi
    obtain ⟨v, vv, h1, h2, h3⟩ := p_minmax (P := P) (c := c) (t := t) (t' := u) A' false hp hq (kd := kd') hk
    exact .pure v vv rfl h1 h2 h3
  · rename_i x y t u
    split at hi
    case h_2 => cases hi
    rename_i kd' hu
    obtain ⟨p, q, hp, hq, rfl, rfl⟩ := both_inv hi
    obtain ⟨v, vv, h1, h2, h3⟩ := p_minmax (P := P) (c := c) (t := t) (t' := u) A' true hp hq (kd := kd') hk
    exact .pure v vv rfl h1 h2 h3
  · rename_i n as ats
    split at hi
    case h_2 => cases hi
    rename_i l hl
    simp only [Option.some.injEq, Prod.mk.injEq] at hi
    obtain ⟨rfl, rfl⟩ := hi
    refine .call n (oVs l f s) (as.map a.eval) rfl hk (opds A' hl) (fun x hx => ?_)
    simp [execOp, hx, resolve, Deferred.ofValue, invoke, Act.eval]
  · rename_i g as ats _
    split at hi
    case h_2 => cases hi
    rename_i l hl
    obtain ⟨p, hp, rfl, rfl⟩ := one_inv hi
    obtain ⟨n, fs, cs, h1, h2⟩ := toF_inv hk
    have h3 := A'.opd hp
    rw [h1] at h3
    obtain ⟨xs, ys, h4, h5, e⟩ := h3
    rw [catN_eq, catN_eq] at h2
    refine .call n _ (xs ++ (as.map a.eval ++ ys)) rfl h2 (VRs.cat (capV_of h4) (VRs.cat (opds A' hl) (capV_of h5))) (fun x hx => ?_)
    simp [execOp, hx, resolve, e, Deferred.ofValue, invoke]
  · cases hi
theorem rd_res {rk : Rk} {x : Operand} {op : Op} {p : O} (A' : AR fm nt ρ f L s a) (H : HR ρ h w) (hp : ofO fm L s.length x = some p) (hkd : kd = .read) (hi : i = (match rk with | .l1 => .ld1 p | .lA n => .ldA n p | .bs => .b2s p)) (ho : RdOp P rk op x) (hk : rdC rk (oV p f s) h (fun v => k v h) = some r) : OpRes P c op a ρ h w k r kd i := by
  obtain ⟨v, h1, h2⟩ := rd_inv H (A'.opd hp) hk
  exact .read rk x p _ v hkd hi h1 h2 (A'.opd hp) ho
theorem ins_res (A' : AR fm nt ρ f L s a) {op : Op} (hi : insV P (ofO fm L s.length) op = some (kd, i)) (H : HR ρ h w) (hk : i.den c f s h k = some r) : OpRes P c op a ρ h w k r kd i := by
  unfold insV at hi
  split at hi
  · obtain ⟨p, hp, rfl, rfl⟩ := one_inv hi
    obtain ⟨v, vv, h1, h2, h3⟩ := p_mov (P := P) (c := c) A' hp hk _ (.inl rfl)
    exact .pure v vv rfl h1 h2 h3
  · obtain ⟨p, hp, rfl, rfl⟩ := one_inv hi
    obtain ⟨v, vv, h1, h2, h3⟩ := p_mov (P := P) (c := c) A' hp hk _ (.inr rfl)
    exact .pure v vv rfl h1 h2 h3
  · split at hi
    case h_2 => cases hi
    rename_i cc hc
    obtain ⟨p, q, hp, hq, rfl, rfl⟩ := both_inv hi
    obtain ⟨v, vv, h1, h2, h3⟩ := p_pick (P := P) (c := c) A' hc hp hq hk
    exact .pure v vv rfl h1 h2 h3
  · obtain ⟨p, hp, rfl, rfl⟩ := one_inv hi
    obtain ⟨v, vv, h1, h2, h3⟩ := p_ext (P := P) (c := c) A' hp hk
    exact .pure v vv rfl h1 h2 h3
  · obtain ⟨p, hp, rfl, rfl⟩ := one_inv hi
    obtain ⟨v, vv, h1, h2, h3⟩ := p_chk (P := P) (c := c) A' hp hk
    exact .pure v vv rfl h1 h2 h3
  · split at hi
    case h_2 => cases hi
    rename_i fs hu
    split at hi
    case h_2 => cases hi
    rename_i fd hf
    split at hi
    case h_2 => cases hi
    rename_i m hs
    obtain ⟨p, hp, rfl, rfl⟩ := one_inv hi
    obtain ⟨v, vv, h1, h2, h3⟩ := p_fld (P := P) (c := c) A' hu hf hs hp hk
    exact .pure v vv rfl h1 h2 h3
  · split at hi
    case h_2 => cases hi
    rename_i l hl
    split at hi
    case h_2 => cases hi
    rename_i m hm
    simp only [Option.some.injEq, Prod.mk.injEq] at hi
    obtain ⟨rfl, rfl⟩ := hi
    obtain ⟨v, vv, h1, h2, h3⟩ := p_mkf (P := P) (c := c) A' hl hm hk
    exact .pure v vv rfl h1 h2 h3
  · obtain ⟨p, hp, rfl, rfl⟩ := one_inv hi
    obtain ⟨v, vv, h1, h2, h3⟩ := p_not (P := P) (c := c) A' hp hk
    exact .pure v vv rfl h1 h2 h3
  · split at hi
    case h_2 => cases hi
    rename_i b hb
    obtain ⟨p, q, hp, hq, rfl, rfl⟩ := both_inv hi
    obtain ⟨v, vv, h1, h2, h3⟩ := p_bin (P := P) (c := c) A' hb hp hq hk
    exact .pure v vv rfl h1 h2 h3
  · split at hi
    · rename_i ha
      obtain ⟨p, hp, rfl, rfl⟩ := one_inv hi
      exact rd_res (rk := .l1) A' H hp rfl rfl ⟨_, rfl, ha⟩ hk
    · rename_i n ha
      obtain ⟨p, hp, rfl, rfl⟩ := one_inv hi
      exact rd_res (rk := .lA n) A' H hp rfl rfl ⟨_, rfl, ha⟩ hk
    · cases hi
  · split at hi
    · rename_i ha
      obtain ⟨p, q, hp, hq, rfl, rfl⟩ := both_inv hi
      exact .loud rfl (m_st1 (c := c) A' H ha hp hq hk)
    · rename_i n ha
      obtain ⟨p, q, hp, hq, rfl, rfl⟩ := both_inv hi
      exact .loud rfl (m_stA (c := c) A' H ha hp hq hk)
    · cases hi
  · split at hi
    case h_2 => cases hi
    rename_i z hz
    simp only [Option.some.injEq, Prod.mk.injEq] at hi
    obtain ⟨rfl, rfl⟩ := hi
    exact .loud rfl (m_alc (c := c) (f := f) (s := s) H hz hk)
  · obtain ⟨p, hp, rfl, rfl⟩ := one_inv hi
    exact .loud rfl (m_box (c := c) A' H hp hk)
  · split at hi
    · rename_i fs hu
      split at hi
      case h_2 => cases hi
      rename_i hok
      split at hi
      case h_2 => cases hi
      rename_i z hz
      split at hi
      case h_2 => cases hi
      rename_i l hl
      simp only [Option.some.injEq, Prod.mk.injEq] at hi
      obtain ⟨rfl, rfl⟩ := hi
      obtain ⟨v, vv, h1, h2, h3⟩ := p_bldS (P := P) (c := c) A' hu hok hz hl hk
      exact .pure v vv rfl h1 h2 h3
    · rename_i n el hu
      split at hi
      case h_2 => cases hi
      rename_i z hz
      split at hi
      case h_2 => cases hi
      rename_i m hm
      split at hi
      case h_2 => cases hi
      rename_i l hl
      simp only [Option.some.injEq, Prod.mk.injEq] at hi
      obtain ⟨rfl, rfl⟩ := hi
      obtain ⟨v, vv, h1, h2, h3⟩ := p_bldA (P := P) (c := c) A' hu hm hz hl hk
      exact .pure v vv rfl h1 h2 h3
    · cases hi
  · split at hi
    case h_2 => cases hi
    rename_i el he
    split at hi
    case h_2 => cases hi
    rename_i n z hz
    split at hi
    case h_2 => cases hi
    rename_i hb
    split at hi
    case h_2 => cases hi
    rename_i l hl
    simp only [Option.some.injEq, Prod.mk.injEq] at hi
    obtain ⟨rfl, rfl⟩ := hi
    exact .loud rfl (m_bls (c := c) A' H (sliceEl_inv he) hz hb hl hk)
  · split at hi
    · rename_i el hu
      split at hi
      case h_2 => cases hi
      rename_i n hn
      obtain ⟨p, q, hp, hq, rfl, rfl⟩ := both_inv hi
      obtain ⟨v, vv, h1, h2, h3⟩ := p_ixS (P := P) (c := c) A' hu hn hp hq hk
      exact .pure v vv rfl h1 h2 h3
    · rename_i m el hu
      split at hi
      case h_2 => cases hi
      rename_i n hn
      obtain ⟨p, q, hp, hq, rfl, rfl⟩ := both_inv hi
      obtain ⟨v, vv, h1, h2, h3⟩ := p_ixA (P := P) (c := c) A' hu hn hp hq hk
      exact .pure v vv rfl h1 h2 h3
    · cases hi
  · split at hi
    · rename_i hu
      obtain ⟨p, q, hp, hq, rfl, rfl⟩ := both_inv hi
      obtain ⟨v, vv, h1, h2, h3⟩ := p_ixT (P := P) (c := c) A' hu hp hq hk
      exact .pure v vv rfl h1 h2 h3
    · rename_i m el hu
      split at hi
      case h_2 => cases hi
      rename_i ha
      obtain ⟨p, q, hp, hq, rfl, rfl⟩ := both_inv hi
      obtain ⟨v, vv, h1, h2, h3⟩ := p_ixG (P := P) (c := c) A' hu ha hp hq hk
      exact .pure v vv rfl h1 h2 h3
    · cases hi
  · have cut_inv : ∀ {g : O → Option O → Option O → Ins} {x : Operand} {lo hi' : Option Operand}, cutV (ofO fm L s.length) g x lo hi' = some (kd, i) → ∃ p l q, ofO fm L s.length x = some p ∧ ofOo (ofO fm L s.length) lo = some l ∧ ofOo (ofO fm L s.length) hi' = some q ∧ i = g p l q ∧ kd = .pure := fun {g x lo hi'} hh => by
      unfold cutV at hh
      split at hh
      case h_2 => cases hh
      rename_i p hp
      split at hh
      case h_2 => cases hh
      rename_i l hl
      split at hh
      case h_2 => cases hh
      rename_i q hq
      simp only [Option.some.injEq, Prod.mk.injEq] at hh
      exact ⟨p, l, q, hp, hl, hq, hh.2.symm, hh.1.symm⟩
    split at hi
    · rename_i hu
      obtain ⟨p, l, q, hp, hl, hq, rfl, rfl⟩ := cut_inv hi
      obtain ⟨v, vv, h1, h2, h3⟩ := p_cutT (P := P) (c := c) A' hu hp hl hq hk
      exact .pure v vv rfl h1 h2 h3
    · rename_i el hu
      split at hi
      case h_2 => cases hi
      rename_i n hn
      obtain ⟨p, l, q, hp, hl, hq, rfl, rfl⟩ := cut_inv hi
      obtain ⟨v, vv, h1, h2, h3⟩ := p_cutL (P := P) (c := c) A' hu hn hp hl hq hk
      exact .pure v vv rfl h1 h2 h3
    · rename_i m el hu
      split at hi
      case h_2 => cases hi
      rename_i n hn
      obtain ⟨p, l, q, hp, hl, hq, rfl, rfl⟩ := cut_inv hi
      obtain ⟨v, vv, h1, h2, h3⟩ := p_cutA (P := P) (c := c) A' hu hn hp hl hq hk
      exact .pure v vv rfl h1 h2 h3
    · cases hi
  · split at hi
    case h_2 => cases hi
    rename_i el he
    split at hi
    case h_2 => cases hi
    rename_i n z hz
    obtain ⟨p, q, hp, hq, rfl, rfl⟩ := both_inv hi
    exact .loud rfl (m_mks (c := c) A' H (sliceEl_inv he) hz hp hq hk)
  · split at hi
    · rename_i kj hu
      split at hi
      case h_2 => cases hi
      rename_i kk' hu'
      obtain ⟨p, hp, rfl, rfl⟩ := one_inv hi
      obtain ⟨v, vv, h1, h2, h3⟩ := p_cvi (P := P) (c := c) A' hu hu' hp hk
      exact .pure v vv rfl h1 h2 h3
    · rename_i hu
      split at hi
      case h_2 => cases hi
      rename_i el he
      split at hi
      case h_2 => cases hi
      rename_i hu8
      obtain ⟨p, hp, rfl, rfl⟩ := one_inv hi
      exact .loud rfl (m_s2b (c := c) A' H hu (sliceEl_inv he) hu8 hp hk)
    · rename_i el hu
      split at hi
      case h_2 => cases hi
      rename_i hu8
      split at hi
      case h_2 => cases hi
      rename_i hu'
      obtain ⟨p, hp, rfl, rfl⟩ := one_inv hi
      exact rd_res (rk := .bs) A' H hp rfl rfl ⟨_, _, _, rfl, hu, hu8, hu'⟩ hk
    · cases hi
  · split at hi
    case h_2 => cases hi
    rename_i n el hu
    obtain ⟨p, hp, rfl, rfl⟩ := one_inv hi
    obtain ⟨v, vv, h1, h2, h3⟩ := p_s2a (P := P) (c := c) A' hu hp hk
    exact .pure v vv rfl h1 h2 h3
  · split at hi
    case h_2 => cases hi
    rename_i hu
    obtain ⟨p, hp, rfl, rfl⟩ := one_inv hi
    exact .loud rfl (m_rng (c := c) A' H hu hp hk)
  · obtain ⟨p, hp, rfl, rfl⟩ := one_inv hi
    exact .loud rfl (m_nxt (c := c) A' H hp hk)
  · exact call_res A' hi H hk
  · cases hi
/-- Any operation, carried out. -/
theorem op_res (A' : AR fm nt ρ f L s a) {op : Op} (ho : opV P (ofO fm L s.length) op = (kd, i)) (H : HR ρ h w) (hk : i.den c f s h k = some r) : OpRes P c op a ρ h w k r kd i := by
  unfold opV at ho
  split at ho
  · rename_i y hy
    subst ho
    exact ins_res A' hy H hk
  · simp only [Prod.mk.injEq] at ho
    obtain ⟨rfl, rfl⟩ := ho
    exact nN (show (none : A) = some r from hk)
theorem OpRes.wp {x : Oper} {K : Act → World → Prop} {Q : Exit → Act → World → Prop} (hC : CallOK P c) (H : HR ρ h w) (hr : OpRes P c x.op a ρ h w k r kd i) (hK : ∀ vv w', Fin ρ h w k r vv w' → K (a.put x.dst vv) w') : x.wp P a w K Q := by
  have orun : OpRun P x.op a w (Fin ρ h w k r) → x.wp P a w K Q := fun h1 => by
    obtain ⟨vv, w', h2, h3⟩ := h1 x rfl
    unfold Oper.wp
    rcases h2 with h2 | ⟨h2, rfl⟩
    · rw [h2]; exact hK _ _ h3
    · rw [h2]; exact hK _ _ h3
  cases hr with
  | pure v vv hkd h1 h2 h3 => exact orun (OpRun.pure H h1 h2 h3)
  | read rk y p uw v hkd hi h1 h2 h3 h4 =>
    obtain ⟨vv, h5, h6⟩ := h2.reads H h3
    exact orun (OpRun.value (fun z hz => h6.run h4 z hz) ⟨ρ, v, h, h1, h5, H, Fr.refl _ _ _⟩)
  | loud hkd h1 => exact orun h1
  | call n args vs hkd h1 h2 h3 =>
    unfold Oper.wp
    rw [h3 x rfl]
    exact hC n args vs h w ρ k r h1 h2 H x a K Q hK
end
end Go.Ev
