/- The evaluator is right, twenty-first part: code, functions, tables. No condition but that the program leaves its orders open, which is asked of it. -/
import Derived.Test.YtlamohamhbhkjaaGreatDoorSk
import Derived.Deep.LoopGhost
namespace Go.Ev
open Go.RowKit Go.Eng

section
variable {P : Program} {fm : List (Nat × Nat)} {nt : Nat} {r : V × Hp} {c : Call}
theorem pf_then {K : Act → World → Prop} {Q : Exit → Act → World → Prop} (h : PanicFree Q) : PanicFree (Exit.then K Q) := fun c a a' w e q => h c a a' w e q
theorem pf_block {id : Nat} {Q : Exit → Act → World → Prop} (h : PanicFree Q) : PanicFree (Exit.inBlock id Q) := fun c a a' w e q => h c a a' w e q
theorem pf_body {fn : Func} {R : Ending → World → Prop} : PanicFree (bodyPost P fn R) := fun _ _ _ _ h q => ⟨h ▸ q.1, q.2⟩
theorem unl_rep (n : Nat) : ∀ m, m ≤ n → unl (Array.replicate n false) m = m
  | 0, _ => rfl
  | m + 1, h => by
    simp only [unl]
    rw [unl_rep n m (by omega)]
    have : (Array.replicate n false).getD m true = false := by simp [show m < n by omega]
    rw [this]; rfl
theorem code_ok (hC : CallOK P c) (hmix : P.follows .mixedOrders = true) (hinj : Inj fm) (ρ0 : Rho) (h0 : Hp) (w0 : World) :
    ∀ (cd : Code) (k : Cd), codeV P fm cd = some k → codeOk nt cd = true → ∀ (ρ : Rho) (f : St) (h : Hp) (w : World) (a : Act) (kn kr : Kf) (kx : Nat → Kf) (Q : Exit → Act → World → Prop), PanicFree Q → AR fm nt ρ f [] [] a → HR ρ h w → Fr ρ0 h0 w0 ρ h w →
      k.den c f h kn kr kx = some r →
      (∀ ρ' f' h' w' a', AR fm nt ρ' f' [] [] a' → HR ρ' h' w' → Fr ρ0 h0 w0 ρ' h' w' → kn f' h' = some r → Q .normal a' w') →
      (∀ ρ' f' h' w' a', AR fm nt ρ' f' [] [] a' → HR ρ' h' w' → Fr ρ0 h0 w0 ρ' h' w' → kr f' h' = some r → Q .ret a' w') →
      (∀ id ρ' f' h' w' a', AR fm nt ρ' f' [] [] a' → HR ρ' h' w' → Fr ρ0 h0 w0 ρ' h' w' → kx id f' h' = some r → Q (.exit id) a' w') → cd.wp P Q a w := by
  intro cd
  have bad : ∀ (k : Cd), (some Cd.bad : Option Cd) = some k → ∀ {f h kn kr kx} {p : Prop}, k.den c f h kn kr kx = some r → p := fun k e f h kn kr kx p hk => by
    simp only [Option.some.injEq] at e
    subst e
    exact nN (show (none : A) = some r from hk)
  induction cd with
  | skip =>
    intro k hk _ ρ f h w a kn kr kx Q _ A' H F hr hn _ _
    simp only [codeV, Option.some.injEq] at hk
    subst hk
    exact wp_skip (hn ρ f h w a A' H F hr)
  | ret =>
    intro k hk _ ρ f h w a kn kr kx Q _ A' H F hr _ hret _
    simp only [codeV, Option.some.injEq] at hk
    subst hk
    exact wp_ret (hret ρ f h w a A' H F hr)
  | exit id =>
    intro k hk _ ρ f h w a kn kr kx Q _ A' H F hr _ _ hx
    simp only [codeV, Option.some.injEq] at hk
    subst hk
    exact wp_exit (hx id ρ f h w a A' H F hr)
  | region id ops dr =>
    intro k hk hok ρ f h w a kn kr kx Q hQ A' H F hr hn _ _
    cases ops with | mk l =>
    have hnm : Nm fm [] := ⟨hinj, (fun t x hx => by simp [lk] at hx)⟩
    cases dr with
    | false =>
      simp only [codeV] at hk
      split at hk
      case h_2 => cases hk
      rename_i sps hs
      simp only [Option.some.injEq] at hk
      subst hk
      exact wp_region_lit (regV_ok (ops := l) (k := fun f' _ h' => kn f' h') hC ρ0 h0 w0 (fun ρ' f' s' h' w' a' h1 h2 h3 h4 => hn ρ' f' h' w' a' h2 h3 h4 h1) l [] sps ρ f [] h w a hs hok hnm trivial A' H F hr)
    | true =>
      simp only [codeV] at hk
      split at hk
      case h_2 => exact bad k hk hr
      rename_i sps hs
      simp only [Option.some.injEq] at hk
      subst hk
      unfold regDV at hs
      split at hs
      case h_2 => cases hs
      rename_i hns
      split at hs
      case h_2 => cases hs
      rename_i pl hpl
      refine wp_region_any hmix (wpS_any (S := SP P l []) _ _ _ _ ?_)
      have hO := old_drew w
      have hfin : ∀ ρ' f' s' h' w' a', (fun f' (_ : St) h' => kn f' h') f' s' h' = some r → AR fm nt ρ' f' [] [] a' → HR ρ' h' w' → Fr ρ0 h0 w0 ρ' h' w' → Q .normal a' w' := fun ρ' f' s' h' w' a' h1 h2 h3 h4 => hn ρ' f' h' w' a' h2 h3 h4 h1
      have hI : Inv P l nt (mksV l) ρ0 h0 w0 fm [] [] [] (Array.replicate l.length false) (List.replicate l.length false) (fun _ => 0) ρ h w.drew f [] a :=
        { ar := A', nm := hnm, one := trivial, hr := H.old hO, fr := F.trans (frOld H hO), pend := (fun p hp => by cases hp), pw := (fun p hp => by cases hp),
          zi := (fun z p hz => by simp [lk] at hz), zap := (fun z p _ _ _ _ hz => by simp [lk] at hz), zM := (fun z p hz => by simp [lk] at hz), zp := (fun z p _ _ hz => by simp [lk] at hz),
          gd := (fun z p _ _ hz => by simp [lk] at hz), sz := (by simp), lsz := (by simp), up := (fun j hj => by
            rw [← toA] at hj
            have e : (List.replicate l.length false).toArray = Array.replicate l.length false := by simp
            rw [e] at hj; exact hj), dn := fun j hj => .inl (by
            rw [← toA]
            have e : (List.replicate l.length false).toArray = Array.replicate l.length false := by simp
            rw [e]; exact hj), zl := (fun z p hz => by simp [lk] at hz), cl := fun j i hj _ => by
            rcases Nat.lt_or_ge j l.length with h | h
            · simp [h] at hj
            · simp [h] at hj }
      have := regD_ok (ops := l) (fm := fm) (k := fun f' (_ : St) h' => kn f' h') (Q := Q) (M := mksV l) hC hns hok hQ (fun m hm => (List.mem_filter.1 hm).2) hinj hfin (pl.length + l.length) pl fm [] sps ρ f [] h w.drew a [] [] (Array.replicate l.length false) (List.replicate l.length false) (fun _ => 0) l.length (Nat.le_refl _) hs hI (fun t j hj => hj) hr (unl_rep _ _ (Nat.le_refl _)).symm
      simpa using this
  | seq x y ihx ihy =>
    intro k hk hok ρ f h w a kn kr kx Q hQ A' H F hr hn hret hx
    simp only [codeV] at hk
    split at hk
    case h_2 => cases hk
    rename_i kx' hkx
    split at hk
    case h_2 => cases hk
    rename_i ky hky
    simp only [Option.some.injEq] at hk
    subst hk
    simp only [codeOk, Bool.and_eq_true] at hok
    refine wp_seq (ihx kx' hkx hok.1 ρ f h w a (fun f' h' => ky.den c f' h' kn kr kx) kr kx _ (pf_then hQ) A' H F hr (fun ρ' f' h' w' a' h1 h2 h3 h4 => ?_) hret hx)
    exact ihy ky hky hok.2 ρ' f' h' w' a' kn kr kx Q hQ h1 h2 h3 h4 hn hret hx
  | cond o x y ihx ihy =>
    intro k hk hok ρ f h w a kn kr kx Q hQ A' H F hr hn hret hx
    simp only [codeV] at hk
    split at hk
    case h_2 => cases hk
    rename_i po hpo
    split at hk
    case h_2 => cases hk
    rename_i kx' hkx
    split at hk
    case h_2 => cases hk
    rename_i ky hky
    simp only [Option.some.injEq] at hk
    subst hk
    simp only [codeOk, Bool.and_eq_true] at hok
    obtain ⟨b, hb, h1⟩ := toB_inv (show toB (oV po f []) (fun t => Bool.rec (motive := fun _ => A) (ky.den c f h kn kr kx) (kx'.den c f h kn kr kx) t) = some r from hr)
    have h2 := A'.opd (L := []) (s := []) hpo
    rw [hb] at h2
    have h3 : a.eval o = .bool b := h2
    refine wp_cond_split h3 (fun e => ?_) (fun e => ?_)
    · subst e; exact ihx kx' hkx hok.1 ρ f h w a kn kr kx Q hQ A' H F h1 hn hret hx
    · subst e; exact ihy ky hky hok.2 ρ f h w a kn kr kx Q hQ A' H F h1 hn hret hx
  | block id x ihx =>
    intro k hk hok ρ f h w a kn kr kx Q hQ A' H F hr hn hret hx
    simp only [codeV] at hk
    split at hk
    case h_2 => cases hk
    rename_i kx' hkx
    simp only [Option.some.injEq] at hk
    subst hk
    refine wp_block (ihx kx' hkx hok ρ f h w a kn kr (fun j f' h' => Bool.rec (motive := fun _ => A) (kx j f' h') (kn f' h') (Nat.beq j id)) _ (pf_block hQ) A' H F hr hn hret fun j ρ' f' h' w' a' h1 h2 h3 h4 => ?_)
    show (if j = id then Q .normal a' w' else Q (.exit j) a' w')
    cases hb : Nat.beq j id with
    | true => rw [hb] at h4; rw [if_pos (beq_inv hb)]; exact hn ρ' f' h' w' a' h1 h2 h3 h4
    | false => rw [hb] at h4; rw [if_neg (fun e => by subst e; simp at hb)]; exact hx j ρ' f' h' w' a' h1 h2 h3 h4
  | loop x ihx =>
    intro k hk hok ρ f h w a kn kr kx Q hQ A' H F hr hn hret hx
    simp only [codeV] at hk
    split at hk
    case h_2 => cases hk
    rename_i kx' hkx
    simp only [Option.some.injEq] at hk
    subst hk
    let rc : Nat → St → Hp → A := lpN kx'.den c kr kx
    have hr' : lpN kx'.den c kr kx 65536 f h = some r := hr
    refine wp_loop_ghost (fun n a w => ∃ ρ f h, AR fm nt ρ f [] [] a ∧ HR ρ h w ∧ Fr ρ0 h0 w0 ρ h w ∧ rc n f h = some r) 65536 ⟨ρ, f, h, A', H, F, hr'⟩ ?_
    rintro n a w ⟨ρ, f, h, A', H, F, h1⟩
    cases n with
    | zero => exact nN h1
    | succ n =>
      refine wp_mono (ihx kx' hkx hok ρ f h w a (rc n) kr kx (Exit.then (fun a' w' => ∃ ρ f h, AR fm nt ρ f [] [] a' ∧ HR ρ h w' ∧ Fr ρ0 h0 w0 ρ h w' ∧ rc n f h = some r) Q) (pf_then hQ) A' H F h1 (fun ρ' f' h' w' a' h1 h2 h3 h4 => ⟨ρ', f', h', h1, h2, h3, h4⟩) hret hx) ?_
      intro e a' w' hq
      cases e with
      | normal => exact ⟨n, Nat.lt_succ_self n, hq⟩
      | exit id => exact hq
      | goto l => exact hq
      | ret => exact hq
      | panic ch => exact hq
      | outgrown => exact hq
  | _ =>
    intro k hk _ ρ f h w a kn kr kx Q _ A' H F hr _ _ _
    simp only [codeV] at hk
    exact bad k hk hr

/-! ### Results -/
def resF (tmps : Array Value) : ResultVar → Sem Value
  | .tmp t => pure (tmps.getD t undef)
  | .cell b t => do loadVar t (← asAddr (tmps.getD b undef))
theorem res_ok {ρ : Rho} {f : St} {h : Hp} {w : World} {a : Act} (A' : AR fm nt ρ f [] [] a) (H : HR ρ h w) : ∀ {rs : List ResultVar} {rl : List Rs} {kk : St → A}, resV P fm rs = some rl → ressC rl f h kk = some r →
    ∃ l vs, kk l = some r ∧ VRs ρ l vs ∧ ∀ acc : Array Value, (rs.foldlM (fun (bs : Array Value) x => do pure (bs.push (← resF a.tmps x))) acc).run P w = .ok (acc ++ vs.toArray) w
  | [], rl, kk, hr, hk => by
    simp only [resV, Option.some.injEq] at hr
    subst hr
    exact ⟨[], [], hk, trivial, fun acc => by simp⟩
  | .tmp t :: rs, rl, kk, hr, hk => by
    simp only [resV] at hr
    split at hr
    case h_2 => cases hr
    rename_i o ho
    split at hr
    case h_2 => cases hr
    rename_i l hl
    simp only [Option.some.injEq] at hr
    subst hr
    obtain ⟨l', vs, h1, h2, h3⟩ := res_ok A' H hl (show ressC l f h (fun l => kk (oV o f [] :: l)) = some r from hk)
    have hv := A'.opd (L := []) (s := []) ho
    refine ⟨_, a.tmps.getD t undef :: vs, h1, ⟨hv, h2⟩, fun acc => ?_⟩
    have hh : (resF a.tmps (.tmp t)).run P w = .ok (a.tmps.getD t undef) w := rfl
    rw [List.foldlM_cons, Sem.run_bind, Sem.run_bind, hh]
    simp only [Sem.run_pure, Result.andThen_ok]
    rw [h3]
    simp
  | .cell b t :: rs, rl, kk, hr, hk => by
    simp only [resV] at hr
    split at hr
    case h_2 => cases hr
    rename_i o ho
    have hv := A'.opd (L := []) (s := []) ho
    have hv' : VR ρ (oV o f []) (a.tmps.getD b undef) := hv
    have fin : ∀ (rk : Rk) (l : List Rs), resV P fm rs = some l → (∃ x, RdOp P rk (.load t x) x) → rdC rk (oV o f []) h (fun v => ressC l f h (fun l => kk (v :: l))) = some r →
        ∃ l vs, kk l = some r ∧ VRs ρ l vs ∧ ∀ acc : Array Value, ((ResultVar.cell b t :: rs).foldlM (fun (bs : Array Value) x => do pure (bs.push (← resF a.tmps x))) acc).run P w = .ok (acc ++ vs.toArray) w := fun rk l hl hro hrd => by
      obtain ⟨v, h1, h2⟩ := rd_inv H hv' hrd
      obtain ⟨vv, h3, h4⟩ := h2.reads H hv'
      obtain ⟨l', vs, h5, h6, h7⟩ := res_ok A' H hl h1
      have hld : (resF a.tmps (.cell b t)).run P w = .ok vv w := by
        obtain ⟨x, hro⟩ := hro
        show (do loadVar t (← asAddr (a.tmps.getD b undef)) : Sem Value).run P w = .ok vv w
        generalize a.tmps.getD b undef = u at h4
        have h8 : ∃ ad, u = .pointer (some ad) := by
          cases rk with
          | l1 => obtain ⟨b', o', e, _⟩ := h4; exact ⟨_, e⟩
          | lA n => obtain ⟨b', o', vs', e, _⟩ := h4; exact ⟨_, e⟩
          | bs => obtain ⟨_, _, _, e, _⟩ := hro; cases e
        obtain ⟨ad, rfl⟩ := h8
        have e3 : ({ tmps := #[.pointer (some ad)], defers := [] } : Act).eval (.tmp 0) = .pointer (some ad) := by simp [Act.eval]
        -- the load is the one that an operation would do
        have h9 := Reads.run (P := P) (a := { tmps := #[.pointer (some ad)], defers := [] }) (x := .tmp 0) (op := .load t (.tmp 0)) (rk := rk) (vv := vv) (w := w) (by
          cases rk with
          | l1 => obtain ⟨t', e1, e2⟩ := hro; simp only [Op.load.injEq] at e1; rw [e1.1]; exact ⟨_, rfl, e2⟩
          | lA n => obtain ⟨t', e1, e2⟩ := hro; simp only [Op.load.injEq] at e1; rw [e1.1]; exact ⟨_, rfl, e2⟩
          | bs => obtain ⟨_, _, _, e, _⟩ := hro; cases e) (by rw [e3]; exact h4) ⟨none, .load t (.tmp 0), 0, "", #[], none⟩ rfl
        simp only [execOp, e3, Instr.loadAt, Instr.sureAddr, Sem.run_bind, Sem.run_pure, Result.andThen_ok] at h9
        simp only [asAddr, Sem.run_bind, Sem.run_pure, Result.andThen_ok]
        generalize (loadVar t ad).run P w = res at h9 ⊢
        cases res with
        | ok v' w' => simpa using h9
        | halt x w' => simp [Result.andThen] at h9
      refine ⟨_, vv :: vs, h5, ⟨h3, h6⟩, fun acc => ?_⟩
      rw [List.foldlM_cons, Sem.run_bind, Sem.run_bind, hld]
      simp only [Sem.run_pure, Result.andThen_ok]
      rw [h7]
      simp
    split at hr
    · rename_i ha
      split at hr
      case h_2 => cases hr
      rename_i l hl
      simp only [Option.some.injEq] at hr
      subst hr
      exact fin .l1 l hl ⟨.tmp 0, _, rfl, ha⟩ hk
    · rename_i n ha
      split at hr
      case h_2 => cases hr
      rename_i l hl
      simp only [Option.some.injEq] at hr
      subst hr
      exact fin (.lA n) l hl ⟨.tmp 0, _, rfl, ha⟩ hk
    · cases hr
theorem asEs_inv {ρ : Rho} : ∀ {l : St} {vs : List Value} {kk : List E → A}, VRs ρ l vs → asEs l kk = some r → ∃ es, kk es = some r ∧ ERs ρ es vs
  | [], [], kk, _, h => ⟨[], h, trivial⟩
  | [], _ :: _, _, h, _ => h.elim
  | _ :: _, [], _, h, _ => h.elim
  | v :: l, vv :: vs, kk, hv, h => by
    have h1 : asE (fun x => asEs l (fun r => kk (x :: r))) v = some r := h
    cases v with
    | c x => obtain ⟨es, h2, h3⟩ := asEs_inv hv.2 h1; exact ⟨_, h2, hv.1, h3⟩
    | g x => obtain ⟨es, h2, h3⟩ := asEs_inv hv.2 h1; exact ⟨_, h2, hv.1, h3⟩
    | t x => exact nN h1
    | u => exact nN h1
theorem tup_ok {ρ : Rho} {l : St} {vs : List Value} {kk : V → A} (hv : VRs ρ l vs) (hk : tupC l kk = some r) : ∃ v, kk v = some r ∧ VR ρ v (if h : vs.toArray.size = 1 then vs.toArray[0] else .tuple vs.toArray) := by
  cases l with
  | nil =>
    cases vs with
    | nil => exact ⟨_, hk, [], trivial, rfl⟩
    | cons x vs => exact hv.elim
  | cons v l =>
    cases vs with
    | nil => exact hv.elim
    | cons x vs =>
      cases l with
      | nil =>
        cases vs with
        | nil => exact ⟨v, hk, hv.1⟩
        | cons y vs => exact hv.2.elim
      | cons v' l =>
        cases vs with
        | nil => exact hv.2.elim
        | cons y vs =>
          obtain ⟨es, h1, h2⟩ := asEs_inv hv (show asEs (v :: v' :: l) (fun q => kk (.t q)) = some r from hk)
          refine ⟨_, h1, ?_⟩
          rw [dif_neg (by simp)]
          exact ⟨_, h2, rfl⟩
theorem VRs.len {ρ : Rho} : ∀ {l : St} {vs : List Value}, VRs ρ l vs → l.length = vs.length
  | [], [], _ => rfl
  | _ :: _, _ :: _, h => by simp [VRs.len h.2]
  | [], _ :: _, h => h.elim
  | _ :: _, [], h => h.elim
theorem VRs.nth {ρ : Rho} : ∀ {l : St} {vs : List Value} (i : Nat), VRs ρ l vs → i < vs.length → VR ρ (nthV i l) (vs.getD i undef)
  | [], [], i, _, h => by simp at h
  | _ :: _, _ :: _, 0, h, _ => h.1
  | _ :: _, _ :: _, i + 1, h, hi => by rw [nthV_succ]; simpa using VRs.nth i h.2 (by simpa using hi)
  | [], _ :: _, _, h, _ => h.elim
  | _ :: _, [], _, h, _ => h.elim
theorem nthV_out : ∀ (l : St) (i : Nat), l.length ≤ i → nthV i l = bot
  | [], i, _ => nthV_nil i
  | _ :: l, 0, h => by simp at h
  | _ :: l, i + 1, h => by rw [nthV_succ]; exact nthV_out l i (by simpa using h)

/-! ### Functions -/
/-- What the evaluator takes a function to be is what it is. -/
def Sound (P : Program) (n : Nat) (x : Fx) : Prop :=
  ∀ c, CallOK P c → ∀ (args : St) (vs : List Value) (h : Hp) (w : World) (ρ : Rho) (k : Cn) (r : V × Hp), x c args h k = some r → VRs ρ args vs → HR ρ h w →
    ∀ (o : Oper) (a : Act) (K : Act → World → Prop) (Q : Exit → Act → World → Prop), (∀ vv w', Fin ρ h w k r vv w' → K (a.put o.dst vv) w') → o.upon P a K Q ((callFunc n vs.toArray).run P w)
theorem fmOk_inv {np : Nat} : ∀ {fm : List (Nat × Nat)}, fmOk np fm = true → (∀ t j, lk fm t = some j → (t < np → j = t) ∧ (np ≤ t → np ≤ j)) ∧ Inj fm
  | [], _ => ⟨(fun t j h => by simp [lk] at h), (fun t t' j h => by simp [lk] at h)⟩
  | (t, j) :: r, h => by
    simp only [fmOk, Bool.and_eq_true] at h
    obtain ⟨⟨h1, h2⟩, h3⟩ := h
    obtain ⟨ih1, ih2⟩ := fmOk_inv h3
    have hj : (t < np → j = t) ∧ (np ≤ t → np ≤ j) := by
      split at h1
      · rename_i hb
        have : t < np := by simpa [Nat.blt_eq] using hb
        exact ⟨fun _ => beq_inv h1, fun h => by omega⟩
      · rename_i hb
        have : ¬ t < np := fun h => by rw [show Nat.blt t np = true by simpa [Nat.blt_eq] using h] at hb; cases hb
        exact ⟨fun h => absurd h this, fun _ => ble_inv h1⟩
    have hnot : ∀ t', lk r t' ≠ some j := fun t' ht => by
      have := List.all_eq_true.1 h2 (t', j) (lk_mem ht)
      simp at this
    refine ⟨fun t' j' ht => ?_, fun t1 t2 j' e1 e2 => ?_⟩
    · rw [lk_cons] at ht
      split at ht
      · rename_i e; simp only [Option.some.injEq] at ht; rw [e, ← ht]; exact hj
      · exact ih1 t' j' ht
    · rw [lk_cons] at e1 e2
      split at e1
      · rename_i g1
        simp only [Option.some.injEq] at e1
        split at e2
        · rename_i g2; rw [g1, g2]
        · rw [← e1] at e2; exact absurd e2 (hnot t2)
      · split at e2
        · simp only [Option.some.injEq] at e2
          rw [← e2] at e1; exact absurd e1 (hnot t1)
        · exact ih2 t1 t2 j' e1 e2
theorem fun_ok (hmix : P.follows .mixedOrders = true) {n : Nat} {fd : Fd} (hf : funV P n fm = some fd) : Sound P n (runF fd.den) := by
  intro c hC args vs h w ρ k r hk hargs H o a K Q hK
  unfold funV at hf
  split at hf
  case h_2 => cases hf
  rename_i fn hfn
  split at hf
  case h_2 => cases hf
  rename_i hb
  simp only [Bool.and_eq_true] at hb
  obtain ⟨⟨⟨hcall, hcok⟩, hfm⟩, hnp⟩ := hb
  split at hf
  case h_2 => cases hf
  rename_i body hbody
  split at hf
  case h_2 => cases hf
  rename_i cd hcd
  split at hf
  case h_2 => cases hf
  rename_i rl hrl
  simp only [Option.some.injEq] at hf
  subst hf
  rw [hbody, Option.getD_some] at hcok
  obtain ⟨hfr, hinj⟩ := fmOk_inv hfm
  rw [run_callFunc_enter hcall, Oper.upon_enter]
  obtain ⟨hlen, hk1⟩ := ifT_inv (show ifT (Nat.ble (lenN args) (fn.params.size + fn.nfree)) (cd.den c args h (done rl k) (done rl k) (fun _ _ _ => none)) = some r from hk)
  have hlen' := ble_inv hlen
  rw [lenN_eq, VRs.len hargs] at hlen'
  have hnp' := ble_inv hnp
  refine Calls.mono (calls_of_wp (R := fun e w' => ∃ v, e = .returned v ∧ Fin ρ h w k r v w') hfn hbody ?_) (fun e w' he => ?_)
  · have A' : AR fm fn.ntmps ρ args [] [] { tmps := vs.toArray ++ Array.replicate (fn.ntmps - vs.toArray.size) undef, defers := [] } := by
      refine ⟨rfl, by simp; omega, fun t j hj => ?_, (fun t p hp => by simp [lk] at hp), (fun t j hj => by simp [lk] at hj), (fun t v hv => by simp [lk] at hv)⟩
      obtain ⟨h1, h2⟩ := hfr t j hj
      rcases Nat.lt_or_ge t vs.length with ht | ht
      · have e := h1 (by omega)
        subst e
        have := VRs.nth j hargs ht
        simp only [Array.getD_eq_getD_getElem?]
        rw [Array.getElem?_append_left (by simpa using ht)]
        simpa [List.getD] using this
      · have hjl : args.length ≤ j := by
          rw [VRs.len hargs]
          rcases Nat.lt_or_ge t (fn.params.size + fn.nfree) with h3 | h3
          · rw [h1 h3]; exact ht
          · have := h2 h3; omega
        rw [nthV_out args j hjl]
        exact trivial
    have fin : ∀ ρ' f' h' w' a', AR fm fn.ntmps ρ' f' [] [] a' → HR ρ' h' w' → Fr ρ h w ρ' h' w' → done rl k f' h' = some r → a'.defers = [] ∧ ∃ v, (results fn a'.tmps).run P w' = .ok v w' ∧ ∃ v', Ending.returned v = .returned v' ∧ Fin ρ h w k r v' w' := fun ρ' f' h' w' a' h1 h2 h3 h4 => by
      obtain ⟨l, vs', h5, h6, h7⟩ := res_ok h1 h2 hrl h4
      obtain ⟨v, h8, h9⟩ := tup_ok h6 h5
      refine ⟨h1.defers, _, ?_, _, rfl, ρ', v, h', h8, h9, h2, h3⟩
      unfold results
      have h10 := h7 #[]
      rw [Array.mapM_eq_foldlM, ← Array.foldlM_toList, Sem.run_bind]
      rw [Array.empty_append] at h10
      have e : (fn.results.toList.foldlM (fun (bs : Array Value) x => do pure (bs.push (← resF a'.tmps x))) (#[] : Array Value)).run P w' = .ok vs'.toArray w' := h10
      refine (congrArg (fun z => Result.andThen z _) (Eq.trans ?_ e)).trans ?_
      · congr 1
      · rfl
    refine code_ok hC hmix hinj ρ h w body cd hcd hcok ρ args h w _ (done rl k) (done rl k) (fun _ _ _ => none) _ pf_body A' H (Fr.refl ρ h w) hk1 (fun ρ' f' h' w' a' h1 h2 h3 h4 => ?_) (fun ρ' f' h' w' a' h1 h2 h3 h4 => ?_) (fun id ρ' f' h' w' a' h1 h2 h3 h4 => nN h4)
    · exact fin ρ' f' h' w' a' h1 h2 h3 h4
    · exact fin ρ' f' h' w' a' h1 h2 h3 h4
  · obtain ⟨v, rfl, hv⟩ := he
    exact hK v w' hv
theorem eval_ok {F : Nat → Option Fx} (hF : ∀ n x, F n = some x → Sound P n x) : ∀ fuel, CallOK P (evalC F fuel)
  | 0 => fun n args vs h w ρ k r hk => nN (show (none : A) = some r from hk)
  | fuel + 1 => fun n args vs h w ρ k r hk hargs H o a K Q hK => by
    have h1 : callC F (evalC F fuel) n args h k = some r := hk
    unfold callC at h1
    cases hx : F n with
    | none => rw [hx] at h1; exact nN h1
    | some x => rw [hx] at h1; exact hF n x hx _ (eval_ok hF fuel) args vs h w ρ k r h1 hargs H o a K Q hK
/-! ### Tables -/
theorem fOne_inv {k n : Nat} {x y : Fx} (h : fOne k x n = some y) : n = k ∧ y = x := by
  unfold fOne at h
  cases hb : Nat.beq n k with
  | true => rw [hb] at h; simp only [Option.some.injEq] at h; exact ⟨beq_inv hb, h.symm⟩
  | false => rw [hb] at h; cases h
theorem tab_no (n : Nat) (x : Fx) (h : fNo n = some x) : Sound P n x := by cases h
theorem tab_one {k : Nat} {x : Fx} (hs : Sound P k x) (n : Nat) (y : Fx) (h : fOne k x n = some y) : Sound P n y := by
  obtain ⟨rfl, rfl⟩ := fOne_inv h; exact hs
theorem tab_split {m : Nat} {a b : Nat → Option Fx} (ha : ∀ n x, a n = some x → Sound P n x) (hb : ∀ n x, b n = some x → Sound P n x) (n : Nat) (y : Fx) (h : fSplit m a b n = some y) : Sound P n y := by
  unfold fSplit at h
  cases hc : Nat.ble m n with
  | true => rw [hc] at h; exact hb n y h
  | false => rw [hc] at h; exact ha n y h
theorem fun_sound (hmix : P.follows .mixedOrders = true) {n : Nat} {u : Fu} (hf : (funV P n fm).map Fd.den = some u) : Sound P n (runF u) := by
  cases h : funV P n fm with
  | none => rw [h] at hf; cases hf
  | some fd =>
    rw [h] at hf
    simp only [Option.map_some, Option.some.injEq] at hf
    subst hf
    exact fun_ok hmix h
/-- A closed call that the evaluator answers. -/
theorem call_closed {F : Nat → Option Fx} (hF : ∀ n x, F n = some x → Sound P n x) {n : Nat} (hn : callOk P n = true) {v : V} {h' : Hp} {vs : List Value} {args : St} (ha : VRs (fun _ => none) args vs) (he : eval F n args ⟨[], .z⟩ = some (v, h')) (w : World) :
    Calls P n vs.toArray w (Ret fun vv w' => (∃ ρ, VR ρ v vv) ∧ Old w w') := by
  have H : HR (fun _ => none) ⟨[], .z⟩ w := ⟨(fun a q _ _ _ h => by cases h), (fun a q _ _ h => by cases h), (fun a a' q q' h => by cases h), (fun a q h => by cases h), (fun a q h => by cases h)⟩
  have h1 := eval_ok hF 64 n args vs ⟨[], .z⟩ w (fun _ => none) (fun v h' => some (v, h')) (v, h') he ha H ⟨some 0, .move (.tmp 0), 0, "", #[], none⟩ { tmps := #[undef], defers := [] }
    (fun a' w' => ∃ vv, a' = ({ tmps := #[undef], defers := [] } : Act).put (some 0) vv ∧ (∃ ρ, VR ρ v vv) ∧ Old w w') (fun _ _ _ => False) (fun vv w' hf => by
      obtain ⟨ρ', v', h2, h3, h4, _, h6⟩ := hf
      simp only [Option.some.injEq, Prod.mk.injEq] at h3
      obtain ⟨rfl, rfl⟩ := h3
      exact ⟨vv, rfl, ⟨ρ', h4⟩, h6.os, h6.tape, h6.output, h6.size, fun b hb => h6.keep b hb (fun a q h => by cases h)⟩)
  rw [run_callFunc_enter hn, Oper.upon_enter] at h1
  refine h1.mono fun e w' he' => ?_
  cases e with
  | returned vv =>
    obtain ⟨vv', e, h2⟩ := he'
    have : vv = vv' := by
      simp [Act.put] at e
      exact e
    subst this
    exact ⟨vv, rfl, h2⟩
  | panicked ch => exact he'.elim
  | outgrown => exact absurd he' (by intro h; unfold LetsOut at h; obtain ⟨_, _, h⟩ := h; exact h)
end
end Go.Ev
