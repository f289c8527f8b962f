/- The evaluator is right, twentieth part: regions that draw their order, the theorem. No condition. -/
import Derived.Test.YtlamohamhbhkjaaGreatDoorSj
namespace Go.Ev
open Go.RowKit Go.Eng

section
variable {P : Program} {ops : List Oper} {fm fc : List (Nat × Nat)} {nt : Nat} {M : List Nat} {ρ0 ρ : Rho} {h0 h : Hp} {w0 w : World} {f s : St} {L : Lm} {a : Act} {r : V × Hp} {c : Call} {k : Kn} {Z : List (Nat × Nat)} {pd : Pend} {lr : Array Bool} {ld : List Bool} {G : Nat → Nat} {Q : Exit → Act → World → Prop}
/-- Behind an operation of the plan, not a maker: what is kept. -/
theorem Inv.step (I : Inv P ops nt M ρ0 h0 w0 fc L Z pd lr ld G ρ h w f s a) (hns : Region.noSelect ops.toArray = true) {i : Nat} {x : Oper} (hx : nth ops i = some x) (hi : i ∈ rdy ops ld) (hiM : ∀ p, lk Z i ≠ some p)
    {L' : Lm} {ρ' : Rho} {h' : Hp} {w' : World} {f' s' : St} {v : Value} {pd' : Pend} {st : List Sp} {n n' : Nat} (hop : opS P fc ops x L n = some (st, L', n')) (hap : apartZ ops Z x = true) (hst : Stk s s')
    (A' : AR fc nt ρ' f' L' s' (a.put x.dst v)) (H' : HR ρ' h' w') (F' : Fr ρ h w ρ' h' w') (hpd : ∀ p ∈ pd', PendOK P ops (a.put x.dst v) p) (hpw : ∀ p ∈ pd', p.2 w') (hzp : ∀ z p o d, lk Z z = some p → nth ops z = some o → o.dst = some d → ∀ q ∈ pd', d ∉ slotsOf ops q.1) :
    Inv P ops nt M ρ0 h0 w0 fc L' Z pd' (lr.setIfInBounds i true) (ld.set i true) G ρ' h' w' f' s' (a.put x.dst v) := by
  obtain ⟨hn', ho'⟩ := opS_nm hop I.nm I.one
  have hun : lr.getD i true = false := by
    cases hh : lr.getD i true with
    | false => rfl
    | true =>
      rcases I.dn i hh with h1 | ⟨p, hp⟩
      · have := (ready_preds hi).1
        rw [toA, h1] at this; cases this
      · exact absurd hp (hiM p)
  have hlen : i < ld.length := by have := (ready_preds hi).2.1; rw [I.lsz]; exact this
  refine ⟨A', hn', ho', H', I.fr.trans F', hpd, hpw, fun z p hz => ?_, I.zap, I.zM, hzp, fun z p z' p' hz hz' hne hl hl' => ?_, by simp [I.sz], by simp [I.lsz], fun j hj => ?_, fun j hj => ?_, fun z p hz => ?_, I.cl.set (I.ready hi hun)⟩
  · have hzi : z ≠ i := fun e => by subst e; exact hiM p hz
    have hsel : ∀ o, nth ops z = some o → ∀ cs b, o.op ≠ .select cs b := fun o ho cs b => by
      have ho2 : ops.toArray[z]? = some o := by rw [nth_get] at ho; simpa using ho
      exact Region.noSelect_spec hns z o cs b ho2
    refine (I.zi z p hz).next (fun o d ho hd e1 e2 => ⟨e1, opS_lk hop e2 (fun e => ?_)⟩) hst F'.ext (getD_set_ne true (Ne.symm hzi)) rfl (fun _ o ho => ?_) (fun o d ho hd => ?_) (fun _ hlt hlv hle => ⟨F'.keep _ hlt hlv, fun b q hb hg e => ?_⟩)
    · exact (apart_sym (apZ hap hz ho)).2.1 d d hd e rfl
    · exact execOp_put o (hsel o ho) a _ _ (fun t e => (apart_sym (apZ hap hz ho)).1 t e)
    · cases hdx : x.dst with
      | none => rfl
      | some t => exact put_other ((apart_sym (apZ hap hz ho)).2.1 d t hd hdx)
    · obtain ⟨b0, q0, h1, h2, h3⟩ := F'.live b q hb hg (by rw [e]; exact hlt)
      exact hlv b0 q0 h1 h2 (h3.trans e)
  · have h1 : lr.getD z true = true := by
      rcases (getDa z i).1 hl with e | h
      · subst e; exact absurd hz (hiM p)
      · exact h
    have h2 : lr.getD z' true = true := by
      rcases (getDa z' i).1 hl' with e | h
      · subst e; exact absurd hz' (hiM p')
      · exact h
    exact I.gd z p z' p' hz hz' hne h1 h2
  · rcases (getDl hlen j).1 hj with e | h
    · exact (getDa j i).2 (.inl e)
    · exact (getDa j i).2 (.inr (I.up j h))
  · rcases (getDa j i).1 hj with e | h
    · exact .inl ((getDl hlen j).2 (.inl e))
    · rcases I.dn j h with h | h
      · exact .inl ((getDl hlen j).2 (.inr h))
      · exact .inr h
  · have h1 := I.zl z p hz
    cases hh : (ld.set i true).getD z true with
    | false => rfl
    | true =>
      rcases (getDl hlen z).1 hh with e | h
      · subst e; exact absurd hz (hiM p)
      · rw [h] at h1; cases h1
theorem put_self {d : Nat} (hd : d < a.tmps.size) : a.put (some d) (a.tmps.getD d undef) = a := by
  unfold Act.put
  have : a.tmps.setIfInBounds d (a.tmps.getD d undef) = a.tmps := by
    apply Array.ext_getElem?
    intro i
    by_cases e : d = i
    · subst e; simp [hd]
    · rw [Array.getElem?_setIfInBounds_ne e]
  simp only [this]
/-- A maker's cells. -/
theorem fill_inv (A' : AR fc nt ρ f L s a) {op : Op} {i : Ins} {k' : Cn} (hi : fillI P (ofO fc L s.length) op = some i) (hk : i.den c f s h k' = some r) : ∃ cs vs, k' (.g cs) h = some r ∧ CRs ρ cs vs ∧
    ∀ o : Oper, o.op = op → ∀ w', (execOp a.eval o).run P w' = .ok (.value (mkVal op w'.heap.size)) (w'.alloc (.cells vs.toArray (mkTy P op))) := by
  unfold fillI at hi
  split at hi
  · rename_i t
    split at hi
    case h_2 => cases hi
    rename_i z hz
    simp only [Option.some.injEq] at hi
    subst hi
    obtain ⟨inf, zv, h1, h2, h3⟩ := zeroV_inv hz ρ
    refine ⟨z, zv.cells.toList, hk, h3, fun o ho w' => ?_⟩
    simp [execOp, ho, Instr.alloc, zeroValue, typeInfo, h1, h2, newVar, newRow, mkVal, mkTy]
  · rename_i t x
    split at hi
    case h_2 => cases hi
    rename_i p hp
    simp only [Option.some.injEq] at hi
    subst hi
    obtain ⟨cs, vs, h1, h2, h3⟩ := cells_inv (A'.opd hp) (show cellsC (oV p f s) (fun l => k' (.g l) h) = some r from hk)
    refine ⟨cs, vs, h1, h2, fun o ho w' => ?_⟩
    simp [execOp, ho, Instr.box, newVar, newRow, h3, mkVal, mkTy]
  · rename_i t len ps
    split at hi
    case h_2 => cases hi
    rename_i el he
    split at hi
    case h_2 => cases hi
    rename_i n z hz
    split at hi
    case h_2 => cases hi
    rename_i hsm
    split at hi
    case h_2 => cases hi
    rename_i qs hqs
    simp only [Option.some.injEq] at hi
    subst hi
    have hu := sliceEl_inv he
    obtain ⟨inf, zv, hinf, hzv, hsz, hn0, _, hzs, hzl, hcz, hs⟩ := elemV_inv hz ρ
    have hcz' := CRs.rep hcz len
    rw [← repV_eq] at hcz'
    obtain ⟨z', zl', h1, h2, h3, h4⟩ := fillC_inv (P := P) A' (partsL_ok hqs) hcz' hk
    refine ⟨z', zl', h1, h2, fun x hx w => ?_⟩
    have hnot : ¬ (len * n > 2 ^ 24) := by have := ble_inv hsm; omega
    have hr : (Instr.buildSlice t len (ps.map fun x => (x.1, a.eval x.2)).toArray).run P w = .ok (.slice (some ⟨w.heap.size, 0, none⟩) len len) (w.alloc (.cells zl'.toArray el)) := by
      unfold Instr.buildSlice
      simp only [Sem.run_bind, run_underlying hu w, Result.andThen_ok, size_run hs w, hnot, if_false]
      have hcyc := cyc_list zv.cells (by rw [hzs]; exact hn0) len
      rw [hzs] at hcyc
      have e : ∀ za : Array Value, (len * n ≠ 0 → za = zv.cells) → Instr.fill (fun i => some (i * n, n)) ((Array.range (len * n)).map (za[· % za.size]!)) (ps.map fun x => (x.1, a.eval x.2)) = some zl'.toArray := fun za hza => by
        by_cases h0 : len * n = 0
        · have : len = 0 := by rcases Nat.mul_eq_zero.1 h0 with h | h; exact h; omega
          subst this
          rw [Nat.zero_mul]
          have e0 : Array.range 0 = #[] := rfl
          rw [e0]
          simpa using h4
        · rw [hza h0, hzs]
          rw [← h4]
          congr 1
          apply Array.toList_inj.1
          rw [hcyc]
      by_cases h0 : len * n = 0
      · simp only [h0, if_true]
        have := e #[] (fun hh => absurd h0 hh)
        simp only [h0] at this
        rw [Sem.run_bind]
        simp only [Sem.run_pure, Result.andThen_ok]
        rw [this]
        simp [newRow]
      · simp only [h0, if_false]
        have hz' : (zeroValue el).run P w = .ok zv w := by simp [zeroValue, typeInfo, hinf, hzv]
        rw [Sem.run_bind, hz']
        simp only [Result.andThen_ok, Sem.run_pure]
        rw [Sem.run_bind]
        simp only [Sem.run_pure, Result.andThen_ok]
        rw [e zv.cells (fun _ => rfl)]
        simp [newRow]
    have hty : mkTy P (.buildSlice t len ps.toArray) = el := by simp [mkTy, he]
    rw [hty]
    simp only [execOp, hx, List.map_toArray]
    rw [show List.map (fun x : Nat × Operand => match x with | (i, x) => (i, a.eval x)) ps = (ps.map fun x => (x.1, a.eval x.2)) from rfl, Sem.run_bind, hr]
    rfl
  · cases hi
/-- A maker's block gets its name. -/
theorem make_inv {op : Op} {i : Ins} {k' : Cn} {o : O} {cs : List C} {vs : List Value} {g : Nat} (hi : makeI P o op = some i) (hk : i.den c f s h k' = some r) (ho : oV o f s = .g cs) :
    ∃ ty v, k' v ⟨inc h.n, hput h.n (.c ty true cs) h.m⟩ = some r ∧ VR (up ρ h.n ⟨g, 0, vs.length⟩) v (mkVal op g) := by
  have ptr : ∀ t, k' (vP h.n 0) ⟨inc h.n, hput h.n (.c t true cs) h.m⟩ = some r → mkVal op g = .pointer (some ⟨g, 0, none⟩) → ∃ ty v, k' v ⟨inc h.n, hput h.n (.c ty true cs) h.m⟩ = some r ∧ VR (up ρ h.n ⟨g, 0, vs.length⟩) v (mkVal op g) := fun t h1 e =>
    ⟨t, _, h1, by rw [e]; exact up_ptr ρ h.n ⟨g, 0, vs.length⟩ 0⟩
  cases op <;> simp only [makeI] at hi
  case alloc t =>
    simp only [Option.some.injEq] at hi
    subst hi
    have h1 : toG (oV o f s) (fun l => newC h (.c t true l) (fun a h' => k' (vP a 0) h')) = some r := hk
    rw [ho] at h1
    exact ptr t h1 rfl
  case box t x =>
    simp only [Option.some.injEq] at hi
    subst hi
    have h1 : toG (oV o f s) (fun l => newC h (.c t true l) (fun a h' => k' (vP a 0) h')) = some r := hk
    rw [ho] at h1
    exact ptr t h1 rfl
  case buildSlice t len ps =>
    split at hi
    case h_2 => cases hi
    rename_i el he
    simp only [Option.some.injEq] at hi
    subst hi
    have h1 : toG (oV o f s) (fun l => newC h (.c el true l) (fun a h' => k' (.c (.o (.sl a 0 len len))) h')) = some r := hk
    rw [ho] at h1
    exact ⟨el, _, h1, ⟨_, up_same ρ h.n _, rfl, Nat.le_refl _⟩⟩
  all_goals cases hi
theorem lk_cons_none {α : Type} {d t : Nat} {v : α} {l : List (Nat × α)} (h : lk l t = none) (hne : t ≠ d) : lk ((d, v) :: l) t = none := by rw [lk_cons, if_neg hne]; exact h
set_option maxHeartbeats 1000000 in
theorem regD_ok (hC : CallOK P c) (hns : Region.noSelect ops.toArray = true) (hd : dstsOk nt ops = true) (hQp : PanicFree Q) (hM : ∀ m ∈ M, makes ops m = true) (hinj : Inj fm)
    (hQ : ∀ ρ' f' s' h' w' a', k f' s' h' = some r → AR fm nt ρ' f' [] [] a' → HR ρ' h' w' → Fr ρ0 h0 w0 ρ' h' w' → Q .normal a' w') :
    ∀ (m : Nat) (plan : List Pi) (fc : List (Nat × Nat)) (L : Lm) (sps : List Sp) (ρ : Rho) (f s : St) (h : Hp) (w : World) (a : Act) (Z : List (Nat × Nat)) (pd : Pend) (lr : Array Bool) (ld : List Bool) (G : Nat → Nat) (fuel : Nat),
      plan.length + fuel ≤ m → regD P fm ops M plan fc L s.length ld Z (pd.map Prod.fst) = some sps → Inv P ops nt M ρ0 h0 w0 fc L Z pd lr ld G ρ h w f s a → (∀ t j, lk fc t = some j → lk fm t = some j) → regC (dens sps) c f s h k = some r → fuel = unl lr ops.length → wpS P ops Q (SP P ops pd) fuel lr a w := by
  intro m
  induction m with
  | zero =>
    intro plan fc L sps ρ f s h w a Z pd lr ld G fuel hm hs I hsub hk hf
    have hp : plan = [] := List.eq_nil_of_length_eq_zero (by omega)
    subst hp
    simp only [regD] at hs
    split at hs
    case h_2 => cases hs
    rename_i hb
    simp only [Option.some.injEq] at hs
    subst hs
    simp only [Bool.and_eq_true] at hb
    have hall : ∀ j, lr.getD j true = true := fun j => I.up j (by
      rcases Nat.lt_or_ge j ld.length with h | h
      · have := List.all_eq_true.1 hb.1 ld[j] (List.getElem_mem h)
        simp only [id_eq] at this
        simp [List.getD, h, this]
      · simp [List.getD, List.getElem?_eq_none h])
    have hr : Region.ready .any ops.toArray lr = [] := by
      cases hh : Region.ready .any ops.toArray lr with
      | nil => rfl
      | cons i l =>
        have := (ready_preds (show i ∈ Region.ready .any ops.toArray lr by rw [hh]; simp)).1
        rw [hall i] at this; cases this
    have hfuel : fuel = 0 := by omega
    subst hfuel
    have hA : AR fm nt ρ f [] [] a := by
      have A' := I.ar.base
      refine ⟨A'.defers, A'.size, fun t j hj => ?_, fun t p hp => by simp [lk] at hp, fun t j hj => by simp [lk] at hj, fun t v hv => by simp [lk] at hv⟩
      have h1 := List.all_eq_true.1 hb.2 (t, j) (lk_mem hj)
      simp only at h1
      split at h1
      · rename_i j' hj'; rw [beq_inv h1] at hj'; exact A'.fr t j hj'
      · cases h1
    exact ⟨hr, hQ ρ f s h w a hk hA I.hr I.fr⟩
  | succ m ih =>
    intro plan fc L sps ρ f s h w a Z pd lr ld G fuel hm hs I hsub hk hf
    -- a maker comes up early
    have early : ∀ {i p : Nat}, i ∈ Region.ready .any ops.toArray lr → lk Z i = some p → ∀ fuel', fuel = fuel' + 1 → wpOp P ops.toArray Q i (fun a' w' => SP P ops pd (lr.setIfInBounds i true) w' ∧ wpS P ops Q (SP P ops pd) fuel' (lr.setIfInBounds i true) a' w') a w := fun {i p} hi hp fuel' hfe => by
      refine I.early hns hd hi hp fun a' w' G' I' => ⟨fun q hq => .inr (I'.pw q hq), ih plan fc L sps ρ f s h w' a' Z pd _ ld G' fuel' (by omega) hs I' hsub hk ?_⟩
      have := unl_set (ready_preds hi).1 (ready_preds hi).2.1
      omega
    cases plan with
    | nil =>
      simp only [regD] at hs
      split at hs
      case h_2 => cases hs
      rename_i hb
      simp only [Option.some.injEq] at hs
      subst hs
      simp only [Bool.and_eq_true] at hb
      have hall : ∀ j, lr.getD j true = true := fun j => I.up j (by
        rcases Nat.lt_or_ge j ld.length with h | h
        · have := List.all_eq_true.1 hb.1 ld[j] (List.getElem_mem h)
          simp only [id_eq] at this
          simp [List.getD, h, this]
        · simp [List.getD, List.getElem?_eq_none h])
      have hr : Region.ready .any ops.toArray lr = [] := by
        cases hh : Region.ready .any ops.toArray lr with
        | nil => rfl
        | cons i l =>
          have := (ready_preds (show i ∈ Region.ready .any ops.toArray lr by rw [hh]; simp)).1
          rw [hall i] at this; cases this
      have hA : AR fm nt ρ f [] [] a := by
        have A' := I.ar.base
        refine ⟨A'.defers, A'.size, fun t j hj => ?_, fun t p hp => by simp [lk] at hp, fun t j hj => by simp [lk] at hj, fun t v hv => by simp [lk] at hv⟩
        have h1 := List.all_eq_true.1 hb.2 (t, j) (lk_mem hj)
        simp only at h1
        split at h1
        · rename_i j' hj'; rw [beq_inv h1] at hj'; exact A'.fr t j hj'
        · cases h1
      have hq := hQ ρ f s h w a hk hA I.hr I.fr
      cases fuel with
      | zero => exact ⟨hr, hq⟩
      | succ n => exact ⟨fun _ => hq, fun i hi => by rw [hr] at hi; cases hi⟩
    | cons pi plan =>
      simp only [List.length_cons] at hm
      cases pi with
      | q i =>
        simp only [regD] at hs
        split at hs
        case h_2 => cases hs
        rename_i x hx
        split at hs
        case h_2 => cases hs
        rename_i hb
        simp only [Bool.and_eq_true] at hb
        obtain ⟨⟨⟨⟨⟨hq1, hq2⟩, hqok⟩, hapz⟩, hkp⟩, hself⟩ := hb
        split at hs
        case h_2 => cases hs
        rename_i st L' n' hop
        split at hs
        case h_2 => cases hs
        rename_i l hl
        simp only [Option.some.injEq] at hs
        subst hs
        simp only [qOk, Bool.and_eq_true] at hqok
        obtain ⟨⟨_, hfree⟩, hrdy⟩ := hqok
        have hrd : i ∈ rdy ops ld := by simpa using hrdy
        have hxa : ops.toArray[i]? = some x := by rw [nth_get] at hx; simpa using hx
        have hqa : quietAt P ops i = true := by unfold quietAt; rw [hx]; exact hq1
        have hiM : ∀ p, lk Z i ≠ some p := fun p hp => by
          have h1 := I.zM i p hp
          have := makes_loud (P := P) (hM i (by simpa using h1))
          rw [hqa] at this; cases this
        have hun : lr.getD i true = false := by
          cases hh : lr.getD i true with
          | false => rfl
          | true =>
            rcases I.dn i hh with h1 | ⟨p, hp⟩
            · have := (ready_preds hrd).1
              rw [toA, h1] at this; cases this
            · exact absurd hp (hiM p)
        have hready := I.ready hrd hun
        have hu := unl_set hun (ready_preds hrd).2.1
        obtain ⟨fuel', rfl⟩ : ∃ n, fuel = n + 1 := ⟨fuel - 1, by omega⟩
        have hfree' : ∀ j oj, ops.toArray[j]? = some oj → j ≠ i → lr.getD j true = false → (∀ e ∈ oj.after, Region.binds .any e = true → e.on ≠ i) → x.apart ops.toArray oj = true := fun j oj hoj hne hlj hno =>
          Region.free_spec hxa hfree j oj hoj hne (by
            rw [toA]
            cases hh : ld.getD j true with
            | false => rfl
            | true => rw [I.up j hh] at hlj; cases hlj) hno
        have hdx : ∀ d, x.dst = some d → d < nt := fun d e => by simpa [Nat.blt_eq] using dstsOk_nth hd i x hx d e
        have hzpx : ∀ z p o d, lk Z z = some p → nth ops z = some o → o.dst = some d → d ∉ slotsOf ops i := fun z p o d hz ho hd' hmem => by
          obtain ⟨e1, e2, e3⟩ := apart_sym (apZ hapz hz ho)
          simp only [slotsOf, hx, List.mem_append, Option.mem_toList] at hmem
          rcases hmem with hmem | hmem
          · exact e3 d hd' hmem
          · exact e2 d d hd' hmem rfl
        have hpdput : ∀ v, ∀ p ∈ pd, PendOK P ops (a.put x.dst v) p := fun v p hp => (I.pend p hp).put (keepsP_put hkp (List.mem_map.2 ⟨p, hp, rfl⟩))
        -- the end of each way
        have go : ∀ (T : World → Prop) (v : Value) (pd' : Pend) (f' s' : St), s'.length = n' → Stk s s' → AR fc nt ρ f' L' s' (a.put x.dst v) → regC (dens l) c f' s' h k = some r → YieldsIf P ops.toArray T x v a → T w →
            ((pd' = pd ∧ ∀ w, T w) ∨ pd' = (i, T) :: pd) → pd'.map Prod.fst = (match rdK P x.op with | some _ => i :: pd.map Prod.fst | none => pd.map Prod.fst) → (∀ p ∈ pd', PendOK P ops (a.put x.dst v) p) → wpS P ops Q (SP P ops pd) (fuel' + 1) lr a w := fun T v pd' f' s' hlen hst A' hk' hy hT hpd' hmap hpok => by
          have hpw : ∀ p ∈ pd', p.2 w := fun p hp => by
            rcases hpd' with ⟨rfl, _⟩ | rfl
            · exact I.pw p hp
            · rcases List.mem_cons.1 hp with rfl | hp
              · exact hT
              · exact I.pw p hp
          have I' := I.step hns hx hrd hiM hop hapz hst A' I.hr (Fr.refl ρ h w) hpok hpw (fun z p o d hz ho hd' q hq => by
            rcases hpd' with ⟨rfl, _⟩ | rfl
            · exact I.zp z p o d hz ho hd' q hq
            · rcases List.mem_cons.1 hq with rfl | hq
              · exact hzpx z p o d hz ho hd'
              · exact I.zp z p o d hz ho hd' q hq)
          have hih := ih plan fc L' l ρ f' s' h w _ Z pd' _ _ G fuel' (by omega) (by rw [hlen, hmap]; exact hl) I' hsub hk' (by omega)
          have hex : wpS P ops Q (SP P ops ((i, T) :: pd)) fuel' (lr.setIfInBounds i true) (a.put x.dst v) w := by
            rcases hpd' with ⟨rfl, hTt⟩ | rfl
            · refine wpS_drop _ _ _ _ (fun l' _ w' hS p hp => ?_) hih
              rcases List.mem_cons.1 hp with rfl | hp
              · exact .inr (hTt w')
              · exact hS p hp
            · exact hih
          have hQ' : ∀ c' a' w', Q (.panic c') (a'.put x.dst v) w' → Q (.panic c') a' w' := fun c' a' w' hq => hQp c' _ a' w' (by cases x.dst <;> rfl) hq
          have := take_q (pd := (i, T) :: pd) hxa (Region.noSelect_spec hns) hQ' hqa (by simp) fuel' lr a w hfree' hready I.cl hy hT (fun p hp => .inr (by
            rcases List.mem_cons.1 hp with rfl | hp
            · exact hT
            · exact I.pw p hp)) hex
          exact wpS_drop _ _ _ _ (fun l' _ w' hS p hp => hS p (by simp [hp])) this
        rcases opS_ok hop I.ar I.nm I.one hdx hk with ⟨hw, k', h1, h2⟩ | ⟨hw, f', s', h1, hst, h2, h3⟩
        · cases hmv : unmv x.op with
          | some y =>
            obtain ⟨v, h3, h4⟩ := mov_den hmv I.ar h1
            obtain ⟨f', s', h5, hst, h6, h7⟩ := h2 ρ v h _ h3 h4 (Ext.refl ρ) (fun z hz => by rw [hmv, Option.some.injEq] at hz; rw [hz])
            exact go (fun _ => True) _ pd f' s' h5 hst h6 h7 (.inl ⟨hw, fun w' _ => mov_run hmv w'⟩) trivial (.inl ⟨rfl, fun _ => trivial⟩) (by rw [mv_rdK hmv]) (hpdput _)
          | none =>
            have nomv : ∀ vv y, unmv x.op = some y → vv = a.eval y := fun vv y hy => by rw [hmv] at hy; cases hy
            cases hrk : rdK P x.op with
            | none =>
              have hres := op_res (kd := (opV P (ofO fc L s.length) x.op).1) (i := (opV P (ofO fc L s.length) x.op).2) I.ar rfl I.hr h1
              cases hres with
              | pure v vv hkd h3 h4 h5 =>
                obtain ⟨f', s', h6, hst, h7, h8⟩ := h2 ρ v h vv h3 h4 (Ext.refl ρ) (nomv vv)
                exact go (fun _ => True) vv pd f' s' h6 hst h7 h8 (.inl ⟨hw, fun w' _ => h5 x rfl w'⟩) trivial (.inl ⟨rfl, fun _ => trivial⟩) (by rw [hrk]) (hpdput _)
              | read rk y p uw v hkd hi h3 h4 h5 h6 => rw [op_rdK h6] at hrk; cases hrk
              | loud hkd h3 => rw [hkd] at hq2; cases hq2
              | call n args vs hkd h3 h4 h5 => rw [hkd] at hq2; cases hq2
            | some ry =>
              obtain ⟨rk, y⟩ := ry
              obtain ⟨hro, hmem⟩ := rdK_op hrk
              obtain ⟨p, hp, h3⟩ := rd_den hro I.ar h1
              obtain ⟨v, h4, h5⟩ := rd_inv I.hr (I.ar.opd hp) h3
              obtain ⟨vv, h6, h7⟩ := h5.reads I.hr (I.ar.opd hp)
              obtain ⟨f', s', h8, hst, h9, h10⟩ := h2 ρ v h vv h4 h6 (Ext.refl ρ) (nomv vv)
              have hdst : ∃ d, x.dst = some d := by
                cases hdd : x.dst with
                | some d => exact ⟨d, rfl⟩
                | none =>
                  exfalso
                  -- a reading that answers nobody is not in the plan's pending rows: look up its slot fails later; here it can be kept out
                  exact absurd hself (by simp [selfOk, hdd, hrk])
              obtain ⟨d, hdst⟩ := hdst
              have hdl : d ∉ x.looksAt ops.toArray := by
                simp only [selfOk, hdst, Bool.not_eq_true'] at hself
                intro hm'
                have : (x.looksAt ops.toArray).contains d = true := by simpa using hm'
                rw [this] at hself; cases hself
              have hev : (a.put x.dst vv).eval y = a.eval y := Act.eval_put fun t e ey => by
                rw [hdst, Option.some.injEq] at e
                subst e
                refine hdl ?_
                unfold Oper.looksAt
                rw [ey] at hmem
                exact List.mem_append_left _ (List.mem_filterMap.2 ⟨.tmp d, by simpa using hmem, rfl⟩)
              have htm : (a.put x.dst vv).tmps.getD d undef = vv := by
                rw [hdst, put_get (by rw [I.ar.size]; exact hdx d hdst)]; simp
              have hwp : Region.wanted x (yielded ops.toArray (a.put x.dst vv).tmps) = true := by
                rw [wanted_put x a x.dst vv (fun t e => by rw [hdst, Option.some.injEq] at e; subst e; exact hdl)]; exact hw
              exact go (Reads rk (a.eval y) vv) vv ((i, Reads rk (a.eval y) vv) :: pd) f' s' h8 hst h9 h10 (.inl ⟨hw, fun w' hw' => hw'.run hro x rfl⟩) h7 (.inr rfl) (by rw [hrk]; rfl) (fun p' hp' => by
                rcases List.mem_cons.1 hp' with rfl | hp'
                · exact ⟨x, d, rk, y, hx, hdst, hro, (fun hm' => hdl (by unfold Oper.looksAt; exact List.mem_append_left _ (List.mem_filterMap.2 ⟨.tmp d, by simpa using hm', rfl⟩))), hmem, .inl ⟨hwp, by rw [hev, htm]⟩⟩
                · exact hpdput _ p' hp')
        · have hyield : YieldsIf P ops.toArray (fun _ => True) x undef a := .inr ⟨hw, rfl⟩
          cases hrk : rdK P x.op with
          | none => exact go (fun _ => True) undef pd f' s' h1 hst h2 h3 hyield trivial (.inl ⟨rfl, fun _ => trivial⟩) (by rw [hrk]) (hpdput _)
          | some ry =>
            obtain ⟨rk, y⟩ := ry
            obtain ⟨hro, hmem⟩ := rdK_op hrk
            have hdst : ∃ d, x.dst = some d := by
              cases hdd : x.dst with
              | some d => exact ⟨d, rfl⟩
              | none => exact absurd hself (by simp [selfOk, hdd, hrk])
            obtain ⟨d, hdst⟩ := hdst
            have hdl : d ∉ x.looksAt ops.toArray := by
              simp only [selfOk, hdst, Bool.not_eq_true'] at hself
              intro hm'
              have : (x.looksAt ops.toArray).contains d = true := by simpa using hm'
              rw [this] at hself; cases hself
            have hwp : Region.wanted x (yielded ops.toArray (a.put x.dst undef).tmps) = false := by
              rw [wanted_put x a x.dst undef (fun t e => by rw [hdst, Option.some.injEq] at e; subst e; exact hdl)]; exact hw
            exact go (fun _ => True) undef ((i, fun _ => True) :: pd) f' s' h1 hst h2 h3 hyield trivial (.inr rfl) (by rw [hrk]; rfl) (fun p' hp' => by
              rcases List.mem_cons.1 hp' with rfl | hp'
              · exact ⟨x, d, rk, y, hx, hdst, hro, (fun hm' => hdl (by unfold Oper.looksAt; exact List.mem_append_left _ (List.mem_filterMap.2 ⟨.tmp d, by simpa using hm', rfl⟩))), hmem, .inr ⟨hwp, rfl⟩⟩
              · exact hpdput _ p' hp')
      | l j =>
        simp only [regD] at hs
        split at hs
        case h_2 => cases hs
        rename_i x hx
        split at hs
        case h_2 => cases hs
        rename_i hb
        simp only [Bool.and_eq_true] at hb
        obtain ⟨⟨⟨hlok, hloud⟩, hapz⟩, hkp⟩ := hb
        split at hs
        case h_2 => cases hs
        rename_i st L' n' hop
        split at hs
        case h_2 => cases hs
        rename_i ag hag
        split at hs
        case h_2 => cases hs
        rename_i l hl
        simp only [Option.some.injEq] at hs
        subst hs
        simp only [lOk, Bool.and_eq_true] at hlok
        obtain ⟨⟨⟨hrdy, hnM⟩, hall⟩, hmok⟩ := hlok
        have hrd : j ∈ rdy ops ld := by simpa using hrdy
        have hjM : j ∉ M := fun hm' => by
          have : M.contains j = true := by simpa using hm'
          rw [this] at hnM; cases hnM
        have hiM : ∀ p, lk Z j ≠ some p := fun p hp => hjM (by simpa using I.zM j p hp)
        have hxa : ops.toArray[j]? = some x := by rw [nth_get] at hx; simpa using hx
        have hla : quietAt P ops j = false := by unfold quietAt; rw [hx]; simpa using hloud
        have hun : lr.getD j true = false := by
          cases hh : lr.getD j true with
          | false => rfl
          | true =>
            rcases I.dn j hh with h1 | ⟨p, hp⟩
            · have := (ready_preds hrd).1
              rw [toA, h1] at this; cases this
            · exact absurd hp (hiM p)
        have hready := I.ready hrd hun
        have hu := unl_set hun (ready_preds hrd).2.1
        obtain ⟨fuel', rfl⟩ : ∃ n, fuel = n + 1 := ⟨fuel - 1, by omega⟩
        have hdx : ∀ d, x.dst = some d → d < nt := fun d e => by simpa [Nat.blt_eq] using dstsOk_nth hd j x hx d e
        refine ⟨fun hh => (by rw [hh] at hready; cases hready), fun i hi => ?_⟩
        by_cases hij : i = j
        · subst hij
          -- the readings that are left
          let pd' : Pend := pd.filter fun p => !((ancsOf ops i).contains p.1)
          have hmap : pd'.map Prod.fst = (pd.map Prod.fst).filter fun q => !((ancsOf ops i).contains q) := by
            show (pd.filter _).map Prod.fst = _
            rw [List.filter_map]
            rfl
          have hsubp : ∀ p ∈ pd', p ∈ pd := fun p hp => (List.mem_filter.1 hp).1
          have hout : ∀ p ∈ pd, p ∉ pd' → Anc ops p.1 i := fun p hp hnp => by
            refine ancsOf_sound ?_
            have : (ancsOf ops i).contains p.1 = true := by
              cases hh : (ancsOf ops i).contains p.1 with
              | true => rfl
              | false => exact absurd (List.mem_filter.2 ⟨hp, by rw [hh]; rfl⟩) hnp
            simpa using this
          have fin : ∀ (ρ' : Rho) (f' s' : St) (h' : Hp) (w' : World) (vv : Value), s'.length = n' → Stk s s' → AR fc nt ρ' f' L' s' (a.put x.dst vv) → HR ρ' h' w' → Fr ρ h w ρ' h' w' → regC (dens (ag ++ l)) c f' s' h' k = some r →
              SP P ops pd (lr.setIfInBounds i true) w' ∧ wpS P ops Q (SP P ops pd) fuel' (lr.setIfInBounds i true) (a.put x.dst vv) w' := fun ρ' f' s' h' w' vv hlen hst A' H' F' hk' => by
            have hpok : ∀ p ∈ pd', PendOK P ops (a.put x.dst vv) p := fun p hp => (I.pend p (hsubp p hp)).put (keepsP_put hkp (by
              rw [← hmap]; exact List.mem_map.2 ⟨p, hp, rfl⟩))
            obtain ⟨hpw, hk''⟩ := agS_ok (l := l) (k := k) A' H' pd' ag (by rw [hmap, hlen]; exact hag) hpok hk'
            have I' := I.step hns hx hrd hiM hop hapz hst A' H' F' hpok hpw (fun z p o d hz ho hd' q hq => I.zp z p o d hz ho hd' q (hsubp q hq))
            have hih := ih plan fc L' l ρ' f' s' h' w' _ Z pd' _ _ G fuel' (by omega) (by rw [hlen, hmap]; exact hl) I' hsub hk'' (by omega)
            have hjl : (lr.setIfInBounds i true).getD i false = true := getD_set_same (unl_size hun) false
            refine ⟨fun p hp => ?_, wpS_drop _ _ _ _ (fun l' hl' w'' hS p hp => ?_) hih⟩
            · by_cases hin : p ∈ pd'
              · exact .inr (hpw p hin)
              · exact .inl ⟨i, hla, hjl, hout p hp hin⟩
            · by_cases hin : p ∈ pd'
              · exact hS p hin
              · exact .inl ⟨i, hla, hl' i hjl, hout p hp hin⟩
          unfold wpOp
          rw [hxa]
          simp only
          rcases opS_ok hop I.ar I.nm I.one hdx hk with ⟨hw, k', h1, h2⟩ | ⟨hw, f', s', h1, hst, h2, h3⟩
          · rw [if_pos hw]
            exact .inl (opS_wp (ops := ops) hC I.ar I.hr h1 h2 fun ρ' f' s' h' w' vv h3 hst h4 h5 h6 h7 => fin ρ' f' s' h' w' vv h3 hst h4 h5 h6 h7)
          · rw [hw]
            simp only [Bool.false_eq_true, if_false]
            exact fin ρ f' s' h w undef h1 hst h2 I.hr (Fr.refl _ _ _) h3
        · have hiMm : i ∈ M := by
            cases hh : M.contains i with
            | true => simpa using hh
            | false =>
              have hni : i ∉ M := fun hm' => by
                have : M.contains i = true := by simpa using hm'
                rw [this] at hh; cases hh
              have h1 := I.back hi hni (fun z p hz _ => by simpa using I.zM z p hz)
              have h2 := List.all_eq_true.1 hall i h1
              simp only [Bool.or_eq_true] at h2
              rcases h2 with h2 | h2
              · exact absurd (beq_inv h2) hij
              · simpa using h2
          obtain ⟨p, hp⟩ := I.known hi hiMm hmok
          exact early hi hp fuel' rfl
      | f z =>
        simp only [regD] at hs
        split at hs
        case h_2 => cases hs
        rename_i x hx
        split at hs
        case h_2 => cases hs
        rename_i hb
        simp only [Bool.and_eq_true] at hb
        obtain ⟨⟨⟨⟨⟨hmk, hMz⟩, hlz⟩, hnone⟩, hapz⟩, hkp⟩ := hb
        split at hs
        case h_2 => cases hs
        rename_i d hdst
        split at hs
        case h_2 => cases hs
        rename_i ins hfill
        split at hs
        case h_2 => cases hs
        rename_i l hl
        simp only [Option.some.injEq] at hs
        subst hs
        have hzn : lk Z z = none := by
          cases hh : lk Z z with
          | none => rfl
          | some p => rw [hh] at hnone; cases hnone
        have hlf : ld.getD z true = false := by
          cases hh : ld.getD z true with
          | false => rfl
          | true => rw [hh] at hlz; cases hlz
        have hun : lr.getD z true = false := by
          cases hh : lr.getD z true with
          | false => rfl
          | true =>
            rcases I.dn z hh with h1 | ⟨p, hp⟩
            · rw [h1] at hlf; cases hlf
            · rw [hzn] at hp; cases hp
        have hguard : x.guard = none := by
          unfold makes at hmk
          rw [hx] at hmk
          simp only [Bool.and_eq_true] at hmk
          have h1 := hmk.1.2
          split at h1
          · rename_i e; exact e
          · cases h1
        obtain ⟨cs, vs, h1, h2, h3⟩ := fill_inv (k' := fun v h' => regC (dens l) c f (v :: s) h' k) I.ar hfill hk
        have hk' : regC (dens l) c f (V.g cs :: s) h k = some r := h1
        refine ih plan (dropK d fc) (dropK d L) l ρ f (V.g cs :: s) h w a ((z, s.length) :: Z) pd lr ld G fuel (by omega) (by simpa using hl) ?_ (fun t j hj => by rw [lk_dropK] at hj; split at hj; cases hj; exact hsub t j hj) hk' hf
        have hzc : ∀ y p, lk ((z, s.length) :: Z) y = some p → (y = z ∧ p = s.length) ∨ (y ≠ z ∧ lk Z y = some p) := fun y p hy => by
          rw [lk_cons] at hy
          split at hy
          · rename_i e; simp only [Option.some.injEq] at hy; exact .inl ⟨e, hy.symm⟩
          · rename_i e; exact .inr ⟨e, hy⟩
        refine ⟨(I.ar.dropK d).push' _, I.nm.dropK d, I.one.dropK, I.hr, I.fr, I.pend, I.pw, fun y p hy => ?_, fun y p y' p' o o' hy hy' hne ho ho' => ?_, fun y p hy => ?_, fun y p o d' hy ho hd' q hq => ?_, fun y p y' p' hy hy' hne hl1 hl2 => ?_, I.sz, I.lsz, I.up, fun j hj => ?_, fun y p hy => ?_, I.cl⟩
        · rcases hzc y p hy with ⟨rfl, rfl⟩ | ⟨hne, hy'⟩
          · refine ⟨x, d, cs, vs, hx, hdst, hguard, by rw [lk_dropK]; simp, by rw [lk_dropK]; simp, by simp, ?_, h2, fun _ w' => h3 x rfl w', fun hh => by rw [hun] at hh; cases hh⟩
            rw [List.length_cons, Nat.add_sub_cancel, Nat.sub_self]
            rfl
          · refine (I.zi y p hy').next (fun o d' ho hd' e1 e2 => ⟨by rw [lk_dropK]; split <;> first | rfl | exact e1, by rw [lk_dropK]; split <;> first | rfl | exact e2⟩) (.inr ⟨_, rfl⟩) (Ext.refl ρ) rfl rfl (fun _ _ _ => rfl) (fun _ _ _ _ => rfl) (fun _ _ hlv _ => ⟨rfl, hlv⟩)
        · rcases hzc y p hy with ⟨rfl, rfl⟩ | ⟨hne1, hy1⟩ <;> rcases hzc y' p' hy' with ⟨rfl, rfl⟩ | ⟨hne2, hy2⟩
          · exact absurd rfl hne
          · rw [hx, Option.some.injEq] at ho
            subst ho
            have h4 := apZ hapz hy2 ho'
            obtain ⟨e1, e2, e3⟩ := apart_sym h4
            unfold Oper.apart
            simp only [Bool.and_eq_true]
            constructor
            · split
              · rename_i dd hdd
                simp only [Bool.and_eq_true, Bool.not_eq_true', bne_iff_ne, ne_eq]
                refine ⟨?_, fun e => e2 dd dd e hdd rfl⟩
                cases hh : (o'.looksAt ops.toArray).contains dd with
                | false => rfl
                | true => exact absurd (by simpa using hh) (e1 dd hdd)
              · rfl
            · split
              · rename_i dd hdd
                simp only [Bool.not_eq_true']
                cases hh : (x.looksAt ops.toArray).contains dd with
                | false => rfl
                | true => exact absurd (by simpa using hh) (e3 dd hdd)
              · rfl
          · rw [hx, Option.some.injEq] at ho'
            subst ho'
            exact apZ hapz hy1 ho
          · exact I.zap y p y' p' o o' hy1 hy2 hne ho ho'
        · rcases hzc y p hy with ⟨rfl, rfl⟩ | ⟨hne, hy'⟩
          · exact hMz
          · exact I.zM y p hy'
        · rcases hzc y p hy with ⟨rfl, rfl⟩ | ⟨hne, hy'⟩
          · rw [hx, Option.some.injEq] at ho
            subst ho
            exact keepsP_put hkp (List.mem_map.2 ⟨q, hq, rfl⟩) d' hd'
          · exact I.zp y p o d' hy' ho hd' q hq
        · rcases hzc y p hy with ⟨rfl, rfl⟩ | ⟨hne1, hy1⟩
          · rw [hun] at hl1; cases hl1
          · rcases hzc y' p' hy' with ⟨rfl, rfl⟩ | ⟨hne2, hy2⟩
            · rw [hun] at hl2; cases hl2
            · exact I.gd y p y' p' hy1 hy2 hne hl1 hl2
        · rcases I.dn j hj with h4 | ⟨p, hp⟩
          · exact .inl h4
          · exact .inr ⟨p, by rw [lk_cons, if_neg (fun e => by subst e; rw [hzn] at hp; cases hp)]; exact hp⟩
        · rcases hzc y p hy with ⟨rfl, rfl⟩ | ⟨hne, hy'⟩
          · exact hlf
          · exact I.zl y p hy'
      | m z =>
        have hs0 := hs
        simp only [regD] at hs
        split at hs
        case h_2 => cases hs
        rename_i x hx
        split at hs
        case h_2 => cases hs
        rename_i hb
        simp only [Bool.and_eq_true] at hb
        obtain ⟨hzok, _⟩ := hb
        split at hs
        case h_2 => cases hs
        rename_i d hdst
        split at hs
        case h_2 => cases hs
        rename_i p hp
        simp only [zOk, Bool.and_eq_true] at hzok
        obtain ⟨⟨hrdy, hall⟩, hmok⟩ := hzok
        have hrd : z ∈ rdy ops ld := by simpa using hrdy
        cases hex : lr.getD z true with
        | false =>
          have hready := I.ready hrd hex
          have hu := unl_set hex (ready_preds hrd).2.1
          obtain ⟨fuel', rfl⟩ : ∃ n, fuel = n + 1 := ⟨fuel - 1, by omega⟩
          refine ⟨fun hh => (by rw [hh] at hready; cases hready), fun i hi => ?_⟩
          have hiMm : i ∈ M := by
            cases hh : M.contains i with
            | true => simpa using hh
            | false =>
              have hni : i ∉ M := fun hm' => by
                have : M.contains i = true := by simpa using hm'
                rw [this] at hh; cases hh
              have h1 := I.back hi (l := M.filter fun y => !(Nat.beq y z)) (fun hm' => hni (List.mem_filter.1 hm').1) (fun y py hy hly => by
                have hne : y ≠ z := fun e => by subst e; rw [hex] at hly; cases hly
                have hb2 : Nat.beq y z = false := by
                  cases hb2 : Nat.beq y z with
                  | false => rfl
                  | true => exact absurd (beq_inv hb2) hne
                simp only [List.mem_filter, hb2, Bool.not_false, and_true]
                simpa using I.zM y py hy)
              have h2 := List.all_eq_true.1 hall i h1
              simpa using h2
          obtain ⟨pi, hpi⟩ := I.known hi hiMm hmok
          exact early hi hpi fuel' rfl
        | true =>
          obtain ⟨o, d', cs, vs, h1, h2, h3, h4, h5, h6, h7, h8, h9, h10⟩ := I.zi z p hp
          rw [hx, Option.some.injEq] at h1
          subst h1
          rw [hdst, Option.some.injEq] at h2
          subst h2
          obtain ⟨h11, h12, h13, h14⟩ := h10 hex
          have hlen : z < ld.length := by have := (ready_preds hrd).2.1; rw [I.lsz]; exact this
          have hdn : d < nt := by simpa [Nat.blt_eq] using dstsOk_nth hd z x hx d hdst
          split at hs
          case h_2 => cases hs
          rename_i ins hins
          have hoV : oV (.l (s.length - 1 - p)) f s = .g cs := h7
          -- what is behind it, wherever the answer goes
          have go : ∀ (k' : Cn), ins.den c f s h k' = some r → ∀ (fc' : List (Nat × Nat)) (L' : Lm) (n' : Nat) (l : List Sp), regD P fm ops M plan fc' L' n' (ld.set z true) (dropK z Z) (pd.map Prod.fst) = some l →
              (∀ v h', ∃ f' s', k' v h' = regC (dens l) c f' s' h' k ∧ s'.length = n' ∧ Stk s s' ∧ ∀ ρ', Ext ρ ρ' → VR ρ' v (a.tmps.getD d undef) → AR fc' nt ρ' f' L' s' (a.put (some d) (a.tmps.getD d undef))) → Nm fc' L' → One L' →
              (∀ t, lk fc t = none → t ≠ d → lk fc' t = none) → (∀ t, lk L t = none → t ≠ d → lk L' t = none) → (∀ t j, lk fc' t = some j → lk fm t = some j) → wpS P ops Q (SP P ops pd) fuel lr a w := fun k' hk' fc' L' n' l hl hfs hnm hone hfc hL hsub' => by
            obtain ⟨ty, v, h15, h16⟩ := make_inv (ρ := ρ) (vs := vs) (g := G z) hins hk' hoV
            obtain ⟨H', F'⟩ := I.hr.adopt ty h12 h14 h8 I.fr h13
            obtain ⟨f', s', e1, e2, hst, hA⟩ := hfs v ⟨inc h.n, hput h.n (.c ty true cs) h.m⟩
            rw [e1] at h15
            have hE : Ext ρ (up ρ h.n ⟨G z, 0, vs.length⟩) := up_ext I.hr rfl
            have A' := hA _ hE (by rw [h11]; exact h16)
            rw [put_self (by rw [I.ar.size]; exact hdn)] at A'
            have hzd : ∀ y py, lk (dropK z Z) y = some py → y ≠ z ∧ lk Z y = some py := fun y py hy => by
              rw [lk_dropK] at hy
              split at hy
              · cases hy
              · rename_i e; exact ⟨e, hy⟩
            refine ih plan fc' L' l (up ρ h.n ⟨G z, 0, vs.length⟩) f' s' ⟨inc h.n, hput h.n (.c ty true cs) h.m⟩ w a (dropK z Z) pd lr (ld.set z true) G fuel (by omega) (by rw [e2]; exact hl) ?_ hsub' h15 hf
            refine ⟨A', hnm, hone, H', F', I.pend, I.pw, fun y py hy => ?_, fun y py y' py' o o' hy hy' hne ho ho' => I.zap y py y' py' o o' (hzd y py hy).2 (hzd y' py' hy').2 hne ho ho', fun y py hy => I.zM y py (hzd y py hy).2, fun y py o dd hy ho hdd q hq => I.zp y py o dd (hzd y py hy).2 ho hdd q hq,
              fun y py y' py' hy hy' hne hl1 hl2 => I.gd y py y' py' (hzd y py hy).2 (hzd y' py' hy').2 hne hl1 hl2, I.sz, by simp [I.lsz], fun j hj => ?_, fun j hj => ?_, fun y py hy => ?_, I.cl⟩
            · obtain ⟨hne, hy'⟩ := hzd y py hy
              have hdd : ∀ o dd, nth ops y = some o → o.dst = some dd → dd ≠ d := fun o dd ho hdd e => by
                have hap := I.zap z p y py x o hp hy' (Ne.symm hne) hx ho
                exact (apart_sym hap).2.1 d dd hdst hdd e
              refine (I.zi y py hy').next (fun o dd ho hdo e3 e4 => ⟨hfc dd e3 (hdd o dd ho hdo), hL dd e4 (hdd o dd ho hdo)⟩) hst hE rfl rfl (fun _ _ _ => rfl) (fun _ _ _ _ => rfl) (fun hly hlt hlv hle => ⟨rfl, fun b q hb hg e => ?_⟩)
              unfold up at hb
              split at hb
              · rename_i eb
                simp only [Option.some.injEq] at hb
                subst hb
                exact I.gd z p y py hp hy' (Ne.symm hne) hex hly e
              · rename_i eb
                rw [hget_ne _ _ _ _ eb] at hg
                exact hlv b q hb hg e
            · rcases (getDl hlen j).1 hj with e | h
              · subst e; exact hex
              · exact I.up j h
            · rcases I.dn j hj with h | ⟨pj, hpj⟩
              · exact .inl ((getDl hlen j).2 (.inr h))
              · by_cases e : j = z
                · exact .inl ((getDl hlen j).2 (.inl e))
                · exact .inr ⟨pj, by rw [lk_dropK, if_neg e]; exact hpj⟩
            · obtain ⟨hne, hy'⟩ := hzd y py hy
              have h17 := I.zl y py hy'
              cases hh : (ld.set z true).getD y true with
              | false => rfl
              | true =>
                rcases (getDl hlen y).1 hh with e | h
                · exact absurd e hne
                · rw [h] at h17; cases h17
          split at hs
          · rename_i j hj
            split at hs
            case h_2 => cases hs
            rename_i l hl
            simp only [Option.some.injEq] at hs
            subst hs
            have hnm : Nm ((d, j) :: fc) L := ⟨fun t t' jj e1 e2 => hinj t t' jj (by
                rw [lk_cons] at e1
                split at e1
                · rename_i e; simp only [Option.some.injEq] at e1; rw [e, ← e1]; exact hj
                · exact hsub t jj e1) (by
                rw [lk_cons] at e2
                split at e2
                · rename_i e; simp only [Option.some.injEq] at e2; rw [e, ← e2]; exact hj
                · exact hsub t' jj e2), fun t y hy => by
                rw [lk_cons, if_neg (fun e => by subst e; rw [h5] at hy; cases hy)]; exact I.nm.out t y hy⟩
            refine go (fun v h' => regC (dens l) c (setV j v f) s h' k) hk ((d, j) :: fc) (drop j L) s.length l hl (fun v h' => ⟨setV j v f, s, rfl, rfl, .inl rfl, fun ρ' hE hv => ?_⟩) (nm_drop hnm I.one j) I.one.drop (fun t ht hne => lk_cons_none ht hne) (fun t ht _ => lk_none_drop ht) (fun t jj hjj => ?_)
            · -- the frame with this slot in it again
              have A' := I.ar.ext hE
              have hd' : d < a.tmps.size := by rw [A'.size]; exact hdn
              refine ⟨A'.defers, by simp [Act.put, A'.size], fun t j' hj' => ?_, fun t q hq => ?_, fun t j' hj' => ?_, fun t v' hv' => ?_⟩
              · rw [put_get hd']
                rw [lk_cons] at hj'
                split at hj'
                · rename_i e
                  simp only [Option.some.injEq] at hj'
                  subst hj'
                  rw [if_pos e, set_same]
                  exact hv
                · rename_i e
                  rw [if_neg e, set_ne j j' v f (fun e' => by
                    subst e'
                    exact e (hinj t d j' (hsub t j' hj') hj))]
                  exact A'.fr t j' hj'
              · obtain ⟨e1, _⟩ := drop_lk I.one hq
                rw [put_get hd', if_neg (fun e => by subst e; rw [h5] at e1; cases e1)]
                exact A'.st t q e1
              · obtain ⟨e1, e2⟩ := drop_lk I.one hj'
                rw [put_get hd', if_neg (fun e => by subst e; rw [h5] at e1; cases e1), set_ne j j' v f (fun e' => e2 (by rw [e']))]
                exact A'.al t j' e1
              · obtain ⟨e1, _⟩ := drop_lk I.one hv'
                rw [put_get hd', if_neg (fun e => by subst e; rw [h5] at e1; cases e1)]
                exact A'.cn t v' e1
            · rw [lk_cons] at hjj
              split at hjj
              · rename_i e; simp only [Option.some.injEq] at hjj; rw [e, ← hjj]; exact hj
              · exact hsub t jj hjj
          · rename_i hj
            split at hs
            case h_1 => cases hs
            rename_i hlL
            split at hs
            case h_2 => cases hs
            rename_i l hl
            simp only [Option.some.injEq] at hs
            subst hs
            exact go (fun v h' => regC (dens l) c f (v :: s) h' k) hk fc ((d, .st s.length) :: L) (s.length + 1) l hl (fun v h' => ⟨f, v :: s, rfl, by simp, .inr ⟨v, rfl⟩, fun ρ' hE hv => (I.ar.ext hE).push hdn h4 hv⟩) (nm_cons I.nm h4) ⟨hlL, I.one⟩ (fun t ht _ => ht) (fun t ht hne => lk_cons_none ht hne) hsub
end
end Go.Ev
