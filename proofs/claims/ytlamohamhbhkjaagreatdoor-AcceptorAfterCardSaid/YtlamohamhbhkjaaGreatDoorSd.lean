/- The evaluator is right, thirteenth part: append by its sources, copy, clear, texts that are ranged over. No condition. -/
import Derived.Test.YtlamohamhbhkjaaGreatDoorSc
namespace Go.Ev
open Go.RowKit Go.Eng

section
variable {P : Program} {fm : List (Nat × Nat)} {nt : Nat} {ρ : Rho} {f : St} {L : Lm} {s : St} {a : Act} {r : V × Hp} {c : Call} {h : Hp} {w : World} {k : Cn}
/-- A source: a slice's cells, a text's bytes. -/
def Src (P : Program) (n : Nat) (yv : Value) (q : Nat) (vals : List Value) (w : World) : Prop :=
  vals.length = q * n ∧ ∀ w' : World, (∀ ad, w'.cell? ad = w.cell? ad) → (Builtin.lenOf yv).run P w' = .ok q w' ∧ ∀ m, m ≤ q → (Builtin.firstCells n m yv).run P w' = .ok (vals.take (m * n)).toArray w'
theorem str_cells (l : List Nat) (hl : ∀ x ∈ l, x < 256) (m : Nat) : ((ByteArray.mk ⟨l.map UInt8.ofNat⟩).extract 0 m).data.map (fun b => Value.int .u8 b.toNat) = ((l.map fun (n : Nat) => Value.int .u8 (n : Int)).take m).toArray := by
  rw [extract_mk]
  apply Array.toList_inj.1
  simp only [List.drop_zero, Array.toList_map, List.map_map, ← List.map_take]
  refine List.map_congr_left fun n hn => ?_
  simp [Nat.mod_eq_of_lt (hl n (List.mem_of_mem_take hn))]
theorem src_inv (H : HR ρ h w) {n : Nat} {y : V} {yv : Value} {k1 : Nat → A} {k2 : Nat → List C → A} (hy : VR ρ y yv) (h1 : vLen y k1 = some r) (h12 : ∀ q, k1 q = vRead h n y (k2 q)) :
    ∃ q ys vals, k2 q ys = some r ∧ CRs ρ ys vals ∧ Src P n yv q vals w := by
  obtain ⟨x, rfl, h2⟩ := toC_inv h1
  obtain ⟨d, rfl, h3⟩ := cD_inv h2
  have key : ∀ (b : Pth) (o m : Nat) (p : Pl) (cp : Nat), ρ b = some p → yv = .slice (some ⟨p.b, p.s + o, none⟩) m cp → ldC h b o (m * n) (k2 m) = some r → ∃ q ys vals, k2 q ys = some r ∧ CRs ρ ys vals ∧ Src P n yv q vals w := fun b o m p cp hp e h4 => by
    obtain ⟨cs, vs, h5, h6, _, h7, h8⟩ := ldC_inv H hp h4
    refine ⟨m, cs, vs, h5, h7, h6, fun w' hw' => ⟨by rw [e]; rfl, fun m' hm' => ?_⟩⟩
    rw [e]
    refine run_firstCells_some (P := P) w' n m' ⟨p.b, p.s + o, none⟩ m cp _ (by rw [List.length_take, h6, Nat.min_eq_left (Nat.mul_le_mul_right _ hm')]) (fun j v hj => by
      rw [List.getElem?_take] at hj
      split at hj
      · rw [addr_add, hw']; exact h8 j v hj
      · cases hj)
  cases d with
  | s l =>
    have h4 : k1 (lenN l) = some r := h3
    rw [h12, lenN_eq] at h4
    obtain ⟨hn, h5⟩ := ifT_inv (show ifT (Nat.beq n 1) (k2 l.length (u8s l)) = some r from h4)
    have hn := beq_inv hn
    subst hn
    have e : yv = S (l.map UInt8.ofNat) := hy.1
    refine ⟨l.length, u8s l, _, h5, u8s_of hy.2, by simp, fun w' _ => ⟨?_, fun m _ => ?_⟩⟩
    · rw [e]
      simp only [S, Builtin.lenOf, Sem.run_pure, S_len]
    · rw [e]
      simp only [S, Builtin.firstCells, Sem.run_pure]
      rw [str_cells l hy.2, Nat.mul_one]
  | ns =>
    have h4 : k1 0 = some r := h3
    rw [h12] at h4
    have e : yv = .slice none 0 0 := hy
    exact ⟨0, [], [], h4, trivial, by simp, fun w' _ => by rw [e]; exact ⟨rfl, fun m _ => by simp [Builtin.firstCells]⟩⟩
  | sl b o m cp =>
    have h4 : k1 m = some r := h3
    rw [h12] at h4
    obtain ⟨p, hp, e, _⟩ := hy
    exact key b o m p cp hp e h4
  | sh b o m kz =>
    have h4 : k1 m = some r := h3
    rw [h12] at h4
    obtain ⟨p, cp, hp, e, _⟩ := hy
    exact key b o m p cp hp e h4
  | se =>
    have h4 : k1 0 = some r := h3
    rw [h12] at h4
    obtain ⟨ad, cp, e⟩ := hy
    refine ⟨0, [], [], h4, trivial, by simp, fun w' _ => ?_⟩
    rw [e]
    exact ⟨rfl, fun m hm => by
      have : m = 0 := by omega
      subst this
      simpa using run_firstCells_some (P := P) w' n 0 ad 0 cp [] (by simp) (by simp)⟩
  | _ => exact nN h3
theorem appR_src {t u ty el n q : Nat} {i : TypeInfo} {zv yv : Value} {vals : List Value} {D : TypeDesc} (ht : P.underlying t = some (.slice el)) (hu : P.underlying u = some D) (hD : D = .string ∨ ∃ e, D = .slice e) (hi : P.info? el = some i) (hzv : i.zero = some zv) (hsz : i.size = n) (hby : i.bytes ≤ 32768)
    (hs : Src P n yv q vals w) : AppR P el n zv (fun xv => Builtin.append_ #[t, u] ty #[xv, yv]) q vals w := by
  subst hsz
  obtain ⟨h1, h2⟩ := hs.2 w (fun _ => rfl)
  have ht' : vals.take (q * i.size) = vals := List.take_of_length_le (by rw [hs.1]; exact Nat.le_refl _)
  have h2 := h2 q (Nat.le_refl _)
  rw [ht'] at h2
  refine ⟨fun ad sLen sCap w' hf hst => ?_, fun h0 => ?_, fun base sLen sCap olds hg hlt ho => ?_⟩
  · rcases hD with rfl | ⟨e, rfl⟩ <;>
      simp [Builtin.append_, run_underlying ht, run_underlying hu, sizeOf, typeInfo, hi, h1, hf, h2, hst]
  · subst h0
    rcases hD with rfl | ⟨e, rfl⟩ <;>
      simp [Builtin.append_, run_underlying ht, run_underlying hu, sizeOf, typeInfo, hi, h1, h2]
  · have hn : ¬ (sLen + q ≤ sCap) := by omega
    have h63' : ¬ (9223372036854775807 < ((sLen : Int) + (q : Int))) := by omega
    have h48 : Builtin.nextslicecap (sLen + q) sCap * i.bytes ≤ 281474976710656 := growslice_fits hg (by
      have : (sLen + q) * i.bytes ≤ 4294967295 * 32768 := Nat.mul_le_mul (by omega) hby
      omega)
    have h48' : ¬ (281474976710656 < Builtin.nextslicecap (sLen + q) sCap * i.bytes) := by omega
    have h4 := (hs.2 w.drew (fun ad => by simp)).2 q (Nat.le_refl _)
    rw [ht'] at h4
    have h3 := ho w.drew (fun ad => by simp)
    rcases hD with rfl | ⟨e, rfl⟩ <;>
    · simp [Builtin.append_, run_underlying ht, run_underlying hu, sizeOf, typeInfo, zeroValue, hi, hzv, h1, hn, h63', h48', Question.forced, h3, h4, newRow, grownCap]
      congr 2
      apply Array.toList_inj.1
      simp
theorem appR_zero {t u ty el n q : Nat} {i : TypeInfo} {zv : Value} {kd kd' : IntKind} (ht : P.underlying t = some (.slice el)) (hu : P.underlying u = some (.int kd)) (hi : P.info? el = some i) (hzv : i.zero = some zv) (hsz : i.size = n) (hzs : zv.cells.size = n) (hn0 : 0 < n) (hby : i.bytes ≤ 32768) (hq : q ≤ 65536) :
    AppR P el n zv (fun xv => Builtin.append_ #[t, u] ty #[xv, .int kd' (q : Int)]) q ((List.replicate q zv.cells.toList).flatten) w := by
  subst hsz
  have hwrap : IntKind.i64.wrap (q : Int) = (q : Int) := IntWalk.i64_in _ (by omega)
  have hb1 : q * i.bytes ≤ 65536 * 32768 := Nat.mul_le_mul hq hby
  have hb : ¬ (281474976710656 < (q : Int) * (i.bytes : Int)) := by
    have : ((q * i.bytes : Nat) : Int) ≤ 65536 * 32768 := by omega
    push_cast at this
    omega
  have hneg : ¬ ((q : Int) < 0) := by omega
  have hz' : ∀ w, (zeroValue el).run P w = .ok zv w := fun w => by simp [zeroValue, typeInfo, hi, hzv]
  have hlist : (Builtin.zeroCells zv.cells q).toList = (List.replicate q zv.cells.toList).flatten := zeroCells_list _ (by omega) q
  by_cases h0 : q * i.size = 0
  · have hq0 : q = 0 := by rcases Nat.mul_eq_zero.1 h0 with h | h; exact h; omega
    subst hq0
    have hw0 : IntKind.i64.wrap 0 = 0 := IntWalk.i64_in 0 (by omega)
    refine ⟨fun ad sLen sCap w' hf hst => ?_, fun h0 => ?_, fun base sLen sCap olds hg hlt ho => ?_⟩
    · simp only [List.replicate_zero, List.flatten_nil] at hst
      simp [Builtin.append_, run_underlying ht, run_underlying hu, sizeOf, typeInfo, hi, asInt, asIntOf, hw0, Nat.le_of_add_right_le hf, hst]
    · simp [Builtin.append_, run_underlying ht, run_underlying hu, sizeOf, typeInfo, hi, asInt, asIntOf, hw0]
    · have hn : ¬ (sLen ≤ sCap) := by omega
      have h63' : ¬ (9223372036854775807 < (sLen : Int)) := by omega
      have h48 : Builtin.nextslicecap sLen sCap * i.bytes ≤ 281474976710656 := growslice_fits (by omega) (by
        have : sLen * i.bytes ≤ 4294967295 * 32768 := Nat.mul_le_mul (by omega) hby
        omega)
      have h48' : ¬ (281474976710656 < Builtin.nextslicecap sLen sCap * i.bytes) := by omega
      have h3 := ho w.drew (fun ad => by simp)
      simp [Builtin.append_, run_underlying ht, run_underlying hu, sizeOf, typeInfo, hi, asInt, asIntOf, hw0, hn, h63', h48', Question.forced, h3, hz', newRow, grownCap]
      congr 2
      apply Array.toList_inj.1
      simp
  · refine ⟨fun ad sLen sCap w' hf hst => ?_, fun h1 => ?_, fun base sLen sCap olds hg hlt ho => ?_⟩
    · rw [← hlist] at hst
      simp [Builtin.append_, run_underlying ht, run_underlying hu, sizeOf, typeInfo, hi, asInt, asIntOf, hwrap, hneg, hb, hf, h0, hz', hst]
    · subst h1; exact absurd (Nat.zero_mul _) h0
    · have hn : ¬ (sLen + q ≤ sCap) := by omega
      have h63' : ¬ (9223372036854775807 < ((sLen : Int) + (q : Int))) := by omega
      have h48 : Builtin.nextslicecap (sLen + q) sCap * i.bytes ≤ 281474976710656 := growslice_fits hg (by
        have : (sLen + q) * i.bytes ≤ 4294967295 * 32768 := Nat.mul_le_mul (by omega) hby
        omega)
      have h48' : ¬ (281474976710656 < Builtin.nextslicecap (sLen + q) sCap * i.bytes) := by omega
      have h3 := ho w.drew (fun ad => by simp)
      simp [Builtin.append_, run_underlying ht, run_underlying hu, sizeOf, typeInfo, hi, asInt, asIntOf, hwrap, hneg, hb, hn, h0, h63', h48', Question.forced, h3, hz', newRow, grownCap]
      congr 2
      apply Array.toList_inj.1
      simp [← hlist]
/-! ### The operations -/
theorem sliceEl_inv {t el : Nat} (h : sliceEl P t = some el) : P.underlying t = some (.slice el) := by
  unfold sliceEl at h
  split at h
  · rename_i e hu; simp only [Option.some.injEq] at h; rw [← h]; exact hu
  · cases h
theorem m_app (A' : AR fm nt ρ f L s a) (H : HR ρ h w) {x y : Operand} {t u el n : Nat} {z : List C} {p q : O} {D : TypeDesc} (ht : P.underlying t = some (.slice el)) (he : elemV P el = some (n, z)) (hu : P.underlying u = some D) (hD : (D = .string ∧ n = 1) ∨ ∃ e, D = .slice e)
    (hx : ofO fm L s.length x = some p) (hy : ofO fm L s.length y = some q) (hk : xApp el n p q c f s h k = some r) : OpRun P (.call ⟨.builtin .append, #[x, y], #[t, u]⟩) a w (Fin ρ h w k r) := by
  obtain ⟨i, zv, hi, hzv, hsz, hn0, hby, hzs, hzl, hcz, hs⟩ := elemV_inv he ρ
  obtain ⟨m, ys, vals, h1, h2, h4⟩ := src_inv (P := P) (n := n) H (A'.opd hy) (k1 := fun q' => vRead h n (oV q f s) (fun ys => appC h el n (oV p f s) ys q' k)) (k2 := fun q' ys => appC h el n (oV p f s) ys q' k) hk (fun _ => rfl)
  have hD' : D = .string ∨ ∃ e, D = .slice e := hD.imp (·.1) id
  intro o ho
  have hR := appR_src (ty := o.type) ht hu hD' hi hzv hsz hby h4
  obtain ⟨vv, w', h5, h6⟩ := app_core H hzs hn0 hR h4.1 h2 (A'.opd hx) h1
  refine ⟨vv, w', .inl ?_, h6⟩
  simp only [execOp, ho, resolve, invoke, builtin, List.map_toArray, List.map_cons, List.map_nil, Sem.run_bind, Sem.run_pure, Result.andThen_ok, h5]
theorem m_apz (A' : AR fm nt ρ f L s a) (H : HR ρ h w) {x y : Operand} {t u el n : Nat} {z : List C} {p q : O} {kd : IntKind} (ht : P.underlying t = some (.slice el)) (he : elemV P el = some (n, z)) (hu : P.underlying u = some (.int kd))
    (hx : ofO fm L s.length x = some p) (hy : ofO fm L s.length y = some q) (hk : xApz el z p q c f s h k = some r) : OpRun P (.call ⟨.builtin .append, #[x, y], #[t, u]⟩) a w (Fin ρ h w k r) := by
  obtain ⟨i, zv, hi, hzv, hsz, hn0, hby, hzs, hzl, hcz, hs⟩ := elemV_inv he ρ
  obtain ⟨kd', m, h1, e⟩ := ixN_inv (A'.opd hy) hk
  obtain ⟨h2, h3⟩ := ifT_inv h1
  rw [lenN_eq, hzl] at h3
  have hc := CRs.rep hcz m
  rw [← repN_eq] at hc
  have hlen : ((List.replicate m zv.cells.toList).flatten).length = m * n := by
    rw [← CRs.len hc, repN_eq]
    simp [List.length_flatten, hzl]
  intro o ho
  have hR := appR_zero (ty := o.type) (kd' := kd') (w := w) ht hu hi hzv hsz hzs hn0 hby (ble_inv h2)
  obtain ⟨vv, w', h5, h6⟩ := app_core H hzs hn0 hR hlen hc (A'.opd hx) h3
  refine ⟨vv, w', .inl ?_, h6⟩
  simp only [execOp, ho, e, resolve, invoke, builtin, List.map_toArray, List.map_cons, List.map_nil, Sem.run_bind, Sem.run_pure, Result.andThen_ok, h5]
theorem m_cpy (A' : AR fm nt ρ f L s a) (H : HR ρ h w) {x y : Operand} {t u el n : Nat} {z : List C} {p q : O} (ht : P.underlying t = some (.slice el)) (he : elemV P el = some (n, z)) (hx : ofO fm L s.length x = some p) (hy : ofO fm L s.length y = some q)
    (hk : xCpy n p q c f s h k = some r) : OpRun P (.call ⟨.builtin .copy, #[x, y], #[t, u]⟩) a w (Fin ρ h w k r) := by
  obtain ⟨i, zv, hi, hzv, hsz, hn0, hby, hzs, hzl, hcz, hs⟩ := elemV_inv he ρ
  have hxv := A'.opd hx
  obtain ⟨d, h1, hd⟩ := len_inv hxv hk
  obtain ⟨m, ys, vals, h2, h3, h4⟩ := src_inv (P := P) (n := n) H (A'.opd hy) (k1 := fun b => vRead h n (oV q f s) (fun l => ifE (Nat.ble b d) (cpyC (oV p f s) h l b k) (takeC (Nat.mul d n) l (fun l' => cpyC (oV p f s) h l' d k))))
    (k2 := fun b l => ifE (Nat.ble b d) (cpyC (oV p f s) h l b k) (takeC (Nat.mul d n) l (fun l' => cpyC (oV p f s) h l' d k))) h1 (fun _ => rfl)
  have hmin : ∃ cs, cpyC (oV p f s) h cs (Nat.min m d) k = some r ∧ CRs ρ cs (vals.take (Nat.min m d * n)) := by
    rcases ifE_inv h2 with ⟨h5, h6⟩ | ⟨h5, h6⟩
    · have hle := ble_inv h5
      refine ⟨ys, by rw [show Nat.min m d = m from Nat.min_eq_left hle]; exact h6, ?_⟩
      rw [show Nat.min m d = m from Nat.min_eq_left hle, List.take_of_length_le (by rw [h4.1]; exact Nat.le_refl _)]
      exact h3
    · have hle : d ≤ m := by
        rcases Nat.lt_or_ge d m with h | h
        · omega
        · rw [Nat.ble_eq_true_of_le h] at h5; cases h5
      obtain ⟨h7, h8⟩ := takeC_inv h6
      refine ⟨_, by rw [show Nat.min m d = d from Nat.min_eq_right hle]; exact h8, ?_⟩
      rw [show Nat.min m d = d from Nat.min_eq_right hle]
      exact CRs.take _ h3
  obtain ⟨cs, h5, h6⟩ := hmin
  have hle : Nat.min m d ≤ m := Nat.min_le_left _ _
  have run : ∀ (base : Option Addr) (cp : Nat) (w' : World), a.eval x = .slice base d cp → (match base with | some ad => (storeCells ad (vals.take (Nat.min m d * n)) 0).run P w = .ok () w' | none => w' = w) →
      ∀ o : Oper, o.op = .call ⟨.builtin .copy, #[x, y], #[t, u]⟩ → (execOp a.eval o).run P w = .ok (.value (.int .i64 ((Nat.min m d : Nat) : Int))) w' := fun base cp w' e hst o ho => by
    obtain ⟨h7, h8⟩ := h4.2 w (fun _ => rfl)
    have h9 := h8 _ hle
    have hr : (Builtin.copy_ #[t, u] o.type #[.slice base d cp, a.eval y]).run P w = .ok (.int .i64 ((Nat.min m d : Nat) : Int)) w' := by
      cases base with
      | none =>
        have hst' : w' = w := hst
        subst hst'
        simp [Builtin.copy_, run_underlying ht, sizeOf, typeInfo, hi, hsz, h7, h9, goInt]
      | some ad =>
        have hst' : (storeCells ad (vals.take (Nat.min m d * n)) 0).run P w = .ok () w' := hst
        simp [Builtin.copy_, run_underlying ht, sizeOf, typeInfo, hi, hsz, h7, h9, hst', goInt]
    simp only [execOp, ho, e, resolve, invoke, builtin, List.map_toArray, List.map_cons, List.map_nil, Sem.run_bind, Sem.run_pure, Result.andThen_ok, hr]
  have hlen : ∀ {base : Option Addr} {b cp : Nat}, a.eval x = .slice base b cp → d = b := fun e => by
    rcases hd with ⟨ad', cp', e'⟩ | ⟨l, e', _⟩
    · rw [e] at e'; simp only [Value.slice.injEq] at e'; exact e'.2.1.symm
    · rw [e] at e'; cases e'
  rcases toL_inv hxv (show toL (oV p f s) (k (vI 3 0) h) (fun pp o _ => lt (Nat.min m d) 9223372036854775808 (stC h pp o cs (fun h' => fI 3 (Nat.min m d) (fun v => k v h')))) = some r from h5) with ⟨h7, base, cp, e⟩ | ⟨b, o, m', pl, cp, h7, h8, e, h9⟩
  · have hd0 := hlen e
    subst hd0
    refine fun o ho => ⟨_, w, .inl (run base cp w e ?_ o ho), ρ, vI 3 0, h, h7, ?_, H, Fr.refl _ _ _⟩
    · cases base with
      | none => rfl
      | some ad =>
        show (storeCells ad (vals.take (Nat.min m 0 * n)) 0).run P w = .ok () w
        rw [show Nat.min m 0 = 0 from Nat.min_eq_right (Nat.zero_le _), Nat.zero_mul, List.take_zero]
        rfl
    · rw [show Nat.min m 0 = 0 from Nat.min_eq_right (Nat.zero_le _)]
      exact i64_of (by decide)
  · have hd0 := hlen e
    subst hd0
    obtain ⟨h10, h11⟩ := lt_inv h7
    obtain ⟨h', w', h12, h13, h14, h15⟩ := stC_inv H h8 h6 h11
    rw [fI_eq] at h12
    exact fun o' ho => ⟨_, w', .inl (run _ cp w' e (h15 P) o' ho), ρ, _, h', h12, i64_of h10, h13, h14⟩
theorem m_clr (A' : AR fm nt ρ f L s a) (H : HR ρ h w) {x : Operand} {t el n : Nat} {z : List C} {p : O} (ht : P.underlying t = some (.slice el)) (he : elemV P el = some (n, z)) (hx : ofO fm L s.length x = some p)
    (hk : xClr z p c f s h k = some r) : OpRun P (.call ⟨.builtin .clear, #[x], #[t]⟩) a w (Fin ρ h w k r) := by
  obtain ⟨i, zv, hi, hzv, hsz, hn0, hby, hzs, hzl, hcz, hs⟩ := elemV_inv he ρ
  have run : ∀ (v : Value) (w' : World), a.eval x = v → (∀ ty, (Builtin.clear_ #[t] ty #[v]).run P w = .ok (.tuple #[]) w') → ∀ o : Oper, o.op = .call ⟨.builtin .clear, #[x], #[t]⟩ → (execOp a.eval o).run P w = .ok (.value (.tuple #[])) w' := fun v w' e hr o ho => by
    simp only [execOp, ho, e, resolve, invoke, builtin, List.map_toArray, List.map_cons, List.map_nil, Sem.run_bind, Sem.run_pure, Result.andThen_ok, hr]
  have hz0 : ∀ (ad : Option Addr) (cp : Nat) (ty : TypeId), (Builtin.clear_ #[t] ty #[.slice ad 0 cp]).run P w = .ok (.tuple #[]) w := fun ad cp ty => by
    cases ad <;> simp [Builtin.clear_, run_underlying ht]
  rcases toL_inv (A'.opd hx) hk with ⟨h1, ad, cp, e⟩ | ⟨b, o, m, pl, cp, h1, h2, e, h3⟩
  · exact fun o ho => ⟨_, w, .inl (run _ w e (hz0 ad cp) o ho), ρ, .t [], h, h1, ⟨[], trivial, rfl⟩, H, Fr.refl _ _ _⟩
  · have hc := CRs.rep hcz m
    rw [← repN_eq] at hc
    obtain ⟨h', w', h4, h5, h6, h7⟩ := stC_inv H h2 hc h1
    refine fun o' ho => ⟨_, w', .inl (run _ w' e (fun ty => ?_) o' ho), ρ, .t [], h', h4, ⟨[], trivial, rfl⟩, h5, h6⟩
    cases m with
    | zero =>
      have : (storeCells ⟨pl.b, pl.s + o, none⟩ ([] : List Value) 0).run P w = .ok () w' := h7 P
      have e2 : w = w' := by simpa [storeCells] using this
      rw [← e2]
      exact hz0 _ _ _
    | succ m =>
      have hz' : (zeroValue el).run P w = .ok zv w := by simp [zeroValue, typeInfo, hi, hzv]
      have h8 := h7 P
      rw [← zeroCells_list _ (by omega)] at h8
      simp [Builtin.clear_, run_underlying ht, hz', h8]
/-! ### Texts that are ranged over -/
theorem m_rng (A' : AR fm nt ρ f L s a) (H : HR ρ h w) {x : Operand} {t : Nat} {p : O} (ht : P.underlying t = some .string) (hx : ofO fm L s.length x = some p) (hk : xRng p c f s h k = some r) : OpRun P (.range t x) a w (Fin ρ h w k r) := by
  obtain ⟨l, hl, h1⟩ := toS_inv hk
  have h2 := newC_inv h1
  have hxv := A'.opd hx
  rw [hl] at hxv
  have e : a.eval x = S (l.map UInt8.ofNat) := hxv.1
  have hO : Old w (w.alloc (.stringIter ⟨⟨l.map UInt8.ofNat⟩⟩ 0)) := old_alloc w _
  obtain ⟨h3, h4⟩ := H.new (z := 0) hO (Nat.le_refl _) (by simp [World.alloc, -World.alloc_eq]) (.it l 0) ⟨(fun ty ex cs e' => by cases e'), fun l' pos e' => by
    simp only [Blk.it.injEq] at e'
    obtain ⟨rfl, rfl⟩ := e'
    refine ⟨hxv.2, [], rfl, ?_⟩
    show (w.heap.push _)[w.heap.size]? = _
    simp⟩
  refine OpRun.value (vv := .pointer (some ⟨w.heap.size, 0, none⟩)) (fun z hz => ?_) ⟨_, _, _, h2, up_ptr ρ h.n _ 0, h3, h4⟩
  have hr : (Instr.range t (S (l.map UInt8.ofNat))).run P w = .ok (.pointer (some ⟨w.heap.size, 0, none⟩)) (w.alloc (.stringIter ⟨⟨l.map UInt8.ofNat⟩⟩ 0)) := by
    unfold Instr.range
    simp [run_underlying ht, S]
  simp only [execOp, hz, e]
  rw [Sem.run_bind, hr]
  rfl
theorem m_nxt (A' : AR fm nt ρ f L s a) (H : HR ρ h w) {x : Operand} {p : O} (hx : ofO fm L s.length x = some p) (hk : xNxt p c f s h k = some r) : OpRun P (.next x true) a w (Fin ρ h w k r) := by
  obtain ⟨b, o, hb, h1⟩ := toP_inv hk
  obtain ⟨h2, h3⟩ := ifT_inv h1
  obtain ⟨l, pos, hg, h4⟩ := itC_inv h3
  have hxv := A'.opd hx
  rw [hb, beq_inv h2] at hxv
  obtain ⟨q, hq, e⟩ := hxv
  obtain ⟨hs0, hl, pre, hpre, hblk⟩ := H.it b q l pos hq hg
  rw [hs0] at e
  have hlt : q.b < w.heap.size := H.lt b q hq
  have hgo : (getObj q.b).run P w = .ok (.stringIter ⟨⟨pre ++ l.map UInt8.ofNat⟩⟩ pos) w := by simp [getObj, Sem.run, hblk]
  have hsz : (⟨⟨pre ++ l.map UInt8.ofNat⟩⟩ : ByteArray).size = pos + l.length := by
    show (pre ++ l.map UInt8.ofNat).length = _
    simp [hpre]
  cases l with
  | nil =>
    have h5 : k (.t [.c (.o (.b false))]) h = some r := h4
    refine OpRun.value (vv := .tuple #[.bool false]) (fun z hz => ?_) ⟨ρ, _, h, h5, ⟨[.bool false], ⟨rfl, trivial⟩, rfl⟩, H, Fr.refl _ _ _⟩
    have hr : (Instr.next (.pointer (some ⟨q.b, 0, none⟩)) true z.type).run P w = .ok (.tuple #[.bool false]) w := by
      unfold Instr.next
      have hn : ¬ (pos < (⟨⟨pre ++ ([] : List Nat).map UInt8.ofNat⟩⟩ : ByteArray).size) := by rw [hsz]; simp
      simp only [Sem.run_bind, hgo, Result.andThen_ok, hn, if_false, Sem.run_pure]
    simp only [execOp, hz, e, Nat.add_zero]
    rw [Sem.run_bind, hr]
    rfl
  | cons ch rest =>
    obtain ⟨h5, h6⟩ := lt_inv (show lt ch 128 (lt (Nat.succ pos) 9223372036854775808 (fN (Nat.succ pos) (fun q => k (.t [.c (.o (.b true)), .c (.i 3 pos), .c (.i 2 ch)]) ⟨h.1, hput b (.it rest q) h.2⟩))) = some r from h4)
    obtain ⟨h7, h8⟩ := lt_inv h6
    rw [fN_eq] at h8
    have hw' : ∀ k, k ≠ q.b → (w.heap.setIfInBounds q.b (.stringIter ⟨⟨pre ++ (ch :: rest).map UInt8.ofNat⟩⟩ (pos + 1)))[k]? = w.heap[k]? := fun k hk => by
      rw [Array.getElem?_setIfInBounds_ne (Ne.symm hk)]
    have hself : (w.heap.setIfInBounds q.b (.stringIter ⟨⟨pre ++ (ch :: rest).map UInt8.ofNat⟩⟩ (pos + 1)))[q.b]? = some (.stringIter ⟨⟨pre ++ (ch :: rest).map UInt8.ofNat⟩⟩ (pos + 1)) := by simp [hlt]
    have hne : ∀ a', hget a' (hput b (.it rest (pos + 1)) h.m) ≠ .no → hget a' h.m ≠ .no := fun a' h' => by
      by_cases e : a' = b
      · subst e; rw [hg]; simp
      · rwa [hget_ne _ _ _ _ e] at h'
    have H' : HR ρ ⟨h.n, hput b (.it rest (pos + 1)) h.m⟩ { w with heap := w.heap.setIfInBounds q.b (.stringIter ⟨⟨pre ++ (ch :: rest).map UInt8.ofNat⟩⟩ (pos + 1)) } := by
      refine H.other (g := q.b) (by simp) (fun k hk => hw' k hk) rfl (fun a' q' hq' hbq hl' => .inr ?_) hne (fun a' q' hq' hbq hl' => ?_)
      · have e : a' = b := H.apart a' b q' q hq' hq (hne a' hl') (by rw [hg]; simp) hbq
        subst e
        rw [hq, Option.some.injEq] at hq'
        subst hq'
        refine ⟨(fun ty' ex' cs' hg' => by simp only [hget_hput] at hg'; cases hg'), fun l' pos' hg' => ?_⟩
        simp only [hget_hput, Blk.it.injEq] at hg'
        obtain ⟨rfl, rfl⟩ := hg'
        refine ⟨hs0, fun x hx => hl x (by simp [hx]), pre ++ [UInt8.ofNat ch], by simp [hpre], ?_⟩
        show (w.heap.setIfInBounds q.b _)[q.b]? = _
        rw [hself]
        simp
      · have e : a' ≠ b := fun e => by subst e; rw [hq, Option.some.injEq] at hq'; subst hq'; exact hbq rfl
        exact hget_ne _ _ _ _ e
    have F' : Fr ρ h w ρ ⟨h.n, hput b (.it rest (pos + 1)) h.m⟩ { w with heap := w.heap.setIfInBounds q.b (.stringIter ⟨⟨pre ++ (ch :: rest).map UInt8.ofNat⟩⟩ (pos + 1)) } :=
      ⟨Ext.refl ρ, rfl, rfl, rfl, by simp, fun g hg' hn => hw' g (fun e => hn b q hq (by rw [hg]; simp) e.symm), fun a' q' h1' h2' _ => ⟨a', q', h1', hne a' h2', rfl⟩⟩
    have h5' : ch < 128 := h5
    refine OpRun.value (vv := .tuple #[.bool true, goInt pos, .int .i32 (ch : Int)]) (fun z hz => ?_) ⟨ρ, _, _, h8, ⟨[.bool true, goInt pos, .int .i32 (ch : Int)], ⟨rfl, i64_of (by omega), ⟨.i32, rfl, by show ch < 4294967296; omega, by rw [sgn_pos .i32 (by show ch < 2147483648; omega)]⟩, trivial⟩, rfl⟩, H', F'⟩
    have hr : (Instr.next (.pointer (some ⟨q.b, 0, none⟩)) true z.type).run P w = .ok (.tuple #[.bool true, goInt pos, .int .i32 (ch : Int)]) { w with heap := w.heap.setIfInBounds q.b (.stringIter ⟨⟨pre ++ (ch :: rest).map UInt8.ofNat⟩⟩ (pos + 1)) } := by
      unfold Instr.next
      have hn : pos < (⟨⟨pre ++ (ch :: rest).map UInt8.ofNat⟩⟩ : ByteArray).size := by rw [hsz]; simp
      have hget : ((⟨⟨pre ++ (ch :: rest).map UInt8.ofNat⟩⟩ : ByteArray).get! (pos + 0)) = UInt8.ofNat ch := by
        show (Array.mk (pre ++ (ch :: rest).map UInt8.ofNat))[pos + 0]! = _
        simp [← hpre]
      have hdec : Utf8.decode ⟨⟨pre ++ (ch :: rest).map UInt8.ofNat⟩⟩ pos = (ch, 1) := by
        unfold Utf8.decode
        have e1 : (UInt8.ofNat ch).toNat = ch := by simp; omega
        simp only [hget, e1]
        rw [if_pos h5']
      have hset : (setObj q.b (.stringIter ⟨⟨pre ++ (ch :: rest).map UInt8.ofNat⟩⟩ (pos + 1))).run P w = .ok () { w with heap := w.heap.setIfInBounds q.b (.stringIter ⟨⟨pre ++ (ch :: rest).map UInt8.ofNat⟩⟩ (pos + 1)) } := by
        simp [setObj, Sem.run, hblk]
      simp only [Sem.run_bind, hgo, Result.andThen_ok, hn, if_true, hdec, hset, Sem.run_pure]
    simp only [execOp, hz, e, Nat.add_zero]
    rw [Sem.run_bind, hr]
    rfl
end
end Go.Ev
