/- The evaluator is right, ninth part: functions made, indices into texts and arrays, cuts, conversions of numbers, structs out of parts. No condition. -/
import Derived.Test.YtlamohamhbhkjaaGreatDoorS8
namespace Go.Ev
open Go.RowKit Go.Eng

section
variable {P : Program} {fm : List (Nat × Nat)} {nt : Nat} {ρ : Rho} {f : St} {L : Lm} {s : St} {a : Act} {r : V × Hp} {c : Call} {h : Hp} {k : Cn}
theorem ofOs_inv {o : Operand → Option O} : ∀ {xs : List Operand} {ys : List O}, ofOs o xs = some ys → xs.length = ys.length ∧ ∀ (i : Nat) (x : Operand), xs[i]? = some x → ∃ y, ys[i]? = some y ∧ o x = some y
  | [], ys, h => by simp only [ofOs, Option.some.injEq] at h; subst h; exact ⟨rfl, fun i x hx => by simp at hx⟩
  | x :: xs, ys, h => by
    simp only [ofOs] at h
    split at h
    · rename_i y hy
      split at h
      · rename_i l hl
        simp only [Option.some.injEq] at h
        subst h
        obtain ⟨h1, h2⟩ := ofOs_inv hl
        refine ⟨by simp [h1], fun i z hz => ?_⟩
        cases i with
        | zero => simp only [List.getElem?_cons_zero, Option.some.injEq] at hz; subst hz; exact ⟨y, rfl, hy⟩
        | succ i => simpa using h2 i z (by simpa using hz)
      · cases h
    · cases h
theorem opds (A' : AR fm nt ρ f L s a) : ∀ {xs : List Operand} {ys : List O}, ofOs (ofO fm L s.length) xs = some ys → VRs ρ (oVs ys f s) (xs.map a.eval)
  | [], ys, h => by simp only [ofOs, Option.some.injEq] at h; subst h; exact trivial
  | x :: xs, ys, h => by
    simp only [ofOs] at h
    split at h
    · rename_i y hy
      split at h
      · rename_i l hl
        simp only [Option.some.injEq] at h
        subst h
        exact ⟨A'.opd hy, opds A' hl⟩
      · cases h
    · cases h
theorem capsC_inv (A' : AR fm nt ρ f L s a) : ∀ {xs : List Operand} {ys : List O} {kk : List (Pth × Nat) → A}, ofOs (ofO fm L s.length) xs = some ys → capsC ys f s kk = some r → ∃ l, kk l = some r ∧ ptrs ρ l (xs.map a.eval)
  | [], ys, kk, h, hk => by simp only [ofOs, Option.some.injEq] at h; subst h; exact ⟨[], hk, trivial⟩
  | x :: xs, ys, kk, h, hk => by
    simp only [ofOs] at h
    split at h
    · rename_i y hy
      split at h
      · rename_i l hl
        simp only [Option.some.injEq] at h
        subst h
        obtain ⟨b, o, hb, h1⟩ := toP_inv (show toP (oV y f s) (fun a o => capsC l f s (fun r => kk ((a, o) :: r))) = some r from hk)
        obtain ⟨m, h2, h3⟩ := capsC_inv A' hl h1
        have h4 := A'.opd hy
        rw [hb] at h4
        exact ⟨_, h2, h4, h3⟩
      · cases h
    · cases h
theorem p_mkf (A' : AR fm nt ρ f L s a) {n : Nat} {fs cs : List Operand} {x y : List O} (hx : ofOs (ofO fm L s.length) fs = some x) (hy : ofOs (ofO fm L s.length) cs = some y) (hk : xMkf n x y c f s h k = some r) :
    ∃ v vv, k v h = some r ∧ VR ρ v vv ∧ PureAt P (.makeFunc (.func n) fs.toArray cs.toArray) a vv := by
  obtain ⟨l, h1, h2⟩ := capsC_inv A' hx hk
  obtain ⟨m, h3, h4⟩ := capsC_inv A' hy h1
  exact ⟨_, _, h3, ⟨_, _, h2, h4, rfl⟩, fun o ho w => by simp [execOp, ho, Instr.makeFunc]⟩
theorem p_cap (A' : AR fm nt ρ f L s a) {x : Operand} {t el : Nat} {p : O} (hu : P.underlying t = some (.slice el)) (hx : ofO fm L s.length x = some p) (hk : xCap p c f s h k = some r) :
    ∃ v vv, k v h = some r ∧ VR ρ v vv ∧ PureAt P (.call ⟨.builtin .cap, #[x], #[t]⟩) a vv := by
  have run : ∀ (ad : Option Addr) (n cp : Nat), a.eval x = .slice ad n cp → PureAt P (.call ⟨.builtin .cap, #[x], #[t]⟩) a (.int .i64 (cp : Int)) := fun ad n cp e o ho w => by
    have : (Builtin.cap_ #[t] o.type #[.slice ad n cp]).run P w = .ok (.int .i64 cp) w := by
      unfold Builtin.cap_
      simp [run_underlying hu w, goInt]
    simp [execOp, ho, resolve, invoke, builtin, e, this]
  obtain ⟨cx, hc, h1⟩ := toC_inv hk
  obtain ⟨d, rfl, h2⟩ := cD_inv h1
  have h3 := A'.opd hx
  rw [hc] at h3
  cases d with
  | ns => obtain ⟨h4, h5⟩ := lt_inv (show lt 0 9223372036854775808 (k (vI 3 0) h) = some r from h2); exact ⟨_, _, h5, i64_of h4, run _ _ _ h3⟩
  | sl b o n cp =>
    obtain ⟨q, _, h6, _⟩ := h3
    obtain ⟨h4, h5⟩ := lt_inv (show lt cp 9223372036854775808 (k (vI 3 cp) h) = some r from h2)
    exact ⟨_, _, h5, i64_of h4, run _ _ _ h6⟩
  | _ => exact nN h2
theorem u8_of {n : Nat} (h : n < 256) : VR ρ (vI 4 n) (.int .u8 (n : Int)) := ⟨.u8, rfl, h, by rw [sgn_pos .u8 h]⟩
theorem p_ixT (A' : AR fm nt ρ f L s a) {x y : Operand} {t : Nat} {p q : O} (hu : P.underlying t = some .string) (hx : ofO fm L s.length x = some p) (hy : ofO fm L s.length y = some q) (hk : xIxT p q c f s h k = some r) :
    ∃ v vv, k v h = some r ∧ VR ρ v vv ∧ PureAt P (.index t x y) a vv := by
  obtain ⟨kd, j, h1, h2⟩ := ixN_inv (A'.opd hy) hk
  obtain ⟨l, hl, h3⟩ := toS_inv h1
  obtain ⟨ch, h4, h5⟩ := nthC_inv h3
  have h6 := A'.opd hx
  rw [hl] at h6
  have h7 : a.eval x = S (l.map UInt8.ofNat) := h6.1
  have hch : ch < 256 := h6.2 ch (List.mem_of_getElem? h4)
  refine ⟨_, _, h5, u8_of hch, fun o ho w => ?_⟩
  have hc : (l.map UInt8.ofNat)[j]? = some (UInt8.ofNat ch) := by rw [List.getElem?_map, h4]; rfl
  have hlt : j < (l.map UInt8.ofNat).length := (List.getElem?_eq_some_iff.1 hc).1
  have h8 : (ByteArray.mk ⟨l.map UInt8.ofNat⟩)[j]? = some (UInt8.ofNat ch) := by
    rw [getElem?_pos (ByteArray.mk ⟨l.map UInt8.ofNat⟩) j hlt]
    rw [List.getElem?_eq_getElem hlt] at hc
    simpa [ByteArray.getElem_eq_getElem_data] using hc
  have hr : (Instr.index t (S (l.map UInt8.ofNat)) (.int kd (j : Int))).run P w = .ok (.int .u8 (ch : Int)) w := by
    unfold Instr.index
    simp only [asIntOf, Sem.run_bind, Sem.run_pure, Result.andThen_ok, run_underlying hu w, S]
    simp [h8, Nat.mod_eq_of_lt hch]
  simp only [execOp, ho, h7, h2]
  rw [Sem.run_bind, hr]
  rfl
theorem aggV_one {t : Nat} (ha : aggV P t = some none) : ∃ D, P.underlying t = some D ∧ isAggD D = false ∧ sizeV P t = some 1 := by
  unfold aggV at ha
  split at ha
  · rename_i D hu
    split at ha
    · rename_i i hi
      split at ha
      · cases ha
      · rename_i hd
        split at ha
        · rename_i h1
          exact ⟨D, hu, hd, by unfold sizeV; rw [hi]; simp [beq_inv h1]⟩
        · cases ha
    · cases ha
  · cases ha
theorem aggV_agg {t n : Nat} (ha : aggV P t = some (some n)) : ∃ D, P.underlying t = some D ∧ isAggD D = true ∧ sizeV P t = some n := by
  unfold aggV at ha
  split at ha
  · rename_i D hu
    split at ha
    · rename_i i hi
      split at ha
      · rename_i hd
        simp only [Option.some.injEq] at ha
        exact ⟨D, hu, hd, by unfold sizeV; rw [hi]; simp [ha]⟩
      · split at ha <;> cases ha
    · cases ha
  · cases ha
theorem p_ixG (A' : AR fm nt ρ f L s a) {x y : Operand} {t el len : Nat} {p q : O} (hu : P.underlying t = some (.array len el)) (he : aggV P el = some none) (hx : ofO fm L s.length x = some p) (hy : ofO fm L s.length y = some q) (hk : xIxG len p q c f s h k = some r) :
    ∃ v vv, k v h = some r ∧ VR ρ v vv ∧ PureAt P (.index t x y) a vv := by
  obtain ⟨kd, j, h1, h2⟩ := ixN_inv (A'.opd hy) hk
  obtain ⟨l, hl, h3⟩ := toG_inv h1
  obtain ⟨h0, h3⟩ := lt_inv h3
  obtain ⟨ch, h4, h5⟩ := nthC_inv h3
  have h6 := A'.opd hx
  rw [hl] at h6
  obtain ⟨vs, h7, h8⟩ := h6
  obtain ⟨v, h9, h10⟩ := CRs.get h7 h4
  obtain ⟨D, hD, hd, hs⟩ := aggV_one he
  refine ⟨_, v, h5, h10, fun o ho w => ?_⟩
  have hlt : j < vs.length := (List.getElem?_eq_some_iff.1 h9).1
  have hp := run_part_pv hs hD (fun _ => rfl) vs j (by omega) w
  have e : pvT P el ((vs.drop j).take 1) = v := by
    rw [pv_one hD hd, List.drop_eq_getElem_cons hlt]
    rw [List.getElem?_eq_getElem hlt, Option.some.injEq] at h9
    exact h9
  rw [e] at hp
  have hr : (Instr.index t (.agg vs.toArray) (.int kd (j : Int))).run P w = .ok v w := by
    unfold Instr.index
    simp only [asIntOf, Sem.run_bind, Sem.run_pure, Result.andThen_ok, run_underlying hu w]
    have hj : 0 ≤ (j : Int) ∧ (j : Int) < (len : Int) := by omega
    simp only [if_pos hj, Sem.run_bind, size_run hs w, Result.andThen_ok, Int.toNat_natCast, Nat.mul_one]
    exact hp
  simp only [execOp, ho, h8, h2]
  rw [Sem.run_bind, hr]
  rfl
/-! ### Cuts -/
theorem ofOo_inv {o : Operand → Option O} {x : Option Operand} {y : Option O} (h : ofOo o x = some y) : (x = none ∧ y = none) ∨ ∃ z u, x = some z ∧ y = some u ∧ o z = some u := by
  cases x with
  | none => simp only [ofOo, Option.some.injEq] at h; exact .inl ⟨rfl, h.symm⟩
  | some z =>
    simp only [ofOo] at h
    split at h
    · rename_i u hu; simp only [Option.some.injEq] at h; exact .inr ⟨z, u, rfl, h.symm, hu⟩
    · cases h
/-- A bound of a cut: not told, or a number. -/
def Bnd (x : Option Value) (d j : Nat) : Prop := (x = none ∧ j = d) ∨ ∃ kd, x = some (.int kd (j : Int))
theorem bnd_inv (A' : AR fm nt ρ f L s a) {x : Option Operand} {y : Option O} {d : Nat} {kk : Nat → A} (h : ofOo (ofO fm L s.length) x = some y) (hk : bnd y d f s kk = some r) : ∃ j, kk j = some r ∧ Bnd (x.map a.eval) d j := by
  rcases ofOo_inv h with ⟨rfl, rfl⟩ | ⟨z, u, rfl, rfl, hz⟩
  · exact ⟨d, hk, .inl ⟨rfl, rfl⟩⟩
  · obtain ⟨kd, j, h1, h2⟩ := ixN_inv (A'.opd hz) (show ixN (oV u f s) kk = some r from hk)
    exact ⟨j, h1, .inr ⟨kd, by simp [h2]⟩⟩
theorem run_bounds {isS : Bool} {len cap i j : Nat} {lo hi : Option Value} (hlo : Bnd lo 0 i) (hhi : Bnd hi len j) (hij : i ≤ j) (hj : j ≤ cap) (w : World) :
    (Instr.sliceBounds isS len cap lo hi none).run P w = .ok (i, j, cap) w := by
  rcases hlo with ⟨rfl, rfl⟩ | ⟨k, rfl⟩ <;> rcases hhi with ⟨rfl, rfl⟩ | ⟨k', rfl⟩ <;>
    simp [Instr.sliceBounds, Instr.sliceBound, asIntOf, hij, hj]
theorem p_cutT (A' : AR fm nt ρ f L s a) {x : Operand} {lo hi : Option Operand} {t : Nat} {p : O} {lo' hi' : Option O} (hu : P.underlying t = some .string) (hx : ofO fm L s.length x = some p) (hl : ofOo (ofO fm L s.length) lo = some lo') (hh : ofOo (ofO fm L s.length) hi = some hi') (hk : xCutT p lo' hi' c f s h k = some r) :
    ∃ v vv, k v h = some r ∧ VR ρ v vv ∧ PureAt P (.slice t x lo hi none) a vv := by
  obtain ⟨l, hl', h1⟩ := toS_inv hk
  obtain ⟨i, h2, hlo⟩ := bnd_inv A' hl h1
  obtain ⟨j, h3, hhi⟩ := bnd_inv A' hh h2
  obtain ⟨h4, h5⟩ := ifT_inv h3
  obtain ⟨h6, h7⟩ := segC_inv h5
  have hij := ble_inv h4
  rw [lenN_eq] at hhi
  have h8 := A'.opd hx
  rw [hl'] at h8
  have h9 : a.eval x = S (l.map UInt8.ofNat) := h8.1
  have hsub : i.add (j.sub i) = j := by show i + (j - i) = j; omega
  have h6' : j ≤ l.length := by rw [← hsub]; exact h6
  refine ⟨_, S (((l.map UInt8.ofNat).take j).drop i), h7, ⟨?_, fun z hz => h8.2 z (List.mem_of_mem_drop (List.mem_of_mem_take hz))⟩, fun o ho w => ?_⟩
  · congr 2
    show _ = List.map UInt8.ofNat (List.take (j - i) (List.drop i l))
    rw [List.map_take, List.map_drop, List.drop_take]
  · have hr : (Instr.sliceAt t (S (l.map UInt8.ofNat)) (lo.map a.eval) (hi.map a.eval) none).run P w = .ok (S (((l.map UInt8.ofNat).take j).drop i)) w := by
      unfold Instr.sliceAt
      rw [Sem.run_bind, run_underlying hu w]
      simp only [Result.andThen_ok]
      unfold Instr.slice
      rw [Sem.run_bind, run_underlying hu w]
      simp only [Result.andThen_ok, S]
      have hb := run_bounds (P := P) (isS := false) (len := l.length) (cap := l.length) hlo hhi hij h6' w
      simp only [Option.isSome_none, Bool.false_eq_true, if_false, S_len]
      simp [hb, extract_mk]
    simp only [execOp, ho, h9]
    rw [Sem.run_bind]
    simp only [Option.map_none]
    rw [hr]
    rfl
theorem add0 (ad : Addr) : ad.add 0 = ad := by
  unfold Addr.add
  cases ad with | mk b o sp => cases sp <;> simp
theorem p_cutL (A' : AR fm nt ρ f L s a) {x : Operand} {lo hi : Option Operand} {t el n : Nat} {p : O} {lo' hi' : Option O} (hu : P.underlying t = some (.slice el)) (hs : sizeV P el = some n) (hx : ofO fm L s.length x = some p) (hl : ofOo (ofO fm L s.length) lo = some lo') (hh : ofOo (ofO fm L s.length) hi = some hi') (hk : xCutL n p lo' hi' c f s h k = some r) :
    ∃ v vv, k v h = some r ∧ VR ρ v vv ∧ PureAt P (.slice t x lo hi none) a vv := by
  have hxv := A'.opd hx
  obtain ⟨m, h1, hm⟩ := len_inv hxv hk
  obtain ⟨i, h2, hlo⟩ := bnd_inv A' hl h1
  obtain ⟨j, h3, hhi⟩ := bnd_inv A' hh h2
  obtain ⟨h4, h5⟩ := ifT_inv h3
  obtain ⟨h6, h7⟩ := ifT_inv h5
  have hij := ble_inv h4
  have hjm := ble_inv h6
  obtain ⟨cx, hcx, h8⟩ := toC_inv h7
  obtain ⟨d, rfl, h9⟩ := cD_inv h8
  rw [hcx] at hxv
  have run : ∀ (ad : Option Addr) (cp : Nat) (ad' : Option Addr), a.eval x = .slice ad m cp → m ≤ cp → (if cp = i then ad else ad.map (·.add (i * n))) = ad' → PureAt P (.slice t x lo hi none) a (.slice ad' (j - i) (cp - i)) := fun ad cp ad' e hcp had o ho w => by
    have hr : (Instr.sliceAt t (.slice ad m cp) (lo.map a.eval) (hi.map a.eval) none).run P w = .ok (.slice ad' (j - i) (cp - i)) w := by
      unfold Instr.sliceAt
      rw [Sem.run_bind, run_underlying hu w]
      simp only [Result.andThen_ok]
      unfold Instr.slice
      rw [Sem.run_bind, run_underlying hu w]
      simp only [Result.andThen_ok]
      have hb := run_bounds (P := P) (isS := true) (len := m) (cap := cp) hlo hhi hij (Nat.le_trans hjm hcp) w
      simp [hb, size_run hs w, had]
    simp only [execOp, ho, e]
    rw [Sem.run_bind]
    simp only [Option.map_none]
    rw [hr]
    rfl
  have hlen : ∀ {ad : Option Addr} {z cp : Nat}, a.eval x = .slice ad z cp → m = z := fun e => by
    rcases hm with ⟨ad', cp', e'⟩ | ⟨l, e', _⟩
    · rw [e] at e'; simp only [Value.slice.injEq] at e'; exact e'.2.1.symm
    · rw [e] at e'; cases e'
  cases d with
  | ns =>
    obtain ⟨h10, h11⟩ := ifT_inv (show ifT (Nat.beq j 0) (k (.c (.o .ns)) h) = some r from h9)
    have e : a.eval x = .slice none 0 0 := hxv
    have hj0 := beq_inv h10
    have hm0 := hlen e
    have hi0 : i = 0 := by omega
    subst hi0; subst hj0; subst hm0
    exact ⟨_, .slice none 0 0, h11, rfl, run none 0 none e (Nat.le_refl _) (by simp)⟩
  | sl b o z cp =>
    obtain ⟨q, hq, e, hcp⟩ := hxv
    have hm0 := hlen e
    subst hm0
    have h10 : cutE n b o cp i j (fun v => k v h) = some r := h9
    unfold cutE at h10
    rw [fN_eq, fN_eq] at h10
    rcases ifE_inv h10 with ⟨h11, h12⟩ | ⟨h11, h12⟩
    · have := beq_inv h11
      exact ⟨_, .slice (some ⟨q.b, q.s + o, none⟩) (j - i) (cp - i), h12, ⟨q, hq, rfl, Nat.sub_le_sub_right (Nat.le_trans hjm hcp) i⟩, run _ _ _ e hcp (by simp [this])⟩
    · rw [fN_eq] at h12
      have : cp ≠ i := fun e => by subst e; simp at h11
      exact ⟨_, .slice (some ⟨q.b, q.s + (o + i * n), none⟩) (j - i) (cp - i), h12, ⟨q, hq, rfl, Nat.sub_le_sub_right (Nat.le_trans hjm hcp) i⟩, run _ _ _ e hcp (by simp [this, addr_add, Nat.add_assoc])⟩
  | sh b o z w' =>
    obtain ⟨q, cp, hq, e, hcp, hz⟩ := hxv
    have hm0 := hlen e
    subst hm0
    have h10 : cutH w' n b o m i j (fun v => k v h) = some r := h9
    unfold cutH at h10
    obtain ⟨hw, h10⟩ := ifT_inv h10
    have hw' := beq_inv hw
    subst hw'
    rcases ifE_inv h10 with ⟨h11, h12⟩ | ⟨h11, h12⟩
    · have hi0 := beq_inv h11
      subst hi0
      refine ⟨_, .slice (some ⟨q.b, q.s + o, none⟩) (j - 0) (cp - 0), h12, ⟨q, cp, hq, rfl, Nat.le_trans hjm hcp, hz⟩, run _ _ _ e hcp ?_⟩
      by_cases h0 : cp = 0
      · simp [h0]
      · simp [h0, add0]
    · rcases ifE_inv h12 with ⟨h13, h14⟩ | ⟨h13, h14⟩
      · have hlt := ble_inv h13
        rw [fN_eq, fN_eq] at h14
        have hlt' : i < m := hlt
        have hne : cp ≠ i := by omega
        refine ⟨_, .slice (some ⟨q.b, q.s + (o + i * w'), none⟩) (j - i) (cp - i), h14, ⟨q, cp - i, hq, rfl, Nat.sub_le_sub_right (Nat.le_trans hjm hcp) i, ?_⟩, run _ _ _ e hcp (by simp [hne, addr_add, Nat.add_assoc])⟩
        have : i * w' + (cp - i) * w' = cp * w' := by rw [← Nat.add_mul]; congr 1; omega
        show q.s + (o + i * w') + (cp - i) * w' = q.z
        omega
      · have hge : ¬ i < m := fun hlt => by
          have : Nat.ble (Nat.succ i) m = true := Nat.ble_eq_true_of_le hlt
          rw [this] at h13; cases h13
        have hi : i = j := by omega
        subst hi
        refine ⟨_, .slice (if cp = i then (some ⟨q.b, q.s + o, none⟩) else some ⟨q.b, q.s + o + i * w', none⟩) (i - i) (cp - i), h14, ?_, run _ _ _ e hcp (by simp [addr_add])⟩
        rw [Nat.sub_self]
        split
        · exact ⟨_, _, rfl⟩
        · exact ⟨_, _, rfl⟩
  | se =>
    obtain ⟨ad, cp, e⟩ := hxv
    obtain ⟨h10, h11⟩ := ifT_inv (show ifT (Nat.beq j 0) (k (.c (.o .se)) h) = some r from h9)
    have hj0 := beq_inv h10
    have hm0 := hlen e
    have hi0 : i = 0 := by omega
    subst hi0; subst hj0; subst hm0
    refine ⟨_, .slice (some ad) (0 - 0) (cp - 0), h11, ⟨_, _, rfl⟩, run _ _ _ e (Nat.zero_le _) ?_⟩
    by_cases h0 : cp = 0
    · simp [h0]
    · simp [h0, add0]
  | _ => exact nN h9
theorem p_cutA (A' : AR fm nt ρ f L s a) {x : Operand} {lo hi : Option Operand} {t el n len : Nat} {p : O} {lo' hi' : Option O} (hu : P.underlying t = some (.array len el)) (hs : sizeV P el = some n) (hx : ofO fm L s.length x = some p) (hl : ofOo (ofO fm L s.length) lo = some lo') (hh : ofOo (ofO fm L s.length) hi = some hi') (hk : xCutA len n p lo' hi' c f s h k = some r) :
    ∃ v vv, k v h = some r ∧ VR ρ v vv ∧ PureAt P (.slice t x lo hi none) a vv := by
  have hxv := A'.opd hx
  obtain ⟨b, o, hb, h1⟩ := toP_inv hk
  obtain ⟨i, h2, hlo⟩ := bnd_inv A' hl h1
  obtain ⟨j, h3, hhi⟩ := bnd_inv A' hh h2
  obtain ⟨h4, h5⟩ := ifT_inv h3
  obtain ⟨h6, h7⟩ := ifT_inv h5
  have hij := ble_inv h4
  have hjm := ble_inv h6
  rw [hb] at hxv
  obtain ⟨q, hq, e⟩ := hxv
  have run : ∀ (ad' : Addr), (if len = i then (⟨q.b, q.s + o, none⟩ : Addr) else (⟨q.b, q.s + o, none⟩ : Addr).add (i * n)) = ad' → PureAt P (.slice t x lo hi none) a (.slice (some ad') (j - i) (len - i)) := fun ad' had o' ho w => by
    have hr : (Instr.sliceAt t (.pointer (some ⟨q.b, q.s + o, none⟩)) (lo.map a.eval) (hi.map a.eval) none).run P w = .ok (.slice (some ad') (j - i) (len - i)) w := by
      unfold Instr.sliceAt
      rw [Sem.run_bind, run_underlying hu w]
      simp only [Result.andThen_ok]
      have hb := run_bounds (P := P) (isS := false) (len := len) (cap := len) hlo hhi hij hjm w
      simp [Instr.sureAddr, hb, size_run hs w, had]
    simp only [execOp, ho, e]
    rw [Sem.run_bind]
    simp only [Option.map_none]
    rw [hr]
    rfl
  have h10 : cutE n b o len i j (fun v => k v h) = some r := h7
  unfold cutE at h10
  rw [fN_eq, fN_eq] at h10
  rcases ifE_inv h10 with ⟨h11, h12⟩ | ⟨h11, h12⟩
  · have := beq_inv h11
    exact ⟨_, _, h12, ⟨q, hq, rfl, Nat.sub_le_sub_right hjm i⟩, run _ (by simp [this])⟩
  · rw [fN_eq] at h12
    have : len ≠ i := fun e => by subst e; simp at h11
    exact ⟨_, .slice (some ⟨q.b, q.s + (o + i * n), none⟩) (j - i) (len - i), h12, ⟨q, hq, rfl, Nat.sub_le_sub_right hjm i⟩, run _ (by simp [this, addr_add, Nat.add_assoc])⟩
/-! ### Numbers -/
theorem p_cvi (A' : AR fm nt ρ f L s a) {x : Operand} {t t' : Nat} {kj kk' : IntKind} {p : O} (hu : P.underlying t = some (.int kj)) (hu' : P.underlying t' = some (.int kk')) (hx : ofO fm L s.length x = some p) (hk : xCvi (kc kj) (km kj) (kb kj) (kc kk') (km kk') p c f s h k = some r) :
    ∃ v vv, k v h = some r ∧ VR ρ v vv ∧ PureAt P (.convert t t' x) a vv := by
  have hxv := A'.opd hx
  obtain ⟨ka, n, hn, h1⟩ := toI_inv (show toI (oV p f s) (fun ka a => ifT (Nat.beq ka (kc kj)) (ifE (Nat.ble (kb kj) a) (fI (kc kk') (Nat.mod (Nat.sub (Nat.add a 18446744073709551616) (km kj)) (km kk')) (fun v => k v h)) (fI (kc kk') (Nat.mod a (km kk')) (fun v => k v h)))) = some r from hk)
  obtain ⟨h2, h3⟩ := ifT_inv h1
  rw [hn, beq_inv h2] at hxv
  obtain ⟨hlt, e⟩ := int_of (ρ := ρ) hxv
  have run : ∀ m : Nat, m < km kk' → kk'.wrap (sgn kj n) = sgn kk' m → PureAt P (.convert t t' x) a (.int kk' (sgn kk' m)) := fun m hm hw o ho w => by
    have : (convert t t' (.int kj (sgn kj n))).run P w = .ok (.int kk' (sgn kk' m)) w := by
      unfold convert
      simp only [Sem.run_bind, run_underlying hu w, run_underlying hu' w, Result.andThen_ok, Conv.intToInt, hw]
      rfl
    simp only [execOp, ho, e]
    rw [Sem.run_bind, this]
    rfl
  have hkm := km_pos kk'
  rcases ifE_inv h3 with ⟨h4, h5⟩ | ⟨h4, h5⟩
  · rw [fI_eq] at h5
    have hge := ble_inv h4
    refine ⟨_, _, h5, vI_of (Nat.mod_lt _ hkm), run _ (Nat.mod_lt _ hkm) ?_⟩
    refine wrap_of kk' _ _ ?_
    rcases sgn_or kj n with ⟨h6, _⟩ | ⟨_, h6⟩
    · omega
    · rw [h6]
      have hb : km kj ≤ 18446744073709551616 := by cases kj <;> decide
      have hd : (km kk' : Int) ∣ 18446744073709551616 := by cases kk' <;> decide
      show ((n : Int) - (km kj : Int)) % (km kk' : Int) = (((n + 18446744073709551616 - km kj) % km kk' : Nat) : Int)
      rw [Int.natCast_emod]
      have e2 : ((n + 18446744073709551616 - km kj : Nat) : Int) = ((n : Int) - (km kj : Int)) + 18446744073709551616 := by omega
      rw [e2]
      obtain ⟨z, hz⟩ := hd
      rw [hz, Int.add_mul_emod_self_left]
  · rw [fI_eq] at h5
    have hlt' : n < kb kj := by
      rcases Nat.lt_or_ge n (kb kj) with h | h
      · exact h
      · rw [Nat.ble_eq_true_of_le h] at h4; cases h4
    refine ⟨_, _, h5, vI_of (Nat.mod_lt _ hkm), run _ (Nat.mod_lt _ hkm) ?_⟩
    refine wrap_of kk' _ _ ?_
    rw [sgn_pos kj hlt']
    show (n : Int) % (km kk' : Int) = ((n % km kk' : Nat) : Int)
    rw [Int.natCast_emod]
theorem p_minmax (A' : AR fm nt ρ f L s a) {x y : Operand} {t t' : Nat} {kd : IntKind} {p q : O} (mx : Bool) (hx : ofO fm L s.length x = some p) (hy : ofO fm L s.length y = some q)
    (hk : xBin (if mx then bMax (kc kd) (km kd) (ks kd) else bMin (kc kd) (km kd) (ks kd)) p q c f s h k = some r) :
    ∃ v vv, k v h = some r ∧ VR ρ v vv ∧ PureAt P (.call ⟨.builtin (if mx then .max else .min), #[x, y], #[t, t']⟩) a vv := by
  have hxv := A'.opd hx
  have hyv := A'.opd hy
  cases mx
  · obtain ⟨m, n, e1, e2, h1⟩ := two_inv (show two (kc kd) (oV p f s) (oV q f s) (fun a b => ifE (ltN (km kd) (ks kd) b a) (k (vI (kc kd) b) h) (k (vI (kc kd) a) h)) = some r from hk)
    rw [e1] at hxv
    rw [e2] at hyv
    obtain ⟨hm, e3⟩ := int_of (ρ := ρ) hxv
    obtain ⟨hn, e4⟩ := int_of (ρ := ρ) hyv
    have run : ∀ z : Int, (if sgn kd n < sgn kd m then sgn kd n else sgn kd m) = z → PureAt P (.call ⟨.builtin .min, #[x, y], #[t, t']⟩) a (.int kd z) := fun z hz o ho w => by
      simp [execOp, ho, resolve, invoke, builtin, e3, e4, Builtin.min_, Builtin.min2, hz]
    rcases ifE_inv h1 with ⟨h2, h3⟩ | ⟨h2, h3⟩
    · rw [ltN_eq kd hn hm] at h2
      exact ⟨_, _, h3, vI_of hn, run _ (if_pos (of_decide_eq_true h2))⟩
    · rw [ltN_eq kd hn hm] at h2
      exact ⟨_, _, h3, vI_of hm, run _ (if_neg (of_decide_eq_false h2))⟩
  · obtain ⟨m, n, e1, e2, h1⟩ := two_inv (show two (kc kd) (oV p f s) (oV q f s) (fun a b => ifE (ltN (km kd) (ks kd) a b) (k (vI (kc kd) b) h) (k (vI (kc kd) a) h)) = some r from hk)
    rw [e1] at hxv
    rw [e2] at hyv
    obtain ⟨hm, e3⟩ := int_of (ρ := ρ) hxv
    obtain ⟨hn, e4⟩ := int_of (ρ := ρ) hyv
    have run : ∀ z : Int, (if sgn kd n > sgn kd m then sgn kd n else sgn kd m) = z → PureAt P (.call ⟨.builtin .max, #[x, y], #[t, t']⟩) a (.int kd z) := fun z hz o ho w => by
      simp [execOp, ho, resolve, invoke, builtin, e3, e4, Builtin.max_, Builtin.max2, hz]
    rcases ifE_inv h1 with ⟨h2, h3⟩ | ⟨h2, h3⟩
    · rw [ltN_eq kd hm hn] at h2
      exact ⟨_, _, h3, vI_of hn, run _ (if_pos (of_decide_eq_true h2))⟩
    · rw [ltN_eq kd hm hn] at h2
      exact ⟨_, _, h3, vI_of hm, run _ (if_neg (of_decide_eq_false h2))⟩
theorem p_s2a (A' : AR fm nt ρ f L s a) {x : Operand} {t n el : Nat} {p : O} (hu : P.underlying t = some (.array n el)) (hx : ofO fm L s.length x = some p) (hk : xS2a n p c f s h k = some r) :
    ∃ v vv, k v h = some r ∧ VR ρ v vv ∧ PureAt P (.sliceToArrayPointer t x) a vv := by
  rcases toL_inv (A'.opd hx) hk with ⟨h1, _⟩ | ⟨b, o, m, q, cp, h1, h2, h3, h4⟩
  · exact nN h1
  · obtain ⟨h5, h6⟩ := ifT_inv h1
    have := ble_inv h5
    refine ⟨_, _, h6, ⟨q, h2, rfl⟩, fun o' ho w => ?_⟩
    have hr : (Instr.arrayAt t (.slice (some ⟨q.b, q.s + o, none⟩) m cp)).run P w = .ok (.pointer (some ⟨q.b, q.s + o, none⟩)) w := by
      unfold Instr.arrayAt
      have hn : ¬ m < n := by omega
      simp [run_underlying hu w, hn]
    simp only [execOp, ho, h3]
    rw [Sem.run_bind, hr]
    rfl
/-! ### Out of parts -/
theorem foldl_ow : ∀ (vs l : List Value) (off i : Nat), off + i + vs.length ≤ l.length →
    ((vs.zipIdx i).foldl (fun cs (x : Value × Nat) => cs.setIfInBounds (off + x.2) x.1) l.toArray) = (Eng.ow l (off + i) vs).toArray
  | [], l, off, i, h => by simp [Eng.ow]
  | v :: vs, l, off, i, h => by
    simp only [List.length_cons] at h
    rw [List.zipIdx_cons, List.foldl_cons]
    have e : (l.toArray.setIfInBounds (off + i) v) = (l.set (off + i) v).toArray := by simp
    rw [e, foldl_ow vs (l.set (off + i) v) off (i + 1) (by simp; omega)]
    congr 1
    unfold Eng.ow
    apply List.ext_getElem?
    intro j
    have hl1 : (l.set (off + i) v).length = l.length := by simp
    rw [ow_get (l.set (off + i) v) vs (off + (i + 1)) j (by rw [hl1]; omega), ow_get l (v :: vs) (off + i) j (by simp; omega)]
    simp only [List.length_cons, List.getElem?_set]
    by_cases h1 : j < off + i
    · rw [if_pos (by omega), if_pos h1, if_neg (by omega)]
    · rw [if_neg h1]
      by_cases h2 : j = off + i
      · subst h2
        rw [if_pos (by omega), if_pos rfl, if_pos (by omega), if_pos (by omega)]
        simp
      · rw [if_neg (by omega)]
        by_cases h3 : j < off + i + (vs.length + 1)
        · rw [if_pos (by omega), if_pos h3, show j - (off + i) = (j - (off + (i + 1))) + 1 by omega]
          simp
        · rw [if_neg (by omega), if_neg h3, if_neg (fun e => h2 e.symm)]
theorem cells_inv {v : V} {vv : Value} {kk : List C → A} (hv : VR ρ v vv) (hk : cellsC v kk = some r) : ∃ cs vs, kk cs = some r ∧ CRs ρ cs vs ∧ vv.cells = vs.toArray := by
  cases v with
  | c x =>
    refine ⟨[x], [vv], hk, ⟨hv, trivial⟩, ?_⟩
    have := CR.one hv
    cases vv <;> first | rfl | cases this
  | g l => obtain ⟨vs, h1, rfl⟩ := hv; exact ⟨l, vs, hk, h1, rfl⟩
  | t l => exact nN hk
  | u => exact nN hk
/-- Parts, as the model lays them. -/
def PartsOk (P : Program) (o : Operand → Option O) (place : Nat → Option (Nat × Nat)) : List (Nat × Operand) → List Pt → Prop
  | [], [] => True
  | (i, x) :: l, .mk off n y :: m => place i = some (off, n) ∧ o x = some y ∧ PartsOk P o place l m
  | _, _ => False
theorem fillC_inv (A' : AR fm nt ρ f L s a) {place : Nat → Option (Nat × Nat)} : ∀ {ps : List (Nat × Operand)} {qs : List Pt} {z : List C} {zl : List Value} {kk : List C → A}, PartsOk P (ofO fm L s.length) place ps qs → CRs ρ z zl → fillC qs f s z kk = some r →
    ∃ z' zl', kk z' = some r ∧ CRs ρ z' zl' ∧ zl'.length = zl.length ∧ Instr.fill place zl.toArray (ps.map fun x => (x.1, a.eval x.2)) = some zl'.toArray
  | [], [], z, zl, kk, _, hz, hk => ⟨z, zl, hk, hz, rfl, rfl⟩
  | [], _ :: _, _, _, _, h, _, _ => h.elim
  | _ :: _, [], _, _, _, h, _, _ => h.elim
  | (i, x) :: ps, .mk off n y :: qs, z, zl, kk, ⟨h1, h2, h3⟩, hz, hk => by
    obtain ⟨cs, vs, h4, h5, h6⟩ := cells_inv (A'.opd h2) (show cellsC (oV y f s) (fun c => ifT (Nat.beq (lenN c) n) (owC off c z (fun z' => fillC qs f s z' kk))) = some r from hk)
    obtain ⟨h7, h8⟩ := ifT_inv h4
    obtain ⟨h9, h10⟩ := owC_inv h8
    have e1 := CRs.len h5
    have e2 := CRs.len hz
    have e3 := beq_inv h7
    rw [lenN_eq] at e3
    have hz' := CRs.ow (s := 0) (o := off) (l := zl) (by rw [List.drop_zero, e2, List.take_length]; exact hz) h5 h9 (by omega)
    have hlen : (Eng.ow zl off vs).length = zl.length := by simp [Eng.ow]; omega
    have hz2 : CRs ρ (z.take off ++ (cs ++ z.drop (off + cs.length))) (Eng.ow zl off vs) := by
      have : (z.take off ++ (cs ++ z.drop (off + cs.length))).length = (Eng.ow zl off vs).length := by rw [hlen]; simp; omega
      rw [this] at hz'
      simpa using hz'
    obtain ⟨z', zl', h11, h12, h13, h14⟩ := fillC_inv A' h3 hz2 h10
    refine ⟨z', zl', h11, h12, h13.trans hlen, ?_⟩
    simp only [List.map_cons, Instr.fill, h1, h6]
    have hsz : vs.toArray.size = n := by simp; omega
    have hno : (vs.toArray.size ≠ n || off + vs.toArray.size > zl.toArray.size) = false := by simp; omega
    simp only [hno, Bool.false_eq_true, if_false]
    have hf := foldl_ow vs zl off 0 (by omega)
    have : (vs.toArray.zipIdx.foldl (fun cs (x : Value × Nat) => cs.setIfInBounds (off + x.2) x.1) zl.toArray) = (Eng.ow zl off vs).toArray := by
      simpa using hf
    rw [this]
    exact h14
theorem zeroV_inv {t : Nat} {z : List C} (h : zeroV P t = some z) (ρ : Rho) : ∃ i zv, P.info? t = some i ∧ i.zero = some zv ∧ CRs ρ z zv.cells.toList := by
  unfold zeroV at h
  split at h
  · rename_i l hl
    split at h
    · rename_i ho
      simp only [Option.some.injEq] at h
      subst h
      unfold zeroOf at hl
      split at hl
      · rename_i i hi
        split at hl
        · rename_i zv hz
          simp only [Option.some.injEq] at hl
          subst hl
          exact ⟨i, zv, hi, hz, CRs_ofCs ρ ho⟩
        · cases hl
      · cases hl
    · cases h
  · cases h
theorem partsV_ok {o : Operand → Option O} {fs : Array Field} : ∀ {ps : List (Nat × Operand)} {qs : List Pt}, partsV P o fs ps = some qs →
    PartsOk P o (fun j => match fs[j]? with | some f => (match P.info? f.type with | some x => some (f.offset, x.size) | none => none) | none => none) ps qs
  | [], qs, h => by simp only [partsV, Option.some.injEq] at h; subst h; exact trivial
  | (i, x) :: ps, qs, h => by
    simp only [partsV] at h
    split at h
    · rename_i fd hf
      split at h
      · rename_i kz hk
        split at h
        · rename_i y hy
          split at h
          · rename_i l hl
            simp only [Option.some.injEq] at h
            subst h
            refine ⟨?_, hy, partsV_ok hl⟩
            unfold sizeV at hk
            split at hk
            · rename_i inf hi; simp only [Option.some.injEq] at hk; simp [hf, hi, hk]
            · cases hk
          · cases h
        · cases h
      · cases h
    · cases h
theorem p_bldS (A' : AR fm nt ρ f L s a) {t : Nat} {fs : Array Field} {ps : List (Nat × Operand)} {qs : List Pt} {z : List C} (hu : P.underlying t = some (.struct fs)) (hok : bldOk P t = true) (hz : zeroV P t = some z) (hp : partsV P (ofO fm L s.length) fs ps = some qs) (hk : xBld z qs c f s h k = some r) :
    ∃ v vv, k v h = some r ∧ VR ρ v vv ∧ PureAt P (.build t ps.toArray) a vv := by
  obtain ⟨i, zv, hi, hzv, hcz⟩ := zeroV_inv hz ρ
  obtain ⟨z', zl', h1, h2, h3, h4⟩ := fillC_inv A' (partsV_ok hp) hcz hk
  refine ⟨_, .agg zl'.toArray, h1, ⟨zl', h2, rfl⟩, fun o ho w => ?_⟩
  have hb : buildC P t (ps.map fun x => (x.1, a.eval x.2)) = some zl' := by
    unfold buildC
    rw [hi]
    simp only [hzv, hu]
    have e0 : zv.cells = zv.cells.toList.toArray := by simp
    rw [e0]
    split
    · rename_i cs hcs
      have := h4.symm.trans hcs
      simp only [Option.some.injEq] at this
      rw [← this]
    · rename_i hcs
      have := h4.symm.trans hcs
      cases this
  have h5 := run_buildC hb hok w
  simp only [execOp, ho, List.map_toArray]
  rw [show List.map (fun x : Nat × Operand => match x with | (i, x) => (i, a.eval x)) ps = (ps.map fun x => (x.1, a.eval x.2)) from rfl, Sem.run_bind, h5]
  rfl
theorem partsL_ok {o : Operand → Option O} {n : Nat} : ∀ {ps : List (Nat × Operand)} {qs : List Pt}, partsL o n ps = some qs → PartsOk P o (fun j => some (j * n, n)) ps qs
  | [], qs, h => by simp only [partsL, Option.some.injEq] at h; subst h; exact trivial
  | (i, x) :: ps, qs, h => by
    simp only [partsL] at h
    split at h
    · rename_i y hy
      split at h
      · rename_i l hl
        simp only [Option.some.injEq] at h
        subst h
        exact ⟨rfl, hy, partsL_ok hl⟩
      · cases h
    · cases h
theorem p_bldA (A' : AR fm nt ρ f L s a) {t n el kz : Nat} {ps : List (Nat × Operand)} {qs : List Pt} {z : List C} (hu : P.underlying t = some (.array n el)) (hs : sizeV P el = some kz) (hz : zeroV P t = some z) (hp : partsL (ofO fm L s.length) kz ps = some qs) (hk : xBld z qs c f s h k = some r) :
    ∃ v vv, k v h = some r ∧ VR ρ v vv ∧ PureAt P (.build t ps.toArray) a vv := by
  obtain ⟨i, zv, hi, hzv, hcz⟩ := zeroV_inv hz ρ
  obtain ⟨z', zl', h1, h2, h3, h4⟩ := fillC_inv (P := P) A' (partsL_ok hp) hcz hk
  refine ⟨_, .agg zl'.toArray, h1, ⟨zl', h2, rfl⟩, fun o ho w => ?_⟩
  have h5 : (Instr.build t (ps.map fun x => (x.1, a.eval x.2)).toArray).run P w = .ok (.agg zl'.toArray) w := by
    have hz' : (zeroValue t).run P w = .ok zv w := by simp [zeroValue, typeInfo, hi, hzv]
    unfold Instr.build
    rw [Sem.run_bind, hz']
    simp only [Result.andThen_ok]
    rw [Sem.run_bind, run_underlying hu w]
    simp only [Result.andThen_ok]
    rw [Sem.run_bind, size_run hs w]
    simp only [Result.andThen_ok]
    rw [show zv.cells = zv.cells.toList.toArray by simp, h4]
    rfl
  simp only [execOp, ho, List.map_toArray]
  rw [show List.map (fun x : Nat × Operand => match x with | (i, x) => (i, a.eval x)) ps = (ps.map fun x => (x.1, a.eval x.2)) from rfl, Sem.run_bind, h5]
  rfl
end
end Go.Ev
