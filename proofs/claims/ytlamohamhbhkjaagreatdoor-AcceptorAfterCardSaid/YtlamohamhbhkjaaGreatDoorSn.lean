/- The evaluator is right, twenty-second part: functions that have no code, which the evaluator does on its own. No condition. -/
import Derived.Test.YtlamohamhbhkjaaGreatDoorSm
import Derived.Test.YtlamohamhbhkjaaGreatDoorOr
import Derived.Laws.LoneSync
import Derived.Lib.Bytealg
namespace Go.Ev
open Go.RowKit Go.Eng

section
variable {P : Program} {n : Nat} {r : V × Hp}
theorem a1_inv {k : V → A} {l : St} (h : a1 k l = some r) : ∃ x, l = [x] ∧ k x = some r := by
  obtain ⟨x, t, rfl, h1⟩ := unC_inv h
  cases t with
  | nil => exact ⟨x, rfl, h1⟩
  | cons y t => exact nN h1
theorem a2_inv {k : V → V → A} {l : St} (h : a2 k l = some r) : ∃ x y, l = [x, y] ∧ k x y = some r := by
  obtain ⟨x, t, rfl, h1⟩ := unC_inv h
  obtain ⟨y, rfl, h2⟩ := a1_inv h1
  exact ⟨x, y, rfl, h2⟩
theorem VRs.one {ρ : Rho} {x : V} {vs : List Value} (h : VRs ρ [x] vs) : ∃ v, vs = [v] ∧ VR ρ x v := by
  cases vs with
  | nil => exact h.elim
  | cons v vs =>
    cases vs with
    | nil => exact ⟨v, rfl, h.1⟩
    | cons y vs => exact h.2.elim
theorem VRs.two {ρ : Rho} {x y : V} {vs : List Value} (h : VRs ρ [x, y] vs) : ∃ v u, vs = [v, u] ∧ VR ρ x v ∧ VR ρ y u := by
  cases vs with
  | nil => exact h.elim
  | cons v vs => obtain ⟨u, rfl, h2⟩ := VRs.one h.2; exact ⟨v, u, rfl, h.1, h2⟩
theorem st_cell {w w' : World} {ad : Addr} {u v : Value} (hc : w.cell? ad = some u) (hv : v.oneCell' = true) (hs : (storeCells ad [v] 0).run P w = .ok () w') : w.frozen? ad = false ∧ w' = w.setCell ad v := by
  simp only [storeCells, Sem.run_bind, add0, run_store P w ad v _ hv, hc] at hs
  cases hz : w.frozen? ad with
  | true => rw [hz] at hs; simp [Result.andThen] at hs
  | false => rw [hz] at hs; simp [Result.andThen] at hs; exact ⟨rfl, hs.symm⟩
/-- A function of the model's own. -/
def ExtP (P : Program) (n : Nat) (e : Array Value → Sem Value) : Prop := ∃ fn, P.funcs[n]? = some fn ∧ (fn.name == "runtime.NumGoroutine") = false ∧ fn.body.isNone = true ∧ Extern.findNext fn = none ∧ Extern.find fn = some e
theorem load_ok {kd : IntKind} (hx : ExtP P n (Extern.Atomic.loadT (.int kd))) : Sound P n (oLoad (kc kd)) := by
  intro c hC args vs h w ρ k r hk hargs H o a K Q hK
  obtain ⟨fn, e1, e2, e3, e4, e5⟩ := hx
  obtain ⟨x, rfl, h1⟩ := a1_inv hk
  obtain ⟨v, rfl, hv⟩ := VRs.one hargs
  obtain ⟨b, p, rfl, h2⟩ := toP_inv h1
  obtain ⟨q, hq, rfl⟩ := hv
  obtain ⟨cc, cv, h3, h4, h5⟩ := ld1_inv H hq h2
  obtain ⟨kd', m, rfl, h6⟩ := cI_inv h3
  obtain ⟨h7, h8⟩ := ifT_inv h6
  have h9 := beq_inv h7
  subst h9
  obtain ⟨kd', hkd, hlt, rfl⟩ := h4
  have := kc_inj hkd
  subst this
  have := run_call_load e1 e2 e3 e4 kd' e5 h5
  rw [this, Oper.upon_value]
  exact hK _ _ ⟨ρ, _, h, h8, ⟨kd', rfl, hlt, rfl⟩, H, Fr.refl ρ h w⟩
theorem store_ok (hx : ExtP P n Extern.Atomic.storeT) : Sound P n oStore := by
  intro c hC args vs h w ρ k r hk hargs H o a K Q hK
  obtain ⟨fn, e1, e2, e3, e4, e5⟩ := hx
  obtain ⟨x, y, rfl, h1⟩ := a2_inv hk
  obtain ⟨v, u, rfl, hv, hu⟩ := VRs.two hargs
  obtain ⟨b, p, rfl, h2⟩ := toP_inv h1
  obtain ⟨q, hq, rfl⟩ := hv
  obtain ⟨kd, m, rfl, h3⟩ := toI_inv h2
  obtain ⟨cc, cv, h4, h5, h6⟩ := ld1_inv H hq h3
  have hu' := hu
  obtain ⟨kd', hkd, hlt, rfl⟩ := hu
  obtain ⟨h', w', h7, h8, h9, h10⟩ := stC_inv H hq (vs := [.i kd m]) (vals := [.int kd' (sgn kd' m)]) ⟨hu', trivial⟩ h4
  obtain ⟨h11, rfl⟩ := st_cell h6 rfl (h10 P)
  have := run_call_store e1 e2 e3 e4 e5 (k := kd') (y := sgn kd' m) h6 h11
  rw [this, Oper.upon_value]
  exact hK _ _ ⟨ρ, _, h', h7, ⟨[], trivial, rfl⟩, h8, h9⟩
theorem add_ok (hx : ExtP P n (Extern.Atomic.update (Op.intArith .add) .i64 true)) : Sound P n oAdd := by
  intro c hC args vs h w ρ k r hk hargs H o a K Q hK
  obtain ⟨fn, e1, e2, e3, e4, e5⟩ := hx
  obtain ⟨x, y, rfl, h1⟩ := a2_inv hk
  obtain ⟨v, u, rfl, hv, hu⟩ := VRs.two hargs
  obtain ⟨b, p, rfl, h2⟩ := toP_inv h1
  obtain ⟨q, hq, rfl⟩ := hv
  obtain ⟨cc, cv, h4, h5, h6⟩ := ld1_inv H hq h2
  obtain ⟨kd, m, rfl, h7⟩ := cI_inv h4
  obtain ⟨h8, h9⟩ := ifT_inv h7
  have h8' := beq_inv h8
  subst h8'
  obtain ⟨ke, d, rfl, h10⟩ := toI_inv h9
  obtain ⟨h11, h12⟩ := ifT_inv h10
  have h11' := beq_inv h11
  subst h11'
  rw [fN_eq] at h12
  obtain ⟨k1, hk1, hm, rfl⟩ := h5
  obtain ⟨k2, hk2, hd, rfl⟩ := hu
  have e6 : k1 = .i64 := kc_inj (j := .i64) hk1
  have e7 : k2 = .i64 := kc_inj (j := .i64) hk2
  subst e6
  subst e7
  have hsum := wrap_add .i64 hm hd
  have hlt : (m + d) % km .i64 < km .i64 := Nat.mod_lt _ (km_pos .i64)
  have hcr : CR ρ (.i 3 (Nat.mod (Nat.add m d) 18446744073709551616)) (.int .i64 (sgn .i64 ((m + d) % km .i64))) := ⟨.i64, rfl, hlt, rfl⟩
  obtain ⟨h', w', h13, h14, h15, h16⟩ := stC_inv H hq (vs := [.i 3 _]) (vals := [.int .i64 (sgn .i64 ((m + d) % km .i64))]) ⟨hcr, trivial⟩ h12
  obtain ⟨h17, rfl⟩ := st_cell h6 rfl (h16 P)
  have hs : (Op.intArith .add .i64 (sgn .i64 m) (sgn .i64 d)).run P w = .ok (.int .i64 (sgn .i64 ((m + d) % km .i64))) w := by
    rw [← hsum]; rfl
  have := run_call_add e1 e2 e3 e4 .i64 e5 h6 h17 hs
  rw [this, Oper.upon_value]
  exact hK _ _ ⟨ρ, _, h', h13, ⟨.i64, rfl, hlt, rfl⟩, h14, h15⟩

/-! ### Bytes in a text -/
theorem ofNat_beq {x c : Nat} (hx : x < 256) (hc : c < 256) : (UInt8.ofNat x == UInt8.ofNat c) = Nat.beq x c := by
  cases h : Nat.beq x c with
  | true => rw [beq_inv h]; simp
  | false =>
    have : x ≠ c := fun e => by subst e; simp at h
    rw [beq_eq_false_iff_ne]
    intro e
    have := congrArg UInt8.toNat e
    simp [Nat.mod_eq_of_lt hx, Nat.mod_eq_of_lt hc] at this
    omega
theorem countN_eq {c : Nat} (hc : c < 256) : ∀ {l : List Nat}, (∀ x ∈ l, x < 256) → countN c l = (l.map UInt8.ofNat).count (UInt8.ofNat c)
  | [], _ => rfl
  | x :: l, h => by
    have ih := countN_eq hc (l := l) fun y hy => h y (List.mem_cons_of_mem _ hy)
    have hx := ofNat_beq (h x (List.mem_cons_self ..)) hc
    rw [List.map_cons, List.count_cons, ← ih, hx]
    show Bool.rec (motive := fun _ => Nat) (countN c l) (Nat.succ (countN c l)) (Nat.beq x c) = _
    cases Nat.beq x c <;> rfl
theorem findN_eq {c : Nat} (hc : c < 256) {k : Nat → A} {no : A} : ∀ {l : List Nat} {i : Nat}, (∀ x ∈ l, x < 256) → findN c l i k no = some r →
    (∃ j : Nat, Lib.indexByte (l.map UInt8.ofNat) (UInt8.ofNat c) = (j : Int) ∧ j < l.length ∧ k (i + j) = some r) ∨ (Lib.indexByte (l.map UInt8.ofNat) (UInt8.ofNat c) = -1 ∧ no = some r)
  | [], i, _, h => .inr ⟨rfl, h⟩
  | x :: l, i, hl, h => by
    have hx := ofNat_beq (hl x (List.mem_cons_self ..)) hc
    rw [List.map_cons]
    unfold Lib.indexByte
    rw [hx]
    rcases ifE_inv (show ifE (Nat.beq x c) (k i) (findN c l (Nat.succ i) k no) = some r from h) with ⟨h1, h2⟩ | ⟨h1, h2⟩
    · rw [h1]; exact .inl ⟨0, rfl, by simp, h2⟩
    · rw [h1]
      rcases findN_eq hc (fun y hy => hl y (List.mem_cons_of_mem _ hy)) h2 with ⟨j, h3, h4, h5⟩ | ⟨h3, h4⟩
      · rw [h3]
        refine .inl ⟨j + 1, ?_, by simpa using h4, by rw [show i + (j + 1) = i.succ + j by omega]; exact h5⟩
        have : (((j : Int)) == -1) = false := by rw [beq_eq_false_iff_ne]; omega
        simp [this]
      · rw [h3]
        exact .inr ⟨by simp, h4⟩
theorem count_ok (hx : ExtP P n Extern.BytealgCount.count) : Sound P n oCount := by
  intro c hC args vs h w ρ k r hk hargs H o a K Q hK
  obtain ⟨fn, e1, e2, e3, e4, e5⟩ := hx
  obtain ⟨x, y, rfl, h1⟩ := a2_inv hk
  obtain ⟨v, u, rfl, hv, hu⟩ := VRs.two hargs
  obtain ⟨l, rfl, h2⟩ := toS_inv h1
  obtain ⟨rfl, hl⟩ := hv
  obtain ⟨kd, d, rfl, h3⟩ := toI_inv h2
  obtain ⟨h4, h5⟩ := ifT_inv h3
  obtain ⟨h6, h7⟩ := ifT_inv (show ifT _ _ = some r from h5)
  have h4' := beq_inv h4
  subst h4'
  obtain ⟨k1, hk1, hd, rfl⟩ := hu
  have e6 : k1 = .u8 := kc_inj (j := .u8) hk1
  subst e6
  have hd' : d < 256 := hd
  rw [fI_eq] at h7
  rw [run_callFunc_extern e1 e2 e3 e4 e5]
  have hs : sgn .u8 d = (d : Int) := sgn_pos .u8 hd
  have hr : (Extern.BytealgCount.count #[S (l.map UInt8.ofNat), .int .u8 (sgn .u8 d)]).run P w = .ok (.int .i64 ((countN d l : Nat) : Int)) w := by
    have := Lib.run_countString (P := P) ⟨⟨l.map UInt8.ofNat⟩⟩ (d : Int) w
    rw [hs, countN_eq hd' hl]
    exact this
  have hb : countN d l < 9223372036854775808 := ble_inv h6
  rw [show ([S (l.map UInt8.ofNat), .int .u8 (sgn .u8 d)] : List Value).toArray = #[S (l.map UInt8.ofNat), .int .u8 (sgn .u8 d)] from rfl, hr]
  show o.upon P a K Q (.ok (.value _) w)
  rw [Oper.upon_value]
  refine hK _ _ ⟨ρ, _, h, h7, ⟨.i64, rfl, ?_, ?_⟩, H, Fr.refl ρ h w⟩
  · exact Nat.lt_of_lt_of_le hb (by decide)
  · rw [sgn_pos .i64 hb]
theorem index_ok (hx : ExtP P n Extern.BytealgIndexByte.indexByte) : Sound P n oIndex := by
  intro c hC args vs h w ρ k r hk hargs H o a K Q hK
  obtain ⟨fn, e1, e2, e3, e4, e5⟩ := hx
  obtain ⟨x, y, rfl, h1⟩ := a2_inv hk
  obtain ⟨v, u, rfl, hv, hu⟩ := VRs.two hargs
  obtain ⟨l, rfl, h2⟩ := toS_inv h1
  obtain ⟨rfl, hl⟩ := hv
  obtain ⟨kd, d, rfl, h3⟩ := toI_inv h2
  obtain ⟨h4, h5⟩ := ifT_inv h3
  obtain ⟨h6, h7⟩ := ifT_inv (show ifT _ _ = some r from h5)
  have h4' := beq_inv h4
  subst h4'
  obtain ⟨k1, hk1, hd, rfl⟩ := hu
  have e6 : k1 = .u8 := kc_inj (j := .u8) hk1
  subst e6
  have hd' : d < 256 := hd
  rw [run_callFunc_extern e1 e2 e3 e4 e5]
  have hs : sgn .u8 d = (d : Int) := sgn_pos .u8 hd
  have hr : (Extern.BytealgIndexByte.indexByte #[S (l.map UInt8.ofNat), .int .u8 (sgn .u8 d)]).run P w = .ok (.int .i64 (Lib.indexByte (l.map UInt8.ofNat) (UInt8.ofNat d))) w := by
    have := Lib.run_indexByteString (P := P) ⟨⟨l.map UInt8.ofNat⟩⟩ (d : Int) w
    rw [hs]
    exact this
  have hb : l.length < 9223372036854775808 := by rw [lenN_eq] at h6; exact ble_inv h6
  rw [show ([S (l.map UInt8.ofNat), .int .u8 (sgn .u8 d)] : List Value).toArray = #[S (l.map UInt8.ofNat), .int .u8 (sgn .u8 d)] from rfl, hr]
  show o.upon P a K Q (.ok (.value _) w)
  rw [Oper.upon_value]
  rcases findN_eq hd' hl h7 with ⟨j, h8, h9, h10⟩ | ⟨h8, h10⟩
  · rw [fI_eq, Nat.zero_add] at h10
    refine hK _ _ ⟨ρ, _, h, h10, ⟨.i64, rfl, ?_, ?_⟩, H, Fr.refl ρ h w⟩
    · have : j < 9223372036854775808 := by omega
      exact Nat.lt_of_lt_of_le this (by decide)
    · rw [h8, sgn_pos .i64 (show j < kb .i64 from Nat.lt_trans h9 hb)]
  · refine hK _ _ ⟨ρ, _, h, h10, ⟨.i64, rfl, by decide, ?_⟩, H, Fr.refl ρ h w⟩
    rw [h8]; rfl
end
end Go.Ev
