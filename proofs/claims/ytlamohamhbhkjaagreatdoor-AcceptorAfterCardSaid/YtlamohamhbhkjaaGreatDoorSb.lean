/- The evaluator is right, eleventh part: writing, new rows. No condition. -/
import Derived.Test.YtlamohamhbhkjaaGreatDoorSa
namespace Go.Ev
open Go.RowKit Go.Eng

/-- The operation runs, and ends so. -/
def OpRun (P : Program) (op : Op) (a : Act) (w : World) (K : Value → World → Prop) : Prop :=
  ∀ x : Oper, x.op = op → ∃ vv w', ((execOp a.eval x).run P w = .ok (.value vv) w' ∨ ((execOp a.eval x).run P w = .ok .skip w' ∧ vv = undef)) ∧ K vv w'
/-- The evaluator goes on so. -/
def Fin (ρ : Rho) (h : Hp) (w : World) (k : Cn) (r : V × Hp) (vv : Value) (w' : World) : Prop := ∃ ρ' v h', k v h' = some r ∧ VR ρ' v vv ∧ HR ρ' h' w' ∧ Fr ρ h w ρ' h' w'
section
variable {P : Program} {fm : List (Nat × Nat)} {nt : Nat} {ρ : Rho} {f : St} {L : Lm} {s : St} {a : Act} {r : V × Hp} {c : Call} {h : Hp} {w : World} {k : Cn}
theorem OpRun.pure {op : Op} {v : V} {vv : Value} (H : HR ρ h w) (h1 : k v h = some r) (h2 : VR ρ v vv) (h3 : PureAt P op a vv) : OpRun P op a w (Fin ρ h w k r) :=
  fun x hx => ⟨vv, w, .inl (h3 x hx w), ρ, v, h, h1, h2, H, Fr.refl ρ h w⟩
theorem OpRun.value {op : Op} {vv : Value} {w' : World} {K : Value → World → Prop} (hr : ∀ x : Oper, x.op = op → (execOp a.eval x).run P w = .ok (.value vv) w') (hK : K vv w') : OpRun P op a w K :=
  fun x hx => ⟨vv, w', .inl (hr x hx), hK⟩
theorem OpRun.skip {op : Op} {w' : World} {K : Value → World → Prop} (hr : ∀ x : Oper, x.op = op → (execOp a.eval x).run P w = .ok .skip w') (hK : K undef w') : OpRun P op a w K :=
  fun x hx => ⟨undef, w', .inr ⟨hr x hx, rfl⟩, hK⟩
/-- Cells written. -/
theorem stC_inv (H : HR ρ h w) {b : Pth} {q : Pl} (hq : ρ b = some q) {o : Nat} {vs : List C} {vals : List Value} (hv : CRs ρ vs vals) {kk : Hp → A} (hk : stC h b o vs kk = some r) :
    ∃ h' w', kk h' = some r ∧ HR ρ h' w' ∧ Fr ρ h w ρ h' w' ∧ ∀ P : Program, (storeCells ⟨q.b, q.s + o, none⟩ vals 0).run P w = .ok () w' := by
  obtain ⟨ty, ex, cs, hg, h1⟩ := blkC_inv hk
  obtain ⟨h2, h3⟩ := owC_inv h1
  obtain ⟨l, h4, h5, h6, h7⟩ := H.store hq hg hv h2
  exact ⟨_, _, h3, h6, h7, fun P => Row.run_store (P := P) vals 0 h4 (by omega) (CRs.one hv)⟩
theorem cells_one {v : Value} (h : v.oneCell' = true) : v.cells = #[v] := by cases v <;> first | rfl | cases h
theorem m_st1 (A' : AR fm nt ρ f L s a) (H : HR ρ h w) {x y : Operand} {t : Nat} {p q : O} (ht : aggV P t = some none) (hx : ofO fm L s.length x = some p) (hy : ofO fm L s.length y = some q) (hk : xSt1 p q c f s h k = some r) :
    OpRun P (.store t x y) a w (Fin ρ h w k r) := by
  obtain ⟨b, o, hb, h1⟩ := toP_inv hk
  obtain ⟨cv, hc, h2⟩ := toC_inv h1
  have hxv := A'.opd hx
  have hyv := A'.opd hy
  rw [hb] at hxv
  rw [hc] at hyv
  obtain ⟨pl, hpl, e⟩ := hxv
  have hone : (a.eval y).oneCell' = true := CR.one hyv
  obtain ⟨h', w', h3, h4, h5, h6⟩ := stC_inv H hpl (vs := [cv]) (vals := [a.eval y]) ⟨hyv, trivial⟩ h2
  obtain ⟨D, _, _, hs⟩ := aggV_one ht
  refine OpRun.skip (w' := w') (fun z hz => ?_) ⟨ρ, bot, h', h3, trivial, h4, h5⟩
  have hsz : (sizeOf t).run P w = .ok 1 w := size_run hs w
  simp only [execOp, hz, e]
  rw [Sem.run_bind]
  simp [Instr.storeAt, Instr.sureAddr, storeVar, hsz, cells_one hone, h6 P]
theorem m_stA (A' : AR fm nt ρ f L s a) (H : HR ρ h w) {x y : Operand} {t n : Nat} {p q : O} (ht : aggV P t = some (some n)) (hx : ofO fm L s.length x = some p) (hy : ofO fm L s.length y = some q) (hk : xStA n p q c f s h k = some r) :
    OpRun P (.store t x y) a w (Fin ρ h w k r) := by
  obtain ⟨b, o, hb, h1⟩ := toP_inv hk
  obtain ⟨cs, hc, h2⟩ := toG_inv h1
  obtain ⟨h3, h4⟩ := ifT_inv h2
  have hxv := A'.opd hx
  have hyv := A'.opd hy
  rw [hb] at hxv
  rw [hc] at hyv
  obtain ⟨pl, hpl, e⟩ := hxv
  obtain ⟨vs, h5, e2⟩ := hyv
  obtain ⟨h', w', h6, h7, h8, h9⟩ := stC_inv H hpl h5 h4
  obtain ⟨D, _, _, hs⟩ := aggV_agg ht
  have hn := beq_inv h3
  rw [lenN_eq, CRs.len h5] at hn
  refine OpRun.skip (w' := w') (fun z hz => ?_) ⟨ρ, bot, h', h6, trivial, h7, h8⟩
  have hsz : (sizeOf t).run P w = .ok n w := size_run hs w
  simp only [execOp, hz, e, e2]
  rw [Sem.run_bind]
  simp [Instr.storeAt, Instr.sureAddr, storeVar, hsz, Value.cells, hn, h9 P]
/-! ### New blocks -/
/-- A new row, with more room behind it. -/
theorem HR.row_new (H : HR ρ h w) {w0 : World} (hO : Old w w0) (t : Nat) (ty : Nat) (ex : Bool) {cs : List C} {vs rest : List Value} (hc : CRs ρ cs vs) (hex : ex = true → rest = []) :
    HR (up ρ h.n ⟨w0.heap.size, 0, (vs ++ rest).length⟩) ⟨inc h.n, hput h.n (.c ty ex cs) h.m⟩ (w0.alloc (.cells (vs ++ rest).toArray t)) ∧
    Fr ρ h w (up ρ h.n ⟨w0.heap.size, 0, (vs ++ rest).length⟩) ⟨inc h.n, hput h.n (.c ty ex cs) h.m⟩ (w0.alloc (.cells (vs ++ rest).toArray t)) := by
  have hO' : Old w (w0.alloc (.cells (vs ++ rest).toArray t)) := hO.alloc hO.size _
  have hl := CRs.len hc
  refine H.new hO' hO.size (by simp [World.alloc, -World.alloc_eq]) _ ⟨fun ty' ex' cs' e => ?_, fun l pos e => by cases e⟩
  simp only [Blk.c.injEq] at e
  obtain ⟨rfl, rfl, rfl⟩ := e
  refine ⟨vs ++ rest, Row.new (bx_alloc w0 t _), by simp; omega, fun e => ?_, ?_⟩
  · rw [hex e]; simp [hl]
  · rw [hl, List.take_left]; exact hc
theorem up_ptr (ρ : Rho) (b : Pth) (q : Pl) (o : Nat) : VR (up ρ b q) (vP b o) (.pointer (some ⟨q.b, q.s + o, none⟩)) := ⟨q, up_same ρ b q, rfl⟩
theorem newC_inv {x : Blk} {kk : Pth → Hp → A} (hk : newC h x kk = some r) : kk h.n ⟨inc h.n, hput h.n x h.m⟩ = some r := hk
theorem m_alc (H : HR ρ h w) {t : Nat} {z : List C} (hz : zeroV P t = some z) (hk : xAlc t z c f s h k = some r) : OpRun P (.alloc t) a w (Fin ρ h w k r) := by
  obtain ⟨i, zv, hi, hzv, hcz⟩ := zeroV_inv hz ρ
  have h1 := newC_inv hk
  obtain ⟨h2, h3⟩ := H.row_new (Below.refl _ _) t t true (rest := []) hcz (fun _ => rfl)
  refine OpRun.value (vv := .pointer (some ⟨w.heap.size, 0, none⟩)) (fun x hx => ?_) ⟨_, _, _, h1, up_ptr ρ h.n _ 0, h2, h3⟩
  simp [execOp, hx, Instr.alloc, zeroValue, typeInfo, hi, hzv, newVar, newRow]
theorem m_box (A' : AR fm nt ρ f L s a) (H : HR ρ h w) {x : Operand} {t : Nat} {p : O} (hx : ofO fm L s.length x = some p) (hk : xBox t p c f s h k = some r) : OpRun P (.box t x) a w (Fin ρ h w k r) := by
  obtain ⟨cs, vs, h1, h2, h3⟩ := cells_inv (A'.opd hx) hk
  have h4 := newC_inv h1
  obtain ⟨h5, h6⟩ := H.row_new (Below.refl _ _) t t true (rest := []) h2 (fun _ => rfl)
  refine OpRun.value (vv := .pointer (some ⟨w.heap.size, 0, none⟩)) (fun z hz => ?_) ⟨_, _, _, h4, up_ptr ρ h.n _ 0, h5, h6⟩
  simp [execOp, hz, Instr.box, newVar, newRow, h3]
theorem elemV_inv {el n : Nat} {z : List C} (h : elemV P el = some (n, z)) (ρ : Rho) : ∃ i zv, P.info? el = some i ∧ i.zero = some zv ∧ i.size = n ∧ 0 < n ∧ i.bytes ≤ 32768 ∧ zv.cells.size = n ∧ z.length = n ∧ CRs ρ z zv.cells.toList ∧ sizeV P el = some n := by
  unfold elemV at h
  split at h
  case h_2 => cases h
  rename_i i hi
  split at h
  case h_2 => cases h
  rename_i z' hz
  split at h
  case h_2 => cases h
  rename_i hb
  simp only [Option.some.injEq, Prod.mk.injEq] at h
  obtain ⟨rfl, rfl⟩ := h
  simp only [Bool.and_eq_true] at hb
  obtain ⟨i', zv, hi', hzv, hc⟩ := zeroV_inv hz ρ
  rw [hi, Option.some.injEq] at hi'
  subst hi'
  have e1 := beq_inv hb.1.1
  have e2 := CRs.len hc
  have h0 : i.size ≠ 0 := fun e => by have := hb.1.2; rw [e] at this; simp at this
  exact ⟨i, zv, hi, hzv, rfl, Nat.pos_of_ne_zero h0, ble_inv hb.2, by rw [← Array.length_toList, ← e2, e1], e1, hc, by unfold sizeV; rw [hi]⟩
theorem CRs.rep {z : List C} {l : List Value} (h : CRs ρ z l) : ∀ n, CRs ρ ((List.replicate n z).flatten) ((List.replicate n l).flatten)
  | 0 => trivial
  | n + 1 => by
    rw [List.replicate_succ, List.replicate_succ, List.flatten_cons, List.flatten_cons]
    exact CRs.app h (CRs.rep h n)
theorem rep_get {α : Type} (l : List α) (hl : 0 < l.length) : ∀ (m i : Nat), (List.replicate m l).flatten[i]? = if i < m * l.length then l[i % l.length]? else none
  | 0, i => by simp
  | m + 1, i => by
    rw [List.replicate_succ, List.flatten_cons]
    by_cases h : i < l.length
    · rw [List.getElem?_append_left h, Nat.mod_eq_of_lt h, if_pos (by rw [Nat.succ_mul]; omega)]
    · rw [List.getElem?_append_right (by omega), rep_get l hl m (i - l.length), Nat.succ_mul]
      have e : (i - l.length) % l.length = i % l.length := by
        conv => rhs; rw [show i = (i - l.length) + l.length by omega, Nat.add_mod_right]
      rw [e]
      by_cases h2 : i < m * l.length + l.length
      · rw [if_pos (by omega), if_pos h2]
      · rw [if_neg (by omega), if_neg h2]
theorem cyc_list (zs : Array Value) (h0 : 0 < zs.size) (m : Nat) : ((Array.range (m * zs.size)).map (zs[· % zs.size]!)).toList = (List.replicate m zs.toList).flatten := by
  apply List.ext_getElem?
  intro i
  rw [rep_get zs.toList (by simpa using h0)]
  have hmod : i % zs.size < zs.size := Nat.mod_lt _ h0
  simp only [Array.toList_map, List.getElem?_map, Array.length_toList]
  by_cases h : i < m * zs.size
  · rw [if_pos h]
    simp [h, hmod]
  · rw [if_neg h]
    simp [h]
theorem zeroCells_list (zs : Array Value) (h0 : 0 < zs.size) (m : Nat) : (Builtin.zeroCells zs m).toList = (List.replicate m zs.toList).flatten := cyc_list zs h0 m
theorem repV_eq (z : List C) : ∀ n, insV.repN' z n = (List.replicate n z).flatten
  | 0 => rfl
  | n + 1 => by simp only [insV.repN', repV_eq z n]; rw [List.replicate_succ, List.flatten_cons]
theorem m_bls (A' : AR fm nt ρ f L s a) (H : HR ρ h w) {t el n len : Nat} {z : List C} {ps : List (Nat × Operand)} {qs : List Pt} (hu : P.underlying t = some (.slice el)) (he : elemV P el = some (n, z)) (hsm : Nat.ble (len * n) 16777216 = true) (hp : partsL (ofO fm L s.length) n ps = some qs)
    (hk : xBls el len (insV.repN' z len) qs c f s h k = some r) : OpRun P (.buildSlice t len ps.toArray) a w (Fin ρ h w k r) := by
  obtain ⟨i, zv, hi, hzv, hsz, hn0, _, hzs, hzl, hcz, hs⟩ := elemV_inv he ρ
  have hcz' := CRs.rep hcz len
  rw [← repV_eq] at hcz'
  obtain ⟨z', zl', h1, h2, h3, h4⟩ := fillC_inv (P := P) A' (partsL_ok hp) hcz' hk
  have h5 := newC_inv h1
  obtain ⟨h6, h7⟩ := H.row_new (Below.refl _ _) el el true (rest := []) h2 (fun _ => rfl)
  rw [List.append_nil] at h6 h7
  refine OpRun.value (vv := .slice (some ⟨w.heap.size, 0, none⟩) len len) (w' := w.alloc (.cells zl'.toArray el)) (fun x hx => ?_) ⟨_, _, _, h5, ⟨_, up_same ρ h.n _, rfl, Nat.le_refl _⟩, h6, h7⟩
  have hnot : ¬ (len * n > 2 ^ 24) := by have := ble_inv hsm; omega
  have hr : (Instr.buildSlice t len (ps.map fun x => (x.1, a.eval x.2)).toArray).run P w = .ok (.slice (some ⟨w.heap.size, 0, none⟩) len len) (w.alloc (.cells zl'.toArray el)) := by
    unfold Instr.buildSlice
    simp only [Sem.run_bind, run_underlying hu w, Result.andThen_ok, size_run hs w, hnot, if_false]
    have hcyc := cyc_list zv.cells (by rw [hzs]; exact hn0) len
    rw [hzs] at hcyc
    have e : ∀ za : Array Value, (len * n ≠ 0 → za = zv.cells) → Instr.fill (fun i => some (i * n, n)) ((Array.range (len * n)).map (za[· % za.size]!)) (ps.map fun x => (x.1, a.eval x.2)) = some zl'.toArray := fun za hza => by
      by_cases h0 : len * n = 0
      · have : len = 0 := by rcases Nat.mul_eq_zero.1 h0 with h | h; exact h; omega
        subst this
        rw [Nat.zero_mul]
        have e0 : Array.range 0 = #[] := rfl
        rw [e0]
        simpa using h4
      · rw [hza h0, hzs]
        rw [← h4]
        congr 1
        apply Array.toList_inj.1
        rw [hcyc]
    by_cases h0 : len * n = 0
    · simp only [h0, if_true]
      have := e #[] (fun hh => absurd h0 hh)
      simp only [h0] at this
      rw [Sem.run_bind]
      simp only [Sem.run_pure, Result.andThen_ok]
      rw [this]
      simp [newRow]
    · simp only [h0, if_false]
      have hz' : (zeroValue el).run P w = .ok zv w := by simp [zeroValue, typeInfo, hi, hzv]
      rw [Sem.run_bind, hz']
      simp only [Result.andThen_ok, Sem.run_pure]
      rw [Sem.run_bind]
      simp only [Sem.run_pure, Result.andThen_ok]
      rw [e zv.cells (fun _ => rfl)]
      simp [newRow]
  simp only [execOp, hx, List.map_toArray]
  rw [show List.map (fun x : Nat × Operand => match x with | (i, x) => (i, a.eval x)) ps = (ps.map fun x => (x.1, a.eval x.2)) from rfl, Sem.run_bind, hr]
  rfl
theorem m_mks (A' : AR fm nt ρ f L s a) (H : HR ρ h w) {x y : Operand} {t el n : Nat} {z : List C} {p q : O} (hu : P.underlying t = some (.slice el)) (he : elemV P el = some (n, z)) (hx : ofO fm L s.length x = some p) (hy : ofO fm L s.length y = some q)
    (hk : xMks el z p q c f s h k = some r) : OpRun P (.makeSlice t x y) a w (Fin ρ h w k r) := by
  obtain ⟨i, zv, hi, hzv, hsz, hn0, hby, hzs, hzl, hcz, hs⟩ := elemV_inv he ρ
  obtain ⟨kl, l, h1, e1⟩ := ixN_inv (A'.opd hx) hk
  obtain ⟨kc', m, h2, e2⟩ := ixN_inv (A'.opd hy) h1
  obtain ⟨h3, h4⟩ := ifT_inv h2
  obtain ⟨h5, h6⟩ := ifT_inv h4
  have hlm := ble_inv h3
  have hm := ble_inv h5
  have h7 := newC_inv h6
  have hc' := CRs.rep hcz m
  rw [← repN_eq] at hc'
  obtain ⟨h8, h9⟩ := H.row_new (Below.refl _ _) el el true (rest := []) hc' (fun _ => rfl)
  rw [List.append_nil] at h8 h9
  refine OpRun.value (vv := .slice (some ⟨w.heap.size, 0, none⟩) l m) (w' := w.alloc (.cells ((List.replicate m zv.cells.toList).flatten).toArray el)) (fun z hz => ?_) ⟨_, _, _, h7, ⟨_, up_same ρ h.n _, rfl, hlm⟩, h8, h9⟩
  have hb : ((i.bytes * m : Nat) : Int) ≤ 281474976710656 := by
    have : i.bytes * m ≤ 32768 * 65536 := Nat.mul_le_mul hby hm
    omega
  have hr := run_make (P := P) w t el i zv hu hi hzv kl kc' (l : Int) (m : Int) (by omega) (by omega) (by push_cast at hb; exact hb) (by omega)
  have e3 : madeCells zv.cells ((m : Int).toNat * i.size) = ((List.replicate m zv.cells.toList).flatten).toArray := by
    apply Array.toList_inj.1
    have := cyc_list zv.cells (by omega) m
    rw [hzs] at this
    simp only [Int.toNat_natCast, madeCells, hsz, hzs]
    exact this
  rw [e3] at hr
  simp only [execOp, hz, e1, e2]
  rw [Sem.run_bind, hr]
  simp
theorem u8s_of : ∀ {l : List Nat}, (∀ x ∈ l, x < 256) → CRs ρ (u8s l) (l.map fun (n : Nat) => Value.int .u8 (n : Int))
  | [], _ => trivial
  | n :: l, h => ⟨u8_of (ρ := ρ) (h n (by simp)), u8s_of (fun x hx => h x (by simp [hx]))⟩
theorem m_s2b (A' : AR fm nt ρ f L s a) (H : HR ρ h w) {x : Operand} {st t el : Nat} {p : O} (hs : P.underlying st = some .string) (hu : P.underlying t = some (.slice el)) (he : P.underlying el = some (.int .u8)) (hx : ofO fm L s.length x = some p)
    (hk : xS2b el p c f s h k = some r) : OpRun P (.convert st t x) a w (Fin ρ h w k r) := by
  obtain ⟨l, hl, h1⟩ := toS_inv hk
  obtain ⟨_, h1⟩ := lt_inv h1
  have h2 := newC_inv h1
  rw [fN_eq] at h2
  have hxv := A'.opd hx
  rw [hl] at hxv
  have e : a.eval x = S (l.map UInt8.ofNat) := hxv.1
  have hold : Old w (Lib.bytesWorld w el ⟨⟨l.map UInt8.ofNat⟩⟩) := ⟨rfl, rfl, rfl, by rw [Lib.bytesWorld_size]; omega, fun k hk => Lib.bytesWorld_at_old w el _ k hk⟩
  have hnew := Lib.bytesWorld_at_new w el ⟨⟨l.map UInt8.ofNat⟩⟩
  have hcell : CRs ρ (u8s l) (l.map fun (n : Nat) => Value.int .u8 (n : Int)) := u8s_of hxv.2
  have hrow : (Lib.bytesCells w el ⟨⟨l.map UInt8.ofNat⟩⟩).toList.take l.length = l.map fun (n : Nat) => Value.int .u8 (n : Int) := by
    unfold Lib.bytesCells
    rw [Array.toList_append, List.take_append_of_le_length (by simp)]
    simp only [Array.toList_map, List.map_map]
    rw [List.take_of_length_le (by simp)]
    refine List.map_congr_left fun n hn => ?_
    simp [Nat.mod_eq_of_lt (hxv.2 n hn)]
  have hlen : l.length ≤ (Lib.bytesCells w el ⟨⟨l.map UInt8.ofNat⟩⟩).size := by
    have := congrArg List.length hrow
    simp only [List.length_take, Array.length_toList, List.length_map] at this
    omega
  have hu8 : (u8s l).length = l.length := by
    have := CRs.len hcell
    simpa using this
  obtain ⟨h3, h4⟩ := H.new (z := (Lib.bytesCells w el ⟨⟨l.map UInt8.ofNat⟩⟩).size) hold (Nat.le_refl _) (by rw [Lib.bytesWorld_size]; omega) (.c el false (u8s l)) ⟨fun ty' ex' cs' e' => by
    simp only [Blk.c.injEq] at e'
    obtain ⟨rfl, rfl, rfl⟩ := e'
    refine ⟨(Lib.bytesCells w el ⟨⟨l.map UInt8.ofNat⟩⟩).toList, ⟨el, _, by rw [Array.toArray_toList]; exact hnew, by simp, fun i hi hf => ?_⟩, by rw [hu8]; exact hlen, (fun h => by cases h), ?_⟩
    · have h5 := hf.1
      simp only at h5
      exact absurd h5 (by omega)
    · rw [hu8, hrow]; exact hcell, fun l' pos e' => by cases e'⟩
  have hcap : l.length ≤ grownCap w (⟨⟨l.map UInt8.ofNat⟩⟩ : ByteArray).size 0 el := by
    have := grownCap_ge w (⟨⟨l.map UInt8.ofNat⟩⟩ : ByteArray).size 0 el
    rw [S_len] at this
    rw [S_len]; exact this
  have hz : (Lib.bytesCells w el ⟨⟨l.map UInt8.ofNat⟩⟩).size = grownCap w (⟨⟨l.map UInt8.ofNat⟩⟩ : ByteArray).size 0 el := by
    unfold Lib.bytesCells
    simp only [Array.size_append, Array.size_map, Array.size_replicate]
    have e1 : (ByteArray.mk ⟨l.map UInt8.ofNat⟩).data.size = l.length := by simp
    have e2 := S_len l
    rw [e1]
    rw [e2] at hcap ⊢
    omega
  refine OpRun.value (vv := .slice (some ⟨w.heap.size, 0, none⟩) l.length (grownCap w (⟨⟨l.map UInt8.ofNat⟩⟩ : ByteArray).size 0 el)) (fun z hz' => ?_) ⟨_, _, _, h2, ⟨_, _, up_same ρ h.n _, by rw [lenN_eq], by rw [lenN_eq]; exact hcap, ?_⟩, h3, h4⟩
  · have := Lib.run_convert_string_bytes (P := P) w st t el ⟨⟨l.map UInt8.ofNat⟩⟩ hs hu he
    rw [S_len] at this
    simp only [execOp, hz', e, S]
    rw [Sem.run_bind, this, S_len]
    rfl
  · have e1 : ∀ n : Nat, 0 + 0 + n * 1 = n := fun n => by omega
    exact (e1 _).trans hz.symm
end
end Go.Ev
