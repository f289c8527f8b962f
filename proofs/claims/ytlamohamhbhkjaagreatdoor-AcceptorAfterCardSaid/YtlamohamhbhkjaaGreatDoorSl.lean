/- The engine's fourth part: slices: what a slice's cells are, its length, its elements; texts cut and indexed. It holds for every program; it has no condition. -/
import Derived.Test.YtlamohamhbhkjaaGreatDoorMem
namespace Go.Eng
open Go.RowKit

abbrev Str := List UInt8
abbrev S (l : Str) : Value := .string ⟨⟨l⟩⟩
/-- A slice's head. -/
structure Hd where
  a : Option Addr
  n : Nat
  c : Nat
abbrev Hd.v (h : Hd) : Value := .slice h.a h.n h.c
def B8 (x : UInt8) : List Value := [.int .u8 (x.toNat : Int)]
def CS (x : Str) : List Value := [S x]
def CI (x : Int) : List Value := [.int .i64 x]

/-- From this place on the memory reads so. -/
def Rd (w : World) (b o : Nat) (l : List Value) : Prop := b < w.heap.size ∧ ∀ j v, l[j]? = some v → w.cell? ⟨b, o + j, none⟩ = some v
/-- A slice's elements: each of k cells. t: the type of the block's elements. -/
structure Sl {α : Type} (k : Nat) (enc : α → List Value) (w : World) (t : Nat) (h : Hd) (l : List α) : Prop where
  len : h.n = l.length
  small : l.length < 4611686018427387904
  mem : l ≠ [] → ∃ b o, h.a = some ⟨b, o, none⟩ ∧ (w.shape? b).map (·.1) = some t ∧ Rd w b o (l.flatMap enc)

section facts
variable {w w' : World} {g g' t t' b o k : Nat} {l : List Value} {α : Type} {enc : α → List Value} {h : Hd} {xs : List α}
theorem cell_block (e : w'.heap[b]? = w.heap[b]?) (o : Nat) : w'.cell? ⟨b, o, none⟩ = w.cell? ⟨b, o, none⟩ := by simp [World.cell?, e]
theorem Rd.of (e : w'.heap[b]? = w.heap[b]?) (hs : w.heap.size ≤ w'.heap.size) (h : Rd w b o l) : Rd w' b o l :=
  ⟨Nat.lt_of_lt_of_le h.1 hs, fun j v hv => (cell_block e _).trans (h.2 j v hv)⟩
theorem Rd.old (h : Rd w b o l) (hE : Old w w') : Rd w' b o l := h.of (hE.block b h.1) hE.size
theorem Rd.upd (h : Rd w b o l) (hu : Upd g w w') (hne : b ≠ g) : Rd w' b o l := h.of (hu.block b hne) (Nat.le_of_eq hu.size.symm)
theorem Bx.rd (h : Bx w g t l) : Rd w g 0 l := ⟨h.lt, fun j v hv => by rw [Nat.zero_add, h.cell]; exact hv⟩
theorem Sl.of (hh : Sl k enc w t h xs) (H : ∀ b, b < w.heap.size → (w.shape? b).map (·.1) = some t → w'.heap[b]? = w.heap[b]?) (hs : w.heap.size ≤ w'.heap.size) : Sl k enc w' t h xs :=
  ⟨hh.len, hh.small, fun hne => by
    obtain ⟨b, o, h1, h2, h3⟩ := hh.mem hne
    have e := H b h3.1 h2
    exact ⟨b, o, h1, by rw [← h2]; simp [World.shape?, e], h3.of e hs⟩⟩
theorem Sl.old (hh : Sl k enc w t h xs) (hE : Old w w') : Sl k enc w' t h xs := hh.of (fun b hb _ => hE.block b hb) hE.size
/-- A slice over blocks of another type than the box that was written. -/
theorem Sl.upd (hh : Sl k enc w t h xs) (hu : Upd g w w') (hb : Bx w g t' l) (ht : Nat.beq t t' = false) : Sl k enc w' t h xs :=
  hh.of (fun b _ hsh => hu.block b (fun e => by
    subst e
    have : w.shape? b = some (t', l.length) := by unfold Bx at hb; simp [World.shape?, hb]
    rw [this] at hsh
    simp at hsh
    rw [hsh] at ht
    simp at ht)) (Nat.le_of_eq hu.size.symm)
/-- A slice that was there before the box was made. -/
theorem Sl.far {w0 : World} (hh : Sl k enc w0 t h xs) (hE : Old w0 w') : Sl k enc w' t h xs := hh.old hE
theorem slNil (k : Nat) (enc : α → List Value) (w : World) (t : Nat) (a : Option Addr) (c : Nat) : Sl k enc w t ⟨a, 0, c⟩ [] := ⟨rfl, by simp, fun h => absurd rfl h⟩
theorem flat_get (hk : ∀ x, (enc x).length = k) : ∀ (xs : List α) (i : Nat) (hi : i < xs.length) (j : Nat), j < k → (xs.flatMap enc)[i * k + j]? = (enc xs[i])[j]?
  | [], i, hi, j, hj => by simp at hi
  | x :: xs, 0, hi, j, hj => by
    simp only [List.flatMap_cons, Nat.zero_mul, Nat.zero_add, List.getElem_cons_zero]
    rw [List.getElem?_append_left (by rw [hk]; exact hj)]
  | x :: xs, i + 1, hi, j, hj => by
    simp only [List.flatMap_cons, List.getElem_cons_succ]
    rw [List.getElem?_append_right (by rw [hk, Nat.succ_mul]; omega), hk, show (i + 1) * k + j - k = i * k + j by rw [Nat.succ_mul]; omega]
    exact flat_get hk xs i (by simpa using hi) j hj
theorem flat_len (hk : ∀ x, (enc x).length = k) : ∀ (xs : List α), (xs.flatMap enc).length = xs.length * k
  | [] => by simp
  | x :: xs => by simp [hk, flat_len hk xs, Nat.succ_mul, Nat.add_comm]
/-- An element. -/
theorem Sl.elem (hh : Sl k enc w t h xs) (hk : ∀ x, (enc x).length = k) (i : Nat) (hi : i < xs.length) : ∃ b o, h.a = some ⟨b, o, none⟩ ∧ (w.shape? b).map (·.1) = some t ∧ Rd w b (o + i * k) (enc xs[i]) := by
  obtain ⟨b, o, h1, h2, h3⟩ := hh.mem (by intro e; subst e; simp at hi)
  refine ⟨b, o, h1, h2, h3.1, fun j v hv => ?_⟩
  have hj : j < k := by rw [← hk xs[i]]; exact (List.getElem?_eq_some_iff.1 hv).1
  have := h3.2 (i * k + j) v (by rw [flat_get hk xs i hi j hj]; exact hv)
  rw [← Nat.add_assoc] at this
  exact this
end facts

section laws
variable {P : Program} (T : Tk P) {n d : Nat} {ops : Array Oper} {rest : List Oper} {e : Env} {Q : Exit → Act → World → Prop} {w : World} {ty : TypeId} {pos : String} {aft : Array Edge}
theorem run_load1R {t g o f q : Nat} {l : List Value} {v : Value} (ht : mem T.tb.flat t = true) (hb : Rd w g o l) (hq : q = o + f) (hs : nth l f = some v) : (loadVar t ⟨g, q, none⟩).run P w = .ok v w := by
  obtain ⟨⟨D, hu, hd⟩, _⟩ := T.parts.2.2.2.2.1 t (mem_mem ht)
  have hc : w.cell? ⟨g, q, none⟩ = some v := by rw [hq]; exact hb.2 f v (by rw [← nth_get]; exact hs)
  unfold loadVar
  rw [Sem.run_bind, run_isAgg_of hu hd w]
  simp [run_load, hc]
theorem gLoadR {t g o f q : Nat} {x : Operand} {l : List Value} {v : Value} (hd : Nat.blt d n = true) (hx : ev e x = some (.pointer (some ⟨g, q, none⟩))) (ht : mem T.tb.flat t = true) (hb : Rd w g o l) (hq : q = o + f) (hs : nth l f = some v)
    (h : G P n ops Q rest ((d, v) :: e) w) : G P n ops Q (⟨some d, .load t x, ty, pos, aft, none⟩ :: rest) e w :=
  gRun hd (fun a ha => by simp [execOp, ha.ev hx, Instr.loadAt, Instr.sureAddr, run_load1R T ht hb hq hs]) h
theorem run_loadAR {t g o f q k : Nat} {l vs : List Value} (ht : lk T.tb.aggs t = some k) (hb : Rd w g o l) (hq : q = o + f) (hs : seg l f k = vs) (hn : vs.length = k) : (loadVar t ⟨g, q, none⟩).run P w = .ok (.agg vs.toArray) w := by
  obtain ⟨⟨D, hu, hd⟩, i, hi, hz⟩ := T.parts.2.2.2.1 _ (lk_mem ht)
  have hl := run_loadCells_list (P := P) w ⟨g, q, none⟩ vs (fun j v hv => by
    have hadd : (⟨g, q, none⟩ : Addr).add j = ⟨g, q + j, none⟩ := by unfold Addr.add; split <;> simp_all
    rw [hadd, hq, Nat.add_assoc]
    refine hb.2 (f + j) v ?_
    subst hs
    unfold seg at hv
    rw [List.getElem?_take] at hv
    split at hv
    · rw [List.getElem?_drop] at hv; exact hv
    · cases hv)
  unfold loadVar
  rw [Sem.run_bind, run_isAgg_of hu hd w]
  simp only at hz
  rw [hn] at hl
  simp [sizeOf, typeInfo, hi, hz, hl]
theorem gLoadAR {t g o f q k : Nat} {x : Operand} {l vs : List Value} (hd : Nat.blt d n = true) (hx : ev e x = some (.pointer (some ⟨g, q, none⟩))) (ht : lk T.tb.aggs t = some k) (hb : Rd w g o l) (hq : q = o + f) (hs : seg l f k = vs) (hn : vs.length = k)
    (h : G P n ops Q rest ((d, .agg vs.toArray) :: e) w) : G P n ops Q (⟨some d, .load t x, ty, pos, aft, none⟩ :: rest) e w :=
  gRun hd (fun a ha => by simp [execOp, ha.ev hx, Instr.loadAt, Instr.sureAddr, run_loadAR T ht hb hq hs hn]) h

theorem run_indexAt {t el k b o m c : Nat} {kd : IntKind} {i : Nat} (ht : lk T.tb.slcs t = some (el, k)) (hi : i < m) (w : World) :
    (Instr.indexAt t (.slice (some ⟨b, o, none⟩) m c) (.int kd (i : Int))).run P w = .ok (.pointer (some ⟨b, o + i * k, none⟩)) w := by
  obtain ⟨hu, inf, hinf, hsz, hk0⟩ := T.parts.2.2.1 _ (lk_mem ht)
  simp only at hu hinf hsz hk0
  have hadd : (⟨b, o, none⟩ : Addr).add (i * k) = ⟨b, o + i * k, none⟩ := by unfold Addr.add; split <;> simp_all
  unfold Instr.indexAt
  simp only [asIntOf, Sem.run_bind, Sem.run_pure, Result.andThen_ok, run_underlying hu w]
  simp [hi, sizeOf, typeInfo, hinf, hsz, hadd]
/-- The address of an element. -/
theorem gIdx {α : Type} {enc : α → List Value} {t el k i s : Nat} {kd : IntKind} {z : Int} {x ix : Operand} {h : Hd} {xs : List α} (hs : Sl k enc w s h xs) (hd : Nat.blt d n = true) (hx : ev e x = some h.v) (hi : ev e ix = some (.int kd z)) (ht : lk T.tb.slcs t = some (el, k))
    (hk : ∀ x, (enc x).length = k) (hz : z = (i : Int)) (hlt : i < xs.length)
    (hG : ∀ b o, Rd w b (o + i * k) (enc (xs[i]'hlt)) → (w.shape? b).map (·.1) = some s → G P n ops Q rest ((d, .pointer (some ⟨b, o + i * k, none⟩)) :: e) w) : G P n ops Q (⟨some d, .indexAddr t x ix, ty, pos, aft, none⟩ :: rest) e w := by
  obtain ⟨b, o, h1, h2, h3⟩ := hs.elem hk i hlt
  refine gRun hd (fun a ha => ?_) (hG b o h3 h2)
  have hn : i < h.n := by rw [hs.len]; exact hlt
  have := run_indexAt (P := P) T (kd := kd) (b := b) (o := o) (c := h.c) ht hn w
  simp only [execOp, ha.ev hx, ha.ev hi, Hd.v, h1, hz]
  rw [Sem.run_bind, this]
  simp
/-- The length of a slice, of a text. -/
theorem run_len_slice {t el k : Nat} (ht : lk T.tb.slcs t = some (el, k)) (ao : Option Addr) (m c : Nat) (ty : TypeId) (w : World) : (Builtin.len_ #[t] ty #[.slice ao m c]).run P w = .ok (.int .i64 m) w := by
  obtain ⟨hu, _⟩ := T.parts.2.2.1 _ (lk_mem ht)
  simp only at hu
  unfold Builtin.len_
  simp [run_underlying hu w, goInt]
theorem run_len_str {t : Nat} (ht : mem T.tb.strs t = true) (l : Str) (ty : TypeId) (w : World) : (Builtin.len_ #[t] ty #[S l]).run P w = .ok (.int .i64 l.length) w := by
  have hu := T.parts.2.1 t (mem_mem ht)
  unfold Builtin.len_
  simp only [List.getElem?_toArray, List.getElem?_cons_zero, Sem.run_bind, run_underlying hu w, Result.andThen_ok, goInt, S, Sem.run_pure]
  rfl
theorem gLen {t el k m : Nat} {x : Operand} {h : Hd} (hm : h.n = m) (hd : Nat.blt d n = true) (hx : ev e x = some h.v) (ht : lk T.tb.slcs t = some (el, k))
    (hG : G P n ops Q rest ((d, .int .i64 m) :: e) w) : G P n ops Q (⟨some d, .call { callee := .builtin .len, args := #[x], argTypes := #[t] }, ty, pos, aft, none⟩ :: rest) e w := by
  refine gRun hd (fun a ha => ?_) hG
  subst hm
  simp [execOp, resolve, invoke, builtin, ha.ev hx, run_len_slice T ht]
theorem gLenS {t : Nat} {x : Operand} {l : Str} (hd : Nat.blt d n = true) (hx : ev e x = some (S l)) (ht : mem T.tb.strs t = true)
    (hG : G P n ops Q rest ((d, .int .i64 l.length) :: e) w) : G P n ops Q (⟨some d, .call { callee := .builtin .len, args := #[x], argTypes := #[t] }, ty, pos, aft, none⟩ :: rest) e w := by
  refine gRun hd (fun a ha => ?_) hG
  simp [execOp, resolve, invoke, builtin, ha.ev hx, run_len_str T ht]
/-- A sum of ints that does not wrap; a difference; a product. -/
theorem gArith {op : BinOp} {t ty' : TypeId} {x y : Operand} {p q r : Int} (hd : Nat.blt d n = true) (hx : ev e x = some (.int .i64 p)) (hy : ev e y = some (.int .i64 q))
    (hr : (op = .add ∧ r = p + q) ∨ (op = .sub ∧ r = p - q) ∨ (op = .mul ∧ r = p * q)) (hb : -9223372036854775808 ≤ r ∧ r ≤ 9223372036854775807)
    (hG : G P n ops Q rest ((d, .int .i64 r) :: e) w) : G P n ops Q (⟨some d, .binOp op t x y ty', ty, pos, aft, none⟩ :: rest) e w := by
  refine gRun hd (fun a ha => ?_) hG
  have hw : IntKind.i64.wrap r = r := by
    exact IntWalk.i64_in r (by omega)
  rcases hr with ⟨rfl, rfl⟩ | ⟨rfl, rfl⟩ | ⟨rfl, rfl⟩ <;> simp [execOp, ha.ev hx, ha.ev hy, eqGuard, binOp, Op.intArith, hw]
end laws
end Go.Eng
