/- The engine's seventh part: rows that the call owns: literals, append, make, stores into elements; texts as bytes and back. It holds for every program; it has no condition. -/
import Derived.Test.YtlamohamhbhkjaaGreatDoorApp
namespace Go.Eng
open Go.RowKit

/-- A slice that begins at the head of a block of the call's own (number B or more), or is nil. -/
def Ow {α : Type} (k : Nat) (enc : α → List Value) (w : World) (B t : Nat) (h : Hd) (xs : List α) : Prop := w.ownsRow B t k h.v xs.length (xs.flatMap enc)
/-- w' is w with new blocks, and with writes to this one block. -/
abbrev Gr (w w' : World) (h : Hd) : Prop := w.grownBy w' h.v.ownBlock

section facts
variable {w w' : World} {B g t t' k : Nat} {l : List Value} {α β : Type} {enc : α → List Value} {enc' : β → List Value} {h h' : Hd} {xs : List α} {ys : List β}
theorem Ow.len (hO : Ow k enc w B t h xs) : h.n = xs.length := by
  rcases hO.2 with ⟨h1, h2⟩ | ⟨g, cap, cur, h1, _⟩
  · simp only [Hd.v, Value.slice.injEq] at h1; rw [h1.2.1, h2]
  · simp only [Hd.v, Value.slice.injEq] at h1; rw [h1.2.1]
theorem Ow.nil (k : Nat) (enc : α → List Value) (w : World) (B t : Nat) : Ow k enc w B t ⟨none, 0, 0⟩ [] := World.ownsRow_nil _ _ _ _
theorem Ow.sl (hO : Ow k enc w B t h xs) (hs : xs.length < 4611686018427387904) : Sl k enc w t h xs :=
  ⟨hO.len, hs, fun hne => by
    rcases hO.2 with ⟨_, h2⟩ | ⟨g, cap, cur, h1, _, hg, _, _, _, htake⟩
    · exact absurd (List.eq_nil_of_length_eq_zero h2) hne
    · simp only [Hd.v, Value.slice.injEq] at h1
      refine ⟨g, 0, h1.1, by simp [World.shape?, hg], (Array.getElem?_eq_some_iff.1 hg).1, fun j v hv => ?_⟩
      rw [Nat.zero_add]
      have : w.cell? ⟨g, j, none⟩ = cur[j]? := by simp [World.cell?, hg]
      rw [this, ← Array.getElem?_toList]
      rw [← htake, List.getElem?_take] at hv
      split at hv
      · exact hv
      · cases hv⟩
theorem Ow.blk (hO : Ow k enc w B t h xs) : ∀ b, h.v.ownBlock = some b → B ≤ b ∧ b < w.heap.size ∧ (w.shape? b).map (·.1) = some t := by
  intro b hb
  have := World.ownsRow.lt hO b hb
  refine ⟨this.1, this.2, ?_⟩
  rcases hO.2 with ⟨h1, _⟩ | ⟨g, cap, cur, h1, _, hg, _⟩
  · rw [h1] at hb; simp [Value.ownBlock] at hb
  · rw [h1] at hb; simp [Value.ownBlock] at hb; subst hb; simp [World.shape?, hg]
theorem grOld (h : Old w w') (r : Option Nat) : w.grownBy w' r := ⟨h.os, h.tape, h.output, h.size, fun k hk _ => h.block k hk⟩
theorem Ow.old (hO : Ow k enc w B t h xs) (hE : Old w w') : Ow k enc w' B t h xs := World.ownsRow.kept hO (grOld hE none) (by cases hv : h.v.ownBlock <;> simp)
theorem Ow.mono {B' : Nat} (hO : Ow k enc w B t h xs) (hB : B' ≤ B) : Ow k enc w B' t h xs := by
  refine ⟨hO.1, ?_⟩
  rcases hO.2 with hn | ⟨g, cap, cur, h1, h2, r⟩
  · exact .inl hn
  · exact .inr ⟨g, cap, cur, h1, Nat.le_trans hB h2, r⟩
theorem Ow.upd (hO : Ow k enc w B t h xs) (hu : Upd g w w') (hb : Bx w g t' l) (ht : Nat.beq t t' = false) : Ow k enc w' B t h xs :=
  World.ownsRow.kept (row := some g) hO ⟨hu.os, hu.tape, hu.output, Nat.le_of_eq hu.size.symm, fun k _ hne => hu.block k (fun e => hne (by rw [e]))⟩ (by
    cases hv : h.v.ownBlock with
    | none => simp
    | some b =>
      refine .inr fun e => ?_
      simp only [Option.some.injEq] at e
      subst e
      have h3 := (hO.blk b hv).2.2
      have : w.shape? b = some (t', l.length) := by unfold Bx at hb; simp [World.shape?, hb]
      rw [this] at h3
      simp at h3
      rw [h3] at ht
      simp at ht)
/-- A box is as it was behind a write into a row of another type. -/
theorem Bx.gr (hb : Bx w g t' l) (hO : Ow k enc w B t h xs) (hg : Gr w w' h) (ht : Nat.beq t t' = false) : Bx w' g t' l :=
  (hg.block g hb.lt (fun e => by
    have h3 := (hO.blk g e.symm).2.2
    have : w.shape? g = some (t', l.length) := by unfold Bx at hb; simp [World.shape?, hb]
    rw [this] at h3
    simp at h3
    rw [h3] at ht
    simp at ht)).trans hb
theorem Sl.gr {t' k' : Nat} {h' : Hd} (hS : Sl k' enc' w t' h' ys) (hO : Ow k enc w B t h xs) (hg : Gr w w' h) (ht : Nat.beq t t' = false) : Sl k' enc' w' t' h' ys :=
  hS.of (fun b hb hsh => hg.block b hb (fun e => by
    have h3 := (hO.blk b e.symm).2.2
    rw [hsh] at h3
    simp at h3
    rw [h3] at ht
    simp at ht)) hg.size
theorem Old.gr {w0 : World} (hE : Old w0 w) (hO : Ow k enc w w0.heap.size t h xs) (hg : Gr w w' h) : Old w0 w' :=
  hE.trans ⟨hg.os, hg.tape, hg.output, hg.size, fun b hb => hg.block b (Nat.lt_of_lt_of_le hb hE.size) (fun e => by have := (hO.blk b e.symm).1; omega)⟩
theorem grNil (hg : Gr w w' ⟨none, 0, 0⟩) : Old w w' := ⟨hg.os, hg.tape, hg.output, hg.size, fun b hb => hg.block b hb (by simp [Value.ownBlock])⟩
/-- A function value that answers a bool for each element. -/
def FnOk {α : Type} (P : Program) (w : World) (fv : Value) (enc : α → Value) (p : α → Bool) : Prop :=
  ∃ (K : Nat) (fs cs : List Value), fv = .func (.func K) fs.toArray cs.toArray ∧ callOk P K = true ∧ ∀ x w', Old w w' → Calls P K (fs ++ [enc x] ++ cs).toArray w' (Ret fun v w'' => Old w' w'' ∧ v = .bool (p x))
theorem Sl.oldAt (hS : Sl k enc w t h xs) (hE : Old w w') : Sl k enc w' t h xs := hS.old hE
end facts

/-- The type of a row's elements: cells, bytes; its zero value has as many cells. -/
def elOk (P : Program) (el k by_ : Nat) : Bool :=
  match P.info? el with
  | some i => i.size == k && i.bytes == by_ && (match i.zero with | some z => z.cells.size == k | none => false)
  | none => false

section laws
variable {P : Program} (T : Tk P) {n d : Nat} {ops : Array Oper} {rest : List Oper} {e : Env} {Q : Exit → Act → World → Prop} {w : World} {ty : TypeId} {pos : String} {aft : Array Edge}
theorem allOne_of_mem : ∀ {l : List Value}, allOne l = true → ∀ v ∈ l, v.oneCell' = true := fun h => allOne_mem h
theorem flat_one {α : Type} {enc : α → List Value} (h1 : ∀ x, allOne (enc x) = true) (ys : List α) : ∀ v ∈ ys.flatMap enc, v.oneCell' = true := by
  intro v hv
  obtain ⟨y, _, hy⟩ := List.mem_flatMap.1 hv
  exact allOne_mem (h1 y) v hy
/-- A conversion between kinds of ints of one width, the number in its bounds. -/
theorem gConvI {s t : Nat} {x : Operand} {k j : IntKind} {z : Int} (hd : Nat.blt d n = true) (hx : ev e x = some (.int k z)) (hs : (P.underlying s).isSome = true) (ht : P.underlying t = some (.int j)) (hw : j.wrap z = z)
    (hG : G P n ops Q rest ((d, .int j z) :: e) w) : G P n ops Q (⟨some d, .convert s t x, ty, pos, aft, none⟩ :: rest) e w := by
  obtain ⟨D, hD⟩ := Option.isSome_iff_exists.1 hs
  refine gRun hd (fun a ha => ?_) hG
  simp only [execOp, ha.ev hx]
  have : (convert s t (.int k z)).run P w = .ok (.int j z) w := by
    unfold convert
    simp only [Sem.run_bind, run_underlying hD w, run_underlying ht w, Result.andThen_ok, Conv.intToInt, hw]
    cases D <;> rfl
  rw [Sem.run_bind, this]
  rfl
/-- 'append(xs, ys...)' -/
theorem gApp {α : Type} {enc : α → List Value} {t el k by_ B s : Nat} {x y : Operand} {h h' : Hd} {xs ys : List α} (hO : Ow k enc w B el h xs) (hS : Sl k enc w s h' ys) (hd : Nat.blt d n = true) (hx : ev e x = some h.v) (hy : ev e y = some h'.v)
    (ht : lk T.tb.slcs t = some (el, k)) (hel : elOk P el k by_ = true) (hk : ∀ x, (enc x).length = k) (h1 : ∀ x, allOne (enc x) = true) (hb : (xs.length + ys.length) * by_ ≤ 140737488355328) (hm : xs.length + ys.length ≤ maxLen) (hB : B ≤ w.heap.size)
    (hG : ∀ h2 w', Ow k enc w' B el h2 (xs ++ ys) → Gr w w' h → G P n ops Q rest ((d, h2.v) :: e) w') : G P n ops Q (⟨some d, .call { callee := .builtin .append, args := #[x, y], argTypes := #[t, t] }, ty, pos, aft, none⟩ :: rest) e w := by
  obtain ⟨hu, inf, hinf, hsz, hk0⟩ := T.parts.2.2.1 _ (lk_mem ht)
  simp only at hu hinf hsz hk0
  unfold elOk at hel
  rw [hinf] at hel
  simp only [Bool.and_eq_true, beq_iff_eq] at hel
  obtain ⟨⟨_, hby⟩, hz⟩ := hel
  split at hz
  case h_2 => cases hz
  rename_i z hzz
  have hzs : z.cells.size = k := by simpa using hz
  have hn' : h'.n = ys.length := hS.len
  have key : ∃ v' w', (Builtin.append_ #[t, t] ty #[h.v, h'.v]).run P w = .ok v' w' ∧ (∃ h2 : Hd, v' = h2.v ∧ Ow k enc w' B el h2 (xs ++ ys)) ∧ Gr w w' h := by
    by_cases hne : ys = []
    · subst hne
      simp only [List.length_nil] at hn'
      have hr : (Builtin.append_ #[t, t] ty #[h.v, h'.v]).run P w = .ok h.v w := by
        have hcap : h.n ≤ h.c := by
          rcases hO.2 with ⟨h1, _⟩ | ⟨g, cap, cur, h1, _, _, h3, _⟩
          · simp only [Hd.v, Value.slice.injEq] at h1; omega
          · simp only [Hd.v, Value.slice.injEq] at h1; omega
        have hf : ∀ (a : Option Addr) (c : Nat), (Builtin.firstCells inf.size 0 (.slice a 0 c)).run P w = .ok #[] w := by
          intro a c
          cases a <;> simp [Builtin.firstCells, loadCells, loadCellsFrom]
        cases ha : h.a <;> simp [Builtin.append_, run_underlying hu, sizeOf, typeInfo, hinf, Builtin.lenOf, Hd.v, hn', hcap, hf, storeCells, ha]
      refine ⟨_, _, hr, ⟨h, rfl, by simpa using hO⟩, ⟨rfl, rfl, rfl, Nat.le_refl _, fun _ _ _ => rfl⟩⟩
    · obtain ⟨b, o, ha, _, hR⟩ := hS.mem hne
      have hv : h'.v = .slice (some ⟨b, o, none⟩) ys.length h'.c := by simp only [Hd.v, ha, hn']
      obtain ⟨v', w', hr, h2, h3, h4⟩ := run_append_own (P := P) w B t ty el inf z k by_ hu hinf hzz hsz hby hzs (Nat.pos_of_ne_zero hk0) h.v xs.length (xs.flatMap enc) hO ⟨b, o, none⟩ ys.length h'.c (ys.flatMap enc)
        (flat_len hk ys) (fun j u hj => by
          have hadd : (⟨b, o, none⟩ : Addr).add j = ⟨b, o + j, none⟩ := by unfold Addr.add; split <;> simp_all
          rw [hadd]; exact hR.2 j u hj) (flat_one h1 ys) hm hb hB
      have hv2 : ∃ h2 : Hd, v' = h2.v := by
        rcases h2.2 with ⟨rfl, _⟩ | ⟨g, cap, cur, rfl, _⟩
        · exact ⟨⟨none, 0, 0⟩, rfl⟩
        · exact ⟨⟨some ⟨g, 0, none⟩, _, cap⟩, rfl⟩
      obtain ⟨q, rfl⟩ := hv2
      refine ⟨q.v, w', by rw [hv]; exact hr, ⟨q, rfl, ?_⟩, h3⟩
      unfold Ow
      rw [List.length_append, List.flatMap_append]
      exact h2
  obtain ⟨v', w', hr, ⟨h2, rfl, hO2⟩, hgr⟩ := key
  refine gRun (w' := w') hd (fun a ha => ?_) (hG h2 w' hO2 hgr)
  have e1 : ∀ (a : Option Addr) (m c : Nat), (Hd.mk a m c).v = .slice a m c := fun _ _ _ => rfl
  simp only [execOp, resolve, invoke, builtin, List.map_toArray, List.map_cons, List.map_nil, ha.ev hx, ha.ev hy, Sem.run_bind, Sem.run_pure, Result.andThen_ok, hr]
/-- 'T{}' and 'T{a}', rows of literals: the cells told. -/
def bsC (P : Program) (el len k : Nat) (parts : List (Nat × Value)) : Option (List Value) :=
  match P.info? el with
  | some i => match i.zero with
    | some z => match (Instr.fill (fun j => some (j * k, k)) ((Array.range (len * k)).map (z.cells[· % z.cells.size]!)) parts) with
      | some cs => some cs.toList
      | none => none
    | none => none
  | none => none
theorem gLit {α : Type} {enc : α → List Value} {t el k len : Nat} {ps : List (Nat × Operand)} {vs : List (Nat × Value)} {cs : List Value} (xs : List α) (hd : Nat.blt d n = true) (hp : evp e ps = some vs) (ht : lk T.tb.slcs t = some (el, k)) (hb : bsC P el len k vs = some cs)
    (hl : xs.length = len) (hc : xs.flatMap enc = cs) (hcl : cs.length = len * k) (hsm : Nat.ble (len * k) 16777216 = true) (hG : ∀ h w', w.heap.size = w.heap.size → Old w w' → Ow k enc w' w.heap.size el h xs → G P n ops Q rest ((d, h.v) :: e) w') :
    G P n ops Q (⟨some d, .buildSlice t len ps.toArray, ty, pos, aft, none⟩ :: rest) e w := by
  obtain ⟨hu, inf, hinf, hsz, hk0⟩ := T.parts.2.2.1 _ (lk_mem ht)
  simp only at hu hinf hsz hk0
  have hsm' : len * k ≤ 16777216 := Nat.le_of_ble_eq_true hsm
  unfold bsC at hb
  rw [hinf] at hb
  simp only at hb
  split at hb
  case h_2 => cases hb
  rename_i z hz
  split at hb
  case h_2 => cases hb
  rename_i c hfill
  simp only [Option.some.injEq] at hb
  have hc2 : c = cs.toArray := by rw [← hb]
  have hlen : len ≤ maxLen := by
    have : len ≤ len * k := Nat.le_mul_of_pos_right _ (Nat.pos_of_ne_zero hk0)
    unfold maxLen; omega
  refine gRun (w' := w.alloc (.cells cs.toArray el)) (v := (⟨some ⟨w.heap.size, 0, none⟩, len, len⟩ : Hd).v) hd (fun a ha => ?_) (hG _ _ rfl (old_alloc _ _) ?_)
  · have h1 := agr_evp ha hp
    simp only [execOp, List.map_toArray]
    rw [show List.map (fun x : Nat × Operand => match x with | (i, x) => (i, a.eval x)) ps = vs from h1]
    have hfill' : Instr.fill (fun j => some (j * k, k)) ((Array.range (len * k)).map ((if len * k = 0 then (#[] : Array Value) else z.cells)[· % (if len * k = 0 then (#[] : Array Value) else z.cells).size]!)) vs = some c := by
      by_cases h0 : len * k = 0
      · have e0 : ∀ f : Nat → Value, (Array.range (len * k)).map f = #[] := fun f => by simp [h0]
        rw [e0] at hfill ⊢
        exact hfill
      · simp only [h0, if_false]; exact hfill
    have hr : (Instr.buildSlice t len vs.toArray).run P w = .ok (.slice (some ⟨w.heap.size, 0, none⟩) len len) (w.alloc (.cells cs.toArray el)) := by
      have hnot : ¬ (len * k > 2 ^ 24) := by omega
      unfold Instr.buildSlice
      simp only [Sem.run_bind, run_underlying hu w, Result.andThen_ok, sizeOf, typeInfo, run_program, hinf, Sem.run_pure, hsz, hnot, if_false]
      by_cases h0 : len * k = 0
      · simp only [h0, if_true] at hfill' ⊢
        simp only [Sem.run_bind, Sem.run_pure, Result.andThen_ok, hfill', newRow, run_newObj, hc2]
        rfl
      · simp only [h0, if_false] at hfill' ⊢
        simp only [Sem.run_bind, zeroValue, typeInfo, run_program, hinf, Sem.run_pure, Result.andThen_ok, hz, hfill', newRow, run_newObj, hc2]
        rfl
    rw [Sem.run_bind, hr]
    rfl
  · unfold Ow
    rw [hc, hl]
    have := World.ownsRow_lit (e := el) (base := w.heap.size) (size := k) w cs.toArray len (Nat.le_refl _) hlen (by simpa using hcl)
    simpa using this
theorem flat_b8 : ∀ l : Str, l.flatMap B8 = l.map (fun b => Value.int .u8 (b.toNat : Int))
  | [] => rfl
  | a :: l => by rw [List.flatMap_cons, flat_b8 l]; rfl
/-- '[]byte(s)' -/
theorem gBytes {t dst el : Nat} {x : Operand} {l : Str} (hd : Nat.blt d n = true) (hx : ev e x = some (S l)) (ht : mem T.tb.strs t = true) (hs : lk T.tb.slcs dst = some (el, 1)) (hu8 : (match P.underlying el with | some (.int .u8) => true | _ => false) = true) (hsm : l.length < 4611686018427387904)
    (hG : ∀ h w', Old w w' → Sl 1 B8 w' el h l → G P n ops Q rest ((d, h.v) :: e) w') : G P n ops Q (⟨some d, .convert t dst x, ty, pos, aft, none⟩ :: rest) e w := by
  have hu := T.parts.2.1 t (mem_mem ht)
  obtain ⟨hu2, _⟩ := T.parts.2.2.1 _ (lk_mem hs)
  simp only at hu2
  have he : P.underlying el = some (.int .u8) := by split at hu8 <;> simp_all
  have hold : Old w (Lib.bytesWorld w el ⟨⟨l⟩⟩) := ⟨rfl, rfl, rfl, by rw [Lib.bytesWorld_size]; omega, fun k hk => Lib.bytesWorld_at_old w el _ k hk⟩
  refine gRun (w' := Lib.bytesWorld w el ⟨⟨l⟩⟩) (v := (⟨some ⟨w.heap.size, 0, none⟩, l.length, grownCap w l.length 0 el⟩ : Hd).v) hd (fun a ha => ?_) (hG _ _ hold ⟨rfl, hsm, fun _ => ⟨w.heap.size, 0, rfl, ?_, ?_⟩⟩)
  · simp only [execOp, ha.ev hx, S]
    rw [Sem.run_bind, Lib.run_convert_string_bytes w t dst el _ hu hu2 he]
    rfl
  · simp [World.shape?, Lib.bytesWorld_at_new]
  · refine ⟨by rw [Lib.bytesWorld_size]; omega, fun j v hv => ?_⟩
    rw [flat_b8] at hv
    obtain ⟨hj, hv2⟩ := List.getElem?_eq_some_iff.1 hv
    have hj' : j < l.length := by simpa using hj
    rw [Nat.zero_add, Lib.bytesWorld_cell w el _ j (show j < (ByteArray.mk ⟨l⟩).size from hj')]
    simp at hv2
    simp [← hv2, List.getD, List.getElem?_eq_getElem hj']
end laws
end Go.Eng
