/- The engine's third part: boxes (variables in memory), loads, stores, new memory. It holds for every program; it has no condition. -/
import Derived.Test.YtlamohamhbhkjaaGreatDoorOps
import Derived.Laws.CopyRow
namespace Go.Eng
open Go.RowKit

/-- Block g is a variable of type t that holds these cells. -/
def Bx (w : World) (g t : Nat) (l : List Value) : Prop := w.heap[g]? = some (.cells l.toArray t (0, 0))
/-- Only block g may have changed. -/
structure Upd (g : Nat) (w w' : World) : Prop where
  os : w'.os = w.os
  tape : w'.tape = w.tape
  output : w'.output = w.output
  size : w'.heap.size = w.heap.size
  block : ∀ k, k ≠ g → w'.heap[k]? = w.heap[k]?
/-- What was there is as it was. -/
abbrev Old (w w' : World) : Prop := Below w.heap.size w w'

section facts
variable {w w' : World} {g g' t t' : Nat} {l l' : List Value}
theorem Bx.lt (h : Bx w g t l) : g < w.heap.size := (Array.getElem?_eq_some_iff.1 h).1
theorem Bx.old (h : Bx w g t l) (hE : Old w w') : Bx w' g t l := (hE.block g h.lt).trans h
theorem Bx.upd (h : Bx w g t l) (hu : Upd g' w w') (hne : g ≠ g') : Bx w' g t l := (hu.block g hne).trans h
theorem Bx.ne (h : Bx w g t l) (h' : Bx w g' t' l') (ht : Nat.beq t t' = false) : g ≠ g' := fun e => by
  subst e
  have := h.symm.trans h'
  simp only [Option.some.injEq, Obj.cells.injEq] at this
  rw [this.2.1] at ht
  simp at ht
theorem Below.upd {B : Nat} {w0 : World} (h : Below B w0 w) (hu : Upd g w w') (hB : B ≤ g) : Below B w0 w' :=
  h.trans ⟨hu.os, hu.tape, hu.output, Nat.le_of_eq hu.size.symm, fun k hk => hu.block k (by omega)⟩
theorem Below.old {B : Nat} {w0 : World} (h : Below B w0 w) (hE : Old w w') (hB : B ≤ w.heap.size) : Below B w0 w' := h.trans (hE.mono hB)
/-- From the world at the entry. -/
theorem oldOld {w0 : World} (h : Old w0 w) (hE : Old w w') : Old w0 w' := h.trans (hE.mono h.size)
theorem oldUpd {w0 : World} (h : Old w0 w) (hu : Upd g w w') (hB : w0.heap.size ≤ g) : Old w0 w' := Below.upd h hu hB
theorem oldRefl (w : World) : Old w w := Below.refl _ _
theorem oldDrew (w : World) : Old w w.drew := (Below.refl _ _).drew
theorem Bx.cell (h : Bx w g t l) (o : Nat) : w.cell? ⟨g, o, none⟩ = l[o]? := by unfold Bx at h; simp [World.cell?, h]
theorem Bx.frozen (h : Bx w g t l) (o : Nat) : w.frozen? ⟨g, o, none⟩ = false := by unfold Bx at h; simp [World.frozen?, h]
end facts

def seg (l : List Value) (o k : Nat) : List Value := (l.drop o).take k
def ow (l : List Value) (o : Nat) (vs : List Value) : List Value := l.take o ++ (vs ++ l.drop (o + vs.length))
def allOne : List Value → Bool
  | [] => true
  | v :: r => v.oneCell' && allOne r
theorem allOne_mem : ∀ {l : List Value}, allOne l = true → ∀ v ∈ l, v.oneCell' = true
  | [], _, v, h => by cases h
  | x :: r, hk, v, h => by
    simp only [allOne, Bool.and_eq_true] at hk
    rcases List.mem_cons.1 h with rfl | h
    · exact hk.1
    · exact allOne_mem hk.2 v h

section laws
variable {P : Program} (T : Tk P) {n d : Nat} {ops : Array Oper} {rest : List Oper} {e : Env} {Q : Exit → Act → World → Prop} {w : World} {ty : TypeId} {pos : String} {aft : Array Edge}
theorem run_isAgg_of {t : Nat} {D : TypeDesc} {b : Bool} (hu : P.underlying t = some D) (hd : isAggD D = b) (w : World) : (isAgg t).run P w = .ok b w := by
  unfold isAgg
  rw [Sem.run_bind, run_underlying hu w]
  subst hd
  cases D <;> rfl

theorem run_load1 {t g o s : Nat} {l : List Value} {v : Value} (ht : mem T.tb.flat t = true) (hb : Bx w g s l) (hs : nth l o = some v) : (loadVar t ⟨g, o, none⟩).run P w = .ok v w := by
  obtain ⟨⟨D, hu, hd⟩, _⟩ := T.parts.2.2.2.2.1 t (mem_mem ht)
  have hc : w.cell? ⟨g, o, none⟩ = some v := by rw [hb.cell, ← nth_get]; exact hs
  unfold loadVar
  rw [Sem.run_bind, run_isAgg_of hu hd w]
  simp [run_load, hc]
theorem gLoad {t g o s : Nat} {x : Operand} {l : List Value} {v : Value} (hd : Nat.blt d n = true) (hx : ev e x = some (.pointer (some ⟨g, o, none⟩))) (ht : mem T.tb.flat t = true) (hb : Bx w g s l) (hs : nth l o = some v)
    (h : G P n ops Q rest ((d, v) :: e) w) : G P n ops Q (⟨some d, .load t x, ty, pos, aft, none⟩ :: rest) e w :=
  gRun hd (fun a ha => by simp [execOp, ha.ev hx, Instr.loadAt, Instr.sureAddr, run_load1 T ht hb hs]) h

theorem run_loadA {t g o s k : Nat} {l vs : List Value} (ht : lk T.tb.aggs t = some k) (hb : Bx w g s l) (hs : seg l o k = vs) (hn : vs.length = k) : (loadVar t ⟨g, o, none⟩).run P w = .ok (.agg vs.toArray) w := by
  obtain ⟨⟨D, hu, hd⟩, i, hi, hz⟩ := T.parts.2.2.2.1 _ (lk_mem ht)
  have hl := run_loadCells_list (P := P) w ⟨g, o, none⟩ vs (fun j v hv => by
    have hadd : (⟨g, o, none⟩ : Addr).add j = ⟨g, o + j, none⟩ := by unfold Addr.add; split <;> simp_all
    rw [hadd, hb.cell]
    subst hs
    unfold seg at hv
    rw [List.getElem?_take] at hv
    split at hv
    · rw [List.getElem?_drop] at hv; exact hv
    · cases hv)
  unfold loadVar
  rw [Sem.run_bind, run_isAgg_of hu hd w]
  simp only at hz
  rw [hn] at hl
  simp [sizeOf, typeInfo, hi, hz, hl]
theorem gLoadA {t g o s k : Nat} {x : Operand} {l vs : List Value} (hd : Nat.blt d n = true) (hx : ev e x = some (.pointer (some ⟨g, o, none⟩))) (ht : lk T.tb.aggs t = some k) (hb : Bx w g s l) (hs : seg l o k = vs) (hn : vs.length = k)
    (h : G P n ops Q rest ((d, .agg vs.toArray) :: e) w) : G P n ops Q (⟨some d, .load t x, ty, pos, aft, none⟩ :: rest) e w :=
  gRun hd (fun a ha => by simp [execOp, ha.ev hx, Instr.loadAt, Instr.sureAddr, run_loadA T ht hb hs hn]) h

theorem upd_setRow {g s : Nat} {l l' : List Value} (hb : Bx w g s l) : Upd g w (w.setRow g l'.toArray) ∧ Bx (w.setRow g l'.toArray) g s l' :=
  ⟨⟨rfl, rfl, rfl, by simp, fun k hk => setRow_other w g k _ hk⟩, setRow_heap w g _ _ s (0, 0) hb⟩
theorem run_storeCells_bx {g o s : Nat} (vs : List Value) (l : List Value) (w : World) (hb : Bx w g s l) (hl : o + vs.length ≤ l.length) (h1 : ∀ v ∈ vs, v.oneCell' = true) :
    (storeCells ⟨g, o, none⟩ vs 0).run P w = .ok () (w.setRow g (ow l o vs).toArray) := by
  have := run_storeCells_at (P := P) g o s vs 0 l.toArray w hb (by simpa using hl) h1
  rw [this]
  simp [ow]

theorem gSt1 {t g o s : Nat} {x y : Operand} {l l' : List Value} {v : Value} (hx : ev e x = some (.pointer (some ⟨g, o, none⟩))) (hy : ev e y = some v) (ht : mem T.tb.flat t = true) (hv : v.oneCell' = true) (hb : Bx w g s l)
    {m : Nat} (hm : l.length = m) (hl : Nat.blt o m = true) (hs : ow l o [v] = l') (h : ∀ w', Upd g w w' → Bx w' g s l' → G P n ops Q rest e w') : G P n ops Q (⟨none, .store t x y, ty, pos, aft, none⟩ :: rest) e w := by
  obtain ⟨_, i, hi, hz⟩ := T.parts.2.2.2.2.1 t (mem_mem ht)
  have hl' : o < l.length := by subst hm; simpa [Nat.blt_eq] using hl
  have hc : v.cells = #[v] := by cases v <;> first | rfl | simp [Value.oneCell'] at hv
  refine gRunU (w' := w.setRow g l'.toArray) (fun a ha => ?_) (h _ (upd_setRow hb).1 (upd_setRow hb).2)
  have hst := run_storeCells_bx (P := P) [v] l w hb (o := o) (by simp; omega) (by simpa using hv)
  rw [hs] at hst
  simp [execOp, ha.ev hx, ha.ev hy, Instr.storeAt, Instr.sureAddr, storeVar, sizeOf, typeInfo, hi, hz, hc, hst]
theorem gStA {t g o s k : Nat} {x y : Operand} {l l' vs : List Value} (hx : ev e x = some (.pointer (some ⟨g, o, none⟩))) (hy : ev e y = some (.agg vs.toArray)) (ht : lk T.tb.aggs t = some k) (hn : vs.length = k) (hv : allOne vs = true) (hb : Bx w g s l)
    {m : Nat} (hm : l.length = m) (hl : Nat.ble (o + k) m = true) (hs : ow l o vs = l') (h : ∀ w', Upd g w w' → Bx w' g s l' → G P n ops Q rest e w') : G P n ops Q (⟨none, .store t x y, ty, pos, aft, none⟩ :: rest) e w := by
  obtain ⟨_, i, hi, hz⟩ := T.parts.2.2.2.1 _ (lk_mem ht)
  have hl' : o + k ≤ l.length := by subst hm; exact Nat.le_of_ble_eq_true hl
  refine gRunU (w' := w.setRow g l'.toArray) (fun a ha => ?_) (h _ (upd_setRow hb).1 (upd_setRow hb).2)
  have hst := run_storeCells_bx (P := P) vs l w hb (o := o) (by omega) (allOne_mem hv)
  rw [hs] at hst
  simp only at hz
  simp [execOp, ha.ev hx, ha.ev hy, Instr.storeAt, Instr.sureAddr, storeVar, sizeOf, typeInfo, hi, hz, hn, Value.cells, hst]

theorem old_alloc (w : World) (o : Obj) : Old w (w.alloc o) := (Below.refl _ _).alloc (Nat.le_refl _) o
theorem bx_alloc (w : World) (t : Nat) (l : List Value) : Bx (w.alloc (.cells l.toArray t)) w.heap.size t l := by
  show (w.heap.push _)[w.heap.size]? = _
  simp
/-- The cells of a type's zero value. -/
def zeroOf (P : Program) (t : Nat) : Option (List Value) :=
  match P.info? t with
  | some i => match i.zero with
    | some v => some v.cells.toList
    | none => none
  | none => none
theorem gAlloc {t : Nat} {l : List Value} (hd : Nat.blt d n = true) (hz : zeroOf P t = some l)
    (h : ∀ g w', w.heap.size = g → Old w w' → Bx w' g t l → G P n ops Q rest ((d, .pointer (some ⟨g, 0, none⟩)) :: e) w') : G P n ops Q (⟨some d, .alloc t, ty, pos, aft, none⟩ :: rest) e w := by
  unfold zeroOf at hz
  split at hz
  · rename_i i hi
    split at hz
    · rename_i v hv
      simp only [Option.some.injEq] at hz
      subst hz
      refine gRun hd (fun a ha => ?_) (h w.heap.size (w.alloc (.cells v.cells.toList.toArray t)) rfl (old_alloc _ _) (bx_alloc _ _ _))
      simp [execOp, Instr.alloc, zeroValue, typeInfo, hi, hv, newVar, newRow]
    · cases hz
  · cases hz
theorem gBox {t : Nat} {x : Operand} {v : Value} {l : List Value} (hd : Nat.blt d n = true) (hx : ev e x = some v) (hl : v.cells = l.toArray)
    (h : ∀ g w', w.heap.size = g → Old w w' → Bx w' g t l → G P n ops Q rest ((d, .pointer (some ⟨g, 0, none⟩)) :: e) w') : G P n ops Q (⟨some d, .box t x, ty, pos, aft, none⟩ :: rest) e w := by
  refine gRun hd (fun a ha => ?_) (h w.heap.size (w.alloc (.cells l.toArray t)) rfl (old_alloc _ _) (bx_alloc _ _ _))
  simp [execOp, ha.ev hx, Instr.box, newVar, newRow, hl]

/-- A struct out of its parts. -/
def buildC (P : Program) (t : Nat) (parts : List (Nat × Value)) : Option (List Value) :=
  match P.info? t with
  | some i => match i.zero with
    | some z => match P.underlying t with
      | some (.struct fs) => match Instr.fill (fun j => match fs[j]? with | some f => (match P.info? f.type with | some x => some (f.offset, x.size) | none => none) | none => none) z.cells parts with
        | some cs => some cs.toList
        | none => none
      | _ => none
    | none => none
  | none => none
theorem fill_congr {p q : Nat → Option (Nat × Nat)} : ∀ (l : List (Nat × Value)) (cs : Array Value), (∀ x ∈ l, p x.1 = q x.1) → Instr.fill p cs l = Instr.fill q cs l
  | [], cs, _ => rfl
  | (i, v) :: r, cs, h => by
    have h1 := h (i, v) (by simp)
    simp only at h1
    simp only [Instr.fill, h1]
    split
    · rfl
    · split
      · rfl
      · exact fill_congr r _ (fun x hx => h x (by simp [hx]))
theorem mapM_sizes (w : World) : ∀ (fs : List Field) (acc : Array (Nat × Nat)), (∀ f ∈ fs, ∃ x, P.info? f.type = some x) →
    ∃ out : Array (Nat × Nat), (List.foldlM (fun bs (f : Field) => do let b ← (do pure (f.offset, ← sizeOf f.type) : Sem (Nat × Nat)); pure (bs.push b)) acc fs : Sem (Array (Nat × Nat))).run P w = .ok out w ∧
      out.toList = acc.toList ++ fs.map (fun f => (f.offset, (match P.info? f.type with | some x => x.size | none => 0)))
  | [], acc, _ => ⟨acc, rfl, by simp⟩
  | f :: fs, acc, h => by
    obtain ⟨x, hx⟩ := h f (by simp)
    obtain ⟨out, h1, h2⟩ := mapM_sizes w fs (acc.push (f.offset, x.size)) (fun g hg => h g (by simp [hg]))
    refine ⟨out, ?_, ?_⟩
    · simp only [List.foldlM_cons, Sem.run_bind, sizeOf, typeInfo, run_program, Result.andThen_ok, hx, Sem.run_pure]
      exact h1
    · rw [h2]; simp [hx]
theorem run_buildC {t : Nat} {parts : List (Nat × Value)} {cs : List Value} (h : buildC P t parts = some cs)
    (hall : (match P.underlying t with | some (.struct fs) => fs.toList.all fun f => (P.info? f.type).isSome | _ => false) = true) (w : World) : (Instr.build t parts.toArray).run P w = .ok (.agg cs.toArray) w := by
  unfold buildC at h
  split at h
  · rename_i i hi
    split at h
    · rename_i z hz
      split at h
      · rename_i fs hu
        rw [hu] at hall
        simp only at hall
        split at h
        · rename_i c hc
          simp only [Option.some.injEq] at h
          subst h
          obtain ⟨out, h1, h2⟩ := mapM_sizes (P := P) w fs.toList #[] (fun f hf => by
            have := List.all_eq_true.1 hall f hf
            exact Option.isSome_iff_exists.1 this)
          have hz' : (zeroValue t).run P w = .ok z w := by simp [zeroValue, typeInfo, hi, hz]
          unfold Instr.build
          rw [Sem.run_bind, hz']
          simp only [Result.andThen_ok]
          rw [Sem.run_bind, run_underlying hu w]
          simp only [Result.andThen_ok]
          rw [Sem.run_bind]
          have hm : (fs.mapM fun f => (do pure (f.offset, ← sizeOf f.type) : Sem (Nat × Nat))).run P w = .ok out w := by
            rw [Array.mapM_eq_foldlM, ← Array.foldlM_toList]
            exact h1
          rw [hm]
          simp only [Result.andThen_ok]
          have hf : Instr.fill (out[·]?) z.cells parts = some c := by
            rw [← hc]
            refine fill_congr _ _ fun x _ => ?_
            rw [← Array.getElem?_toList, h2]
            simp only [List.nil_append, List.getElem?_map, Array.getElem?_toList]
            cases hx : fs[x.1]? with
            | none => rfl
            | some f =>
              have hmem : f ∈ fs.toList := Array.mem_toList_iff.2 (Array.mem_of_getElem? hx)
              obtain ⟨y, hy⟩ := Option.isSome_iff_exists.1 (List.all_eq_true.1 hall f hmem)
              simp [hy]
          simp [hf]
        · cases h
      · cases h
    · cases h
  · cases h
def evp (e : Env) : List (Nat × Operand) → Option (List (Nat × Value))
  | [] => some []
  | (i, x) :: r => match ev e x with
    | some v => match evp e r with
      | some vs => some ((i, v) :: vs)
      | none => none
    | none => none
theorem agr_evp {a : Act} (h : Agr n a e) : ∀ {xs : List (Nat × Operand)} {vs : List (Nat × Value)}, evp e xs = some vs → xs.map (fun x => (x.1, a.eval x.2)) = vs
  | [], vs, hk => by simp only [evp, Option.some.injEq] at hk; subst hk; rfl
  | (i, x) :: xs, vs, hk => by
    simp only [evp] at hk
    split at hk
    · rename_i v hv
      split at hk
      · rename_i r hr
        simp only [Option.some.injEq] at hk
        subst hk
        simp [h.ev hv, agr_evp h hr]
      · cases hk
    · cases hk
def bldOk (P : Program) (t : Nat) : Bool := match P.underlying t with | some (.struct fs) => fs.toList.all fun f => (P.info? f.type).isSome | _ => false
theorem gBuild {t : Nat} {ps : List (Nat × Operand)} {vs : List (Nat × Value)} {cs : List Value} (hd : Nat.blt d n = true) (hp : evp e ps = some vs) (hk : bldOk P t = true) (hb : buildC P t vs = some cs)
    (h : G P n ops Q rest ((d, .agg cs.toArray) :: e) w) : G P n ops Q (⟨some d, .build t ps.toArray, ty, pos, aft, none⟩ :: rest) e w := by
  refine gRun hd (fun a ha => ?_) h
  have h1 := agr_evp ha hp
  have h2 := run_buildC hb hk w
  simp only [execOp, List.map_toArray]
  rw [show List.map (fun x : Nat × Operand => match x with | (i, x) => (i, a.eval x)) ps = vs from h1]
  simp [h2]

/-- Out of a function whose first result lies in a box. -/
theorem outC1 {fn : Func} {p g s k t : Nat} {R : Ending → World → Prop} {vs : List Value} {x : Exit} (hx : x = .ret ∨ x = .normal)
    (hr : fn.results = #[.cell p t]) (hg : get e p = some (.pointer (some ⟨g, 0, none⟩))) (ht : lk T.tb.aggs t = some k) (hb : Bx w g s vs) (hn : vs.length = k)
    (h : R (.returned (.agg vs.toArray)) w) : N n (bodyPost P fn R) x e w := by
  intro a ha
  have hl := run_loadA T ht hb (o := 0) (vs := vs) (by unfold seg; rw [← hn]; simp) hn
  have hp : (results fn a.tmps).run P w = .ok (.agg vs.toArray) w := by
    have h1 := ha.vals p _ hg
    simp only [Array.getD_eq_getD_getElem?] at h1
    simp [results, hr, h1, asAddr, hl]
  rcases hx with rfl | rfl <;> exact ⟨ha.defers, _, hp, h⟩
theorem outC2 {fn : Func} {p g s k t u : Nat} {R : Ending → World → Prop} {vs : List Value} {v : Value} {x : Exit} (hx : x = .ret ∨ x = .normal)
    (hr : fn.results = #[.cell p t, .tmp u]) (hg : get e p = some (.pointer (some ⟨g, 0, none⟩))) (ht : lk T.tb.aggs t = some k) (hb : Bx w g s vs) (hn : vs.length = k) (hv : get e u = some v)
    (h : R (.returned (.tuple #[.agg vs.toArray, v])) w) : N n (bodyPost P fn R) x e w := by
  intro a ha
  have hl := run_loadA T ht hb (o := 0) (vs := vs) (by unfold seg; rw [← hn]; simp) hn
  have hp : (results fn a.tmps).run P w = .ok (.tuple #[.agg vs.toArray, v]) w := by
    have h1 := ha.vals p _ hg
    have h2 := ha.vals u _ hv
    simp only [Array.getD_eq_getD_getElem?] at h1 h2
    simp [results, hr, h1, h2, asAddr, hl]
  rcases hx with rfl | rfl <;> exact ⟨ha.defers, _, hp, h⟩
end laws
end Go.Eng
