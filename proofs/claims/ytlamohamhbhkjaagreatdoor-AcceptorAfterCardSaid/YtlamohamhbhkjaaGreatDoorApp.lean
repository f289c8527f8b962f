/- The engine's sixth part: texts cut, joined, indexed; rows that the call owns: append, literals; conversions between texts and bytes. It holds for every program; it has no condition. -/
import Derived.Test.YtlamohamhbhkjaaGreatDoorDraw
import Derived.Lib.ConvBytes
namespace Go.Eng
open Go.RowKit

theorem extract_mk (l : Str) (a b : Nat) : (ByteArray.mk ⟨l⟩).extract a b = ⟨⟨(l.take b).drop a⟩⟩ := by
  have : ((ByteArray.mk ⟨l⟩).extract a b).data.toList = (l.take b).drop a := by
    simp [ByteArray.data_extract]
    rw [List.drop_take]
  cases h : (ByteArray.mk ⟨l⟩).extract a b with
  | mk d => cases d with | mk q => rw [h] at this; simpa using this

section laws
variable {P : Program} (T : Tk P) {n d : Nat} {ops : Array Oper} {rest : List Oper} {e : Env} {Q : Exit → Act → World → Prop} {w : World} {ty : TypeId} {pos : String} {aft : Array Edge}
/-- 's[a:]', 's[:b]', 's[a:b]'. -/
theorem run_cut {t : Nat} (ht : mem T.tb.strs t = true) (l : Str) (lo hi : Option Value) (a b : Nat)
    (hlo : (lo = none ∧ a = 0) ∨ ∃ k z, lo = some (.int k z) ∧ z = (a : Int)) (hhi : (hi = none ∧ b = l.length) ∨ ∃ k z, hi = some (.int k z) ∧ z = (b : Int)) (hab : a ≤ b) (hb : b ≤ l.length) (w : World) :
    (Instr.sliceAt t (S l) lo hi none).run P w = .ok (S ((l.take b).drop a)) w := by
  have hu := T.parts.2.1 t (mem_mem ht)
  have hx : (Instr.slice t (S l) lo hi none).run P w = .ok (S ((l.take b).drop a)) w := by
    unfold Instr.slice
    rw [Sem.run_bind, run_underlying hu w]
    simp only [Result.andThen_ok, S]
    have hsz : (ByteArray.mk ⟨l⟩).size = l.length := rfl
    rcases hlo with ⟨rfl, rfl⟩ | ⟨k, z, rfl, rfl⟩ <;> rcases hhi with ⟨rfl, rfl⟩ | ⟨k', z', rfl, rfl⟩ <;>
      simp [Instr.sliceBounds, Instr.sliceBound, asIntOf, hsz, hab, hb, extract_mk]
  unfold Instr.sliceAt
  rw [Sem.run_bind, run_underlying hu w]
  simpa using hx
def evo (e : Env) : Option Operand → Option (Option Value)
  | none => some none
  | some x => match ev e x with
    | some v => some (some v)
    | none => none
theorem agr_evo {a : Act} (h : Agr n a e) {x : Option Operand} {v : Option Value} (hx : evo e x = some v) : x.map a.eval = v := by
  cases x with
  | none => simpa [evo] using hx
  | some x =>
    simp only [evo] at hx
    split at hx
    · rename_i u hu
      simp only [Option.some.injEq] at hx
      subst hx
      simp [h.ev hu]
    · cases hx
theorem gCut {t a b : Nat} {x : Operand} {lo hi : Option Operand} {l l' : Str} {vlo vhi : Option Value} (hd : Nat.blt d n = true) (hx : ev e x = some (S l)) (hl : evo e lo = some vlo) (hh : evo e hi = some vhi) (ht : mem T.tb.strs t = true)
    (hlo : (vlo = none ∧ a = 0) ∨ ∃ k z, vlo = some (.int k z) ∧ z = (a : Int)) (hhi : (vhi = none ∧ b = l.length) ∨ ∃ k z, vhi = some (.int k z) ∧ z = (b : Int)) (hab : a ≤ b) (hb : b ≤ l.length) (hr : (l.take b).drop a = l')
    (hG : G P n ops Q rest ((d, S l') :: e) w) : G P n ops Q (⟨some d, .slice t x lo hi none, ty, pos, aft, none⟩ :: rest) e w := by
  subst hr
  refine gRun hd (fun ac ha => ?_) hG
  simp only [execOp, ha.ev hx, agr_evo ha hl, agr_evo ha hh, Option.map_none]
  rw [Sem.run_bind, run_cut T ht l vlo vhi a b hlo hhi hab hb w]
  simp
/-- 's[a:]' -/
theorem gCutL {t a : Nat} {k : IntKind} {z : Int} {x ox : Operand} {l : Str} (hd : Nat.blt d n = true) (hx : ev e x = some (S l)) (hl : ev e ox = some (.int k z)) (ht : mem T.tb.strs t = true) (hz : z = (a : Int)) (ha : a ≤ l.length)
    (hG : G P n ops Q rest ((d, S (l.drop a)) :: e) w) : G P n ops Q (⟨some d, .slice t x (some ox) none none, ty, pos, aft, none⟩ :: rest) e w :=
  gCut T (a := a) (b := l.length) hd hx (vlo := some (.int k z)) (by simp [evo, hl]) (vhi := none) rfl ht (.inr ⟨k, z, rfl, hz⟩) (.inl ⟨rfl, rfl⟩) ha (Nat.le_refl _) (by simp) hG
/-- 's[:b]' -/
theorem gCutH {t b : Nat} {k : IntKind} {z : Int} {x ox : Operand} {l : Str} (hd : Nat.blt d n = true) (hx : ev e x = some (S l)) (hl : ev e ox = some (.int k z)) (ht : mem T.tb.strs t = true) (hz : z = (b : Int)) (hb : b ≤ l.length)
    (hG : G P n ops Q rest ((d, S (l.take b)) :: e) w) : G P n ops Q (⟨some d, .slice t x none (some ox) none, ty, pos, aft, none⟩ :: rest) e w :=
  gCut T (a := 0) (b := b) hd hx (vlo := none) rfl (vhi := some (.int k z)) (by simp [evo, hl]) ht (.inl ⟨rfl, rfl⟩) (.inr ⟨k, z, rfl, hz⟩) (Nat.zero_le _) hb (by simp) hG
/-- 's + t' -/
theorem gCat {t t' : Nat} {x y : Operand} {l m : Str} (hd : Nat.blt d n = true) (hx : ev e x = some (S l)) (hy : ev e y = some (S m)) (hb : l.length + m.length < 4611686018427387904)
    (hG : G P n ops Q rest ((d, S (l ++ m)) :: e) w) : G P n ops Q (⟨some d, .binOp .add t x y t', ty, pos, aft, none⟩ :: rest) e w := by
  refine gRun hd (fun ac ha => ?_) hG
  have h1 : ¬ ((((ByteArray.mk ⟨l⟩).size + (ByteArray.mk ⟨m⟩).size : Nat) : Int) > IntKind.i64.max) := by
    have e1 : (ByteArray.mk ⟨l⟩).size = l.length := rfl
    have e2 : (ByteArray.mk ⟨m⟩).size = m.length := rfl
    have e3 : IntKind.i64.max = 9223372036854775807 := rfl
    rw [e1, e2, e3]
    omega
  have h2 : ByteArray.mk ⟨l⟩ ++ ByteArray.mk ⟨m⟩ = ⟨⟨l ++ m⟩⟩ := by
    have : (ByteArray.mk ⟨l⟩ ++ ByteArray.mk ⟨m⟩).data.toList = l ++ m := by simp
    cases h : (ByteArray.mk ⟨l⟩ ++ ByteArray.mk ⟨m⟩) with
    | mk d => cases d with | mk q => rw [h] at this; simpa using this
  simp only [execOp, ha.ev hx, ha.ev hy, S, eqGuard, binOp, Op.stringOp, h1, if_false, h2]
  rfl
/-- 's[i]' -/
theorem gIdxS {t i : Nat} {k : IntKind} {z : Int} {x ix : Operand} {l : Str} {c : UInt8} (hd : Nat.blt d n = true) (hx : ev e x = some (S l)) (hi : ev e ix = some (.int k z)) (ht : mem T.tb.strs t = true) (hz : z = (i : Int)) (hc : l[i]? = some c)
    (hG : G P n ops Q rest ((d, .int .u8 (c.toNat : Int)) :: e) w) : G P n ops Q (⟨some d, .index t x ix, ty, pos, aft, none⟩ :: rest) e w := by
  refine gRun hd (fun ac ha => ?_) hG
  have hu := T.parts.2.1 t (mem_mem ht)
  have hlt : i < l.length := (List.getElem?_eq_some_iff.1 hc).1
  have h1 : (ByteArray.mk ⟨l⟩)[i]? = some c := by
    have : i < (ByteArray.mk ⟨l⟩).size := hlt
    rw [getElem?_pos (ByteArray.mk ⟨l⟩) i this]
    rw [List.getElem?_eq_getElem hlt] at hc
    simpa [ByteArray.getElem_eq_getElem_data] using hc
  subst hz
  have hr : (Instr.index t (S l) (.int k (i : Int))).run P w = .ok (.int .u8 (c.toNat : Int)) w := by
    unfold Instr.index
    simp only [asIntOf, Sem.run_bind, Sem.run_pure, Result.andThen_ok, run_underlying hu w, S]
    simp [h1]
  simp only [execOp, ha.ev hx, ha.ev hi]
  rw [Sem.run_bind, hr]
  rfl
end laws
end Go.Eng
