/- The evaluator is right, second part: how its values and its heap stand for the model's. No condition. -/
import Derived.Test.YtlamohamhbhkjaaGreatDoorS1
namespace Go.Ev
open Go.RowKit Go.Eng

/-- Where a row lies: the model's block, the place of its first cell there, that block's cells. -/
structure Pl where
  b : Nat
  s : Nat
  z : Nat
abbrev Rho := Pth → Option Pl
def ptr (ρ : Rho) (a : Pth) (o : Nat) (v : Value) : Prop := ∃ q, ρ a = some q ∧ v = .pointer (some ⟨q.b, q.s + o, none⟩)
def ptrs (ρ : Rho) : List (Pth × Nat) → List Value → Prop
  | [], [] => True
  | x :: l, v :: m => ptr ρ x.1 x.2 v ∧ ptrs ρ l m
  | _, _ => False
def DR (ρ : Rho) : D → Value → Prop
  | .b x, v => v = .bool x
  | .s l, v => v = S (l.map UInt8.ofNat) ∧ ∀ x ∈ l, x < 256
  | .np, v => v = .pointer none
  | .ns, v => v = .slice none 0 0
  | .sl a o n c, v => ∃ q, ρ a = some q ∧ v = .slice (some ⟨q.b, q.s + o, none⟩) n c ∧ n ≤ c
  | .sh a o n k, v => ∃ q c, ρ a = some q ∧ v = .slice (some ⟨q.b, q.s + o, none⟩) n c ∧ n ≤ c ∧ q.s + o + c * k = q.z
  | .se, v => ∃ ad c, v = .slice (some ad) 0 c
  | .f n fs cs, v => ∃ xs ys, ptrs ρ fs xs ∧ ptrs ρ cs ys ∧ v = .func (.func n) xs.toArray ys.toArray
  | .raw x, v => v = x ∧ x.oneCell' = true
def CR (ρ : Rho) : C → Value → Prop
  | .i k n, v => ∃ kd, kc kd = k ∧ n < km kd ∧ v = .int kd (sgn kd n)
  | .p a o, v => ptr ρ a o v
  | .o d, v => DR ρ d v
def CRs (ρ : Rho) : List C → List Value → Prop
  | [], [] => True
  | x :: l, v :: m => CR ρ x v ∧ CRs ρ l m
  | _, _ => False
def ER (ρ : Rho) : E → Value → Prop
  | .c x, v => CR ρ x v
  | .g l, v => ∃ vs, CRs ρ l vs ∧ v = .agg vs.toArray
def ERs (ρ : Rho) : List E → List Value → Prop
  | [], [] => True
  | x :: l, v :: m => ER ρ x v ∧ ERs ρ l m
  | _, _ => False
def VR (ρ : Rho) : V → Value → Prop
  | .c x, v => CR ρ x v
  | .g l, v => ∃ vs, CRs ρ l vs ∧ v = .agg vs.toArray
  | .t l, v => ∃ vs, ERs ρ l vs ∧ v = .tuple vs.toArray
  | .u, _ => True
def VRs (ρ : Rho) : List V → List Value → Prop
  | [], [] => True
  | x :: l, v :: m => VR ρ x v ∧ VRs ρ l m
  | _, _ => False

/-! ### More names -/
def Ext (ρ ρ' : Rho) : Prop := ∀ a q, ρ a = some q → ρ' a = some q
theorem Ext.refl (ρ : Rho) : Ext ρ ρ := fun _ _ h => h
theorem Ext.trans {ρ ρ' ρ'' : Rho} (h : Ext ρ ρ') (h' : Ext ρ' ρ'') : Ext ρ ρ'' := fun a q hq => h' a q (h a q hq)
section
variable {ρ ρ' : Rho} (hE : Ext ρ ρ')
include hE
theorem ptr.ext {a : Pth} {o : Nat} {v : Value} : ptr ρ a o v → ptr ρ' a o v := fun ⟨q, h, e⟩ => ⟨q, hE _ _ h, e⟩
theorem ptrs.ext : ∀ {l : List (Pth × Nat)} {m : List Value}, ptrs ρ l m → ptrs ρ' l m
  | [], [], _ => trivial
  | _ :: _, _ :: _, h => ⟨ptr.ext hE h.1, ptrs.ext h.2⟩
  | [], _ :: _, h => h.elim
  | _ :: _, [], h => h.elim
theorem DR.ext {d : D} {v : Value} (h : DR ρ d v) : DR ρ' d v := by
  cases d with
  | sl a o n c => obtain ⟨q, h1, h2⟩ := h; exact ⟨q, hE _ _ h1, h2⟩
  | sh a o n k => obtain ⟨q, c, h1, h2⟩ := h; exact ⟨q, c, hE _ _ h1, h2⟩
  | f n fs cs => obtain ⟨xs, ys, h1, h2, h3⟩ := h; exact ⟨xs, ys, ptrs.ext hE h1, ptrs.ext hE h2, h3⟩
  | _ => exact h
theorem CR.ext {c : C} {v : Value} (h : CR ρ c v) : CR ρ' c v := by
  cases c with
  | i k n => exact h
  | p a o => exact ptr.ext hE h
  | o d => exact DR.ext hE h
theorem CRs.ext : ∀ {l : List C} {m : List Value}, CRs ρ l m → CRs ρ' l m
  | [], [], _ => trivial
  | _ :: _, _ :: _, h => ⟨CR.ext hE h.1, CRs.ext h.2⟩
  | [], _ :: _, h => h.elim
  | _ :: _, [], h => h.elim
theorem ER.ext {c : E} {v : Value} (h : ER ρ c v) : ER ρ' c v := by
  cases c with
  | c x => exact CR.ext hE h
  | g l => obtain ⟨vs, h1, h2⟩ := h; exact ⟨vs, CRs.ext hE h1, h2⟩
theorem ERs.ext : ∀ {l : List E} {m : List Value}, ERs ρ l m → ERs ρ' l m
  | [], [], _ => trivial
  | _ :: _, _ :: _, h => ⟨ER.ext hE h.1, ERs.ext h.2⟩
  | [], _ :: _, h => h.elim
  | _ :: _, [], h => h.elim
theorem VR.ext {c : V} {v : Value} (h : VR ρ c v) : VR ρ' c v := by
  cases c with
  | c x => exact CR.ext hE h
  | g l => obtain ⟨vs, h1, h2⟩ := h; exact ⟨vs, CRs.ext hE h1, h2⟩
  | t l => obtain ⟨vs, h1, h2⟩ := h; exact ⟨vs, ERs.ext hE h1, h2⟩
  | u => trivial
theorem VRs.ext : ∀ {l : List V} {m : List Value}, VRs ρ l m → VRs ρ' l m
  | [], [], _ => trivial
  | _ :: _, _ :: _, h => ⟨VR.ext hE h.1, VRs.ext h.2⟩
  | [], _ :: _, h => h.elim
  | _ :: _, [], h => h.elim
end
section
variable {ρ : Rho}
theorem DR.one {d : D} {v : Value} (h : DR ρ d v) : v.oneCell' = true := by
  cases d with
  | b x => rw [show v = _ from h]; rfl
  | s l => rw [h.1]; rfl
  | np => rw [show v = _ from h]; rfl
  | ns => rw [show v = _ from h]; rfl
  | sl a o n c => obtain ⟨q, _, rfl, _⟩ := h; rfl
  | sh a o n k => obtain ⟨q, c, _, rfl, _⟩ := h; rfl
  | se => obtain ⟨ad, c, rfl⟩ := h; rfl
  | f n fs cs => obtain ⟨xs, ys, _, _, rfl⟩ := h; rfl
  | raw x => rw [h.1]; exact h.2
theorem CR.one {c : C} {v : Value} (h : CR ρ c v) : v.oneCell' = true := by
  cases c with
  | i k n => obtain ⟨kd, _, _, rfl⟩ := h; rfl
  | p a o => obtain ⟨q, _, rfl⟩ := h; rfl
  | o d => exact DR.one h
theorem CRs.one : ∀ {l : List C} {m : List Value}, CRs ρ l m → ∀ v ∈ m, v.oneCell' = true
  | [], [], _, v, hv => by cases hv
  | _ :: _, x :: m, h, v, hv => by
    rcases List.mem_cons.1 hv with rfl | hv
    · exact CR.one h.1
    · exact CRs.one h.2 v hv
  | [], _ :: _, h, _, _ => h.elim
  | _ :: _, [], h, _, _ => h.elim
theorem CRs.len : ∀ {l : List C} {m : List Value}, CRs ρ l m → l.length = m.length
  | [], [], _ => rfl
  | _ :: _, _ :: _, h => by simp [CRs.len h.2]
  | [], _ :: _, h => h.elim
  | _ :: _, [], h => h.elim
theorem CRs.get : ∀ {l : List C} {m : List Value} {i : Nat} {c : C}, CRs ρ l m → l[i]? = some c → ∃ v, m[i]? = some v ∧ CR ρ c v
  | c' :: l, v :: m, 0, c, h, hi => by simp only [List.getElem?_cons_zero, Option.some.injEq] at hi; subst hi; exact ⟨v, rfl, h.1⟩
  | _ :: l, _ :: m, i + 1, c, h, hi => by simpa using CRs.get h.2 (by simpa using hi)
  | [], _, i, c, _, hi => by simp at hi
  | _ :: _, [], _, _, h, _ => h.elim
theorem CRs.drop : ∀ {l : List C} {m : List Value} (n : Nat), CRs ρ l m → CRs ρ (l.drop n) (m.drop n)
  | _, _, 0, h => h
  | [], [], _ + 1, _ => trivial
  | _ :: _, _ :: _, n + 1, h => CRs.drop n h.2
  | [], _ :: _, _ + 1, h => h.elim
  | _ :: _, [], _ + 1, h => h.elim
theorem CRs.take : ∀ {l : List C} {m : List Value} (n : Nat), CRs ρ l m → CRs ρ (l.take n) (m.take n)
  | _, _, 0, _ => trivial
  | [], [], _ + 1, _ => trivial
  | _ :: _, _ :: _, n + 1, h => ⟨h.1, CRs.take n h.2⟩
  | [], _ :: _, _ + 1, h => h.elim
  | _ :: _, [], _ + 1, h => h.elim
theorem CRs.app : ∀ {l l' : List C} {m m' : List Value}, CRs ρ l m → CRs ρ l' m' → CRs ρ (l ++ l') (m ++ m')
  | [], _, [], _, _, h => h
  | _ :: _, _, _ :: _, _, h, h' => ⟨h.1, CRs.app h.2 h'⟩
  | [], _, _ :: _, _, h, _ => h.elim
  | _ :: _, _, [], _, h, _ => h.elim
end

/-! ### Heaps -/
/-- Block b holds these z cells, each of which may be written. -/
def Row (w : World) (b z : Nat) (l : List Value) : Prop := ∃ (t : Nat) (fz : Nat × Nat), w.heap[b]? = some (.cells l.toArray t fz) ∧ l.length = z ∧ ∀ i, i < z → ¬ (fz.1 ≤ i ∧ i < fz.2)
theorem Row.lt {w : World} {b z : Nat} {l : List Value} (h : Row w b z l) : b < w.heap.size := by obtain ⟨t, fz, h1, _⟩ := h; exact (Array.getElem?_eq_some_iff.1 h1).1
theorem Row.len {w : World} {b z : Nat} {l : List Value} (h : Row w b z l) : l.length = z := by obtain ⟨t, fz, _, h1, _⟩ := h; exact h1
theorem Row.cell {w : World} {b z : Nat} {l : List Value} (h : Row w b z l) (o : Nat) : w.cell? ⟨b, o, none⟩ = l[o]? := by obtain ⟨t, fz, h1, _⟩ := h; simp [World.cell?, h1]
theorem Row.of {w w' : World} {b z : Nat} {l : List Value} (h : Row w b z l) (e : w'.heap[b]? = w.heap[b]?) : Row w' b z l := by obtain ⟨t, fz, h1, h2⟩ := h; exact ⟨t, fz, e.trans h1, h2⟩
theorem Row.new {w : World} {b t : Nat} {l : List Value} (h : w.heap[b]? = some (.cells l.toArray t (0, 0))) : Row w b l.length l := ⟨t, (0, 0), h, rfl, fun i _ h => absurd h.2 (Nat.not_lt_zero i)⟩
theorem Row.set {w : World} {b z : Nat} {l : List Value} (h : Row w b z l) {l' : List Value} (hl : l'.length = z) : Row (w.setRow b l'.toArray) b z l' := by
  obtain ⟨t, fz, h1, h2, h3⟩ := h
  exact ⟨t, fz, setRow_heap w b _ _ t fz h1, hl, h3⟩
/-- Writing cells. -/
theorem Row.run_store {P : Program} : ∀ (vs : List Value) (i : Nat) {w : World} {b z o : Nat} {l : List Value}, Row w b z l → o + i + vs.length ≤ z → (∀ v ∈ vs, v.oneCell' = true) → (storeCells ⟨b, o, none⟩ vs i).run P w = .ok () (w.setRow b (Eng.ow l (o + i) vs).toArray)
  | [], i, w, b, z, o, l, h, _, _ => by
    obtain ⟨t, fz, h1, h2, h3⟩ := h
    have e : Eng.ow l (o + i) [] = l := by simp [Eng.ow]
    rw [e]
    simp only [storeCells]
    rw [setRow_self w b _ t fz h1]
    rfl
  | v :: rest, i, w, b, z, o, l, h, hl, hv => by
    obtain ⟨t, fz, h1, h2, h3⟩ := id h
    simp only [List.length_cons] at hl
    have hadd : (⟨b, o, none⟩ : Addr).add i = ⟨b, o + i, none⟩ := by unfold Addr.add; split <;> simp_all
    have hi : o + i < l.length := by omega
    have hcell : w.cell? ⟨b, o + i, none⟩ = some l[o + i] := by rw [h.cell]; simp [hi]
    have hfro : w.frozen? ⟨b, o + i, none⟩ = false := by
      obtain ⟨lo, hi'⟩ := fz
      have := h3 (o + i) (by omega)
      simp only [World.frozen?, h1, Bool.and_eq_false_iff, decide_eq_false_iff_not]
      simp only at this
      omega
    have hst : (store ((⟨b, o, none⟩ : Addr).add i) v).run P w = .ok () (w.setRow b (l.set (o + i) v).toArray) := by
      rw [hadd, Go.run_store P w _ v _ (hv v (by simp)), hcell]
      simp [hfro, setCell_eq_setRow w b (o + i) _ t fz v h1]
    have ih := Row.run_store (P := P) rest (i + 1) (h.set (l' := l.set (o + i) v) (by simp [h2])) (o := o) (by omega) (fun x hx => hv x (by simp [hx]))
    simp only [storeCells, Sem.run_bind, hst, Result.andThen_ok, ih, setRow_setRow]
    congr 3
    unfold Eng.ow
    rw [show o + (i + 1) = o + i + 1 by omega]
    have e1 : (l.set (o + i) v).take (o + i + 1) = l.take (o + i) ++ [v] := by
      apply List.ext_getElem?
      intro j
      simp only [List.getElem?_take, List.getElem?_set, List.getElem?_append, List.length_take]
      rw [Nat.min_eq_left (Nat.le_of_lt hi)]
      by_cases hj : j < o + i
      · rw [if_pos (by omega), if_neg (by omega), if_pos hj, if_pos hj]
      · by_cases hj2 : j = o + i
        · subst hj2; rw [if_pos (by omega), if_pos rfl, if_pos hi, if_neg hj]; simp
        · rw [if_neg (by omega), if_neg hj]; rw [List.getElem?_eq_none (by simp; omega)]
    have e2 : (l.set (o + i) v).drop (o + i + 1 + rest.length) = l.drop (o + i + 1 + rest.length) := by
      rw [List.drop_set_of_lt (by omega)]
    rw [e1, e2]
    simp only [List.length_cons, List.append_assoc, List.cons_append, List.nil_append]
    rw [show o + i + (rest.length + 1) = o + i + 1 + rest.length by omega]
structure HR (ρ : Rho) (h : Hp) (w : World) : Prop where
  row : ∀ a q ty ex cs, ρ a = some q → hget a h.m = .c ty ex cs → ∃ (l : List Value), Row w q.b q.z l ∧ q.s + cs.length ≤ q.z ∧ (ex = true → q.s = 0 ∧ cs.length = q.z) ∧ CRs ρ cs ((l.drop q.s).take cs.length)
  it : ∀ a q l pos, ρ a = some q → hget a h.m = .it l pos → q.s = 0 ∧ (∀ x ∈ l, x < 256) ∧ ∃ pre : List UInt8, pre.length = pos ∧ w.heap[q.b]? = some (.stringIter ⟨⟨pre ++ l.map UInt8.ofNat⟩⟩ pos)
  apart : ∀ a a' q q', ρ a = some q → ρ a' = some q' → hget a h.m ≠ .no → hget a' h.m ≠ .no → q.b = q'.b → a = a'
  fresh : ∀ a q, ρ a = some q → num a < num h.n
  lt : ∀ a q, ρ a = some q → q.b < w.heap.size
/-- What a step leaves as it was: the blocks that no live name stood for; a live name stands for a new block, or for one that was live. -/
structure Fr (ρ : Rho) (h : Hp) (w : World) (ρ' : Rho) (h' : Hp) (w' : World) : Prop where
  ext : Ext ρ ρ'
  os : w'.os = w.os
  tape : w'.tape = w.tape
  output : w'.output = w.output
  size : w.heap.size ≤ w'.heap.size
  keep : ∀ b, b < w.heap.size → (∀ a q, ρ a = some q → hget a h.m ≠ .no → q.b ≠ b) → w'.heap[b]? = w.heap[b]?
  live : ∀ a q, ρ' a = some q → hget a h'.m ≠ .no → q.b < w.heap.size → ∃ a0 q0, ρ a0 = some q0 ∧ hget a0 h.m ≠ .no ∧ q0.b = q.b
theorem Fr.refl (ρ : Rho) (h : Hp) (w : World) : Fr ρ h w ρ h w := ⟨Ext.refl ρ, rfl, rfl, rfl, Nat.le_refl _, fun _ _ _ => rfl, fun a q h1 h2 _ => ⟨a, q, h1, h2, rfl⟩⟩
theorem Fr.trans {ρ ρ' ρ'' : Rho} {h h' h'' : Hp} {w w' w'' : World} (F : Fr ρ h w ρ' h' w') (G : Fr ρ' h' w' ρ'' h'' w'') : Fr ρ h w ρ'' h'' w'' := by
  refine ⟨F.ext.trans G.ext, G.os.trans F.os, G.tape.trans F.tape, G.output.trans F.output, Nat.le_trans F.size G.size, fun b hb hn => ?_, fun a q h1 h2 h3 => ?_⟩
  · rw [G.keep b (Nat.lt_of_lt_of_le hb F.size) ?_]
    · exact F.keep b hb hn
    · intro a q h1 h2 e
      subst e
      obtain ⟨a0, q0, h3, h4, h5⟩ := F.live a q h1 h2 hb
      exact hn a0 q0 h3 h4 h5
  · obtain ⟨a1, q1, h4, h5, h6⟩ := G.live a q h1 h2 (Nat.lt_of_lt_of_le h3 F.size)
    obtain ⟨a0, q0, h7, h8, h9⟩ := F.live a1 q1 h4 h5 (by rw [h6]; exact h3)
    exact ⟨a0, q0, h7, h8, h9.trans h6⟩
end Go.Ev
