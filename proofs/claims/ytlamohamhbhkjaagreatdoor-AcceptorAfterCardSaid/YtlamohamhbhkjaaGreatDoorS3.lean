/- The evaluator is right, third part: reading, writing, making rows. No condition. -/
import Derived.Test.YtlamohamhbhkjaaGreatDoorS2
namespace Go.Ev
open Go.RowKit Go.Eng

theorem blkC_inv {k : Nat → Bool → List C → A} {x : Blk} {r : V × Hp} (h : blkC k x = some r) : ∃ ty ex cs, x = .c ty ex cs ∧ k ty ex cs = some r := by
  cases x with
  | no => exact nN h
  | c ty ex cs => exact ⟨ty, ex, cs, rfl, h⟩
  | it l p => exact nN h
theorem itC_inv {k : List Nat → Nat → A} {x : Blk} {r : V × Hp} (h : itC k x = some r) : ∃ l p, x = .it l p ∧ k l p = some r := by
  cases x with
  | no => exact nN h
  | c ty ex cs => exact nN h
  | it l p => exact ⟨l, p, rfl, h⟩

section
variable {ρ : Rho} {h : Hp} {w : World} {r : V × Hp}
/-- A row's part, read. -/
theorem HR.seg (H : HR ρ h w) {a : Pth} {q : Pl} {ty : Nat} {ex : Bool} {cs : List C} (hq : ρ a = some q) (hg : hget a h.m = .c ty ex cs) {o n : Nat} (hn : o + n ≤ cs.length) :
    ∃ vs : List Value, vs.length = n ∧ CRs ρ ((cs.drop o).take n) vs ∧ ∀ j v, vs[j]? = some v → w.cell? ⟨q.b, q.s + o + j, none⟩ = some v := by
  obtain ⟨l, h1, h3, _, h5⟩ := H.row a q ty ex cs hq hg
  have h2 := h1.len
  refine ⟨(((l.drop q.s).take cs.length).drop o).take n, ?_, CRs.take n (CRs.drop o h5), fun j v hv => ?_⟩
  · simp; omega
  · rw [List.getElem?_take] at hv
    split at hv
    · rw [List.getElem?_drop, List.getElem?_take] at hv
      split at hv
      · rw [List.getElem?_drop] at hv
        rw [h1.cell, show q.s + o + j = q.s + (o + j) by omega]
        exact hv
      · cases hv
    · cases hv
theorem ldC_inv (H : HR ρ h w) {a : Pth} {q : Pl} (hq : ρ a = some q) {o n : Nat} {k : List C → A} (hk : ldC h a o n k = some r) :
    ∃ cs vs, k cs = some r ∧ vs.length = n ∧ cs.length = n ∧ CRs ρ cs vs ∧ ∀ j v, vs[j]? = some v → w.cell? ⟨q.b, q.s + o + j, none⟩ = some v := by
  obtain ⟨ty, ex, cs, hg, h1⟩ := blkC_inv hk
  obtain ⟨h2, h3⟩ := segC_inv h1
  obtain ⟨vs, h4, h5, h6⟩ := H.seg hq hg h2
  exact ⟨_, vs, h3, h4, (CRs.len h5).trans h4, h5, h6⟩
theorem ld1_inv (H : HR ρ h w) {a : Pth} {q : Pl} (hq : ρ a = some q) {o : Nat} {k : C → A} (hk : ld1 h a o k = some r) :
    ∃ c v, k c = some r ∧ CR ρ c v ∧ w.cell? ⟨q.b, q.s + o, none⟩ = some v := by
  obtain ⟨ty, ex, cs, hg, h1⟩ := blkC_inv hk
  obtain ⟨c, h2, h3⟩ := nthC_inv h1
  have hlt : o < cs.length := (List.getElem?_eq_some_iff.1 h2).1
  obtain ⟨vs, h4, h5, h6⟩ := H.seg hq hg (o := o) (n := 1) (by omega)
  have hc : ((cs.drop o).take 1)[0]? = some c := by rw [List.getElem?_take]; simp [h2]
  obtain ⟨v, h7, h8⟩ := CRs.get h5 hc
  exact ⟨c, v, h3, h8, by simpa using h6 0 v h7⟩

/-- Rows that lie elsewhere are as they were. -/
theorem HR.other (H : HR ρ h w) {w' : World} {g : Nat} (hs : w'.heap.size = w.heap.size) (hb : ∀ b, b ≠ g → w'.heap[b]? = w.heap[b]?) {h' : Hp} (hn : h'.n = h.n)
    (hrow : ∀ a q, ρ a = some q → q.b = g → hget a h'.m ≠ .no → False ∨
      ((∀ ty ex cs, hget a h'.m = .c ty ex cs → ∃ (l : List Value), Row w' q.b q.z l ∧ q.s + cs.length ≤ q.z ∧ (ex = true → q.s = 0 ∧ cs.length = q.z) ∧ CRs ρ cs ((l.drop q.s).take cs.length)) ∧
       (∀ l pos, hget a h'.m = .it l pos → q.s = 0 ∧ (∀ x ∈ l, x < 256) ∧ ∃ pre : List UInt8, pre.length = pos ∧ w'.heap[q.b]? = some (.stringIter ⟨⟨pre ++ l.map UInt8.ofNat⟩⟩ pos))))
    (hold : ∀ a, hget a h'.m ≠ .no → hget a h.m ≠ .no) (hsame : ∀ a q, ρ a = some q → q.b ≠ g → hget a h'.m ≠ .no → hget a h'.m = hget a h.m) : HR ρ h' w' where
  row := fun a q ty ex cs hq hg => by
    by_cases hbq : q.b = g
    · rcases hrow a q hq hbq (by rw [hg]; simp) with hf | hr
      · exact hf.elim
      · exact hr.1 ty ex cs hg
    · obtain ⟨l, h1, h2⟩ := H.row a q ty ex cs hq ((hsame a q hq hbq (by rw [hg]; simp)).symm.trans hg)
      exact ⟨l, h1.of (hb _ hbq), h2⟩
  it := fun a q l pos hq hg => by
    by_cases hbq : q.b = g
    · rcases hrow a q hq hbq (by rw [hg]; simp) with hf | hr
      · exact hf.elim
      · exact hr.2 l pos hg
    · obtain ⟨h0, h1, pre, h2, h3⟩ := H.it a q l pos hq ((hsame a q hq hbq (by rw [hg]; simp)).symm.trans hg)
      exact ⟨h0, h1, pre, h2, (hb _ hbq).trans h3⟩
  apart := fun a a' q q' h1 h2 h3 h4 => H.apart a a' q q' h1 h2 (hold _ h3) (hold _ h4)
  fresh := fun a q hq => by rw [hn]; exact H.fresh a q hq
  lt := fun a q hq => by rw [hs]; exact H.lt a q hq
/-! ### Writing -/
theorem ow_get {α : Type} (l vs : List α) (o i : Nat) (hl : o + vs.length ≤ l.length) : (l.take o ++ (vs ++ l.drop (o + vs.length)))[i]? = if i < o then l[i]? else if i < o + vs.length then vs[i - o]? else l[i]? := by
  by_cases h1 : i < o
  · rw [if_pos h1, List.getElem?_append_left (by rw [List.length_take]; omega), List.getElem?_take, if_pos h1]
  · rw [if_neg h1, List.getElem?_append_right (by rw [List.length_take]; omega), List.length_take, Nat.min_eq_left (by omega)]
    by_cases h2 : i < o + vs.length
    · rw [if_pos h2, List.getElem?_append_left (by omega)]
    · rw [if_neg h2, List.getElem?_append_right (by omega), List.getElem?_drop]
      congr 1
      omega
theorem CRs.of {ρ : Rho} : ∀ {cs : List C} {vs : List Value}, cs.length = vs.length → (∀ (i : Nat) (c : C) (v : Value), cs[i]? = some c → vs[i]? = some v → CR ρ c v) → CRs ρ cs vs
  | [], [], _, _ => trivial
  | [], _ :: _, h, _ => by simp at h
  | _ :: _, [], h, _ => by simp at h
  | c :: cs, v :: vs, h, hi => ⟨hi 0 c v rfl rfl, CRs.of (by simpa using h) (fun i c' v' h1 h2 => hi (i + 1) c' v' (by simpa using h1) (by simpa using h2))⟩
theorem CRs.at {ρ : Rho} {cs : List C} {vs : List Value} {i : Nat} {c : C} {v : Value} (h : CRs ρ cs vs) (hc : cs[i]? = some c) (hv : vs[i]? = some v) : CR ρ c v := by
  obtain ⟨v', h1, h2⟩ := CRs.get h hc
  rw [hv, Option.some.injEq] at h1
  rw [h1]; exact h2
theorem CRs.ow {ρ : Rho} {cs vs : List C} {l vals : List Value} {s o : Nat} (hr : CRs ρ cs ((l.drop s).take cs.length)) (hv : CRs ρ vs vals) (ho : o + vs.length ≤ cs.length) (hs : s + cs.length ≤ l.length) :
    CRs ρ (cs.take o ++ (vs ++ cs.drop (o + vs.length))) (((ow l (s + o) vals).drop s).take (cs.take o ++ (vs ++ cs.drop (o + vs.length))).length) := by
  have hlen := CRs.len hv
  have h0 : (cs.take o ++ (vs ++ cs.drop (o + vs.length))).length = cs.length := by simp; omega
  have hl : (Eng.ow l (s + o) vals).length = l.length := by simp [Eng.ow]; omega
  refine CRs.of (by rw [h0]; simp [hl]; omega) fun i c v hc hi => ?_
  rw [ow_get cs vs o i ho] at hc
  rw [h0, List.getElem?_take] at hi
  split at hi
  case isFalse => cases hi
  rename_i hlt
  rw [List.getElem?_drop] at hi
  unfold Eng.ow at hi
  rw [ow_get l vals (s + o) (s + i) (by omega)] at hi
  have old : cs[i]? = some c → l[s + i]? = some v → CR ρ c v := fun h1 h2 => CRs.at hr h1 (by rw [List.getElem?_take, if_pos hlt, List.getElem?_drop]; exact h2)
  by_cases h1 : i < o
  · rw [if_pos h1] at hc
    rw [if_pos (by omega)] at hi
    exact old hc hi
  · rw [if_neg h1] at hc
    rw [if_neg (by omega)] at hi
    by_cases h2 : i < o + vs.length
    · rw [if_pos h2] at hc
      rw [if_pos (by omega), show s + i - (s + o) = i - o by omega] at hi
      exact CRs.at hv hc hi
    · rw [if_neg h2] at hc
      rw [if_neg (by omega)] at hi
      exact old hc hi
/-- Cells written into a row. -/
theorem HR.store (H : HR ρ h w) {a : Pth} {q : Pl} {ty : Nat} {ex : Bool} {cs vs : List C} {vals : List Value} (hq : ρ a = some q) (hg : hget a h.m = .c ty ex cs) (hv : CRs ρ vs vals) {o : Nat} (ho : o + vs.length ≤ cs.length) :
    ∃ (l : List Value), Row w q.b q.z l ∧ q.s + o + vals.length ≤ q.z ∧
      HR ρ ⟨h.n, hput a (.c ty ex (cs.take o ++ (vs ++ cs.drop (o + vs.length)))) h.m⟩ (w.setRow q.b (Eng.ow l (q.s + o) vals).toArray) ∧
      Fr ρ h w ρ ⟨h.n, hput a (.c ty ex (cs.take o ++ (vs ++ cs.drop (o + vs.length)))) h.m⟩ (w.setRow q.b (Eng.ow l (q.s + o) vals).toArray) := by
  obtain ⟨l, h1, h3, h4, h5⟩ := H.row a q ty ex cs hq hg
  have h2 := h1.len
  have hlen := CRs.len hv
  have hu : Upd q.b w (w.setRow q.b (Eng.ow l (q.s + o) vals).toArray) := ⟨rfl, rfl, rfl, by simp, fun k hk => setRow_other w q.b k _ hk⟩
  have h0 : (cs.take o ++ (vs ++ cs.drop (o + vs.length))).length = cs.length := by simp; omega
  have hl : (Eng.ow l (q.s + o) vals).length = l.length := by simp [Eng.ow]; omega
  have hne : ∀ a', hget a' (hput a (.c ty ex (cs.take o ++ (vs ++ cs.drop (o + vs.length)))) h.m) ≠ .no → hget a' h.m ≠ .no := fun a' h' => by
    by_cases e : a' = a
    · subst e; rw [hg]; simp
    · rwa [hget_ne _ _ _ _ e] at h'
  have hb := h1.set (l' := Eng.ow l (q.s + o) vals) (by rw [hl, h2])
  refine ⟨l, h1, by omega, ?_, ?_⟩
  · refine H.other (g := q.b) hu.size (fun b hb' => hu.block b hb') rfl (fun a' q' hq' hbq hl' => .inr ?_) hne (fun a' q' hq' hbq hl' => ?_)
    · have e : a' = a := H.apart a' a q' q hq' hq (hne a' hl') (by rw [hg]; simp) hbq
      subst e
      rw [hq, Option.some.injEq] at hq'
      subst hq'
      refine ⟨fun ty' ex' cs' hg' => ?_, fun l' pos hg' => ?_⟩
      · simp only [hget_hput, Blk.c.injEq] at hg'
        obtain ⟨rfl, rfl, rfl⟩ := hg'
        exact ⟨_, hb, by rw [h0]; exact h3, by rw [h0]; exact h4, CRs.ow h5 hv ho (by omega)⟩
      · simp only [hget_hput] at hg'
        cases hg'
    · have e : a' ≠ a := fun e => by subst e; rw [hq, Option.some.injEq] at hq'; subst hq'; exact hbq rfl
      exact hget_ne _ _ _ _ e
  · refine ⟨Ext.refl ρ, hu.os, hu.tape, hu.output, Nat.le_of_eq hu.size.symm, fun b hb' hn => hu.block b (fun e => ?_), fun a' q' h1' h2' _ => ⟨a', q', h1', hne a' h2', rfl⟩⟩
    exact hn a q hq (by rw [hg]; simp) e.symm
/-! ### New rows -/
def up (ρ : Rho) (a : Pth) (q : Pl) : Rho := fun b => if b = a then some q else ρ b
theorem up_same (ρ : Rho) (a : Pth) (q : Pl) : up ρ a q a = some q := by simp [up]
theorem up_ext {a : Pth} {q : Pl} (H : HR ρ h w) (ha : a = h.n) : Ext ρ (up ρ a q) := fun b p hb => by
  have : b ≠ a := fun e => by
    have := H.fresh b p hb
    rw [e, ha] at this
    omega
  simp [up, this, hb]
theorem HR.old (H : HR ρ h w) {w' : World} (hO : Old w w') : HR ρ h w' where
  row := fun a q ty ex cs hq hg => by
    obtain ⟨l, h1, h2⟩ := H.row a q ty ex cs hq hg
    exact ⟨l, h1.of (hO.block _ (H.lt a q hq)), h2⟩
  it := fun a q l pos hq hg => by
    obtain ⟨h0, h1, pre, h2, h3⟩ := H.it a q l pos hq hg
    exact ⟨h0, h1, pre, h2, (hO.block _ (H.lt a q hq)).trans h3⟩
  apart := H.apart
  fresh := H.fresh
  lt := fun a q hq => Nat.lt_of_lt_of_le (H.lt a q hq) hO.size
theorem frOld (H : HR ρ h w) {w' : World} (hO : Old w w') : Fr ρ h w ρ h w' :=
  ⟨Ext.refl ρ, hO.os, hO.tape, hO.output, hO.size, fun b hb _ => hO.block b hb, fun a q h1 h2 _ => ⟨a, q, h1, h2, rfl⟩⟩
/-- A new name for a new block. -/
theorem HR.new (H : HR ρ h w) {w' : World} (hO : Old w w') {g z : Nat} (hg : w.heap.size ≤ g) (hlt : g < w'.heap.size) (x : Blk)
    (hx : (∀ ty ex cs, x = .c ty ex cs → ∃ (l : List Value), Row w' g z l ∧ cs.length ≤ z ∧ (ex = true → cs.length = z) ∧ CRs ρ cs (l.take cs.length)) ∧
      (∀ l pos, x = .it l pos → (∀ c ∈ l, c < 256) ∧ ∃ pre : List UInt8, pre.length = pos ∧ w'.heap[g]? = some (.stringIter ⟨⟨pre ++ l.map UInt8.ofNat⟩⟩ pos))) :
    HR (up ρ h.n ⟨g, 0, z⟩) ⟨inc h.n, hput h.n x h.m⟩ w' ∧ Fr ρ h w (up ρ h.n ⟨g, 0, z⟩) ⟨inc h.n, hput h.n x h.m⟩ w' := by
  have hE : Ext ρ (up ρ h.n ⟨g, 0, z⟩) := up_ext H rfl
  have hup : ∀ a q, up ρ h.n ⟨g, 0, z⟩ a = some q → (a = h.n ∧ q = ⟨g, 0, z⟩) ∨ (a ≠ h.n ∧ ρ a = some q) := fun a q hq => by
    unfold up at hq
    split at hq
    · rename_i e; simp only [Option.some.injEq] at hq; exact .inl ⟨e, hq.symm⟩
    · rename_i e; exact .inr ⟨e, hq⟩
  refine ⟨⟨fun a q ty ex cs hq hc => ?_, fun a q l pos hq hc => ?_, fun a a' q q' h1 h2 h3 h4 h5 => ?_, fun a q hq => ?_, fun a q hq => ?_⟩,
    ⟨hE, hO.os, hO.tape, hO.output, hO.size, fun b hb _ => hO.block b hb, fun a q h1 h2 h3 => ?_⟩⟩
  · rcases hup a q hq with ⟨rfl, rfl⟩ | ⟨hne, hq'⟩
    · simp only [hget_hput] at hc
      obtain ⟨l, h1, h3, h4, h5⟩ := hx.1 ty ex cs hc
      exact ⟨l, h1, by simpa using h3, fun e => ⟨rfl, h4 e⟩, CRs.ext hE (by simpa using h5)⟩
    · rw [hget_ne _ _ _ _ hne] at hc
      obtain ⟨l, h1, h3, h4, h5⟩ := (H.old hO).row a q ty ex cs hq' hc
      exact ⟨l, h1, h3, h4, CRs.ext hE h5⟩
  · rcases hup a q hq with ⟨rfl, rfl⟩ | ⟨hne, hq'⟩
    · simp only [hget_hput] at hc
      obtain ⟨h1, h2⟩ := hx.2 l pos hc
      exact ⟨rfl, h1, h2⟩
    · rw [hget_ne _ _ _ _ hne] at hc
      exact (H.old hO).it a q l pos hq' hc
  · rcases hup a q h1 with ⟨rfl, rfl⟩ | ⟨hne, hq⟩ <;> rcases hup a' q' h2 with ⟨rfl, rfl⟩ | ⟨hne', hq'⟩
    · rfl
    · have := H.lt a' q' hq'; simp only at h5; omega
    · have := H.lt a q hq; simp only at h5; omega
    · rw [hget_ne _ _ _ _ hne] at h3
      rw [hget_ne _ _ _ _ hne'] at h4
      exact H.apart a a' q q' hq hq' h3 h4 h5
  · show num a < num (inc h.n)
    rw [num_inc]
    rcases hup a q hq with ⟨rfl, rfl⟩ | ⟨hne, hq'⟩
    · omega
    · have := H.fresh a q hq'; omega
  · rcases hup a q hq with ⟨rfl, rfl⟩ | ⟨hne, hq'⟩
    · exact hlt
    · exact Nat.lt_of_lt_of_le (H.lt a q hq') hO.size
  · rcases hup a q h1 with ⟨rfl, rfl⟩ | ⟨hne, hq'⟩
    · simp only at h3; omega
    · rw [hget_ne _ _ _ _ hne] at h2
      exact ⟨a, q, hq', h2, rfl⟩
end
end Go.Ev
