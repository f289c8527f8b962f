/- The evaluator is right, tenth part: reading. No condition. -/
import Derived.Test.YtlamohamhbhkjaaGreatDoorS9
import Derived.Lib.ConvBytes
import Derived.Laws.IdiomStrings
import Derived.Laws.BytesString
import Derived.ArgAppend
import Derived.Laws.AppendOwn
import Derived.Laws.MakeOwn
namespace Go.Ev
open Go.RowKit Go.Eng

section
variable {P : Program} {fm : List (Nat × Nat)} {nt : Nat} {ρ : Rho} {f : St} {L : Lm} {s : St} {a : Act} {r : V × Hp} {c : Call} {h : Hp} {w : World} {k : Cn}
noncomputable def rdC : Rk → V → Hp → (V → A) → A
  | .l1 => rd1
  | .lA n => rdA n
  | .bs => rdB
/-- Reading here answers this. -/
def Holds (rk : Rk) (uw v : V) (h : Hp) : Prop := ∀ k, rdC rk uw h k = k v
def Reads : Rk → Value → Value → World → Prop
  | .l1, u, v, w => ∃ b o, u = .pointer (some ⟨b, o, none⟩) ∧ w.cell? ⟨b, o, none⟩ = some v
  | .lA n, u, v, w => ∃ b o, ∃ vs : List Value, u = .pointer (some ⟨b, o, none⟩) ∧ v = .agg vs.toArray ∧ vs.length = n ∧ ∀ j x, vs[j]? = some x → w.cell? ⟨b, o + j, none⟩ = some x
  | .bs, u, v, w => ∃ l : Str, v = S l ∧ ((∃ cp, u = .slice none 0 cp ∧ l = []) ∨ (∃ ad cp, u = .slice (some ad) 0 cp ∧ l = []) ∨ (∃ b o cp, u = .slice (some ⟨b, o, none⟩) l.length cp ∧ ∀ j (hj : j < l.length), w.cell? ⟨b, o + j, none⟩ = some (.int .u8 (l[j].toNat : Int))))
theorem nthC_get {α : Type} {k : α → A} : ∀ {o : Nat} {l : List α} {x : α}, l[o]? = some x → nthC o k l = k x
  | 0, x :: l, y, h => by simp only [List.getElem?_cons_zero, Option.some.injEq] at h; subst h; rfl
  | 0, [], y, h => by simp at h
  | o + 1, x :: l, y, h => by show tlC (nthC o k) (x :: l) = _; exact nthC_get (o := o) (l := l) (by simpa using h)
  | o + 1, [], y, h => by simp at h
theorem takeC_get {α : Type} : ∀ {n : Nat} {l : List α} {k : List α → A}, n ≤ l.length → takeC n l k = k (l.take n)
  | 0, l, k, _ => rfl
  | n + 1, [], k, h => by simp at h
  | n + 1, x :: l, k, h => by
    show takeC n l (fun q => k (x :: q)) = _
    rw [takeC_get (by simpa using h)]
    rfl
theorem dropC_get {α : Type} {k : List α → A} : ∀ {n : Nat} {l : List α}, n ≤ l.length → dropC n k l = k (l.drop n)
  | 0, l, _ => rfl
  | n + 1, [], h => by simp at h
  | n + 1, x :: l, h => by
    show dropC n k l = _
    rw [dropC_get (by simpa using h)]
    rfl
theorem segC_get {α : Type} {o n : Nat} {l : List α} {k : List α → A} (h : o + n ≤ l.length) : segC o n l k = k ((l.drop o).take n) := by
  unfold segC
  rw [dropC_get (by omega), takeC_get (by rw [List.length_drop]; omega)]
theorem overC_get {α : Type} : ∀ {vs l : List α} {k : List α → A}, vs.length ≤ l.length → overC vs l k = k (vs ++ l.drop vs.length)
  | [], l, k, _ => by simp; rfl
  | v :: vs, [], k, h => by simp at h
  | v :: vs, x :: l, k, h => by
    show overC vs l (fun q => k (v :: q)) = _
    rw [overC_get (by simpa using h)]
    rfl
theorem owC_get {α : Type} : ∀ {o : Nat} {vs l : List α} {k : List α → A}, o + vs.length ≤ l.length → owC o vs l k = k (l.take o ++ (vs ++ l.drop (o + vs.length)))
  | 0, vs, l, k, h => by show overC vs l k = _; rw [overC_get (by omega)]; simp
  | o + 1, vs, [], k, h => by simp at h
  | o + 1, vs, x :: l, k, h => by
    show owC o vs l (fun q => k (x :: q)) = _
    rw [owC_get (by simp at h; omega), show o + 1 + vs.length = (o + vs.length) + 1 by omega]
    rfl
theorem bytesC_inv : ∀ {l : List C} {vs : List Value} {kk : List Nat → A}, CRs ρ l vs → bytesC l kk = some r → ∃ m : List Nat, kk m = some r ∧ (∀ x ∈ m, x < 256) ∧ l = u8s m ∧ vs = m.map (fun n => .int .u8 (n : Int))
  | [], [], kk, _, h => ⟨[], h, fun x hx => (by cases hx), rfl, rfl⟩
  | [], _ :: _, _, h, _ => h.elim
  | _ :: _, [], _, h, _ => h.elim
  | x :: l, v :: vs, kk, ⟨h1, h2⟩, h => by
    obtain ⟨kd, n, rfl, h3⟩ := cI_inv (show cI (fun kd c => ifT (Nat.beq kd 4) (bytesC l (fun r => kk (c :: r)))) x = some r from h)
    obtain ⟨h4, h5⟩ := ifT_inv h3
    obtain ⟨m, h6, h7, h8, h9⟩ := bytesC_inv h2 h5
    have e := beq_inv h4
    subst e
    obtain ⟨hn, e⟩ := int_of (k := .u8) (ρ := ρ) h1
    have hn' : n < 256 := hn
    refine ⟨n :: m, h6, fun x hx => ?_, ?_, ?_⟩
    · rcases List.mem_cons.1 hx with rfl | hx
      · exact hn'
      · exact h7 x hx
    · rw [h8]; rfl
    · rw [e, h9, sgn_pos .u8 hn']; rfl
theorem bytesC_get : ∀ (m : List Nat) (kk : List Nat → A), bytesC (u8s m) kk = kk m
  | [], _ => rfl
  | x :: m, kk => by
    show bytesC (u8s m) (fun r => kk (x :: r)) = _
    rw [bytesC_get m]
/-- A reading that answers. -/
theorem rd_inv {rk : Rk} {uw : V} {uv : Value} {kk : V → A} (H : HR ρ h w) (hu : VR ρ uw uv) (hk : rdC rk uw h kk = some r) : ∃ v, kk v = some r ∧ Holds rk uw v h := by
  cases rk with
  | l1 =>
    obtain ⟨b, o, rfl, h1⟩ := toP_inv (show toP uw (fun a o => ld1 h a o (fun v => kk (.c v))) = some r from hk)
    obtain ⟨ty, ex, cs, hg, h2⟩ := blkC_inv h1
    obtain ⟨x, h3, h4⟩ := nthC_inv h2
    refine ⟨_, h4, fun k' => ?_⟩
    show blkC (fun _ _ cs => nthC o (fun v => k' (.c v)) cs) (hget b h.2) = _
    rw [hg]
    exact nthC_get (k := fun v => k' (.c v)) h3
  | lA n =>
    obtain ⟨b, o, rfl, h1⟩ := toP_inv (show toP uw (fun a o => ldC h a o n (fun l => kk (.g l))) = some r from hk)
    obtain ⟨ty, ex, cs, hg, h2⟩ := blkC_inv h1
    obtain ⟨h3, h4⟩ := segC_inv h2
    refine ⟨_, h4, fun k' => ?_⟩
    show blkC (fun _ _ cs => segC o n cs (fun l => k' (.g l))) (hget b h.2) = _
    rw [hg]
    exact segC_get h3
  | bs =>
    obtain ⟨x, rfl, h1⟩ := toC_inv (show toC uw (cD (readL h (fun l => bytesC l (fun r => kk (vS r))))) = some r from hk)
    obtain ⟨d, rfl, h2⟩ := cD_inv h1
    have key : ∀ (b : Pth) (o n : Nat) (q : Pl), ρ b = some q → ldC h b o n (fun l => bytesC l (fun r => kk (vS r))) = some r → ∃ v, kk v = some r ∧ ∀ k' : V → A, ldC h b o n (fun l => bytesC l (fun r => k' (vS r))) = k' v := fun b o n q hq h3 => by
      obtain ⟨ty, ex, cs, hg, h4⟩ := blkC_inv h3
      obtain ⟨h5, h6⟩ := segC_inv h4
      obtain ⟨vs, h7, h8, _⟩ := H.seg hq hg h5
      obtain ⟨m, h9, _, h11, _⟩ := bytesC_inv h8 h6
      refine ⟨_, h9, fun k' => ?_⟩
      show blkC (fun _ _ cs => segC o n cs (fun l => bytesC l (fun r => k' (vS r)))) (hget b h.2) = _
      rw [hg]
      show segC o n cs (fun l => bytesC l (fun r => k' (vS r))) = _
      rw [segC_get h5, h11, bytesC_get]
    cases d with
    | ns => exact ⟨_, h2, fun k' => rfl⟩
    | sl b o n cp => obtain ⟨q, hq, _⟩ := hu; obtain ⟨v, h3, h4⟩ := key b o n q hq h2; exact ⟨v, h3, h4⟩
    | sh b o n cp => obtain ⟨q, _, hq, _⟩ := hu; obtain ⟨v, h3, h4⟩ := key b o n q hq h2; exact ⟨v, h3, h4⟩
    | se => exact ⟨_, h2, fun k' => rfl⟩
    | _ => exact nN h2
/-- What is held in the heap is read in the world. -/
theorem Holds.reads {rk : Rk} {uw v : V} {uv : Value} (hh : Holds rk uw v h) (H : HR ρ h w) (hu : VR ρ uw uv) : ∃ vv, VR ρ v vv ∧ Reads rk uv vv w := by
  have hk : rdC rk uw h (fun v => some (v, h)) = some (v, h) := hh _
  cases rk with
  | l1 =>
    obtain ⟨b, o, rfl, h1⟩ := toP_inv (show toP uw (fun a o => ld1 h a o (fun v => some ((V.c v), h))) = some (v, h) from hk)
    obtain ⟨q, hq, rfl⟩ := hu
    obtain ⟨x, xv, h2, h3, h4⟩ := ld1_inv H hq h1
    simp only [Option.some.injEq, Prod.mk.injEq, and_true] at h2
    subst h2
    exact ⟨xv, h3, _, _, rfl, h4⟩
  | lA n =>
    obtain ⟨b, o, rfl, h1⟩ := toP_inv (show toP uw (fun a o => ldC h a o n (fun l => some ((V.g l), h))) = some (v, h) from hk)
    obtain ⟨q, hq, rfl⟩ := hu
    obtain ⟨cs, vs, h2, h3, _, h4, h5⟩ := ldC_inv H hq h1
    simp only [Option.some.injEq, Prod.mk.injEq, and_true] at h2
    subst h2
    exact ⟨_, ⟨vs, h4, rfl⟩, _, _, vs, rfl, rfl, h3, h5⟩
  | bs =>
    obtain ⟨x, rfl, h1⟩ := toC_inv (show toC uw (cD (readL h (fun l => bytesC l (fun r => some (vS r, h))))) = some (v, h) from hk)
    obtain ⟨d, rfl, h2⟩ := cD_inv h1
    have key : ∀ (b : Pth) (o n : Nat) (q : Pl) (cp : Nat), ρ b = some q → uv = .slice (some ⟨q.b, q.s + o, none⟩) n cp → ldC h b o n (fun l => bytesC l (fun r => some (vS r, h))) = some (v, h) → ∃ vv, VR ρ v vv ∧ Reads .bs uv vv w := fun b o n q cp hq e h3 => by
      obtain ⟨cs, vs, h4, h5, _, h6, h7⟩ := ldC_inv H hq h3
      obtain ⟨m, h8, h9, h10, h11⟩ := bytesC_inv h6 h4
      simp only [Option.some.injEq, Prod.mk.injEq, and_true] at h8
      subst h8
      have hl : (m.map UInt8.ofNat).length = n := by rw [List.length_map, ← h5, h11, List.length_map]
      refine ⟨_, ⟨rfl, h9⟩, m.map UInt8.ofNat, rfl, .inr (.inr ⟨q.b, q.s + o, cp, by rw [e, hl], fun j hj => ?_⟩)⟩
      refine h7 j _ ?_
      have hj' : j < m.length := by simpa using hj
      rw [h11, List.getElem?_map, List.getElem?_eq_getElem hj']
      simp [Nat.mod_eq_of_lt (h9 m[j] (List.getElem_mem hj'))]
    cases d with
    | ns =>
      have h3 : some (vS [], h) = some (v, h) := h2
      simp only [Option.some.injEq, Prod.mk.injEq, and_true] at h3
      subst h3
      exact ⟨S [], ⟨rfl, fun x hx => by cases hx⟩, [], rfl, .inl ⟨0, hu, rfl⟩⟩
    | sl b o n cp => obtain ⟨q, hq, e, _⟩ := hu; exact key b o n q cp hq e h2
    | sh b o n kz => obtain ⟨q, cp, hq, e, _⟩ := hu; exact key b o n q cp hq e h2
    | se =>
      have h3 : some (vS [], h) = some (v, h) := h2
      simp only [Option.some.injEq, Prod.mk.injEq, and_true] at h3
      subst h3
      obtain ⟨ad, cp, e⟩ := hu
      exact ⟨S [], ⟨rfl, fun x hx => by cases hx⟩, [], rfl, .inr (.inl ⟨ad, cp, e, rfl⟩)⟩
    | _ => exact nN h2
/-- The operation that reads so. -/
def RdOp (P : Program) : Rk → Op → Operand → Prop
  | .l1, op, x => ∃ t, op = .load t x ∧ aggV P t = some none
  | .lA n, op, x => ∃ t, op = .load t x ∧ aggV P t = some (some n)
  | .bs, op, x => ∃ s t e, op = .convert s t x ∧ P.underlying s = some (.slice e) ∧ P.underlying e = some (.int .u8) ∧ P.underlying t = some .string
theorem Reads.run {rk : Rk} {op : Op} {x : Operand} {vv : Value} (ho : RdOp P rk op x) (hr : Reads rk (a.eval x) vv w) (o : Oper) (hop : o.op = op) : (execOp a.eval o).run P w = .ok (.value vv) w := by
  cases rk with
  | l1 =>
    obtain ⟨t, rfl, ha⟩ := ho
    obtain ⟨b, q, e, hc⟩ := hr
    obtain ⟨D, hu, hd, _⟩ := aggV_one ha
    have : (loadVar t ⟨b, q, none⟩).run P w = .ok vv w := by
      unfold loadVar
      rw [Sem.run_bind, run_isAgg_of hu hd w]
      simp [run_load, hc]
    simp [execOp, hop, e, Instr.loadAt, Instr.sureAddr, this]
  | lA n =>
    obtain ⟨t, rfl, ha⟩ := ho
    obtain ⟨b, q, vs, e, rfl, hn, hc⟩ := hr
    obtain ⟨D, hu, hd, hs⟩ := aggV_agg ha
    have hl := run_loadCells_list (P := P) w ⟨b, q, none⟩ vs (fun j v hv => by rw [addr_add]; exact hc j v hv)
    rw [hn] at hl
    have : (loadVar t ⟨b, q, none⟩).run P w = .ok (.agg vs.toArray) w := by
      unfold loadVar
      rw [Sem.run_bind, run_isAgg_of hu hd w]
      simp [size_run hs w, hl]
    simp [execOp, hop, e, Instr.loadAt, Instr.sureAddr, this]
  | bs =>
    obtain ⟨st, t, el, rfl, hs, he, ht⟩ := ho
    obtain ⟨l, rfl, h1⟩ := hr
    rcases h1 with ⟨cp, e, rfl⟩ | ⟨ad, cp, e, rfl⟩ | ⟨b, q, cp, e, hc⟩
    · have : (convert st t (.slice none 0 cp)).run P w = .ok (S []) w := by
        rw [run_convert_bytes_string w st t el none 0 cp hs he ht]
        rfl
      simp only [execOp, hop, e]
      rw [Sem.run_bind, this]
      rfl
    · have : (convert st t (.slice (some ad) 0 cp)).run P w = .ok (S []) w := by
        rw [run_convert_bytes_string w st t el (some ad) 0 cp hs he ht]
        have := run_bytesToString (P := P) w ad 0 cp [] (by simpa using run_loadCells_list (P := P) w ad [] (by simp))
        rw [this]
        rfl
      simp only [execOp, hop, e]
      rw [Sem.run_bind, this]
      rfl
    · have : (convert st t (.slice (some ⟨b, q, none⟩) l.length cp)).run P w = .ok (S l) w :=
        run_convert_bytes_back w st t el ⟨b, q, none⟩ cp l hs he ht (fun j hj => by rw [addr_add]; exact hc j hj)
      simp only [execOp, hop, e]
      rw [Sem.run_bind, this]
      rfl
end
end Go.Ev
