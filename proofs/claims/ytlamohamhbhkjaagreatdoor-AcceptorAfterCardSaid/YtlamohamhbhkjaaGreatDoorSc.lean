/- The evaluator is right, twelfth part: append, copy, clear. No condition. -/
import Derived.Test.YtlamohamhbhkjaaGreatDoorSb
namespace Go.Ev
open Go.RowKit Go.Eng

section
variable {P : Program} {fm : List (Nat × Nat)} {nt : Nat} {ρ : Rho} {f : St} {L : Lm} {s : St} {a : Act} {r : V × Hp} {c : Call} {h : Hp} {w : World} {k : Cn}
/-- A name less. -/
theorem HR.kill (H : HR ρ h w) (b : Pth) : HR ρ ⟨h.n, hput b .no h.m⟩ w where
  row := fun a q ty ex cs hq hg => by
    by_cases e : a = b
    · subst e; simp only [hget_hput] at hg; cases hg
    · rw [hget_ne _ _ _ _ e] at hg; exact H.row a q ty ex cs hq hg
  it := fun a q l pos hq hg => by
    by_cases e : a = b
    · subst e; simp only [hget_hput] at hg; cases hg
    · rw [hget_ne _ _ _ _ e] at hg; exact H.it a q l pos hq hg
  apart := fun a a' q q' h1 h2 h3 h4 => by
    have e : a ≠ b := fun e => by subst e; simp only [hget_hput] at h3; exact h3 rfl
    have e' : a' ≠ b := fun e => by subst e; simp only [hget_hput] at h4; exact h4 rfl
    rw [hget_ne _ _ _ _ e] at h3
    rw [hget_ne _ _ _ _ e'] at h4
    exact H.apart a a' q q' h1 h2 h3 h4
  fresh := H.fresh
  lt := H.lt
theorem frKill (ρ : Rho) (h : Hp) (w : World) (b : Pth) : Fr ρ h w ρ ⟨h.n, hput b .no h.m⟩ w :=
  ⟨Ext.refl ρ, rfl, rfl, rfl, Nat.le_refl _, fun _ _ _ => rfl, fun a q h1 h2 _ => ⟨a, q, h1, by
    by_cases e : a = b
    · subst e; simp only [hget_hput] at h2; exact absurd rfl h2
    · rwa [hget_ne _ _ _ _ e] at h2, rfl⟩⟩
/-- A row that grew where it lies, under a new name. -/
theorem HR.regrow (H : HR ρ h w) {b : Pth} {q : Pl} {ty el : Nat} {ex : Bool} {cs ys : List C} {l ysv : List Value} (hq : ρ b = some q) (hg : hget b h.m = .c ty ex cs) (hl : Row w q.b q.z l) (hy : CRs ρ ys ysv) {o m : Nat} (hm : o + m ≤ cs.length) (hz : q.s + o + m + ys.length ≤ q.z) :
    HR (up ρ h.n ⟨q.b, q.s + o, q.z⟩) ⟨inc h.n, hput h.n (.c el false ((cs.drop o).take m ++ ys)) (hput b .no h.m)⟩ (w.setRow q.b (Eng.ow l (q.s + o + m) ysv).toArray) ∧
    Fr ρ h w (up ρ h.n ⟨q.b, q.s + o, q.z⟩) ⟨inc h.n, hput h.n (.c el false ((cs.drop o).take m ++ ys)) (hput b .no h.m)⟩ (w.setRow q.b (Eng.ow l (q.s + o + m) ysv).toArray) := by
  have hE : Ext ρ (up ρ h.n ⟨q.b, q.s + o, q.z⟩) := up_ext H rfl
  have hyl := CRs.len hy
  obtain ⟨l', hl', h3, _, h5⟩ := H.row b q ty ex cs hq hg
  have hll : l' = l := by
    obtain ⟨t1, f1, e1, _⟩ := hl
    obtain ⟨t2, f2, e2, _⟩ := hl'
    rw [e1] at e2
    simp only [Option.some.injEq, Obj.cells.injEq, List.toArray_inj] at e2
    simpa using e2.1.symm
  subst hll
  have hlen := hl.len
  have hol : (Eng.ow l' (q.s + o + m) ysv).length = q.z := by simp [Eng.ow]; omega
  have hrow := hl.set hol
  have hlb : ∀ a, hget a (hput h.n (.c el false ((cs.drop o).take m ++ ys)) (hput b .no h.m)) ≠ .no → a = h.n ∨ (a ≠ b ∧ hget a h.m ≠ .no ∧ hget a (hput h.n (.c el false ((cs.drop o).take m ++ ys)) (hput b .no h.m)) = hget a h.m) := fun a ha => by
    by_cases e : a = h.n
    · exact .inl e
    · rw [hget_ne _ _ _ _ e] at ha
      by_cases e2 : a = b
      · subst e2; rw [hget_hput] at ha; exact absurd rfl ha
      · rw [hget_ne _ _ _ _ e2] at ha
        exact .inr ⟨e2, ha, by rw [hget_ne _ _ _ _ e, hget_ne _ _ _ _ e2]⟩
  have hup : ∀ a p, up ρ h.n ⟨q.b, q.s + o, q.z⟩ a = some p → (a = h.n ∧ p = ⟨q.b, q.s + o, q.z⟩) ∨ (a ≠ h.n ∧ ρ a = some p) := fun a p hp => by
    unfold up at hp
    split at hp
    · rename_i e; simp only [Option.some.injEq] at hp; exact .inl ⟨e, hp.symm⟩
    · rename_i e; exact .inr ⟨e, hp⟩
  have hlive : hget b h.m ≠ .no := by rw [hg]; simp
  have hneb : ∀ a p, ρ a = some p → a ≠ b → hget a h.m ≠ .no → p.b ≠ q.b := fun a p hp hne hl e => hne (H.apart a b p q hp hq hl hlive e)
  refine ⟨⟨fun a p ty' ex' cs' hp hc => ?_, fun a p l pos hp hc => ?_, fun a a' p p' h1 h2 h3 h4 h5 => ?_, fun a p hp => ?_, fun a p hp => ?_⟩,
    ⟨hE, rfl, rfl, rfl, by simp, fun g hg' hn => setRow_other w q.b g _ (fun e => hn b q hq hlive e.symm), fun a p h1 h2 h3 => ?_⟩⟩
  · rcases hup a p hp with ⟨rfl, rfl⟩ | ⟨hne, hp'⟩
    · simp only [hget_hput, Blk.c.injEq] at hc
      obtain ⟨rfl, rfl, rfl⟩ := hc
      have hcl : ((cs.drop o).take m ++ ys).length = m + ys.length := by simp; omega
      refine ⟨_, hrow, by rw [hcl]; show q.s + o + (m + ys.length) ≤ q.z; omega, (fun e => by cases e), CRs.ext hE ?_⟩
      rw [hcl]
      refine CRs.of (by rw [hcl]; simp [hol]; omega) fun i x v hx hv => ?_
      rw [List.getElem?_take] at hv
      split at hv
      case isFalse => cases hv
      rename_i hi
      rw [List.getElem?_drop] at hv
      unfold Eng.ow at hv
      rw [ow_get l' ysv (q.s + o + m) _ (by omega)] at hv
      by_cases h1 : i < m
      · rw [if_pos (show q.s + o + i < q.s + o + m by omega)] at hv
        rw [List.getElem?_append_left (by simp; omega), List.getElem?_take, if_pos h1, List.getElem?_drop] at hx
        refine CRs.at h5 hx ?_
        rw [List.getElem?_take, if_pos (show o + i < cs.length by omega), List.getElem?_drop, ← Nat.add_assoc]
        exact hv
      · have hd : ((cs.drop o).take m).length = m := by simp; omega
        rw [List.getElem?_append_right (by omega), hd] at hx
        rw [if_neg (show ¬ q.s + o + i < q.s + o + m by omega), if_pos (show q.s + o + i < q.s + o + m + ysv.length by omega), show q.s + o + i - (q.s + o + m) = i - m by omega] at hv
        exact CRs.at hy hx hv
    · rcases hlb a (by rw [hc]; simp) with e | ⟨h1, h2, h3'⟩
      · exact absurd e hne
      · rw [h3'] at hc
        obtain ⟨lr, h6, h7, h8, h9⟩ := H.row a p ty' ex' cs' hp' hc
        exact ⟨lr, h6.of (setRow_other w q.b p.b _ (hneb a p hp' h1 h2)), h7, h8, CRs.ext hE h9⟩
  · rcases hup a p hp with ⟨rfl, rfl⟩ | ⟨hne, hp'⟩
    · simp only [hget_hput] at hc; cases hc
    · rcases hlb a (by rw [hc]; simp) with e | ⟨h1, h2, h3'⟩
      · exact absurd e hne
      · rw [h3'] at hc
        obtain ⟨h6, h7, pre, h8, h9⟩ := H.it a p l pos hp' hc
        exact ⟨h6, h7, pre, h8, (setRow_other w q.b p.b _ (hneb a p hp' h1 h2)).trans h9⟩
  · rcases hup a p h1 with ⟨rfl, rfl⟩ | ⟨hne, hp⟩ <;> rcases hup a' p' h2 with ⟨rfl, rfl⟩ | ⟨hne', hp'⟩
    · rfl
    · rcases hlb a' h4 with e | ⟨h6, h7, _⟩
      · exact absurd e hne'
      · exact absurd h5.symm (hneb a' p' hp' h6 h7)
    · rcases hlb a h3 with e | ⟨h6, h7, _⟩
      · exact absurd e hne
      · exact absurd h5 (hneb a p hp h6 h7)
    · rcases hlb a h3 with e | ⟨h6, h7, _⟩
      · exact absurd e hne
      · rcases hlb a' h4 with e | ⟨h8, h9, _⟩
        · exact absurd e hne'
        · exact H.apart a a' p p' hp hp' h7 h9 h5
  · show num a < num (inc h.n)
    rw [num_inc]
    rcases hup a p hp with ⟨rfl, rfl⟩ | ⟨hne, hp'⟩
    · omega
    · have := H.fresh a p hp'; omega
  · have e : (w.setRow q.b (Eng.ow l' (q.s + o + m) ysv).toArray).heap.size = w.heap.size := by simp
    rw [e]
    rcases hup a p hp with ⟨rfl, rfl⟩ | ⟨hne, hp'⟩
    · exact H.lt b q hq
    · exact H.lt a p hp'
  · rcases hup a p h1 with ⟨rfl, rfl⟩ | ⟨hne, hp'⟩
    · exact ⟨b, q, hq, hlive, rfl⟩
    · rcases hlb a h2 with e | ⟨h6, h7, _⟩
      · exact absurd e hne
      · exact ⟨a, p, hp', h7, rfl⟩

/-! ### append -/
/-- What an append does, whatever its source. -/
structure AppR (P : Program) (el n : Nat) (zv : Value) (R : Value → Sem Value) (q : Nat) (vals : List Value) (w : World) : Prop where
  fit : ∀ (ad : Addr) (sLen sCap : Nat) (w' : World), sLen + q ≤ sCap → (storeCells (ad.add (sLen * n)) vals 0).run P w = .ok () w' → (R (.slice (some ad) sLen sCap)).run P w = .ok (.slice (some ad) (sLen + q) sCap) w'
  nil : q = 0 → (R (.slice none 0 0)).run P w = .ok (.slice none 0 0) w
  grow : ∀ (base : Option Addr) (sLen sCap : Nat) (olds : List Value), sCap < sLen + q → sLen + q < 4294967296 → (∀ w' : World, (∀ ad, w'.cell? ad = w.cell? ad) → (Builtin.firstCells n sLen (.slice base sLen sCap)).run P w' = .ok olds.toArray w') →
    (R (.slice base sLen sCap)).run P w = .ok (.slice (some ⟨w.heap.size, 0, none⟩) (sLen + q) (grownCap w (sLen + q) sCap el)) (w.drew.alloc (.cells (olds ++ vals ++ (Builtin.zeroCells zv.cells (grownCap w (sLen + q) sCap el - (sLen + q))).toList).toArray el))
theorem old_drew (w : World) : Old w w.drew := (Below.refl _ _).drew
theorem fin_grow (H : HR ρ h w) {el n m sLen sCap q : Nat} {zv : Value} {cs : List C} {olds vals : List Value} (hn : zv.cells.size = n) (hm : m = sLen + q) (ho : olds.length = sLen * n) (hv : vals.length = q * n) (hc : CRs ρ cs (olds ++ vals)) (hk : Ev.grow h el n m cs k = some r) :
    m < 4294967296 ∧ Fin ρ h w k r (.slice (some ⟨w.heap.size, 0, none⟩) (sLen + q) (grownCap w (sLen + q) sCap el)) (w.drew.alloc (.cells (olds ++ vals ++ (Builtin.zeroCells zv.cells (grownCap w (sLen + q) sCap el - (sLen + q))).toList).toArray el)) := by
  obtain ⟨h1, h2⟩ := lt_inv hk
  have h3 := newC_inv h2
  rw [fN_eq] at h3
  obtain ⟨h4, h5⟩ := H.row_new (old_drew w) el el false (rest := (Builtin.zeroCells zv.cells (grownCap w (sLen + q) sCap el - (sLen + q))).toList) hc (fun e => by cases e)
  have hge := grownCap_ge w (sLen + q) sCap el
  refine ⟨h1, _, _, _, h3, ⟨_, _, up_same ρ h.n _, by rw [hm]; rfl, by rw [hm]; exact hge, ?_⟩, h4, h5⟩
  have hz : (Builtin.zeroCells zv.cells (grownCap w (sLen + q) sCap el - (sLen + q))).size = (grownCap w (sLen + q) sCap el - (sLen + q)) * n := by rw [size_zeroCells, hn]
  show 0 + 0 + grownCap w (sLen + q) sCap el * n = _
  rw [List.length_append, List.length_append, ho, hv, Array.length_toList, hz, ← Nat.add_mul, ← Nat.add_mul]
  have e1 : sLen + q + (grownCap w (sLen + q) sCap el - (sLen + q)) = grownCap w (sLen + q) sCap el := by omega
  rw [e1, Nat.zero_add]
theorem app_core (H : HR ρ h w) {el n q : Nat} {zv : Value} {R : Value → Sem Value} {ys : List C} {vals : List Value} {x : V} {xv : Value} (hn : zv.cells.size = n) (hn0 : 0 < n) (hR : AppR P el n zv R q vals w) (hv : vals.length = q * n) (hy : CRs ρ ys vals) (hx : VR ρ x xv)
    (hk : appC h el n x ys q k = some r) : ∃ vv w', (R xv).run P w = .ok vv w' ∧ Fin ρ h w k r vv w' := by
  cases q with
  | zero =>
    have hvals : vals = [] := List.eq_nil_of_length_eq_zero (by simpa using hv)
    subst hvals
    have h1 : toL x (k x h) (fun _ _ _ => k x h) = some r := hk
    have hkk : k x h = some r := by rcases toL_inv hx h1 with ⟨h2, _⟩ | ⟨_, _, _, _, _, h2, _⟩ <;> exact h2
    have hsl : (xv = .slice none 0 0) ∨ ∃ ad m cp, xv = .slice (some ad) m cp ∧ m ≤ cp := by
      obtain ⟨cx, rfl, h2⟩ := toC_inv h1
      obtain ⟨d, rfl, h3⟩ := cD_inv h2
      cases d with
      | ns => exact .inl hx
      | sl a o m cp => obtain ⟨p, _, e, h4⟩ := hx; exact .inr ⟨_, _, _, e, h4⟩
      | sh a o m kz => obtain ⟨p, cp, _, e, h4, _⟩ := hx; exact .inr ⟨_, _, _, e, h4⟩
      | se => obtain ⟨ad, cp, e⟩ := hx; exact .inr ⟨_, _, _, e, Nat.zero_le _⟩
      | _ => exact nN h3
    rcases hsl with e | ⟨ad, m, cp, e, hle⟩
    · exact ⟨_, w, by rw [e]; exact hR.nil rfl, ρ, x, h, hkk, by rw [← e]; exact hx, H, Fr.refl _ _ _⟩
    · exact ⟨_, w, by rw [e]; exact hR.fit ad m cp w (by simpa using hle) rfl, ρ, x, h, hkk, by rw [Nat.add_zero, ← e]; exact hx, H, Fr.refl _ _ _⟩
  | succ q' =>
    obtain ⟨cx, rfl, h2⟩ := toC_inv (show toC x (cD (appD h el n ys (q' + 1) k)) = some r from hk)
    obtain ⟨d, rfl, h3⟩ := cD_inv h2
    cases d with
    | ns =>
      have e : xv = .slice none 0 0 := hx
      obtain ⟨h4, h5⟩ := fin_grow (sLen := 0) (sCap := 0) (olds := []) H hn (by omega) (by simp) hv (by simpa using hy) h3
      exact ⟨_, _, by rw [e]; exact hR.grow none 0 0 [] (by omega) (by omega) (fun w' _ => by simp [Builtin.firstCells]), h5⟩
    | sl b o m cp =>
      obtain ⟨p, hp, e, hle⟩ := hx
      have h4 : appE h el n ys (q' + 1) k b o m cp = some r := h3
      unfold appE at h4
      rcases ifE_inv h4 with ⟨h5, h6⟩ | ⟨h5, h6⟩
      · obtain ⟨h', w', h7, h8, h9, h10⟩ := stC_inv H hp hy h6
        rw [fN_eq] at h7
        have hfit := ble_inv h5
        refine ⟨_, w', by rw [e]; exact hR.fit _ m cp w' hfit (by rw [addr_add, Nat.add_assoc]; exact h10 P), ρ, _, h', h7, ⟨p, hp, rfl, hfit⟩, h8, h9⟩
      · obtain ⟨cs, vs, h7, h8, h9, h10, h11⟩ := ldC_inv H hp h6
        rw [catN_eq] at h7
        have hnot : cp < m + (q' + 1) := by
          rcases Nat.lt_or_ge cp (m + (q' + 1)) with h | h
          · exact h
          · rw [show Nat.ble (Nat.add m (q' + 1)) cp = true from Nat.ble_eq_true_of_le h] at h5; cases h5
        obtain ⟨h12, h13⟩ := fin_grow (sLen := m) (sCap := cp) (olds := vs) H hn rfl h8 hv (CRs.app h10 hy) h7
        refine ⟨_, _, by
          rw [e]
          exact hR.grow _ m cp vs hnot h12 (fun w' hw' => by
            have := run_firstCells_some (P := P) w' n m ⟨p.b, p.s + o, none⟩ m cp vs h8 (fun j v hj => by rw [addr_add, hw']; exact h11 j v hj)
            exact this), h13⟩
    | sh b o m kz =>
      obtain ⟨p, cp, hp, e, hle, hz⟩ := hx
      have h4 : appH h el n ys (q' + 1) k b o m kz = some r := h3
      unfold appH at h4
      obtain ⟨hkz, h4⟩ := ifT_inv h4
      have hkz' := beq_inv hkz
      subst hkz'
      obtain ⟨ty, ex, cs, hg, h5⟩ := blkC_inv h4
      obtain ⟨l, hl, hl2, _, hl4⟩ := H.row b p ty ex cs hp hg
      rw [lenN_eq] at h5
      rcases ifE_inv h5 with ⟨h6, h7⟩ | ⟨h6, h7⟩
      · obtain ⟨h8, h9⟩ := owC_inv h7
        rw [fN_eq] at h9
        obtain ⟨l', h10, h11, h12, h13⟩ := H.store hp hg hy h8
        have hfit0 : o + (m + (q' + 1)) * kz ≤ cs.length := ble_inv h6
        have hfit : m + (q' + 1) ≤ cp := by
          have : (m + (q' + 1)) * kz ≤ cp * kz := by omega
          exact Nat.le_of_mul_le_mul_right this hn0
        have hst := Row.run_store (P := P) vals 0 h10 (o := p.s + (o + m * kz)) (by show p.s + (o + m * kz) + 0 + vals.length ≤ p.z; have : p.s + (o + m * kz) + vals.length ≤ p.z := h11; omega) (CRs.one hy)
        refine ⟨_, _, by rw [e]; exact hR.fit _ m cp _ hfit (by rw [addr_add, Nat.add_assoc]; exact hst), ρ, _, _, h9, ⟨p, cp, hp, rfl, hfit, hz⟩, h12, h13⟩
      · obtain ⟨h8, h9⟩ := segC_inv h7
        rw [catN_eq] at h9
        have h8' : o + m * kz ≤ cs.length := h8
        by_cases hfit : m + (q' + 1) ≤ cp
        · have hyl := CRs.len hy
          have hz2 : p.s + o + m * kz + ys.length ≤ p.z := by
            rw [hyl, hv]
            have : (m + (q' + 1)) * kz ≤ cp * kz := Nat.mul_le_mul_right _ hfit
            rw [Nat.add_mul] at this
            omega
          obtain ⟨h10, h11⟩ := H.regrow (el := el) hp hg hl hy h8' hz2
          have hst := Row.run_store (P := P) vals 0 hl (o := p.s + o + m * kz) (by rw [← hyl]; omega) (CRs.one hy)
          obtain ⟨h12, h13⟩ := lt_inv h9
          have h14 := newC_inv h13
          rw [fN_eq] at h14
          refine ⟨_, _, by rw [e]; exact hR.fit _ m cp _ hfit (by rw [addr_add]; exact hst), _, _, _, h14, ⟨_, cp, up_same ρ h.n _, rfl, hfit, ?_⟩, h10, h11⟩
          show p.s + o + 0 + cp * kz = p.z
          omega
        · obtain ⟨vs, h10, h11, h12⟩ := H.seg hp hg h8'
          obtain ⟨h13, ρ', v', h', h14, h15, h16, h17⟩ := fin_grow (sLen := m) (sCap := cp) (olds := vs) (H.kill b) hn rfl h10 hv (CRs.app h11 hy) h9
          refine ⟨_, _, by
            rw [e]
            exact hR.grow _ m cp vs (by omega) h13 (fun w' hw' => by
              have := run_firstCells_some (P := P) w' kz m ⟨p.b, p.s + o, none⟩ m cp vs h10 (fun j v hj => by rw [addr_add, hw']; exact h12 j v hj)
              exact this), ρ', v', h', h14, h15, h16, (frKill ρ h w b).trans h17⟩
    | _ => exact nN h3
end
end Go.Ev
