/- The evaluator is right, sixth part: operations on two values. No condition. -/
import Derived.Test.YtlamohamhbhkjaaGreatDoorS5
namespace Go.Ev
open Go.RowKit Go.Eng

theorem kc_inj {k j : IntKind} (h : kc k = kc j) : k = j := by cases k <;> cases j <;> first | rfl | cases h
section
variable {P : Program} {ρ : Rho} {r : V × Hp}
theorem int_of {k : IntKind} {a : Nat} {v : Value} (h : CR ρ (.i (kc k) a) v) : a < km k ∧ v = .int k (sgn k a) := by
  obtain ⟨kd, h1, h2, h3⟩ := h
  rw [kc_inj h1] at h2 h3
  exact ⟨h2, h3⟩
theorem vI_of {k : IntKind} {a : Nat} (h : a < km k) : VR ρ (vI (kc k) a) (.int k (sgn k a)) := ⟨k, rfl, h, rfl⟩
theorem vB_of (x : Bool) : VR ρ (vB x) (.bool x) := rfl
/-- The operation's value in every world. -/
def BinR (P : Program) (op : BinOp) (x y v : Value) : Prop := ∀ (t : TypeId) (ox oy : Operand) (w : World), (do eqGuard op t ox oy x y; binOp op t x y : Sem Value).run P w = .ok v w
theorem ltN_eq (k : IntKind) {a b : Nat} (ha : a < km k) (hb : b < km k) : ltN (km k) (ks k) a b = decide (sgn k a < sgn k b) := by
  have := sgn_lt k ha hb
  show Nat.ble (Nat.succ ((a + ks k) % km k)) ((b + ks k) % km k) = _
  rw [Bool.eq_iff_iff, Nat.ble_eq, decide_eq_true_eq, this]
  exact Iff.rfl
theorem le_not (x y : Int) : decide (x ≤ y) = !decide (y < x) := by
  by_cases h : y < x
  · rw [decide_eq_true h, decide_eq_false (by omega)]; rfl
  · rw [decide_eq_false h, decide_eq_true (by omega)]; rfl
theorem km_pow (k : IntKind) : km k = 2 ^ k.bits := by cases k <;> rfl
theorem kb_64 (k : IntKind) : 64 < kb k := by cases k <;> decide
theorem shl_eq (k : IntKind) {a : Nat} (ha : a < km k) (b : Nat) : k.wrap (sgn k a * 2 ^ (min b k.bits)) = sgn k ((a * 2 ^ b) % km k) := by
  refine wrap_of k _ _ ?_
  by_cases hb : b ≤ k.bits
  · rw [Nat.min_eq_left hb, Int.natCast_emod, Int.natCast_mul, Int.mul_emod, sgn_mod k a ha, Int.mul_emod (a : Int) ((2 ^ b : Nat) : Int), Int.emod_eq_of_lt (a := (a : Int)) (by omega) (by omega)]
    simp
  · rw [Nat.min_eq_right (by omega)]
    have h1 : (2 : Int) ^ k.bits = ((km k : Nat) : Int) := by rw [km_pow]; simp
    have h2 : a * 2 ^ b % km k = 0 := by
      rw [km_pow, show b = k.bits + (b - k.bits) by omega, Nat.pow_add, ← Nat.mul_assoc, Nat.mul_comm a, Nat.mul_assoc]
      exact Nat.mul_mod_right _ _
    rw [h1, h2]
    simp
theorem shr_eq {k : IntKind} {a : Nat} (ha : a < km k) (b : Nat) : ((a : Int)).fdiv (2 ^ (min b k.bits)) = ((a / 2 ^ b : Nat) : Int) := by
  have h0 : (2 : Int) ^ (min b k.bits) = ((2 ^ (min b k.bits) : Nat) : Int) := by simp
  rw [h0, Int.fdiv_eq_ediv_of_nonneg _ (Int.natCast_nonneg _), ← Int.natCast_ediv]
  congr 1
  by_cases hb : b ≤ k.bits
  · rw [Nat.min_eq_left hb]
  · rw [Nat.min_eq_right (by omega), Nat.div_eq_of_lt (by rw [← km_pow]; exact ha), Nat.div_eq_of_lt]
    exact Nat.lt_of_lt_of_le ha (by rw [km_pow]; exact Nat.pow_le_pow_right (by decide) (by omega))
theorem int_bin {k : IntKind} {op : BinOp} {b : Bo} (hb : intV k op = some b) {x y : V} {xv yv : Value} {kk : V → A} (hx : VR ρ x xv) (hy : VR ρ y yv) (h : b.den x y kk = some r) :
    ∃ v vv, kk v = some r ∧ VR ρ v vv ∧ BinR P op xv yv vv := by
  have hkm := km_pos k
  cases op <;> simp only [intV, Option.some.injEq] at hb <;> first | (cases hb; done) | subst hb
  case add =>
    obtain ⟨a, b, rfl, rfl, h'⟩ := two_inv h
    obtain ⟨ha, rfl⟩ := int_of (ρ := ρ) hx
    obtain ⟨hb, rfl⟩ := int_of (ρ := ρ) hy
    rw [fI_eq] at h'
    exact ⟨_, _, h', vI_of (Nat.mod_lt _ hkm), fun t ox oy w => by simp [eqGuard, binOp, Op.intArith, wrap_add k ha hb]; rfl⟩
  case sub =>
    obtain ⟨a, b, rfl, rfl, h'⟩ := two_inv h
    obtain ⟨ha, rfl⟩ := int_of (ρ := ρ) hx
    obtain ⟨hb, rfl⟩ := int_of (ρ := ρ) hy
    rw [fI_eq] at h'
    exact ⟨_, _, h', vI_of (Nat.mod_lt _ hkm), fun t ox oy w => by simp [eqGuard, binOp, Op.intArith, wrap_sub k ha hb]; rfl⟩
  case mul =>
    obtain ⟨a, b, rfl, rfl, h'⟩ := two_inv h
    obtain ⟨ha, rfl⟩ := int_of (ρ := ρ) hx
    obtain ⟨hb, rfl⟩ := int_of (ρ := ρ) hy
    rw [fI_eq] at h'
    exact ⟨_, _, h', vI_of (Nat.mod_lt _ hkm), fun t ox oy w => by simp [eqGuard, binOp, Op.intArith, wrap_mul k ha hb]; rfl⟩
  case quo =>
    obtain ⟨a, b, rfl, rfl, h'⟩ := two_inv h
    obtain ⟨ha, rfl⟩ := int_of (ρ := ρ) hx
    obtain ⟨hb, rfl⟩ := int_of (ρ := ρ) hy
    obtain ⟨h1, h2⟩ := lt_inv h'
    obtain ⟨h3, h4⟩ := lt_inv h2
    obtain ⟨h5, h6⟩ := lt_inv h4
    rw [fI_eq] at h6
    have hlt : a / b < km k := Nat.lt_of_le_of_lt (Nat.div_le_self a b) ha
    refine ⟨_, _, h6, vI_of hlt, fun t ox oy w => ?_⟩
    rw [sgn_pos k h1, sgn_pos k h3]
    have hne : ¬ ((b : Int) = 0) := by omega
    have hp : sgn k (a / b) = ((a / b : Nat) : Int) := sgn_pos k (Nat.lt_of_le_of_lt (Nat.div_le_self a b) h1)
    have hq : k.wrap ((a : Int) / (b : Int)) = sgn k (a / b) := by
      rw [← Int.natCast_ediv]
      exact wrap_nat k hlt
    have hnz : ¬ b = 0 := by omega
    simp [eqGuard, binOp, Op.intDiv, hnz, hq]
    rfl
  case rem =>
    obtain ⟨a, b, rfl, rfl, h'⟩ := two_inv h
    obtain ⟨ha, rfl⟩ := int_of (ρ := ρ) hx
    obtain ⟨hb, rfl⟩ := int_of (ρ := ρ) hy
    obtain ⟨h1, h2⟩ := lt_inv h'
    obtain ⟨h3, h4⟩ := lt_inv h2
    obtain ⟨h5, h6⟩ := lt_inv h4
    rw [fI_eq] at h6
    have hlt : a % b < km k := Nat.lt_of_le_of_lt (Nat.mod_le a b) ha
    refine ⟨_, _, h6, vI_of hlt, fun t ox oy w => ?_⟩
    rw [sgn_pos k h1, sgn_pos k h3]
    have hne : ¬ ((b : Int) = 0) := by omega
    have hp : sgn k (a % b) = ((a % b : Nat) : Int) := sgn_pos k (Nat.lt_of_le_of_lt (Nat.mod_le a b) h1)
    have hq : (a : Int).tmod (b : Int) = sgn k (a % b) := by
      rw [Int.tmod_eq_emod_of_nonneg (by omega), ← Int.natCast_emod]
      exact hp.symm
    have hnz : ¬ b = 0 := by omega
    simp [eqGuard, binOp, Op.intDiv, hnz, hq]
    rfl
  case and =>
    obtain ⟨a, b, rfl, rfl, h'⟩ := two_inv h
    obtain ⟨ha, rfl⟩ := int_of (ρ := ρ) hx
    obtain ⟨hb, rfl⟩ := int_of (ρ := ρ) hy
    rw [fI_eq] at h'
    have hlt : Nat.land a b < km k := bit_lt k (op := Nat.land) (fun x y n hx _ => Nat.lt_of_le_of_lt Nat.and_le_left hx) ha hb
    refine ⟨_, _, h', vI_of hlt, fun t ox oy w => ?_⟩
    have hq : k.wrap ((Nat.land a b : Nat) : Int) = sgn k (Nat.land a b) := wrap_nat k hlt
    simp only [eqGuard, binOp, Op.intBits, BitVec.toNat_and, ofInt_sgn k ha, ofInt_sgn k hb]
    simp
    exact hq
  case or =>
    obtain ⟨a, b, rfl, rfl, h'⟩ := two_inv h
    obtain ⟨ha, rfl⟩ := int_of (ρ := ρ) hx
    obtain ⟨hb, rfl⟩ := int_of (ρ := ρ) hy
    rw [fI_eq] at h'
    have hlt : Nat.lor a b < km k := bit_lt k (op := Nat.lor) (fun x y n hx hy => Nat.or_lt_two_pow hx hy) ha hb
    refine ⟨_, _, h', vI_of hlt, fun t ox oy w => ?_⟩
    have hq : k.wrap ((Nat.lor a b : Nat) : Int) = sgn k (Nat.lor a b) := wrap_nat k hlt
    simp only [eqGuard, binOp, Op.intBits, BitVec.toNat_or, ofInt_sgn k ha, ofInt_sgn k hb]
    simp
    exact hq
  case xor =>
    obtain ⟨a, b, rfl, rfl, h'⟩ := two_inv h
    obtain ⟨ha, rfl⟩ := int_of (ρ := ρ) hx
    obtain ⟨hb, rfl⟩ := int_of (ρ := ρ) hy
    rw [fI_eq] at h'
    have hlt : Nat.xor a b < km k := bit_lt k (op := Nat.xor) (fun x y n hx hy => Nat.xor_lt_two_pow hx hy) ha hb
    refine ⟨_, _, h', vI_of hlt, fun t ox oy w => ?_⟩
    have hq : k.wrap ((Nat.xor a b : Nat) : Int) = sgn k (Nat.xor a b) := wrap_nat k hlt
    simp only [eqGuard, binOp, Op.intBits, BitVec.toNat_xor, ofInt_sgn k ha, ofInt_sgn k hb]
    simp
    exact hq
  case shl =>
    obtain ⟨ka, a, rfl, h1⟩ := toI_inv (k := fun ka a => ifT (Nat.beq ka (kc k)) (toI y (fun _ b => lt b 64 (fI (kc k) (Nat.mod (Nat.shiftLeft a b) (km k)) kk)))) h
    obtain ⟨e1, h2⟩ := ifT_inv h1
    rw [beq_inv e1] at hx
    obtain ⟨ha, rfl⟩ := int_of (ρ := ρ) hx
    obtain ⟨kb', b, rfl, h3⟩ := toI_inv h2
    obtain ⟨hlt, h4⟩ := lt_inv h3
    obtain ⟨ky, e2, _, rfl⟩ := hy
    rw [fI_eq] at h4
    have hs : sgn ky b = (b : Int) := sgn_pos ky (Nat.lt_trans hlt (kb_64 ky))
    refine ⟨_, _, h4, vI_of (Nat.mod_lt _ hkm), fun t ox oy w => ?_⟩
    have hq := shl_eq k ha b
    have hn : ¬ ((b : Int) < 0) := by omega
    rw [hs]
    have e : a.shiftLeft b = a * 2 ^ b := Nat.shiftLeft_eq a b
    simp only [eqGuard, binOp, Op.shift, hn, if_false, Int.toNat_natCast, hq, e]
    rfl
  case shr =>
    obtain ⟨ka, a, rfl, h1⟩ := toI_inv (k := fun ka a => ifT (Nat.beq ka (kc k)) (lt a (kb k) (toI y (fun _ b => lt b 64 (fI (kc k) (Nat.shiftRight a b) kk))))) h
    obtain ⟨e1, h2⟩ := ifT_inv h1
    rw [beq_inv e1] at hx
    obtain ⟨ha, rfl⟩ := int_of (ρ := ρ) hx
    obtain ⟨h0, h2⟩ := lt_inv h2
    obtain ⟨kb', b, rfl, h3⟩ := toI_inv h2
    obtain ⟨hlt, h4⟩ := lt_inv h3
    obtain ⟨ky, e2, _, rfl⟩ := hy
    rw [fI_eq] at h4
    have hs : sgn ky b = (b : Int) := sgn_pos ky (Nat.lt_trans hlt (kb_64 ky))
    have e : a.shiftRight b = a / 2 ^ b := Nat.shiftRight_eq_div_pow a b
    rw [e] at h4
    have hle : a / 2 ^ b ≤ a := Nat.div_le_self _ _
    refine ⟨_, _, h4, vI_of (Nat.lt_of_le_of_lt hle ha), fun t ox oy w => ?_⟩
    have hq := shr_eq ha b
    have hn : ¬ ((b : Int) < 0) := by omega
    rw [hs, sgn_pos k h0, sgn_pos k (Nat.lt_of_le_of_lt hle h0)]
    simp only [eqGuard, binOp, Op.shift, hn, if_false, Int.toNat_natCast, hq]
    rfl
  case lss =>
    obtain ⟨a, b, rfl, rfl, h'⟩ := two_inv h
    obtain ⟨ha, rfl⟩ := int_of (ρ := ρ) hx
    obtain ⟨hb, rfl⟩ := int_of (ρ := ρ) hy
    rw [fB_eq] at h'
    refine ⟨_, _, h', vB_of _, fun t ox oy w => ?_⟩
    rw [ltN_eq k ha hb]
    simp [eqGuard, binOp, Op.intCmp]
  case leq =>
    obtain ⟨a, b, rfl, rfl, h'⟩ := two_inv h
    obtain ⟨ha, rfl⟩ := int_of (ρ := ρ) hx
    obtain ⟨hb, rfl⟩ := int_of (ρ := ρ) hy
    rw [fB_eq] at h'
    refine ⟨_, _, h', vB_of _, fun t ox oy w => ?_⟩
    rw [notB_eq, ltN_eq k hb ha, ← le_not]
    simp [eqGuard, binOp, Op.intCmp]
  case gtr =>
    obtain ⟨a, b, rfl, rfl, h'⟩ := two_inv h
    obtain ⟨ha, rfl⟩ := int_of (ρ := ρ) hx
    obtain ⟨hb, rfl⟩ := int_of (ρ := ρ) hy
    rw [fB_eq] at h'
    refine ⟨_, _, h', vB_of _, fun t ox oy w => ?_⟩
    rw [ltN_eq k hb ha]
    simp [eqGuard, binOp, Op.intCmp]
  case geq =>
    obtain ⟨a, b, rfl, rfl, h'⟩ := two_inv h
    obtain ⟨ha, rfl⟩ := int_of (ρ := ρ) hx
    obtain ⟨hb, rfl⟩ := int_of (ρ := ρ) hy
    rw [fB_eq] at h'
    refine ⟨_, _, h', vB_of _, fun t ox oy w => ?_⟩
    rw [notB_eq, ltN_eq k ha hb, ← le_not]
    simp [eqGuard, binOp, Op.intCmp]
/-! ### Comparisons -/
theorem eqL_eq : ∀ (l m : List Nat), eqL l m = (l == m)
  | [], [] => rfl
  | [], _ :: _ => rfl
  | _ :: _, [] => rfl
  | a :: l, b :: m => by
    show Bool.rec (motive := fun _ => Bool) false (eqL l m) (Nat.beq a b) = _
    rw [eqL_eq l m]
    cases h : Nat.beq a b with
    | true => rw [beq_inv h]; simp
    | false =>
      have : a ≠ b := fun e => by subst e; simp at h
      simp [this]
theorem strEq {l m : List Nat} (hl : ∀ x ∈ l, x < 256) (hm : ∀ x ∈ m, x < 256) : (l.map UInt8.ofNat == m.map UInt8.ofNat) = (l == m) := by
  rw [Bool.eq_iff_iff, beq_iff_eq, beq_iff_eq]
  constructor
  · intro h
    have h2 : ∀ (q : List Nat), (∀ x ∈ q, x < 256) → (q.map UInt8.ofNat).map UInt8.toNat = q := fun q hq => by
      rw [List.map_map]
      exact (List.map_congr_left (fun x hx => by simp [Nat.mod_eq_of_lt (hq x hx)])).trans (List.map_id q)
    rw [← h2 l hl, h, h2 m hm]
  · intro h; rw [h]
/-- Is a cell nil? -/
theorem nilC_inv {kd : Nat} {x : C} {xv : Value} {k : Bool → A} (hx : CR ρ x xv) (h : nilC kd x k = some r) :
    ∃ b, k b = some r ∧ ((kd = 0 ∧ ∃ a, xv = .pointer a ∧ b = a.isNone) ∨ (0 < kd ∧ ∃ a n c, xv = .slice a n c ∧ b = a.isNone)) := by
  cases kd with
  | zero =>
    have h : nilP x k = some r := h
    cases x with
    | i a n => exact nN h
    | p a o => obtain ⟨q, _, rfl⟩ := hx; exact ⟨false, h, .inl ⟨rfl, _, rfl, rfl⟩⟩
    | o d =>
      cases d with
      | np => exact ⟨true, h, .inl ⟨rfl, none, hx, rfl⟩⟩
      | _ => exact nN h
  | succ n =>
    obtain ⟨d, rfl, h⟩ := cD_inv (show nilS x k = some r from h)
    cases d with
    | ns => exact ⟨true, h, .inr ⟨Nat.succ_pos _, none, 0, 0, hx, rfl⟩⟩
    | sl a o n c => obtain ⟨q, _, rfl, _⟩ := hx; exact ⟨false, h, .inr ⟨Nat.succ_pos _, _, _, _, rfl, rfl⟩⟩
    | sh a o n c => obtain ⟨q, _, _, rfl, _⟩ := hx; exact ⟨false, h, .inr ⟨Nat.succ_pos _, _, _, _, rfl, rfl⟩⟩
    | se => obtain ⟨_, _, rfl⟩ := hx; exact ⟨false, h, .inr ⟨Nat.succ_pos _, _, _, _, rfl, rfl⟩⟩
    | _ => exact nN h
end
end Go.Ev
