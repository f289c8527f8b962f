/- The evaluator is right, fifth part: numbers. No condition. -/
import Derived.Test.YtlamohamhbhkjaaGreatDoorS4
namespace Go.Ev
open Go.RowKit Go.Eng

theorem modN_int (m : Nat) (hm : 0 < m) (z : Int) : ((modN m z : Nat) : Int) = z % (m : Int) := by
  cases z with
  | ofNat n => simp [modN]
  | negSucc n =>
    have h := Nat.mod_lt n hm
    simp only [modN]
    rw [Int.negSucc_emod _ (by omega)]
    omega
theorem wrap_eq (k : IntKind) (z : Int) : k.wrap z = sgn k (modN (km k) z) := by
  have hm : ((modN (km k) z : Nat) : Int) = z % ((km k : Nat) : Int) := modN_int _ (by cases k <;> decide) z
  generalize modN (km k) z = n at hm
  cases k <;> simp [IntKind.wrap, IntKind.signed, IntKind.bits, sgn, kb, km] at hm ⊢ <;> (try split) <;> (try split) <;> omega
theorem sgn_mod (k : IntKind) (n : Nat) (h : n < km k) : sgn k n % ((km k : Nat) : Int) = (n : Int) := by
  unfold sgn
  split
  · exact Int.emod_eq_of_lt (by omega) (by omega)
  · rw [show (n : Int) - (km k : Int) = (n : Int) + (-1) * (km k : Int) by omega, Int.add_mul_emod_self_right]
    exact Int.emod_eq_of_lt (by omega) (by omega)
/-- A residue of a number that has this one. -/
theorem wrap_of (k : IntKind) (z : Int) (n : Nat) (h : z % ((km k : Nat) : Int) = ((n % km k : Nat) : Int)) : k.wrap z = sgn k (n % km k) := by
  rw [wrap_eq]
  congr 1
  have := modN_int (km k) (by cases k <;> decide) z
  rw [h] at this
  exact_mod_cast this
section
variable (k : IntKind) {a b : Nat}
theorem km_pos : 0 < km k := by cases k <;> decide
theorem wrap_add (ha : a < km k) (hb : b < km k) : k.wrap (sgn k a + sgn k b) = sgn k ((a + b) % km k) := by
  refine wrap_of k _ _ ?_
  rw [Int.add_emod, sgn_mod k a ha, sgn_mod k b hb, Int.natCast_emod, Int.natCast_add]
theorem wrap_sub (ha : a < km k) (hb : b < km k) : k.wrap (sgn k a - sgn k b) = sgn k ((a + (km k - b)) % km k) := by
  refine wrap_of k _ _ ?_
  rw [Int.sub_emod, sgn_mod k a ha, sgn_mod k b hb]
  have : ((a + (km k - b) : Nat) : Int) = (a : Int) - (b : Int) + (km k : Int) := by omega
  rw [Int.natCast_emod, this, Int.add_emod_right]
theorem wrap_mul (ha : a < km k) (hb : b < km k) : k.wrap (sgn k a * sgn k b) = sgn k ((a * b) % km k) := by
  refine wrap_of k _ _ ?_
  rw [Int.mul_emod, sgn_mod k a ha, sgn_mod k b hb]
  simp
theorem sgn_pos (h : a < kb k) : sgn k a = (a : Int) := by unfold sgn; rw [if_pos h]
theorem kb_le : kb k ≤ km k := by cases k <;> decide
theorem wrap_nat (h : a < km k) : k.wrap (a : Int) = sgn k a := by
  have := wrap_of k (a : Int) a (by rw [Int.natCast_emod])
  rwa [Nat.mod_eq_of_lt h] at this
theorem sgn_or (a : Nat) : (a < kb k ∧ sgn k a = (a : Int)) ∨ (kb k ≤ a ∧ sgn k a = (a : Int) - (km k : Int)) := by
  unfold sgn
  rcases Nat.lt_or_ge a (kb k) with h | h
  · exact .inl ⟨h, if_pos h⟩
  · exact .inr ⟨h, if_neg (by omega)⟩
theorem sgn_lt (ha : a < km k) (hb : b < km k) : (sgn k a < sgn k b) ↔ ((a + ks k) % km k < (b + ks k) % km k) := by
  rcases sgn_or k a with ⟨h1, h2⟩ | ⟨h1, h2⟩ <;> rcases sgn_or k b with ⟨h3, h4⟩ | ⟨h3, h4⟩ <;> rw [h2, h4] <;> cases k <;> simp only [kb, km, ks] at * <;> omega
theorem sgn_inj (ha : a < km k) (hb : b < km k) : sgn k a = sgn k b ↔ a = b := by
  rcases sgn_or k a with ⟨h1, h2⟩ | ⟨h1, h2⟩ <;> rcases sgn_or k b with ⟨h3, h4⟩ | ⟨h3, h4⟩ <;> rw [h2, h4] <;> cases k <;> simp only [kb, km] at * <;> omega
theorem ofInt_sgn (ha : a < km k) : (BitVec.ofInt k.bits (sgn k a)).toNat = a := by
  rw [BitVec.toNat_ofInt]
  have h : ((2 ^ k.bits : Nat) : Int) = ((km k : Nat) : Int) := by cases k <;> rfl
  rw [h, sgn_mod k a ha]
  simp
theorem bit_lt {op : Nat → Nat → Nat} (hop : ∀ x y n, x < 2 ^ n → y < 2 ^ n → op x y < 2 ^ n) (ha : a < km k) (hb : b < km k) : op a b < km k := by
  have h : km k = 2 ^ k.bits := by cases k <;> rfl
  rw [h] at ha hb ⊢
  exact hop a b _ ha hb
end
end Go.Ev
