/- The evaluator is right, fourth part: operands. No condition. -/
import Derived.Test.YtlamohamhbhkjaaGreatDoorS3
namespace Go.Ev
open Go.RowKit Go.Eng

theorem modN_lt (k : IntKind) (z : Int) : modN (km k) z < km k := by
  have hk : 0 < km k := by cases k <;> decide
  cases z with
  | ofNat n => exact Nat.mod_lt _ hk
  | negSucc n => have := Nat.mod_lt n hk; show km k - 1 - n % km k < km k; omega
theorem strU (l : List UInt8) : (l.map UInt8.toNat).map UInt8.ofNat = l := by
  rw [List.map_map]
  exact (List.map_congr_left (fun x _ => by simp)).trans (List.map_id l)
theorem CR_ofC (ρ : Rho) (v : Value) (h : v.oneCell' = true) : CR ρ (ofC v) v := by
  cases v with
  | int k z =>
    simp only [ofC]
    split
    · rename_i hd
      exact ⟨k, rfl, modN_lt k z, by rw [of_decide_eq_true hd]⟩
    · exact ⟨rfl, rfl⟩
  | bool b => exact rfl
  | string b =>
    cases b with | mk d => cases d with | mk l =>
    refine ⟨?_, fun x hx => ?_⟩
    · show Value.string ⟨⟨l⟩⟩ = Value.string ⟨⟨(l.map UInt8.toNat).map UInt8.ofNat⟩⟩
      rw [strU]
    · obtain ⟨c, _, rfl⟩ := List.mem_map.1 hx
      exact c.toNat_lt
  | pointer a => cases a with
    | none => exact rfl
    | some q => exact ⟨rfl, rfl⟩
  | slice a n c => cases a with
    | none =>
      simp only [ofC]
      split
      · rename_i hb
        simp only [Bool.and_eq_true] at hb
        have e1 := beq_inv hb.1
        have e2 := beq_inv hb.2
        subst e1; subst e2
        exact rfl
      · exact ⟨rfl, rfl⟩
    | some q => exact ⟨rfl, rfl⟩
  | func f xs ys =>
    cases xs with | mk xs => cases ys with | mk ys =>
    cases f <;> first
      | exact ⟨rfl, rfl⟩
      | (cases xs <;> cases ys <;> first | exact ⟨rfl, rfl⟩ | exact ⟨[], [], trivial, trivial, rfl⟩)
  | agg l => cases h
  | tuple l => cases h
  | _ => exact ⟨rfl, h⟩
theorem CRs_ofCs (ρ : Rho) : ∀ {l : List Value}, ones l = true → CRs ρ (ofCs l) l
  | [], _ => trivial
  | v :: r, h => by
    simp only [ones] at h
    split at h
    · rename_i h1; exact ⟨CR_ofC ρ v h1, CRs_ofCs ρ h⟩
    · cases h
theorem VR_of1 (ρ : Rho) {v : Value} (h : ofV v = .c (ofC v)) (h1 : v.oneCell' = true) : VR ρ (ofV v) v := by rw [h]; exact CR_ofC ρ v h1
theorem VR_ofV (ρ : Rho) (v : Value) : VR ρ (ofV v) v := by
  cases v with
  | agg l =>
    cases l with | mk l =>
    simp only [ofV]
    split
    · rename_i h; exact ⟨l, CRs_ofCs ρ h, rfl⟩
    · trivial
  | tuple l =>
    cases l with | mk l =>
    cases l with
    | nil => exact ⟨[], trivial, rfl⟩
    | cons x l => trivial
  | _ => exact VR_of1 ρ rfl rfl

/-- A function's slots stand in the frame, in the region's own values, or are named. -/
structure AR (fm : List (Nat × Nat)) (nt : Nat) (ρ : Rho) (f : St) (L : Lm) (s : St) (a : Act) : Prop where
  defers : a.defers = []
  size : a.tmps.size = nt
  fr : ∀ t j, lk fm t = some j → VR ρ (nthV j f) (a.tmps.getD t undef)
  st : ∀ t p, lk L t = some (.st p) → p < s.length ∧ VR ρ (nthV (s.length - 1 - p) s) (a.tmps.getD t undef)
  al : ∀ t j, lk L t = some (.al j) → VR ρ (nthV j f) (a.tmps.getD t undef)
  cn : ∀ t v, lk L t = some (.cn v) → VR ρ v (a.tmps.getD t undef)
theorem AR.ext {fm : List (Nat × Nat)} {nt : Nat} {ρ ρ' : Rho} {f : St} {L : Lm} {s : St} {a : Act} (h : AR fm nt ρ f L s a) (hE : Ext ρ ρ') : AR fm nt ρ' f L s a :=
  ⟨h.defers, h.size, fun t j hj => VR.ext hE (h.fr t j hj), fun t p hp => ⟨(h.st t p hp).1, VR.ext hE (h.st t p hp).2⟩, fun t j hj => VR.ext hE (h.al t j hj), fun t v hv => VR.ext hE (h.cn t v hv)⟩
theorem AR.opd {fm : List (Nat × Nat)} {nt : Nat} {ρ : Rho} {f : St} {L : Lm} {s : St} {a : Act} (h : AR fm nt ρ f L s a) {x : Operand} {o : O} (ho : ofO fm L s.length x = some o) : VR ρ (oV o f s) (a.eval x) := by
  cases x with
  | tmp t =>
    simp only [ofO] at ho
    split at ho
    · rename_i p hp; simp only [Option.some.injEq] at ho; subst ho; exact (h.st t p hp).2
    · rename_i j hj; simp only [Option.some.injEq] at ho; subst ho; exact h.al t j hj
    · rename_i v hv; simp only [Option.some.injEq] at ho; subst ho; exact h.cn t v hv
    · split at ho
      · rename_i j hj; simp only [Option.some.injEq] at ho; subst ho; exact h.fr t j hj
      · cases ho
  | const v => simp only [ofO, Option.some.injEq] at ho; subst ho; exact VR_ofV ρ v
  | global g => simp only [ofO, Option.some.injEq] at ho; subst ho; exact ⟨rfl, rfl⟩
  | func g => simp only [ofO, Option.some.injEq] at ho; subst ho; exact ⟨[], [], trivial, trivial, rfl⟩
end Go.Ev
