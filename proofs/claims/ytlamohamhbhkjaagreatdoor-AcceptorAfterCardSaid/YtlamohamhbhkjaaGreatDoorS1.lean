/- The evaluator is right, first part: what its small functions answer. No condition. -/
import Derived.Test.YtlamohamhbhkjaaGreatDoorOr
namespace Go.Ev
open Go.RowKit Go.Eng

theorem nN {α : Type} {p : Prop} {x : α} (h : (none : Option α) = some x) : p := nomatch h
section
variable {k : C → A} {r : V × Hp}
theorem toC_inv {v : V} (h : toC v k = some r) : ∃ x, v = .c x ∧ k x = some r := by
  cases v with
  | c x => exact ⟨x, rfl, h⟩
  | g l => exact nN h
  | t l => exact nN h
  | u => exact nN h
theorem toG_inv {v : V} {k : List C → A} (h : toG v k = some r) : ∃ x, v = .g x ∧ k x = some r := by
  cases v with
  | c x => exact nN h
  | g l => exact ⟨l, rfl, h⟩
  | t l => exact nN h
  | u => exact nN h
theorem toT_inv {v : V} {k : List E → A} (h : toT v k = some r) : ∃ x, v = .t x ∧ k x = some r := by
  cases v with
  | c x => exact nN h
  | g l => exact nN h
  | t l => exact ⟨l, rfl, h⟩
  | u => exact nN h
theorem cI_inv {x : C} {k : Nat → Nat → A} (h : cI k x = some r) : ∃ a n, x = .i a n ∧ k a n = some r := by
  cases x with
  | i a n => exact ⟨a, n, rfl, h⟩
  | p a o => exact nN h
  | o d => exact nN h
theorem cP_inv {x : C} {k : Pth → Nat → A} (h : cP k x = some r) : ∃ a n, x = .p a n ∧ k a n = some r := by
  cases x with
  | i a n => exact nN h
  | p a o => exact ⟨a, o, rfl, h⟩
  | o d => exact nN h
theorem cD_inv {x : C} {k : D → A} (h : cD k x = some r) : ∃ d, x = .o d ∧ k d = some r := by
  cases x with
  | i a n => exact nN h
  | p a o => exact nN h
  | o d => exact ⟨d, rfl, h⟩
theorem dB_inv {x : D} {k : Bool → A} (h : dB k x = some r) : ∃ d, x = .b d ∧ k d = some r := by
  cases x <;> first | exact nN h | exact ⟨_, rfl, h⟩
theorem dS_inv {x : D} {k : List Nat → A} (h : dS k x = some r) : ∃ d, x = .s d ∧ k d = some r := by
  cases x <;> first | exact nN h | exact ⟨_, rfl, h⟩
theorem dF_inv {x : D} {k : Nat → List (Pth × Nat) → List (Pth × Nat) → A} (h : dF k x = some r) : ∃ n a b, x = .f n a b ∧ k n a b = some r := by
  cases x <;> first | exact nN h | exact ⟨_, _, _, rfl, h⟩
theorem toI_inv {v : V} {k : Nat → Nat → A} (h : toI v k = some r) : ∃ a n, v = .c (.i a n) ∧ k a n = some r := by
  obtain ⟨x, rfl, h⟩ := toC_inv h
  obtain ⟨a, n, rfl, h⟩ := cI_inv h
  exact ⟨a, n, rfl, h⟩
theorem toP_inv {v : V} {k : Pth → Nat → A} (h : toP v k = some r) : ∃ a n, v = .c (.p a n) ∧ k a n = some r := by
  obtain ⟨x, rfl, h⟩ := toC_inv h
  obtain ⟨a, n, rfl, h⟩ := cP_inv h
  exact ⟨a, n, rfl, h⟩
theorem toB_inv {v : V} {k : Bool → A} (h : toB v k = some r) : ∃ x, v = .c (.o (.b x)) ∧ k x = some r := by
  obtain ⟨x, rfl, h⟩ := toC_inv h
  obtain ⟨d, rfl, h⟩ := cD_inv h
  obtain ⟨b, rfl, h⟩ := dB_inv h
  exact ⟨b, rfl, h⟩
theorem toS_inv {v : V} {k : List Nat → A} (h : toS v k = some r) : ∃ x, v = .c (.o (.s x)) ∧ k x = some r := by
  obtain ⟨x, rfl, h⟩ := toC_inv h
  obtain ⟨d, rfl, h⟩ := cD_inv h
  obtain ⟨b, rfl, h⟩ := dS_inv h
  exact ⟨b, rfl, h⟩
theorem toF_inv {v : V} {k : Nat → List (Pth × Nat) → List (Pth × Nat) → A} (h : toF v k = some r) : ∃ n a b, v = .c (.o (.f n a b)) ∧ k n a b = some r := by
  obtain ⟨x, rfl, h⟩ := toC_inv h
  obtain ⟨d, rfl, h⟩ := cD_inv h
  obtain ⟨n, a, b, rfl, h⟩ := dF_inv h
  exact ⟨n, a, b, rfl, h⟩
theorem ifT_inv {x : Bool} {k : A} (h : ifT x k = some r) : x = true ∧ k = some r := by
  cases x with
  | true => exact ⟨rfl, h⟩
  | false => exact nN h
theorem ifE_inv {x : Bool} {a b : A} (h : ifE x a b = some r) : (x = true ∧ a = some r) ∨ (x = false ∧ b = some r) := by
  cases x with
  | true => exact .inl ⟨rfl, h⟩
  | false => exact .inr ⟨rfl, h⟩
theorem fN_eq {n : Nat} {k : Nat → A} : fN n k = k n := by cases n <;> rfl
theorem fB_eq {x : Bool} {k : V → A} : fB x k = k (vB x) := by cases x <;> rfl
theorem fI_eq {kd n : Nat} {k : V → A} : fI kd n k = k (vI kd n) := by unfold fI; rw [fN_eq]
theorem notB_eq {x : Bool} : notB x = !x := by cases x <;> rfl
theorem eqB_eq {x y : Bool} : eqB x y = (x == y) := by cases x <;> cases y <;> rfl
theorem lt_inv {a b : Nat} {k : A} (h : lt a b k = some r) : a < b ∧ k = some r := by
  obtain ⟨h1, h2⟩ := ifT_inv h
  exact ⟨Nat.le_of_ble_eq_true h1, h2⟩
theorem ble_inv {a b : Nat} (h : Nat.ble a b = true) : a ≤ b := Nat.le_of_ble_eq_true h
theorem beq_inv {a b : Nat} (h : Nat.beq a b = true) : a = b := Nat.eq_of_beq_eq_true h
theorem two_inv {kd : Nat} {x y : V} {k : Nat → Nat → A} (h : two kd x y k = some r) : ∃ a b, x = .c (.i kd a) ∧ y = .c (.i kd b) ∧ k a b = some r := by
  obtain ⟨ka, a, rfl, h⟩ := toI_inv h
  obtain ⟨h1, h⟩ := ifT_inv h
  obtain ⟨kb, b, rfl, h⟩ := toI_inv h
  obtain ⟨h2, h⟩ := ifT_inv h
  rw [beq_inv h1, beq_inv h2]
  exact ⟨a, b, rfl, rfl, h⟩

/-! ### Rows -/
variable {α : Type}
theorem unC_inv {k : α → List α → A} {l : List α} (h : unC k l = some r) : ∃ x t, l = x :: t ∧ k x t = some r := by
  cases l with
  | nil => exact nN h
  | cons x t => exact ⟨x, t, rfl, h⟩
theorem tlC_inv {k : List α → A} {l : List α} (h : tlC k l = some r) : ∃ x t, l = x :: t ∧ k t = some r := by
  cases l with
  | nil => exact nN h
  | cons x t => exact ⟨x, t, rfl, h⟩
theorem nthC_inv {k : α → A} : ∀ {o : Nat} {l : List α}, nthC o k l = some r → ∃ x, l[o]? = some x ∧ k x = some r
  | 0, l, h => by
    cases l with
    | nil => exact nN h
    | cons x t => exact ⟨x, rfl, h⟩
  | o + 1, l, h => by
    obtain ⟨x, t, rfl, h⟩ := tlC_inv (show tlC (nthC o k) l = some r from h)
    obtain ⟨y, h1, h2⟩ := nthC_inv (o := o) h
    exact ⟨y, by simpa using h1, h2⟩
theorem takeC_inv : ∀ {n : Nat} {l : List α} {k : List α → A}, takeC n l k = some r → n ≤ l.length ∧ k (l.take n) = some r
  | 0, l, k, h => ⟨Nat.zero_le _, h⟩
  | n + 1, l, k, h => by
    obtain ⟨x, t, rfl, h⟩ := unC_inv (show unC (fun v q => takeC n q (fun s => k (v :: s))) l = some r from h)
    obtain ⟨h1, h2⟩ := takeC_inv (n := n) h
    exact ⟨by simpa using h1, by simpa using h2⟩
theorem dropC_inv : ∀ {n : Nat} {l : List α} {k : List α → A}, dropC n k l = some r → n ≤ l.length ∧ k (l.drop n) = some r
  | 0, l, k, h => ⟨Nat.zero_le _, h⟩
  | n + 1, l, k, h => by
    obtain ⟨x, t, rfl, h⟩ := tlC_inv (show tlC (dropC n k) l = some r from h)
    obtain ⟨h1, h2⟩ := dropC_inv (n := n) h
    exact ⟨by simpa using h1, by simpa using h2⟩
theorem segC_inv {o n : Nat} {l : List α} {k : List α → A} (h : segC o n l k = some r) : o + n ≤ l.length ∧ k ((l.drop o).take n) = some r := by
  obtain ⟨h1, h2⟩ := dropC_inv (n := o) h
  obtain ⟨h3, h4⟩ := takeC_inv h2
  rw [List.length_drop] at h3
  exact ⟨by omega, h4⟩
theorem overC_inv : ∀ {vs l : List α} {k : List α → A}, overC vs l k = some r → vs.length ≤ l.length ∧ k (vs ++ l.drop vs.length) = some r
  | [], l, k, h => ⟨Nat.zero_le _, h⟩
  | v :: vs, l, k, h => by
    obtain ⟨x, t, rfl, h⟩ := tlC_inv (show tlC (fun q => overC vs q (fun s => k (v :: s))) l = some r from h)
    obtain ⟨h1, h2⟩ := overC_inv (vs := vs) h
    exact ⟨by simpa using h1, by simpa using h2⟩
theorem owC_inv : ∀ {o : Nat} {vs l : List α} {k : List α → A}, owC o vs l k = some r → o + vs.length ≤ l.length ∧ k (l.take o ++ (vs ++ l.drop (o + vs.length))) = some r
  | 0, vs, l, k, h => by
    obtain ⟨h1, h2⟩ := overC_inv (show overC vs l k = some r from h)
    exact ⟨by omega, by simpa using h2⟩
  | o + 1, vs, l, k, h => by
    obtain ⟨x, t, rfl, h⟩ := unC_inv (show unC (fun x q => owC o vs q (fun s => k (x :: s))) l = some r from h)
    obtain ⟨h1, h2⟩ := owC_inv (o := o) h
    refine ⟨by simp; omega, ?_⟩
    rw [show o + 1 + vs.length = (o + vs.length) + 1 by omega]
    simpa using h2
theorem lenN_eq : ∀ (l : List α), lenN l = l.length
  | [] => rfl
  | x :: l => by show Nat.succ (lenN l) = _; rw [lenN_eq l]; rfl
theorem catN_eq : ∀ (l m : List α), catN l m = l ++ m
  | [], m => rfl
  | x :: l, m => by show x :: catN l m = _; rw [catN_eq l m]; rfl
theorem repN_eq (z : List α) : ∀ n, repN z n = (List.replicate n z).flatten
  | 0 => rfl
  | n + 1 => by show catN z (repN z n) = _; rw [catN_eq, repN_eq z n, List.replicate_succ, List.flatten_cons]
end

/-! ### The heap -/
theorem hget_z : ∀ (p : Pth), hget p .z = .no
  | [] => rfl
  | true :: _ => rfl
  | false :: _ => rfl
theorem hget_hput : ∀ (p : Pth) (x : Blk) (m : Tr), hget p (hput p x m) = x
  | [], x, m => by cases m <;> rfl
  | true :: p, x, m => by cases m <;> exact hget_hput p x _
  | false :: p, x, m => by cases m <;> exact hget_hput p x _
theorem hget_ne : ∀ (p q : Pth) (x : Blk) (m : Tr), q ≠ p → hget q (hput p x m) = hget q m
  | [], [], x, m, h => absurd rfl h
  | [], b :: q, x, m, h => by
    cases b <;> cases m <;> first | rfl | exact hget_z q
  | b :: p, [], x, m, h => by cases b <;> cases m <;> rfl
  | b :: p, b' :: q, x, m, h => by
    cases b <;> cases b' <;> cases m <;>
      first
      | rfl
      | exact hget_z q
      | exact hget_ne p q x _ (fun e => h (by rw [e]))
      | exact (hget_ne p q x .z (fun e => h (by rw [e]))).trans (hget_z q)
/-- A way as a number. -/
def num : Pth → Nat
  | [] => 0
  | true :: r => 2 * num r + 1
  | false :: r => 2 * num r
theorem num_inc : ∀ (p : Pth), num (inc p) = num p + 1
  | [] => rfl
  | true :: r => by
    show num (false :: inc r) = _
    simp only [num, num_inc r]; omega
  | false :: r => by
    show num (true :: r) = _
    simp only [num]
end Go.Ev
