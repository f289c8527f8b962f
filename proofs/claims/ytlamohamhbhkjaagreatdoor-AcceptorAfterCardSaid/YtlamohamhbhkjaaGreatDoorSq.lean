/- The evaluator is right: comparisons by '==' and '!='. No condition. -/
import Derived.Test.YtlamohamhbhkjaaGreatDoorS6
import Derived.Laws.StructEq
import Derived.ChangeKeysEq
import Derived.Laws.Cover3
namespace Go.Ev
open Go.RowKit Go.Eng

/-- Two cells of a kind, and whether they are one. -/
def LeafEq (kd : Nat) (x y : Value) (b : Bool) : Prop := match kd with
  | 0 => ∃ k a c, x = .int k a ∧ y = .int k c ∧ b = (a == c)
  | 1 => ∃ l m : Str, x = S l ∧ y = S m ∧ b = (l == m)
  | _ => ∃ a c, x = .bool a ∧ y = .bool c ∧ b = (a == c)
def LeavesEq : List Nat → List Value → List Value → Bool → Prop
  | [], [], [], b => b = true
  | k :: ks, x :: xs, y :: ys, b => ∃ q s, LeafEq k x y q ∧ LeavesEq ks xs ys s ∧ b = (q && s)
  | _, _, _, _ => False
section
variable {P : Program} {ρ : Rho} {r : V × Hp}
theorem eqC_inv {kd : Nat} {x y : C} {xv yv : Value} {k : Bool → A} (hx : CR ρ x xv) (hy : CR ρ y yv) (h : eqC kd x y k = some r) : ∃ b, k b = some r ∧ LeafEq kd xv yv b := by
  match kd, h with
  | 0, h =>
    obtain ⟨ka, a, rfl, h1⟩ := cI_inv (show eqI x y k = some r from h)
    obtain ⟨kb', c, rfl, h1⟩ := cI_inv h1
    obtain ⟨e1, h2⟩ := ifT_inv h1
    obtain ⟨kd, e2, ha, rfl⟩ := hx
    obtain ⟨kd', e3, hc, rfl⟩ := hy
    have e4 : kd' = kd := kc_inj (e3.trans ((beq_inv e1).symm.trans e2.symm))
    subst e4
    refine ⟨_, h2, kd', _, _, rfl, rfl, ?_⟩
    rw [Bool.eq_iff_iff, Nat.beq_eq, beq_iff_eq, sgn_inj kd' ha hc]
  | 1, h =>
    obtain ⟨d, rfl, h1⟩ := cD_inv (show eqS x y k = some r from h)
    obtain ⟨l, rfl, h2⟩ := dS_inv h1
    obtain ⟨d, rfl, h3⟩ := cD_inv h2
    obtain ⟨m, rfl, h4⟩ := dS_inv h3
    rw [eqL_eq] at h4
    exact ⟨_, h4, _, _, hx.1, hy.1, (strEq hx.2 hy.2).symm⟩
  | n + 2, h =>
    obtain ⟨d, rfl, h1⟩ := cD_inv (show eqT x y k = some r from h)
    obtain ⟨a, rfl, h2⟩ := dB_inv h1
    obtain ⟨d, rfl, h3⟩ := cD_inv h2
    obtain ⟨c, rfl, h4⟩ := dB_inv h3
    rw [eqB_eq] at h4
    exact ⟨_, h4, a, c, hx, hy, rfl⟩
theorem eqCs_inv : ∀ {ks : List Nat} {l m : List C} {xs ys : List Value} {k : Bool → A}, CRs ρ l xs → CRs ρ m ys → eqCs ks l m k = some r → ∃ b, k b = some r ∧ LeavesEq ks xs ys b
  | [], l, m, xs, ys, k, hx, hy, h => by
    cases l with
    | cons a l => exact nN h
    | nil =>
      cases m with
      | cons a m => exact nN h
      | nil =>
        have e1 := (CRs.len hx).symm
        have e2 := (CRs.len hy).symm
        simp only [List.length_nil, List.length_eq_zero_iff] at e1 e2
        subst e1; subst e2
        exact ⟨true, h, rfl⟩
  | kd :: ks, l, m, xs, ys, k, hx, hy, h => by
    obtain ⟨a, l', rfl, h1⟩ := unC_inv (show unC (fun a l' => unC (fun b m' => eqC kd a b (fun q => eqCs ks l' m' (fun s => k (Bool.rec (motive := fun _ => Bool) false s q)))) m) l = some r from h)
    obtain ⟨b, m', rfl, h2⟩ := unC_inv h1
    cases xs with
    | nil => exact hx.elim
    | cons x xs =>
      cases ys with
      | nil => exact hy.elim
      | cons y ys =>
        obtain ⟨q, h3, h4⟩ := eqC_inv hx.1 hy.1 h2
        obtain ⟨s, h5, h6⟩ := eqCs_inv hx.2 hy.2 h3
        refine ⟨_, h5, q, s, h4, h6, ?_⟩
        cases q <;> rfl

/-! ### The model's side -/
def isAggT (P : Program) (t : Nat) : Bool := match P.underlying t with | some d => isAggD d | none => false
/-- The value of a type with these cells. -/
def pvT (P : Program) (t : Nat) (l : List Value) : Value := match isAggT P t with | true => .agg l.toArray | false => l.headD undef
theorem pv_agg {t : Nat} {l : List Value} {d : TypeDesc} (hu : P.underlying t = some d) (hd : isAggD d = true) : pvT P t l = .agg l.toArray := by unfold pvT isAggT; rw [hu]; simp [hd]
theorem pv_one {t : Nat} {l : List Value} {d : TypeDesc} (hu : P.underlying t = some d) (hd : isAggD d = false) : pvT P t l = l.headD undef := by unfold pvT isAggT; rw [hu]; simp [hd]
theorem leaves_len : ∀ {ks : List Nat} {xs ys : List Value} {b : Bool}, LeavesEq ks xs ys b → xs.length = ks.length ∧ ys.length = ks.length
  | [], [], [], _, _ => ⟨rfl, rfl⟩
  | _ :: _, _ :: _, _ :: _, _, ⟨_, _, _, h, _⟩ => by have := leaves_len h; simp [this.1, this.2]
  | [], _ :: _, _, _, h => h.elim
  | [], [], _ :: _, _, h => h.elim
  | _ :: _, [], _, _, h => h.elim
  | _ :: _, _ :: _, [], _, h => h.elim
theorem leaves_split : ∀ {ks ms : List Nat} {xs ys : List Value} {b : Bool}, LeavesEq (ks ++ ms) xs ys b →
    ∃ q s, LeavesEq ks (xs.take ks.length) (ys.take ks.length) q ∧ LeavesEq ms (xs.drop ks.length) (ys.drop ks.length) s ∧ b = (q && s)
  | [], ms, xs, ys, b, h => ⟨true, b, rfl, h, by simp⟩
  | k :: ks, ms, [], ys, b, h => h.elim
  | k :: ks, ms, _ :: _, [], b, h => h.elim
  | k :: ks, ms, x :: xs, y :: ys, b, h => by
    obtain ⟨q, s, h1, h2, rfl⟩ := h
    obtain ⟨q', s', h3, h4, rfl⟩ := leaves_split h2
    refine ⟨q && q', s', ⟨q, q', h1, h3, rfl⟩, h4, by rw [Bool.and_assoc]⟩
theorem leaves1 {k : Nat} {xs ys : List Value} {b : Bool} (h : LeavesEq [k] xs ys b) : ∃ x y, xs = [x] ∧ ys = [y] ∧ LeafEq k x y b := by
  have hl := leaves_len h
  obtain ⟨x, rfl⟩ := List.length_eq_one_iff.1 hl.1
  obtain ⟨y, rfl⟩ := List.length_eq_one_iff.1 hl.2
  obtain ⟨q, s, h1, h2, h3⟩ := h
  have h2' : s = true := h2
  subst h2'; subst h3
  exact ⟨x, y, rfl, rfl, by simpa using h1⟩
theorem run_part_pv {t k : Nat} (hs : sizeV P t = some k) {d : TypeDesc} (hu : P.underlying t = some d) (hk : isAggD d = false → k = 1) (xs : List Value) (o : Nat) (ho : o + k ≤ xs.length) (w : World) :
    (part t xs.toArray o).run P w = .ok (pvT P t ((xs.drop o).take k)) w := by
  have hsz := size_run' hs
  unfold part
  rw [Sem.run_bind, run_isAgg_of hu rfl w]
  simp only [Result.andThen_ok]
  cases hd : isAggD d with
  | true =>
    rw [pv_agg hu hd]
    simp [hsz, Nat.add_sub_cancel_left]
  | false =>
    rw [pv_one hu hd]
    have := hk hd
    subst this
    have hlt : o < xs.length := by omega
    have e : ((xs.drop o).take 1).headD undef = xs[o] := by
      rw [List.drop_eq_getElem_cons hlt]; rfl
    rw [e]
    simp [hlt]
where
  size_run' {t k : Nat} {P : Program} (h : sizeV P t = some k) (w : World := w) : (sizeOf t).run P w = .ok k w := by
    unfold sizeV at h
    split at h
    · rename_i i hi; simp only [Option.some.injEq] at h; simp [sizeOf, typeInfo, hi, h]
    · cases h
theorem flat_one {d t : Nat} {ks : List Nat} (h : flatT P d t = some ks) : ∃ D, P.underlying t = some D ∧ (isAggD D = false → ks.length = 1) := by
  cases d with
  | zero => unfold flatT at h; cases h
  | succ d =>
    unfold flatT at h
    split at h
    · rename_i hu; simp only [Option.some.injEq] at h; subst h; exact ⟨_, hu, fun _ => rfl⟩
    · rename_i hu; simp only [Option.some.injEq] at h; subst h; exact ⟨_, hu, fun _ => rfl⟩
    · rename_i hu; simp only [Option.some.injEq] at h; subst h; exact ⟨_, hu, fun _ => rfl⟩
    · rename_i hu; exact ⟨_, hu, fun h => by cases h⟩
    · rename_i hu; exact ⟨_, hu, fun h => by cases h⟩
    · cases h
theorem rep_len (l : List Nat) : ∀ n, (flatT.rep l n).length = n * l.length
  | 0 => by simp [flatT.rep]
  | n + 1 => by simp only [flatT.rep, List.length_append, rep_len l n]; rw [Nat.succ_mul, Nat.add_comm]
theorem flat_eq : ∀ (d t : Nat) (ks : List Nat), flatT P d t = some ks → ∀ (D : Nat), d ≤ D → ∀ (xs ys : List Value) (b : Bool) (w : World), LeavesEq ks xs ys b →
    (Op.equalIn D t (pvT P t xs) (pvT P t ys)).run P w = .ok b w
  | 0, t, ks, h, D, hD, xs, ys, b, w, hl => by unfold flatT at h; cases h
  | d + 1, t, ks, h, 0, hD, xs, ys, b, w, hl => by omega
  | d + 1, t, ks, h, D + 1, hD, xs, ys, b, w, hl => by
    have ih := fun t ks h => flat_eq d t ks h D (by omega)
    unfold flatT at h
    split at h
    · rename_i k hu
      simp only [Option.some.injEq] at h
      subst h
      obtain ⟨x, y, rfl, rfl, h1⟩ := leaves1 hl
      obtain ⟨k, a, c, rfl, rfl, rfl⟩ := h1
      rw [pv_one hu rfl, pv_one hu rfl]
      simp [run_equalIn_int w D t _ _ a c hu]
    · rename_i hu
      simp only [Option.some.injEq] at h
      subst h
      obtain ⟨x, y, rfl, rfl, h1⟩ := leaves1 hl
      obtain ⟨l, m, rfl, rfl, rfl⟩ := h1
      rw [pv_one hu rfl, pv_one hu rfl]
      have := run_equalIn_string (P := P) w D t ⟨⟨l⟩⟩ ⟨⟨m⟩⟩ hu
      rw [ByteArray.toList_eq, ByteArray.toList_eq] at this
      simpa using this
    · rename_i hu
      simp only [Option.some.injEq] at h
      subst h
      obtain ⟨x, y, rfl, rfl, h1⟩ := leaves1 hl
      obtain ⟨a, c, rfl, rfl, rfl⟩ := h1
      rw [pv_one hu rfl, pv_one hu rfl]
      simp [run_equalIn_bool w D t a c hu]
    · rename_i fs hu
      split at h
      case h_1 => cases h
      rename_i hst
      have hf : P.fieldsOf t = fs := by simp [Program.fieldsOf, hu]
      rw [pv_agg hu rfl, pv_agg hu rfl, run_equalIn_struct w D t _ _ (by rw [hf]; exact hu) hst, hf]
      have key : ∀ (fl : List Field) (o : Nat) (ks : List Nat), flatT.flds P (fun t => flatT P d t) fl o = some ks → ∀ b, LeavesEq ks (xs.drop o) (ys.drop o) b →
          (Op.eqFields D xs.toArray ys.toArray fl).run P w = .ok b w := by
        intro fl
        induction fl with
        | nil =>
          intro o ks hk b hb
          simp only [flatT.flds, Option.some.injEq] at hk
          subst hk
          have : b = true := by
            cases hx : xs.drop o <;> cases hy : ys.drop o <;> rw [hx, hy] at hb <;> first | exact hb | exact hb.elim
          subst this
          simp [Op.eqFields]
        | cons f fl ihf =>
          intro o ks hk b hb
          simp only [flatT.flds] at hk
          split at hk
          case h_1 => cases hk
          rename_i hname
          split at hk
          case h_2 => cases hk
          rename_i hoff
          split at hk
          case h_2 => cases hk
          rename_i l hfl
          split at hk
          case h_2 => cases hk
          rename_i k hk1
          split at hk
          case h_2 => cases hk
          rename_i hk2
          split at hk
          case h_2 => cases hk
          rename_i m hm
          simp only [Option.some.injEq] at hk
          subst hk
          have e1 := beq_inv hk2
          have e2 := beq_inv hoff
          obtain ⟨q, s, h1, h2, rfl⟩ := leaves_split hb
          rw [List.drop_drop, List.drop_drop] at h2
          obtain ⟨Df, hDf, hone⟩ := flat_one hfl
          have hlen := leaves_len hb
          simp only [List.length_append, List.length_drop] at hlen
          have hname' : f.name ≠ "_" := by simpa using hname
          rcases Nat.eq_zero_or_pos l.length with h0 | h0
          · have hDt : isAggD Df = true := by
              cases hh : isAggD Df with
              | true => rfl
              | false => have := hone hh; omega
            have hp : ∀ zs : List Value, (part f.type zs.toArray f.offset).run P w = .ok (pvT P f.type ((zs.drop f.offset).take k)) w := fun zs => by
              have hs : (sizeOf f.type).run P w = .ok k w := by
                unfold sizeV at hk1
                split at hk1
                · rename_i i hi; simp only [Option.some.injEq] at hk1; simp [sizeOf, typeInfo, hi, hk1]
                · cases hk1
              unfold part
              rw [Sem.run_bind, run_isAgg_of hDf rfl w, pv_agg hDf hDt]
              simp [hDt, hs, Nat.add_sub_cancel_left]
            have h3 := ih f.type l hfl _ _ q w h1
            have h4 := ihf (o + l.length) m hm s h2
            rw [← e1, ← e2] at h3
            simp only [Op.eqFields, if_pos hname', Sem.run_bind, hp, h3, Result.andThen_ok]
            cases q
            · simp
            · simpa using h4
          · have h3 := ih f.type l hfl _ _ q w h1
            have h4 := ihf (o + l.length) m hm s h2
            rw [← e1] at h3
            have p1 := run_part_pv hk1 hDf (fun h => by rw [e1]; exact hone h) xs o (by omega) w
            have p2 := run_part_pv hk1 hDf (fun h => by rw [e1]; exact hone h) ys o (by omega) w
            simp only [Op.eqFields, if_pos hname', Sem.run_bind, e2, p1, p2, h3, Result.andThen_ok]
            cases q
            · simp
            · simpa using h4
      exact key fs.toList 0 ks h b (by simpa using hl)
    · rename_i n e hu
      split at h
      case h_2 => cases h
      rename_i l hfl
      split at h
      case h_2 => cases h
      rename_i k hk1
      split at h
      case h_2 => cases h
      rename_i hk2
      simp only [Option.some.injEq] at h
      subst h
      simp only [Bool.and_eq_true] at hk2
      have e1 := beq_inv hk2.1
      obtain ⟨Df, hDf, hone⟩ := flat_one hfl
      have hcells : P.cellsOf e = k ∧ ∃ i, P.info? e = some i := by
        unfold sizeV at hk1
        split at hk1
        · rename_i i hi; simp only [Option.some.injEq] at hk1; exact ⟨by simp [Program.cellsOf, hi, hk1], i, hi⟩
        · cases hk1
      obtain ⟨hc, i, hi⟩ := hcells
      rw [pv_agg hu rfl, pv_agg hu rfl, run_equalIn_array w D _ _ hu hi, hc, List.range_eq_range']
      have key : ∀ (n o : Nat), ∀ b, LeavesEq (flatT.rep l n) (xs.drop (o * k)) (ys.drop (o * k)) b →
          (Op.eqItems D e k xs.toArray ys.toArray (List.range' o n)).run P w = .ok b w := by
        intro n
        induction n with
        | zero =>
          intro o b hb
          have : b = true := by
            simp only [flatT.rep] at hb
            cases hx : xs.drop (o * k) <;> cases hy : ys.drop (o * k) <;> rw [hx, hy] at hb <;> first | exact hb | exact hb.elim
          subst this
          simp [Op.eqItems]
        | succ n ihn =>
          intro o b hb
          have hlen := leaves_len hb
          simp only [flatT.rep, List.length_append, List.length_drop] at hlen
          obtain ⟨q, s, h1, h2, rfl⟩ := leaves_split (show LeavesEq (l ++ flatT.rep l n) _ _ b from hb)
          rw [List.drop_drop, List.drop_drop, ← e1, show o * k + k = (o + 1) * k by rw [Nat.succ_mul]] at h2
          have h3 := ih e l hfl _ _ q w h1
          have h4 := ihn (o + 1) s h2
          rw [← e1] at h3
          have hkpos : k ≠ 0 := fun e => by rw [e] at hk2; simp at hk2
          have p1 := run_part_pv hk1 hDf (fun h => by rw [e1]; exact hone h) xs (o * k) (by omega) w
          have p2 := run_part_pv hk1 hDf (fun h => by rw [e1]; exact hone h) ys (o * k) (by omega) w
          simp only [List.range'_succ, Op.eqItems, Sem.run_bind, p1, p2, h3, Result.andThen_ok]
          cases q
          · simp
          · simpa using h4
      exact key n 0 b (by simpa using hl)
    · cases h

/-- The operation's value in every world, at a type. -/
def BinAt (P : Program) (op : BinOp) (t : TypeId) (x y v : Value) : Prop := ∀ (ox oy : Operand) (w : World), (do eqGuard op t ox oy x y; binOp op t x y : Sem Value).run P w = .ok v w
theorem leaf_bin {t kd : Nat} {x y : Value} {b : Bool} (ht : (kd = 0 ∧ ∃ k, P.underlying t = some (.int k)) ∨ (kd = 1 ∧ P.underlying t = some .string) ∨ (kd = 2 ∧ P.underlying t = some .bool)) (h : LeafEq kd x y b) :
    BinAt P .eql t x y (.bool b) ∧ BinAt P .neq t x y (.bool (!b)) := by
  rcases ht with ⟨rfl, k, hu⟩ | ⟨rfl, hu⟩ | ⟨rfl, hu⟩
  · obtain ⟨k, a, c, rfl, rfl, rfl⟩ := h
    exact ⟨fun ox oy w => by simp [eqGuard, binOp, Op.intCmp], fun ox oy w => by simp [eqGuard, binOp, Op.intCmp]; rfl⟩
  · obtain ⟨l, m, rfl, rfl, rfl⟩ := h
    exact ⟨fun ox oy w => by simp [eqGuard, binOp, Op.stringOp], fun ox oy w => by simp [eqGuard, binOp, Op.stringOp]⟩
  · obtain ⟨a, c, rfl, rfl, rfl⟩ := h
    have := fun w => run_equal_bool (P := P) w t a c hu
    exact ⟨fun ox oy w => by simp [eqGuard, binOp, this], fun ox oy w => by simp [eqGuard, binOp, this]⟩
theorem agg_bin {t : Nat} {ks : List Nat} {xs ys : List Value} {b : Bool} (hf : flatT P 20 t = some ks) (hg : P.eqGuardType P.depth t = false) {D : TypeDesc} (hu : P.underlying t = some D) (hd : isAggD D = true) (h : LeavesEq ks xs ys b) :
    BinAt P .eql t (.agg xs.toArray) (.agg ys.toArray) (.bool b) ∧ BinAt P .neq t (.agg xs.toArray) (.agg ys.toArray) (.bool (!b)) := by
  have h1 := fun w => flat_eq 20 t ks hf 10000 (by decide) xs ys b w h
  simp only [pv_agg hu hd] at h1
  have h2 := fun op x y w => run_eqGuard_agg (P := P) w op t x y xs.toArray ys.toArray hg
  refine ⟨fun ox oy w => ?_, fun ox oy w => ?_⟩
  · rw [Sem.run_bind, h2]; simp only [Result.andThen_ok]; rw [run_eql_struct, h1]; rfl
  · rw [Sem.run_bind, h2]; simp only [Result.andThen_ok]; rw [run_neq_struct, h1]; rfl
end
end Go.Ev
