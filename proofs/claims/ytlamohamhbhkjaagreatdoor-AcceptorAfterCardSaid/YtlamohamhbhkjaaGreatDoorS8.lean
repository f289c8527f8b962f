/- The evaluator is right, eighth part: the rest of what looks at no memory. No condition. -/
import Derived.Test.YtlamohamhbhkjaaGreatDoorS7
import Derived.Test.YtlamohamhbhkjaaGreatDoorSq
namespace Go.Ev
open Go.RowKit Go.Eng

section
variable {P : Program} {fm : List (Nat × Nat)} {nt : Nat} {ρ : Rho} {f : St} {L : Lm} {s : St} {a : Act} {r : V × Hp} {c : Call} {h : Hp} {k : Cn}
theorem und_eq {t : Nat} {D D' : TypeDesc} (h : P.underlying t = some D) (h' : P.underlying t = some D') : D = D' := by rw [h] at h'; simpa using h'
theorem S_len (l : List Nat) : (⟨⟨l.map UInt8.ofNat⟩⟩ : ByteArray).size = l.length := by
  show (l.map UInt8.ofNat).length = _
  simp
theorem bytes_app (l m : Str) : ByteArray.mk ⟨l⟩ ++ ByteArray.mk ⟨m⟩ = ⟨⟨l ++ m⟩⟩ := by
  have : (ByteArray.mk ⟨l⟩ ++ ByteArray.mk ⟨m⟩).data.toList = l ++ m := by simp
  cases h : (ByteArray.mk ⟨l⟩ ++ ByteArray.mk ⟨m⟩) with
  | mk d => cases d with | mk q => rw [h] at this; simpa using this
theorem run_equalIn_ptr_nil (d : Nat) {t e : Nat} (hu : P.underlying t = some (.pointer e)) (ad : Option Addr) (w : World) : (Op.equalIn (d + 1) t (.pointer ad) (.pointer none)).run P w = .ok ad.isNone w := by
  cases ad <;> simp [Op.equalIn, run_underlying hu]
theorem run_equal_ptr_nil {t e : Nat} (hu : P.underlying t = some (.pointer e)) (ad : Option Addr) (w : World) : (Op.equal t (.pointer ad) (.pointer none)).run P w = .ok ad.isNone w := run_equalIn_ptr_nil 9999 hu ad w
set_option maxHeartbeats 1000000 in
theorem bin_at {op : BinOp} {t : Nat} {y : Operand} {b : Bo} (hb : binV P op t y = some b) {p q : V} {xv yv : Value} {kk : V → A} (hx : VR ρ p xv) (hy : VR ρ q yv) (hc : isNilP y = true → yv = .pointer none) (hc' : isNilS y = true → yv = .slice none 0 0) (h : b.den p q kk = some r) :
    ∃ v vv, kk v = some r ∧ VR ρ v vv ∧ BinAt P op t xv yv vv := by
  have eqs : ∀ (op : BinOp) (neg : Bool) (A' : Nat → Bo) (N' : Nat → Bo) (G' : List Nat → Bo), (op = if neg then .neq else .eql) →
      (∀ kd, (A' kd).den p q kk = some r → ∃ cx cy, p = .c cx ∧ q = .c cy ∧ eqC kd cx cy (fun e => kk (vB (e ^^ neg))) = some r) →
      (∀ kd, (N' kd).den p q kk = some r → ∃ cx, p = .c cx ∧ nilC kd cx (fun e => kk (vB (e ^^ neg))) = some r) →
      (∀ ks, (G' ks).den p q kk = some r → ∃ cx cy, p = .g cx ∧ q = .g cy ∧ eqCs ks cx cy (fun e => kk (vB (e ^^ neg))) = some r) →
      eqV P t y A' N' G' = some b → ∃ v vv, kk v = some r ∧ VR ρ v vv ∧ BinAt P op t xv yv vv := by
    intro op neg A' N' G' hop hA hN hG he
    have pick : ∀ {e : Bool}, BinAt P .eql t xv yv (.bool e) ∧ BinAt P .neq t xv yv (.bool (!e)) → BinAt P op t xv yv (.bool (e ^^ neg)) := fun {e} ⟨h1, h2⟩ => by
      subst hop
      cases neg
      · simpa using h1
      · simpa using h2
    have leaf : ∀ kd, ((kd = 0 ∧ ∃ k, P.underlying t = some (.int k)) ∨ (kd = 1 ∧ P.underlying t = some .string) ∨ (kd = 2 ∧ P.underlying t = some .bool)) → (A' kd).den p q kk = some r → ∃ v vv, kk v = some r ∧ VR ρ v vv ∧ BinAt P op t xv yv vv := fun kd ht hh => by
      obtain ⟨cx, cy, rfl, rfl, h1⟩ := hA kd hh
      obtain ⟨e, h2, h3⟩ := eqC_inv hx hy h1
      exact ⟨_, _, h2, vB_of _, pick (leaf_bin ht h3)⟩
    have agg : ∀ D, P.underlying t = some D → isAggD D = true → (match P.eqGuardType P.depth t with | true => none | false => match flatT P 20 t with | some ks => some (G' ks) | none => none) = some b → ∃ v vv, kk v = some r ∧ VR ρ v vv ∧ BinAt P op t xv yv vv := fun D hu hd he => by
      split at he
      case h_1 => cases he
      rename_i hg
      split at he
      case h_2 => cases he
      rename_i ks hf
      simp only [Option.some.injEq] at he
      subst he
      obtain ⟨cx, cy, rfl, rfl, h1⟩ := hG ks h
      obtain ⟨xs, hxs, rfl⟩ := hx
      obtain ⟨ys, hys, rfl⟩ := hy
      obtain ⟨e, h2, h3⟩ := eqCs_inv hxs hys h1
      exact ⟨_, _, h2, vB_of _, pick (agg_bin hf hg hu hd h3)⟩
    unfold eqV at he
    split at he
    · rename_i kd hu; simp only [Option.some.injEq] at he; subst he; exact leaf 0 (.inl ⟨rfl, _, hu⟩) h
    · rename_i hu; simp only [Option.some.injEq] at he; subst he; exact leaf 1 (.inr (.inl ⟨rfl, hu⟩)) h
    · rename_i hu; simp only [Option.some.injEq] at he; subst he; exact leaf 2 (.inr (.inr ⟨rfl, hu⟩)) h
    · rename_i e hu
      split at he
      case h_2 => cases he
      rename_i hn
      simp only [Option.some.injEq] at he
      subst he
      obtain ⟨cx, rfl, h1⟩ := hN 0 h
      obtain ⟨e, h2, h3⟩ := nilC_inv hx h1
      have hyv := hc hn
      subst hyv
      rcases h3 with ⟨_, ad, rfl, rfl⟩ | ⟨h0, _⟩
      · refine ⟨_, _, h2, vB_of _, pick ?_⟩
        have := fun w => run_equal_ptr_nil (P := P) hu ad w
        exact ⟨fun ox oy w => by simp [eqGuard, binOp, this], fun ox oy w => by simp [eqGuard, binOp, this]⟩
      · exact absurd h0 (by decide)
    · rename_i e hu
      split at he
      case h_2 => cases he
      rename_i hn
      simp only [Option.some.injEq] at he
      subst he
      obtain ⟨cx, rfl, h1⟩ := hN 1 h
      obtain ⟨e, h2, h3⟩ := nilC_inv hx h1
      have hyv := hc' hn
      subst hyv
      rcases h3 with ⟨h0, _⟩ | ⟨_, ad, n, cp, rfl, rfl⟩
      · exact absurd h0 (by decide)
      · refine ⟨_, _, h2, vB_of _, pick ?_⟩
        have := fun w => run_equal_slice_nil (P := P) w t _ ad n cp hu
        exact ⟨fun ox oy w => by simp [eqGuard, binOp, this], fun ox oy w => by simp [eqGuard, binOp, this]⟩
    · rename_i fs hu; exact agg _ hu rfl he
    · rename_i n e hu; exact agg _ hu rfl he
    · cases he
  unfold binV at hb
  split at hb
  · refine eqs .eql false .eq .eqN .gEq rfl (fun kd hh => ?_) (fun kd hh => ?_) (fun ks hh => ?_) hb
    · obtain ⟨cx, rfl, h1⟩ := toC_inv (show toC p (fun a => toC q (fun b => eqC kd a b (fun r => fB r kk))) = some r from hh)
      obtain ⟨cy, rfl, h2⟩ := toC_inv h1
      exact ⟨cx, cy, rfl, rfl, by simpa [fB_eq] using h2⟩
    · obtain ⟨cx, rfl, h1⟩ := toC_inv (show toC p (fun a => nilC kd a (fun r => fB r kk)) = some r from hh)
      exact ⟨cx, rfl, by simpa [fB_eq] using h1⟩
    · obtain ⟨cx, rfl, h1⟩ := toG_inv (show toG p (fun l => toG q (fun m => eqCs ks l m (fun r => fB r kk))) = some r from hh)
      obtain ⟨cy, rfl, h2⟩ := toG_inv h1
      exact ⟨cx, cy, rfl, rfl, by simpa [fB_eq] using h2⟩
  · refine eqs .neq true .ne .neN .gNe rfl (fun kd hh => ?_) (fun kd hh => ?_) (fun ks hh => ?_) hb
    · obtain ⟨cx, rfl, h1⟩ := toC_inv (show toC p (fun a => toC q (fun b => eqC kd a b (fun r => fB (notB r) kk))) = some r from hh)
      obtain ⟨cy, rfl, h2⟩ := toC_inv h1
      exact ⟨cx, cy, rfl, rfl, by simpa [fB_eq, notB_eq] using h2⟩
    · obtain ⟨cx, rfl, h1⟩ := toC_inv (show toC p (fun a => nilC kd a (fun r => fB (notB r) kk)) = some r from hh)
      exact ⟨cx, rfl, by simpa [fB_eq, notB_eq] using h1⟩
    · obtain ⟨cx, rfl, h1⟩ := toG_inv (show toG p (fun l => toG q (fun m => eqCs ks l m (fun r => fB (notB r) kk))) = some r from hh)
      obtain ⟨cy, rfl, h2⟩ := toG_inv h1
      exact ⟨cx, cy, rfl, rfl, by simpa [fB_eq, notB_eq] using h2⟩
  · split at hb
    · rename_i kd hu
      obtain ⟨v, vv, h1, h2, h3⟩ := int_bin (P := P) hb hx hy h
      exact ⟨v, vv, h1, h2, fun ox oy w => h3 t ox oy w⟩
    · rename_i hu
      split at hb
      case h_2 => cases hb
      simp only [Option.some.injEq] at hb
      subst hb
      obtain ⟨l, rfl, h1⟩ := toS_inv (show toS p (fun l => toS q (fun m => lt (Nat.add (lenN l) (lenN m)) 9223372036854775808 (kk (vS (catN l m))))) = some r from h)
      obtain ⟨m, rfl, h2⟩ := toS_inv h1
      obtain ⟨h3, h4⟩ := lt_inv h2
      have e1 := hx.1
      have e2 := hy.1
      subst e1; subst e2
      rw [catN_eq] at h4
      refine ⟨_, S ((l ++ m).map UInt8.ofNat), h4, ⟨rfl, fun x hx' => ?_⟩, fun ox oy w => ?_⟩
      · rcases List.mem_append.1 hx' with h | h
        · exact hx.2 x h
        · exact hy.2 x h
      · rw [lenN_eq, lenN_eq] at h3
        have h3' : l.length + m.length < 9223372036854775808 := h3
        have hs : ¬ ((((⟨⟨l.map UInt8.ofNat⟩⟩ : ByteArray).size + (⟨⟨m.map UInt8.ofNat⟩⟩ : ByteArray).size : Nat) : Int) > IntKind.i64.max) := by
          rw [S_len, S_len]
          have : IntKind.i64.max = 9223372036854775807 := rfl
          rw [this]; omega
        show _ = Result.ok (Value.string ⟨⟨(l ++ m).map UInt8.ofNat⟩⟩) w
        rw [List.map_append, ← bytes_app]
        simp only [S, eqGuard, binOp, Op.stringOp, hs, if_false]
        rfl
    · cases hb
theorem p_bin (A' : AR fm nt ρ f L s a) {op : BinOp} {t : Nat} {x y : Operand} {yt : TypeId} {b : Bo} {p q : O} (hb : binV P op t y = some b) (hx : ofO fm L s.length x = some p) (hy : ofO fm L s.length y = some q) (hk : xBin b.den p q c f s h k = some r) :
    ∃ v vv, k v h = some r ∧ VR ρ v vv ∧ PureAt P (.binOp op t x y yt) a vv := by
  obtain ⟨v, vv, h1, h2, h3⟩ := bin_at (P := P) hb (A'.opd hx) (A'.opd hy) (fun hn => by
    unfold isNilP at hn; split at hn <;> first | rfl | cases hn) (fun hn => by
    unfold isNilS at hn; split at hn <;> first | rfl | cases hn) (show b.den (oV p f s) (oV q f s) (fun v => k v h) = some r from hk)
  exact ⟨v, vv, h1, h2, fun o ho w => by simp only [execOp, ho]; rw [Sem.run_bind, h3 x y w]; rfl⟩
end
end Go.Ev
