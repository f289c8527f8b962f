/- sync.Once's slow road, as the evaluator takes it: the lock is free, not yet done. (once.py writes the numbers in.) No condition. -/
import Derived.Test.YtlamohamhbhkjaaGreatDoorSn
import Derived.Test.YtlamohamhbhkjaaGreatDoorChecked
import Derived.Tactics
import Derived.Tactics2
import Derived.Defers
import Derived.Laws.Pointers
import Derived.RegionTactic
import Derived.RegionCalls
import Derived.ChangeAlike
namespace Go.Ev
open Go.RowKit Go.Eng

theorem once_disable (w : World) : (callFunc 288 #[]).run Proofs.Tryz.prog w = .ok (.value (.tuple #[])) w := run_call_mark0 Proofs.Tryz.func288 (by kernel_rfl) (by kernel_rfl) (by kernel_rfl) .disable (by kernel_rfl) w
theorem once_enable (w : World) : (callFunc 290 #[]).run Proofs.Tryz.prog w = .ok (.value (.tuple #[])) w := run_call_mark0 Proofs.Tryz.func290 (by kernel_rfl) (by kernel_rfl) (by kernel_rfl) .enable (by kernel_rfl) w
theorem once_acquire (a : Addr) (w : World) : (callFunc 291 #[.pointer (some a)]).run Proofs.Tryz.prog w = .ok (.value (.tuple #[])) w := run_call_marked Proofs.Tryz.func291 (by kernel_rfl) (by kernel_rfl) (by kernel_rfl) .acquire (by kernel_rfl) a w
theorem once_releaseMerge (a : Addr) (w : World) : (callFunc 293 #[.pointer (some a)]).run Proofs.Tryz.prog w = .ok (.value (.tuple #[])) w := run_call_marked Proofs.Tryz.func293 (by kernel_rfl) (by kernel_rfl) (by kernel_rfl) .releaseMerge (by kernel_rfl) a w
theorem once_store (a : Addr) (x : Value) (u : FrameMode) (w : World) (hc : w.cell? a = some x) (hz : w.frozen? a = false) :
    CallsD Proofs.Tryz.prog 274 #[.pointer (some a), .bool true] u w fun e u' w' => u' = u ∧ (e = .returned (.tuple #[]) ∧ w' = w.drew.setCell a (.int .u32 1)) := by
  have hc' : w.drew.cell? a = some x := by go_simp
  have hz' : w.drew.frozen? a = false := by go_simp
  have hst := run_call_store (P := Proofs.Tryz.prog) Proofs.Tryz.func282 (by kernel_rfl) (by kernel_rfl) (by kernel_rfl) (by kernel_rfl) (k := .u32) (y := 1) hc' hz'
  go_enter_d Proofs.Tryz.func274, Proofs.Tryz.ntmps274
  go_wp2
  go_region_calls
  all_goals (go_end0; exact ⟨rfl, rfl⟩)
set_option maxRecDepth 100000 in
theorem once_unlock (a : Addr) (u : FrameMode) (w : World) (hc : w.cell? a = some (.int .i32 1)) (hz : w.frozen? a = false) :
    CallsD Proofs.Tryz.prog 281 #[.pointer (some a)] u w fun e u' w' => u' = u ∧ (e = .returned (.tuple #[]) ∧ w' = w.setCell a (.int .i32 0)) := by
  have hd := once_disable
  have he := once_enable
  have hr := once_releaseMerge
  have hadd := run_call_add (P := Proofs.Tryz.prog) Proofs.Tryz.func294 (by kernel_rfl) (by kernel_rfl) (by kernel_rfl) .i32 (by kernel_rfl) (y := -1) (s := 0) hc hz (by simp [go_sem]; rfl)
  have hcv := run_convert_to_unsafe (P := Proofs.Tryz.prog) (src := 371) (dst := 368) Proofs.Tryz.underlying371 Proofs.Tryz.underlying368 (by kernel_rfl) hc
  go_enter_d Proofs.Tryz.func281, Proofs.Tryz.ntmps281
  go_wp2
  go_end0
  go_wp2
  go_end0
  exact ⟨rfl, rfl⟩
set_option maxRecDepth 100000 in
theorem once_lock (a : Addr) (w : World) (hc : w.cell? a = some (.int .i32 0)) (hz : w.frozen? a = false) :
    Calls Proofs.Tryz.prog 280 #[.pointer (some a)] w fun e w' => e = .returned (.tuple #[]) ∧ w' = w.setCell a (.int .i32 1) := by
  have hd := once_disable
  have he := once_enable
  have ha := once_acquire
  have hcas := run_call_cas_hit (P := Proofs.Tryz.prog) Proofs.Tryz.func289 (by kernel_rfl) (by kernel_rfl) (by kernel_rfl) .i32 (by kernel_rfl) (y := 1) hc hz
  have hc' : (w.setCell a (.int .i32 1)).cell? a = some (.int .i32 1) := World.cell?_setCell_same w a _ hc
  have hcv := run_convert_to_unsafe (P := Proofs.Tryz.prog) (src := 371) (dst := 368) Proofs.Tryz.underlying371 Proofs.Tryz.underlying368 (by kernel_rfl) hc'
  go_enter Proofs.Tryz.func280, Proofs.Tryz.ntmps280
  go_wp2
  first | go_end0 | (simp only [Exit.inBlock, Exit.then]; refine bodyPost_ret (results_none rfl _ _ _) rfl ?_) | refine bodyPost_ret (results_none rfl _ _ _) rfl ?_
  go_wp2
  go_end0
  exact ⟨rfl, rfl⟩
section
variable {r : V × Hp} {ρ : Rho} {h : Hp} {w : World}
theorem isN_inv (H : HR ρ h w) {a : Pth} {q : Pl} (hq : ρ a = some q) {o n : Nat} {kd : IntKind} {k : A} (hk : isN h a o (kc kd) n k = some r) : k = some r ∧ n < km kd ∧ w.cell? ⟨q.b, q.s + o, none⟩ = some (.int kd (sgn kd n)) := by
  obtain ⟨c, v, h1, h2, h3⟩ := ld1_inv H hq hk
  obtain ⟨kd', m, rfl, h4⟩ := cI_inv h1
  obtain ⟨h5, h6⟩ := ifT_inv h4
  obtain ⟨h7, h8⟩ := ifT_inv h6
  have e1 := beq_inv h5
  have e2 := beq_inv h7
  subst e1
  subst e2
  obtain ⟨kd', h9, h10, rfl⟩ := h2
  have e := kc_inj h9
  subst e
  exact ⟨h8, h10, h3⟩
end
set_option maxRecDepth 100000 in
set_option maxHeartbeats 1600000 in
theorem once_run (b off n : Nat) (xs ys : Array Value) (w : World) (R : World → Prop) (h0 : w.cell? ⟨b, off, none⟩ = some (.int .u32 0)) (h1 : w.cell? ⟨b, off + 1, none⟩ = some (.int .i32 0)) (f1 : w.frozen? ⟨b, off + 1, none⟩ = false)
    (hf : ∀ (o : Oper) (a : Act) (K : Act → World → Prop) (Q : Exit → Act → World → Prop), (∀ vv w', R w' → K (a.put o.dst vv) w') → o.upon Proofs.Tryz.prog a K Q ((callFunc n (xs ++ ys)).run Proofs.Tryz.prog (w.setCell ⟨b, off + 1, none⟩ (.int .i32 1))))
    (hR : ∀ w', R w' → w'.cell? ⟨b, off, none⟩ = some (.int .u32 0) ∧ w'.cell? ⟨b, off + 1, none⟩ = some (.int .i32 1) ∧ w'.frozen? ⟨b, off, none⟩ = false ∧ w'.frozen? ⟨b, off + 1, none⟩ = false) :
    Calls Proofs.Tryz.prog 273 #[.pointer (some ⟨b, off, none⟩), .func (.func n) xs ys] w fun e w' => e = .returned (.tuple #[]) ∧ ∃ w2, R w2 ∧ w' = (w2.drew.setCell ⟨b, off, none⟩ (.int .u32 1)).setCell ⟨b, off + 1, none⟩ (.int .i32 0) := by
  have hnot : ∀ (x : Bool) (w : World), (Op.unary .not (.bool x)).run Proofs.Tryz.prog w = .ok (.bool (!x)) w := fun _ _ => rfl
  have c0' : (w.setCell ⟨b, off + 1, none⟩ (.int .i32 1)).cell? ⟨b, off, none⟩ = some (.int .u32 0) := (World.cell?_setCell_other _ _ _ _ (by simp)).trans h0
  have hl := run_call_load (P := Proofs.Tryz.prog) Proofs.Tryz.func279 (by kernel_rfl) (by kernel_rfl) (by kernel_rfl) .u32 (by kernel_rfl) (w := w.setCell ⟨b, off + 1, none⟩ (.int .i32 1)) (a := ⟨b, off, none⟩) (x := 0) c0'
  have hlock := once_lock ⟨b, off + 1, none⟩ w h1 f1
  go_enter_defers Proofs.Tryz.func273, Proofs.Tryz.ntmps273
  go_wp2_with (go_at_call 280; refine hlock.mono ?_; rintro e w' ⟨rfl, rfl⟩)
  go_wp2
  refine hf _ _ _ _ (fun vv w' hw => ?_)
  obtain ⟨d0, d1, z0, z1⟩ := hR w' hw
  go_wp2
  -- the two deferred calls, the last laid first
  refine leaves_cons (f := 274) (args := #[.pointer (some ⟨b, off, none⟩), .bool true]) (by simp) (by simp [go_sem]) ?_
  refine (once_store ⟨b, off, none⟩ (.int .u32 0) .returning _ d0 z0).mono ?_
  rintro e u' w'' ⟨rfl, rfl, rfl⟩
  refine leaves_cons (f := 281) (args := #[.pointer (some ⟨b, off + 1, none⟩)]) (by simp [settle]) (by simp [go_sem]) ?_
  refine (once_unlock ⟨b, off + 1, none⟩ _ _ ?_ (by simp [z1])).mono ?_
  · refine (World.cell?_setCell_other _ ⟨b, off, none⟩ ⟨b, off + 1, none⟩ _ (by simp)).trans ?_
    rw [World.cell?_drew]
    exact d1
  rintro e u' w'' ⟨rfl, rfl, rfl⟩
  simp [Leaves, settle, results, Proofs.Tryz.results273]
  exact ⟨w', hw, by first | rfl | simp⟩
set_option maxRecDepth 100000 in
set_option maxHeartbeats 1600000 in
theorem once_slow : Sound Proofs.Tryz.prog 273 oSlow := by
  intro c hC args vs h w ρ k r hk hargs H o a K Q hK
  obtain ⟨x, y, rfl, h1⟩ := a2_inv hk
  obtain ⟨v, u, rfl, hv, hu⟩ := VRs.two hargs
  obtain ⟨b, p, rfl, h2⟩ := toP_inv h1
  obtain ⟨q, hq, rfl⟩ := hv
  obtain ⟨h3, _, c0⟩ := isN_inv (kd := .u32) H hq h2
  obtain ⟨h4, _, c1⟩ := isN_inv (kd := .i32) H hq h3
  have r1 : ∀ ρ', CR ρ' (.i 2 1) (.int .i32 1) := fun _ => ⟨.i32, rfl, by decide, rfl⟩
  have r0 : ∀ ρ', CR ρ' (.i 2 0) (.int .i32 0) := fun _ => ⟨.i32, rfl, by decide, rfl⟩
  have rd : ∀ ρ', CR ρ' (.i 6 1) (.int .u32 1) := fun _ => ⟨.u32, rfl, by decide, rfl⟩
  obtain ⟨g1, w1, h5, H1, F1, s1⟩ := stC_inv H hq (vs := [.i 2 1]) (vals := [.int .i32 1]) ⟨r1 _, trivial⟩ h4
  obtain ⟨z1, e1⟩ := st_cell c1 rfl (s1 Proofs.Tryz.prog)
  obtain ⟨n, fs, cs, e2, h6⟩ := toF_inv h5
  subst e2
  obtain ⟨xs, ys, p1, p2, rfl⟩ := hu
  rw [catN_eq] at h6
  have hf := hC n _ _ g1 w1 ρ _ r h6 (VRs.cat (capV_of p1) (capV_of p2)) H1
  rw [run_callFunc_enter (by kernel_rfl), Oper.upon_enter]
  -- what is so behind the call of the function
  have key : ∀ w2, (∃ vv, Fin ρ g1 w1 (fun _ h2 => isN h2 b p 6 0 (isN h2 b (Nat.succ p) 2 1 (stC h2 b p [.i 6 1] (fun h3 => stC h3 b (Nat.succ p) [.i 2 0] (k (.t [])))))) r vv w2) →
      (w2.cell? ⟨q.b, q.s + p, none⟩ = some (.int .u32 0) ∧ w2.cell? ⟨q.b, q.s + p + 1, none⟩ = some (.int .i32 1) ∧ w2.frozen? ⟨q.b, q.s + p, none⟩ = false ∧ w2.frozen? ⟨q.b, q.s + p + 1, none⟩ = false) ∧
      Fin ρ h w k r (.tuple #[]) ((w2.drew.setCell ⟨q.b, q.s + p, none⟩ (.int .u32 1)).setCell ⟨q.b, q.s + p + 1, none⟩ (.int .i32 0)) := by
    rintro w2 ⟨vv, ρ2, v2, g2, k2, _, H2, F2⟩
    have hq2 : ρ2 b = some q := F2.ext b q hq
    have HD := H2.old (old_drew w2)
    obtain ⟨k3, _, d0⟩ := isN_inv (kd := .u32) H2 hq2 k2
    obtain ⟨k4, _, d1⟩ := isN_inv (kd := .i32) H2 hq2 k3
    have d0' : w2.drew.cell? ⟨q.b, q.s + p, none⟩ = some (.int .u32 0) := (World.cell?_drew ..).trans d0
    have d1' : w2.drew.cell? ⟨q.b, q.s + p + 1, none⟩ = some (.int .i32 1) := (World.cell?_drew ..).trans d1
    obtain ⟨g3, w3, k5, H3, F3, s3⟩ := stC_inv HD hq2 (vs := [.i 6 1]) (vals := [.int .u32 1]) ⟨rd _, trivial⟩ k4
    obtain ⟨z3, e3⟩ := st_cell d0' rfl (s3 Proofs.Tryz.prog)
    have d2 : w3.cell? ⟨q.b, q.s + p + 1, none⟩ = some (.int .i32 1) := by rw [e3]; exact (World.cell?_setCell_other _ _ _ _ (by simp)).trans d1'
    obtain ⟨g4, w4, k6, H4, F4, s4⟩ := stC_inv H3 hq2 (vs := [.i 2 0]) (vals := [.int .i32 0]) ⟨r0 _, trivial⟩ k5
    obtain ⟨z4, e4⟩ := st_cell (ad := ⟨q.b, q.s + p + 1, none⟩) d2 rfl (s4 Proofs.Tryz.prog)
    have z3' : w2.frozen? ⟨q.b, q.s + p, none⟩ = false := by simpa using z3
    have z4' : w2.frozen? ⟨q.b, q.s + p + 1, none⟩ = false := by rw [e3] at z4; simpa using z4
    refine ⟨⟨d0, d1, z3', z4'⟩, ?_⟩
    rw [← e3, ← e4]
    exact ⟨ρ2, _, g4, k6, ⟨[], trivial, rfl⟩, H4, ((F1.trans F2).trans (frOld H2 (old_drew w2))).trans (F3.trans F4)⟩
  refine Calls.mono (once_run q.b (q.s + p) n xs.toArray ys.toArray w (fun w2 => ∃ vv, Fin ρ g1 w1 (fun _ h2 => isN h2 b p 6 0 (isN h2 b (Nat.succ p) 2 1 (stC h2 b p [.i 6 1] (fun h3 => stC h3 b (Nat.succ p) [.i 2 0] (k (.t [])))))) r vv w2) c0 c1 z1 ?_ (fun w' h' => (key w' h').1)) ?_
  · intro o a K Q hK
    have e2 : w.setCell ⟨q.b, q.s + p + 1, none⟩ (.int .i32 1) = w1 := e1.symm
    rw [e2]
    have := hf o a K Q (fun vv w' h' => hK vv w' ⟨vv, h'⟩)
    simpa using this
  · rintro e w' ⟨rfl, w2, h7, rfl⟩
    exact hK _ _ (key w2 h7).2
end Go.Ev
