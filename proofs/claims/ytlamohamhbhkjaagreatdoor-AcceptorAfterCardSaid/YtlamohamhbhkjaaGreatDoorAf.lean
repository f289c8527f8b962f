/- AcceptorAfter: called with any way it answers 'true', and what was there is as it was. No condition. -/
import Derived.Test.YtlamohamhbhkjaaGreatDoorEaT
import Derived.Test.YtlamohamhbhkjaaGreatDoorEaK
import Derived.Test.YtlamohamhbhkjaaGreatDoorEaV0
import Derived.Test.YtlamohamhbhkjaaGreatDoorEaV1
import Derived.Test.YtlamohamhbhkjaaGreatDoorEaV2
namespace Go.Ev
open Go.RowKit Go.Eng
set_option maxRecDepth 100000
theorem known_calls (w : World) : Calls Proofs.Tryz.prog 7 #[] w (Ret fun vv w' => vv = .bool true ∧ Old w w') :=
  call_true (P := Proofs.Tryz.prog) sFF (by kernel_rfl) (args := []) (vs := []) trivial ev_known w
theorem sFK : ∀ n x, FK n = some x → Sound Proofs.Tryz.prog n x := fun n x h => by
  have h1 : (Bool.rec (motive := fun _ => Option Fx) (FF n) (some oTrue) (Nat.beq n 7)) = some x := h
  cases hb : Nat.beq n 7 with
  | false => rw [hb] at h1; exact sFF n x h1
  | true =>
    rw [hb] at h1
    simp only [Option.some.injEq] at h1
    subst h1
    rw [beq_inv hb]
    exact true_ok (by kernel_rfl) known_calls
theorem way_of (k : Nat) (hk : k < 3) : VRs (fun _ => none) [.c (.i 3 k)] [.int .i64 (k : Int)] :=
  ⟨⟨.i64, rfl, Nat.lt_of_lt_of_le hk (by decide), by rw [sgn_pos .i64 (Nat.lt_of_lt_of_le hk (by decide))]⟩, trivial⟩
theorem after_in (k : Nat) (hk : k < 3) (w : World) : Calls Proofs.Tryz.prog 3 #[.int .i64 (k : Int)] w (Ret fun vv w' => vv = .bool true ∧ Old w w') := by
  have h : isT (eval FK 3 [.c (.i 3 k)] ⟨[], .z⟩) = true := by
    rcases (by omega : k = 0 ∨ k = 1 ∨ k = 2) with rfl | rfl | rfl
    · exact ev_after0
    · exact ev_after1
    · exact ev_after2
  exact call_true (P := Proofs.Tryz.prog) sFK (by kernel_rfl) (way_of k hk) h w
theorem known_returns (w : World) : Calls Proofs.Tryz.prog 7 #[] w fun e w' => e = .returned (.bool true) ∧ Old w w' :=
  Calls.mono (known_calls w) fun e w' h => by
    obtain ⟨v, rfl, rfl, hO⟩ := h
    exact ⟨rfl, hO⟩
theorem after_out (n : Int) (hn : n < 0 ∨ 2 < n) (w : World) : Calls Proofs.Tryz.prog 3 #[.int .i64 n] w (Ret fun vv w' => vv = .bool true ∧ Old w w') := by
  go_enter Proofs.Tryz.func3, Proofs.Tryz.ntmps3
  go_wp2_with (go_at_call 7; refine (known_returns _).mono ?_; rintro e w' ⟨rfl, hO⟩)
  all_goals (go_ret; exact ⟨_, rfl, rfl, hO⟩)
theorem after_all (n : Int) (w : World) : Calls Proofs.Tryz.prog 3 #[.int .i64 n] w (Ret fun vv w' => vv = .bool true ∧ Old w w') := by
  by_cases hn : n < 0 ∨ 2 < n
  · exact after_out n hn w
  · obtain ⟨k, rfl⟩ : ∃ k : Nat, n = k := ⟨n.toNat, by omega⟩
    exact after_in k (by omega) w
end Go.Ev
