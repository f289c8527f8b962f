/- The evaluator's third part: functions of Go's library that have no code, or code of another kind, as it takes them. No condition. -/
import Derived.Test.YtlamohamhbhkjaaGreatDoorCo
namespace Go.Ev
open Go.RowKit Go.Eng

noncomputable def nil1 (k : A) (l : St) : A := List.rec (motive := fun _ => A) k (fun _ _ _ => none) l
noncomputable def a0 (k : A) : St → A := nil1 k
noncomputable def a1 (k : V → A) : St → A := unC (fun x r => nil1 (k x) r)
noncomputable def a2 (k : V → V → A) : St → A := unC (fun x r => a1 (k x) r)
noncomputable def countN (c : Nat) (l : List Nat) : Nat := List.rec (motive := fun _ => Nat) 0 (fun x _ n => Bool.rec (motive := fun _ => Nat) n (Nat.succ n) (Nat.beq x c)) l
/-- strings: how often a byte is there. -/
noncomputable def oCount : Fx := fun _ args h k => a2 (fun x y => toS x (fun l => toI y (fun kd c => ifT (Nat.beq kd 4) (lt (countN c l) 9223372036854775808 (fI 3 (countN c l) (fun v => k v h)))))) args
noncomputable def findN (c : Nat) (l : List Nat) : Nat → (Nat → A) → A → A := List.rec (motive := fun _ => Nat → (Nat → A) → A → A) (fun _ _ no => no) (fun x _ ih i k no => ifE (Nat.beq x c) (k i) (ih (Nat.succ i) k no)) l
/-- strings: where a byte is first. -/
noncomputable def oIndex : Fx := fun _ args h k => a2 (fun x y => toS x (fun l => toI y (fun kd c => ifT (Nat.beq kd 4) (lt (lenN l) 9223372036854775808 (findN c l 0 (fun i => fI 3 i (fun v => k v h)) (k (vI 3 18446744073709551615) h)))))) args
/-- A cell of that kind, with that number. -/
noncomputable def isN (h : Hp) (a : Pth) (o kd n : Nat) (k : A) : A := ld1 h a o (cI (fun kd' n' => ifT (Nat.beq kd' kd) (ifT (Nat.beq n' n) k)))
/-- sync.Once's slow road: the lock is free, not yet done: the lock is taken, the function is called, the mark is set, the lock is let go. -/
noncomputable def oSlow : Fx := fun call args h k => a2 (fun x g => toP x (fun a o => isN h a o 6 0 (isN h a (Nat.succ o) 2 0 (stC h a (Nat.succ o) [.i 2 1] (fun h1 =>
  toF g (fun n fs cs => call n (catN (capV fs) (capV cs)) h1 (fun _ h2 => isN h2 a o 6 0 (isN h2 a (Nat.succ o) 2 1 (stC h2 a o [.i 6 1] (fun h3 => stC h3 a (Nat.succ o) [.i 2 0] (k (.t []))))))))))) ) args
/-- sync/atomic.AddInt64. -/
noncomputable def oAdd : Fx := fun _ args h k => a2 (fun x y => toP x (fun a o => ld1 h a o (cI (fun kd n => ifT (Nat.beq kd 3) (toI y (fun ke d => ifT (Nat.beq ke 3) (fN (Nat.mod (Nat.add n d) 18446744073709551616) (fun r => stC h a o [.i 3 r] (k (vI 3 r))))))))) ) args
/-- sync/atomic.LoadInt64, LoadUint32: by the kind. -/
noncomputable def oLoad (kd : Nat) : Fx := fun _ args h k => a1 (fun x => toP x (fun a o => ld1 h a o (cI (fun kd' n => ifT (Nat.beq kd' kd) (k (vI kd n) h))))) args
noncomputable def oLd64 : Fx := oLoad 3
noncomputable def oLd32 : Fx := oLoad 6
/-- sync/atomic.StoreUint32. -/
noncomputable def oStore : Fx := fun _ args h k => a2 (fun x y => toP x (fun a o => toI y (fun kd n => ld1 h a o (fun _ => stC h a o [.i kd n] (k (.t [])))))) args
noncomputable def joinN (sep : List Nat) (l : List C) : (List Nat → A) → A := List.rec (motive := fun _ => (List Nat → A) → A) (fun k => k [])
  (fun c r ih k => cD (dS (fun s => List.rec (motive := fun _ => A) (k s) (fun _ _ _ => ih (fun t => k (catN s (catN sep t)))) r)) c) l
/-- strings.Join. -/
noncomputable def oJoin : Fx := fun _ args h k => a2 (fun x y => toS y (fun sep => vRead h 1 x (fun l => joinN sep l (fun s => k (vS s) h)))) args
end Go.Ev
