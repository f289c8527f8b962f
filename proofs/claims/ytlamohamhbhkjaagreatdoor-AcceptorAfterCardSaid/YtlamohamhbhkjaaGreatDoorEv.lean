/- An evaluator for closed calls, made for the kernel: small functions, each hands its answer on. It holds for every program; it has no condition. -/
import Derived.Test.YtlamohamhbhkjaaGreatDoorOwn
import Derived.Test.YtlamohamhbhkjaaGreatDoorDraw
namespace Go.Ev
open Go.RowKit Go.Eng

abbrev Pth := List Bool
/-- Cells but numbers and pointers. 'sh': a slice whose room is not known, with the cells of an element; 'se': an empty slice, not nil, of which no more is known; 'f': a function with what it holds. -/
inductive D where
  | b (x : Bool)
  | s (l : List Nat)
  | np
  | ns
  | sl (a : Pth) (o n c : Nat)
  | sh (a : Pth) (o n k : Nat)
  | se
  | f (n : Nat) (fs cs : List (Pth × Nat))
  | raw (v : Value)
/-- A cell: a number, as the residue of its kind; a pointer: a block by its way in a tree, a cell's place. -/
inductive C where
  | i (k n : Nat)
  | p (a : Pth) (o : Nat)
  | o (x : D)
inductive E where
  | c (x : C)
  | g (l : List C)
/-- Values: a cell; a struct or an array; a tuple; not known. -/
inductive V where
  | c (x : C)
  | g (l : List C)
  | t (l : List E)
  | u
/-- Blocks: none; cells: their type, whether there are no more, the cells; a text that is ranged over. -/
inductive Blk where
  | no
  | c (ty : Nat) (ex : Bool) (cs : List C)
  | it (l : List Nat) (pos : Nat)
inductive Tr where
  | z
  | n (l : Tr) (v : Blk) (r : Tr)
structure Hp where
  n : Pth
  m : Tr
/-- The last answer. -/
abbrev A := Option (V × Hp)
abbrev Cn := V → Hp → A

/-! ### The heap -/
noncomputable def gZ : Tr → Blk := fun t => Tr.rec (motive := fun _ => Blk) .no (fun _ v _ _ _ => v) t
noncomputable def g0 (ih : Tr → Blk) : Tr → Blk := fun t => Tr.rec (motive := fun _ => Blk) .no (fun l _ _ _ _ => ih l) t
noncomputable def g1 (ih : Tr → Blk) : Tr → Blk := fun t => Tr.rec (motive := fun _ => Blk) .no (fun _ _ r _ _ => ih r) t
noncomputable def gS (b : Bool) : (Tr → Blk) → Tr → Blk := Bool.rec (motive := fun _ => (Tr → Blk) → Tr → Blk) g0 g1 b
noncomputable def hget (p : Pth) : Tr → Blk := List.rec (motive := fun _ => Tr → Blk) gZ (fun b _ ih => gS b ih) p
noncomputable def pZ (x : Blk) : Tr → Tr := fun t => Tr.rec (motive := fun _ => Tr) (.n .z x .z) (fun l _ r _ _ => .n l x r) t
noncomputable def p0 (ih : Tr → Tr) : Tr → Tr := fun t => Tr.rec (motive := fun _ => Tr) (.n (ih .z) .no .z) (fun l x r _ _ => .n (ih l) x r) t
noncomputable def p1 (ih : Tr → Tr) : Tr → Tr := fun t => Tr.rec (motive := fun _ => Tr) (.n .z .no (ih .z)) (fun l x r _ _ => .n l x (ih r)) t
noncomputable def pS (b : Bool) : (Tr → Tr) → Tr → Tr := Bool.rec (motive := fun _ => (Tr → Tr) → Tr → Tr) p0 p1 b
noncomputable def hput (p : Pth) (x : Blk) : Tr → Tr := List.rec (motive := fun _ => Tr → Tr) (pZ x) (fun b _ ih => pS b ih) p
noncomputable def inc (p : Pth) : Pth := List.rec (motive := fun _ => Pth) [true] (fun b r ih => Bool.rec (motive := fun _ => Pth) (true :: r) (false :: ih) b) p

/-! ### Tests of a value's form -/
noncomputable def toC (v : V) (k : C → A) : A := V.rec (motive := fun _ => A) k (fun _ => none) (fun _ => none) none v
noncomputable def toG (v : V) (k : List C → A) : A := V.rec (motive := fun _ => A) (fun _ => none) k (fun _ => none) none v
noncomputable def toT (v : V) (k : List E → A) : A := V.rec (motive := fun _ => A) (fun _ => none) (fun _ => none) k none v
noncomputable def cI (k : Nat → Nat → A) (x : C) : A := C.rec (motive := fun _ => A) k (fun _ _ => none) (fun _ => none) x
noncomputable def cP (k : Pth → Nat → A) (x : C) : A := C.rec (motive := fun _ => A) (fun _ _ => none) k (fun _ => none) x
noncomputable def cD (k : D → A) (x : C) : A := C.rec (motive := fun _ => A) (fun _ _ => none) (fun _ _ => none) k x
noncomputable def dB (k : Bool → A) (x : D) : A := D.rec (motive := fun _ => A) k (fun _ => none) none none (fun _ _ _ _ => none) (fun _ _ _ _ => none) none (fun _ _ _ => none) (fun _ => none) x
noncomputable def dS (k : List Nat → A) (x : D) : A := D.rec (motive := fun _ => A) (fun _ => none) k none none (fun _ _ _ _ => none) (fun _ _ _ _ => none) none (fun _ _ _ => none) (fun _ => none) x
noncomputable def dF (k : Nat → List (Pth × Nat) → List (Pth × Nat) → A) (x : D) : A := D.rec (motive := fun _ => A) (fun _ => none) (fun _ => none) none none (fun _ _ _ _ => none) (fun _ _ _ _ => none) none k (fun _ => none) x
/-- A slice's place and length. -/
noncomputable def dL (nil : A) (k : Pth → Nat → Nat → A) (x : D) : A := D.rec (motive := fun _ => A) (fun _ => none) (fun _ => none) none nil (fun a o n _ => k a o n) (fun a o n _ => k a o n) nil (fun _ _ _ => none) (fun _ => none) x
/-- The value of a test, or of an operation that was passed over. -/
noncomputable def dG (k : Bool → A) (x : D) : A := D.rec (motive := fun _ => A) k (fun _ => none) none none (fun _ _ _ _ => none) (fun _ _ _ _ => none) none (fun _ _ _ => none) (fun _ => none) x
noncomputable def toI (v : V) (k : Nat → Nat → A) : A := toC v (cI k)
noncomputable def toP (v : V) (k : Pth → Nat → A) : A := toC v (cP k)
noncomputable def toB (v : V) (k : Bool → A) : A := toC v (cD (dB k))
noncomputable def toS (v : V) (k : List Nat → A) : A := toC v (cD (dS k))
noncomputable def toF (v : V) (k : Nat → List (Pth × Nat) → List (Pth × Nat) → A) : A := toC v (cD (dF k))
noncomputable def toL (v : V) (nil : A) (k : Pth → Nat → Nat → A) : A := toC v (cD (dL nil k))
noncomputable def toGd (v : V) (no : A) (k : Bool → A) : A := V.rec (motive := fun _ => A) (cD (dG k)) (fun _ => none) (fun _ => no) none v
noncomputable def fN (n : Nat) (k : Nat → A) : A := Nat.rec (motive := fun _ => A) (k 0) (fun m _ => k (Nat.succ m)) n
noncomputable def ifT (x : Bool) (k : A) : A := Bool.rec (motive := fun _ => A) none k x
noncomputable def ifE (x : Bool) (a b : A) : A := Bool.rec (motive := fun _ => A) b a x
def vI (kd n : Nat) : V := .c (.i kd n)
def vP (a : Pth) (o : Nat) : V := .c (.p a o)
def vB (x : Bool) : V := .c (.o (.b x))
def vS (l : List Nat) : V := .c (.o (.s l))
def bot : V := .u
def udf : V := .t []
noncomputable def fB (x : Bool) (k : V → A) : A := Bool.rec (motive := fun _ => A) (k (vB false)) (k (vB true)) x
noncomputable def fI (kd n : Nat) (k : V → A) : A := fN n (fun r => k (vI kd r))
noncomputable def notB (x : Bool) : Bool := Bool.rec (motive := fun _ => Bool) true false x
noncomputable def eqB (x y : Bool) : Bool := Bool.rec (motive := fun _ => Bool) (notB y) y x

/-! ### Rows of cells -/
section
variable {α : Type}
noncomputable def hdC (k : α → A) (l : List α) : A := List.rec (motive := fun _ => A) none (fun v _ _ => k v) l
noncomputable def tlC (k : List α → A) (l : List α) : A := List.rec (motive := fun _ => A) none (fun _ r _ => k r) l
noncomputable def unC (k : α → List α → A) (l : List α) : A := List.rec (motive := fun _ => A) none (fun v r _ => k v r) l
noncomputable def nthC (o : Nat) (k : α → A) : List α → A := Nat.rec (motive := fun _ => List α → A) (hdC k) (fun _ ih => tlC ih) o
noncomputable def dropC (n : Nat) (k : List α → A) : List α → A := Nat.rec (motive := fun _ => List α → A) k (fun _ ih => tlC ih) n
noncomputable def takeC (n : Nat) : List α → (List α → A) → A := Nat.rec (motive := fun _ => List α → (List α → A) → A) (fun _ k => k []) (fun _ ih l k => unC (fun v r => ih r (fun q => k (v :: q))) l) n
noncomputable def segC (o n : Nat) (l : List α) (k : List α → A) : A := dropC o (fun r => takeC n r k) l
/-- These over the head of those. -/
noncomputable def overC (vs : List α) : List α → (List α → A) → A := List.rec (motive := fun _ => List α → (List α → A) → A) (fun l k => k l) (fun v _ ih l k => tlC (fun r => ih r (fun q => k (v :: q))) l) vs
noncomputable def owC (o : Nat) (vs : List α) : List α → (List α → A) → A := Nat.rec (motive := fun _ => List α → (List α → A) → A) (overC vs) (fun _ ih l k => unC (fun x r => ih r (fun q => k (x :: q))) l) o
noncomputable def lenN (l : List α) : Nat := List.rec (motive := fun _ => Nat) 0 (fun _ _ n => Nat.succ n) l
noncomputable def catN (l m : List α) : List α := List.rec (motive := fun _ => List α) m (fun x _ r => x :: r) l
noncomputable def repN (z : List α) (n : Nat) : List α := Nat.rec (motive := fun _ => List α) [] (fun _ r => catN z r) n
end

/-! ### Memory -/
noncomputable def blkC (k : Nat → Bool → List C → A) (x : Blk) : A := Blk.rec (motive := fun _ => A) none k (fun _ _ => none) x
noncomputable def itC (k : List Nat → Nat → A) (x : Blk) : A := Blk.rec (motive := fun _ => A) none (fun _ _ _ => none) k x
noncomputable def ldC (h : Hp) (a : Pth) (o n : Nat) (k : List C → A) : A := blkC (fun _ _ cs => segC o n cs k) (hget a h.2)
noncomputable def ld1 (h : Hp) (a : Pth) (o : Nat) (k : C → A) : A := blkC (fun _ _ cs => nthC o k cs) (hget a h.2)
noncomputable def stC (h : Hp) (a : Pth) (o : Nat) (vs : List C) (k : Hp → A) : A :=
  blkC (fun ty ex cs => owC o vs cs (fun l => k ⟨h.1, hput a (.c ty ex l) h.2⟩)) (hget a h.2)
noncomputable def newC (h : Hp) (x : Blk) (k : Pth → Hp → A) : A := k h.1 ⟨inc h.1, hput h.1 x h.2⟩
/-- A value's cells. -/
noncomputable def cellsC (v : V) (k : List C → A) : A := V.rec (motive := fun _ => A) (fun x => k [x]) k (fun _ => none) none v

/-! ### Operations on values; of numbers: kind, modulus, half of it where there is a sign -/
noncomputable def two (kd : Nat) (x y : V) (k : Nat → Nat → A) : A := toI x (fun ka a => ifT (Nat.beq ka kd) (toI y (fun kb b => ifT (Nat.beq kb kd) (k a b))))
abbrev B2 := V → V → (V → A) → A
noncomputable def bAdd (kd m : Nat) : B2 := fun x y k => two kd x y (fun a b => fI kd (Nat.mod (Nat.add a b) m) k)
noncomputable def bSub (kd m : Nat) : B2 := fun x y k => two kd x y (fun a b => fI kd (Nat.mod (Nat.add a (Nat.sub m b)) m) k)
noncomputable def bMul (kd m : Nat) : B2 := fun x y k => two kd x y (fun a b => fI kd (Nat.mod (Nat.mul a b) m) k)
/-- Below a bound. -/
noncomputable def lt (a b : Nat) (k : A) : A := ifT (Nat.ble (Nat.succ a) b) k
noncomputable def bCat : B2 := fun x y k => toS x (fun l => toS y (fun m => lt (Nat.add (lenN l) (lenN m)) 9223372036854775808 (k (vS (catN l m)))))
noncomputable def bQuo (kd h : Nat) : B2 := fun x y k => two kd x y (fun a b => lt a h (lt b h (lt 0 b (fI kd (Nat.div a b) k))))
noncomputable def bRem (kd h : Nat) : B2 := fun x y k => two kd x y (fun a b => lt a h (lt b h (lt 0 b (fI kd (Nat.mod a b) k))))
noncomputable def bAnd (kd : Nat) : B2 := fun x y k => two kd x y (fun a b => fI kd (Nat.land a b) k)
noncomputable def bOr (kd : Nat) : B2 := fun x y k => two kd x y (fun a b => fI kd (Nat.lor a b) k)
noncomputable def bXor (kd : Nat) : B2 := fun x y k => two kd x y (fun a b => fI kd (Nat.xor a b) k)
/-- The number of places is below 64. -/
noncomputable def bShl (kd m : Nat) : B2 := fun x y k => toI x (fun ka a => ifT (Nat.beq ka kd) (toI y (fun _ b => lt b 64 (fI kd (Nat.mod (Nat.shiftLeft a b) m) k))))
noncomputable def bShr (kd h : Nat) : B2 := fun x y k => toI x (fun ka a => ifT (Nat.beq ka kd) (lt a h (toI y (fun _ b => lt b 64 (fI kd (Nat.shiftRight a b) k)))))
/-- Less, by the sign. -/
noncomputable def ltN (m h a b : Nat) : Bool := Nat.ble (Nat.succ (Nat.mod (Nat.add a h) m)) (Nat.mod (Nat.add b h) m)
noncomputable def bLss (kd m h : Nat) : B2 := fun x y k => two kd x y (fun a b => fB (ltN m h a b) k)
noncomputable def bLeq (kd m h : Nat) : B2 := fun x y k => two kd x y (fun a b => fB (notB (ltN m h b a)) k)
noncomputable def bGtr (kd m h : Nat) : B2 := fun x y k => two kd x y (fun a b => fB (ltN m h b a) k)
noncomputable def bGeq (kd m h : Nat) : B2 := fun x y k => two kd x y (fun a b => fB (notB (ltN m h a b)) k)
noncomputable def bMin (kd m h : Nat) : B2 := fun x y k => two kd x y (fun a b => ifE (ltN m h b a) (k (vI kd b)) (k (vI kd a)))
noncomputable def bMax (kd m h : Nat) : B2 := fun x y k => two kd x y (fun a b => ifE (ltN m h a b) (k (vI kd b)) (k (vI kd a)))
noncomputable def eqL (l : List Nat) : List Nat → Bool := List.rec (motive := fun _ => List Nat → Bool) (fun m => List.rec (motive := fun _ => Bool) true (fun _ _ _ => false) m)
  (fun a _ ih m => List.rec (motive := fun _ => Bool) false (fun b r _ => Bool.rec (motive := fun _ => Bool) false (ih r) (Nat.beq a b)) m) l
/-- Is it nil? of a pointer (0), a slice. -/
noncomputable def nilP (x : C) (k : Bool → A) : A := C.rec (motive := fun _ => A) (fun _ _ => none) (fun _ _ => k false)
  (fun d => D.rec (motive := fun _ => A) (fun _ => none) (fun _ => none) (k true) none (fun _ _ _ _ => none) (fun _ _ _ _ => none) none (fun _ _ _ => none) (fun _ => none) d) x
noncomputable def nilS (x : C) (k : Bool → A) : A := cD (fun d => D.rec (motive := fun _ => A) (fun _ => none) (fun _ => none) none (k true) (fun _ _ _ _ => k false) (fun _ _ _ _ => k false) (k false) (fun _ _ _ => none) (fun _ => none) d) x
noncomputable def nilC (kd : Nat) (x : C) (k : Bool → A) : A := Nat.rec (motive := fun _ => A) (nilP x k) (fun _ _ => nilS x k) kd
/-- Are two cells one? of numbers (0), texts (1), tests (2). -/
noncomputable def eqI (x y : C) (k : Bool → A) : A := cI (fun ka a => cI (fun kb b => ifT (Nat.beq ka kb) (k (Nat.beq a b))) y) x
noncomputable def eqS (x y : C) (k : Bool → A) : A := cD (dS (fun a => cD (dS (fun b => k (eqL a b))) y)) x
noncomputable def eqT (x y : C) (k : Bool → A) : A := cD (dB (fun a => cD (dB (fun b => k (eqB a b))) y)) x
noncomputable def eqC (kd : Nat) (x y : C) (k : Bool → A) : A := Nat.rec (motive := fun _ => A) (eqI x y k) (fun m _ => Nat.rec (motive := fun _ => A) (eqS x y k) (fun _ _ => eqT x y k) m) kd
noncomputable def eqCs (ks : List Nat) : List C → List C → (Bool → A) → A := List.rec (motive := fun _ => List C → List C → (Bool → A) → A) (fun l m k => List.rec (motive := fun _ => A) (List.rec (motive := fun _ => A) (k true) (fun _ _ _ => none) m) (fun _ _ _ => none) l)
  (fun kd _ ih l m k => unC (fun a l' => unC (fun b m' => eqC kd a b (fun q => ih l' m' (fun s => k (Bool.rec (motive := fun _ => Bool) false s q)))) m) l) ks
noncomputable def bEq (kd : Nat) : B2 := fun x y k => toC x (fun a => toC y (fun b => eqC kd a b (fun r => fB r k)))
noncomputable def bNe (kd : Nat) : B2 := fun x y k => toC x (fun a => toC y (fun b => eqC kd a b (fun r => fB (notB r) k)))
noncomputable def bEqN (kd : Nat) : B2 := fun x _ k => toC x (fun a => nilC kd a (fun r => fB r k))
noncomputable def bNeN (kd : Nat) : B2 := fun x _ k => toC x (fun a => nilC kd a (fun r => fB (notB r) k))
noncomputable def gEq (ks : List Nat) : B2 := fun x y k => toG x (fun l => toG y (fun m => eqCs ks l m (fun r => fB r k)))
noncomputable def gNe (ks : List Nat) : B2 := fun x y k => toG x (fun l => toG y (fun m => eqCs ks l m (fun r => fB (notB r) k)))

/-- To another kind of number: of the old kind the modulus and the half. -/
noncomputable def cvN (ks ms hs kd m : Nat) (v : V) (k : V → A) : A := toI v (fun ka a => ifT (Nat.beq ka ks) (ifE (Nat.ble hs a) (fI kd (Nat.mod (Nat.sub (Nat.add a 18446744073709551616) ms) m) k) (fI kd (Nat.mod a m) k)))

/-! ### Operands, operations -/
abbrev St := List V
/-- An operand: of the region's own values the one so deep; of the frame's; a constant. -/
inductive O where
  | l (d : Nat)
  | f (j : Nat)
  | c (v : V)
noncomputable def nthV (d : Nat) : St → V := Nat.rec (motive := fun _ => St → V) (fun s => List.rec (motive := fun _ => V) bot (fun v _ _ => v) s) (fun _ ih s => List.rec (motive := fun _ => V) bot (fun _ r _ => ih r) s) d
noncomputable def oV (x : O) : St → St → V := O.rec (motive := fun _ => St → St → V) (fun d _ s => nthV d s) (fun j f _ => nthV j f) (fun v _ _ => v) x
noncomputable def oVs (l : List O) (f s : St) : St := List.rec (motive := fun _ => St) [] (fun x _ r => oV x f s :: r) l
abbrev Call := Nat → St → Hp → Cn → A
abbrev Op1 := Call → St → St → Hp → Cn → A
noncomputable def xMov (x : O) : Op1 := fun _ f s h k => k (oV x f s) h
noncomputable def xPick (c a b : O) : Op1 := fun _ f s h k => toB (oV c f s) (fun t => k (Bool.rec (motive := fun _ => V) (oV b f s) (oV a f s) t) h)
noncomputable def eV (x : E) : V := E.rec (motive := fun _ => V) V.c V.g x
noncomputable def xExt (x : O) (i : Nat) : Op1 := fun _ f s h k => toT (oV x f s) (fun l => nthC i (fun v => k (eV v) h) l)
noncomputable def chkC (k : V → A) (x : C) : A := C.rec (motive := fun _ => A) (fun _ _ => none) (fun a o => k (vP a o)) (fun d => D.rec (motive := fun _ => A) (fun _ => none) (fun _ => none) none none (fun _ _ _ _ => none) (fun _ _ _ _ => none) none (fun n fs cs => k (.c (.o (.f n fs cs)))) (fun _ => none) d) x
noncomputable def xChk (x : O) : Op1 := fun _ f s h k => toC (oV x f s) (chkC (fun v => k v h))
noncomputable def xFld (x : O) (o : Nat) : Op1 := fun _ f s h k => toP (oV x f s) (fun a q => fN (Nat.add q o) (fun r => k (vP a r) h))
noncomputable def capsC (l : List O) : St → St → (List (Pth × Nat) → A) → A := List.rec (motive := fun _ => St → St → (List (Pth × Nat) → A) → A) (fun _ _ k => k []) (fun x _ ih f s k => toP (oV x f s) (fun a o => ih f s (fun r => k ((a, o) :: r)))) l
noncomputable def xMkf (n : Nat) (fs cs : List O) : Op1 := fun _ f s h k => capsC fs f s (fun a => capsC cs f s (fun l => k (.c (.o (.f n a l))) h))
noncomputable def xNot (x : O) : Op1 := fun _ f s h k => toB (oV x f s) (fun t => fB (notB t) (fun v => k v h))
noncomputable def xBin (op : B2) (x y : O) : Op1 := fun _ f s h k => op (oV x f s) (oV y f s) (fun v => k v h)
noncomputable def rd1 (uw : V) (h : Hp) (k : V → A) : A := toP uw (fun a o => ld1 h a o (fun v => k (.c v)))
noncomputable def rdA (n : Nat) (uw : V) (h : Hp) (k : V → A) : A := toP uw (fun a o => ldC h a o n (fun l => k (.g l)))
noncomputable def xLd1 (x : O) : Op1 := fun _ f s h k => rd1 (oV x f s) h (fun v => k v h)
noncomputable def xLdA (n : Nat) (x : O) : Op1 := fun _ f s h k => rdA n (oV x f s) h (fun v => k v h)
noncomputable def xSt1 (x y : O) : Op1 := fun _ f s h k => toP (oV x f s) (fun a o => toC (oV y f s) (fun v => stC h a o [v] (k bot)))
noncomputable def xStA (n : Nat) (x y : O) : Op1 := fun _ f s h k => toP (oV x f s) (fun a o => toG (oV y f s) (fun l => ifT (Nat.beq (lenN l) n) (stC h a o l (k bot))))
noncomputable def xAlc (t : Nat) (z : List C) : Op1 := fun _ _ _ h k => newC h (.c t true z) (fun a h' => k (vP a 0) h')
noncomputable def xBox (t : Nat) (x : O) : Op1 := fun _ f s h k => cellsC (oV x f s) (fun l => newC h (.c t true l) (fun a h' => k (vP a 0) h'))
/-- A value's cells; a block of told cells; a slice over one. -/
noncomputable def xCel (x : O) : Op1 := fun _ f s h k => cellsC (oV x f s) (fun l => k (.g l) h)
noncomputable def xMkp (t : Nat) (x : O) : Op1 := fun _ f s h k => toG (oV x f s) (fun l => newC h (.c t true l) (fun a h' => k (vP a 0) h'))
noncomputable def xMkl (el len : Nat) (x : O) : Op1 := fun _ f s h k => toG (oV x f s) (fun l => newC h (.c el true l) (fun a h' => k (.c (.o (.sl a 0 len len))) h'))
/-- Parts into a row: where, how many cells, what. -/
inductive Pt where
  | mk (o n : Nat) (x : O)
noncomputable def fillC (ps : List Pt) : St → St → List C → (List C → A) → A :=
  List.rec (motive := fun _ => St → St → List C → (List C → A) → A) (fun _ _ z k => k z)
    (fun x _ ih f s z k => Pt.rec (motive := fun _ => A) (fun o n y => cellsC (oV y f s) (fun c => ifT (Nat.beq (lenN c) n) (owC o c z (fun z' => ih f s z' k)))) x) ps
noncomputable def xBld (z : List C) (ps : List Pt) : Op1 := fun _ f s h k => fillC ps f s z (fun l => k (.g l) h)
noncomputable def vSl (a : Pth) (o n c : Nat) : V := .c (.o (.sl a o n c))
noncomputable def vSh (a : Pth) (o n c : Nat) : V := .c (.o (.sh a o n c))
noncomputable def xBls (el len : Nat) (z : List C) (ps : List Pt) : Op1 := fun _ f s h k => fillC ps f s z (fun l => newC h (.c el true l) (fun a h' => k (vSl a 0 len len) h'))
/-- An index: an int that is not below nought, or a number without a sign. -/
noncomputable def ixN (v : V) (k : Nat → A) : A := toI v (fun kd j => ifT (Nat.ble 3 kd) (lt j 9223372036854775808 (k j)))
noncomputable def xIxS (n : Nat) (x i : O) : Op1 := fun _ f s h k => ixN (oV i f s) (fun j => toL (oV x f s) none (fun a o m => lt j m (fN (Nat.add o (Nat.mul j n)) (fun r => k (vP a r) h))))
noncomputable def xIxA (len n : Nat) (x i : O) : Op1 := fun _ f s h k => ixN (oV i f s) (fun j => toP (oV x f s) (fun a o => lt j len (fN (Nat.add o (Nat.mul j n)) (fun r => k (vP a r) h))))
noncomputable def xIxT (x i : O) : Op1 := fun _ f s h k => ixN (oV i f s) (fun j => toS (oV x f s) (fun l => nthC j (fun c => k (vI 4 c) h) l))
noncomputable def xIxG (len : Nat) (x i : O) : Op1 := fun _ f s h k => ixN (oV i f s) (fun j => toG (oV x f s) (fun l => lt j len (nthC j (fun c => k (.c c) h) l)))
noncomputable def lenC (k : Nat → A) (x : D) : A := D.rec (motive := fun _ => A) (fun _ => none) (fun l => k (lenN l)) none (k 0) (fun _ _ n _ => k n) (fun _ _ n _ => k n) (k 0) (fun _ _ _ => none) (fun _ => none) x
noncomputable def vLen (v : V) (k : Nat → A) : A := toC v (cD (lenC k))
noncomputable def xLen (x : O) : Op1 := fun _ f s h k => toL (oV x f s) (k (vI 3 0) h) (fun _ _ n => lt n 9223372036854775808 (fI 3 n (fun v => k v h)))
noncomputable def xLenT (x : O) : Op1 := fun _ f s h k => toS (oV x f s) (fun l => lt (lenN l) 9223372036854775808 (fI 3 (lenN l) (fun v => k v h)))
noncomputable def capC (k : Nat → A) (x : D) : A := D.rec (motive := fun _ => A) (fun _ => none) (fun _ => none) none (k 0) (fun _ _ _ c => k c) (fun _ _ _ _ => none) none (fun _ _ _ => none) (fun _ => none) x
noncomputable def xCap (x : O) : Op1 := fun _ f s h k => toC (oV x f s) (cD (capC (fun n => lt n 9223372036854775808 (k (vI 3 n) h))))
noncomputable def bnd (x : Option O) (d : Nat) (f s : St) (k : Nat → A) : A := Option.rec (motive := fun _ => A) (k d) (fun x => ixN (oV x f s) k) x
noncomputable def xCutT (x : O) (lo hi : Option O) : Op1 := fun _ f s h k => toS (oV x f s) (fun l => bnd lo 0 f s (fun a => bnd hi (lenN l) f s (fun b => ifT (Nat.ble a b) (segC a (Nat.sub b a) l (fun r => k (vS r) h)))))
noncomputable def cutE (n : Nat) (p : Pth) (o c a b : Nat) (k : V → A) : A := fN (Nat.sub b a) (fun m => fN (Nat.sub c a) (fun c' => ifE (Nat.beq c a) (k (vSl p o m c')) (fN (Nat.add o (Nat.mul a n)) (fun o' => k (vSl p o' m c')))))
noncomputable def cutH (w n : Nat) (p : Pth) (o l a b : Nat) (k : V → A) : A := ifT (Nat.beq w n) (ifE (Nat.beq a 0) (k (vSh p o b n)) (ifE (Nat.ble (Nat.succ a) l) (fN (Nat.sub b a) (fun m => fN (Nat.add o (Nat.mul a n)) (fun o' => k (vSh p o' m n)))) (k (.c (.o .se)))))
noncomputable def cutL (n a b : Nat) (k : V → A) (x : D) : A := D.rec (motive := fun _ => A) (fun _ => none) (fun _ => none) none (ifT (Nat.beq b 0) (k (.c (.o .ns)))) (fun p o _ c => cutE n p o c a b k) (fun p o l w => cutH w n p o l a b k) (ifT (Nat.beq b 0) (k (.c (.o .se)))) (fun _ _ _ => none) (fun _ => none) x
noncomputable def xCutL (n : Nat) (x : O) (lo hi : Option O) : Op1 := fun _ f s h k => vLen (oV x f s) (fun m => bnd lo 0 f s (fun a => bnd hi m f s (fun b => ifT (Nat.ble a b) (ifT (Nat.ble b m) (toC (oV x f s) (cD (cutL n a b (fun v => k v h))))))))
noncomputable def xCutA (len n : Nat) (x : O) (lo hi : Option O) : Op1 := fun _ f s h k => toP (oV x f s) (fun p o => bnd lo 0 f s (fun a => bnd hi len f s (fun b => ifT (Nat.ble a b) (ifT (Nat.ble b len) (cutE n p o len a b (fun v => k v h))))))
noncomputable def u8s (l : List Nat) : List C := List.rec (motive := fun _ => List C) [] (fun c _ r => .i 4 c :: r) l
/-- A slice's cells, a text's bytes. -/
noncomputable def readC (h : Hp) (n : Nat) (k : List C → A) (x : D) : A := D.rec (motive := fun _ => A) (fun _ => none) (fun l => ifT (Nat.beq n 1) (k (u8s l))) none (k []) (fun a o m _ => ldC h a o (Nat.mul m n) k) (fun a o m _ => ldC h a o (Nat.mul m n) k) (k []) (fun _ _ _ => none) (fun _ => none) x
noncomputable def vRead (h : Hp) (n : Nat) (v : V) (k : List C → A) : A := toC v (cD (readC h n k))
/-- A new row whose room is not known. -/
noncomputable def grow (h : Hp) (el n m : Nat) (cs : List C) (k : Cn) : A := lt m 4294967296 (newC h (.c el false cs) (fun a h' => fN m (fun m' => k (vSh a 0 m' n) h')))
noncomputable def appE (h : Hp) (el n : Nat) (ys : List C) (q : Nat) (k : Cn) (a : Pth) (o m c : Nat) : A :=
  ifE (Nat.ble (Nat.add m q) c) (stC h a (Nat.add o (Nat.mul m n)) ys (fun h' => fN (Nat.add m q) (fun m' => k (vSl a o m' c) h'))) (ldC h a o (Nat.mul m n) (fun xs => grow h el n (Nat.add m q) (catN xs ys) k))
noncomputable def appH (h : Hp) (el n : Nat) (ys : List C) (q : Nat) (k : Cn) (a : Pth) (o m w : Nat) : A :=
  ifT (Nat.beq w n) (blkC (fun ty ex cs => ifE (Nat.ble (Nat.add o (Nat.mul (Nat.add m q) n)) (lenN cs))
    (owC (Nat.add o (Nat.mul m n)) ys cs (fun l => fN (Nat.add m q) (fun m' => k (vSh a o m' n) ⟨h.1, hput a (.c ty ex l) h.2⟩)))
    (segC o (Nat.mul m n) cs (fun xs => grow ⟨h.1, hput a .no h.2⟩ el n (Nat.add m q) (catN xs ys) k))) (hget a h.2))
noncomputable def appD (h : Hp) (el n : Nat) (ys : List C) (q : Nat) (k : Cn) (x : D) : A := D.rec (motive := fun _ => A) (fun _ => none) (fun _ => none) none (grow h el n q ys k) (appE h el n ys q k) (fun a o m w => appH h el n ys q k a o m w) none (fun _ _ _ => none) (fun _ => none) x
noncomputable def appC (h : Hp) (el n : Nat) (x : V) (ys : List C) (q : Nat) (k : Cn) : A := Nat.rec (motive := fun _ => A) (toL x (k x h) (fun _ _ _ => k x h)) (fun _ _ => toC x (cD (appD h el n ys q k))) q
noncomputable def xApp (el n : Nat) (x y : O) : Op1 := fun _ f s h k => vLen (oV y f s) (fun q => vRead h n (oV y f s) (fun ys => appC h el n (oV x f s) ys q k))
noncomputable def xApz (el : Nat) (z : List C) (x y : O) : Op1 := fun _ f s h k => ixN (oV y f s) (fun q => ifT (Nat.ble q 65536) (appC h el (lenN z) (oV x f s) (repN z q) q k))
noncomputable def cpyC (x : V) (h : Hp) (l : List C) (b : Nat) (k : Cn) : A := toL x (k (vI 3 0) h) (fun p o _ => lt b 9223372036854775808 (stC h p o l (fun h' => fI 3 b (fun v => k v h'))))
noncomputable def xCpy (n : Nat) (x y : O) : Op1 := fun _ f s h k => vLen (oV x f s) (fun a => vLen (oV y f s) (fun b => vRead h n (oV y f s) (fun l =>
  ifE (Nat.ble b a) (cpyC (oV x f s) h l b k) (takeC (Nat.mul a n) l (fun l' => cpyC (oV x f s) h l' a k)))))
/-- A row is filled with zeros. -/
noncomputable def xClr (z : List C) (x : O) : Op1 := fun _ f s h k => toL (oV x f s) (k (.t []) h) (fun p o m => stC h p o (repN z m) (k (.t [])))
noncomputable def xMks (el : Nat) (z : List C) (l c : O) : Op1 := fun _ f s h k => ixN (oV l f s) (fun n => ixN (oV c f s) (fun m => ifT (Nat.ble n m) (ifT (Nat.ble m 65536) (newC h (.c el true (repN z m)) (fun a h' => k (vSl a 0 n m) h')))))
noncomputable def xCvi (ks ms hs kd m : Nat) (x : O) : Op1 := fun _ f s h k => cvN ks ms hs kd m (oV x f s) (fun v => k v h)
noncomputable def bytesC (l : List C) : (List Nat → A) → A := List.rec (motive := fun _ => (List Nat → A) → A) (fun k => k []) (fun v _ ih k => cI (fun kd c => ifT (Nat.beq kd 4) (ih (fun r => k (c :: r)))) v) l
noncomputable def readL (h : Hp) (k : List C → A) (x : D) : A := D.rec (motive := fun _ => A) (fun _ => none) (fun _ => none) none (k []) (fun a o m _ => ldC h a o m k) (fun a o m _ => ldC h a o m k) (k []) (fun _ _ _ => none) (fun _ => none) x
noncomputable def rdB (uw : V) (h : Hp) (k : V → A) : A := toC uw (cD (readL h (fun l => bytesC l (fun r => k (vS r)))))
noncomputable def xB2s (x : O) : Op1 := fun _ f s h k => rdB (oV x f s) h (fun v => k v h)
noncomputable def xS2b (el : Nat) (x : O) : Op1 := fun _ f s h k => toS (oV x f s) (fun l => grow h el 1 (lenN l) (u8s l) k)
noncomputable def xS2a (n : Nat) (x : O) : Op1 := fun _ f s h k => toL (oV x f s) none (fun a o m => ifT (Nat.ble n m) (k (vP a o) h))
noncomputable def xRng (x : O) : Op1 := fun _ f s h k => toS (oV x f s) (fun l => newC h (.it l 0) (fun a h' => k (vP a 0) h'))
/-- The next letter, of those below 128. -/
noncomputable def xNxt (x : O) : Op1 := fun _ f s h k => toP (oV x f s) (fun a o => ifT (Nat.beq o 0) (itC (fun l pos => List.rec (motive := fun _ => A) (k (.t [.c (.o (.b false))]) h)
  (fun c r _ => lt c 128 (lt (Nat.succ pos) 9223372036854775808 (fN (Nat.succ pos) (fun q => k (.t [.c (.o (.b true)), .c (.i 3 pos), .c (.i 2 c)]) ⟨h.1, hput a (.it r q) h.2⟩)))) l) (hget a h.2)))
noncomputable def capV (l : List (Pth × Nat)) : St := List.rec (motive := fun _ => St) [] (fun x _ r => vP x.1 x.2 :: r) l
noncomputable def xCal (g : O) (as : List O) : Op1 := fun call f s h k => toF (oV g f s) (fun n fs cs => call n (catN (capV fs) (catN (oVs as f s) (capV cs))) h k)
noncomputable def xCalF (n : Nat) (as : List O) : Op1 := fun call f s h k => call n (oVs as f s) h k
def xBad : Op1 := fun _ _ _ _ _ => none

/-! ### Steps -/
abbrev Kn := St → St → Hp → A
abbrev Stp := Call → St → St → Hp → Kn → A
noncomputable def setV (j : Nat) (v : V) : St → St := Nat.rec (motive := fun _ => St → St) (fun f => v :: List.rec (motive := fun _ => St) [] (fun _ r _ => r) f) (fun _ ih f => List.rec (motive := fun _ => St) (bot :: ih []) (fun x r _ => x :: ih r) f) j
def sPush (g : Op1) : Stp := fun c f s h k => g c f s h (fun v h' => k f (v :: s) h')
noncomputable def sSet (j : Nat) (g : Op1) : Stp := fun c f s h k => g c f s h (fun v h' => k (setV j v f) s h')
def sDo (g : Op1) : Stp := fun c f s h k => g c f s h (fun _ h' => k f s h')
noncomputable def sIf (g : O) (want : Bool) (a b : Stp) : Stp := fun c f s h k => toGd (oV g f s) (b c f s h k) (fun x => Bool.rec (motive := fun _ => A) (b c f s h k) (a c f s h k) (eqB x want))
/-- Are two cells one, and no other value's? -/
noncomputable def eqP (p : Pth) : Pth → Bool := List.rec (motive := fun _ => Pth → Bool) (fun q => List.rec (motive := fun _ => Bool) true (fun _ _ _ => false) q) (fun a _ ih q => List.rec (motive := fun _ => Bool) false (fun b r _ => Bool.rec (motive := fun _ => Bool) false (ih r) (eqB a b)) q) p
noncomputable def andB (a b : Bool) : Bool := Bool.rec (motive := fun _ => Bool) false b a
noncomputable def isI (x : C) (k : Nat → Nat → Bool) : Bool := C.rec (motive := fun _ => Bool) k (fun _ _ => false) (fun _ => false) x
noncomputable def isP (x : C) (k : Pth → Nat → Bool) : Bool := C.rec (motive := fun _ => Bool) (fun _ _ => false) k (fun _ => false) x
noncomputable def isD (x : C) (k : D → Bool) : Bool := C.rec (motive := fun _ => Bool) (fun _ _ => false) (fun _ _ => false) k x
noncomputable def isB (x : D) (k : Bool → Bool) : Bool := D.rec (motive := fun _ => Bool) k (fun _ => false) false false (fun _ _ _ _ => false) (fun _ _ _ _ => false) false (fun _ _ _ => false) (fun _ => false) x
noncomputable def isS (x : D) (k : List Nat → Bool) : Bool := D.rec (motive := fun _ => Bool) (fun _ => false) k false false (fun _ _ _ _ => false) (fun _ _ _ _ => false) false (fun _ _ _ => false) (fun _ => false) x
noncomputable def isNp (x : D) : Bool := D.rec (motive := fun _ => Bool) (fun _ => false) (fun _ => false) true false (fun _ _ _ _ => false) (fun _ _ _ _ => false) false (fun _ _ _ => false) (fun _ => false) x
noncomputable def isNs (x : D) : Bool := D.rec (motive := fun _ => Bool) (fun _ => false) (fun _ => false) false true (fun _ _ _ _ => false) (fun _ _ _ _ => false) false (fun _ _ _ => false) (fun _ => false) x
noncomputable def isSl (x : D) (k : Pth → Nat → Nat → Nat → Bool) : Bool := D.rec (motive := fun _ => Bool) (fun _ => false) (fun _ => false) false false k (fun _ _ _ _ => false) false (fun _ _ _ => false) (fun _ => false) x
noncomputable def isSh (x : D) (k : Pth → Nat → Nat → Nat → Bool) : Bool := D.rec (motive := fun _ => Bool) (fun _ => false) (fun _ => false) false false (fun _ _ _ _ => false) k false (fun _ _ _ => false) (fun _ => false) x
noncomputable def sameD (x y : D) : Bool := D.rec (motive := fun _ => Bool) (fun a => isB y (fun b => eqB a b)) (fun a => isS y (fun b => eqL a b)) (isNp y) (isNs y)
  (fun a o n c => isSl y (fun b p m d => andB (eqP a b) (andB (Nat.beq o p) (andB (Nat.beq n m) (Nat.beq c d)))))
  (fun a o n c => isSh y (fun b p m d => andB (eqP a b) (andB (Nat.beq o p) (andB (Nat.beq n m) (andB (Nat.beq c d) (Nat.ble 1 c)))))) false (fun _ _ _ => false) (fun _ => false) x
noncomputable def sameC (x y : C) : Bool := C.rec (motive := fun _ => Bool) (fun k a => isI y (fun j b => andB (Nat.beq k j) (Nat.beq a b))) (fun a o => isP y (fun b p => andB (eqP a b) (Nat.beq o p))) (fun d => isD y (sameD d)) x
noncomputable def sameCs (l : List C) : List C → Bool := List.rec (motive := fun _ => List C → Bool) (fun m => List.rec (motive := fun _ => Bool) true (fun _ _ _ => false) m) (fun a _ ih m => List.rec (motive := fun _ => Bool) false (fun b r _ => andB (sameC a b) (ih r)) m) l
noncomputable def sameV (x y : V) (k : A) : A := V.rec (motive := fun _ => A) (fun a => toC y (fun b => ifT (sameC a b) k)) (fun l => toG y (fun m => ifT (sameCs l m) k)) (fun _ => none) none x
/-- What was read is read again, and is the same. -/
noncomputable def sAg (y : O) (g : Op1) : Stp := fun c f s h k => g c f s h (fun v _ => sameV v (oV y f s) (k f s h))
noncomputable def sAgI (g : O) (want : Bool) (a : Stp) : Stp := fun c f s h k => toGd (oV g f s) (k f s h) (fun x => Bool.rec (motive := fun _ => A) (k f s h) (a c f s h k) (eqB x want))
noncomputable def regC (l : List Stp) : Stp := List.rec (motive := fun _ => Stp) (fun _ f s h k => k f s h) (fun g _ ih c f s h k => g c f s h (fun f' s' h' => ih c f' s' h' k)) l

/-! ### Code: what is behind it, behind a return, behind an exit -/
abbrev Kf := St → Hp → A
abbrev Kx := Call → St → Hp → Kf → Kf → (Nat → Kf) → A
def cSkip : Kx := fun _ f h kn _ _ => kn f h
def cRet : Kx := fun _ f h _ kr _ => kr f h
def cExit (id : Nat) : Kx := fun _ f h _ _ kx => kx id f h
def cReg (g : Stp) : Kx := fun c f h kn _ _ => g c f [] h (fun f' _ h' => kn f' h')
def cSeq (a b : Kx) : Kx := fun c f h kn kr kx => a c f h (fun f' h' => b c f' h' kn kr kx) kr kx
noncomputable def cCond (x : O) (a b : Kx) : Kx := fun c f h kn kr kx => toB (oV x f []) (fun t => Bool.rec (motive := fun _ => A) (b c f h kn kr kx) (a c f h kn kr kx) t)
noncomputable def cBlock (id : Nat) (a : Kx) : Kx := fun c f h kn kr kx => a c f h kn kr (fun j f' h' => Bool.rec (motive := fun _ => A) (kx j f' h') (kn f' h') (Nat.beq j id))
noncomputable def lpN (a : Kx) (c : Call) (kr : Kf) (kx : Nat → Kf) (n : Nat) : St → Hp → A := Nat.rec (motive := fun _ => St → Hp → A) (fun _ _ => none) (fun _ ih f h => a c f h ih kr kx) n
noncomputable def cLoop (a : Kx) : Kx := fun c f h _ kr kx => lpN a c kr kx 65536 f h
def cBad : Kx := fun _ _ _ _ _ _ => none

/-! ### Functions: where the arguments go, the code, the results -/
inductive Rs where
  | v (x : O)
  | c1 (x : O)
  | cn (x : O) (n : Nat)
noncomputable def resC (r : Rs) (f : St) (h : Hp) (k : V → A) : A := Rs.rec (motive := fun _ => A) (fun x => k (oV x f [])) (fun x => toP (oV x f []) (fun a o => ld1 h a o (fun v => k (.c v)))) (fun x n => toP (oV x f []) (fun a o => ldC h a o n (fun l => k (.g l)))) r
noncomputable def ressC (l : List Rs) : St → Hp → (St → A) → A := List.rec (motive := fun _ => St → Hp → (St → A) → A) (fun _ _ k => k []) (fun r _ ih f h k => resC r f h (fun v => ih f h (fun l => k (v :: l)))) l
noncomputable def asE (k : E → A) (v : V) : A := V.rec (motive := fun _ => A) (fun x => k (.c x)) (fun l => k (.g l)) (fun _ => none) none v
noncomputable def asEs (l : St) : (List E → A) → A := List.rec (motive := fun _ => (List E → A) → A) (fun k => k []) (fun v _ ih k => asE (fun x => ih (fun r => k (x :: r))) v) l
/-- One result, or a tuple. -/
noncomputable def tupC (l : St) (k : V → A) : A := List.rec (motive := fun _ => A) (k (.t [])) (fun v r _ => List.rec (motive := fun _ => A) (k v) (fun _ _ _ => asEs l (fun q => k (.t q))) r) l
structure Fu where
  k : Kx
  r : List Rs
  n : Nat
noncomputable def done (r : List Rs) (k : Cn) : Kf := fun f h => ressC r f h (fun l => tupC l (fun v => k v h))
/-- What a function is to the evaluator. -/
abbrev Fx := Call → St → Hp → Cn → A
noncomputable def runF (u : Fu) : Fx := fun call args h k => ifT (Nat.ble (lenN args) u.3) (u.1 call args h (done u.2 k) (done u.2 k) (fun _ _ _ => none))
noncomputable def callC (F : Nat → Option Fx) (call : Call) : Call := fun n args h k => Option.rec (motive := fun _ => A) none (fun x => x call args h k) (F n)
/-- A call, so many calls deep. -/
noncomputable def evalC (F : Nat → Option Fx) (fuel : Nat) : Call := Nat.rec (motive := fun _ => Call) (fun _ _ _ _ => none) (fun _ ih => callC F ih) fuel
noncomputable def eval (F : Nat → Option Fx) (n : Nat) (args : St) (h : Hp) : A := evalC F 64 n args h (fun v h' => some (v, h'))
/-! A table of functions. -/
def fNo : Nat → Option Fx := fun _ => none
noncomputable def fOne (k : Nat) (x : Fx) : Nat → Option Fx := fun n => Bool.rec (motive := fun _ => Option Fx) none (some x) (Nat.beq n k)
noncomputable def fSplit (m : Nat) (a b : Nat → Option Fx) : Nat → Option Fx := fun n => Bool.rec (motive := fun _ => Nat → Option Fx) a b (Nat.ble m n) n
end Go.Ev
