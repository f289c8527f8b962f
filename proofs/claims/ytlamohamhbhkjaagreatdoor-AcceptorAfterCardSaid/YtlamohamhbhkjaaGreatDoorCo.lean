/- The evaluator's second part: a program's code turned into the evaluator's steps. It holds for every program; it has no condition. -/
import Derived.Test.YtlamohamhbhkjaaGreatDoorEv
namespace Go.Ev
open Go.RowKit Go.Eng

def kc : IntKind → Nat
  | .i8 => 0 | .i16 => 1 | .i32 => 2 | .i64 => 3 | .u8 => 4 | .u16 => 5 | .u32 => 6 | .u64 => 7
def km : IntKind → Nat
  | .i8 => 256 | .i16 => 65536 | .i32 => 4294967296 | .i64 => 18446744073709551616 | .u8 => 256 | .u16 => 65536 | .u32 => 4294967296 | .u64 => 18446744073709551616
/-- Numbers from here on are below nought. -/
def kb : IntKind → Nat
  | .i8 => 128 | .i16 => 32768 | .i32 => 2147483648 | .i64 => 9223372036854775808 | .u8 => 256 | .u16 => 65536 | .u32 => 4294967296 | .u64 => 18446744073709551616
/-- What moves the least number to nought. -/
def ks : IntKind → Nat
  | .i8 => 128 | .i16 => 32768 | .i32 => 2147483648 | .i64 => 9223372036854775808 | _ => 0
def modN (m : Nat) : Int → Nat
  | .ofNat n => n % m
  | .negSucc n => m - 1 - n % m
/-- A residue as a number. -/
def sgn (kd : IntKind) (n : Nat) : Int := if n < kb kd then (n : Int) else (n : Int) - (km kd : Int)
def ofC : Value → C
  | .int k z => match decide (sgn k (modN (km k) z) = z) with
    | true => .i (kc k) (modN (km k) z)
    | false => .o (.raw (.int k z))
  | .bool x => .o (.b x)
  | .string ⟨⟨l⟩⟩ => .o (.s (l.map UInt8.toNat))
  | .pointer none => .o .np
  | .slice none n c => match Nat.beq n 0 && Nat.beq c 0 with | true => .o .ns | false => .o (.raw (.slice none n c))
  | .func (.func n) ⟨[]⟩ ⟨[]⟩ => .o (.f n [] [])
  | v => .o (.raw v)
def ofCs : List Value → List C
  | [] => []
  | v :: r => ofC v :: ofCs r
def ones : List Value → Bool
  | [] => true
  | v :: r => match v.oneCell' with | true => ones r | false => false
def ofV : Value → V
  | .agg ⟨l⟩ => match ones l with | true => .g (ofCs l) | false => .u
  | .tuple ⟨[]⟩ => .t []
  | .tuple _ => .u
  | v => .c (ofC v)

/-! ### Instructions as data -/
inductive Bo where
  | add (k m : Nat) | sub (k m : Nat) | mul (k m : Nat) | quo (k h : Nat) | rem (k h : Nat) | and (k : Nat) | or (k : Nat) | xor (k : Nat) | shl (k m : Nat) | shr (k h : Nat)
  | lss (k m h : Nat) | leq (k m h : Nat) | gtr (k m h : Nat) | geq (k m h : Nat) | min (k m h : Nat) | max (k m h : Nat) | eq (kd : Nat) | ne (kd : Nat) | eqN (kd : Nat) | neN (kd : Nat) | gEq (ks : List Nat) | gNe (ks : List Nat) | cat
noncomputable def Bo.den : Bo → B2
  | add k m => bAdd k m | sub k m => bSub k m | mul k m => bMul k m | quo k h => bQuo k h | rem k h => bRem k h | and k => bAnd k | or k => bOr k | xor k => bXor k | shl k m => bShl k m | shr k h => bShr k h
  | lss k m h => bLss k m h | leq k m h => bLeq k m h | gtr k m h => bGtr k m h | geq k m h => bGeq k m h | min k m h => bMin k m h | max k m h => bMax k m h | eq kd => bEq kd | ne kd => bNe kd | eqN kd => bEqN kd | neN kd => bNeN kd | gEq ks => Ev.gEq ks | gNe ks => Ev.gNe ks | cat => bCat
inductive Ins where
  | mov (x : O) | pick (c a b : O) | ext (x : O) (i : Nat) | chk (x : O) | fld (x : O) (o : Nat) | mkf (n : Nat) (fs cs : List O) | not (x : O) | bin (b : Bo) (x y : O)
  | ld1 (x : O) | ldA (n : Nat) (x : O) | st1 (x y : O) | stA (n : Nat) (x y : O) | alc (t : Nat) (z : List C) | box (t : Nat) (x : O) | bld (z : List C) (ps : List Pt) | bls (el len : Nat) (z : List C) (ps : List Pt)
  | ixS (n : Nat) (x i : O) | ixA (len n : Nat) (x i : O) | ixT (x i : O) | ixG (len : Nat) (x i : O) | len (x : O) | lenT (x : O) | cap (x : O) | cutT (x : O) (lo hi : Option O) | cutL (n : Nat) (x : O) (lo hi : Option O) | cutA (len n : Nat) (x : O) (lo hi : Option O)
  | app (el n : Nat) (x y : O) | apz (el : Nat) (z : List C) (x y : O) | cpy (n : Nat) (x y : O) | clr (z : List C) (x : O) | mks (el : Nat) (z : List C) (l c : O) | cvi (ks ms hs kd m : Nat) (x : O) | b2s (x : O) | s2b (el : Nat) (x : O) | s2a (n : Nat) (x : O)
  | rng (x : O) | nxt (x : O) | cel (x : O) | mkp (t : Nat) (x : O) | mkl (el len : Nat) (x : O) | cal (g : O) (as : List O) | calF (n : Nat) (as : List O) | bad
noncomputable def Ins.den : Ins → Op1
  | mov x => xMov x | pick c a b => xPick c a b | ext x i => xExt x i | chk x => xChk x | fld x o => xFld x o | mkf n fs cs => xMkf n fs cs | not x => xNot x | bin b x y => xBin b.den x y
  | ld1 x => xLd1 x | ldA n x => xLdA n x | st1 x y => xSt1 x y | stA n x y => xStA n x y | alc t z => xAlc t z | box t x => xBox t x | bld z ps => xBld z ps | bls el ln z ps => xBls el ln z ps
  | ixS n x i => xIxS n x i | ixA ln n x i => xIxA ln n x i | ixT x i => xIxT x i | ixG ln x i => xIxG ln x i | len x => xLen x | lenT x => xLenT x | cap x => xCap x | cutT x lo hi => xCutT x lo hi | cutL n x lo hi => xCutL n x lo hi | cutA ln n x lo hi => xCutA ln n x lo hi
  | app el n x y => xApp el n x y | apz el z x y => xApz el z x y | cpy n x y => xCpy n x y | clr z x => xClr z x | mks el z l c => xMks el z l c | cvi ks ms hs kd m x => xCvi ks ms hs kd m x | b2s x => xB2s x | s2b el x => xS2b el x | s2a n x => xS2a n x
  | rng x => xRng x | nxt x => xNxt x | cel x => xCel x | mkp t x => xMkp t x | mkl el ln x => xMkl el ln x | cal g as => xCal g as | calF n as => xCalF n as | bad => xBad
/-- Where an answer goes: onto the region's values, into the frame, nowhere. -/
inductive Ds where
  | push
  | set (j : Nat)
  | no
inductive Sp where
  | do (d : Ds) (i : Ins)
  | if (g : O) (want : Bool) (d : Ds) (i : Ins)
  | ag (y : O) (i : Ins)
  | agI (g : O) (want : Bool) (y : O) (i : Ins)
def sNop : Stp := fun _ f s h k => k f s h
noncomputable def Ds.den : Ds → Op1 → Stp
  | push => sPush
  | set j => sSet j
  | no => sDo
noncomputable def Ds.skip : Ds → Stp
  | push => sPush (xMov (.c udf))
  | set j => sSet j (xMov (.c udf))
  | no => sNop
noncomputable def Sp.den : Sp → Stp
  | .do d i => d.den i.den
  | .if g want d i => sIf g want (d.den i.den) d.skip
  | .ag y i => sAg y i.den
  | .agI g want y i => sAgI g want (sAg y i.den)
noncomputable def dens : List Sp → List Stp
  | [] => []
  | s :: r => s.den :: dens r
inductive Cd where
  | skip | ret | exit (id : Nat) | reg (l : List Sp) | seq (a b : Cd) | cond (x : O) (a b : Cd) | block (id : Nat) (a : Cd) | loop (a : Cd) | bad
noncomputable def Cd.den : Cd → Kx
  | skip => cSkip | ret => cRet | exit id => cExit id | reg l => cReg (regC (dens l)) | seq a b => cSeq a.den b.den | cond x a b => cCond x a.den b.den | block id a => cBlock id a.den | loop a => cLoop a.den | bad => cBad
structure Fd where
  k : Cd
  r : List Rs
  n : Nat
noncomputable def Fd.den (u : Fd) : Fu := ⟨u.k.den, u.r, u.n⟩

/-! ### The turning; 'fm': which slots lie in the frame, and where -/
/-- Where a region's own value is. -/
inductive Lc where
  | st (p : Nat)
  | al (j : Nat)
  | cn (v : V)
abbrev Lm := List (Nat × Lc)
def ofO (fm : List (Nat × Nat)) (L : Lm) (n : Nat) : Operand → Option O
  | .tmp t => match lk L t with
    | some (.st p) => some (.l (n - 1 - p))
    | some (.al j) => some (.f j)
    | some (.cn v) => some (.c v)
    | none => match lk fm t with | some j => some (.f j) | none => none
  | .const v => some (.c (ofV v))
  | .global g => some (.c (.c (.o (.raw (.pointer (some ⟨g, 0, none⟩))))))
  | .func f => some (.c (.c (.o (.f f [] []))))
section
variable (P : Program)
def zeroV (t : Nat) : Option (List C) := match zeroOf P t with | some l => (match ones l with | true => some (ofCs l) | false => none) | none => none
def sizeV (t : Nat) : Option Nat := match P.info? t with | some i => some i.size | none => none
/-- none: one cell. -/
def aggV (t : Nat) : Option (Option Nat) := match P.underlying t with
  | some d => match P.info? t with
    | some i => match isAggD d with
      | true => some (some i.size)
      | false => match Nat.beq i.size 1 with | true => some none | false => none
    | none => none
  | none => none
def flatT.rep (l : List Nat) : Nat → List Nat
  | 0 => []
  | n + 1 => l ++ flatT.rep l n
def flatT.flds (ft : Nat → Option (List Nat)) : List Field → Nat → Option (List Nat)
  | [], _ => some []
  | f :: r, o => match f.name == "_" with
    | true => none
    | false => match Nat.beq f.offset o with
      | true => match ft f.type with
        | some l => match sizeV P f.type with
          | some k => match Nat.beq k l.length with
            | true => match flatT.flds ft r (o + l.length) with | some m => some (l ++ m) | none => none
            | false => none
          | none => none
        | none => none
      | false => none
/-- The kinds of the cells of a type that is made of numbers, texts, tests alone, laid one behind the other. -/
def flatT : Nat → Nat → Option (List Nat)
  | 0, _ => none
  | d + 1, t => match P.underlying t with
    | some (.int _) => some [0]
    | some .string => some [1]
    | some .bool => some [2]
    | some (.struct fs) => match P.stoodInHeld t with
      | true => none
      | false => flatT.flds P (fun t => flatT d t) fs.toList 0
    | some (.array n e) => match flatT d e with
      | some l => match sizeV P e with
        | some k => match Nat.beq k l.length && !(Nat.beq k 0) with | true => some (flatT.rep l n) | false => none
        | none => none
      | none => none
    | _ => none
section
variable (o : Operand → Option O)
def ofOs : List Operand → Option (List O)
  | [] => some []
  | x :: r => match o x with
    | some y => match ofOs r with | some l => some (y :: l) | none => none
    | none => none
def ofOo : Option Operand → Option (Option O)
  | none => some none
  | some x => match o x with | some y => some (some y) | none => none
def partsV (fs : Array Field) : List (Nat × Operand) → Option (List Pt)
  | [] => some []
  | (i, x) :: r => match fs[i]? with
    | some f => match sizeV P f.type with
      | some k => match o x with
        | some y => match partsV fs r with | some l => some (.mk f.offset k y :: l) | none => none
        | none => none
      | none => none
    | none => none
def partsL (k : Nat) : List (Nat × Operand) → Option (List Pt)
  | [] => some []
  | (i, x) :: r => match o x with
    | some y => match partsL k r with | some l => some (.mk (i * k) k y :: l) | none => none
    | none => none
def isNilP : Operand → Bool
  | .const (.pointer none) => true
  | _ => false
def isNilS : Operand → Bool
  | .const (.slice none 0 0) => true
  | _ => false
/-- A comparison by the operands' type. -/
def eqV (t : Nat) (y : Operand) (a : Nat → Bo) (n : Nat → Bo) (g : List Nat → Bo) : Option Bo := match P.underlying t with
  | some (.int _) => some (a 0)
  | some .string => some (a 1)
  | some .bool => some (a 2)
  | some (.pointer _) => match isNilP y with | true => some (n 0) | false => none
  | some (.slice _) => match isNilS y with | true => some (n 1) | false => none
  | some (.struct _) => match P.eqGuardType P.depth t with
    | true => none
    | false => match flatT P 20 t with | some ks => some (g ks) | none => none
  | some (.array _ _) => match P.eqGuardType P.depth t with
    | true => none
    | false => match flatT P 20 t with | some ks => some (g ks) | none => none
  | _ => none
def intV (k : IntKind) : BinOp → Option Bo
  | .add => some (.add (kc k) (km k)) | .sub => some (.sub (kc k) (km k)) | .mul => some (.mul (kc k) (km k)) | .quo => some (.quo (kc k) (kb k)) | .rem => some (.rem (kc k) (kb k))
  | .and => some (.and (kc k)) | .or => some (.or (kc k)) | .xor => some (.xor (kc k)) | .shl => some (.shl (kc k) (km k)) | .shr => some (.shr (kc k) (kb k))
  | .lss => some (.lss (kc k) (km k) (ks k)) | .leq => some (.leq (kc k) (km k) (ks k)) | .gtr => some (.gtr (kc k) (km k) (ks k)) | .geq => some (.geq (kc k) (km k) (ks k))
  | _ => none
def binV (op : BinOp) (t : Nat) (y : Operand) : Option Bo := match op with
  | .eql => eqV P t y .eq .eqN .gEq
  | .neq => eqV P t y .ne .neN .gNe
  | op => match P.underlying t with
    | some (.int k) => intV k op
    | some .string => match op with | .add => some .cat | _ => none
    | _ => none
/-- What an operation reads and writes: nothing; memory is read; memory is written, made, or code is called. -/
inductive Kd where
  | pure
  | read
  | loud
def one (f : O → Ins) (k : Kd) (x : Operand) : Option (Kd × Ins) := match o x with | some a => some (k, f a) | none => none
def both (f : O → O → Ins) (k : Kd) (x y : Operand) : Option (Kd × Ins) := match o x with
  | some a => match o y with | some b => some (k, f a b) | none => none
  | none => none
def cutV (f : O → Option O → Option O → Ins) (x : Operand) (lo hi : Option Operand) : Option (Kd × Ins) := match o x with
  | some a => match ofOo o lo with
    | some l => match ofOo o hi with | some h => some (.pure, f a l h) | none => none
    | none => none
  | none => none
def sliceEl (t : Nat) : Option Nat := match P.underlying t with | some (.slice el) => some el | _ => none
/-- A row's elements: of how many cells, the zero value; not of too many bytes. -/
def elemV (el : Nat) : Option (Nat × List C) := match P.info? el with
  | some i => match zeroV P el with
    | some z => match Nat.beq z.length i.size && !(Nat.beq i.size 0) && Nat.ble i.bytes 32768 with | true => some (i.size, z) | false => none
    | none => none
  | none => none
def callV (c : Go.Call) : Option (Kd × Ins) := match c with
  | ⟨.builtin .len, ⟨[x]⟩, ⟨[t]⟩⟩ => match P.underlying t with
    | some .string => one o .lenT .pure x
    | some (.slice _) => one o .len .pure x
    | _ => none
  | ⟨.builtin .cap, ⟨[x]⟩, ⟨[t]⟩⟩ => match sliceEl P t with | some _ => one o .cap .pure x | none => none
  | ⟨.builtin .append, ⟨[x, y]⟩, ⟨[t, u]⟩⟩ => match sliceEl P t with
    | some el => match elemV P el with
      | some (k, z) => match P.underlying u with
        | some (.int _) => both o (.apz el z) .loud x y
        | some .string => match Nat.beq k 1 with | true => both o (.app el k) .loud x y | false => none
        | some (.slice _) => both o (.app el k) .loud x y
        | _ => none
      | none => none
    | none => none
  | ⟨.builtin .copy, ⟨[x, y]⟩, ⟨[t, _]⟩⟩ => match sliceEl P t with
    | some el => match elemV P el with | some (k, _) => both o (.cpy k) .loud x y | none => none
    | none => none
  | ⟨.builtin .clear, ⟨[x]⟩, ⟨[t]⟩⟩ => match sliceEl P t with
    | some el => match elemV P el with | some (_, z) => one o (.clr z) .loud x | none => none
    | none => none
  | ⟨.builtin .min, ⟨[x, y]⟩, ⟨[t, _]⟩⟩ => match P.underlying t with | some (.int k) => both o (.bin (.min (kc k) (km k) (ks k))) .pure x y | _ => none
  | ⟨.builtin .max, ⟨[x, y]⟩, ⟨[t, _]⟩⟩ => match P.underlying t with | some (.int k) => both o (.bin (.max (kc k) (km k) (ks k))) .pure x y | _ => none
  | ⟨.value (.func n), ⟨as⟩, _⟩ => match ofOs o as with | some l => some (.loud, .calF n l) | none => none
  | ⟨.value g, ⟨as⟩, _⟩ => match ofOs o as with
    | some l => one o (fun g => .cal g l) .loud g
    | none => none
  | _ => none
def insV : Op → Option (Kd × Ins)
  | .move x => one o .mov .pure x
  | .assign x => one o .mov .pure x
  | .pick c a b => match o c with | some c => both o (.pick c) .pure a b | none => none
  | .extract x i => one o (fun x => .ext x i) .pure x
  | .nilCheck x => one o .chk .pure x
  | .fieldAddr t x i => match P.underlying t with
    | some (.struct fs) => match fs[i]? with
      | some f => match sizeV P f.type with | some (_ + 1) => one o (fun x => .fld x f.offset) .pure x | _ => none
      | none => none
    | _ => none
  | .makeFunc (.func n) ⟨fs⟩ ⟨cs⟩ => match ofOs o fs with
    | some a => match ofOs o cs with | some l => some (.pure, .mkf n a l) | none => none
    | none => none
  | .unOp .not _ x => one o .not .pure x
  | .binOp op t x y _ => match binV P op t y with | some b => both o (.bin b) .pure x y | none => none
  | .load t x => match aggV P t with
    | some none => one o .ld1 .read x
    | some (some n) => one o (.ldA n) .read x
    | none => none
  | .store t x y => match aggV P t with
    | some none => both o .st1 .loud x y
    | some (some n) => both o (.stA n) .loud x y
    | none => none
  | .alloc t => match zeroV P t with | some z => some (.loud, .alc t z) | none => none
  | .box t x => one o (.box t) .loud x
  | .build t ⟨ps⟩ => match P.underlying t with
    | some (.struct fs) => match bldOk P t with
      | true => match zeroV P t with
        | some z => match partsV P o fs ps with | some l => some (.pure, .bld z l) | none => none
        | none => none
      | false => none
    | some (.array _ el) => match zeroV P t with
      | some z => match sizeV P el with
        | some k => match partsL o k ps with | some l => some (.pure, .bld z l) | none => none
        | none => none
      | none => none
    | _ => none
  | .buildSlice t len ⟨ps⟩ => match sliceEl P t with
    | some el => match elemV P el with
      | some (k, z) => match Nat.ble (len * k) 16777216 with
        | true => match partsL o k ps with | some l => some (.loud, .bls el len (repN' z len) l) | none => none
        | false => none
      | none => none
    | none => none
  | .indexAddr t x i => match P.underlying t with
    | some (.slice el) => match sizeV P el with | some k => both o (.ixS k) .pure x i | none => none
    | some (.array n el) => match sizeV P el with | some k => both o (.ixA n k) .pure x i | none => none
    | _ => none
  | .index t x i => match P.underlying t with
    | some .string => both o .ixT .pure x i
    | some (.array n el) => match aggV P el with | some none => both o (.ixG n) .pure x i | _ => none
    | _ => none
  | .slice t x lo hi none => match P.underlying t with
    | some .string => cutV o .cutT x lo hi
    | some (.slice el) => match sizeV P el with | some k => cutV o (.cutL k) x lo hi | none => none
    | some (.array n el) => match sizeV P el with | some k => cutV o (.cutA n k) x lo hi | none => none
    | _ => none
  | .makeSlice t l c => match sliceEl P t with
    | some el => match elemV P el with | some (_, z) => both o (.mks el z) .loud l c | none => none
    | none => none
  | .convert s t x => match P.underlying s with
    | some (.int j) => match P.underlying t with | some (.int k) => one o (.cvi (kc j) (km j) (kb j) (kc k) (km k)) .pure x | _ => none
    | some .string => match sliceEl P t with
      | some e => match P.underlying e with | some (.int .u8) => one o (.s2b e) .loud x | _ => none
      | none => none
    | some (.slice e) => match P.underlying e with
      | some (.int .u8) => match P.underlying t with | some .string => one o .b2s .read x | _ => none
      | _ => none
    | _ => none
  | .sliceToArrayPointer t x => match P.underlying t with | some (.array n _) => one o (.s2a n) .pure x | _ => none
  | .range t x => match P.underlying t with | some .string => one o .rng .loud x | _ => none
  | .next x true => one o .nxt .loud x
  | .call c => callV P o c
  | _ => none
where
  repN' (z : List C) : Nat → List C
  | 0 => []
  | n + 1 => z ++ repN' z n
end
def opV (o : Operand → Option O) (x : Op) : Kd × Ins := match insV P o x with | some x => x | none => (.loud, .bad)
/-- Without the names of a frame's slot. -/
def drop (j : Nat) : Lm → Lm
  | [] => []
  | (t, .al i) :: r => match Nat.beq i j with | true => drop j r | false => (t, .al i) :: drop j r
  | x :: r => x :: drop j r
def unmv : Op → Option Operand
  | .move x => some x
  | .assign x => some x
  | _ => none
/-- A name that costs no step. -/
def nameV (o : Operand → Option O) (n : Nat) (x : Op) : Option Lc := match unmv x with
  | some y => match o y with
    | some (.l d) => some (.st (n - 1 - d))
    | some (.f j) => some (.al j)
    | some (.c v) => some (.cn v)
    | none => none
  | none => none
def grdV (o : Operand → Option O) (ops : List Oper) (j : Nat) : Option O := match nth ops j with
  | some x => match x.dst with | some d => o (.tmp d) | none => none
  | none => none
/-- The steps of an operation; the names and how many values there are then. -/
def opS (fm : List (Nat × Nat)) (ops : List Oper) (x : Oper) (L : Lm) (n : Nat) : Option (List Sp × Lm × Nat) :=
  match x.guard with
  | none => match x.dst with
    | none => some ([.do .no (opV P (ofO fm L n) x.op).2], L, n)
    | some d => match lk fm d with
      | some j => some ([.do (.set j) (opV P (ofO fm L n) x.op).2], drop j L, n)
      | none => match lk L d with
        | some _ => none
        | none => match nameV (ofO fm L n) n x.op with
          | some c => some ([], (d, c) :: L, n)
          | none => some ([.do .push (opV P (ofO fm L n) x.op).2], (d, .st n) :: L, n + 1)
  | some (g, want) => match grdV (ofO fm L n) ops g with
    | some go => match x.dst with
      | none => some ([.if go want .no (opV P (ofO fm L n) x.op).2], L, n)
      | some d => match lk fm d with
        | some j => some ([.if go want (.set j) (opV P (ofO fm L n) x.op).2], drop j L, n)
        | none => match lk L d with
          | some _ => none
          | none => some ([.if go want .push (opV P (ofO fm L n) x.op).2], (d, .st n) :: L, n + 1)
    | none => none
/-- The steps of these operations, in this order. -/
def regV (fm : List (Nat × Nat)) (ops : List Oper) : List Oper → Lm → Nat → Option (List Sp)
  | [], _, _ => some []
  | x :: r, L, n => match opS P fm ops x L n with
    | some (st, L', n') => match regV fm ops r L' n' with | some l => some (st ++ l) | none => none
    | none => none
/-! ### Regions that draw their order -/
/-- What is read: one cell, so many, bytes as a text. -/
inductive Rk where
  | l1
  | lA (n : Nat)
  | bs
def rdK : Op → Option (Rk × Operand)
  | .load t x => match aggV P t with
    | some none => some (.l1, x)
    | some (some n) => some (.lA n, x)
    | none => none
  | .convert s t x => match P.underlying s with
    | some (.slice e) => match P.underlying e with
      | some (.int .u8) => match P.underlying t with
        | some .string => some (.bs, x)
        | _ => none
      | _ => none
    | _ => none
  | _ => none
def kdOf (x : Op) : Kd := (opV P (fun _ => some (.f 0)) x).1
def quiet (k : Kd) : Bool := match k with | .loud => false | _ => true
def isMk : Op → Bool
  | .alloc _ => true
  | .buildSlice _ _ ⟨_⟩ => true
  | .box _ _ => true
  | _ => false
/-- An operation that makes a block. -/
def makes (ops : List Oper) (i : Nat) : Bool := match nth ops i with
  | some o => isMk o.op && (match o.guard with | none => true | some _ => false) && (match o.dst with | none => false | some _ => true)
  | none => false
def quietAt (ops : List Oper) (i : Nat) : Bool := match nth ops i with | some o => quiet (kdOf P o.op) | none => false
def marked (l : List Nat) (listed : List Bool) : List Bool := l.foldl (fun r i => r.set i true) listed
/-- What comes ahead of an operation: those of a list from high to low. -/
def preds (ops : List Oper) (i : Nat) : List Nat := match nth ops i with | some o => (o.after.toList.filter fun e => Region.binds .any e).map (·.on) | none => []
/-- The same, as the bits of a number. -/
def predsM (ops : List Oper) (i : Nat) : Nat := (preds ops i).foldl (fun s k => Nat.lor s (Nat.shiftLeft 1 k)) 0
def ancsM (ops : List Oper) : List Nat → Nat → Nat
  | [], s => s
  | i :: r, s => match Nat.testBit s i with | true => ancsM ops r (Nat.lor s (predsM ops i)) | false => ancsM ops r s
def ancsOf (ops : List Oper) (j : Nat) : List Nat := (List.range ops.length).filter fun i => Nat.testBit (ancsM ops (List.range ops.length).reverse (predsM ops j)) i
inductive Pi where
  | q (i : Nat)
  | l (i : Nat)
  | f (i : Nat)
  | m (i : Nat)
def rdy (ops : List Oper) (ld : List Bool) : List Nat := Region.ready .any ops.toArray ld.toArray
def qOk (ops : List Oper) (ld : List Bool) (i : Nat) : Bool := Region.noSelect ops.toArray && Region.free .any ops.toArray ld.toArray i && (rdy ops ld).contains i
/-- The makers that may come up are known. -/
def mOk (ops : List Oper) (M : List Nat) (ld : List Bool) (Z : List (Nat × Nat)) : Bool :=
  M.all fun m => ld.getD m true || (lk Z m).isSome || !((rdy ops (marked (M.filter fun z => !(Nat.beq z m)) ld)).contains m)
def lOk (ops : List Oper) (M : List Nat) (ld : List Bool) (Z : List (Nat × Nat)) (j : Nat) : Bool :=
  (rdy ops ld).contains j && !(M.contains j) && (rdy ops (marked M ld)).all (fun i => Nat.beq i j || M.contains i) && mOk ops M ld Z
def zOk (ops : List Oper) (M : List Nat) (ld : List Bool) (Z : List (Nat × Nat)) (z : Nat) : Bool :=
  (rdy ops ld).contains z && (rdy ops (marked (M.filter fun y => !(Nat.beq y z)) ld)).all (fun i => M.contains i) && mOk ops M ld Z
/-- An order: what is quiet as soon as it may come; of the rest what alone may come, but for what makes a block; that, where nothing else may. -/
def planD (ops : List Oper) (M : List Nat) : Nat → List Bool → List Nat → Option (List Pi)
  | 0, _, _ => some []
  | f + 1, ld, F => match (List.range ops.length).find? (fun i => !(ld.getD i true) && quietAt P ops i && qOk ops ld i) with
    | some i => match planD ops M f (ld.set i true) F with | some l => some (.q i :: l) | none => none
    | none => match M.find? (fun m => !(ld.getD m true) && !(F.contains m) && (rdy ops (marked (M.filter fun z => !(Nat.beq z m)) ld)).contains m) with
      | some m => match planD ops M f ld (m :: F) with | some l => some (.f m :: l) | none => none
      | none => match (rdy ops ld).find? (fun i => !(M.contains i)) with
        | some j => match planD ops M f (ld.set j true) F with | some l => some (.l j :: l) | none => none
        | none => match (rdy ops ld) with
          | z :: _ => match planD ops M f (ld.set z true) F with | some l => some (.m z :: l) | none => none
          | [] => some []
/-- The slots of an operation that must stay as they are. -/
def slotsOf (ops : List Oper) (i : Nat) : List Nat := match nth ops i with
  | some o => o.looksAt ops.toArray ++ o.dst.toList
  | none => []
def keepsP (ops : List Oper) (pend : List Nat) (d : Option Nat) : Bool := match d with
  | some d => pend.all fun i => !((slotsOf ops i).contains d)
  | none => true
def selfOk (ops : List Oper) (x : Oper) : Bool := match x.dst with | some d => !((x.looksAt ops.toArray).contains d) | none => (rdK P x.op).isNone
def apartZ (ops : List Oper) (Z : List (Nat × Nat)) (x : Oper) : Bool := Z.all fun z => match nth ops z.1 with | some o => o.apart ops.toArray x | none => false
/-- What was read is looked at again. -/
def agS (fm : List (Nat × Nat)) (ops : List Oper) (L : Lm) (n : Nat) : List Nat → Option (List Sp)
  | [] => some []
  | i :: r => match nth ops i with
    | some o => match o.dst with
      | some d => match ofO fm L n (.tmp d) with
        | some y => match agS fm ops L n r with
          | some l => match o.guard with
            | none => some (.ag y (opV P (ofO fm L n) o.op).2 :: l)
            | some (g, want) => match grdV (ofO fm L n) ops g with
              | some go => some (.agI go want y (opV P (ofO fm L n) o.op).2 :: l)
              | none => none
          | none => none
        | none => none
      | none => none
    | none => none
def dropK {α : Type} (d : Nat) : List (Nat × α) → List (Nat × α)
  | [] => []
  | (t, x) :: r => match Nat.beq t d with | true => dropK d r | false => (t, x) :: dropK d r
/-- A maker's cells. -/
def fillI (o : Operand → Option O) : Op → Option Ins
  | .alloc t => match zeroV P t with | some z => some (.mov (.c (.g z))) | none => none
  | .box _ x => match o x with | some a => some (.cel a) | none => none
  | .buildSlice t len ⟨ps⟩ => match sliceEl P t with
    | some el => match elemV P el with
      | some (k, z) => match Nat.ble (len * k) 16777216 with
        | true => match partsL o k ps with | some l => some (.bld (insV.repN' z len) l) | none => none
        | false => none
      | none => none
    | none => none
  | _ => none
def makeI (x : O) : Op → Option Ins
  | .alloc t => some (.mkp t x)
  | .box t _ => some (.mkp t x)
  | .buildSlice t len _ => match sliceEl P t with | some el => some (.mkl el len x) | none => none
  | _ => none
def subF (fm fm' : List (Nat × Nat)) : Bool := fm.all fun x => match lk fm' x.1 with | some j => Nat.beq j x.2 | none => false
def regD (fm : List (Nat × Nat)) (ops : List Oper) (M : List Nat) : List Pi → List (Nat × Nat) → Lm → Nat → List Bool → List (Nat × Nat) → List Nat → Option (List Sp)
  | [], fc, _, _, ld, _, _ => match ld.all id && subF fm fc with | true => some [] | false => none
  | .q i :: r, fc, L, n, ld, Z, pend => match nth ops i with
    | some x => match quiet (kdOf P x.op) && quiet (opV P (ofO fc L n) x.op).1 && qOk ops ld i && apartZ ops Z x && keepsP ops pend x.dst && selfOk P ops x with
      | true => match opS P fc ops x L n with
        | some (st, L', n') => match regD fm ops M r fc L' n' (ld.set i true) Z (match rdK P x.op with | some _ => i :: pend | none => pend) with
          | some l => some (st ++ l)
          | none => none
        | none => none
      | false => none
    | none => none
  | .l j :: r, fc, L, n, ld, Z, pend => match nth ops j with
    | some x => match lOk ops M ld Z j && !(quiet (kdOf P x.op)) && apartZ ops Z x && keepsP ops (pend.filter fun i => !((ancsOf ops j).contains i)) x.dst with
      | true => match opS P fc ops x L n with
        | some (st, L', n') => match agS P fc ops L' n' (pend.filter fun i => !((ancsOf ops j).contains i)) with
          | some ag => match regD fm ops M r fc L' n' (ld.set j true) Z (pend.filter fun i => !((ancsOf ops j).contains i)) with
            | some l => some (st ++ (ag ++ l))
            | none => none
          | none => none
        | none => none
      | false => none
    | none => none
  | .f z :: r, fc, L, n, ld, Z, pend => match nth ops z with
    | some x => match makes ops z && M.contains z && !(ld.getD z true) && (lk Z z).isNone && apartZ ops Z x && keepsP ops pend x.dst with
      | true => match x.dst with
        | some d => match fillI P (ofO fc L n) x.op with
          | some i => match regD fm ops M r (dropK d fc) (dropK d L) (n + 1) ld ((z, n) :: Z) pend with
            | some l => some (.do .push i :: l)
            | none => none
          | none => none
        | none => none
      | false => none
    | none => none
  | .m z :: r, fc, L, n, ld, Z, pend => match nth ops z with
    | some x => match zOk ops M ld Z z && apartZ ops (dropK z Z) x with
      | true => match x.dst with
        | some d => match lk Z z with
          | some p => match makeI P (.l (n - 1 - p)) x.op with
            | some i => match lk fm d with
              | some j => match regD fm ops M r ((d, j) :: fc) (drop j L) n (ld.set z true) (dropK z Z) pend with
                | some l => some (.do (.set j) i :: l)
                | none => none
              | none => match lk L d with
                | some _ => none
                | none => match regD fm ops M r fc ((d, .st n) :: L) (n + 1) (ld.set z true) (dropK z Z) pend with
                  | some l => some (.do .push i :: l)
                  | none => none
            | none => none
          | none => none
        | none => none
      | false => none
    | none => none
def mksV (ops : List Oper) : List Nat := (List.range ops.length).filter (makes ops)
def regDV (fm : List (Nat × Nat)) (ops : List Oper) : Option (List Sp) := match Region.noSelect ops.toArray with
  | true => match planD P ops (mksV ops) (ops.length + ops.length) (List.replicate ops.length false) [] with
    | some pl => regD P fm ops (mksV ops) pl fm [] 0 (List.replicate ops.length false) [] []
    | none => none
  | false => none
def codeV (fm : List (Nat × Nat)) : Code → Option Cd
  | .skip => some .skip
  | .ret => some .ret
  | .exit id => some (.exit id)
  | .region _ ⟨l⟩ false => match regV P fm l l [] 0 with | some s => some (.reg s) | none => none
  | .region _ ⟨l⟩ true => match regDV P fm l with | some s => some (.reg s) | none => some .bad
  | .seq a b => match codeV fm a with
    | some x => match codeV fm b with | some y => some (.seq x y) | none => none
    | none => none
  | .cond c a b => match ofO fm [] 0 c with
    | some o => match codeV fm a with
      | some x => match codeV fm b with | some y => some (.cond o x y) | none => none
      | none => none
    | none => none
  | .block id c => match codeV fm c with | some x => some (.block id x) | none => none
  | .loop c => match codeV fm c with | some x => some (.loop x) | none => none
  | _ => some .bad
/-- All slots that are written lie in the frame. -/
def codeOk (nt : Nat) : Code → Bool
  | .region _ ⟨l⟩ _ => dstsOk nt l
  | .seq a b => codeOk nt a && codeOk nt b
  | .cond _ a b => codeOk nt a && codeOk nt b
  | .block _ c => codeOk nt c
  | .loop c => codeOk nt c
  | _ => true
/-- The frame's slots: the arguments first, no place twice. -/
def fmOk (np : Nat) : List (Nat × Nat) → Bool
  | [] => true
  | (t, j) :: r => (match Nat.blt t np with | true => Nat.beq j t | false => Nat.ble np j) && r.all (fun x => !(Nat.beq x.2 j)) && fmOk np r
def resV (fm : List (Nat × Nat)) : List ResultVar → Option (List Rs)
  | [] => some []
  | .tmp t :: r => match ofO fm [] 0 (.tmp t) with
    | some o => match resV fm r with | some l => some (.v o :: l) | none => none
    | none => none
  | .cell a t :: r => match ofO fm [] 0 (.tmp a) with
    | some o => match aggV P t with
      | some none => match resV fm r with | some l => some (.c1 o :: l) | none => none
      | some (some n) => match resV fm r with | some l => some (.cn o n :: l) | none => none
      | none => none
    | none => none
def funV (n : Nat) (fm : List (Nat × Nat)) : Option Fd := match P.funcs[n]? with
  | some f => match callOk P n && codeOk f.ntmps (f.body.getD .skip) && fmOk (f.params.size + f.nfree) fm && Nat.ble (f.params.size + f.nfree) f.ntmps with
    | true => match f.body with
      | some c => match codeV P fm c with
        | some k => match resV P fm f.results.toList with | some r => some ⟨k, r, f.params.size + f.nfree⟩ | none => none
        | none => none
      | none => none
    | false => none
  | none => none
end
end Go.Ev
