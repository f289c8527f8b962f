/- Functions of the program as the evaluator takes them, printed by a program out of the program's form (part 1). No condition. -/
import Derived.Test.YtlamohamhbhkjaaGreatDoorOr
namespace Go.Ev
open Go.Eng
set_option maxRecDepth 100000
def m3 : List (Nat × Nat) := [(0, 0), (2, 1), (3, 2), (4, 3), (5, 4), (6, 5), (7, 6), (10, 7), (11, 8), (12, 9), (14, 10), (15, 11), (16, 12), (22, 13), (26, 14), (33, 15), (35, 16), (38, 17)]
/-- legate/legatelaw14.AcceptorAfter -/
noncomputable def u3 : Fu := ⟨(cSeq (cReg (regC [sSet 1 (xMov (.c (.c (.o (.b false)))))]))
  (cSeq (cSeq (cReg (regC [sPush (xBin (bLss 3 18446744073709551616 9223372036854775808) (.f 0) (.c (.c (.i 3 0)))),
    sIf (.l 0) false (sPush (xMov (.f 0))) (sPush (xMov (.c udf))),
    sIf (.l 1) false (sPush (xBin (bGtr 3 18446744073709551616 9223372036854775808) (.l 0) (.c (.c (.i 3 2))))) (sPush (xMov (.c udf))),
    sSet 13 (xPick (.l 2) (.c (.c (.o (.b true)))) (.l 0))]))
  (cCond (.f 13) (cSeq (cReg (regC [sPush (xCalF 7 []),
    sSet 1 (xMov (.l 0))]))
  cRet) cSkip))
  (cSeq (cReg (regC [sPush (xCalF 8 [(.c (.c (.i 3 0)))]),
    sSet 2 (xMov (.l 0))]))
  (cSeq (cSeq (cReg (regC [sSet 14 (xBin (bEqN 0) (.f 2) (.c (.c (.o (.np)))))]))
  (cCond (.f 14) (cSeq (cReg (regC [sSet 1 (xMov (.c (.c (.o (.b false)))))]))
  cRet) cSkip))
  (cSeq (cReg (regC [sPush (xCalF 9 []),
    sPush (xBld [.i 4 0, .i 4 0, .i 4 0, .i 4 0, .i 4 0, .i 4 0, .i 4 0, .i 4 0, .i 4 0, .i 4 0, .i 4 0, .i 4 0, .i 4 0, .i 4 0, .i 4 0, .i 4 0, .i 4 0, .i 4 0, .i 4 0, .i 4 0, .i 4 0, .i 4 0, .i 4 0, .i 4 0, .i 4 0, .i 4 0, .i 4 0, .i 4 0, .i 4 0, .i 4 0, .i 4 0, .i 4 0] [.mk 0 1 (.c (.c (.i 4 7)))]),
    sPush (xBld [.o (.s []), .o (.s []), .i 4 0, .i 4 0, .i 4 0, .i 4 0, .i 4 0, .i 4 0, .i 4 0, .i 4 0, .i 4 0, .i 4 0, .i 4 0, .i 4 0, .i 4 0, .i 4 0, .i 4 0, .i 4 0, .i 4 0, .i 4 0, .i 4 0, .i 4 0, .i 4 0, .i 4 0, .i 4 0, .i 4 0, .i 4 0, .i 4 0, .i 4 0, .i 4 0, .i 4 0, .i 4 0, .i 4 0, .i 4 0, .o (.s []), .i 3 0, .i 3 0] [.mk 0 2 (.l 1), .mk 2 32 (.l 0), .mk 34 1 (.c (.c (.o (.s [69, 68, 85])))), .mk 36 1 (.c (.c (.i 3 100)))]),
    sSet 3 (xAlc 31 [.o (.s []), .o (.s []), .i 4 0, .i 4 0, .i 4 0, .i 4 0, .i 4 0, .i 4 0, .i 4 0, .i 4 0, .i 4 0, .i 4 0, .i 4 0, .i 4 0, .i 4 0, .i 4 0, .i 4 0, .i 4 0, .i 4 0, .i 4 0, .i 4 0, .i 4 0, .i 4 0, .i 4 0, .i 4 0, .i 4 0, .i 4 0, .i 4 0, .i 4 0, .i 4 0, .i 4 0, .i 4 0, .i 4 0, .i 4 0, .o (.s []), .i 3 0, .i 3 0]),
    sDo (xStA 37 (.f 3) (.l 0))]))
  (cSeq (cReg (regC [sPush (xCalF 9 []),
    sPush (xBld [.o (.s []), .o (.s []), .i 3 0, .i 3 0] [.mk 0 2 (.l 0), .mk 2 1 (.c (.c (.i 3 50))), .mk 3 1 (.c (.c (.i 3 1)))]),
    sSet 4 (xAlc 33 [.o (.s []), .o (.s []), .i 3 0, .i 3 0]),
    sDo (xStA 4 (.f 4) (.l 0))]))
  (cSeq (cReg (regC [sPush (xLdA 37 (.f 3)),
    sSet 5 (xAlc 31 [.o (.s []), .o (.s []), .i 4 0, .i 4 0, .i 4 0, .i 4 0, .i 4 0, .i 4 0, .i 4 0, .i 4 0, .i 4 0, .i 4 0, .i 4 0, .i 4 0, .i 4 0, .i 4 0, .i 4 0, .i 4 0, .i 4 0, .i 4 0, .i 4 0, .i 4 0, .i 4 0, .i 4 0, .i 4 0, .i 4 0, .i 4 0, .i 4 0, .i 4 0, .i 4 0, .i 4 0, .i 4 0, .i 4 0, .i 4 0, .o (.s []), .i 3 0, .i 3 0]),
    sDo (xStA 37 (.f 5) (.l 0))]))
  (cSeq (cSeq (cReg (regC [sSet 15 (xMov (.f 0))]))
  (cBlock 0 (cSeq (cReg (regC [sPush (xBin (bEq 0) (.f 15) (.c (.c (.i 3 0)))),
    sSet 16 (xMov (.l 0))]))
  (cCond (.f 16) (cReg (regC [sPush (xFld (.f 5) 36),
    sDo (xSt1 (.l 0) (.c (.c (.i 3 49))))])) (cSeq (cReg (regC [sPush (xBin (bEq 0) (.f 15) (.c (.c (.i 3 1)))),
    sSet 17 (xMov (.l 0))]))
  (cCond (.f 17) (cReg (regC [sPush (xFld (.f 5) 34),
    sDo (xSt1 (.l 0) (.c (.c (.o (.s [67, 79, 77])))))])) (cReg (regC [sPush (xFld (.f 5) 34),
    sDo (xSt1 (.l 0) (.c (.c (.o (.s [120])))))]))))))))
  (cSeq (cReg (regC [sPush (xLdA 37 (.f 5)),
    sPush (xLdA 4 (.f 4)),
    sPush (xCalF 10 [(.c (.c (.i 3 2))), (.l 1), (.l 0)]),
    sPush (xExt (.l 0) 0),
    sPush (xExt (.l 1) 1),
    sSet 6 (xMov (.l 1))]))
  (cSeq (cReg (regC [sPush (xChk (.f 2)),
    sPush (xFld (.l 0) 0),
    sPush (xLd1 (.l 0)),
    sPush (xCalF 11 [(.l 0), (.f 6), (.c (.c (.i 3 50)))]),
    sPush (xExt (.l 0) 0),
    sPush (xExt (.l 1) 1),
    sPush (xAlc 39 [.o (.s []), .o (.s []), .o (.s []), .o (.s []), .i 4 0, .i 4 0, .i 4 0, .i 4 0, .i 4 0, .i 4 0, .i 4 0, .i 4 0, .i 4 0, .i 4 0, .i 4 0, .i 4 0, .i 4 0, .i 4 0, .i 4 0, .i 4 0, .i 4 0, .i 4 0, .i 4 0, .i 4 0, .i 4 0, .i 4 0, .i 4 0, .i 4 0, .i 4 0, .i 4 0, .i 4 0, .i 4 0, .i 4 0, .i 4 0, .i 4 0, .i 4 0, .o (.ns), .i 3 0, .i 3 0]),
    sDo (xStA 39 (.l 0) (.l 2)),
    sSet 7 (xMov (.l 1))]))
  (cSeq (cReg (regC [sPush (xLdA 37 (.f 3)),
    sPush (xLdA 4 (.f 4)),
    sPush (xCalF 10 [(.c (.c (.i 3 1))), (.l 1), (.l 0)]),
    sPush (xExt (.l 0) 0),
    sPush (xExt (.l 1) 1),
    sSet 8 (xMov (.l 1)),
    sSet 9 (xMov (.l 0))]))
  (cSeq (cReg (regC [sPush (xChk (.f 2)),
    sPush (xFld (.l 0) 0),
    sPush (xLd1 (.l 0)),
    sPush (xCalF 11 [(.l 0), (.f 8), (.c (.c (.i 3 50)))]),
    sPush (xExt (.l 0) 0),
    sPush (xExt (.l 1) 1),
    sPush (xAlc 39 [.o (.s []), .o (.s []), .o (.s []), .o (.s []), .i 4 0, .i 4 0, .i 4 0, .i 4 0, .i 4 0, .i 4 0, .i 4 0, .i 4 0, .i 4 0, .i 4 0, .i 4 0, .i 4 0, .i 4 0, .i 4 0, .i 4 0, .i 4 0, .i 4 0, .i 4 0, .i 4 0, .i 4 0, .i 4 0, .i 4 0, .i 4 0, .i 4 0, .i 4 0, .i 4 0, .i 4 0, .i 4 0, .i 4 0, .i 4 0, .i 4 0, .i 4 0, .o (.ns), .i 3 0, .i 3 0]),
    sDo (xStA 39 (.l 0) (.l 2)),
    sSet 10 (xMov (.l 1))]))
  (cSeq (cReg (regC [sPush (xCalF 12 [(.f 8)]),
    sPush (xExt (.l 0) 0),
    sPush (xExt (.l 1) 1),
    sSet 11 (xAlc 60 [.i 3 0, .o (.s []), .o (.s []), .o (.s []), .o (.s []), .i 3 0, .i 3 0, .o (.s []), .o (.s []), .i 3 0, .o (.ns), .o (.ns), .o (.s []), .o (.s []), .i 3 0, .i 3 0, .o (.s []), .o (.s []), .o (.s []), .o (.s []), .i 3 0, .o (.ns), .o (.ns), .o (.s []), .o (.s []), .i 3 0, .o (.ns), .o (.ns), .i 3 0, .i 3 0]),
    sDo (xStA 30 (.f 11) (.l 1)),
    sSet 12 (xMov (.l 0))]))
  (cSeq (cReg (regC [sIf (.f 9) true (sPush (xMov (.f 7))) (sPush (xMov (.c udf))),
    sIf (.f 9) true (sPush (xBin (bNe 0) (.l 0) (.c (.c (.i 3 0))))) (sPush (xMov (.c udf))),
    sPush (xPick (.f 9) (.l 0) (.c (.c (.o (.b false))))),
    sIf (.l 0) true (sPush (xMov (.f 10))) (sPush (xMov (.c udf))),
    sIf (.l 1) true (sPush (xBin (bEq 0) (.l 0) (.c (.c (.i 3 0))))) (sPush (xMov (.c udf))),
    sPush (xPick (.l 2) (.l 0) (.c (.c (.o (.b false))))),
    sIf (.l 0) true (sPush (xMov (.f 12))) (sPush (xMov (.c udf))),
    sIf (.l 1) true (sPush (xBin (bEq 0) (.l 0) (.c (.c (.i 3 0))))) (sPush (xMov (.c udf))),
    sPush (xPick (.l 2) (.l 0) (.c (.c (.o (.b false))))),
    sIf (.l 0) true (sPush (xFld (.f 11) 23)) (sPush (xMov (.c udf))),
    sIf (.l 1) true (sPush (xFld (.l 0) 0)) (sPush (xMov (.c udf))),
    sIf (.l 2) true (sPush (xFld (.l 0) 2)) (sPush (xMov (.c udf))),
    sIf (.l 3) true (sPush (xLd1 (.l 0))) (sPush (xMov (.c udf))),
    sIf (.l 4) true (sPush (xBin (bEq 0) (.l 0) (.c (.c (.i 3 1))))) (sPush (xMov (.c udf))),
    sPush (xPick (.l 5) (.l 0) (.c (.c (.o (.b false))))),
    sIf (.l 0) true (sPush (xCalF 7 [])) (sPush (xMov (.c udf))),
    sPush (xPick (.l 1) (.l 0) (.c (.c (.o (.b false))))),
    sSet 1 (xMov (.l 0))]))
  cRet)))))))))))))),
  [.v (.f 1)], 1⟩
def m7 : List (Nat × Nat) := [(0, 0), (1, 1), (2, 2), (4, 3), (5, 4), (7, 5), (8, 6), (9, 7), (12, 8)]
/-- legate/legatelaw14.known -/
noncomputable def u7 : Fu := ⟨(cSeq (cReg (regC [sSet 0 (xMov (.c (.c (.o (.b false)))))]))
  (cSeq (cReg (regC [sPush (xCalF 8 [(.c (.c (.i 3 0)))]),
    sSet 1 (xMov (.l 0))]))
  (cSeq (cSeq (cReg (regC [sSet 8 (xBin (bEqN 0) (.f 1) (.c (.c (.o (.np)))))]))
  (cCond (.f 8) (cSeq (cReg (regC [sSet 0 (xMov (.c (.c (.o (.b false)))))]))
  cRet) cSkip))
  (cSeq (cReg (regC [sPush (xCalF 19 [(.c (.c (.i 3 9))), (.c (.c (.i 3 1))), (.c (.c (.o (.s [69, 68, 85]))))]),
    sPush (xExt (.l 0) 0),
    sPush (xExt (.l 1) 1),
    sSet 2 (xMov (.l 1))]))
  (cSeq (cReg (regC [sPush (xChk (.f 1)),
    sPush (xFld (.l 0) 0),
    sPush (xLd1 (.l 0)),
    sPush (xCalF 11 [(.l 0), (.f 2), (.c (.c (.i 3 9)))]),
    sPush (xExt (.l 0) 0),
    sPush (xExt (.l 1) 1),
    sSet 3 (xAlc 39 [.o (.s []), .o (.s []), .o (.s []), .o (.s []), .i 4 0, .i 4 0, .i 4 0, .i 4 0, .i 4 0, .i 4 0, .i 4 0, .i 4 0, .i 4 0, .i 4 0, .i 4 0, .i 4 0, .i 4 0, .i 4 0, .i 4 0, .i 4 0, .i 4 0, .i 4 0, .i 4 0, .i 4 0, .i 4 0, .i 4 0, .i 4 0, .i 4 0, .i 4 0, .i 4 0, .i 4 0, .i 4 0, .i 4 0, .i 4 0, .i 4 0, .i 4 0, .o (.ns), .i 3 0, .i 3 0]),
    sDo (xStA 39 (.f 3) (.l 1)),
    sSet 4 (xMov (.l 0))]))
  (cSeq (cReg (regC [sPush (xChk (.f 1)),
    sPush (xFld (.l 0) 0),
    sPush (xLd1 (.l 0)),
    sPush (xCalF 11 [(.l 0), (.f 2), (.c (.c (.i 3 9)))]),
    sPush (xExt (.l 0) 0),
    sPush (xExt (.l 1) 1),
    sPush (xAlc 39 [.o (.s []), .o (.s []), .o (.s []), .o (.s []), .i 4 0, .i 4 0, .i 4 0, .i 4 0, .i 4 0, .i 4 0, .i 4 0, .i 4 0, .i 4 0, .i 4 0, .i 4 0, .i 4 0, .i 4 0, .i 4 0, .i 4 0, .i 4 0, .i 4 0, .i 4 0, .i 4 0, .i 4 0, .i 4 0, .i 4 0, .i 4 0, .i 4 0, .i 4 0, .i 4 0, .i 4 0, .i 4 0, .i 4 0, .i 4 0, .i 4 0, .i 4 0, .o (.ns), .i 3 0, .i 3 0]),
    sDo (xStA 39 (.l 0) (.l 2)),
    sSet 5 (xMov (.l 1))]))
  (cSeq (cReg (regC [sPush (xChk (.f 1)),
    sPush (xFld (.l 0) 0),
    sPush (xLd1 (.l 0)),
    sPush (xCalF 18 [(.l 0)]),
    sPush (xExt (.l 0) 0),
    sPush (xExt (.l 1) 1),
    sSet 6 (xMov (.l 1)),
    sSet 7 (xMov (.l 0))]))
  (cSeq (cReg (regC [sPush (xBin (bEq 0) (.f 4) (.c (.c (.i 3 0)))),
    sIf (.l 0) true (sPush (xMov (.f 5))) (sPush (xMov (.c udf))),
    sIf (.l 1) true (sPush (xBin (bEq 0) (.l 0) (.c (.c (.i 3 12))))) (sPush (xMov (.c udf))),
    sPush (xPick (.l 2) (.l 0) (.c (.c (.o (.b false))))),
    sIf (.l 0) true (sPush (xFld (.f 3) 0)) (sPush (xMov (.c udf))),
    sIf (.l 1) true (sPush (xLdA 2 (.l 0))) (sPush (xMov (.c udf))),
    sIf (.l 2) true (sPush (xCalF 9 [])) (sPush (xMov (.c udf))),
    sAgI (.l 3) true (sAg (.l 1) (xLdA 2 (.l 2))),
    sIf (.l 3) true (sPush (xBin (gEq [1, 1]) (.l 1) (.l 0))) (sPush (xMov (.c udf))),
    sPush (xPick (.l 4) (.l 0) (.c (.c (.o (.b false))))),
    sIf (.l 0) true (sPush (xFld (.f 3) 36)) (sPush (xMov (.c udf))),
    sIf (.l 1) true (sPush (xLd1 (.l 0))) (sPush (xMov (.c udf))),
    sIf (.l 2) true (sPush (xLen (.l 0))) (sPush (xMov (.c udf))),
    sIf (.l 3) true (sPush (xBin (bEq 0) (.l 0) (.c (.c (.i 3 1))))) (sPush (xMov (.c udf))),
    sPush (xPick (.l 4) (.l 0) (.c (.c (.o (.b false))))),
    sIf (.l 0) true (sPush (xMov (.f 6))) (sPush (xMov (.c udf))),
    sIf (.l 1) true (sPush (xBin (bEq 0) (.l 0) (.c (.c (.i 3 1))))) (sPush (xMov (.c udf))),
    sPush (xPick (.l 2) (.l 0) (.c (.c (.o (.b false))))),
    sIf (.l 0) true (sPush (xMov (.f 7))) (sPush (xMov (.c udf))),
    sIf (.l 1) true (sPush (xBin (bEq 0) (.l 0) (.c (.c (.i 3 1))))) (sPush (xMov (.c udf))),
    sPush (xPick (.l 2) (.l 0) (.c (.c (.o (.b false))))),
    sSet 0 (xMov (.l 0))]))
  cRet)))))))),
  [.v (.f 0)], 0⟩
def m8 : List (Nat × Nat) := [(0, 0), (2, 1), (3, 2), (4, 3), (5, 4), (6, 5), (7, 6), (13, 7), (51, 8)]
/-- legate/legatelaw14.begin -/
noncomputable def u8 : Fu := ⟨(cSeq (cReg (regC [sSet 1 (xMov (.c (.c (.o (.np)))))]))
  (cSeq (cReg (regC [sPush (xCalF 23 []),
    sPush (xBld [.o (.ns)] []),
    sPush (xBox 97 (.l 0)),
    sSet 2 (xMov (.l 2)),
    sSet 3 (xMov (.l 0))]))
  (cSeq (cSeq (cReg (regC [sSet 7 (xBin (bEqN 0) (.f 2) (.c (.c (.o (.np)))))]))
  (cCond (.f 7) (cSeq (cReg (regC [sSet 1 (xMov (.c (.c (.o (.np)))))]))
  cRet) cSkip))
  (cSeq (cReg (regC [sPush (xCalF 21 []),
    sPush (xBld [.i 4 0, .i 4 0, .i 4 0, .i 4 0, .i 4 0, .i 4 0, .i 4 0, .i 4 0, .i 4 0, .i 4 0, .i 4 0, .i 4 0, .i 4 0, .i 4 0, .i 4 0, .i 4 0, .i 4 0, .i 4 0, .i 4 0, .i 4 0, .i 4 0, .i 4 0, .i 4 0, .i 4 0, .i 4 0, .i 4 0, .i 4 0, .i 4 0, .i 4 0, .i 4 0, .i 4 0, .i 4 0] [.mk 0 1 (.c (.c (.i 4 1)))]),
    sPush (xCalF 24 [(.f 2), (.l 1), (.l 0)])]))
  (cSeq (cReg (regC [sPush (xCalF 21 []),
    sPush (xBld [.i 4 0, .i 4 0, .i 4 0, .i 4 0, .i 4 0, .i 4 0, .i 4 0, .i 4 0, .i 4 0, .i 4 0, .i 4 0, .i 4 0, .i 4 0, .i 4 0, .i 4 0, .i 4 0, .i 4 0, .i 4 0, .i 4 0, .i 4 0, .i 4 0, .i 4 0, .i 4 0, .i 4 0, .i 4 0, .i 4 0, .i 4 0, .i 4 0, .i 4 0, .i 4 0, .i 4 0, .i 4 0] [.mk 0 1 (.c (.c (.i 4 1)))]),
    sPush (xCalF 25 [(.f 3), (.l 1), (.l 0)])]))
  (cSeq (cReg (regC [sPush (xCalF 21 []),
    sPush (xBld [.i 4 0, .i 4 0, .i 4 0, .i 4 0, .i 4 0, .i 4 0, .i 4 0, .i 4 0, .i 4 0, .i 4 0, .i 4 0, .i 4 0, .i 4 0, .i 4 0, .i 4 0, .i 4 0, .i 4 0, .i 4 0, .i 4 0, .i 4 0, .i 4 0, .i 4 0, .i 4 0, .i 4 0, .i 4 0, .i 4 0, .i 4 0, .i 4 0, .i 4 0, .i 4 0, .i 4 0, .i 4 0] [.mk 0 1 (.c (.c (.i 4 2)))]),
    sPush (xCalF 24 [(.f 2), (.l 1), (.l 0)])]))
  (cSeq (cReg (regC [sPush (xCalF 21 []),
    sPush (xBld [.i 4 0, .i 4 0, .i 4 0, .i 4 0, .i 4 0, .i 4 0, .i 4 0, .i 4 0, .i 4 0, .i 4 0, .i 4 0, .i 4 0, .i 4 0, .i 4 0, .i 4 0, .i 4 0, .i 4 0, .i 4 0, .i 4 0, .i 4 0, .i 4 0, .i 4 0, .i 4 0, .i 4 0, .i 4 0, .i 4 0, .i 4 0, .i 4 0, .i 4 0, .i 4 0, .i 4 0, .i 4 0] [.mk 0 1 (.c (.c (.i 4 2)))]),
    sPush (xCalF 25 [(.f 3), (.l 1), (.l 0)])]))
  (cSeq (cReg (regC [sPush (xCalF 21 []),
    sPush (xCalF 27 []),
    sPush (xCalF 26 [(.l 1), (.l 0), (.f 2), (.f 0)]),
    sPush (xExt (.l 0) 0),
    sPush (xExt (.l 1) 1),
    sSet 4 (xMov (.l 1)),
    sSet 5 (xMov (.l 0))]))
  (cSeq (cReg (regC [sPush (xCalF 21 []),
    sPush (xCalF 27 []),
    sPush (xCalF 28 [(.l 1), (.l 0), (.f 3), (.f 0)]),
    sPush (xExt (.l 0) 0),
    sPush (xExt (.l 1) 1),
    sSet 6 (xMov (.l 1))]))
  (cSeq (cSeq (cReg (regC [sPush (xBin (bNe 0) (.f 5) (.c (.c (.i 3 0)))),
    sIf (.l 0) false (sPush (xMov (.f 4))) (sPush (xMov (.c udf))),
    sIf (.l 1) false (sPush (xBin (bEqN 0) (.l 0) (.c (.c (.o (.np)))))) (sPush (xMov (.c udf))),
    sSet 8 (xPick (.l 2) (.c (.c (.o (.b true)))) (.l 0))]))
  (cCond (.f 8) (cSeq (cReg (regC [sSet 1 (xMov (.c (.c (.o (.np)))))]))
  cRet) cSkip))
  (cSeq (cReg (regC [sPush (xBld [.o (.np), .o (.np)] [.mk 0 1 (.f 4), .mk 1 1 (.f 6)]),
    sPush (xBox 45 (.l 0)),
    sSet 1 (xMov (.l 0))]))
  cRet))))))))))),
  [.v (.f 1)], 1⟩
def m9 : List (Nat × Nat) := [(0, 0)]
/-- legate/legatelaw14.ann -/
noncomputable def u9 : Fu := ⟨(cSeq (cReg (regC [sSet 0 (xAlc 26 [.o (.s []), .o (.s [])])]))
  (cSeq (cReg (regC [sPush (xBld [.o (.s []), .o (.s [])] [.mk 0 1 (.c (.c (.o (.s [65, 46, 69, 68, 85])))), .mk 1 1 (.c (.c (.o (.s [97, 110, 110]))))]),
    sDo (xStA 2 (.f 0) (.l 0))]))
  cRet)),
  [.cn (.f 0) 2], 0⟩
def m10 : List (Nat × Nat) := [(0, 0), (1, 1), (2, 2), (4, 3), (5, 4), (6, 5), (7, 6), (8, 7), (9, 8), (10, 9), (11, 10), (12, 11), (14, 12), (16, 13), (17, 14)]
/-- legate/legatelaw14.request -/
noncomputable def u10 : Fu := ⟨(cSeq (cReg (regC [sSet 3 (xBox 31 (.f 1)),
    sSet 4 (xBox 33 (.f 2)),
    sSet 5 (xMov (.c (.c (.o (.ns))))),
    sSet 6 (xMov (.c (.c (.o (.b false)))))]))
  (cSeq (cReg (regC [sPush (xLdA 37 (.f 3)),
    sPush (xCalF 29 [(.l 0)]),
    sPush (xExt (.l 0) 0),
    sPush (xExt (.l 1) 1),
    sSet 7 (xMov (.l 1)),
    sSet 8 (xMov (.l 0))]))
  (cSeq (cReg (regC [sPush (xLdA 4 (.f 4)),
    sPush (xCalF 30 [(.l 0)]),
    sPush (xExt (.l 0) 0),
    sPush (xExt (.l 1) 1),
    sSet 9 (xMov (.l 1)),
    sSet 10 (xMov (.l 0))]))
  (cSeq (cReg (regC [sPush (xCvi 3 18446744073709551616 9223372036854775808 4 256 (.f 0)),
    sPush (xBld [.i 4 0, .i 4 0, .i 4 0, .i 4 0, .i 4 0, .i 4 0, .i 4 0, .i 4 0, .i 4 0, .i 4 0, .i 4 0, .i 4 0, .i 4 0, .i 4 0, .i 4 0, .i 4 0, .i 4 0, .i 4 0, .i 4 0, .i 4 0, .i 4 0, .i 4 0, .i 4 0, .i 4 0, .i 4 0, .i 4 0, .i 4 0, .i 4 0, .i 4 0, .i 4 0, .i 4 0, .i 4 0] [.mk 0 1 (.l 0)]),
    sPush (xCalF 31 [(.l 0), (.c (.c (.i 3 2))), (.c (.c (.i 3 5))), (.f 7)]),
    sPush (xExt (.l 0) 0),
    sPush (xExt (.l 1) 1),
    sSet 11 (xMov (.l 1))]))
  (cSeq (cReg (regC [sPush (xFld (.f 3) 2),
    sPush (xLdA 32 (.l 0)),
    sPush (xCalF 31 [(.l 0), (.c (.c (.i 3 11))), (.c (.c (.i 3 6))), (.f 9)]),
    sPush (xExt (.l 0) 0),
    sPush (xExt (.l 1) 1),
    sSet 12 (xMov (.l 1))]))
  (cSeq (cReg (regC [sPush (xCalF 21 []),
    sPush (xBld [.o (.s []), .o (.s []), .i 3 0, .o (.ns)] [.mk 0 2 (.l 0), .mk 2 1 (.f 0), .mk 3 1 (.f 11)]),
    sPush (xBld [.o (.s []), .o (.s []), .i 3 0, .o (.ns), .o (.ns)] [.mk 0 4 (.l 0), .mk 4 1 (.f 12)]),
    sPush (xBld [.i 3 0, .o (.s []), .o (.s []), .o (.s []), .o (.s []), .i 3 0, .i 3 0, .o (.s []), .o (.s []), .i 3 0, .o (.ns), .o (.ns), .o (.s []), .o (.s []), .i 3 0, .i 3 0, .o (.s []), .o (.s []), .o (.s []), .o (.s []), .i 3 0, .o (.ns), .o (.ns), .o (.s []), .o (.s []), .i 3 0, .o (.ns), .o (.ns), .i 3 0, .i 3 0] [.mk 0 1 (.c (.c (.i 3 4))), .mk 23 5 (.l 0)]),
    sPush (xCalF 22 [(.l 0)]),
    sPush (xExt (.l 0) 0),
    sPush (xExt (.l 1) 1),
    sSet 13 (xMov (.l 1)),
    sSet 14 (xMov (.l 0))]))
  (cSeq (cReg (regC [sPush (xBin (bAdd 3 18446744073709551616) (.f 8) (.f 10)),
    sPush (xBin (bAdd 3 18446744073709551616) (.l 0) (.f 14)),
    sPush (xBin (bEq 0) (.l 0) (.c (.c (.i 3 0)))),
    sSet 5 (xMov (.f 13)),
    sSet 6 (xMov (.l 0))]))
  cRet))))))),
  [.v (.f 5), .v (.f 6)], 3⟩
def m11 : List (Nat × Nat) := [(0, 0), (1, 1), (2, 2), (6, 3), (7, 4), (8, 5), (9, 6), (11, 7), (21, 8)]
/-- (*legate/acceptor.Acceptor).Take -/
noncomputable def u11 : Fu := ⟨(cSeq (cReg (regC [sSet 3 (xAlc 39 [.o (.s []), .o (.s []), .o (.s []), .o (.s []), .i 4 0, .i 4 0, .i 4 0, .i 4 0, .i 4 0, .i 4 0, .i 4 0, .i 4 0, .i 4 0, .i 4 0, .i 4 0, .i 4 0, .i 4 0, .i 4 0, .i 4 0, .i 4 0, .i 4 0, .i 4 0, .i 4 0, .i 4 0, .i 4 0, .i 4 0, .i 4 0, .i 4 0, .i 4 0, .i 4 0, .i 4 0, .i 4 0, .i 4 0, .i 4 0, .i 4 0, .i 4 0, .o (.ns), .i 3 0, .i 3 0]),
    sSet 4 (xMov (.c (.c (.i 3 0))))]))
  (cSeq (cSeq (cReg (regC [sSet 7 (xBin (bEqN 0) (.f 0) (.c (.c (.o (.np)))))]))
  (cCond (.f 7) (cSeq (cReg (regC [sPush (xBld [.o (.s []), .o (.s []), .o (.s []), .o (.s []), .i 4 0, .i 4 0, .i 4 0, .i 4 0, .i 4 0, .i 4 0, .i 4 0, .i 4 0, .i 4 0, .i 4 0, .i 4 0, .i 4 0, .i 4 0, .i 4 0, .i 4 0, .i 4 0, .i 4 0, .i 4 0, .i 4 0, .i 4 0, .i 4 0, .i 4 0, .i 4 0, .i 4 0, .i 4 0, .i 4 0, .i 4 0, .i 4 0, .i 4 0, .i 4 0, .i 4 0, .i 4 0, .o (.ns), .i 3 0, .i 3 0] []),
    sDo (xStA 39 (.f 3) (.l 0)),
    sSet 4 (xMov (.c (.c (.i 3 1))))]))
  cRet) cSkip))
  (cSeq (cReg (regC [sPush (xCalF 32 [(.f 0), (.f 1), (.f 2)]),
    sPush (xExt (.l 0) 0),
    sPush (xExt (.l 1) 1),
    sSet 5 (xAlc 39 [.o (.s []), .o (.s []), .o (.s []), .o (.s []), .i 4 0, .i 4 0, .i 4 0, .i 4 0, .i 4 0, .i 4 0, .i 4 0, .i 4 0, .i 4 0, .i 4 0, .i 4 0, .i 4 0, .i 4 0, .i 4 0, .i 4 0, .i 4 0, .i 4 0, .i 4 0, .i 4 0, .i 4 0, .i 4 0, .i 4 0, .i 4 0, .i 4 0, .i 4 0, .i 4 0, .i 4 0, .i 4 0, .i 4 0, .i 4 0, .i 4 0, .i 4 0, .o (.ns), .i 3 0, .i 3 0]),
    sDo (xStA 39 (.f 5) (.l 1)),
    sSet 6 (xMov (.l 0))]))
  (cSeq (cSeq (cReg (regC [sSet 8 (xBin (bEq 0) (.f 6) (.c (.c (.i 3 0))))]))
  (cCond (.f 8) (cReg (regC [sPush (xChk (.f 0)),
    sPush (xFld (.l 0) 7),
    sPush (xCalF 33 [(.l 0), (.c (.c (.i 3 1)))])])) (cReg (regC [sPush (xChk (.f 0)),
    sPush (xFld (.l 0) 8),
    sPush (xCalF 33 [(.l 0), (.c (.c (.i 3 1)))])]))))
  (cSeq (cReg (regC [sPush (xLdA 39 (.f 5)),
    sDo (xStA 39 (.f 3) (.l 0)),
    sSet 4 (xMov (.f 6))]))
  cRet))))),
  [.cn (.f 3) 39, .v (.f 4)], 3⟩
def m12 : List (Nat × Nat) := [(0, 0), (2, 1), (3, 2), (4, 3), (5, 4), (6, 5), (7, 6), (8, 7), (12, 8), (24, 9), (26, 10), (45, 11), (68, 12), (83, 13), (94, 14), (118, 15)]
/-- legate/legateref8.Decode -/
noncomputable def u12 : Fu := ⟨(cSeq (cReg (regC [sSet 1 (xAlc 60 [.i 3 0, .o (.s []), .o (.s []), .o (.s []), .o (.s []), .i 3 0, .i 3 0, .o (.s []), .o (.s []), .i 3 0, .o (.ns), .o (.ns), .o (.s []), .o (.s []), .i 3 0, .i 3 0, .o (.s []), .o (.s []), .o (.s []), .o (.s []), .i 3 0, .o (.ns), .o (.ns), .o (.s []), .o (.s []), .i 3 0, .o (.ns), .o (.ns), .i 3 0, .i 3 0]),
    sSet 2 (xMov (.c (.c (.i 3 0))))]))
  (cSeq (cReg (regC [sPush (xBld [.i 3 0, .o (.s []), .o (.s []), .o (.s []), .o (.s []), .i 3 0, .i 3 0, .o (.s []), .o (.s []), .i 3 0, .o (.ns), .o (.ns), .o (.s []), .o (.s []), .i 3 0, .i 3 0, .o (.s []), .o (.s []), .o (.s []), .o (.s []), .i 3 0, .o (.ns), .o (.ns), .o (.s []), .o (.s []), .i 3 0, .o (.ns), .o (.ns), .i 3 0, .i 3 0] []),
    sSet 3 (xAlc 60 [.i 3 0, .o (.s []), .o (.s []), .o (.s []), .o (.s []), .i 3 0, .i 3 0, .o (.s []), .o (.s []), .i 3 0, .o (.ns), .o (.ns), .o (.s []), .o (.s []), .i 3 0, .i 3 0, .o (.s []), .o (.s []), .o (.s []), .o (.s []), .i 3 0, .o (.ns), .o (.ns), .o (.s []), .o (.s []), .i 3 0, .o (.ns), .o (.ns), .i 3 0, .i 3 0]),
    sDo (xStA 30 (.f 3) (.l 0))]))
  (cSeq (cSeq (cReg (regC [sPush (xLen (.f 0)),
    sSet 8 (xBin (bEq 0) (.l 0) (.c (.c (.i 3 0))))]))
  (cCond (.f 8) (cSeq (cReg (regC [sPush (xLdA 30 (.f 3)),
    sDo (xStA 30 (.f 1) (.l 0)),
    sSet 2 (xMov (.c (.c (.i 3 2))))]))
  cRet) cSkip))
  (cSeq (cReg (regC [sPush (xBld [.o (.ns), .o (.b false)] [.mk 0 1 (.f 0)]),
    sPush (xBox 120 (.l 0)),
    sSet 4 (xMov (.l 0))]))
  (cSeq (cReg (regC [sPush (xIxS 1 (.f 0) (.c (.c (.i 3 0)))),
    sPush (xLd1 (.l 0)),
    sPush (xCalF 34 [(.f 4), (.l 0)]),
    sSet 5 (xMov (.l 0))]))
  (cSeq (cSeq (cReg (regC [sPush (xIxS 1 (.f 0) (.c (.c (.i 3 0)))),
    sSet 9 (xLd1 (.l 0))]))
  (cBlock 0 (cSeq (cReg (regC [sPush (xBin (bEq 0) (.f 9) (.c (.c (.i 4 106)))),
    sSet 10 (xMov (.l 0))]))
  (cCond (.f 10) (cSeq (cReg (regC [sPush (xFld (.f 3) 0),
    sDo (xSt1 (.l 0) (.c (.c (.i 3 1))))]))
  (cSeq (cReg (regC [sPush (xCalF 35 [(.f 5)]),
    sPush (xFld (.f 3) 1),
    sPush (xFld (.l 0) 0),
    sDo (xStA 2 (.l 0) (.l 2))]))
  (cSeq (cReg (regC [sPush (xCalF 35 [(.f 5)]),
    sPush (xFld (.f 3) 1),
    sPush (xFld (.l 0) 2),
    sDo (xStA 2 (.l 0) (.l 2))]))
  (cSeq (cReg (regC [sPush (xCalF 36 [(.f 5)]),
    sPush (xFld (.f 3) 1),
    sPush (xFld (.l 0) 4),
    sDo (xSt1 (.l 0) (.l 2))]))
  (cReg (regC [sPush (xCalF 36 [(.f 5)]),
    sPush (xFld (.f 3) 1),
    sPush (xFld (.l 0) 5),
    sDo (xSt1 (.l 0) (.l 2))])))))) (cSeq (cReg (regC [sPush (xBin (bEq 0) (.f 9) (.c (.c (.i 4 108)))),
    sSet 11 (xMov (.l 0))]))
  (cCond (.f 11) (cSeq (cReg (regC [sPush (xFld (.f 3) 0),
    sDo (xSt1 (.l 0) (.c (.c (.i 3 2))))]))
  (cSeq (cReg (regC [sPush (xCalF 37 [(.f 5)]),
    sPush (xFld (.f 3) 7),
    sPush (xFld (.l 0) 0),
    sDo (xStA 4 (.l 0) (.l 2))]))
  (cSeq (cReg (regC [sPush (xCalF 38 [(.f 5)]),
    sPush (xFld (.f 3) 7),
    sPush (xFld (.l 0) 4),
    sDo (xSt1 (.l 0) (.l 2))]))
  (cSeq (cReg (regC [sPush (xCalF 35 [(.f 5)]),
    sPush (xFld (.f 3) 7),
    sPush (xFld (.l 0) 5),
    sDo (xStA 2 (.l 0) (.l 2))]))
  (cSeq (cReg (regC [sPush (xCalF 36 [(.f 5)]),
    sPush (xFld (.f 3) 7),
    sPush (xFld (.l 0) 7),
    sDo (xSt1 (.l 0) (.l 2))]))
  (cReg (regC [sPush (xCalF 36 [(.f 5)]),
    sPush (xFld (.f 3) 7),
    sPush (xFld (.l 0) 8),
    sDo (xSt1 (.l 0) (.l 2))]))))))) (cSeq (cReg (regC [sPush (xBin (bEq 0) (.f 9) (.c (.c (.i 4 107)))),
    sSet 12 (xMov (.l 0))]))
  (cCond (.f 12) (cSeq (cReg (regC [sPush (xFld (.f 3) 0),
    sDo (xSt1 (.l 0) (.c (.c (.i 3 3))))]))
  (cSeq (cReg (regC [sPush (xCalF 35 [(.f 5)]),
    sPush (xFld (.f 3) 16),
    sPush (xFld (.l 0) 0),
    sDo (xStA 2 (.l 0) (.l 2))]))
  (cSeq (cReg (regC [sPush (xCalF 37 [(.f 5)]),
    sPush (xFld (.f 3) 16),
    sPush (xFld (.l 0) 2),
    sDo (xStA 4 (.l 0) (.l 2))]))
  (cReg (regC [sPush (xCalF 38 [(.f 5)]),
    sPush (xFld (.f 3) 16),
    sPush (xFld (.l 0) 6),
    sDo (xSt1 (.l 0) (.l 2))]))))) (cSeq (cReg (regC [sPush (xBin (bEq 0) (.f 9) (.c (.c (.i 4 110)))),
    sSet 13 (xMov (.l 0))]))
  (cCond (.f 13) (cSeq (cReg (regC [sPush (xFld (.f 3) 0),
    sDo (xSt1 (.l 0) (.c (.c (.i 3 4))))]))
  (cSeq (cReg (regC [sPush (xCalF 37 [(.f 5)]),
    sPush (xFld (.f 3) 23),
    sPush (xFld (.l 0) 0),
    sDo (xStA 4 (.l 0) (.l 2))]))
  (cReg (regC [sPush (xCalF 38 [(.f 5)]),
    sPush (xFld (.f 3) 23),
    sPush (xFld (.l 0) 4),
    sDo (xSt1 (.l 0) (.l 2))])))) (cSeq (cReg (regC [sPush (xBin (bEq 0) (.f 9) (.c (.c (.i 4 126)))),
    sSet 14 (xMov (.l 0))]))
  (cCond (.f 14) (cSeq (cReg (regC [sPush (xFld (.f 3) 0),
    sDo (xSt1 (.l 0) (.c (.c (.i 3 5))))]))
  (cSeq (cReg (regC [sPush (xCalF 36 [(.f 5)]),
    sPush (xFld (.f 3) 28),
    sPush (xFld (.l 0) 0),
    sDo (xSt1 (.l 0) (.l 2))]))
  (cReg (regC [sPush (xCalF 36 [(.f 5)]),
    sPush (xFld (.f 3) 28),
    sPush (xFld (.l 0) 1),
    sDo (xSt1 (.l 0) (.l 2))])))) (cSeq (cReg (regC [sPush (xLdA 30 (.f 3)),
    sDo (xStA 30 (.f 1) (.l 0)),
    sSet 2 (xMov (.c (.c (.i 3 2))))]))
  cRet)))))))))))))
  (cSeq (cReg (regC [sPush (xLdA 30 (.f 3)),
    sPush (xCalF 22 [(.l 0)]),
    sPush (xExt (.l 0) 0),
    sPush (xExt (.l 1) 1),
    sSet 6 (xMov (.l 1)),
    sSet 7 (xMov (.l 0))]))
  (cSeq (cSeq (cReg (regC [sPush (xBin (bNe 0) (.f 7) (.c (.c (.i 3 0)))),
    sIf (.l 0) false (sPush (xMov (.f 6))) (sPush (xMov (.c udf))),
    sIf (.l 1) false (sPush (xB2s (.l 0))) (sPush (xMov (.c udf))),
    sIf (.l 2) false (sPush (xMov (.f 0))) (sPush (xMov (.c udf))),
    sIf (.l 3) false (sPush (xB2s (.l 0))) (sPush (xMov (.c udf))),
    sIf (.l 4) false (sPush (xBin (bNe 1) (.l 2) (.l 0))) (sPush (xMov (.c udf))),
    sSet 15 (xPick (.l 5) (.c (.c (.o (.b true)))) (.l 0))]))
  (cCond (.f 15) (cSeq (cReg (regC [sPush (xBld [.i 3 0, .o (.s []), .o (.s []), .o (.s []), .o (.s []), .i 3 0, .i 3 0, .o (.s []), .o (.s []), .i 3 0, .o (.ns), .o (.ns), .o (.s []), .o (.s []), .i 3 0, .i 3 0, .o (.s []), .o (.s []), .o (.s []), .o (.s []), .i 3 0, .o (.ns), .o (.ns), .o (.s []), .o (.s []), .i 3 0, .o (.ns), .o (.ns), .i 3 0, .i 3 0] []),
    sDo (xStA 30 (.f 1) (.l 0)),
    sSet 2 (xMov (.c (.c (.i 3 2))))]))
  cRet) cSkip))
  (cSeq (cReg (regC [sPush (xLdA 30 (.f 3)),
    sDo (xStA 30 (.f 1) (.l 0)),
    sSet 2 (xMov (.c (.c (.i 3 0))))]))
  cRet))))))))),
  [.cn (.f 1) 30, .v (.f 2)], 1⟩
def m18 : List (Nat × Nat) := [(0, 0), (2, 1), (3, 2), (5, 3)]
/-- (*legate/acceptor.Acceptor).Counts -/
noncomputable def u18 : Fu := ⟨(cSeq (cReg (regC [sSet 1 (xMov (.c (.c (.i 3 0)))),
    sSet 2 (xMov (.c (.c (.i 3 0))))]))
  (cSeq (cSeq (cReg (regC [sSet 3 (xBin (bEqN 0) (.f 0) (.c (.c (.o (.np)))))]))
  (cCond (.f 3) (cSeq (cReg (regC [sSet 1 (xMov (.c (.c (.i 3 0)))),
    sSet 2 (xMov (.c (.c (.i 3 0))))]))
  cRet) cSkip))
  (cSeq (cReg (regC [sPush (xChk (.f 0)),
    sPush (xFld (.l 0) 7),
    sPush (xChk (.f 0)),
    sPush (xFld (.l 0) 8),
    sPush (xCalF 41 [(.l 2)]),
    sPush (xCalF 41 [(.l 1)]),
    sSet 1 (xMov (.l 1)),
    sSet 2 (xMov (.l 0))]))
  cRet))),
  [.v (.f 1), .v (.f 2)], 1⟩
def m19 : List (Nat × Nat) := [(0, 0), (1, 1), (2, 2), (6, 3), (7, 4)]
/-- legate/legatelaw14.right -/
noncomputable def u19 : Fu := ⟨(cSeq (cReg (regC [sSet 3 (xMov (.c (.c (.o (.ns))))),
    sSet 4 (xMov (.c (.c (.o (.b false)))))]))
  (cSeq (cReg (regC [sPush (xCalF 9 []),
    sPush (xBld [.i 4 0, .i 4 0, .i 4 0, .i 4 0, .i 4 0, .i 4 0, .i 4 0, .i 4 0, .i 4 0, .i 4 0, .i 4 0, .i 4 0, .i 4 0, .i 4 0, .i 4 0, .i 4 0, .i 4 0, .i 4 0, .i 4 0, .i 4 0, .i 4 0, .i 4 0, .i 4 0, .i 4 0, .i 4 0, .i 4 0, .i 4 0, .i 4 0, .i 4 0, .i 4 0, .i 4 0, .i 4 0] [.mk 0 1 (.c (.c (.i 4 7)))]),
    sPush (xBld [.o (.s []), .o (.s []), .i 4 0, .i 4 0, .i 4 0, .i 4 0, .i 4 0, .i 4 0, .i 4 0, .i 4 0, .i 4 0, .i 4 0, .i 4 0, .i 4 0, .i 4 0, .i 4 0, .i 4 0, .i 4 0, .i 4 0, .i 4 0, .i 4 0, .i 4 0, .i 4 0, .i 4 0, .i 4 0, .i 4 0, .i 4 0, .i 4 0, .i 4 0, .i 4 0, .i 4 0, .i 4 0, .i 4 0, .i 4 0, .o (.s []), .i 3 0, .i 3 0] [.mk 0 2 (.l 1), .mk 2 32 (.l 0), .mk 34 1 (.f 2), .mk 36 1 (.c (.c (.i 3 1073741824)))]),
    sPush (xCalF 9 []),
    sPush (xBld [.o (.s []), .o (.s []), .i 3 0, .i 3 0] [.mk 0 2 (.l 0), .mk 2 1 (.f 0), .mk 3 1 (.f 1)]),
    sPush (xCalF 10 [(.c (.c (.i 3 2))), (.l 2), (.l 0)]),
    sPush (xExt (.l 0) 0),
    sPush (xExt (.l 1) 1),
    sSet 3 (xMov (.l 1)),
    sSet 4 (xMov (.l 0))]))
  cRet)),
  [.v (.f 3), .v (.f 4)], 3⟩
def m20 : List (Nat × Nat) := [(0, 0), (1, 1), (2, 2), (4, 3), (5, 4), (6, 5), (10, 6), (17, 7), (22, 8), (42, 9)]
/-- legate/legateref5.IsPrinc -/
noncomputable def u20 : Fu := ⟨(cSeq (cReg (regC [sSet 1 (xBox 26 (.f 0)),
    sSet 2 (xMov (.c (.c (.o (.b false)))))]))
  (cSeq (cSeq (cReg (regC [sPush (xFld (.f 1) 0),
    sPush (xLd1 (.l 0)),
    sPush (xCalF 42 [(.l 0)]),
    sSet 6 (xNot (.l 0))]))
  (cCond (.f 6) (cSeq (cReg (regC [sSet 2 (xMov (.c (.c (.o (.b false)))))]))
  cRet) cSkip))
  (cSeq (cReg (regC [sPush (xFld (.f 1) 1),
    sPush (xLd1 (.l 0)),
    sPush (xCalF 43 [(.l 0)]),
    sPush (xExt (.l 0) 0),
    sPush (xExt (.l 1) 1),
    sSet 3 (xMov (.l 0))]))
  (cSeq (cSeq (cReg (regC [sSet 7 (xMov (.f 3))]))
  (cCond (.f 7) (cSeq (cReg (regC [sSet 2 (xMov (.c (.c (.o (.b true)))))]))
  cRet) cSkip))
  (cSeq (cSeq (cReg (regC [sSet 4 (xMov (.c (.c (.i 3 0))))]))
  (cBlock 0 (cLoop (cSeq (cSeq (cReg (regC [sPush (xFld (.f 1) 1),
    sPush (xLd1 (.l 0)),
    sPush (xLenT (.l 0)),
    sSet 8 (xBin (bLss 3 18446744073709551616 9223372036854775808) (.f 4) (.l 0))]))
  (cCond (.f 8) cSkip (cExit 0)))
  (cSeq (cBlock 1 (cSeq (cReg (regC [sPush (xFld (.f 1) 1),
    sPush (xLd1 (.l 0)),
    sPush (xIxT (.l 0) (.f 4)),
    sSet 5 (xMov (.l 0))]))
  (cSeq (cReg (regC [sPush (xBin (bLss 4 256 0) (.f 5) (.c (.c (.i 4 97)))),
    sIf (.l 0) false (sPush (xMov (.f 5))) (sPush (xMov (.c udf))),
    sIf (.l 1) false (sPush (xBin (bGtr 4 256 0) (.l 0) (.c (.c (.i 4 122))))) (sPush (xMov (.c udf))),
    sPush (xPick (.l 2) (.c (.c (.o (.b true)))) (.l 0)),
    sIf (.l 0) true (sPush (xMov (.f 5))) (sPush (xMov (.c udf))),
    sIf (.l 1) true (sPush (xBin (bLss 4 256 0) (.l 0) (.c (.c (.i 4 48))))) (sPush (xMov (.c udf))),
    sIf (.l 2) true (sPush (xMov (.l 0))) (sPush (xMov (.c udf))),
    sIf (.l 0) false (sPush (xMov (.f 5))) (sPush (xMov (.c udf))),
    sIf (.l 1) false (sPush (xBin (bGtr 4 256 0) (.l 0) (.c (.c (.i 4 57))))) (sPush (xMov (.c udf))),
    sIf (.l 5) true (sPush (xPick (.l 2) (.c (.c (.o (.b true)))) (.l 0))) (sPush (xMov (.c udf))),
    sSet 9 (xPick (.l 6) (.l 0) (.c (.c (.o (.b false)))))]))
  (cCond (.f 9) (cSeq (cReg (regC [sSet 2 (xMov (.c (.c (.o (.b false)))))]))
  cRet) cSkip))))
  (cReg (regC [sPush (xBin (bAdd 3 18446744073709551616) (.f 4) (.c (.c (.i 3 1)))),
    sSet 4 (xMov (.l 0))])))))))
  (cSeq (cReg (regC [sPush (xFld (.f 1) 1),
    sPush (xLd1 (.l 0)),
    sPush (xLenT (.l 0)),
    sPush (xBin (bGeq 3 18446744073709551616 9223372036854775808) (.l 0) (.c (.c (.i 3 1)))),
    sIf (.l 0) true (sPush (xFld (.f 1) 1)) (sPush (xMov (.c udf))),
    sIf (.l 1) true (sPush (xLd1 (.l 0))) (sPush (xMov (.c udf))),
    sIf (.l 2) true (sPush (xLenT (.l 0))) (sPush (xMov (.c udf))),
    sIf (.l 3) true (sPush (xBin (bLeq 3 18446744073709551616 9223372036854775808) (.l 0) (.c (.c (.i 3 8))))) (sPush (xMov (.c udf))),
    sPush (xPick (.l 4) (.l 0) (.c (.c (.o (.b false))))),
    sSet 2 (xMov (.l 0))]))
  cRet)))))),
  [.v (.f 2)], 1⟩
def m21 : List (Nat × Nat) := [(0, 0)]
/-- legate/legatelaw14.mail -/
noncomputable def u21 : Fu := ⟨(cSeq (cReg (regC [sSet 0 (xAlc 26 [.o (.s []), .o (.s [])])]))
  (cSeq (cReg (regC [sPush (xBld [.o (.s []), .o (.s [])] [.mk 0 1 (.c (.c (.o (.s [66, 46, 69, 68, 85])))), .mk 1 1 (.c (.c (.o (.s [109, 97, 105, 108]))))]),
    sDo (xStA 2 (.f 0) (.l 0))]))
  cRet)),
  [.cn (.f 0) 2], 0⟩
def m22 : List (Nat × Nat) := [(0, 0), (1, 1), (2, 2), (3, 3), (4, 4), (5, 5), (8, 6), (10, 7), (11, 8), (32, 9), (56, 10), (75, 11)]
/-- legate/legateref8.Encode -/
noncomputable def u22 : Fu := ⟨(cSeq (cReg (regC [sSet 1 (xBox 60 (.f 0)),
    sSet 2 (xMov (.c (.c (.o (.ns))))),
    sSet 3 (xMov (.c (.c (.i 3 0))))]))
  (cSeq (cSeq (cReg (regC [sPush (xLdA 30 (.f 1)),
    sPush (xCalF 44 [(.l 0)]),
    sSet 6 (xNot (.l 0))]))
  (cCond (.f 6) (cSeq (cReg (regC [sSet 2 (xMov (.c (.c (.o (.ns))))),
    sSet 3 (xMov (.c (.c (.i 3 1))))]))
  cRet) cSkip))
  (cSeq (cSeq (cReg (regC [sPush (xFld (.f 1) 0),
    sSet 7 (xLd1 (.l 0))]))
  (cBlock 0 (cSeq (cReg (regC [sPush (xBin (bEq 0) (.f 7) (.c (.c (.i 3 1)))),
    sSet 8 (xMov (.l 0))]))
  (cCond (.f 8) (cSeq (cReg (regC [sPush (xFld (.f 1) 1),
    sPush (xLdA 6 (.l 0)),
    sSet 4 (xAlc 48 [.o (.s []), .o (.s []), .o (.s []), .o (.s []), .i 3 0, .i 3 0]),
    sDo (xStA 6 (.f 4) (.l 0))]))
  (cSeq (cReg (regC [sPush (xFld (.f 4) 0),
    sPush (xLdA 2 (.l 0)),
    sPush (xFld (.f 4) 2),
    sPush (xLdA 2 (.l 0)),
    sPush (xFld (.f 4) 4),
    sPush (xLd1 (.l 0)),
    sPush (xFld (.f 4) 5),
    sPush (xLd1 (.l 0)),
    sPush (xCalF 47 [(.l 6)]),
    sAg (.l 1) (xLd1 (.l 2)),
    sAg (.l 3) (xLd1 (.l 4)),
    sAg (.l 5) (xLdA 2 (.l 6)),
    sPush (xCalF 47 [(.l 5)]),
    sAg (.l 2) (xLd1 (.l 3)),
    sAg (.l 4) (xLd1 (.l 5)),
    sPush (xCalF 48 [(.l 4)]),
    sAg (.l 3) (xLd1 (.l 4)),
    sPush (xCalF 48 [(.l 3)]),
    sPush (xBld [.o (.ns), .o (.ns), .o (.ns), .o (.ns)] [.mk 0 1 (.l 3), .mk 1 1 (.l 2), .mk 2 1 (.l 1), .mk 3 1 (.l 0)]),
    sPush (xMkl 34 4 (.l 0)),
    sPush (xCalF 46 [(.c (.c (.i 4 106))), (.l 0)]),
    sPush (xCalF 45 [(.l 0)]),
    sPush (xExt (.l 0) 0),
    sPush (xExt (.l 1) 1),
    sSet 2 (xMov (.l 1)),
    sSet 3 (xMov (.l 0))]))
  cRet)) (cSeq (cReg (regC [sPush (xBin (bEq 0) (.f 7) (.c (.c (.i 3 2)))),
    sSet 9 (xMov (.l 0))]))
  (cCond (.f 9) (cSeq (cReg (regC [sPush (xFld (.f 1) 7),
    sPush (xLdA 9 (.l 0)),
    sSet 5 (xAlc 52 [.o (.s []), .o (.s []), .i 3 0, .o (.ns), .o (.ns), .o (.s []), .o (.s []), .i 3 0, .i 3 0]),
    sDo (xStA 9 (.f 5) (.l 0))]))
  (cSeq (cReg (regC [sPush (xFld (.f 5) 0),
    sPush (xLdA 4 (.l 0)),
    sPush (xFld (.f 5) 4),
    sPush (xLd1 (.l 0)),
    sPush (xFld (.f 5) 5),
    sPush (xLdA 2 (.l 0)),
    sPush (xFld (.f 5) 7),
    sPush (xLd1 (.l 0)),
    sPush (xFld (.f 5) 8),
    sPush (xLd1 (.l 0)),
    sPush (xCalF 49 [(.l 8)]),
    sAg (.l 1) (xLd1 (.l 2)),
    sAg (.l 3) (xLd1 (.l 4)),
    sAg (.l 5) (xLdA 2 (.l 6)),
    sAg (.l 7) (xLd1 (.l 8)),
    sPush (xCalF 50 [(.l 7)]),
    sAg (.l 2) (xLd1 (.l 3)),
    sAg (.l 4) (xLd1 (.l 5)),
    sAg (.l 6) (xLdA 2 (.l 7)),
    sPush (xCalF 47 [(.l 6)]),
    sAg (.l 3) (xLd1 (.l 4)),
    sAg (.l 5) (xLd1 (.l 6)),
    sPush (xCalF 48 [(.l 5)]),
    sAg (.l 4) (xLd1 (.l 5)),
    sPush (xCalF 48 [(.l 4)]),
    sPush (xBld [.o (.ns), .o (.ns), .o (.ns), .o (.ns), .o (.ns)] [.mk 0 1 (.l 4), .mk 1 1 (.l 3), .mk 2 1 (.l 2), .mk 3 1 (.l 1), .mk 4 1 (.l 0)]),
    sPush (xMkl 34 5 (.l 0)),
    sPush (xCalF 46 [(.c (.c (.i 4 108))), (.l 0)]),
    sPush (xCalF 45 [(.l 0)]),
    sPush (xExt (.l 0) 0),
    sPush (xExt (.l 1) 1),
    sSet 2 (xMov (.l 1)),
    sSet 3 (xMov (.l 0))]))
  cRet)) (cSeq (cReg (regC [sPush (xBin (bEq 0) (.f 7) (.c (.c (.i 3 3)))),
    sSet 10 (xMov (.l 0))]))
  (cCond (.f 10) (cSeq (cReg (regC [sPush (xFld (.f 1) 16),
    sPush (xFld (.l 0) 0),
    sPush (xLdA 2 (.l 0)),
    sPush (xFld (.f 1) 16),
    sPush (xFld (.l 0) 2),
    sPush (xLdA 4 (.l 0)),
    sPush (xFld (.f 1) 16),
    sPush (xFld (.l 0) 6),
    sPush (xLd1 (.l 0)),
    sPush (xCalF 47 [(.l 6)]),
    sAg (.l 1) (xLd1 (.l 2)),
    sAg (.l 4) (xLdA 4 (.l 5)),
    sPush (xCalF 49 [(.l 4)]),
    sAg (.l 2) (xLd1 (.l 3)),
    sPush (xCalF 50 [(.l 2)]),
    sPush (xBld [.o (.ns), .o (.ns), .o (.ns)] [.mk 0 1 (.l 2), .mk 1 1 (.l 1), .mk 2 1 (.l 0)]),
    sPush (xMkl 34 3 (.l 0)),
    sPush (xCalF 46 [(.c (.c (.i 4 107))), (.l 0)]),
    sPush (xCalF 45 [(.l 0)]),
    sPush (xExt (.l 0) 0),
    sPush (xExt (.l 1) 1),
    sSet 2 (xMov (.l 1)),
    sSet 3 (xMov (.l 0))]))
  cRet) (cSeq (cReg (regC [sPush (xBin (bEq 0) (.f 7) (.c (.c (.i 3 4)))),
    sSet 11 (xMov (.l 0))]))
  (cCond (.f 11) (cSeq (cReg (regC [sPush (xFld (.f 1) 23),
    sPush (xFld (.l 0) 0),
    sPush (xLdA 4 (.l 0)),
    sPush (xFld (.f 1) 23),
    sPush (xFld (.l 0) 4),
    sPush (xLd1 (.l 0)),
    sPush (xCalF 49 [(.l 3)]),
    sAg (.l 1) (xLd1 (.l 2)),
    sPush (xCalF 50 [(.l 1)]),
    sPush (xBld [.o (.ns), .o (.ns)] [.mk 0 1 (.l 1), .mk 1 1 (.l 0)]),
    sPush (xMkl 34 2 (.l 0)),
    sPush (xCalF 46 [(.c (.c (.i 4 110))), (.l 0)]),
    sPush (xCalF 45 [(.l 0)]),
    sPush (xExt (.l 0) 0),
    sPush (xExt (.l 1) 1),
    sSet 2 (xMov (.l 1)),
    sSet 3 (xMov (.l 0))]))
  cRet) cSkip))))))))))
  (cSeq (cReg (regC [sPush (xFld (.f 1) 28),
    sPush (xFld (.l 0) 0),
    sPush (xLd1 (.l 0)),
    sPush (xFld (.f 1) 28),
    sPush (xFld (.l 0) 1),
    sPush (xLd1 (.l 0)),
    sPush (xCalF 48 [(.l 3)]),
    sAg (.l 1) (xLd1 (.l 2)),
    sPush (xCalF 48 [(.l 1)]),
    sPush (xBld [.o (.ns), .o (.ns)] [.mk 0 1 (.l 1), .mk 1 1 (.l 0)]),
    sPush (xMkl 34 2 (.l 0)),
    sPush (xCalF 46 [(.c (.c (.i 4 126))), (.l 0)]),
    sPush (xCalF 45 [(.l 0)]),
    sPush (xExt (.l 0) 0),
    sPush (xExt (.l 1) 1),
    sSet 2 (xMov (.l 1)),
    sSet 3 (xMov (.l 0))]))
  cRet)))),
  [.v (.f 2), .v (.f 3)], 1⟩
def m23 : List (Nat × Nat) := [(0, 0)]
/-- legate/ring.New -/
noncomputable def u23 : Fu := ⟨(cSeq (cReg (regC [sSet 0 (xMov (.c (.c (.o (.np)))))]))
  (cSeq (cReg (regC [sPush (xBld [.o (.ns)] []),
    sPush (xBox 142 (.l 0)),
    sSet 0 (xMov (.l 0))]))
  cRet)),
  [.v (.f 0)], 0⟩
def m24 : List (Nat × Nat) := [(0, 0), (1, 1), (2, 2), (4, 3), (5, 4), (6, 5), (7, 6), (8, 7), (9, 8), (16, 9), (21, 10), (36, 11)]
/-- (*legate/ring.Ring).Add -/
noncomputable def u24 : Fu := ⟨(cSeq (cReg (regC [sSet 3 (xBox 26 (.f 1)),
    sSet 4 (xBox 29 (.f 2)),
    sSet 5 (xMov (.c (.c (.i 3 0)))),
    sSet 6 (xMov (.c (.c (.i 3 0))))]))
  (cSeq (cSeq (cReg (regC [sPush (xBin (bEqN 0) (.f 0) (.c (.c (.o (.np))))),
    sIf (.l 0) false (sPush (xLdA 2 (.f 3))) (sPush (xMov (.c udf))),
    sIf (.l 1) false (sPush (xCalF 51 [(.l 0)])) (sPush (xMov (.c udf))),
    sIf (.l 2) false (sPush (xNot (.l 0))) (sPush (xMov (.c udf))),
    sSet 9 (xPick (.l 3) (.c (.c (.o (.b true)))) (.l 0))]))
  (cCond (.f 9) (cSeq (cReg (regC [sSet 5 (xMov (.c (.c (.i 3 0)))),
    sSet 6 (xMov (.c (.c (.i 3 1))))]))
  cRet) cSkip))
  (cSeq (cReg (regC [sSet 7 (xMov (.c (.c (.i 3 1))))]))
  (cSeq (cSeq (cReg (regC [sPush (xLdA 2 (.f 3)),
    sPush (xCalF 52 [(.f 0), (.l 0)]),
    sSet 8 (xMov (.l 0))]))
  (cSeq (cReg (regC [sSet 10 (xBin (bNeN 0) (.f 8) (.c (.c (.o (.np)))))]))
  (cCond (.f 10) (cReg (regC [sPush (xChk (.f 8)),
    sPush (xFld (.l 0) 2),
    sPush (xLd1 (.l 0)),
    sPush (xBin (bAdd 3 18446744073709551616) (.l 0) (.c (.c (.i 3 1)))),
    sSet 7 (xMov (.l 0))])) cSkip)))
  (cSeq (cSeq (cReg (regC [sPush (xChk (.f 0)),
    sPush (xFld (.l 0) 0),
    sPush (xLd1 (.l 0)),
    sPush (xLen (.l 0)),
    sPush (xBin (bGeq 3 18446744073709551616 9223372036854775808) (.l 0) (.c (.c (.i 3 40)))),
    sIf (.l 0) false (sPush (xMov (.f 7))) (sPush (xMov (.c udf))),
    sIf (.l 1) false (sPush (xBin (bGtr 3 18446744073709551616 9223372036854775808) (.l 0) (.c (.c (.i 3 255))))) (sPush (xMov (.c udf))),
    sSet 11 (xPick (.l 2) (.c (.c (.o (.b true)))) (.l 0))]))
  (cCond (.f 11) (cSeq (cReg (regC [sSet 5 (xMov (.c (.c (.i 3 0)))),
    sSet 6 (xMov (.c (.c (.i 3 13))))]))
  cRet) cSkip))
  (cSeq (cReg (regC [sPush (xChk (.f 0)),
    sPush (xFld (.l 0) 0),
    sPush (xLd1 (.l 0)),
    sPush (xLdA 2 (.f 3)),
    sPush (xLdA 32 (.f 4)),
    sPush (xLdA 32 (.f 4)),
    sPush (xCalF 53 [(.l 0)]),
    sAg (.l 2) (xLdA 32 (.f 4)),
    sAg (.l 3) (xLdA 2 (.f 3)),
    sAg (.l 4) (xLd1 (.l 5)),
    sPush (xBld [.o (.s []), .o (.s []), .i 3 0, .i 4 0, .i 4 0, .i 4 0, .i 4 0, .i 4 0, .i 4 0, .i 4 0, .i 4 0, .i 4 0, .i 4 0, .i 4 0, .i 4 0, .i 4 0, .i 4 0, .i 4 0, .i 4 0, .i 4 0, .i 4 0, .i 4 0, .i 4 0, .i 4 0, .i 4 0, .i 4 0, .i 4 0, .i 4 0, .i 4 0, .i 4 0, .i 4 0, .i 4 0, .i 4 0, .i 4 0, .i 4 0, .o (.np)] [.mk 0 2 (.l 3), .mk 2 1 (.f 7), .mk 3 32 (.l 2), .mk 35 1 (.l 0)]),
    sPush (xBld [.o (.s []), .o (.s []), .i 3 0, .i 4 0, .i 4 0, .i 4 0, .i 4 0, .i 4 0, .i 4 0, .i 4 0, .i 4 0, .i 4 0, .i 4 0, .i 4 0, .i 4 0, .i 4 0, .i 4 0, .i 4 0, .i 4 0, .i 4 0, .i 4 0, .i 4 0, .i 4 0, .i 4 0, .i 4 0, .i 4 0, .i 4 0, .i 4 0, .i 4 0, .i 4 0, .i 4 0, .i 4 0, .i 4 0, .i 4 0, .i 4 0, .o (.np)] [.mk 0 36 (.l 0)]),
    sPush (xMkl 147 1 (.l 0)),
    sPush (xApp 147 36 (.l 7) (.l 0)),
    sPush (xChk (.f 0)),
    sPush (xFld (.l 0) 0),
    sDo (xSt1 (.l 0) (.l 2))]))
  (cSeq (cReg (regC [sSet 5 (xMov (.f 7)),
    sSet 6 (xMov (.c (.c (.i 3 0))))]))
  cRet))))))),
  [.v (.f 5), .v (.f 6)], 3⟩
def m25 : List (Nat × Nat) := [(0, 0), (1, 1), (2, 2), (4, 3), (5, 4), (6, 5), (7, 6), (8, 7), (11, 8), (24, 9)]
/-- (*legate/legateref9.Ring).Add -/
noncomputable def u25 : Fu := ⟨(cSeq (cReg (regC [sSet 3 (xBox 26 (.f 1)),
    sSet 4 (xBox 29 (.f 2)),
    sSet 5 (xMov (.c (.c (.i 3 0)))),
    sSet 6 (xMov (.c (.c (.i 3 0))))]))
  (cSeq (cSeq (cReg (regC [sPush (xLdA 2 (.f 3)),
    sPush (xCalF 20 [(.l 0)]),
    sSet 8 (xNot (.l 0))]))
  (cCond (.f 8) (cSeq (cReg (regC [sSet 5 (xMov (.c (.c (.i 3 0)))),
    sSet 6 (xMov (.c (.c (.i 3 1))))]))
  cRet) cSkip))
  (cSeq (cReg (regC [sPush (xLdA 2 (.f 3)),
    sPush (xCalF 54 [(.f 0), (.l 0)]),
    sSet 7 (xMov (.l 0))]))
  (cSeq (cSeq (cReg (regC [sPush (xChk (.f 0)),
    sPush (xFld (.l 0) 0),
    sPush (xLd1 (.l 0)),
    sPush (xLen (.l 0)),
    sPush (xBin (bGeq 3 18446744073709551616 9223372036854775808) (.l 0) (.c (.c (.i 3 40)))),
    sIf (.l 0) false (sPush (xMov (.f 7))) (sPush (xMov (.c udf))),
    sIf (.l 1) false (sPush (xBin (bGeq 3 18446744073709551616 9223372036854775808) (.l 0) (.c (.c (.i 3 255))))) (sPush (xMov (.c udf))),
    sSet 9 (xPick (.l 2) (.c (.c (.o (.b true)))) (.l 0))]))
  (cCond (.f 9) (cSeq (cReg (regC [sSet 5 (xMov (.c (.c (.i 3 0)))),
    sSet 6 (xMov (.c (.c (.i 3 13))))]))
  cRet) cSkip))
  (cSeq (cReg (regC [sPush (xChk (.f 0)),
    sPush (xFld (.l 0) 0),
    sPush (xLd1 (.l 0)),
    sPush (xLdA 2 (.f 3)),
    sPush (xBin (bAdd 3 18446744073709551616) (.f 7) (.c (.c (.i 3 1)))),
    sPush (xLdA 32 (.f 4)),
    sPush (xBld [.o (.s []), .o (.s []), .i 3 0, .i 4 0, .i 4 0, .i 4 0, .i 4 0, .i 4 0, .i 4 0, .i 4 0, .i 4 0, .i 4 0, .i 4 0, .i 4 0, .i 4 0, .i 4 0, .i 4 0, .i 4 0, .i 4 0, .i 4 0, .i 4 0, .i 4 0, .i 4 0, .i 4 0, .i 4 0, .i 4 0, .i 4 0, .i 4 0, .i 4 0, .i 4 0, .i 4 0, .i 4 0, .i 4 0, .i 4 0, .i 4 0] [.mk 0 2 (.l 2), .mk 2 1 (.l 1), .mk 3 32 (.l 0)]),
    sPush (xBld [.o (.s []), .o (.s []), .i 3 0, .i 4 0, .i 4 0, .i 4 0, .i 4 0, .i 4 0, .i 4 0, .i 4 0, .i 4 0, .i 4 0, .i 4 0, .i 4 0, .i 4 0, .i 4 0, .i 4 0, .i 4 0, .i 4 0, .i 4 0, .i 4 0, .i 4 0, .i 4 0, .i 4 0, .i 4 0, .i 4 0, .i 4 0, .i 4 0, .i 4 0, .i 4 0, .i 4 0, .i 4 0, .i 4 0, .i 4 0, .i 4 0] [.mk 0 35 (.l 0)]),
    sPush (xMkl 151 1 (.l 0)),
    sPush (xApp 151 35 (.l 6) (.l 0)),
    sPush (xChk (.f 0)),
    sPush (xFld (.l 0) 0),
    sDo (xSt1 (.l 0) (.l 2))]))
  (cSeq (cReg (regC [sPush (xBin (bAdd 3 18446744073709551616) (.f 7) (.c (.c (.i 3 1)))),
    sSet 5 (xMov (.l 0)),
    sSet 6 (xMov (.c (.c (.i 3 0))))]))
  cRet)))))),
  [.v (.f 5), .v (.f 6)], 3⟩
def m26 : List (Nat × Nat) := [(0, 0), (1, 1), (2, 2), (3, 3), (4, 4), (5, 5), (8, 6), (9, 7), (29, 8)]
/-- legate/acceptor.New -/
noncomputable def u26 : Fu := ⟨(cSeq (cReg (regC [sSet 4 (xBox 26 (.f 0)),
    sSet 5 (xBox 72 (.f 1)),
    sSet 6 (xMov (.c (.c (.o (.np))))),
    sSet 7 (xMov (.c (.c (.i 3 0))))]))
  (cSeq (cSeq (cReg (regC [sPush (xLdA 2 (.f 4)),
    sPush (xCalF 51 [(.l 0)]),
    sPush (xNot (.l 0)),
    sIf (.l 0) false (sPush (xLdA 3 (.f 5))) (sPush (xMov (.c udf))),
    sIf (.l 1) false (sPush (xCalF 55 [(.l 0)])) (sPush (xMov (.c udf))),
    sIf (.l 2) false (sPush (xNot (.l 0))) (sPush (xMov (.c udf))),
    sPush (xPick (.l 3) (.c (.c (.o (.b true)))) (.l 0)),
    sIf (.l 0) false (sPush (xFld (.f 5) 0)) (sPush (xMov (.c udf))),
    sIf (.l 1) false (sPush (xLd1 (.l 0))) (sPush (xMov (.c udf))),
    sIf (.l 2) false (sPush (xFld (.f 4) 0)) (sPush (xMov (.c udf))),
    sIf (.l 3) false (sPush (xLd1 (.l 0))) (sPush (xMov (.c udf))),
    sIf (.l 4) false (sPush (xCalF 56 [(.l 2), (.l 0)])) (sPush (xMov (.c udf))),
    sIf (.l 5) false (sPush (xNot (.l 0))) (sPush (xMov (.c udf))),
    sPush (xPick (.l 6) (.c (.c (.o (.b true)))) (.l 0)),
    sIf (.l 0) false (sPush (xMov (.f 2))) (sPush (xMov (.c udf))),
    sIf (.l 1) false (sPush (xBin (bEqN 0) (.l 0) (.c (.c (.o (.np)))))) (sPush (xMov (.c udf))),
    sSet 8 (xPick (.l 2) (.c (.c (.o (.b true)))) (.l 0))]))
  (cCond (.f 8) (cSeq (cReg (regC [sSet 6 (xMov (.c (.c (.o (.np))))),
    sSet 7 (xMov (.c (.c (.i 3 1))))]))
  cRet) cSkip))
  (cSeq (cReg (regC [sPush (xLdA 2 (.f 4)),
    sPush (xLdA 3 (.f 5)),
    sPush (xCalF 57 [(.l 0)]),
    sAg (.l 2) (xLdA 2 (.f 4)),
    sPush (xCalF 58 [(.f 3)]),
    sAg (.l 3) (xLdA 2 (.f 4)),
    sPush (xBld [.o (.s []), .o (.s []), .o (.ns), .o (.ns), .o (.ns), .o (.np), .o (.np), .i 3 0, .i 3 0] [.mk 0 2 (.l 3), .mk 2 3 (.l 1), .mk 5 1 (.f 2), .mk 6 1 (.l 0)]),
    sPush (xCel (.l 0)),
    sPush (xMkp 116 (.l 0)),
    sSet 6 (xMov (.l 0)),
    sSet 7 (xMov (.c (.c (.i 3 0))))]))
  cRet))),
  [.v (.f 6), .v (.f 7)], 4⟩
def m27 : List (Nat × Nat) := [(0, 0)]
/-- legate/legatelaw14.tree -/
noncomputable def u27 : Fu := ⟨(cSeq (cReg (regC [sSet 0 (xAlc 72 [.o (.ns), .o (.ns), .o (.ns)])]))
  (cSeq (cReg (regC [sPush (xBls 9 3 [.o (.s []), .o (.s []), .o (.s [])] [.mk 0 1 (.c (.c (.o (.s [65, 46, 69, 68, 85])))), .mk 1 1 (.c (.c (.o (.s [69, 68, 85])))), .mk 2 1 (.c (.c (.o (.s [66, 46, 69, 68, 85]))))]),
    sPush (xBld [.o (.s []), .o (.s [])] [.mk 0 1 (.c (.c (.o (.s [65, 46, 69, 68, 85])))), .mk 1 1 (.c (.c (.o (.s [69, 68, 85]))))]),
    sPush (xBld [.o (.s []), .o (.s [])] [.mk 0 1 (.c (.c (.o (.s [69, 68, 85])))), .mk 1 1 (.c (.c (.o (.s [65, 46, 69, 68, 85]))))]),
    sPush (xBld [.o (.s []), .o (.s [])] [.mk 0 1 (.c (.c (.o (.s [69, 68, 85])))), .mk 1 1 (.c (.c (.o (.s [66, 46, 69, 68, 85]))))]),
    sPush (xBld [.o (.s []), .o (.s [])] [.mk 0 1 (.c (.c (.o (.s [66, 46, 69, 68, 85])))), .mk 1 1 (.c (.c (.o (.s [69, 68, 85]))))]),
    sPush (xBls 156 4 [.o (.s []), .o (.s []), .o (.s []), .o (.s []), .o (.s []), .o (.s []), .o (.s []), .o (.s [])] [.mk 0 2 (.l 3), .mk 2 2 (.l 2), .mk 4 2 (.l 1), .mk 6 2 (.l 0)]),
    sPush (xBld [.o (.ns), .o (.ns), .o (.ns)] [.mk 0 1 (.l 5), .mk 1 1 (.l 0)]),
    sDo (xStA 3 (.f 0) (.l 0))]))
  cRet)),
  [.cn (.f 0) 3], 0⟩
def m28 : List (Nat × Nat) := [(0, 0), (1, 1), (2, 2), (3, 3), (4, 4), (5, 5), (8, 6), (9, 7), (25, 8)]
/-- legate/legateref14.New -/
noncomputable def u28 : Fu := ⟨(cSeq (cReg (regC [sSet 4 (xBox 26 (.f 0)),
    sSet 5 (xBox 72 (.f 1)),
    sSet 6 (xMov (.c (.c (.o (.np))))),
    sSet 7 (xMov (.c (.c (.i 3 0))))]))
  (cSeq (cSeq (cReg (regC [sPush (xLdA 2 (.f 4)),
    sPush (xCalF 20 [(.l 0)]),
    sPush (xNot (.l 0)),
    sIf (.l 0) false (sPush (xLdA 3 (.f 5))) (sPush (xMov (.c udf))),
    sIf (.l 1) false (sPush (xCalF 59 [(.l 0)])) (sPush (xMov (.c udf))),
    sIf (.l 2) false (sPush (xNot (.l 0))) (sPush (xMov (.c udf))),
    sPush (xPick (.l 3) (.c (.c (.o (.b true)))) (.l 0)),
    sIf (.l 0) false (sPush (xFld (.f 5) 0)) (sPush (xMov (.c udf))),
    sIf (.l 1) false (sPush (xLd1 (.l 0))) (sPush (xMov (.c udf))),
    sIf (.l 2) false (sPush (xFld (.f 4) 0)) (sPush (xMov (.c udf))),
    sIf (.l 3) false (sPush (xLd1 (.l 0))) (sPush (xMov (.c udf))),
    sIf (.l 4) false (sPush (xCalF 60 [(.l 2), (.l 0)])) (sPush (xMov (.c udf))),
    sIf (.l 5) false (sPush (xBin (bLss 3 18446744073709551616 9223372036854775808) (.l 0) (.c (.c (.i 3 0))))) (sPush (xMov (.c udf))),
    sSet 8 (xPick (.l 6) (.c (.c (.o (.b true)))) (.l 0))]))
  (cCond (.f 8) (cSeq (cReg (regC [sSet 6 (xMov (.c (.c (.o (.np))))),
    sSet 7 (xMov (.c (.c (.i 3 1))))]))
  cRet) cSkip))
  (cSeq (cReg (regC [sPush (xLdA 2 (.f 4)),
    sPush (xLdA 3 (.f 5)),
    sPush (xCalF 61 [(.f 3)]),
    sAg (.l 1) (xLdA 3 (.f 5)),
    sAg (.l 2) (xLdA 2 (.f 4)),
    sPush (xBld [.o (.s []), .o (.s []), .o (.ns), .o (.ns), .o (.ns), .o (.np), .o (.np), .i 3 0, .i 3 0] [.mk 0 2 (.l 2), .mk 2 3 (.l 1), .mk 5 1 (.f 2), .mk 6 1 (.l 0)]),
    sPush (xCel (.l 0)),
    sPush (xMkp 76 (.l 0)),
    sSet 6 (xMov (.l 0)),
    sSet 7 (xMov (.c (.c (.i 3 0))))]))
  cRet))),
  [.v (.f 6), .v (.f 7)], 4⟩
def m29 : List (Nat × Nat) := [(0, 0), (1, 1), (2, 2), (3, 3), (6, 4)]
/-- legate/legateref8.EncodePart -/
noncomputable def u29 : Fu := ⟨(cSeq (cReg (regC [sSet 1 (xBox 31 (.f 0)),
    sSet 2 (xMov (.c (.c (.o (.ns))))),
    sSet 3 (xMov (.c (.c (.i 3 0))))]))
  (cSeq (cSeq (cReg (regC [sPush (xLdA 37 (.f 1)),
    sPush (xCalF 62 [(.l 0)]),
    sSet 4 (xNot (.l 0))]))
  (cCond (.f 4) (cSeq (cReg (regC [sSet 2 (xMov (.c (.c (.o (.ns))))),
    sSet 3 (xMov (.c (.c (.i 3 1))))]))
  cRet) cSkip))
  (cSeq (cReg (regC [sPush (xFld (.f 1) 0),
    sPush (xLdA 2 (.l 0)),
    sPush (xFld (.f 1) 2),
    sPush (xCutA 32 1 (.l 0) none none),
    sPush (xFld (.f 1) 34),
    sPush (xLd1 (.l 0)),
    sPush (xFld (.f 1) 35),
    sPush (xLd1 (.l 0)),
    sPush (xFld (.f 1) 36),
    sPush (xLd1 (.l 0)),
    sPush (xCalF 47 [(.l 8)]),
    sAg (.l 1) (xLd1 (.l 2)),
    sAg (.l 3) (xLd1 (.l 4)),
    sAg (.l 5) (xLd1 (.l 6)),
    sPush (xCalF 50 [(.l 7)]),
    sAg (.l 2) (xLd1 (.l 3)),
    sAg (.l 4) (xLd1 (.l 5)),
    sAg (.l 6) (xLd1 (.l 7)),
    sPush (xCalF 63 [(.l 6)]),
    sAg (.l 3) (xLd1 (.l 4)),
    sAg (.l 5) (xLd1 (.l 6)),
    sPush (xCalF 48 [(.l 5)]),
    sAg (.l 4) (xLd1 (.l 5)),
    sPush (xCalF 48 [(.l 4)]),
    sPush (xBld [.o (.ns), .o (.ns), .o (.ns), .o (.ns), .o (.ns)] [.mk 0 1 (.l 4), .mk 1 1 (.l 3), .mk 2 1 (.l 2), .mk 3 1 (.l 1), .mk 4 1 (.l 0)]),
    sPush (xMkl 34 5 (.l 0)),
    sPush (xCalF 46 [(.c (.c (.i 4 99))), (.l 0)]),
    sPush (xCalF 45 [(.l 0)]),
    sPush (xExt (.l 0) 0),
    sPush (xExt (.l 1) 1),
    sSet 2 (xMov (.l 1)),
    sSet 3 (xMov (.l 0))]))
  cRet))),
  [.v (.f 2), .v (.f 3)], 1⟩
def m30 : List (Nat × Nat) := [(0, 0), (1, 1), (2, 2), (3, 3), (6, 4)]
/-- legate/legateref8.EncodeAuthn -/
noncomputable def u30 : Fu := ⟨(cSeq (cReg (regC [sSet 1 (xBox 33 (.f 0)),
    sSet 2 (xMov (.c (.c (.o (.ns))))),
    sSet 3 (xMov (.c (.c (.i 3 0))))]))
  (cSeq (cSeq (cReg (regC [sPush (xLdA 4 (.f 1)),
    sPush (xCalF 64 [(.l 0)]),
    sSet 4 (xNot (.l 0))]))
  (cCond (.f 4) (cSeq (cReg (regC [sSet 2 (xMov (.c (.c (.o (.ns))))),
    sSet 3 (xMov (.c (.c (.i 3 1))))]))
  cRet) cSkip))
  (cSeq (cReg (regC [sPush (xFld (.f 1) 0),
    sPush (xLdA 2 (.l 0)),
    sPush (xFld (.f 1) 2),
    sPush (xLd1 (.l 0)),
    sPush (xFld (.f 1) 3),
    sPush (xLd1 (.l 0)),
    sPush (xCalF 47 [(.l 4)]),
    sAg (.l 1) (xLd1 (.l 2)),
    sAg (.l 3) (xLd1 (.l 4)),
    sPush (xCalF 48 [(.l 3)]),
    sAg (.l 2) (xLd1 (.l 3)),
    sPush (xCalF 48 [(.l 2)]),
    sPush (xBld [.o (.ns), .o (.ns), .o (.ns)] [.mk 0 1 (.l 2), .mk 1 1 (.l 1), .mk 2 1 (.l 0)]),
    sPush (xMkl 34 3 (.l 0)),
    sPush (xCalF 46 [(.c (.c (.i 4 98))), (.l 0)]),
    sPush (xCalF 45 [(.l 0)]),
    sPush (xExt (.l 0) 0),
    sPush (xExt (.l 1) 1),
    sSet 2 (xMov (.l 1)),
    sSet 3 (xMov (.l 0))]))
  cRet))),
  [.v (.f 2), .v (.f 3)], 1⟩
def m31 : List (Nat × Nat) := [(0, 0), (1, 1), (2, 2), (3, 3), (4, 4), (8, 5), (9, 6), (10, 7), (29, 8)]
/-- legate/legateref4.Seal -/
noncomputable def u31 : Fu := ⟨(cSeq (cReg (regC [sSet 4 (xBox 29 (.f 0)),
    sSet 5 (xMov (.c (.c (.o (.ns))))),
    sSet 6 (xMov (.c (.c (.i 3 0))))]))
  (cSeq (cSeq (cReg (regC [sPush (xBin (bLss 3 18446744073709551616 9223372036854775808) (.f 1) (.c (.c (.i 3 0)))),
    sIf (.l 0) false (sPush (xMov (.f 1))) (sPush (xMov (.c udf))),
    sIf (.l 1) false (sPush (xBin (bGtr 3 18446744073709551616 9223372036854775808) (.l 0) (.c (.c (.i 3 255))))) (sPush (xMov (.c udf))),
    sPush (xPick (.l 2) (.c (.c (.o (.b true)))) (.l 0)),
    sIf (.l 0) false (sPush (xMov (.f 2))) (sPush (xMov (.c udf))),
    sIf (.l 1) false (sPush (xBin (bLss 3 18446744073709551616 9223372036854775808) (.l 0) (.c (.c (.i 3 0))))) (sPush (xMov (.c udf))),
    sPush (xPick (.l 2) (.c (.c (.o (.b true)))) (.l 0)),
    sIf (.l 0) false (sPush (xMov (.f 2))) (sPush (xMov (.c udf))),
    sIf (.l 1) false (sPush (xBin (bGtr 3 18446744073709551616 9223372036854775808) (.l 0) (.c (.c (.i 3 1099511627776))))) (sPush (xMov (.c udf))),
    sPush (xPick (.l 2) (.c (.c (.o (.b true)))) (.l 0)),
    sIf (.l 0) false (sPush (xMov (.f 3))) (sPush (xMov (.c udf))),
    sIf (.l 1) false (sPush (xLen (.l 0))) (sPush (xMov (.c udf))),
    sIf (.l 2) false (sPush (xBin (bGtr 3 18446744073709551616 9223372036854775808) (.l 0) (.c (.c (.i 3 784))))) (sPush (xMov (.c udf))),
    sSet 8 (xPick (.l 3) (.c (.c (.o (.b true)))) (.l 0))]))
  (cCond (.f 8) (cSeq (cReg (regC [sSet 5 (xMov (.c (.c (.o (.ns))))),
    sSet 6 (xMov (.c (.c (.i 3 1))))]))
  cRet) cSkip))
  (cSeq (cReg (regC [sPush (xCvi 3 18446744073709551616 9223372036854775808 7 18446744073709551616 (.f 2)),
    sPush (xLdA 32 (.f 4)),
    sPush (xCvi 3 18446744073709551616 9223372036854775808 7 18446744073709551616 (.f 2)),
    sPush (xCalF 65 [(.l 2)]),
    sAg (.l 2) (xLdA 32 (.f 4)),
    sPush (xCalF 66 [(.l 2), (.f 1), (.l 1), (.f 3)]),
    sPush (xApp 5 1 (.l 1) (.l 0)),
    sSet 7 (xMov (.l 0))]))
  (cSeq (cReg (regC [sPush (xLdA 32 (.f 4)),
    sPush (xCalF 67 [(.l 0), (.f 1), (.f 7)]),
    sPush (xApp 5 1 (.f 7) (.l 0)),
    sSet 5 (xMov (.l 0)),
    sSet 6 (xMov (.c (.c (.i 3 0))))]))
  cRet)))),
  [.v (.f 5), .v (.f 6)], 4⟩
def m32 : List (Nat × Nat) := [(0, 0), (1, 1), (2, 2), (6, 3), (7, 4), (8, 5), (9, 6), (10, 7), (11, 8), (12, 9), (18, 10), (31, 11), (43, 12), (55, 13), (65, 14), (74, 15)]
/-- (*legate/acceptor.Acceptor).takes -/
noncomputable def u32 : Fu := ⟨(cSeq (cReg (regC [sSet 3 (xAlc 39 [.o (.s []), .o (.s []), .o (.s []), .o (.s []), .i 4 0, .i 4 0, .i 4 0, .i 4 0, .i 4 0, .i 4 0, .i 4 0, .i 4 0, .i 4 0, .i 4 0, .i 4 0, .i 4 0, .i 4 0, .i 4 0, .i 4 0, .i 4 0, .i 4 0, .i 4 0, .i 4 0, .i 4 0, .i 4 0, .i 4 0, .i 4 0, .i 4 0, .i 4 0, .i 4 0, .i 4 0, .i 4 0, .i 4 0, .i 4 0, .i 4 0, .i 4 0, .o (.ns), .i 3 0, .i 3 0]),
    sSet 4 (xMov (.c (.c (.i 3 0))))]))
  (cSeq (cSeq (cReg (regC [sPush (xBin (bLss 3 18446744073709551616 9223372036854775808) (.f 2) (.c (.c (.i 3 0)))),
    sIf (.l 0) false (sPush (xMov (.f 2))) (sPush (xMov (.c udf))),
    sIf (.l 1) false (sPush (xBin (bGtr 3 18446744073709551616 9223372036854775808) (.l 0) (.c (.c (.i 3 1073741824))))) (sPush (xMov (.c udf))),
    sSet 10 (xPick (.l 2) (.c (.c (.o (.b true)))) (.l 0))]))
  (cCond (.f 10) (cSeq (cReg (regC [sPush (xBld [.o (.s []), .o (.s []), .o (.s []), .o (.s []), .i 4 0, .i 4 0, .i 4 0, .i 4 0, .i 4 0, .i 4 0, .i 4 0, .i 4 0, .i 4 0, .i 4 0, .i 4 0, .i 4 0, .i 4 0, .i 4 0, .i 4 0, .i 4 0, .i 4 0, .i 4 0, .i 4 0, .i 4 0, .i 4 0, .i 4 0, .i 4 0, .i 4 0, .i 4 0, .i 4 0, .i 4 0, .i 4 0, .i 4 0, .i 4 0, .i 4 0, .i 4 0, .o (.ns), .i 3 0, .i 3 0] []),
    sDo (xStA 39 (.f 3) (.l 0)),
    sSet 4 (xMov (.c (.c (.i 3 1))))]))
  cRet) cSkip))
  (cSeq (cReg (regC [sPush (xCalF 68 [(.f 1)]),
    sPush (xExt (.l 0) 0),
    sPush (xExt (.l 1) 1),
    sSet 5 (xAlc 60 [.i 3 0, .o (.s []), .o (.s []), .o (.s []), .o (.s []), .i 3 0, .i 3 0, .o (.s []), .o (.s []), .i 3 0, .o (.ns), .o (.ns), .o (.s []), .o (.s []), .i 3 0, .i 3 0, .o (.s []), .o (.s []), .o (.s []), .o (.s []), .i 3 0, .o (.ns), .o (.ns), .o (.s []), .o (.s []), .i 3 0, .o (.ns), .o (.ns), .i 3 0, .i 3 0]),
    sDo (xStA 30 (.f 5) (.l 1)),
    sSet 6 (xMov (.l 0))]))
  (cSeq (cSeq (cReg (regC [sPush (xBin (bNe 0) (.f 6) (.c (.c (.i 3 0)))),
    sIf (.l 0) false (sPush (xFld (.f 5) 0)) (sPush (xMov (.c udf))),
    sIf (.l 1) false (sPush (xLd1 (.l 0))) (sPush (xMov (.c udf))),
    sIf (.l 2) false (sPush (xBin (bNe 0) (.l 0) (.c (.c (.i 3 4))))) (sPush (xMov (.c udf))),
    sSet 11 (xPick (.l 3) (.c (.c (.o (.b true)))) (.l 0))]))
  (cCond (.f 11) (cSeq (cReg (regC [sPush (xBld [.o (.s []), .o (.s []), .o (.s []), .o (.s []), .i 4 0, .i 4 0, .i 4 0, .i 4 0, .i 4 0, .i 4 0, .i 4 0, .i 4 0, .i 4 0, .i 4 0, .i 4 0, .i 4 0, .i 4 0, .i 4 0, .i 4 0, .i 4 0, .i 4 0, .i 4 0, .i 4 0, .i 4 0, .i 4 0, .i 4 0, .i 4 0, .i 4 0, .i 4 0, .i 4 0, .i 4 0, .i 4 0, .i 4 0, .i 4 0, .i 4 0, .i 4 0, .o (.ns), .i 3 0, .i 3 0] []),
    sDo (xStA 39 (.f 3) (.l 0)),
    sSet 4 (xMov (.c (.c (.i 3 2))))]))
  cRet) cSkip))
  (cSeq (cReg (regC [sPush (xFld (.f 5) 23),
    sPush (xFld (.l 0) 0),
    sPush (xLdA 4 (.l 0)),
    sPush (xCalF 69 [(.f 0), (.l 0), (.f 2)]),
    sPush (xExt (.l 0) 0),
    sPush (xExt (.l 1) 1),
    sSet 7 (xAlc 31 [.o (.s []), .o (.s []), .i 4 0, .i 4 0, .i 4 0, .i 4 0, .i 4 0, .i 4 0, .i 4 0, .i 4 0, .i 4 0, .i 4 0, .i 4 0, .i 4 0, .i 4 0, .i 4 0, .i 4 0, .i 4 0, .i 4 0, .i 4 0, .i 4 0, .i 4 0, .i 4 0, .i 4 0, .i 4 0, .i 4 0, .i 4 0, .i 4 0, .i 4 0, .i 4 0, .i 4 0, .i 4 0, .i 4 0, .i 4 0, .o (.s []), .i 3 0, .i 3 0]),
    sDo (xStA 37 (.f 7) (.l 1)),
    sSet 6 (xMov (.l 0))]))
  (cSeq (cSeq (cReg (regC [sSet 12 (xBin (bNe 0) (.f 6) (.c (.c (.i 3 0))))]))
  (cCond (.f 12) (cSeq (cReg (regC [sPush (xBld [.o (.s []), .o (.s []), .o (.s []), .o (.s []), .i 4 0, .i 4 0, .i 4 0, .i 4 0, .i 4 0, .i 4 0, .i 4 0, .i 4 0, .i 4 0, .i 4 0, .i 4 0, .i 4 0, .i 4 0, .i 4 0, .i 4 0, .i 4 0, .i 4 0, .i 4 0, .i 4 0, .i 4 0, .i 4 0, .i 4 0, .i 4 0, .i 4 0, .i 4 0, .i 4 0, .i 4 0, .i 4 0, .i 4 0, .i 4 0, .i 4 0, .i 4 0, .o (.ns), .i 3 0, .i 3 0] []),
    sDo (xStA 39 (.f 3) (.l 0)),
    sSet 4 (xMov (.f 6))]))
  cRet) cSkip))
  (cSeq (cReg (regC [sPush (xLdA 37 (.f 7)),
    sPush (xFld (.f 5) 23),
    sPush (xFld (.l 0) 4),
    sPush (xLd1 (.l 0)),
    sPush (xCalF 70 [(.l 3), (.l 0)]),
    sPush (xExt (.l 0) 0),
    sPush (xExt (.l 1) 1),
    sSet 8 (xAlc 33 [.o (.s []), .o (.s []), .i 3 0, .i 3 0]),
    sDo (xStA 4 (.f 8) (.l 1)),
    sSet 6 (xMov (.l 0))]))
  (cSeq (cSeq (cReg (regC [sSet 13 (xBin (bNe 0) (.f 6) (.c (.c (.i 3 0))))]))
  (cCond (.f 13) (cSeq (cReg (regC [sPush (xBld [.o (.s []), .o (.s []), .o (.s []), .o (.s []), .i 4 0, .i 4 0, .i 4 0, .i 4 0, .i 4 0, .i 4 0, .i 4 0, .i 4 0, .i 4 0, .i 4 0, .i 4 0, .i 4 0, .i 4 0, .i 4 0, .i 4 0, .i 4 0, .i 4 0, .i 4 0, .i 4 0, .i 4 0, .i 4 0, .i 4 0, .i 4 0, .i 4 0, .i 4 0, .i 4 0, .i 4 0, .i 4 0, .i 4 0, .i 4 0, .i 4 0, .i 4 0, .o (.ns), .i 3 0, .i 3 0] []),
    sDo (xStA 39 (.f 3) (.l 0)),
    sSet 4 (xMov (.f 6))]))
  cRet) cSkip))
  (cSeq (cReg (regC [sPush (xLdA 37 (.f 7)),
    sPush (xCalF 71 [(.f 0), (.l 0)]),
    sPush (xExt (.l 0) 0),
    sPush (xExt (.l 1) 1),
    sSet 9 (xMov (.l 1)),
    sSet 6 (xMov (.l 0))]))
  (cSeq (cSeq (cReg (regC [sSet 14 (xBin (bEq 0) (.f 6) (.c (.c (.i 3 0))))]))
  (cCond (.f 14) (cReg (regC [sPush (xChk (.f 0)),
    sPush (xFld (.l 0) 6),
    sPush (xLd1 (.l 0)),
    sPush (xLdA 4 (.f 8)),
    sPush (xCalF 72 [(.l 1), (.l 0), (.f 2)]),
    sSet 6 (xMov (.l 0))])) cSkip))
  (cSeq (cSeq (cReg (regC [sSet 15 (xBin (bNe 0) (.f 6) (.c (.c (.i 3 0))))]))
  (cCond (.f 15) (cSeq (cReg (regC [sPush (xBld [.o (.s []), .o (.s []), .o (.s []), .o (.s []), .i 4 0, .i 4 0, .i 4 0, .i 4 0, .i 4 0, .i 4 0, .i 4 0, .i 4 0, .i 4 0, .i 4 0, .i 4 0, .i 4 0, .i 4 0, .i 4 0, .i 4 0, .i 4 0, .i 4 0, .i 4 0, .i 4 0, .i 4 0, .i 4 0, .i 4 0, .i 4 0, .i 4 0, .i 4 0, .i 4 0, .i 4 0, .i 4 0, .i 4 0, .i 4 0, .i 4 0, .i 4 0, .o (.ns), .i 3 0, .i 3 0] []),
    sDo (xStA 39 (.f 3) (.l 0)),
    sSet 4 (xMov (.f 6))]))
  cRet) cSkip))
  (cSeq (cReg (regC [sPush (xFld (.f 7) 0),
    sPush (xLdA 2 (.l 0)),
    sPush (xChk (.f 0)),
    sPush (xFld (.l 0) 0),
    sPush (xLdA 2 (.l 0)),
    sPush (xFld (.f 7) 2),
    sPush (xLdA 32 (.l 0)),
    sPush (xFld (.f 8) 2),
    sPush (xLd1 (.l 0)),
    sPush (xFld (.f 8) 3),
    sPush (xLd1 (.l 0)),
    sPush (xBld [.o (.s []), .o (.s []), .o (.s []), .o (.s []), .i 4 0, .i 4 0, .i 4 0, .i 4 0, .i 4 0, .i 4 0, .i 4 0, .i 4 0, .i 4 0, .i 4 0, .i 4 0, .i 4 0, .i 4 0, .i 4 0, .i 4 0, .i 4 0, .i 4 0, .i 4 0, .i 4 0, .i 4 0, .i 4 0, .i 4 0, .i 4 0, .i 4 0, .i 4 0, .i 4 0, .i 4 0, .i 4 0, .i 4 0, .i 4 0, .i 4 0, .i 4 0, .o (.ns), .i 3 0, .i 3 0] [.mk 0 2 (.l 9), .mk 2 2 (.l 6), .mk 4 32 (.l 4), .mk 36 1 (.f 9), .mk 37 1 (.l 2), .mk 38 1 (.l 0)]),
    sDo (xStA 39 (.f 3) (.l 0)),
    sSet 4 (xMov (.c (.c (.i 3 0))))]))
  cRet)))))))))))),
  [.cn (.f 3) 39, .v (.f 4)], 3⟩
def m33 : List (Nat × Nat) := [(0, 0), (1, 1), (4, 2)]
/-- (*sync/atomic.Int64).Add -/
noncomputable def u33 : Fu := ⟨(cSeq (cReg (regC [sSet 2 (xMov (.c (.c (.i 3 0))))]))
  (cSeq (cReg (regC [sPush (xChk (.f 0)),
    sPush (xFld (.l 0) 0),
    sPush (xCalF 73 [(.l 0), (.f 1)]),
    sSet 2 (xMov (.l 0))]))
  cRet)),
  [.v (.f 2)], 2⟩
def m34 : List (Nat × Nat) := [(0, 0), (1, 1), (4, 2), (5, 3)]
/-- (*legate/legateref1.Cursor).Into -/
noncomputable def u34 : Fu := ⟨(cSeq (cReg (regC [sSet 2 (xMov (.c (.c (.o (.np)))))]))
  (cSeq (cReg (regC [sPush (xCalF 74 [(.f 0), (.f 1)]),
    sSet 3 (xMov (.l 0))]))
  (cSeq (cReg (regC [sPush (xChk (.f 0)),
    sPush (xFld (.l 0) 1),
    sPush (xLd1 (.l 0)),
    sPush (xBld [.o (.ns), .o (.b false)] [.mk 0 1 (.f 3), .mk 1 1 (.l 0)]),
    sPush (xBox 120 (.l 0)),
    sSet 2 (xMov (.l 0))]))
  cRet))),
  [.v (.f 2)], 2⟩
def m35 : List (Nat × Nat) := [(0, 0), (2, 1), (3, 2), (4, 3)]
/-- legate/legateref8.toPrinc -/
noncomputable def u35 : Fu := ⟨(cSeq (cReg (regC [sSet 1 (xAlc 26 [.o (.s []), .o (.s [])])]))
  (cSeq (cReg (regC [sPush (xCalF 34 [(.f 0), (.c (.c (.i 4 48)))]),
    sSet 2 (xMov (.l 0))]))
  (cSeq (cReg (regC [sPush (xCalF 75 [(.f 2)]),
    sPush (xBld [.o (.s []), .o (.s [])] [.mk 0 1 (.l 0)]),
    sSet 3 (xAlc 26 [.o (.s []), .o (.s [])]),
    sDo (xStA 2 (.f 3) (.l 0))]))
  (cSeq (cReg (regC [sPush (xCalF 75 [(.f 2)]),
    sPush (xFld (.f 3) 1),
    sDo (xSt1 (.l 0) (.l 1))]))
  (cSeq (cReg (regC [sPush (xChk (.f 0)),
    sPush (xFld (.l 0) 1),
    sPush (xLd1 (.l 0)),
    sIf (.l 0) false (sPush (xMov (.f 2))) (sPush (xMov (.c udf))),
    sIf (.l 1) false (sPush (xCalF 76 [(.l 0)])) (sPush (xMov (.c udf))),
    sIf (.l 2) false (sPush (xNot (.l 0))) (sPush (xMov (.c udf))),
    sPush (xPick (.l 3) (.c (.c (.o (.b true)))) (.l 0)),
    sPush (xChk (.f 0)),
    sPush (xFld (.l 0) 1),
    sDo (xSt1 (.l 0) (.l 2))]))
  (cSeq (cReg (regC [sPush (xLdA 2 (.f 3)),
    sDo (xStA 2 (.f 1) (.l 0))]))
  cRet)))))),
  [.cn (.f 1) 2], 1⟩
def m36 : List (Nat × Nat) := [(0, 0), (2, 1), (3, 2), (4, 3), (5, 4), (21, 5), (28, 6), (53, 7)]
/-- (*legate/legateref1.Cursor).Int -/
noncomputable def u36 : Fu := ⟨(cSeq (cReg (regC [sSet 1 (xMov (.c (.c (.i 3 0))))]))
  (cSeq (cReg (regC [sPush (xCalF 74 [(.f 0), (.c (.c (.i 4 2)))]),
    sSet 2 (xMov (.l 0))]))
  (cSeq (cSeq (cReg (regC [sPush (xChk (.f 0)),
    sPush (xFld (.l 0) 1),
    sPush (xLd1 (.l 0)),
    sIf (.l 0) false (sPush (xMov (.f 2))) (sPush (xMov (.c udf))),
    sIf (.l 1) false (sPush (xLen (.l 0))) (sPush (xMov (.c udf))),
    sIf (.l 2) false (sPush (xBin (bEq 0) (.l 0) (.c (.c (.i 3 0))))) (sPush (xMov (.c udf))),
    sPush (xPick (.l 3) (.c (.c (.o (.b true)))) (.l 0)),
    sIf (.l 0) false (sPush (xMov (.f 2))) (sPush (xMov (.c udf))),
    sIf (.l 1) false (sPush (xLen (.l 0))) (sPush (xMov (.c udf))),
    sIf (.l 2) false (sPush (xBin (bGtr 3 18446744073709551616 9223372036854775808) (.l 0) (.c (.c (.i 3 9))))) (sPush (xMov (.c udf))),
    sSet 5 (xPick (.l 3) (.c (.c (.o (.b true)))) (.l 0))]))
  (cCond (.f 5) (cSeq (cReg (regC [sPush (xChk (.f 0)),
    sPush (xFld (.l 0) 1),
    sDo (xSt1 (.l 0) (.c (.c (.o (.b true)))))]))
  (cSeq (cReg (regC [sSet 1 (xMov (.c (.c (.i 3 0))))]))
  cRet)) cSkip))
  (cSeq (cReg (regC [sSet 3 (xMov (.c (.c (.i 3 0))))]))
  (cSeq (cSeq (cReg (regC [sSet 4 (xMov (.c (.c (.i 3 0))))]))
  (cBlock 0 (cLoop (cSeq (cSeq (cReg (regC [sPush (xLen (.f 2)),
    sSet 6 (xBin (bLss 3 18446744073709551616 9223372036854775808) (.f 4) (.l 0))]))
  (cCond (.f 6) cSkip (cExit 0)))
  (cSeq (cBlock 1 (cReg (regC [sPush (xBin (bShl 3 18446744073709551616) (.f 3) (.c (.c (.i 7 8)))),
    sPush (xIxS 1 (.f 2) (.f 4)),
    sPush (xLd1 (.l 0)),
    sPush (xCvi 4 256 256 3 18446744073709551616 (.l 0)),
    sPush (xBin (bOr 3) (.l 3) (.l 0)),
    sSet 3 (xMov (.l 0))])))
  (cReg (regC [sPush (xBin (bAdd 3 18446744073709551616) (.f 4) (.c (.c (.i 3 1)))),
    sSet 4 (xMov (.l 0))])))))))
  (cSeq (cSeq (cReg (regC [sPush (xBin (bLss 3 18446744073709551616 9223372036854775808) (.f 3) (.c (.c (.i 3 0)))),
    sIf (.l 0) false (sPush (xMov (.f 3))) (sPush (xMov (.c udf))),
    sIf (.l 1) false (sPush (xBin (bGtr 3 18446744073709551616 9223372036854775808) (.l 0) (.c (.c (.i 3 4611686018427387904))))) (sPush (xMov (.c udf))),
    sPush (xPick (.l 2) (.c (.c (.o (.b true)))) (.l 0)),
    sIf (.l 0) false (sPush (xMov (.f 3))) (sPush (xMov (.c udf))),
    sIf (.l 1) false (sPush (xMov (.f 2))) (sPush (xMov (.c udf))),
    sIf (.l 2) false (sPush (xCalF 48 [(.l 1)])) (sPush (xMov (.c udf))),
    sIf (.l 3) false (sPush (xB2s (.l 0))) (sPush (xMov (.c udf))),
    sIf (.l 4) false (sPush (xCalF 77 [(.c (.c (.i 4 2))), (.l 2)])) (sPush (xMov (.c udf))),
    sAgI (.l 5) false (sAg (.l 1) (xB2s (.l 2))),
    sIf (.l 5) false (sPush (xB2s (.l 0))) (sPush (xMov (.c udf))),
    sIf (.l 6) false (sPush (xBin (bNe 1) (.l 2) (.l 0))) (sPush (xMov (.c udf))),
    sSet 7 (xPick (.l 7) (.c (.c (.o (.b true)))) (.l 0))]))
  (cCond (.f 7) (cSeq (cReg (regC [sPush (xChk (.f 0)),
    sPush (xFld (.l 0) 1),
    sDo (xSt1 (.l 0) (.c (.c (.o (.b true)))))]))
  (cSeq (cReg (regC [sSet 1 (xMov (.c (.c (.i 3 0))))]))
  cRet)) cSkip))
  (cSeq (cReg (regC [sSet 1 (xMov (.f 3))]))
  cRet))))))),
  [.v (.f 1)], 1⟩
def m37 : List (Nat × Nat) := [(0, 0), (2, 1), (3, 2), (4, 3)]
/-- legate/legateref8.toTicket -/
noncomputable def u37 : Fu := ⟨(cSeq (cReg (regC [sSet 1 (xAlc 50 [.o (.s []), .o (.s []), .i 3 0, .o (.ns)])]))
  (cSeq (cReg (regC [sPush (xCalF 34 [(.f 0), (.c (.c (.i 4 97)))]),
    sSet 2 (xMov (.l 0))]))
  (cSeq (cReg (regC [sPush (xCalF 35 [(.f 2)]),
    sPush (xBld [.o (.s []), .o (.s []), .i 3 0, .o (.ns)] [.mk 0 2 (.l 0)]),
    sSet 3 (xAlc 50 [.o (.s []), .o (.s []), .i 3 0, .o (.ns)]),
    sDo (xStA 4 (.f 3) (.l 0))]))
  (cSeq (cReg (regC [sPush (xCalF 36 [(.f 2)]),
    sPush (xFld (.f 3) 2),
    sDo (xSt1 (.l 0) (.l 1))]))
  (cSeq (cReg (regC [sPush (xCalF 38 [(.f 2)]),
    sPush (xFld (.f 3) 3),
    sDo (xSt1 (.l 0) (.l 1))]))
  (cSeq (cReg (regC [sPush (xChk (.f 0)),
    sPush (xFld (.l 0) 1),
    sPush (xLd1 (.l 0)),
    sIf (.l 0) false (sPush (xMov (.f 2))) (sPush (xMov (.c udf))),
    sIf (.l 1) false (sPush (xCalF 76 [(.l 0)])) (sPush (xMov (.c udf))),
    sIf (.l 2) false (sPush (xNot (.l 0))) (sPush (xMov (.c udf))),
    sPush (xPick (.l 3) (.c (.c (.o (.b true)))) (.l 0)),
    sPush (xChk (.f 0)),
    sPush (xFld (.l 0) 1),
    sDo (xSt1 (.l 0) (.l 2))]))
  (cSeq (cReg (regC [sPush (xLdA 4 (.f 3)),
    sDo (xStA 4 (.f 1) (.l 0))]))
  cRet))))))),
  [.cn (.f 1) 4], 1⟩
def m38 : List (Nat × Nat) := [(0, 0), (2, 1)]
/-- (*legate/legateref1.Cursor).Octets -/
noncomputable def u38 : Fu := ⟨(cSeq (cReg (regC [sSet 1 (xMov (.c (.c (.o (.ns)))))]))
  (cSeq (cReg (regC [sPush (xCalF 74 [(.f 0), (.c (.c (.i 4 4)))]),
    sSet 1 (xMov (.l 0))]))
  cRet)),
  [.v (.f 1)], 1⟩
def m41 : List (Nat × Nat) := [(0, 0), (2, 1)]
/-- (*sync/atomic.Int64).Load -/
noncomputable def u41 : Fu := ⟨(cSeq (cReg (regC [sSet 1 (xMov (.c (.c (.i 3 0))))]))
  (cSeq (cReg (regC [sPush (xChk (.f 0)),
    sPush (xFld (.l 0) 0),
    sPush (xCalF 83 [(.l 0)]),
    sSet 1 (xMov (.l 0))]))
  cRet)),
  [.v (.f 1)], 1⟩
def m42 : List (Nat × Nat) := [(0, 0), (2, 1)]
/-- legate/legateref5.Is -/
noncomputable def u42 : Fu := ⟨(cSeq (cReg (regC [sSet 1 (xMov (.c (.c (.o (.b false)))))]))
  (cSeq (cReg (regC [sPush (xCalF 84 [(.f 0)]),
    sPush (xBin (bGtr 3 18446744073709551616 9223372036854775808) (.l 0) (.c (.c (.i 3 0)))),
    sSet 1 (xMov (.l 0))]))
  cRet)),
  [.v (.f 1)], 1⟩
def m43 : List (Nat × Nat) := [(0, 0), (2, 1), (3, 2), (17, 3)]
/-- legate/legateref5.Target -/
noncomputable def u43 : Fu := ⟨(cSeq (cReg (regC [sSet 1 (xMov (.c (.c (.o (.s []))))),
    sSet 2 (xMov (.c (.c (.o (.b false)))))]))
  (cSeq (cSeq (cReg (regC [sPush (xLenT (.f 0)),
    sPush (xBin (bLss 3 18446744073709551616 9223372036854775808) (.l 0) (.c (.c (.i 3 8)))),
    sIf (.l 0) false (sPush (xMov (.f 0))) (sPush (xMov (.c udf))),
    sIf (.l 1) false (sPush (xCutT (.l 0) none (some (.c (.c (.i 3 7)))))) (sPush (xMov (.c udf))),
    sIf (.l 2) false (sPush (xBin (bNe 1) (.l 0) (.c (.c (.o (.s [107, 114, 98, 116, 103, 116, 47])))))) (sPush (xMov (.c udf))),
    sPush (xPick (.l 3) (.c (.c (.o (.b true)))) (.l 0)),
    sIf (.l 0) false (sPush (xMov (.f 0))) (sPush (xMov (.c udf))),
    sIf (.l 1) false (sPush (xCutT (.l 0) (some (.c (.c (.i 3 7)))) none)) (sPush (xMov (.c udf))),
    sIf (.l 2) false (sPush (xCalF 42 [(.l 0)])) (sPush (xMov (.c udf))),
    sIf (.l 3) false (sPush (xNot (.l 0))) (sPush (xMov (.c udf))),
    sSet 3 (xPick (.l 4) (.c (.c (.o (.b true)))) (.l 0))]))
  (cCond (.f 3) (cSeq (cReg (regC [sSet 1 (xMov (.c (.c (.o (.s []))))),
    sSet 2 (xMov (.c (.c (.o (.b false)))))]))
  cRet) cSkip))
  (cSeq (cReg (regC [sPush (xCutT (.f 0) (some (.c (.c (.i 3 7)))) none),
    sSet 1 (xMov (.l 0)),
    sSet 2 (xMov (.c (.c (.o (.b true)))))]))
  cRet))),
  [.v (.f 1), .v (.f 2)], 1⟩
def m44 : List (Nat × Nat) := [(0, 0), (1, 1), (2, 2), (3, 3), (4, 4), (5, 5), (6, 6), (7, 7), (8, 8), (78, 9), (79, 10), (96, 11), (113, 12), (143, 13), (167, 14)]
/-- legate/legateref8.Is -/
noncomputable def u44 : Fu := ⟨(cSeq (cReg (regC [sSet 1 (xBox 60 (.f 0)),
    sSet 2 (xMov (.c (.c (.o (.b false)))))]))
  (cSeq (cReg (regC [sPush (xFld (.f 1) 0),
    sPush (xLd1 (.l 0)),
    sSet 3 (xMov (.l 0))]))
  (cSeq (cReg (regC [sPush (xFld (.f 1) 1),
    sPush (xLdA 6 (.l 0)),
    sPush (xBld [.o (.s []), .o (.s []), .o (.s []), .o (.s []), .i 3 0, .i 3 0] []),
    sPush (xBin (gEq [1, 1, 1, 1, 0, 0]) (.l 1) (.l 0)),
    sPush (xFld (.f 1) 7),
    sPush (xFld (.l 0) 0),
    sPush (xLdA 4 (.l 0)),
    sPush (xCalF 85 [(.l 0)]),
    sAg (.l 6) (xLdA 6 (.l 7)),
    sIf (.l 0) true (sPush (xFld (.f 1) 7)) (sPush (xMov (.c udf))),
    sIf (.l 1) true (sPush (xFld (.l 0) 4)) (sPush (xMov (.c udf))),
    sIf (.l 2) true (sPush (xLd1 (.l 0))) (sPush (xMov (.c udf))),
    sIf (.l 3) true (sPush (xLen (.l 0))) (sPush (xMov (.c udf))),
    sIf (.l 4) true (sPush (xBin (bEq 0) (.l 0) (.c (.c (.i 3 0))))) (sPush (xMov (.c udf))),
    sPush (xPick (.l 5) (.l 0) (.c (.c (.o (.b false))))),
    sIf (.l 0) true (sPush (xFld (.f 1) 7)) (sPush (xMov (.c udf))),
    sIf (.l 1) true (sPush (xFld (.l 0) 5)) (sPush (xMov (.c udf))),
    sIf (.l 2) true (sPush (xLdA 2 (.l 0))) (sPush (xMov (.c udf))),
    sIf (.l 3) true (sPush (xBld [.o (.s []), .o (.s [])] [])) (sPush (xMov (.c udf))),
    sIf (.l 4) true (sPush (xBin (gEq [1, 1]) (.l 1) (.l 0))) (sPush (xMov (.c udf))),
    sPush (xPick (.l 5) (.l 0) (.c (.c (.o (.b false))))),
    sIf (.l 0) true (sPush (xFld (.f 1) 7)) (sPush (xMov (.c udf))),
    sIf (.l 1) true (sPush (xFld (.l 0) 7)) (sPush (xMov (.c udf))),
    sIf (.l 2) true (sPush (xLd1 (.l 0))) (sPush (xMov (.c udf))),
    sIf (.l 3) true (sPush (xBin (bEq 0) (.l 0) (.c (.c (.i 3 0))))) (sPush (xMov (.c udf))),
    sPush (xPick (.l 4) (.l 0) (.c (.c (.o (.b false))))),
    sIf (.l 0) true (sPush (xFld (.f 1) 7)) (sPush (xMov (.c udf))),
    sIf (.l 1) true (sPush (xFld (.l 0) 8)) (sPush (xMov (.c udf))),
    sIf (.l 2) true (sPush (xLd1 (.l 0))) (sPush (xMov (.c udf))),
    sIf (.l 3) true (sPush (xBin (bEq 0) (.l 0) (.c (.c (.i 3 0))))) (sPush (xMov (.c udf))),
    sPush (xPick (.l 4) (.l 0) (.c (.c (.o (.b false))))),
    sSet 4 (xMov (.l 26)),
    sSet 5 (xMov (.l 0))]))
  (cSeq (cReg (regC [sPush (xFld (.f 1) 16),
    sPush (xFld (.l 0) 0),
    sPush (xLdA 2 (.l 0)),
    sPush (xBld [.o (.s []), .o (.s [])] []),
    sPush (xBin (gEq [1, 1]) (.l 1) (.l 0)),
    sIf (.l 0) true (sPush (xFld (.f 1) 16)) (sPush (xMov (.c udf))),
    sIf (.l 1) true (sPush (xFld (.l 0) 2)) (sPush (xMov (.c udf))),
    sIf (.l 2) true (sPush (xLdA 4 (.l 0))) (sPush (xMov (.c udf))),
    sIf (.l 3) true (sPush (xCalF 85 [(.l 0)])) (sPush (xMov (.c udf))),
    sPush (xPick (.l 4) (.l 0) (.c (.c (.o (.b false))))),
    sIf (.l 0) true (sPush (xFld (.f 1) 16)) (sPush (xMov (.c udf))),
    sIf (.l 1) true (sPush (xFld (.l 0) 6)) (sPush (xMov (.c udf))),
    sIf (.l 2) true (sPush (xLd1 (.l 0))) (sPush (xMov (.c udf))),
    sIf (.l 3) true (sPush (xLen (.l 0))) (sPush (xMov (.c udf))),
    sIf (.l 4) true (sPush (xBin (bEq 0) (.l 0) (.c (.c (.i 3 0))))) (sPush (xMov (.c udf))),
    sPush (xPick (.l 5) (.l 0) (.c (.c (.o (.b false))))),
    sSet 6 (xMov (.l 0))]))
  (cSeq (cReg (regC [sPush (xFld (.f 1) 23),
    sPush (xFld (.l 0) 0),
    sPush (xLdA 4 (.l 0)),
    sPush (xFld (.f 1) 28),
    sPush (xLdA 2 (.l 0)),
    sPush (xBld [.i 3 0, .i 3 0] []),
    sPush (xBin (gEq [0, 0]) (.l 1) (.l 0)),
    sPush (xCalF 85 [(.l 4)]),
    sAg (.l 3) (xLdA 2 (.l 4)),
    sIf (.l 0) true (sPush (xFld (.f 1) 23)) (sPush (xMov (.c udf))),
    sIf (.l 1) true (sPush (xFld (.l 0) 4)) (sPush (xMov (.c udf))),
    sIf (.l 2) true (sPush (xLd1 (.l 0))) (sPush (xMov (.c udf))),
    sIf (.l 3) true (sPush (xLen (.l 0))) (sPush (xMov (.c udf))),
    sIf (.l 4) true (sPush (xBin (bEq 0) (.l 0) (.c (.c (.i 3 0))))) (sPush (xMov (.c udf))),
    sPush (xPick (.l 5) (.l 0) (.c (.c (.o (.b false))))),
    sSet 7 (xMov (.l 0)),
    sSet 8 (xMov (.l 7))]))
  (cSeq (cSeq (cReg (regC [sSet 9 (xMov (.f 3))]))
  (cBlock 0 (cSeq (cReg (regC [sPush (xBin (bEq 0) (.f 9) (.c (.c (.i 3 1)))),
    sSet 10 (xMov (.l 0))]))
  (cCond (.f 10) (cSeq (cReg (regC [sPush (xFld (.f 1) 1),
    sPush (xLdA 6 (.l 0)),
    sPush (xCalF 86 [(.l 0)]),
    sIf (.l 0) true (sPush (xMov (.f 5))) (sPush (xMov (.c udf))),
    sPush (xPick (.l 1) (.l 0) (.c (.c (.o (.b false))))),
    sIf (.l 0) true (sPush (xMov (.f 6))) (sPush (xMov (.c udf))),
    sPush (xPick (.l 1) (.l 0) (.c (.c (.o (.b false))))),
    sIf (.l 0) true (sPush (xMov (.f 7))) (sPush (xMov (.c udf))),
    sPush (xPick (.l 1) (.l 0) (.c (.c (.o (.b false))))),
    sIf (.l 0) true (sPush (xMov (.f 8))) (sPush (xMov (.c udf))),
    sPush (xPick (.l 1) (.l 0) (.c (.c (.o (.b false))))),
    sSet 2 (xMov (.l 0))]))
  cRet) (cSeq (cReg (regC [sPush (xBin (bEq 0) (.f 9) (.c (.c (.i 3 2)))),
    sSet 11 (xMov (.l 0))]))
  (cCond (.f 11) (cSeq (cReg (regC [sPush (xFld (.f 1) 7),
    sPush (xLdA 9 (.l 0)),
    sPush (xCalF 87 [(.l 0)]),
    sIf (.l 0) true (sPush (xMov (.f 4))) (sPush (xMov (.c udf))),
    sPush (xPick (.l 1) (.l 0) (.c (.c (.o (.b false))))),
    sIf (.l 0) true (sPush (xMov (.f 6))) (sPush (xMov (.c udf))),
    sPush (xPick (.l 1) (.l 0) (.c (.c (.o (.b false))))),
    sIf (.l 0) true (sPush (xMov (.f 7))) (sPush (xMov (.c udf))),
    sPush (xPick (.l 1) (.l 0) (.c (.c (.o (.b false))))),
    sIf (.l 0) true (sPush (xMov (.f 8))) (sPush (xMov (.c udf))),
    sPush (xPick (.l 1) (.l 0) (.c (.c (.o (.b false))))),
    sSet 2 (xMov (.l 0))]))
  cRet) (cSeq (cReg (regC [sPush (xBin (bEq 0) (.f 9) (.c (.c (.i 3 3)))),
    sSet 12 (xMov (.l 0))]))
  (cCond (.f 12) (cSeq (cReg (regC [sPush (xFld (.f 1) 16),
    sPush (xFld (.l 0) 0),
    sPush (xLdA 2 (.l 0)),
    sPush (xCalF 20 [(.l 0)]),
    sIf (.l 0) true (sPush (xFld (.f 1) 16)) (sPush (xMov (.c udf))),
    sIf (.l 1) true (sPush (xFld (.l 0) 2)) (sPush (xMov (.c udf))),
    sIf (.l 2) true (sPush (xLdA 4 (.l 0))) (sPush (xMov (.c udf))),
    sIf (.l 3) true (sPush (xCalF 88 [(.l 0)])) (sPush (xMov (.c udf))),
    sPush (xPick (.l 4) (.l 0) (.c (.c (.o (.b false))))),
    sIf (.l 0) true (sPush (xFld (.f 1) 16)) (sPush (xMov (.c udf))),
    sIf (.l 1) true (sPush (xFld (.l 0) 6)) (sPush (xMov (.c udf))),
    sIf (.l 2) true (sPush (xLd1 (.l 0))) (sPush (xMov (.c udf))),
    sIf (.l 3) true (sPush (xCalF 89 [(.l 0)])) (sPush (xMov (.c udf))),
    sPush (xPick (.l 4) (.l 0) (.c (.c (.o (.b false))))),
    sIf (.l 0) true (sPush (xMov (.f 4))) (sPush (xMov (.c udf))),
    sPush (xPick (.l 1) (.l 0) (.c (.c (.o (.b false))))),
    sIf (.l 0) true (sPush (xMov (.f 5))) (sPush (xMov (.c udf))),
    sPush (xPick (.l 1) (.l 0) (.c (.c (.o (.b false))))),
    sIf (.l 0) true (sPush (xMov (.f 7))) (sPush (xMov (.c udf))),
    sPush (xPick (.l 1) (.l 0) (.c (.c (.o (.b false))))),
    sIf (.l 0) true (sPush (xMov (.f 8))) (sPush (xMov (.c udf))),
    sPush (xPick (.l 1) (.l 0) (.c (.c (.o (.b false))))),
    sSet 2 (xMov (.l 0))]))
  cRet) (cSeq (cReg (regC [sPush (xBin (bEq 0) (.f 9) (.c (.c (.i 3 4)))),
    sSet 13 (xMov (.l 0))]))
  (cCond (.f 13) (cSeq (cReg (regC [sPush (xFld (.f 1) 23),
    sPush (xFld (.l 0) 0),
    sPush (xLdA 4 (.l 0)),
    sPush (xCalF 88 [(.l 0)]),
    sIf (.l 0) true (sPush (xFld (.f 1) 23)) (sPush (xMov (.c udf))),
    sIf (.l 1) true (sPush (xFld (.l 0) 4)) (sPush (xMov (.c udf))),
    sIf (.l 2) true (sPush (xLd1 (.l 0))) (sPush (xMov (.c udf))),
    sIf (.l 3) true (sPush (xCalF 89 [(.l 0)])) (sPush (xMov (.c udf))),
    sPush (xPick (.l 4) (.l 0) (.c (.c (.o (.b false))))),
    sIf (.l 0) true (sPush (xMov (.f 4))) (sPush (xMov (.c udf))),
    sPush (xPick (.l 1) (.l 0) (.c (.c (.o (.b false))))),
    sIf (.l 0) true (sPush (xMov (.f 5))) (sPush (xMov (.c udf))),
    sPush (xPick (.l 1) (.l 0) (.c (.c (.o (.b false))))),
    sIf (.l 0) true (sPush (xMov (.f 6))) (sPush (xMov (.c udf))),
    sPush (xPick (.l 1) (.l 0) (.c (.c (.o (.b false))))),
    sIf (.l 0) true (sPush (xMov (.f 8))) (sPush (xMov (.c udf))),
    sPush (xPick (.l 1) (.l 0) (.c (.c (.o (.b false))))),
    sSet 2 (xMov (.l 0))]))
  cRet) (cSeq (cReg (regC [sPush (xBin (bEq 0) (.f 9) (.c (.c (.i 3 5)))),
    sSet 14 (xMov (.l 0))]))
  (cCond (.f 14) (cSeq (cReg (regC [sPush (xFld (.f 1) 28),
    sPush (xFld (.l 0) 0),
    sPush (xLd1 (.l 0)),
    sPush (xCalF 90 [(.l 0), (.c (.c (.i 3 1))), (.c (.c (.i 3 255)))]),
    sIf (.l 0) true (sPush (xFld (.f 1) 28)) (sPush (xMov (.c udf))),
    sIf (.l 1) true (sPush (xFld (.l 0) 1)) (sPush (xMov (.c udf))),
    sIf (.l 2) true (sPush (xLd1 (.l 0))) (sPush (xMov (.c udf))),
    sIf (.l 3) true (sPush (xCalF 90 [(.l 0), (.c (.c (.i 3 0))), (.c (.c (.i 3 1073741824)))])) (sPush (xMov (.c udf))),
    sPush (xPick (.l 4) (.l 0) (.c (.c (.o (.b false))))),
    sIf (.l 0) true (sPush (xMov (.f 4))) (sPush (xMov (.c udf))),
    sPush (xPick (.l 1) (.l 0) (.c (.c (.o (.b false))))),
    sIf (.l 0) true (sPush (xMov (.f 5))) (sPush (xMov (.c udf))),
    sPush (xPick (.l 1) (.l 0) (.c (.c (.o (.b false))))),
    sIf (.l 0) true (sPush (xMov (.f 6))) (sPush (xMov (.c udf))),
    sPush (xPick (.l 1) (.l 0) (.c (.c (.o (.b false))))),
    sIf (.l 0) true (sPush (xMov (.f 7))) (sPush (xMov (.c udf))),
    sPush (xPick (.l 1) (.l 0) (.c (.c (.o (.b false))))),
    sSet 2 (xMov (.l 0))]))
  cRet) cSkip))))))))))))
  (cSeq (cReg (regC [sSet 2 (xMov (.c (.c (.o (.b false)))))]))
  cRet))))))),
  [.v (.f 2)], 1⟩
def m45 : List (Nat × Nat) := [(0, 0), (2, 1), (3, 2), (6, 3)]
/-- legate/legateref8.limit -/
noncomputable def u45 : Fu := ⟨(cSeq (cReg (regC [sSet 1 (xMov (.c (.c (.o (.ns))))),
    sSet 2 (xMov (.c (.c (.i 3 0))))]))
  (cSeq (cSeq (cReg (regC [sPush (xLen (.f 0)),
    sSet 3 (xBin (bGtr 3 18446744073709551616 9223372036854775808) (.l 0) (.c (.c (.i 3 2000))))]))
  (cCond (.f 3) (cSeq (cReg (regC [sSet 1 (xMov (.c (.c (.o (.ns))))),
    sSet 2 (xMov (.c (.c (.i 3 1))))]))
  cRet) cSkip))
  (cSeq (cReg (regC [sSet 1 (xMov (.f 0)),
    sSet 2 (xMov (.c (.c (.i 3 0))))]))
  cRet))),
  [.v (.f 1), .v (.f 2)], 1⟩
def m46 : List (Nat × Nat) := [(0, 0), (1, 1), (4, 2), (5, 3), (6, 4), (10, 5)]
/-- legate/legateref1.Wrap -/
noncomputable def u46 : Fu := ⟨(cSeq (cReg (regC [sSet 2 (xMov (.c (.c (.o (.ns)))))]))
  (cSeq (cReg (regC [sSet 3 (xMov (.c (.c (.o (.ns)))))]))
  (cSeq (cSeq (cReg (regC [sSet 4 (xMov (.c (.c (.i 3 0))))]))
  (cBlock 0 (cLoop (cSeq (cSeq (cReg (regC [sPush (xLen (.f 1)),
    sSet 5 (xBin (bLss 3 18446744073709551616 9223372036854775808) (.f 4) (.l 0))]))
  (cCond (.f 5) cSkip (cExit 0)))
  (cSeq (cBlock 1 (cReg (regC [sPush (xIxS 1 (.f 1) (.f 4)),
    sPush (xLd1 (.l 0)),
    sPush (xApp 5 1 (.f 3) (.l 0)),
    sSet 3 (xMov (.l 0))])))
  (cReg (regC [sPush (xBin (bAdd 3 18446744073709551616) (.f 4) (.c (.c (.i 3 1)))),
    sSet 4 (xMov (.l 0))])))))))
  (cSeq (cReg (regC [sPush (xCalF 77 [(.f 0), (.f 3)]),
    sSet 2 (xMov (.l 0))]))
  cRet)))),
  [.v (.f 2)], 2⟩
def m47 : List (Nat × Nat) := [(0, 0), (1, 1), (2, 2)]
/-- legate/legateref8.princ -/
noncomputable def u47 : Fu := ⟨(cSeq (cReg (regC [sSet 1 (xBox 26 (.f 0)),
    sSet 2 (xMov (.c (.c (.o (.ns)))))]))
  (cSeq (cReg (regC [sPush (xFld (.f 1) 0),
    sPush (xLd1 (.l 0)),
    sPush (xFld (.f 1) 1),
    sPush (xLd1 (.l 0)),
    sPush (xCalF 63 [(.l 2)]),
    sAg (.l 1) (xLd1 (.l 2)),
    sPush (xCalF 63 [(.l 1)]),
    sPush (xBld [.o (.ns), .o (.ns)] [.mk 0 1 (.l 1), .mk 1 1 (.l 0)]),
    sPush (xMkl 34 2 (.l 0)),
    sPush (xCalF 46 [(.c (.c (.i 4 48))), (.l 0)]),
    sSet 2 (xMov (.l 0))]))
  cRet)),
  [.v (.f 2)], 1⟩
def m48 : List (Nat × Nat) := [(0, 0), (2, 1), (3, 2), (13, 3), (24, 4)]
/-- legate/legateref1.Int -/
noncomputable def u48 : Fu := ⟨(cSeq (cReg (regC [sSet 1 (xMov (.c (.c (.o (.ns)))))]))
  (cSeq (cReg (regC [sPush (xBin (bMax 3 18446744073709551616 9223372036854775808) (.f 0) (.c (.c (.i 3 0)))),
    sPush (xBin (bMin 3 18446744073709551616 9223372036854775808) (.l 0) (.c (.c (.i 3 4611686018427387904)))),
    sSet 0 (xMov (.l 0))]))
  (cSeq (cReg (regC [sPush (xCvi 3 18446744073709551616 9223372036854775808 4 256 (.f 0)),
    sPush (xBls 5 1 [.i 4 0] [.mk 0 1 (.l 0)]),
    sSet 2 (xMov (.l 0))]))
  (cSeq (cSeq (cReg (regC [sPush (xBin (bShr 3 9223372036854775808) (.f 0) (.c (.c (.i 7 8)))),
    sSet 0 (xMov (.l 0))]))
  (cBlock 0 (cLoop (cSeq (cSeq (cReg (regC [sSet 3 (xBin (bGtr 3 18446744073709551616 9223372036854775808) (.f 0) (.c (.c (.i 3 0))))]))
  (cCond (.f 3) cSkip (cExit 0)))
  (cSeq (cBlock 1 (cReg (regC [sPush (xCvi 3 18446744073709551616 9223372036854775808 4 256 (.f 0)),
    sPush (xBls 5 1 [.i 4 0] [.mk 0 1 (.l 0)]),
    sPush (xApp 5 1 (.l 0) (.f 2)),
    sSet 2 (xMov (.l 0))])))
  (cReg (regC [sPush (xBin (bShr 3 9223372036854775808) (.f 0) (.c (.c (.i 7 8)))),
    sSet 0 (xMov (.l 0))])))))))
  (cSeq (cSeq (cReg (regC [sPush (xIxS 1 (.f 2) (.c (.c (.i 3 0)))),
    sPush (xLd1 (.l 0)),
    sSet 4 (xBin (bGeq 4 256 0) (.l 0) (.c (.c (.i 4 128))))]))
  (cCond (.f 4) (cReg (regC [sPush (xBls 5 1 [.i 4 0] [.mk 0 1 (.c (.c (.i 4 0)))]),
    sPush (xApp 5 1 (.l 0) (.f 2)),
    sSet 2 (xMov (.l 0))])) cSkip))
  (cSeq (cReg (regC [sPush (xCalF 77 [(.c (.c (.i 4 2))), (.f 2)]),
    sSet 1 (xMov (.l 0))]))
  cRet)))))),
  [.v (.f 1)], 1⟩
def m49 : List (Nat × Nat) := [(0, 0), (1, 1), (2, 2)]
/-- legate/legateref8.tick -/
noncomputable def u49 : Fu := ⟨(cSeq (cReg (regC [sSet 1 (xBox 50 (.f 0)),
    sSet 2 (xMov (.c (.c (.o (.ns)))))]))
  (cSeq (cReg (regC [sPush (xFld (.f 1) 0),
    sPush (xLdA 2 (.l 0)),
    sPush (xFld (.f 1) 2),
    sPush (xLd1 (.l 0)),
    sPush (xFld (.f 1) 3),
    sPush (xLd1 (.l 0)),
    sPush (xCalF 47 [(.l 4)]),
    sAg (.l 1) (xLd1 (.l 2)),
    sAg (.l 3) (xLd1 (.l 4)),
    sPush (xCalF 48 [(.l 3)]),
    sAg (.l 2) (xLd1 (.l 3)),
    sPush (xCalF 50 [(.l 2)]),
    sPush (xBld [.o (.ns), .o (.ns), .o (.ns)] [.mk 0 1 (.l 2), .mk 1 1 (.l 1), .mk 2 1 (.l 0)]),
    sPush (xMkl 34 3 (.l 0)),
    sPush (xCalF 46 [(.c (.c (.i 4 97))), (.l 0)]),
    sSet 2 (xMov (.l 0))]))
  cRet)),
  [.v (.f 2)], 1⟩
def m50 : List (Nat × Nat) := [(0, 0), (2, 1)]
/-- legate/legateref1.Octets -/
noncomputable def u50 : Fu := ⟨(cSeq (cReg (regC [sSet 1 (xMov (.c (.c (.o (.ns)))))]))
  (cSeq (cReg (regC [sPush (xCalF 77 [(.c (.c (.i 4 4))), (.f 0)]),
    sSet 1 (xMov (.l 0))]))
  cRet)),
  [.v (.f 1)], 1⟩
def m51 : List (Nat × Nat) := [(0, 0), (1, 1), (2, 2), (4, 3)]
/-- legate/name.IsPrinc -/
noncomputable def u51 : Fu := ⟨(cSeq (cReg (regC [sSet 1 (xBox 26 (.f 0)),
    sSet 2 (xMov (.c (.c (.o (.b false)))))]))
  (cSeq (cReg (regC [sPush (xFld (.f 1) 1),
    sPush (xLd1 (.l 0)),
    sPush (xCalF 91 [(.l 0)]),
    sPush (xExt (.l 0) 0),
    sPush (xExt (.l 1) 1),
    sSet 3 (xMov (.l 0))]))
  (cSeq (cReg (regC [sPush (xFld (.f 1) 0),
    sPush (xLd1 (.l 0)),
    sPush (xCalF 92 [(.l 0)]),
    sIf (.l 0) true (sPush (xMov (.f 3))) (sPush (xMov (.c udf))),
    sIf (.l 1) true (sPush (xMov (.l 0))) (sPush (xMov (.c udf))),
    sIf (.l 0) false (sPush (xFld (.f 1) 1)) (sPush (xMov (.c udf))),
    sIf (.l 1) false (sPush (xLd1 (.l 0))) (sPush (xMov (.c udf))),
    sIf (.l 2) false (sPush (xCalF 93 [(.l 0), (.c (.c (.o (.s [97, 98, 99, 100, 101, 102, 103, 104, 105, 106, 107, 108, 109, 110, 111, 112, 113, 114, 115, 116, 117, 118, 119, 120, 121, 122, 48, 49, 50, 51, 52, 53, 54, 55, 56, 57]))))])) (sPush (xMov (.c udf))),
    sIf (.l 5) true (sPush (xPick (.l 3) (.c (.c (.o (.b true)))) (.l 0))) (sPush (xMov (.c udf))),
    sPush (xPick (.l 6) (.l 0) (.c (.c (.o (.b false))))),
    sSet 2 (xMov (.l 0))]))
  cRet))),
  [.v (.f 2)], 1⟩
def m52 : List (Nat × Nat) := [(0, 0), (1, 1), (3, 2), (4, 3)]
/-- (*legate/ring.Ring).last -/
noncomputable def u52 : Fu := ⟨(cSeq (cReg (regC [sSet 2 (xBox 26 (.f 1)),
    sSet 3 (xMov (.c (.c (.o (.np)))))]))
  (cSeq (cReg (regC [sPush (xMkf 95 [] [(.f 2)]),
    sPush (xCalF 94 [(.f 0), (.l 0)]),
    sSet 3 (xMov (.l 0))]))
  cRet)),
  [.v (.f 3)], 2⟩
def m53 : List (Nat × Nat) := [(0, 0), (1, 1), (2, 2)]
/-- legate/seal.New -/
noncomputable def u53 : Fu := ⟨(cSeq (cReg (regC [sSet 1 (xBox 29 (.f 0)),
    sSet 2 (xMov (.c (.c (.o (.np)))))]))
  (cSeq (cReg (regC [sPush (xCutA 32 1 (.f 1) none (some (.c (.c (.i 3 16))))),
    sPush (xS2a 16 (.l 0)),
    sPush (xLdA 16 (.l 0)),
    sPush (xCutA 32 1 (.f 1) (some (.c (.c (.i 3 16)))) none),
    sPush (xS2a 16 (.l 0)),
    sPush (xLdA 16 (.l 0)),
    sPush (xCalF 96 [(.l 3)]),
    sAg (.l 1) (xLdA 16 (.l 2)),
    sPush (xBld [.o (.np), .i 4 0, .i 4 0, .i 4 0, .i 4 0, .i 4 0, .i 4 0, .i 4 0, .i 4 0, .i 4 0, .i 4 0, .i 4 0, .i 4 0, .i 4 0, .i 4 0, .i 4 0, .i 4 0, .i 3 0, .i 3 0, .i 3 0] [.mk 0 1 (.l 0), .mk 1 16 (.l 1)]),
    sPush (xCel (.l 0)),
    sPush (xMkp 206 (.l 0)),
    sSet 2 (xMov (.l 0))]))
  cRet)),
  [.v (.f 2)], 1⟩
def m54 : List (Nat × Nat) := [(0, 0), (1, 1), (3, 2), (4, 3), (5, 4), (6, 5), (13, 6), (25, 7)]
/-- (*legate/legateref9.Ring).last -/
noncomputable def u54 : Fu := ⟨(cSeq (cReg (regC [sSet 2 (xBox 26 (.f 1)),
    sSet 3 (xMov (.c (.c (.i 3 0))))]))
  (cSeq (cReg (regC [sSet 4 (xMov (.c (.c (.i 3 0))))]))
  (cSeq (cSeq (cReg (regC [sSet 5 (xMov (.c (.c (.i 3 0))))]))
  (cBlock 0 (cLoop (cSeq (cSeq (cReg (regC [sPush (xChk (.f 0)),
    sPush (xFld (.l 0) 0),
    sPush (xLd1 (.l 0)),
    sPush (xLen (.l 0)),
    sSet 6 (xBin (bLss 3 18446744073709551616 9223372036854775808) (.f 5) (.l 0))]))
  (cCond (.f 6) cSkip (cExit 0)))
  (cSeq (cBlock 1 (cSeq (cReg (regC [sPush (xChk (.f 0)),
    sPush (xFld (.l 0) 0),
    sPush (xLd1 (.l 0)),
    sPush (xIxS 35 (.l 0) (.f 5)),
    sPush (xFld (.l 0) 0),
    sPush (xLdA 2 (.l 0)),
    sPush (xLdA 2 (.f 2)),
    sSet 7 (xBin (gEq [1, 1]) (.l 1) (.l 0))]))
  (cCond (.f 7) (cReg (regC [sPush (xChk (.f 0)),
    sPush (xFld (.l 0) 0),
    sPush (xLd1 (.l 0)),
    sPush (xIxS 35 (.l 0) (.f 5)),
    sPush (xFld (.l 0) 2),
    sPush (xLd1 (.l 0)),
    sSet 4 (xMov (.l 0))])) cSkip)))
  (cReg (regC [sPush (xBin (bAdd 3 18446744073709551616) (.f 5) (.c (.c (.i 3 1)))),
    sSet 5 (xMov (.l 0))])))))))
  (cSeq (cReg (regC [sSet 3 (xMov (.f 4))]))
  cRet)))),
  [.v (.f 3)], 2⟩
def m55 : List (Nat × Nat) := [(0, 0), (1, 1), (2, 2), (3, 3), (5, 4), (6, 5), (38, 6), (40, 7), (41, 8), (42, 9), (43, 10), (49, 11)]
/-- legate/route.Is -/
noncomputable def u55 : Fu := ⟨(cSeq (cReg (regC [sSet 1 (xBox 72 (.f 0)),
    sSet 2 (xMov (.c (.c (.o (.b false)))))]))
  (cSeq (cSeq (cReg (regC [sPush (xFld (.f 1) 0),
    sPush (xLd1 (.l 0)),
    sPush (xLen (.l 0)),
    sPush (xBin (bEq 0) (.l 0) (.c (.c (.i 3 0)))),
    sIf (.l 0) false (sPush (xFld (.f 1) 0)) (sPush (xMov (.c udf))),
    sIf (.l 1) false (sPush (xLd1 (.l 0))) (sPush (xMov (.c udf))),
    sIf (.l 2) false (sPush (xLen (.l 0))) (sPush (xMov (.c udf))),
    sIf (.l 3) false (sPush (xBin (bGtr 3 18446744073709551616 9223372036854775808) (.l 0) (.c (.c (.i 3 6))))) (sPush (xMov (.c udf))),
    sPush (xPick (.l 4) (.c (.c (.o (.b true)))) (.l 0)),
    sIf (.l 0) false (sPush (xFld (.f 1) 0)) (sPush (xMov (.c udf))),
    sIf (.l 1) false (sPush (xLd1 (.l 0))) (sPush (xMov (.c udf))),
    sIf (.l 2) false (sPush (xCalF 97 [(.l 0)])) (sPush (xMov (.c udf))),
    sPush (xPick (.l 3) (.c (.c (.o (.b true)))) (.l 0)),
    sIf (.l 0) false (sPush (xFld (.f 1) 1)) (sPush (xMov (.c udf))),
    sIf (.l 1) false (sPush (xLd1 (.l 0))) (sPush (xMov (.c udf))),
    sIf (.l 2) false (sPush (xLen (.l 0))) (sPush (xMov (.c udf))),
    sIf (.l 3) false (sPush (xBin (bGtr 3 18446744073709551616 9223372036854775808) (.l 0) (.c (.c (.i 3 20))))) (sPush (xMov (.c udf))),
    sPush (xPick (.l 4) (.c (.c (.o (.b true)))) (.l 0)),
    sIf (.l 0) false (sPush (xFld (.f 1) 1)) (sPush (xMov (.c udf))),
    sIf (.l 1) false (sPush (xLd1 (.l 0))) (sPush (xMov (.c udf))),
    sIf (.l 2) false (sPush (xCalF 98 [(.l 0)])) (sPush (xMov (.c udf))),
    sPush (xPick (.l 3) (.c (.c (.o (.b true)))) (.l 0)),
    sIf (.l 0) false (sPush (xFld (.f 1) 2)) (sPush (xMov (.c udf))),
    sIf (.l 1) false (sPush (xLd1 (.l 0))) (sPush (xMov (.c udf))),
    sIf (.l 2) false (sPush (xLen (.l 0))) (sPush (xMov (.c udf))),
    sIf (.l 3) false (sPush (xBin (bGtr 3 18446744073709551616 9223372036854775808) (.l 0) (.c (.c (.i 3 8))))) (sPush (xMov (.c udf))),
    sSet 6 (xPick (.l 4) (.c (.c (.o (.b true)))) (.l 0))]))
  (cCond (.f 6) (cSeq (cReg (regC [sSet 2 (xMov (.c (.c (.o (.b false)))))]))
  cRet) cSkip))
  (cSeq (cReg (regC [sSet 3 (xMov (.c (.c (.o (.ns)))))]))
  (cSeq (cSeq (cReg (regC [sPush (xFld (.f 1) 2),
    sSet 7 (xLd1 (.l 0)),
    sSet 8 (xLen (.f 7)),
    sSet 9 (xMov (.c (.c (.i 3 0))))]))
  (cBlock 0 (cLoop (cSeq (cReg (regC [sSet 10 (xBin (bLss 3 18446744073709551616 9223372036854775808) (.f 9) (.f 8))]))
  (cSeq (cCond (.f 10) cSkip (cExit 0))
  (cSeq (cBlock 1 (cSeq (cReg (regC [sPush (xIxS 3 (.f 7) (.f 9)),
    sPush (xLdA 3 (.l 0)),
    sSet 4 (xAlc 210 [.o (.s []), .o (.s []), .o (.ns)]),
    sDo (xStA 3 (.f 4) (.l 0))]))
  (cSeq (cSeq (cReg (regC [sPush (xLdA 3 (.f 1)),
    sPush (xLdA 3 (.f 4)),
    sPush (xCalF 99 [(.l 1), (.l 0)]),
    sSet 11 (xNot (.l 0))]))
  (cCond (.f 11) (cSeq (cReg (regC [sSet 2 (xMov (.c (.c (.o (.b false)))))]))
  cRet) cSkip))
  (cReg (regC [sPush (xFld (.f 4) 0),
    sPush (xLd1 (.l 0)),
    sPush (xFld (.f 4) 1),
    sPush (xLd1 (.l 0)),
    sPush (xBld [.o (.s []), .o (.s [])] [.mk 0 1 (.l 2), .mk 1 1 (.l 0)]),
    sPush (xBls 156 1 [.o (.s []), .o (.s [])] [.mk 0 2 (.l 0)]),
    sPush (xApp 156 2 (.f 3) (.l 0)),
    sSet 3 (xMov (.l 0))])))))
  (cReg (regC [sPush (xBin (bAdd 3 18446744073709551616) (.f 9) (.c (.c (.i 3 1)))),
    sSet 9 (xMov (.l 0))]))))))))
  (cSeq (cReg (regC [sPush (xMkf 100 [] [(.f 1)]),
    sSet 5 (xMov (.l 0))]))
  (cSeq (cReg (regC [sPush (xCalF 98 [(.f 3)]),
    sPush (xNot (.l 0)),
    sIf (.l 0) true (sPush (xFld (.f 1) 1)) (sPush (xMov (.c udf))),
    sIf (.l 1) true (sPush (xLd1 (.l 0))) (sPush (xMov (.c udf))),
    sIf (.l 2) true (sPush (xMov (.f 5))) (sPush (xMov (.c udf))),
    sIf (.l 3) true (sPush (xCalF 101 [(.l 1), (.l 0)])) (sPush (xMov (.c udf))),
    sIf (.l 4) true (sPush (xNot (.l 0))) (sPush (xMov (.c udf))),
    sPush (xPick (.l 5) (.l 0) (.c (.c (.o (.b false))))),
    sIf (.l 0) true (sPush (xFld (.f 1) 0)) (sPush (xMov (.c udf))),
    sIf (.l 1) true (sPush (xLd1 (.l 0))) (sPush (xMov (.c udf))),
    sIf (.l 2) true (sPush (xCalF 102 [(.l 0), (.c (.c (.o (.f 103 [] []))))])) (sPush (xMov (.c udf))),
    sIf (.l 3) true (sPush (xNot (.l 0))) (sPush (xMov (.c udf))),
    sPush (xPick (.l 4) (.l 0) (.c (.c (.o (.b false))))),
    sSet 2 (xMov (.l 0))]))
  cRet)))))),
  [.v (.f 2)], 1⟩
def m56 : List (Nat × Nat) := [(0, 0), (1, 1), (4, 2)]
/-- slices.Contains[[]string,string] -/
noncomputable def u56 : Fu := ⟨(cSeq (cReg (regC [sSet 2 (xMov (.c (.c (.o (.b false)))))]))
  (cSeq (cReg (regC [sPush (xCalF 104 [(.f 0), (.f 1)]),
    sPush (xBin (bGeq 3 18446744073709551616 9223372036854775808) (.l 0) (.c (.c (.i 3 0)))),
    sSet 2 (xMov (.l 0))]))
  cRet)),
  [.v (.f 2)], 2⟩
def m57 : List (Nat × Nat) := [(0, 0), (1, 1), (2, 2), (3, 3), (4, 4), (18, 5), (19, 6), (20, 7), (21, 8)]
/-- legate/acceptor.copied -/
noncomputable def u57 : Fu := ⟨(cSeq (cReg (regC [sSet 1 (xBox 72 (.f 0)),
    sSet 2 (xAlc 72 [.o (.ns), .o (.ns), .o (.ns)])]))
  (cSeq (cReg (regC [sPush (xFld (.f 1) 0),
    sPush (xLd1 (.l 0)),
    sPush (xFld (.f 1) 1),
    sPush (xLd1 (.l 0)),
    sPush (xFld (.f 1) 2),
    sPush (xLd1 (.l 0)),
    sPush (xCalF 105 [(.l 4)]),
    sAg (.l 1) (xLd1 (.l 2)),
    sAg (.l 3) (xLd1 (.l 4)),
    sPush (xFld (.f 1) 0),
    sPush (xCalF 106 [(.l 4)]),
    sAg (.l 3) (xLd1 (.l 4)),
    sPush (xCalF 107 [(.l 3)]),
    sDo (xSt1 (.l 2) (.l 3)),
    sPush (xFld (.f 1) 1),
    sDo (xSt1 (.l 0) (.l 2)),
    sPush (xFld (.f 1) 2),
    sDo (xSt1 (.l 0) (.l 2))]))
  (cSeq (cSeq (cReg (regC [sPush (xFld (.f 1) 2),
    sSet 5 (xLd1 (.l 0)),
    sSet 6 (xLen (.f 5)),
    sSet 7 (xMov (.c (.c (.i 3 0))))]))
  (cBlock 0 (cLoop (cSeq (cReg (regC [sSet 8 (xBin (bLss 3 18446744073709551616 9223372036854775808) (.f 7) (.f 6))]))
  (cSeq (cCond (.f 8) cSkip (cExit 0))
  (cSeq (cBlock 1 (cSeq (cReg (regC [sPush (xIxS 3 (.f 5) (.f 7)),
    sPush (xLdA 3 (.l 0)),
    sSet 4 (xAlc 210 [.o (.s []), .o (.s []), .o (.ns)]),
    sSet 3 (xMov (.f 7)),
    sDo (xStA 3 (.f 4) (.l 0))]))
  (cReg (regC [sPush (xFld (.f 1) 2),
    sPush (xLd1 (.l 0)),
    sPush (xFld (.f 4) 2),
    sPush (xLd1 (.l 0)),
    sPush (xCalF 105 [(.l 0)]),
    sAg (.l 3) (xLd1 (.l 4)),
    sPush (xIxS 3 (.l 3) (.f 3)),
    sPush (xFld (.l 0) 2),
    sDo (xSt1 (.l 0) (.l 2))]))))
  (cReg (regC [sPush (xBin (bAdd 3 18446744073709551616) (.f 7) (.c (.c (.i 3 1)))),
    sSet 7 (xMov (.l 0))]))))))))
  (cSeq (cReg (regC [sPush (xLdA 3 (.f 1)),
    sDo (xStA 3 (.f 2) (.l 0))]))
  cRet)))),
  [.cn (.f 2) 3], 1⟩
def m58 : List (Nat × Nat) := [(0, 0), (2, 1)]
/-- legate/replay.New -/
noncomputable def u58 : Fu := ⟨(cSeq (cReg (regC [sSet 1 (xMov (.c (.c (.o (.np)))))]))
  (cSeq (cReg (regC [sPush (xBin (bNe 0) (.f 0) (.c (.c (.i 3 0)))),
    sPush (xBld [.o (.ns), .o (.b false), .i 3 0] [.mk 1 1 (.l 0), .mk 2 1 (.f 0)]),
    sPush (xBox 182 (.l 0)),
    sSet 1 (xMov (.l 0))]))
  cRet)),
  [.v (.f 1)], 1⟩
def m59 : List (Nat × Nat) := [(0, 0), (1, 1), (2, 2), (3, 3), (4, 4), (5, 5), (6, 6), (7, 7), (23, 8), (28, 9), (56, 10), (59, 11), (68, 12), (73, 13), (83, 14), (86, 15), (116, 16)]
/-- legate/legateref7.Is -/
noncomputable def u59 : Fu := ⟨(cSeq (cReg (regC [sSet 1 (xBox 72 (.f 0)),
    sSet 2 (xMov (.c (.c (.o (.b false)))))]))
  (cSeq (cSeq (cReg (regC [sPush (xFld (.f 1) 0),
    sPush (xLd1 (.l 0)),
    sPush (xCalF 108 [(.l 0)]),
    sPush (xNot (.l 0)),
    sIf (.l 0) false (sPush (xFld (.f 1) 1)) (sPush (xMov (.c udf))),
    sIf (.l 1) false (sPush (xLd1 (.l 0))) (sPush (xMov (.c udf))),
    sIf (.l 2) false (sPush (xLen (.l 0))) (sPush (xMov (.c udf))),
    sIf (.l 3) false (sPush (xBin (bGtr 3 18446744073709551616 9223372036854775808) (.l 0) (.c (.c (.i 3 20))))) (sPush (xMov (.c udf))),
    sPush (xPick (.l 4) (.c (.c (.o (.b true)))) (.l 0)),
    sIf (.l 0) false (sPush (xFld (.f 1) 2)) (sPush (xMov (.c udf))),
    sIf (.l 1) false (sPush (xLd1 (.l 0))) (sPush (xMov (.c udf))),
    sIf (.l 2) false (sPush (xLen (.l 0))) (sPush (xMov (.c udf))),
    sIf (.l 3) false (sPush (xBin (bGtr 3 18446744073709551616 9223372036854775808) (.l 0) (.c (.c (.i 3 8))))) (sPush (xMov (.c udf))),
    sSet 8 (xPick (.l 4) (.c (.c (.o (.b true)))) (.l 0))]))
  (cCond (.f 8) (cSeq (cReg (regC [sSet 2 (xMov (.c (.c (.o (.b false)))))]))
  cRet) cSkip))
  (cSeq (cSeq (cReg (regC [sSet 3 (xMov (.c (.c (.i 3 0))))]))
  (cBlock 0 (cLoop (cSeq (cSeq (cReg (regC [sPush (xFld (.f 1) 1),
    sPush (xLd1 (.l 0)),
    sPush (xLen (.l 0)),
    sSet 9 (xBin (bLss 3 18446744073709551616 9223372036854775808) (.f 3) (.l 0))]))
  (cCond (.f 9) cSkip (cExit 0)))
  (cSeq (cBlock 1 (cSeq (cReg (regC [sPush (xFld (.f 1) 1),
    sPush (xLd1 (.l 0)),
    sPush (xIxS 2 (.l 0) (.f 3)),
    sPush (xLdA 2 (.l 0)),
    sSet 4 (xAlc 156 [.o (.s []), .o (.s [])]),
    sDo (xStA 2 (.f 4) (.l 0))]))
  (cSeq (cSeq (cReg (regC [sPush (xFld (.f 1) 0),
    sPush (xLd1 (.l 0)),
    sPush (xIxA 2 1 (.f 4) (.c (.c (.i 3 0)))),
    sPush (xLd1 (.l 0)),
    sPush (xCalF 60 [(.l 2), (.l 0)]),
    sPush (xBin (bLss 3 18446744073709551616 9223372036854775808) (.l 0) (.c (.c (.i 3 0)))),
    sIf (.l 0) false (sPush (xFld (.f 1) 0)) (sPush (xMov (.c udf))),
    sIf (.l 1) false (sPush (xLd1 (.l 0))) (sPush (xMov (.c udf))),
    sIf (.l 2) false (sPush (xIxA 2 1 (.f 4) (.c (.c (.i 3 1))))) (sPush (xMov (.c udf))),
    sIf (.l 3) false (sPush (xLd1 (.l 0))) (sPush (xMov (.c udf))),
    sIf (.l 4) false (sPush (xCalF 60 [(.l 2), (.l 0)])) (sPush (xMov (.c udf))),
    sIf (.l 5) false (sPush (xBin (bLss 3 18446744073709551616 9223372036854775808) (.l 0) (.c (.c (.i 3 0))))) (sPush (xMov (.c udf))),
    sPush (xPick (.l 6) (.c (.c (.o (.b true)))) (.l 0)),
    sIf (.l 0) false (sPush (xIxA 2 1 (.f 4) (.c (.c (.i 3 0))))) (sPush (xMov (.c udf))),
    sIf (.l 1) false (sPush (xLd1 (.l 0))) (sPush (xMov (.c udf))),
    sIf (.l 2) false (sPush (xIxA 2 1 (.f 4) (.c (.c (.i 3 1))))) (sPush (xMov (.c udf))),
    sIf (.l 3) false (sPush (xLd1 (.l 0))) (sPush (xMov (.c udf))),
    sIf (.l 4) false (sPush (xBin (bEq 1) (.l 2) (.l 0))) (sPush (xMov (.c udf))),
    sSet 10 (xPick (.l 5) (.c (.c (.o (.b true)))) (.l 0))]))
  (cCond (.f 10) (cSeq (cReg (regC [sSet 2 (xMov (.c (.c (.o (.b false)))))]))
  cRet) cSkip))
  (cSeq (cReg (regC [sSet 5 (xMov (.c (.c (.i 3 0))))]))
  (cBlock 2 (cLoop (cSeq (cSeq (cReg (regC [sSet 11 (xBin (bLss 3 18446744073709551616 9223372036854775808) (.f 5) (.f 3))]))
  (cCond (.f 11) cSkip (cExit 2)))
  (cSeq (cBlock 3 (cSeq (cReg (regC [sPush (xFld (.f 1) 1),
    sPush (xLd1 (.l 0)),
    sPush (xIxS 2 (.l 0) (.f 5)),
    sPush (xLdA 2 (.l 0)),
    sPush (xLdA 2 (.f 4)),
    sSet 12 (xBin (gEq [1, 1]) (.l 1) (.l 0))]))
  (cCond (.f 12) (cSeq (cReg (regC [sSet 2 (xMov (.c (.c (.o (.b false)))))]))
  cRet) cSkip)))
  (cReg (regC [sPush (xBin (bAdd 3 18446744073709551616) (.f 5) (.c (.c (.i 3 1)))),
    sSet 5 (xMov (.l 0))]))))))))))
  (cReg (regC [sPush (xBin (bAdd 3 18446744073709551616) (.f 3) (.c (.c (.i 3 1)))),
    sSet 3 (xMov (.l 0))])))))))
  (cSeq (cSeq (cReg (regC [sSet 6 (xMov (.c (.c (.i 3 0))))]))
  (cBlock 4 (cLoop (cSeq (cSeq (cReg (regC [sPush (xFld (.f 1) 2),
    sPush (xLd1 (.l 0)),
    sPush (xLen (.l 0)),
    sSet 13 (xBin (bLss 3 18446744073709551616 9223372036854775808) (.f 6) (.l 0))]))
  (cCond (.f 13) cSkip (cExit 4)))
  (cSeq (cBlock 5 (cSeq (cSeq (cReg (regC [sPush (xLdA 3 (.f 1)),
    sPush (xFld (.f 1) 2),
    sPush (xLd1 (.l 0)),
    sPush (xIxS 3 (.l 0) (.f 6)),
    sPush (xLdA 3 (.l 0)),
    sPush (xCalF 109 [(.l 4), (.l 0)]),
    sSet 14 (xNot (.l 0))]))
  (cCond (.f 14) (cSeq (cReg (regC [sSet 2 (xMov (.c (.c (.o (.b false)))))]))
  cRet) cSkip))
  (cSeq (cReg (regC [sSet 7 (xMov (.c (.c (.i 3 0))))]))
  (cBlock 6 (cLoop (cSeq (cSeq (cReg (regC [sSet 15 (xBin (bLss 3 18446744073709551616 9223372036854775808) (.f 7) (.f 6))]))
  (cCond (.f 15) cSkip (cExit 6)))
  (cSeq (cBlock 7 (cSeq (cReg (regC [sPush (xFld (.f 1) 2),
    sPush (xLd1 (.l 0)),
    sPush (xIxS 3 (.l 0) (.f 7)),
    sPush (xFld (.l 0) 0),
    sPush (xLd1 (.l 0)),
    sPush (xFld (.f 1) 2),
    sPush (xLd1 (.l 0)),
    sPush (xIxS 3 (.l 0) (.f 6)),
    sPush (xFld (.l 0) 0),
    sPush (xLd1 (.l 0)),
    sPush (xBin (bEq 1) (.l 5) (.l 0)),
    sIf (.l 0) true (sPush (xFld (.f 1) 2)) (sPush (xMov (.c udf))),
    sIf (.l 1) true (sPush (xLd1 (.l 0))) (sPush (xMov (.c udf))),
    sIf (.l 2) true (sPush (xMov (.f 7))) (sPush (xMov (.c udf))),
    sIf (.l 3) true (sPush (xIxS 3 (.l 1) (.l 0))) (sPush (xMov (.c udf))),
    sIf (.l 4) true (sPush (xFld (.l 0) 1)) (sPush (xMov (.c udf))),
    sIf (.l 5) true (sPush (xLd1 (.l 0))) (sPush (xMov (.c udf))),
    sIf (.l 6) true (sPush (xFld (.f 1) 2)) (sPush (xMov (.c udf))),
    sIf (.l 7) true (sPush (xLd1 (.l 0))) (sPush (xMov (.c udf))),
    sIf (.l 8) true (sPush (xMov (.f 6))) (sPush (xMov (.c udf))),
    sIf (.l 9) true (sPush (xIxS 3 (.l 1) (.l 0))) (sPush (xMov (.c udf))),
    sIf (.l 10) true (sPush (xFld (.l 0) 1)) (sPush (xMov (.c udf))),
    sIf (.l 11) true (sPush (xLd1 (.l 0))) (sPush (xMov (.c udf))),
    sIf (.l 12) true (sPush (xBin (bEq 1) (.l 6) (.l 0))) (sPush (xMov (.c udf))),
    sSet 16 (xPick (.l 13) (.l 0) (.c (.c (.o (.b false)))))]))
  (cCond (.f 16) (cSeq (cReg (regC [sSet 2 (xMov (.c (.c (.o (.b false)))))]))
  cRet) cSkip)))
  (cReg (regC [sPush (xBin (bAdd 3 18446744073709551616) (.f 7) (.c (.c (.i 3 1)))),
    sSet 7 (xMov (.l 0))])))))))))
  (cReg (regC [sPush (xBin (bAdd 3 18446744073709551616) (.f 6) (.c (.c (.i 3 1)))),
    sSet 6 (xMov (.l 0))])))))))
  (cSeq (cReg (regC [sSet 2 (xMov (.c (.c (.o (.b true)))))]))
  cRet))))),
  [.v (.f 2)], 1⟩
def m60 : List (Nat × Nat) := [(0, 0), (1, 1), (4, 2), (5, 3), (9, 4), (17, 5)]
/-- legate/legateref7.Place -/
noncomputable def u60 : Fu := ⟨(cSeq (cReg (regC [sSet 2 (xMov (.c (.c (.i 3 0))))]))
  (cSeq (cSeq (cReg (regC [sSet 3 (xMov (.c (.c (.i 3 0))))]))
  (cBlock 0 (cLoop (cSeq (cSeq (cReg (regC [sPush (xLen (.f 0)),
    sSet 4 (xBin (bLss 3 18446744073709551616 9223372036854775808) (.f 3) (.l 0))]))
  (cCond (.f 4) cSkip (cExit 0)))
  (cSeq (cBlock 1 (cSeq (cReg (regC [sPush (xIxS 1 (.f 0) (.f 3)),
    sPush (xLd1 (.l 0)),
    sSet 5 (xBin (bEq 1) (.l 0) (.f 1))]))
  (cCond (.f 5) (cSeq (cReg (regC [sSet 2 (xMov (.f 3))]))
  cRet) cSkip)))
  (cReg (regC [sPush (xBin (bAdd 3 18446744073709551616) (.f 3) (.c (.c (.i 3 1)))),
    sSet 3 (xMov (.l 0))])))))))
  (cSeq (cReg (regC [sSet 2 (xMov (.c (.c (.i 3 18446744073709551615))))]))
  cRet))),
  [.v (.f 2)], 2⟩
def m61 : List (Nat × Nat) := [(0, 0), (2, 1)]
/-- legate/legateref13.New -/
noncomputable def u61 : Fu := ⟨(cSeq (cReg (regC [sSet 1 (xMov (.c (.c (.o (.np)))))]))
  (cSeq (cReg (regC [sPush (xBin (bNe 0) (.f 0) (.c (.c (.i 3 0)))),
    sPush (xBld [.o (.ns), .o (.b false), .i 3 0] [.mk 1 1 (.l 0), .mk 2 1 (.f 0)]),
    sPush (xBox 128 (.l 0)),
    sSet 1 (xMov (.l 0))]))
  cRet)),
  [.v (.f 1)], 1⟩
def m62 : List (Nat × Nat) := [(0, 0), (1, 1), (2, 2), (3, 3), (8, 4), (22, 5)]
/-- legate/legateref8.IsPart -/
noncomputable def u62 : Fu := ⟨(cSeq (cReg (regC [sSet 1 (xBox 31 (.f 0)),
    sSet 2 (xMov (.c (.c (.o (.b false)))))]))
  (cSeq (cSeq (cReg (regC [sSet 3 (xMov (.c (.c (.i 3 0))))]))
  (cBlock 0 (cLoop (cSeq (cSeq (cReg (regC [sPush (xFld (.f 1) 34),
    sPush (xLd1 (.l 0)),
    sPush (xLenT (.l 0)),
    sSet 4 (xBin (bLss 3 18446744073709551616 9223372036854775808) (.f 3) (.l 0))]))
  (cCond (.f 4) cSkip (cExit 0)))
  (cSeq (cBlock 1 (cSeq (cReg (regC [sPush (xFld (.f 1) 34),
    sPush (xLd1 (.l 0)),
    sPush (xIxT (.l 0) (.f 3)),
    sPush (xBin (bLss 4 256 0) (.l 0) (.c (.c (.i 4 32)))),
    sIf (.l 0) false (sPush (xFld (.f 1) 34)) (sPush (xMov (.c udf))),
    sIf (.l 1) false (sPush (xLd1 (.l 0))) (sPush (xMov (.c udf))),
    sIf (.l 2) false (sPush (xMov (.f 3))) (sPush (xMov (.c udf))),
    sIf (.l 3) false (sPush (xIxT (.l 1) (.l 0))) (sPush (xMov (.c udf))),
    sIf (.l 4) false (sPush (xBin (bGtr 4 256 0) (.l 0) (.c (.c (.i 4 126))))) (sPush (xMov (.c udf))),
    sSet 5 (xPick (.l 5) (.c (.c (.o (.b true)))) (.l 0))]))
  (cCond (.f 5) (cSeq (cReg (regC [sSet 2 (xMov (.c (.c (.o (.b false)))))]))
  cRet) cSkip)))
  (cReg (regC [sPush (xBin (bAdd 3 18446744073709551616) (.f 3) (.c (.c (.i 3 1)))),
    sSet 3 (xMov (.l 0))])))))))
  (cSeq (cReg (regC [sPush (xFld (.f 1) 0),
    sPush (xLdA 2 (.l 0)),
    sPush (xCalF 20 [(.l 0)]),
    sIf (.l 0) true (sPush (xFld (.f 1) 34)) (sPush (xMov (.c udf))),
    sIf (.l 1) true (sPush (xLd1 (.l 0))) (sPush (xMov (.c udf))),
    sIf (.l 2) true (sPush (xLenT (.l 0))) (sPush (xMov (.c udf))),
    sIf (.l 3) true (sPush (xBin (bLeq 3 18446744073709551616 9223372036854775808) (.l 0) (.c (.c (.i 3 300))))) (sPush (xMov (.c udf))),
    sPush (xPick (.l 4) (.l 0) (.c (.c (.o (.b false))))),
    sIf (.l 0) true (sPush (xFld (.f 1) 35)) (sPush (xMov (.c udf))),
    sIf (.l 1) true (sPush (xLd1 (.l 0))) (sPush (xMov (.c udf))),
    sIf (.l 2) true (sPush (xCalF 90 [(.l 0), (.c (.c (.i 3 0))), (.c (.c (.i 3 1073741824)))])) (sPush (xMov (.c udf))),
    sPush (xPick (.l 3) (.l 0) (.c (.c (.o (.b false))))),
    sIf (.l 0) true (sPush (xFld (.f 1) 36)) (sPush (xMov (.c udf))),
    sIf (.l 1) true (sPush (xLd1 (.l 0))) (sPush (xMov (.c udf))),
    sIf (.l 2) true (sPush (xCalF 90 [(.l 0), (.c (.c (.i 3 0))), (.c (.c (.i 3 1073741824)))])) (sPush (xMov (.c udf))),
    sPush (xPick (.l 3) (.l 0) (.c (.c (.o (.b false))))),
    sSet 2 (xMov (.l 0))]))
  cRet))),
  [.v (.f 2)], 1⟩
def m63 : List (Nat × Nat) := [(0, 0), (2, 1)]
/-- legate/legateref1.Text -/
noncomputable def u63 : Fu := ⟨(cSeq (cReg (regC [sSet 1 (xMov (.c (.c (.o (.ns)))))]))
  (cSeq (cReg (regC [sPush (xS2b 5 (.f 0)),
    sPush (xCalF 77 [(.c (.c (.i 4 27))), (.l 0)]),
    sSet 1 (xMov (.l 0))]))
  cRet)),
  [.v (.f 1)], 1⟩
def m64 : List (Nat × Nat) := [(0, 0), (1, 1), (2, 2)]
/-- legate/legateref8.IsAuthn -/
noncomputable def u64 : Fu := ⟨(cSeq (cReg (regC [sSet 1 (xBox 33 (.f 0)),
    sSet 2 (xMov (.c (.c (.o (.b false)))))]))
  (cSeq (cReg (regC [sPush (xFld (.f 1) 0),
    sPush (xLdA 2 (.l 0)),
    sPush (xCalF 20 [(.l 0)]),
    sIf (.l 0) true (sPush (xFld (.f 1) 2)) (sPush (xMov (.c udf))),
    sIf (.l 1) true (sPush (xLd1 (.l 0))) (sPush (xMov (.c udf))),
    sIf (.l 2) true (sPush (xCalF 90 [(.l 0), (.c (.c (.i 3 0))), (.c (.c (.i 3 1073741824)))])) (sPush (xMov (.c udf))),
    sPush (xPick (.l 3) (.l 0) (.c (.c (.o (.b false))))),
    sIf (.l 0) true (sPush (xFld (.f 1) 3)) (sPush (xMov (.c udf))),
    sIf (.l 1) true (sPush (xLd1 (.l 0))) (sPush (xMov (.c udf))),
    sIf (.l 2) true (sPush (xCalF 90 [(.l 0), (.c (.c (.i 3 0))), (.c (.c (.i 3 1073741824)))])) (sPush (xMov (.c udf))),
    sPush (xPick (.l 3) (.l 0) (.c (.c (.o (.b false))))),
    sSet 2 (xMov (.l 0))]))
  cRet)),
  [.v (.f 2)], 1⟩
def m65 : List (Nat × Nat) := [(0, 0), (2, 1), (3, 2), (4, 3), (6, 4)]
/-- legate/legateref4.big -/
noncomputable def u65 : Fu := ⟨(cSeq (cReg (regC [sSet 1 (xMov (.c (.c (.o (.ns)))))]))
  (cSeq (cReg (regC [sSet 2 (xMov (.c (.c (.o (.ns)))))]))
  (cSeq (cSeq (cReg (regC [sSet 3 (xMov (.c (.c (.i 3 7))))]))
  (cBlock 0 (cLoop (cSeq (cSeq (cReg (regC [sSet 4 (xBin (bGeq 3 18446744073709551616 9223372036854775808) (.f 3) (.c (.c (.i 3 0))))]))
  (cCond (.f 4) cSkip (cExit 0)))
  (cSeq (cBlock 1 (cReg (regC [sPush (xBin (bMul 3 18446744073709551616) (.c (.c (.i 3 8))) (.f 3)),
    sPush (xCvi 3 18446744073709551616 9223372036854775808 7 18446744073709551616 (.l 0)),
    sPush (xBin (bShr 7 18446744073709551616) (.f 0) (.l 0)),
    sPush (xCvi 7 18446744073709551616 18446744073709551616 4 256 (.l 0)),
    sPush (xBls 5 1 [.i 4 0] [.mk 0 1 (.l 0)]),
    sPush (xApp 5 1 (.f 2) (.l 0)),
    sSet 2 (xMov (.l 0))])))
  (cReg (regC [sPush (xBin (bSub 3 18446744073709551616) (.f 3) (.c (.c (.i 3 1)))),
    sSet 3 (xMov (.l 0))])))))))
  (cSeq (cReg (regC [sSet 1 (xMov (.f 2))]))
  cRet)))),
  [.v (.f 1)], 1⟩
def m66 : List (Nat × Nat) := [(0, 0), (1, 1), (2, 2), (3, 3), (4, 4), (8, 5), (9, 6), (11, 7), (12, 8), (13, 9), (32, 10)]
/-- legate/legateref4.mix -/
noncomputable def u66 : Fu := ⟨(cSeq (cReg (regC [sSet 4 (xBox 29 (.f 0)),
    sSet 5 (xMov (.c (.c (.o (.ns)))))]))
  (cSeq (cReg (regC [sPush (xLdA 32 (.f 4)),
    sPush (xCalF 110 [(.l 0)]),
    sPush (xExt (.l 0) 0),
    sPush (xExt (.l 1) 1),
    sSet 6 (xAlc 204 [.i 4 0, .i 4 0, .i 4 0, .i 4 0, .i 4 0, .i 4 0, .i 4 0, .i 4 0, .i 4 0, .i 4 0, .i 4 0, .i 4 0, .i 4 0, .i 4 0, .i 4 0, .i 4 0]),
    sPush (xAlc 204 [.i 4 0, .i 4 0, .i 4 0, .i 4 0, .i 4 0, .i 4 0, .i 4 0, .i 4 0, .i 4 0, .i 4 0, .i 4 0, .i 4 0, .i 4 0, .i 4 0, .i 4 0, .i 4 0]),
    sDo (xStA 16 (.f 6) (.l 2)),
    sDo (xStA 16 (.l 0) (.l 1))]))
  (cSeq (cReg (regC [sPush (xLdA 16 (.f 6)),
    sPush (xCalF 112 [(.l 0)]),
    sPush (xBin (bMul 7 18446744073709551616) (.f 2) (.c (.c (.i 7 256)))),
    sPush (xCvi 3 18446744073709551616 9223372036854775808 7 18446744073709551616 (.f 1)),
    sPush (xBin (bAdd 7 18446744073709551616) (.l 1) (.l 0)),
    sPush (xLen (.f 3)),
    sPush (xCalF 111 [(.l 4), (.l 1), (.l 0)]),
    sSet 7 (xMov (.l 0))]))
  (cSeq (cReg (regC [sSet 8 (xMov (.c (.c (.o (.ns)))))]))
  (cSeq (cSeq (cReg (regC [sSet 9 (xMov (.c (.c (.i 3 0))))]))
  (cBlock 0 (cLoop (cSeq (cSeq (cReg (regC [sPush (xLen (.f 3)),
    sSet 10 (xBin (bLss 3 18446744073709551616 9223372036854775808) (.f 9) (.l 0))]))
  (cCond (.f 10) cSkip (cExit 0)))
  (cSeq (cBlock 1 (cReg (regC [sPush (xIxS 1 (.f 3) (.f 9)),
    sPush (xLd1 (.l 0)),
    sPush (xIxS 1 (.f 7) (.f 9)),
    sPush (xLd1 (.l 0)),
    sPush (xBin (bXor 4) (.l 2) (.l 0)),
    sPush (xBld [.i 4 0] [.mk 0 1 (.l 0)]),
    sPush (xMkl 5 1 (.l 0)),
    sPush (xApp 5 1 (.f 8) (.l 0)),
    sSet 8 (xMov (.l 0))])))
  (cReg (regC [sPush (xBin (bAdd 3 18446744073709551616) (.f 9) (.c (.c (.i 3 1)))),
    sSet 9 (xMov (.l 0))])))))))
  (cSeq (cReg (regC [sSet 5 (xMov (.f 8))]))
  cRet)))))),
  [.v (.f 5)], 4⟩
def m67 : List (Nat × Nat) := [(0, 0), (1, 1), (2, 2), (3, 3), (6, 4), (8, 5)]
/-- legate/legateref4.tag -/
noncomputable def u67 : Fu := ⟨(cSeq (cReg (regC [sSet 3 (xBox 29 (.f 0)),
    sSet 4 (xMov (.c (.c (.o (.ns)))))]))
  (cSeq (cReg (regC [sPush (xLdA 32 (.f 3)),
    sPush (xCalF 110 [(.l 0)]),
    sPush (xExt (.l 0) 0),
    sPush (xExt (.l 1) 1),
    sPush (xAlc 204 [.i 4 0, .i 4 0, .i 4 0, .i 4 0, .i 4 0, .i 4 0, .i 4 0, .i 4 0, .i 4 0, .i 4 0, .i 4 0, .i 4 0, .i 4 0, .i 4 0, .i 4 0, .i 4 0]),
    sSet 5 (xAlc 204 [.i 4 0, .i 4 0, .i 4 0, .i 4 0, .i 4 0, .i 4 0, .i 4 0, .i 4 0, .i 4 0, .i 4 0, .i 4 0, .i 4 0, .i 4 0, .i 4 0, .i 4 0, .i 4 0]),
    sDo (xStA 16 (.l 0) (.l 2)),
    sDo (xStA 16 (.f 5) (.l 1))]))
  (cSeq (cReg (regC [sPush (xLdA 16 (.f 5)),
    sPush (xCvi 3 18446744073709551616 9223372036854775808 4 256 (.f 1)),
    sPush (xBld [.i 4 0] [.mk 0 1 (.l 0)]),
    sPush (xMkl 5 1 (.l 0)),
    sPush (xApp 5 1 (.l 0) (.f 2)),
    sAg (.l 4) (xLdA 16 (.f 5)),
    sPush (xCalF 113 [(.l 4), (.l 0)]),
    sPush (xCalF 65 [(.l 0)]),
    sSet 4 (xMov (.l 0))]))
  cRet))),
  [.v (.f 4)], 3⟩
def m68 : List (Nat × Nat) := [(0, 0), (2, 1), (3, 2)]
/-- legate/msg.Decode -/
noncomputable def u68 : Fu := ⟨(cSeq (cReg (regC [sSet 1 (xAlc 60 [.i 3 0, .o (.s []), .o (.s []), .o (.s []), .o (.s []), .i 3 0, .i 3 0, .o (.s []), .o (.s []), .i 3 0, .o (.ns), .o (.ns), .o (.s []), .o (.s []), .i 3 0, .i 3 0, .o (.s []), .o (.s []), .o (.s []), .o (.s []), .i 3 0, .o (.ns), .o (.ns), .o (.s []), .o (.s []), .i 3 0, .o (.ns), .o (.ns), .i 3 0, .i 3 0]),
    sSet 2 (xMov (.c (.c (.i 3 0))))]))
  (cSeq (cReg (regC [sPush (xCalF 115 [(.f 0)]),
    sPush (xCalF 114 [(.f 0), (.l 0), (.c (.c (.o (.f 116 [] []))))]),
    sPush (xExt (.l 0) 0),
    sPush (xExt (.l 1) 1),
    sDo (xStA 30 (.f 1) (.l 1)),
    sSet 2 (xMov (.l 0))]))
  cRet)),
  [.cn (.f 1) 30, .v (.f 2)], 1⟩
def m69 : List (Nat × Nat) := [(0, 0), (1, 1), (2, 2), (4, 3), (6, 4), (7, 5), (8, 6), (9, 7), (10, 8), (11, 9), (18, 10), (35, 11), (45, 12), (52, 13), (56, 14), (62, 15)]
/-- (*legate/acceptor.Acceptor).shown -/
noncomputable def u69 : Fu := ⟨(cSeq (cReg (regC [sSet 3 (xBox 50 (.f 1)),
    sSet 4 (xAlc 31 [.o (.s []), .o (.s []), .i 4 0, .i 4 0, .i 4 0, .i 4 0, .i 4 0, .i 4 0, .i 4 0, .i 4 0, .i 4 0, .i 4 0, .i 4 0, .i 4 0, .i 4 0, .i 4 0, .i 4 0, .i 4 0, .i 4 0, .i 4 0, .i 4 0, .i 4 0, .i 4 0, .i 4 0, .i 4 0, .i 4 0, .i 4 0, .i 4 0, .i 4 0, .i 4 0, .i 4 0, .i 4 0, .i 4 0, .i 4 0, .o (.s []), .i 3 0, .i 3 0]),
    sSet 5 (xMov (.c (.c (.i 3 0))))]))
  (cSeq (cSeq (cReg (regC [sPush (xFld (.f 3) 0),
    sPush (xLdA 2 (.l 0)),
    sPush (xChk (.f 0)),
    sPush (xFld (.l 0) 0),
    sPush (xLdA 2 (.l 0)),
    sSet 10 (xBin (gNe [1, 1]) (.l 3) (.l 0))]))
  (cCond (.f 10) (cSeq (cReg (regC [sPush (xBld [.o (.s []), .o (.s []), .i 4 0, .i 4 0, .i 4 0, .i 4 0, .i 4 0, .i 4 0, .i 4 0, .i 4 0, .i 4 0, .i 4 0, .i 4 0, .i 4 0, .i 4 0, .i 4 0, .i 4 0, .i 4 0, .i 4 0, .i 4 0, .i 4 0, .i 4 0, .i 4 0, .i 4 0, .i 4 0, .i 4 0, .i 4 0, .i 4 0, .i 4 0, .i 4 0, .i 4 0, .i 4 0, .i 4 0, .i 4 0, .o (.s []), .i 3 0, .i 3 0] []),
    sDo (xStA 37 (.f 4) (.l 0)),
    sSet 5 (xMov (.c (.c (.i 3 9))))]))
  cRet) cSkip))
  (cSeq (cReg (regC [sPush (xChk (.f 0)),
    sPush (xFld (.l 0) 5),
    sPush (xLd1 (.l 0)),
    sPush (xChk (.f 0)),
    sPush (xFld (.l 0) 0),
    sPush (xLdA 2 (.l 0)),
    sPush (xFld (.f 3) 2),
    sPush (xLd1 (.l 0)),
    sPush (xCalF 117 [(.l 5), (.l 2), (.l 0)]),
    sPush (xExt (.l 0) 0),
    sPush (xExt (.l 1) 1),
    sSet 6 (xMov (.l 1)),
    sSet 7 (xMov (.l 0))]))
  (cSeq (cSeq (cReg (regC [sSet 11 (xBin (bNe 0) (.f 7) (.c (.c (.i 3 0))))]))
  (cCond (.f 11) (cSeq (cReg (regC [sPush (xBld [.o (.s []), .o (.s []), .i 4 0, .i 4 0, .i 4 0, .i 4 0, .i 4 0, .i 4 0, .i 4 0, .i 4 0, .i 4 0, .i 4 0, .i 4 0, .i 4 0, .i 4 0, .i 4 0, .i 4 0, .i 4 0, .i 4 0, .i 4 0, .i 4 0, .i 4 0, .i 4 0, .i 4 0, .i 4 0, .i 4 0, .i 4 0, .i 4 0, .i 4 0, .i 4 0, .i 4 0, .i 4 0, .i 4 0, .i 4 0, .o (.s []), .i 3 0, .i 3 0] []),
    sDo (xStA 37 (.f 4) (.l 0)),
    sSet 5 (xMov (.c (.c (.i 3 4))))]))
  cRet) cSkip))
  (cSeq (cReg (regC [sPush (xFld (.f 3) 3),
    sPush (xLd1 (.l 0)),
    sPush (xCalF 118 [(.f 6), (.c (.c (.i 3 2))), (.l 0)]),
    sPush (xExt (.l 0) 0),
    sPush (xExt (.l 1) 1),
    sSet 8 (xMov (.l 1)),
    sSet 7 (xMov (.l 0))]))
  (cSeq (cSeq (cReg (regC [sSet 12 (xBin (bNe 0) (.f 7) (.c (.c (.i 3 0))))]))
  (cCond (.f 12) (cSeq (cReg (regC [sPush (xBld [.o (.s []), .o (.s []), .i 4 0, .i 4 0, .i 4 0, .i 4 0, .i 4 0, .i 4 0, .i 4 0, .i 4 0, .i 4 0, .i 4 0, .i 4 0, .i 4 0, .i 4 0, .i 4 0, .i 4 0, .i 4 0, .i 4 0, .i 4 0, .i 4 0, .i 4 0, .i 4 0, .i 4 0, .i 4 0, .i 4 0, .i 4 0, .i 4 0, .i 4 0, .i 4 0, .i 4 0, .i 4 0, .i 4 0, .i 4 0, .o (.s []), .i 3 0, .i 3 0] []),
    sDo (xStA 37 (.f 4) (.l 0)),
    sSet 5 (xMov (.c (.c (.i 3 3))))]))
  cRet) cSkip))
  (cSeq (cReg (regC [sPush (xCalF 119 [(.f 8)]),
    sPush (xExt (.l 0) 0),
    sPush (xExt (.l 1) 1),
    sSet 9 (xAlc 31 [.o (.s []), .o (.s []), .i 4 0, .i 4 0, .i 4 0, .i 4 0, .i 4 0, .i 4 0, .i 4 0, .i 4 0, .i 4 0, .i 4 0, .i 4 0, .i 4 0, .i 4 0, .i 4 0, .i 4 0, .i 4 0, .i 4 0, .i 4 0, .i 4 0, .i 4 0, .i 4 0, .i 4 0, .i 4 0, .i 4 0, .i 4 0, .i 4 0, .i 4 0, .i 4 0, .i 4 0, .i 4 0, .i 4 0, .i 4 0, .o (.s []), .i 3 0, .i 3 0]),
    sDo (xStA 37 (.f 9) (.l 1)),
    sSet 7 (xMov (.l 0))]))
  (cSeq (cBlock 0 (cSeq (cReg (regC [sPush (xBin (bNe 0) (.f 7) (.c (.c (.i 3 0)))),
    sSet 13 (xMov (.l 0))]))
  (cCond (.f 13) (cSeq (cReg (regC [sPush (xBld [.o (.s []), .o (.s []), .i 4 0, .i 4 0, .i 4 0, .i 4 0, .i 4 0, .i 4 0, .i 4 0, .i 4 0, .i 4 0, .i 4 0, .i 4 0, .i 4 0, .i 4 0, .i 4 0, .i 4 0, .i 4 0, .i 4 0, .i 4 0, .i 4 0, .i 4 0, .i 4 0, .i 4 0, .i 4 0, .i 4 0, .i 4 0, .i 4 0, .i 4 0, .i 4 0, .i 4 0, .i 4 0, .i 4 0, .i 4 0, .o (.s []), .i 3 0, .i 3 0] []),
    sDo (xStA 37 (.f 4) (.l 0)),
    sSet 5 (xMov (.c (.c (.i 3 2))))]))
  cRet) (cSeq (cReg (regC [sPush (xFld (.f 9) 36),
    sPush (xLd1 (.l 0)),
    sPush (xBin (bLss 3 18446744073709551616 9223372036854775808) (.l 0) (.f 2)),
    sSet 14 (xMov (.l 0))]))
  (cCond (.f 14) (cSeq (cReg (regC [sPush (xBld [.o (.s []), .o (.s []), .i 4 0, .i 4 0, .i 4 0, .i 4 0, .i 4 0, .i 4 0, .i 4 0, .i 4 0, .i 4 0, .i 4 0, .i 4 0, .i 4 0, .i 4 0, .i 4 0, .i 4 0, .i 4 0, .i 4 0, .i 4 0, .i 4 0, .i 4 0, .i 4 0, .i 4 0, .i 4 0, .i 4 0, .i 4 0, .i 4 0, .i 4 0, .i 4 0, .i 4 0, .i 4 0, .i 4 0, .i 4 0, .o (.s []), .i 3 0, .i 3 0] []),
    sDo (xStA 37 (.f 4) (.l 0)),
    sSet 5 (xMov (.c (.c (.i 3 7))))]))
  cRet) (cSeq (cReg (regC [sPush (xFld (.f 9) 35),
    sPush (xLd1 (.l 0)),
    sPush (xBin (bAdd 3 18446744073709551616) (.f 2) (.c (.c (.i 3 5)))),
    sPush (xBin (bGtr 3 18446744073709551616 9223372036854775808) (.l 1) (.l 0)),
    sSet 15 (xMov (.l 0))]))
  (cCond (.f 15) (cSeq (cReg (regC [sPush (xBld [.o (.s []), .o (.s []), .i 4 0, .i 4 0, .i 4 0, .i 4 0, .i 4 0, .i 4 0, .i 4 0, .i 4 0, .i 4 0, .i 4 0, .i 4 0, .i 4 0, .i 4 0, .i 4 0, .i 4 0, .i 4 0, .i 4 0, .i 4 0, .i 4 0, .i 4 0, .i 4 0, .i 4 0, .i 4 0, .i 4 0, .i 4 0, .i 4 0, .i 4 0, .i 4 0, .i 4 0, .i 4 0, .i 4 0, .i 4 0, .o (.s []), .i 3 0, .i 3 0] []),
    sDo (xStA 37 (.f 4) (.l 0)),
    sSet 5 (xMov (.c (.c (.i 3 8))))]))
  cRet) cSkip)))))))
  (cSeq (cReg (regC [sPush (xLdA 37 (.f 9)),
    sDo (xStA 37 (.f 4) (.l 0)),
    sSet 5 (xMov (.c (.c (.i 3 0))))]))
  cRet))))))))),
  [.cn (.f 4) 37, .v (.f 5)], 3⟩
def m70 : List (Nat × Nat) := [(0, 0), (1, 1), (2, 2), (4, 3), (5, 4), (6, 5), (7, 6), (17, 7), (24, 8), (28, 9)]
/-- legate/acceptor.proves -/
noncomputable def u70 : Fu := ⟨(cSeq (cReg (regC [sSet 2 (xBox 31 (.f 0)),
    sSet 3 (xAlc 33 [.o (.s []), .o (.s []), .i 3 0, .i 3 0]),
    sSet 4 (xMov (.c (.c (.i 3 0))))]))
  (cSeq (cReg (regC [sPush (xFld (.f 2) 2),
    sPush (xLdA 32 (.l 0)),
    sPush (xCalF 53 [(.l 0)]),
    sPush (xCalF 118 [(.l 0), (.c (.c (.i 3 11))), (.f 1)]),
    sPush (xExt (.l 0) 0),
    sPush (xExt (.l 1) 1),
    sSet 1 (xMov (.l 1)),
    sSet 5 (xMov (.l 0))]))
  (cSeq (cSeq (cReg (regC [sSet 7 (xBin (bNe 0) (.f 5) (.c (.c (.i 3 0))))]))
  (cCond (.f 7) (cSeq (cReg (regC [sPush (xBld [.o (.s []), .o (.s []), .i 3 0, .i 3 0] []),
    sDo (xStA 4 (.f 3) (.l 0)),
    sSet 4 (xMov (.c (.c (.i 3 3))))]))
  cRet) cSkip))
  (cSeq (cReg (regC [sPush (xCalF 120 [(.f 1)]),
    sPush (xExt (.l 0) 0),
    sPush (xExt (.l 1) 1),
    sSet 6 (xAlc 33 [.o (.s []), .o (.s []), .i 3 0, .i 3 0]),
    sDo (xStA 4 (.f 6) (.l 1)),
    sSet 5 (xMov (.l 0))]))
  (cSeq (cBlock 0 (cSeq (cReg (regC [sPush (xBin (bNe 0) (.f 5) (.c (.c (.i 3 0)))),
    sSet 8 (xMov (.l 0))]))
  (cCond (.f 8) (cSeq (cReg (regC [sPush (xBld [.o (.s []), .o (.s []), .i 3 0, .i 3 0] []),
    sDo (xStA 4 (.f 3) (.l 0)),
    sSet 4 (xMov (.c (.c (.i 3 2))))]))
  cRet) (cSeq (cReg (regC [sPush (xFld (.f 6) 0),
    sPush (xLdA 2 (.l 0)),
    sPush (xFld (.f 2) 0),
    sPush (xLdA 2 (.l 0)),
    sPush (xBin (gNe [1, 1]) (.l 2) (.l 0)),
    sSet 9 (xMov (.l 0))]))
  (cCond (.f 9) (cSeq (cReg (regC [sPush (xBld [.o (.s []), .o (.s []), .i 3 0, .i 3 0] []),
    sDo (xStA 4 (.f 3) (.l 0)),
    sSet 4 (xMov (.c (.c (.i 3 9))))]))
  cRet) cSkip)))))
  (cSeq (cReg (regC [sPush (xLdA 4 (.f 6)),
    sDo (xStA 4 (.f 3) (.l 0)),
    sSet 4 (xMov (.c (.c (.i 3 0))))]))
  cRet)))))),
  [.cn (.f 3) 4, .v (.f 4)], 2⟩
def m71 : List (Nat × Nat) := [(0, 0), (1, 1), (3, 2), (4, 3), (5, 4), (6, 5), (7, 6), (22, 7), (26, 8), (37, 9)]
/-- (*legate/acceptor.Acceptor).passed -/
noncomputable def u71 : Fu := ⟨(cSeq (cReg (regC [sSet 2 (xBox 31 (.f 1)),
    sSet 3 (xMov (.c (.c (.o (.ns))))),
    sSet 4 (xMov (.c (.c (.i 3 0))))]))
  (cSeq (cReg (regC [sPush (xFld (.f 2) 34),
    sPush (xLd1 (.l 0)),
    sPush (xFld (.f 2) 0),
    sPush (xFld (.l 0) 0),
    sPush (xLd1 (.l 0)),
    sPush (xChk (.f 0)),
    sPush (xFld (.l 0) 0),
    sPush (xFld (.l 0) 0),
    sPush (xLd1 (.l 0)),
    sPush (xCalF 121 [(.l 7), (.l 4), (.l 0)]),
    sPush (xExt (.l 0) 0),
    sPush (xExt (.l 1) 1),
    sSet 5 (xMov (.l 1)),
    sSet 6 (xMov (.l 0))]))
  (cSeq (cBlock 0 (cSeq (cReg (regC [sPush (xBin (bNe 0) (.f 6) (.c (.c (.i 3 0)))),
    sSet 7 (xMov (.l 0))]))
  (cCond (.f 7) (cSeq (cReg (regC [sSet 3 (xMov (.c (.c (.o (.ns))))),
    sSet 4 (xMov (.f 6))]))
  cRet) (cSeq (cReg (regC [sPush (xChk (.f 0)),
    sPush (xFld (.l 0) 2),
    sPush (xFld (.l 0) 0),
    sPush (xLd1 (.l 0)),
    sPush (xFld (.f 2) 0),
    sPush (xFld (.l 0) 0),
    sPush (xLd1 (.l 0)),
    sPush (xCalF 56 [(.l 3), (.l 0)]),
    sPush (xNot (.l 0)),
    sSet 8 (xMov (.l 0))]))
  (cCond (.f 8) (cSeq (cReg (regC [sSet 3 (xMov (.c (.c (.o (.ns))))),
    sSet 4 (xMov (.c (.c (.i 3 1))))]))
  cRet) (cSeq (cReg (regC [sPush (xChk (.f 0)),
    sPush (xFld (.l 0) 2),
    sPush (xLdA 3 (.l 0)),
    sPush (xFld (.f 2) 0),
    sPush (xFld (.l 0) 0),
    sPush (xLd1 (.l 0)),
    sPush (xChk (.f 0)),
    sPush (xFld (.l 0) 0),
    sPush (xFld (.l 0) 0),
    sPush (xLd1 (.l 0)),
    sPush (xCalF 122 [(.l 7), (.l 4), (.l 0), (.f 5)]),
    sPush (xNot (.l 0)),
    sSet 9 (xMov (.l 0))]))
  (cCond (.f 9) (cSeq (cReg (regC [sSet 3 (xMov (.c (.c (.o (.ns))))),
    sSet 4 (xMov (.c (.c (.i 3 11))))]))
  cRet) cSkip)))))))
  (cSeq (cReg (regC [sSet 3 (xMov (.f 5)),
    sSet 4 (xMov (.c (.c (.i 3 0))))]))
  cRet)))),
  [.v (.f 3), .v (.f 4)], 2⟩
def m72 : List (Nat × Nat) := [(0, 0), (1, 1), (2, 2), (4, 3), (5, 4), (6, 5), (7, 6), (10, 7), (48, 8), (55, 9)]
/-- (*legate/replay.Replay).See -/
noncomputable def u72 : Fu := ⟨(cSeq (cReg (regC [sSet 3 (xBox 33 (.f 1)),
    sSet 4 (xBox 3 (.f 2)),
    sSet 5 (xMov (.c (.c (.i 3 0))))]))
  (cSeq (cBlock 0 (cSeq (cReg (regC [sPush (xBin (bEqN 0) (.f 0) (.c (.c (.o (.np))))),
    sSet 6 (xMov (.l 0))]))
  (cCond (.f 6) (cSeq (cReg (regC [sSet 5 (xMov (.c (.c (.i 3 13))))]))
  cRet) (cSeq (cReg (regC [sPush (xFld (.f 3) 2),
    sPush (xLd1 (.l 0)),
    sPush (xLd1 (.f 4)),
    sPush (xBin (bAdd 3 18446744073709551616) (.l 0) (.c (.c (.i 3 5)))),
    sPush (xBin (bGtr 3 18446744073709551616 9223372036854775808) (.l 2) (.l 0)),
    sIf (.l 0) false (sPush (xFld (.f 3) 2)) (sPush (xMov (.c udf))),
    sIf (.l 1) false (sPush (xLd1 (.l 0))) (sPush (xMov (.c udf))),
    sIf (.l 2) false (sPush (xLd1 (.f 4))) (sPush (xMov (.c udf))),
    sIf (.l 3) false (sPush (xBin (bSub 3 18446744073709551616) (.l 0) (.c (.c (.i 3 5))))) (sPush (xMov (.c udf))),
    sIf (.l 4) false (sPush (xBin (bLss 3 18446744073709551616 9223372036854775808) (.l 2) (.l 0))) (sPush (xMov (.c udf))),
    sPush (xPick (.l 5) (.c (.c (.o (.b true)))) (.l 0)),
    sIf (.l 0) false (sPush (xMov (.f 0))) (sPush (xMov (.c udf))),
    sIf (.l 1) false (sPush (xChk (.l 0))) (sPush (xMov (.c udf))),
    sIf (.l 2) false (sPush (xFld (.l 0) 1)) (sPush (xMov (.c udf))),
    sIf (.l 3) false (sPush (xLd1 (.l 0))) (sPush (xMov (.c udf))),
    sIf (.l 4) false (sPush (xMov (.l 0))) (sPush (xMov (.c udf))),
    sIf (.l 0) true (sPush (xFld (.f 3) 2)) (sPush (xMov (.c udf))),
    sIf (.l 1) true (sPush (xLd1 (.l 0))) (sPush (xMov (.c udf))),
    sIf (.l 2) true (sPush (xMov (.f 0))) (sPush (xMov (.c udf))),
    sIf (.l 3) true (sPush (xChk (.l 0))) (sPush (xMov (.c udf))),
    sIf (.l 4) true (sPush (xFld (.l 0) 2)) (sPush (xMov (.c udf))),
    sIf (.l 5) true (sPush (xLd1 (.l 0))) (sPush (xMov (.c udf))),
    sIf (.l 6) true (sPush (xBin (bAdd 3 18446744073709551616) (.l 0) (.c (.c (.i 3 5))))) (sPush (xMov (.c udf))),
    sIf (.l 7) true (sPush (xBin (bLeq 3 18446744073709551616 9223372036854775808) (.l 5) (.l 0))) (sPush (xMov (.c udf))),
    sIf (.l 13) false (sPush (xPick (.l 8) (.l 0) (.c (.c (.o (.b false)))))) (sPush (xMov (.c udf))),
    sPush (xPick (.l 14) (.c (.c (.o (.b true)))) (.l 0)),
    sSet 7 (xMov (.l 0))]))
  (cCond (.f 7) (cSeq (cReg (regC [sSet 5 (xMov (.c (.c (.i 3 8))))]))
  cRet) cSkip)))))
  (cSeq (cReg (regC [sPush (xChk (.f 0)),
    sPush (xFld (.l 0) 0),
    sPush (xLd1 (.l 0)),
    sPush (xMkf 124 [] [(.f 4)]),
    sPush (xCalF 123 [(.l 1), (.l 0)]),
    sPush (xChk (.f 0)),
    sPush (xFld (.l 0) 0),
    sDo (xSt1 (.l 0) (.l 2))]))
  (cSeq (cBlock 1 (cSeq (cReg (regC [sPush (xChk (.f 0)),
    sPush (xFld (.l 0) 0),
    sPush (xLd1 (.l 0)),
    sPush (xLdA 4 (.f 3)),
    sPush (xCalF 125 [(.l 1), (.l 0)]),
    sSet 8 (xMov (.l 0))]))
  (cCond (.f 8) (cSeq (cReg (regC [sSet 5 (xMov (.c (.c (.i 3 12))))]))
  cRet) (cSeq (cReg (regC [sPush (xChk (.f 0)),
    sPush (xFld (.l 0) 0),
    sPush (xLd1 (.l 0)),
    sPush (xLen (.l 0)),
    sPush (xBin (bGeq 3 18446744073709551616 9223372036854775808) (.l 0) (.c (.c (.i 3 8)))),
    sSet 9 (xMov (.l 0))]))
  (cCond (.f 9) (cSeq (cReg (regC [sSet 5 (xMov (.c (.c (.i 3 13))))]))
  cRet) cSkip)))))
  (cSeq (cReg (regC [sPush (xChk (.f 0)),
    sPush (xFld (.l 0) 0),
    sPush (xLd1 (.l 0)),
    sPush (xLdA 4 (.f 3)),
    sPush (xBld [.o (.s []), .o (.s []), .i 3 0, .i 3 0] [.mk 0 4 (.l 0)]),
    sPush (xMkl 33 1 (.l 0)),
    sPush (xApp 33 4 (.l 3) (.l 0)),
    sPush (xChk (.f 0)),
    sPush (xFld (.l 0) 0),
    sDo (xSt1 (.l 0) (.l 2))]))
  (cSeq (cReg (regC [sSet 5 (xMov (.c (.c (.i 3 0))))]))
  cRet)))))),
  [.v (.f 5)], 3⟩
def m74 : List (Nat × Nat) := [(0, 0), (1, 1), (4, 2), (5, 3), (6, 4), (7, 5), (27, 6), (35, 7), (49, 8), (69, 9), (90, 10)]
/-- (*legate/legateref1.Cursor).take -/
noncomputable def u74 : Fu := ⟨(cSeq (cReg (regC [sSet 2 (xMov (.c (.c (.o (.ns)))))]))
  (cSeq (cReg (regC [sPush (xChk (.f 0)),
    sPush (xFld (.l 0) 0),
    sPush (xLd1 (.l 0)),
    sSet 3 (xMov (.l 0))]))
  (cSeq (cSeq (cReg (regC [sPush (xChk (.f 0)),
    sPush (xFld (.l 0) 1),
    sPush (xLd1 (.l 0)),
    sIf (.l 0) false (sPush (xMov (.f 3))) (sPush (xMov (.c udf))),
    sIf (.l 1) false (sPush (xLen (.l 0))) (sPush (xMov (.c udf))),
    sIf (.l 2) false (sPush (xBin (bLss 3 18446744073709551616 9223372036854775808) (.l 0) (.c (.c (.i 3 2))))) (sPush (xMov (.c udf))),
    sPush (xPick (.l 3) (.c (.c (.o (.b true)))) (.l 0)),
    sIf (.l 0) false (sPush (xMov (.f 3))) (sPush (xMov (.c udf))),
    sIf (.l 1) false (sPush (xIxS 1 (.l 0) (.c (.c (.i 3 0))))) (sPush (xMov (.c udf))),
    sIf (.l 2) false (sPush (xLd1 (.l 0))) (sPush (xMov (.c udf))),
    sIf (.l 3) false (sPush (xMov (.f 1))) (sPush (xMov (.c udf))),
    sIf (.l 4) false (sPush (xBin (bNe 0) (.l 1) (.l 0))) (sPush (xMov (.c udf))),
    sSet 6 (xPick (.l 5) (.c (.c (.o (.b true)))) (.l 0))]))
  (cCond (.f 6) (cSeq (cReg (regC [sPush (xChk (.f 0)),
    sPush (xFld (.l 0) 1),
    sDo (xSt1 (.l 0) (.c (.c (.o (.b true)))))]))
  (cSeq (cReg (regC [sSet 2 (xMov (.c (.c (.o (.ns)))))]))
  cRet)) cSkip))
  (cSeq (cReg (regC [sPush (xIxS 1 (.f 3) (.c (.c (.i 3 1)))),
    sPush (xLd1 (.l 0)),
    sPush (xCvi 4 256 256 3 18446744073709551616 (.l 0)),
    sSet 4 (xMov (.l 0)),
    sSet 5 (xMov (.c (.c (.i 3 2))))]))
  (cSeq (cBlock 0 (cSeq (cReg (regC [sPush (xIxS 1 (.f 3) (.c (.c (.i 3 1)))),
    sPush (xLd1 (.l 0)),
    sPush (xBin (bEq 0) (.l 0) (.c (.c (.i 4 129)))),
    sIf (.l 0) true (sPush (xMov (.f 3))) (sPush (xMov (.c udf))),
    sIf (.l 1) true (sPush (xLen (.l 0))) (sPush (xMov (.c udf))),
    sIf (.l 2) true (sPush (xBin (bGeq 3 18446744073709551616 9223372036854775808) (.l 0) (.c (.c (.i 3 3))))) (sPush (xMov (.c udf))),
    sPush (xPick (.l 3) (.l 0) (.c (.c (.o (.b false))))),
    sSet 7 (xMov (.l 0))]))
  (cCond (.f 7) (cReg (regC [sPush (xIxS 1 (.f 3) (.c (.c (.i 3 2)))),
    sPush (xLd1 (.l 0)),
    sPush (xCvi 4 256 256 3 18446744073709551616 (.l 0)),
    sSet 4 (xMov (.l 0)),
    sSet 5 (xMov (.c (.c (.i 3 3))))])) (cSeq (cReg (regC [sPush (xIxS 1 (.f 3) (.c (.c (.i 3 1)))),
    sPush (xLd1 (.l 0)),
    sPush (xBin (bEq 0) (.l 0) (.c (.c (.i 4 130)))),
    sIf (.l 0) true (sPush (xMov (.f 3))) (sPush (xMov (.c udf))),
    sIf (.l 1) true (sPush (xLen (.l 0))) (sPush (xMov (.c udf))),
    sIf (.l 2) true (sPush (xBin (bGeq 3 18446744073709551616 9223372036854775808) (.l 0) (.c (.c (.i 3 4))))) (sPush (xMov (.c udf))),
    sPush (xPick (.l 3) (.l 0) (.c (.c (.o (.b false))))),
    sSet 8 (xMov (.l 0))]))
  (cCond (.f 8) (cReg (regC [sPush (xIxS 1 (.f 3) (.c (.c (.i 3 2)))),
    sPush (xLd1 (.l 0)),
    sPush (xCvi 4 256 256 3 18446744073709551616 (.l 0)),
    sPush (xBin (bShl 3 18446744073709551616) (.l 0) (.c (.c (.i 7 8)))),
    sPush (xIxS 1 (.f 3) (.c (.c (.i 3 3)))),
    sPush (xLd1 (.l 0)),
    sPush (xCvi 4 256 256 3 18446744073709551616 (.l 0)),
    sPush (xBin (bOr 3) (.l 3) (.l 0)),
    sSet 4 (xMov (.l 0)),
    sSet 5 (xMov (.c (.c (.i 3 4))))])) (cSeq (cReg (regC [sPush (xIxS 1 (.f 3) (.c (.c (.i 3 1)))),
    sPush (xLd1 (.l 0)),
    sPush (xBin (bGeq 4 256 0) (.l 0) (.c (.c (.i 4 128)))),
    sSet 9 (xMov (.l 0))]))
  (cCond (.f 9) (cSeq (cReg (regC [sPush (xChk (.f 0)),
    sPush (xFld (.l 0) 1),
    sDo (xSt1 (.l 0) (.c (.c (.o (.b true)))))]))
  (cSeq (cReg (regC [sSet 2 (xMov (.c (.c (.o (.ns)))))]))
  cRet)) cSkip)))))))
  (cSeq (cSeq (cReg (regC [sPush (xLen (.f 3)),
    sPush (xBin (bSub 3 18446744073709551616) (.l 0) (.f 5)),
    sPush (xBin (bGtr 3 18446744073709551616 9223372036854775808) (.f 4) (.l 0)),
    sIf (.l 0) false (sPush (xMov (.f 4))) (sPush (xMov (.c udf))),
    sIf (.l 1) false (sPush (xCalF 126 [(.l 0)])) (sPush (xMov (.c udf))),
    sIf (.l 2) false (sPush (xLen (.l 0))) (sPush (xMov (.c udf))),
    sIf (.l 3) false (sPush (xMov (.f 5))) (sPush (xMov (.c udf))),
    sIf (.l 4) false (sPush (xBin (bSub 3 18446744073709551616) (.l 0) (.c (.c (.i 3 1))))) (sPush (xMov (.c udf))),
    sIf (.l 5) false (sPush (xBin (bNe 0) (.l 2) (.l 0))) (sPush (xMov (.c udf))),
    sSet 10 (xPick (.l 6) (.c (.c (.o (.b true)))) (.l 0))]))
  (cCond (.f 10) (cSeq (cReg (regC [sPush (xChk (.f 0)),
    sPush (xFld (.l 0) 1),
    sDo (xSt1 (.l 0) (.c (.c (.o (.b true)))))]))
  (cSeq (cReg (regC [sSet 2 (xMov (.c (.c (.o (.ns)))))]))
  cRet)) cSkip))
  (cSeq (cReg (regC [sPush (xBin (bAdd 3 18446744073709551616) (.f 5) (.f 4)),
    sPush (xCutL 1 (.f 3) (some (.l 0)) none),
    sPush (xChk (.f 0)),
    sPush (xFld (.l 0) 0),
    sDo (xSt1 (.l 0) (.l 2))]))
  (cSeq (cReg (regC [sPush (xBin (bAdd 3 18446744073709551616) (.f 5) (.f 4)),
    sPush (xCutL 1 (.f 3) (some (.f 5)) (some (.l 0))),
    sSet 2 (xMov (.l 0))]))
  cRet)))))))),
  [.v (.f 2)], 2⟩
def m75 : List (Nat × Nat) := [(0, 0), (2, 1)]
/-- (*legate/legateref1.Cursor).Text -/
noncomputable def u75 : Fu := ⟨(cSeq (cReg (regC [sSet 1 (xMov (.c (.c (.o (.s [])))))]))
  (cSeq (cReg (regC [sPush (xCalF 74 [(.f 0), (.c (.c (.i 4 27)))]),
    sPush (xB2s (.l 0)),
    sSet 1 (xMov (.l 0))]))
  cRet)),
  [.v (.f 1)], 1⟩
def m76 : List (Nat × Nat) := [(0, 0), (2, 1)]
/-- (*legate/legateref1.Cursor).Whole -/
noncomputable def u76 : Fu := ⟨(cSeq (cReg (regC [sSet 1 (xMov (.c (.c (.o (.b false)))))]))
  (cSeq (cReg (regC [sPush (xChk (.f 0)),
    sPush (xFld (.l 0) 1),
    sPush (xLd1 (.l 0)),
    sPush (xNot (.l 0)),
    sIf (.l 0) true (sPush (xMov (.f 0))) (sPush (xMov (.c udf))),
    sIf (.l 1) true (sPush (xChk (.l 0))) (sPush (xMov (.c udf))),
    sIf (.l 2) true (sPush (xFld (.l 0) 0)) (sPush (xMov (.c udf))),
    sIf (.l 3) true (sPush (xLd1 (.l 0))) (sPush (xMov (.c udf))),
    sIf (.l 4) true (sPush (xLen (.l 0))) (sPush (xMov (.c udf))),
    sIf (.l 5) true (sPush (xBin (bEq 0) (.l 0) (.c (.c (.i 3 0))))) (sPush (xMov (.c udf))),
    sPush (xPick (.l 6) (.l 0) (.c (.c (.o (.b false))))),
    sSet 1 (xMov (.l 0))]))
  cRet)),
  [.v (.f 1)], 1⟩
def m77 : List (Nat × Nat) := [(0, 0), (1, 1), (4, 2)]
/-- legate/legateref1.element -/
noncomputable def u77 : Fu := ⟨(cSeq (cReg (regC [sSet 2 (xMov (.c (.c (.o (.ns)))))]))
  (cSeq (cReg (regC [sPush (xBls 5 1 [.i 4 0] [.mk 0 1 (.f 0)]),
    sPush (xLen (.f 1)),
    sPush (xCalF 126 [(.l 0)]),
    sPush (xApp 5 1 (.l 2) (.l 0)),
    sPush (xApp 5 1 (.l 0) (.f 1)),
    sSet 2 (xMov (.l 0))]))
  cRet)),
  [.v (.f 2)], 2⟩
def m84 : List (Nat × Nat) := [(0, 0), (2, 1), (3, 2), (18, 3)]
/-- legate/legateref5.Kind -/
noncomputable def u84 : Fu := ⟨(cSeq (cReg (regC [sSet 1 (xMov (.c (.c (.i 3 0))))]))
  (cSeq (cBlock 0 (cSeq (cReg (regC [sPush (xLenT (.f 0)),
    sPush (xBin (bGtr 3 18446744073709551616 9223372036854775808) (.l 0) (.c (.c (.i 3 0)))),
    sIf (.l 0) true (sPush (xMov (.f 0))) (sPush (xMov (.c udf))),
    sIf (.l 1) true (sPush (xIxT (.l 0) (.c (.c (.i 3 0))))) (sPush (xMov (.c udf))),
    sIf (.l 2) true (sPush (xBin (bEq 0) (.l 0) (.c (.c (.i 4 47))))) (sPush (xMov (.c udf))),
    sPush (xPick (.l 3) (.l 0) (.c (.c (.o (.b false))))),
    sIf (.l 0) true (sPush (xMov (.f 0))) (sPush (xMov (.c udf))),
    sIf (.l 1) true (sPush (xCutT (.l 0) (some (.c (.c (.i 3 1)))) none)) (sPush (xMov (.c udf))),
    sIf (.l 2) true (sPush (xCalF 130 [(.l 0), (.c (.c (.i 4 47)))])) (sPush (xMov (.c udf))),
    sIf (.l 3) true (sPush (xCalF 135 [(.l 0)])) (sPush (xMov (.c udf))),
    sPush (xPick (.l 4) (.l 0) (.c (.c (.o (.b false))))),
    sSet 2 (xMov (.l 0))]))
  (cCond (.f 2) (cSeq (cReg (regC [sSet 1 (xMov (.c (.c (.i 3 2))))]))
  cRet) (cSeq (cReg (regC [sPush (xCalF 130 [(.f 0), (.c (.c (.i 4 46)))]),
    sPush (xCalF 135 [(.l 0)]),
    sSet 3 (xMov (.l 0))]))
  (cCond (.f 3) (cSeq (cReg (regC [sSet 1 (xMov (.c (.c (.i 3 1))))]))
  cRet) cSkip)))))
  (cSeq (cReg (regC [sSet 1 (xMov (.c (.c (.i 3 0))))]))
  cRet))),
  [.v (.f 1)], 1⟩
def m85 : List (Nat × Nat) := [(0, 0), (1, 1), (2, 2)]
/-- legate/legateref8.none -/
noncomputable def u85 : Fu := ⟨(cSeq (cReg (regC [sSet 1 (xBox 50 (.f 0)),
    sSet 2 (xMov (.c (.c (.o (.b false)))))]))
  (cSeq (cReg (regC [sPush (xFld (.f 1) 0),
    sPush (xLdA 2 (.l 0)),
    sPush (xBld [.o (.s []), .o (.s [])] []),
    sPush (xBin (gEq [1, 1]) (.l 1) (.l 0)),
    sIf (.l 0) true (sPush (xFld (.f 1) 2)) (sPush (xMov (.c udf))),
    sIf (.l 1) true (sPush (xLd1 (.l 0))) (sPush (xMov (.c udf))),
    sIf (.l 2) true (sPush (xBin (bEq 0) (.l 0) (.c (.c (.i 3 0))))) (sPush (xMov (.c udf))),
    sPush (xPick (.l 3) (.l 0) (.c (.c (.o (.b false))))),
    sIf (.l 0) true (sPush (xFld (.f 1) 3)) (sPush (xMov (.c udf))),
    sIf (.l 1) true (sPush (xLd1 (.l 0))) (sPush (xMov (.c udf))),
    sIf (.l 2) true (sPush (xLen (.l 0))) (sPush (xMov (.c udf))),
    sIf (.l 3) true (sPush (xBin (bEq 0) (.l 0) (.c (.c (.i 3 0))))) (sPush (xMov (.c udf))),
    sPush (xPick (.l 4) (.l 0) (.c (.c (.o (.b false))))),
    sSet 2 (xMov (.l 0))]))
  cRet)),
  [.v (.f 2)], 1⟩
def m86 : List (Nat × Nat) := [(0, 0), (1, 1), (2, 2)]
/-- legate/legateref8.IsAs -/
noncomputable def u86 : Fu := ⟨(cSeq (cReg (regC [sSet 1 (xBox 48 (.f 0)),
    sSet 2 (xMov (.c (.c (.o (.b false)))))]))
  (cSeq (cReg (regC [sPush (xFld (.f 1) 0),
    sPush (xLdA 2 (.l 0)),
    sPush (xCalF 20 [(.l 0)]),
    sIf (.l 0) true (sPush (xFld (.f 1) 2)) (sPush (xMov (.c udf))),
    sIf (.l 1) true (sPush (xLdA 2 (.l 0))) (sPush (xMov (.c udf))),
    sIf (.l 2) true (sPush (xCalF 20 [(.l 0)])) (sPush (xMov (.c udf))),
    sPush (xPick (.l 3) (.l 0) (.c (.c (.o (.b false))))),
    sIf (.l 0) true (sPush (xFld (.f 1) 4)) (sPush (xMov (.c udf))),
    sIf (.l 1) true (sPush (xLd1 (.l 0))) (sPush (xMov (.c udf))),
    sIf (.l 2) true (sPush (xCalF 90 [(.l 0), (.c (.c (.i 3 0))), (.c (.c (.i 3 1073741824)))])) (sPush (xMov (.c udf))),
    sPush (xPick (.l 3) (.l 0) (.c (.c (.o (.b false))))),
    sIf (.l 0) true (sPush (xFld (.f 1) 5)) (sPush (xMov (.c udf))),
    sIf (.l 1) true (sPush (xLd1 (.l 0))) (sPush (xMov (.c udf))),
    sIf (.l 2) true (sPush (xCalF 90 [(.l 0), (.c (.c (.i 3 0))), (.c (.c (.i 3 1073741824)))])) (sPush (xMov (.c udf))),
    sPush (xPick (.l 3) (.l 0) (.c (.c (.o (.b false))))),
    sSet 2 (xMov (.l 0))]))
  cRet)),
  [.v (.f 2)], 1⟩
def m87 : List (Nat × Nat) := [(0, 0), (1, 1), (2, 2)]
/-- legate/legateref8.IsTgs -/
noncomputable def u87 : Fu := ⟨(cSeq (cReg (regC [sSet 1 (xBox 52 (.f 0)),
    sSet 2 (xMov (.c (.c (.o (.b false)))))]))
  (cSeq (cReg (regC [sPush (xFld (.f 1) 0),
    sPush (xLdA 4 (.l 0)),
    sPush (xCalF 88 [(.l 0)]),
    sIf (.l 0) true (sPush (xFld (.f 1) 4)) (sPush (xMov (.c udf))),
    sIf (.l 1) true (sPush (xLd1 (.l 0))) (sPush (xMov (.c udf))),
    sIf (.l 2) true (sPush (xCalF 89 [(.l 0)])) (sPush (xMov (.c udf))),
    sPush (xPick (.l 3) (.l 0) (.c (.c (.o (.b false))))),
    sIf (.l 0) true (sPush (xFld (.f 1) 5)) (sPush (xMov (.c udf))),
    sIf (.l 1) true (sPush (xLdA 2 (.l 0))) (sPush (xMov (.c udf))),
    sIf (.l 2) true (sPush (xCalF 20 [(.l 0)])) (sPush (xMov (.c udf))),
    sPush (xPick (.l 3) (.l 0) (.c (.c (.o (.b false))))),
    sIf (.l 0) true (sPush (xFld (.f 1) 7)) (sPush (xMov (.c udf))),
    sIf (.l 1) true (sPush (xLd1 (.l 0))) (sPush (xMov (.c udf))),
    sIf (.l 2) true (sPush (xCalF 90 [(.l 0), (.c (.c (.i 3 0))), (.c (.c (.i 3 1073741824)))])) (sPush (xMov (.c udf))),
    sPush (xPick (.l 3) (.l 0) (.c (.c (.o (.b false))))),
    sIf (.l 0) true (sPush (xFld (.f 1) 8)) (sPush (xMov (.c udf))),
    sIf (.l 1) true (sPush (xLd1 (.l 0))) (sPush (xMov (.c udf))),
    sIf (.l 2) true (sPush (xCalF 90 [(.l 0), (.c (.c (.i 3 0))), (.c (.c (.i 3 1073741824)))])) (sPush (xMov (.c udf))),
    sPush (xPick (.l 3) (.l 0) (.c (.c (.o (.b false))))),
    sSet 2 (xMov (.l 0))]))
  cRet)),
  [.v (.f 2)], 1⟩
def m88 : List (Nat × Nat) := [(0, 0), (1, 1), (2, 2)]
/-- legate/legateref8.ticket -/
noncomputable def u88 : Fu := ⟨(cSeq (cReg (regC [sSet 1 (xBox 50 (.f 0)),
    sSet 2 (xMov (.c (.c (.o (.b false)))))]))
  (cSeq (cReg (regC [sPush (xFld (.f 1) 0),
    sPush (xLdA 2 (.l 0)),
    sPush (xCalF 20 [(.l 0)]),
    sIf (.l 0) true (sPush (xFld (.f 1) 2)) (sPush (xMov (.c udf))),
    sIf (.l 1) true (sPush (xLd1 (.l 0))) (sPush (xMov (.c udf))),
    sIf (.l 2) true (sPush (xCalF 90 [(.l 0), (.c (.c (.i 3 1))), (.c (.c (.i 3 255)))])) (sPush (xMov (.c udf))),
    sPush (xPick (.l 3) (.l 0) (.c (.c (.o (.b false))))),
    sIf (.l 0) true (sPush (xFld (.f 1) 3)) (sPush (xMov (.c udf))),
    sIf (.l 1) true (sPush (xLd1 (.l 0))) (sPush (xMov (.c udf))),
    sIf (.l 2) true (sPush (xCalF 89 [(.l 0)])) (sPush (xMov (.c udf))),
    sPush (xPick (.l 3) (.l 0) (.c (.c (.o (.b false))))),
    sSet 2 (xMov (.l 0))]))
  cRet)),
  [.v (.f 2)], 1⟩
def m89 : List (Nat × Nat) := [(0, 0), (2, 1)]
/-- legate/legateref8.blob -/
noncomputable def u89 : Fu := ⟨(cSeq (cReg (regC [sSet 1 (xMov (.c (.c (.o (.b false)))))]))
  (cSeq (cReg (regC [sPush (xLen (.f 0)),
    sPush (xCalF 90 [(.l 0), (.c (.c (.i 3 1))), (.c (.c (.i 3 800)))]),
    sSet 1 (xMov (.l 0))]))
  cRet)),
  [.v (.f 1)], 1⟩
def m90 : List (Nat × Nat) := [(0, 0), (1, 1), (2, 2), (6, 3)]
/-- legate/legateref8.in -/
noncomputable def u90 : Fu := ⟨(cSeq (cReg (regC [sSet 3 (xMov (.c (.c (.o (.b false)))))]))
  (cSeq (cReg (regC [sPush (xBin (bGeq 3 18446744073709551616 9223372036854775808) (.f 0) (.f 1)),
    sIf (.l 0) true (sPush (xMov (.f 0))) (sPush (xMov (.c udf))),
    sIf (.l 1) true (sPush (xMov (.f 2))) (sPush (xMov (.c udf))),
    sIf (.l 2) true (sPush (xBin (bLeq 3 18446744073709551616 9223372036854775808) (.l 1) (.l 0))) (sPush (xMov (.c udf))),
    sPush (xPick (.l 3) (.l 0) (.c (.c (.o (.b false))))),
    sSet 3 (xMov (.l 0))]))
  cRet)),
  [.v (.f 3)], 3⟩
def m91 : List (Nat × Nat) := [(0, 0), (2, 1), (3, 2), (4, 3), (5, 4), (17, 5)]
/-- legate/name.Target -/
noncomputable def u91 : Fu := ⟨(cSeq (cReg (regC [sSet 1 (xMov (.c (.c (.o (.s []))))),
    sSet 2 (xMov (.c (.c (.o (.b false)))))]))
  (cSeq (cReg (regC [sPush (xCalF 136 [(.f 0), (.c (.c (.o (.s [107, 114, 98, 116, 103, 116, 47]))))]),
    sPush (xExt (.l 0) 0),
    sPush (xExt (.l 1) 1),
    sSet 3 (xMov (.l 1)),
    sSet 4 (xMov (.l 0))]))
  (cSeq (cSeq (cReg (regC [sPush (xNot (.f 4)),
    sIf (.l 0) false (sPush (xMov (.f 3))) (sPush (xMov (.c udf))),
    sIf (.l 1) false (sPush (xCalF 92 [(.l 0)])) (sPush (xMov (.c udf))),
    sIf (.l 2) false (sPush (xNot (.l 0))) (sPush (xMov (.c udf))),
    sSet 5 (xPick (.l 3) (.c (.c (.o (.b true)))) (.l 0))]))
  (cCond (.f 5) (cSeq (cReg (regC [sSet 1 (xMov (.c (.c (.o (.s []))))),
    sSet 2 (xMov (.c (.c (.o (.b false)))))]))
  cRet) cSkip))
  (cSeq (cReg (regC [sSet 1 (xMov (.f 3)),
    sSet 2 (xMov (.c (.c (.o (.b true)))))]))
  cRet)))),
  [.v (.f 1), .v (.f 2)], 1⟩
def m92 : List (Nat × Nat) := [(0, 0), (2, 1)]
/-- legate/name.Is -/
noncomputable def u92 : Fu := ⟨(cSeq (cReg (regC [sSet 1 (xMov (.c (.c (.o (.b false)))))]))
  (cSeq (cReg (regC [sPush (xCalF 137 [(.f 0)]),
    sPush (xBin (bNe 0) (.l 0) (.c (.c (.i 3 0)))),
    sSet 1 (xMov (.l 0))]))
  cRet)),
  [.v (.f 1)], 1⟩
def m93 : List (Nat × Nat) := [(0, 0), (1, 1), (4, 2)]
/-- legate/name.isWord -/
noncomputable def u93 : Fu := ⟨(cSeq (cReg (regC [sSet 2 (xMov (.c (.c (.o (.b false)))))]))
  (cSeq (cReg (regC [sPush (xBin (bNe 1) (.f 0) (.c (.c (.o (.s []))))),
    sIf (.l 0) true (sPush (xMov (.f 0))) (sPush (xMov (.c udf))),
    sIf (.l 1) true (sPush (xLenT (.l 0))) (sPush (xMov (.c udf))),
    sIf (.l 2) true (sPush (xBin (bLeq 3 18446744073709551616 9223372036854775808) (.l 0) (.c (.c (.i 3 8))))) (sPush (xMov (.c udf))),
    sPush (xPick (.l 3) (.l 0) (.c (.c (.o (.b false))))),
    sIf (.l 0) true (sPush (xMov (.f 0))) (sPush (xMov (.c udf))),
    sIf (.l 1) true (sPush (xMov (.f 1))) (sPush (xMov (.c udf))),
    sIf (.l 2) true (sPush (xCalF 138 [(.l 1), (.l 0)])) (sPush (xMov (.c udf))),
    sIf (.l 3) true (sPush (xBin (bEq 1) (.l 0) (.c (.c (.o (.s [])))))) (sPush (xMov (.c udf))),
    sPush (xPick (.l 4) (.l 0) (.c (.c (.o (.b false))))),
    sSet 2 (xMov (.l 0))]))
  cRet)),
  [.v (.f 2)], 2⟩
def m94 : List (Nat × Nat) := [(0, 0), (1, 1), (4, 2), (5, 3), (7, 4), (15, 5), (26, 6)]
/-- (*legate/ring.Ring).find -/
noncomputable def u94 : Fu := ⟨(cSeq (cReg (regC [sSet 2 (xMov (.c (.c (.o (.np)))))]))
  (cSeq (cSeq (cReg (regC [sSet 4 (xBin (bEqN 0) (.f 0) (.c (.c (.o (.np)))))]))
  (cCond (.f 4) (cSeq (cReg (regC [sSet 2 (xMov (.c (.c (.o (.np)))))]))
  cRet) cSkip))
  (cSeq (cSeq (cReg (regC [sPush (xChk (.f 0)),
    sPush (xFld (.l 0) 0),
    sPush (xLd1 (.l 0)),
    sPush (xLen (.l 0)),
    sPush (xBin (bSub 3 18446744073709551616) (.l 0) (.c (.c (.i 3 1)))),
    sSet 3 (xMov (.l 0))]))
  (cBlock 0 (cLoop (cSeq (cSeq (cReg (regC [sSet 5 (xBin (bGeq 3 18446744073709551616 9223372036854775808) (.f 3) (.c (.c (.i 3 0))))]))
  (cCond (.f 5) cSkip (cExit 0)))
  (cSeq (cBlock 1 (cSeq (cReg (regC [sPush (xChk (.f 0)),
    sPush (xFld (.l 0) 0),
    sPush (xLd1 (.l 0)),
    sPush (xIxS 36 (.l 0) (.f 3)),
    sPush (xLdA 36 (.l 0)),
    sSet 6 (xCal (.f 1) [(.l 0)])]))
  (cCond (.f 6) (cSeq (cReg (regC [sPush (xChk (.f 0)),
    sPush (xFld (.l 0) 0),
    sPush (xLd1 (.l 0)),
    sPush (xIxS 36 (.l 0) (.f 3)),
    sSet 2 (xMov (.l 0))]))
  cRet) cSkip)))
  (cReg (regC [sPush (xBin (bSub 3 18446744073709551616) (.f 3) (.c (.c (.i 3 1)))),
    sSet 3 (xMov (.l 0))])))))))
  (cSeq (cReg (regC [sSet 2 (xMov (.c (.c (.o (.np)))))]))
  cRet)))),
  [.v (.f 2)], 2⟩
def m95 : List (Nat × Nat) := [(0, 0), (1, 1), (2, 2), (3, 3)]
/-- (*legate/ring.Ring).last$1 -/
noncomputable def u95 : Fu := ⟨(cSeq (cReg (regC [sSet 2 (xBox 147 (.f 0)),
    sSet 3 (xMov (.c (.c (.o (.b false)))))]))
  (cSeq (cReg (regC [sPush (xFld (.f 2) 0),
    sPush (xLdA 2 (.l 0)),
    sPush (xLdA 2 (.f 1)),
    sPush (xBin (gEq [1, 1]) (.l 1) (.l 0)),
    sSet 3 (xMov (.l 0))]))
  cRet)),
  [.v (.f 3)], 2⟩
def m96 : List (Nat × Nat) := [(0, 0), (1, 1), (2, 2)]
/-- legate/speck.New -/
noncomputable def u96 : Fu := ⟨(cSeq (cReg (regC [sSet 1 (xBox 204 (.f 0)),
    sSet 2 (xMov (.c (.c (.o (.np)))))]))
  (cSeq (cReg (regC [sPush (xLdA 16 (.f 1)),
    sPush (xBld [.i 4 0, .i 4 0, .i 4 0, .i 4 0, .i 4 0, .i 4 0, .i 4 0, .i 4 0, .i 4 0, .i 4 0, .i 4 0, .i 4 0, .i 4 0, .i 4 0, .i 4 0, .i 4 0, .i 6 0, .i 2 0, .i 6 0, .i 6 0, .i 6 0, .i 6 0, .i 6 0, .i 6 0, .i 6 0, .i 6 0, .i 6 0, .i 6 0, .i 6 0, .i 6 0, .i 6 0, .i 6 0, .i 6 0, .i 6 0, .i 6 0, .i 6 0, .i 6 0, .i 6 0, .i 6 0, .i 6 0, .i 6 0, .i 6 0, .i 6 0, .i 6 0, .i 6 0, .i 6 0, .i 6 0] [.mk 0 16 (.l 0)]),
    sPush (xBox 258 (.l 0)),
    sSet 2 (xMov (.l 0))]))
  cRet)),
  [.v (.f 2)], 1⟩
def m97 : List (Nat × Nat) := [(0, 0), (2, 1), (3, 2), (4, 3), (5, 4), (6, 5), (7, 6), (8, 7), (16, 8)]
/-- legate/route.isTwice[string] -/
noncomputable def u97 : Fu := ⟨(cSeq (cReg (regC [sSet 1 (xMov (.c (.c (.o (.b false)))))]))
  (cSeq (cSeq (cReg (regC [sSet 4 (xMov (.f 0)),
    sSet 5 (xLen (.f 4)),
    sSet 6 (xMov (.c (.c (.i 3 0))))]))
  (cBlock 0 (cLoop (cSeq (cReg (regC [sSet 7 (xBin (bLss 3 18446744073709551616 9223372036854775808) (.f 6) (.f 5))]))
  (cSeq (cCond (.f 7) cSkip (cExit 0))
  (cSeq (cBlock 1 (cSeq (cReg (regC [sPush (xIxS 1 (.f 4) (.f 6)),
    sPush (xLd1 (.l 0)),
    sSet 2 (xMov (.f 6)),
    sSet 3 (xMov (.l 0))]))
  (cSeq (cReg (regC [sPush (xCutL 1 (.f 0) none (some (.f 2))),
    sSet 8 (xCalF 56 [(.l 0), (.f 3)])]))
  (cCond (.f 8) (cSeq (cReg (regC [sSet 1 (xMov (.c (.c (.o (.b true)))))]))
  cRet) cSkip))))
  (cReg (regC [sPush (xBin (bAdd 3 18446744073709551616) (.f 6) (.c (.c (.i 3 1)))),
    sSet 6 (xMov (.l 0))]))))))))
  (cSeq (cReg (regC [sSet 1 (xMov (.c (.c (.o (.b false)))))]))
  cRet))),
  [.v (.f 1)], 1⟩
def m98 : List (Nat × Nat) := [(0, 0), (2, 1), (3, 2), (4, 3), (5, 4), (6, 5), (7, 6), (8, 7), (16, 8)]
/-- legate/route.isTwice[[2]string] -/
noncomputable def u98 : Fu := ⟨(cSeq (cReg (regC [sSet 1 (xMov (.c (.c (.o (.b false)))))]))
  (cSeq (cSeq (cReg (regC [sSet 4 (xMov (.f 0)),
    sSet 5 (xLen (.f 4)),
    sSet 6 (xMov (.c (.c (.i 3 0))))]))
  (cBlock 0 (cLoop (cSeq (cReg (regC [sSet 7 (xBin (bLss 3 18446744073709551616 9223372036854775808) (.f 6) (.f 5))]))
  (cSeq (cCond (.f 7) cSkip (cExit 0))
  (cSeq (cBlock 1 (cSeq (cReg (regC [sPush (xIxS 2 (.f 4) (.f 6)),
    sPush (xLdA 2 (.l 0)),
    sSet 3 (xAlc 156 [.o (.s []), .o (.s [])]),
    sSet 2 (xMov (.f 6)),
    sDo (xStA 2 (.f 3) (.l 0))]))
  (cSeq (cReg (regC [sPush (xCutL 2 (.f 0) none (some (.f 2))),
    sPush (xLdA 2 (.f 3)),
    sSet 8 (xCalF 139 [(.l 1), (.l 0)])]))
  (cCond (.f 8) (cSeq (cReg (regC [sSet 1 (xMov (.c (.c (.o (.b true)))))]))
  cRet) cSkip))))
  (cReg (regC [sPush (xBin (bAdd 3 18446744073709551616) (.f 6) (.c (.c (.i 3 1)))),
    sSet 6 (xMov (.l 0))]))))))))
  (cSeq (cReg (regC [sSet 1 (xMov (.c (.c (.o (.b false)))))]))
  cRet))),
  [.v (.f 1)], 1⟩
def m99 : List (Nat × Nat) := [(0, 0), (1, 1), (2, 2), (3, 3), (4, 4), (5, 5)]
/-- legate/route.isPath -/
noncomputable def u99 : Fu := ⟨(cSeq (cReg (regC [sSet 2 (xBox 72 (.f 0)),
    sSet 3 (xBox 210 (.f 1)),
    sSet 4 (xMov (.c (.c (.o (.b false)))))]))
  (cSeq (cReg (regC [sPush (xMkf 140 [] [(.f 2), (.f 3)]),
    sSet 5 (xMov (.l 0))]))
  (cSeq (cReg (regC [sPush (xFld (.f 2) 0),
    sPush (xLd1 (.l 0)),
    sPush (xFld (.f 3) 0),
    sPush (xLd1 (.l 0)),
    sPush (xCalF 56 [(.l 2), (.l 0)]),
    sIf (.l 0) true (sPush (xFld (.f 2) 0)) (sPush (xMov (.c udf))),
    sIf (.l 1) true (sPush (xLd1 (.l 0))) (sPush (xMov (.c udf))),
    sIf (.l 2) true (sPush (xFld (.f 3) 1)) (sPush (xMov (.c udf))),
    sIf (.l 3) true (sPush (xLd1 (.l 0))) (sPush (xMov (.c udf))),
    sIf (.l 4) true (sPush (xCalF 56 [(.l 2), (.l 0)])) (sPush (xMov (.c udf))),
    sPush (xPick (.l 5) (.l 0) (.c (.c (.o (.b false))))),
    sIf (.l 0) true (sPush (xFld (.f 3) 0)) (sPush (xMov (.c udf))),
    sIf (.l 1) true (sPush (xLd1 (.l 0))) (sPush (xMov (.c udf))),
    sIf (.l 2) true (sPush (xFld (.f 3) 1)) (sPush (xMov (.c udf))),
    sIf (.l 3) true (sPush (xLd1 (.l 0))) (sPush (xMov (.c udf))),
    sIf (.l 4) true (sPush (xBin (bNe 1) (.l 2) (.l 0))) (sPush (xMov (.c udf))),
    sPush (xPick (.l 5) (.l 0) (.c (.c (.o (.b false))))),
    sIf (.l 0) true (sPush (xFld (.f 3) 2)) (sPush (xMov (.c udf))),
    sIf (.l 1) true (sPush (xLd1 (.l 0))) (sPush (xMov (.c udf))),
    sIf (.l 2) true (sPush (xLen (.l 0))) (sPush (xMov (.c udf))),
    sIf (.l 3) true (sPush (xBin (bLeq 3 18446744073709551616 9223372036854775808) (.l 0) (.c (.c (.i 3 4))))) (sPush (xMov (.c udf))),
    sPush (xPick (.l 4) (.l 0) (.c (.c (.o (.b false))))),
    sIf (.l 0) true (sPush (xFld (.f 3) 2)) (sPush (xMov (.c udf))),
    sIf (.l 1) true (sPush (xLd1 (.l 0))) (sPush (xMov (.c udf))),
    sIf (.l 2) true (sPush (xCalF 97 [(.l 0)])) (sPush (xMov (.c udf))),
    sIf (.l 3) true (sPush (xNot (.l 0))) (sPush (xMov (.c udf))),
    sPush (xPick (.l 4) (.l 0) (.c (.c (.o (.b false))))),
    sIf (.l 0) true (sPush (xFld (.f 3) 2)) (sPush (xMov (.c udf))),
    sIf (.l 1) true (sPush (xLd1 (.l 0))) (sPush (xMov (.c udf))),
    sIf (.l 2) true (sPush (xMov (.f 5))) (sPush (xMov (.c udf))),
    sIf (.l 3) true (sPush (xCalF 102 [(.l 1), (.l 0)])) (sPush (xMov (.c udf))),
    sIf (.l 4) true (sPush (xNot (.l 0))) (sPush (xMov (.c udf))),
    sPush (xPick (.l 5) (.l 0) (.c (.c (.o (.b false))))),
    sSet 4 (xMov (.l 0))]))
  cRet))),
  [.v (.f 4)], 2⟩
def m100 : List (Nat × Nat) := [(0, 0), (1, 1), (2, 2), (3, 3)]
/-- legate/route.Is$1 -/
noncomputable def u100 : Fu := ⟨(cSeq (cReg (regC [sSet 2 (xBox 156 (.f 0)),
    sSet 3 (xMov (.c (.c (.o (.b false)))))]))
  (cSeq (cReg (regC [sPush (xFld (.f 1) 0),
    sPush (xLd1 (.l 0)),
    sPush (xIxA 2 1 (.f 2) (.c (.c (.i 3 0)))),
    sPush (xLd1 (.l 0)),
    sPush (xCalF 56 [(.l 2), (.l 0)]),
    sPush (xNot (.l 0)),
    sIf (.l 0) false (sPush (xFld (.f 1) 0)) (sPush (xMov (.c udf))),
    sIf (.l 1) false (sPush (xLd1 (.l 0))) (sPush (xMov (.c udf))),
    sIf (.l 2) false (sPush (xIxA 2 1 (.f 2) (.c (.c (.i 3 1))))) (sPush (xMov (.c udf))),
    sIf (.l 3) false (sPush (xLd1 (.l 0))) (sPush (xMov (.c udf))),
    sIf (.l 4) false (sPush (xCalF 56 [(.l 2), (.l 0)])) (sPush (xMov (.c udf))),
    sIf (.l 5) false (sPush (xNot (.l 0))) (sPush (xMov (.c udf))),
    sPush (xPick (.l 6) (.c (.c (.o (.b true)))) (.l 0)),
    sIf (.l 0) false (sPush (xIxA 2 1 (.f 2) (.c (.c (.i 3 0))))) (sPush (xMov (.c udf))),
    sIf (.l 1) false (sPush (xLd1 (.l 0))) (sPush (xMov (.c udf))),
    sIf (.l 2) false (sPush (xIxA 2 1 (.f 2) (.c (.c (.i 3 1))))) (sPush (xMov (.c udf))),
    sIf (.l 3) false (sPush (xLd1 (.l 0))) (sPush (xMov (.c udf))),
    sIf (.l 4) false (sPush (xBin (bEq 1) (.l 2) (.l 0))) (sPush (xMov (.c udf))),
    sPush (xPick (.l 5) (.c (.c (.o (.b true)))) (.l 0)),
    sSet 3 (xMov (.l 0))]))
  cRet)),
  [.v (.f 3)], 2⟩
def m101 : List (Nat × Nat) := [(0, 0), (1, 1), (4, 2)]
/-- slices.ContainsFunc[[][2]string,[2]string] -/
noncomputable def u101 : Fu := ⟨(cSeq (cReg (regC [sSet 2 (xMov (.c (.c (.o (.b false)))))]))
  (cSeq (cReg (regC [sPush (xCalF 141 [(.f 0), (.f 1)]),
    sPush (xBin (bGeq 3 18446744073709551616 9223372036854775808) (.l 0) (.c (.c (.i 3 0)))),
    sSet 2 (xMov (.l 0))]))
  cRet)),
  [.v (.f 2)], 2⟩
def m102 : List (Nat × Nat) := [(0, 0), (1, 1), (4, 2)]
/-- slices.ContainsFunc[[]string,string] -/
noncomputable def u102 : Fu := ⟨(cSeq (cReg (regC [sSet 2 (xMov (.c (.c (.o (.b false)))))]))
  (cSeq (cReg (regC [sPush (xCalF 142 [(.f 0), (.f 1)]),
    sPush (xBin (bGeq 3 18446744073709551616 9223372036854775808) (.l 0) (.c (.c (.i 3 0)))),
    sSet 2 (xMov (.l 0))]))
  cRet)),
  [.v (.f 2)], 2⟩
def m103 : List (Nat × Nat) := [(0, 0), (2, 1)]
/-- legate/route.Is$2 -/
noncomputable def u103 : Fu := ⟨(cSeq (cReg (regC [sSet 1 (xMov (.c (.c (.o (.b false)))))]))
  (cSeq (cReg (regC [sPush (xCalF 92 [(.f 0)]),
    sPush (xNot (.l 0)),
    sSet 1 (xMov (.l 0))]))
  cRet)),
  [.v (.f 1)], 1⟩
def m104 : List (Nat × Nat) := [(0, 0), (1, 1), (4, 2), (5, 3), (7, 4), (8, 5), (9, 6), (16, 7)]
/-- slices.Index[[]string,string] -/
noncomputable def u104 : Fu := ⟨(cSeq (cReg (regC [sSet 2 (xMov (.c (.c (.i 3 0))))]))
  (cSeq (cSeq (cReg (regC [sSet 4 (xLen (.f 0)),
    sSet 5 (xMov (.c (.c (.i 3 0))))]))
  (cBlock 0 (cLoop (cSeq (cReg (regC [sSet 6 (xBin (bLss 3 18446744073709551616 9223372036854775808) (.f 5) (.f 4))]))
  (cSeq (cCond (.f 6) cSkip (cExit 0))
  (cSeq (cBlock 1 (cSeq (cReg (regC [sSet 3 (xMov (.f 5))]))
  (cSeq (cReg (regC [sPush (xIxS 1 (.f 0) (.f 3)),
    sPush (xLd1 (.l 0)),
    sSet 7 (xBin (bEq 1) (.f 1) (.l 0))]))
  (cCond (.f 7) (cSeq (cReg (regC [sSet 2 (xMov (.f 3))]))
  cRet) cSkip))))
  (cReg (regC [sPush (xBin (bAdd 3 18446744073709551616) (.f 5) (.c (.c (.i 3 1)))),
    sSet 5 (xMov (.l 0))]))))))))
  (cSeq (cReg (regC [sSet 2 (xMov (.c (.c (.i 3 18446744073709551615))))]))
  cRet))),
  [.v (.f 2)], 2⟩
def m105 : List (Nat × Nat) := [(0, 0), (2, 1), (4, 2)]
/-- slices.Clone[[]string,string] -/
noncomputable def u105 : Fu := ⟨(cSeq (cReg (regC [sSet 1 (xMov (.c (.c (.o (.ns)))))]))
  (cSeq (cSeq (cReg (regC [sSet 2 (xBin (bEqN 1) (.f 0) (.c (.c (.o (.ns)))))]))
  (cCond (.f 2) (cSeq (cReg (regC [sSet 1 (xMov (.c (.c (.o (.ns)))))]))
  cRet) cSkip))
  (cSeq (cReg (regC [sPush (xBls 9 0 [] []),
    sPush (xApp 9 1 (.l 0) (.f 0)),
    sSet 1 (xMov (.l 0))]))
  cRet))),
  [.v (.f 1)], 1⟩
def m106 : List (Nat × Nat) := [(0, 0), (2, 1), (4, 2)]
/-- slices.Clone[[][2]string,[2]string] -/
noncomputable def u106 : Fu := ⟨(cSeq (cReg (regC [sSet 1 (xMov (.c (.c (.o (.ns)))))]))
  (cSeq (cSeq (cReg (regC [sSet 2 (xBin (bEqN 1) (.f 0) (.c (.c (.o (.ns)))))]))
  (cCond (.f 2) (cSeq (cReg (regC [sSet 1 (xMov (.c (.c (.o (.ns)))))]))
  cRet) cSkip))
  (cSeq (cReg (regC [sPush (xBls 156 0 [] []),
    sPush (xApp 156 2 (.l 0) (.f 0)),
    sSet 1 (xMov (.l 0))]))
  cRet))),
  [.v (.f 1)], 1⟩
def m107 : List (Nat × Nat) := [(0, 0), (2, 1), (4, 2)]
/-- slices.Clone[[]legate/api.Path,legate/api.Path] -/
noncomputable def u107 : Fu := ⟨(cSeq (cReg (regC [sSet 1 (xMov (.c (.c (.o (.ns)))))]))
  (cSeq (cSeq (cReg (regC [sSet 2 (xBin (bEqN 1) (.f 0) (.c (.c (.o (.ns)))))]))
  (cCond (.f 2) (cSeq (cReg (regC [sSet 1 (xMov (.c (.c (.o (.ns)))))]))
  cRet) cSkip))
  (cSeq (cReg (regC [sPush (xBls 210 0 [] []),
    sPush (xApp 210 3 (.l 0) (.f 0)),
    sSet 1 (xMov (.l 0))]))
  cRet))),
  [.v (.f 1)], 1⟩
def m108 : List (Nat × Nat) := [(0, 0), (2, 1), (3, 2), (7, 3), (26, 4)]
/-- legate/legateref7.realms -/
noncomputable def u108 : Fu := ⟨(cSeq (cReg (regC [sSet 1 (xMov (.c (.c (.o (.b false)))))]))
  (cSeq (cSeq (cReg (regC [sSet 2 (xMov (.c (.c (.i 3 0))))]))
  (cBlock 0 (cLoop (cSeq (cSeq (cReg (regC [sPush (xLen (.f 0)),
    sSet 3 (xBin (bLss 3 18446744073709551616 9223372036854775808) (.f 2) (.l 0))]))
  (cCond (.f 3) cSkip (cExit 0)))
  (cSeq (cBlock 1 (cSeq (cReg (regC [sPush (xIxS 1 (.f 0) (.f 2)),
    sPush (xLd1 (.l 0)),
    sPush (xCalF 42 [(.l 0)]),
    sPush (xNot (.l 0)),
    sIf (.l 0) false (sPush (xMov (.f 0))) (sPush (xMov (.c udf))),
    sIf (.l 1) false (sPush (xMov (.f 2))) (sPush (xMov (.c udf))),
    sIf (.l 2) false (sPush (xCutL 1 (.l 1) none (some (.l 0)))) (sPush (xMov (.c udf))),
    sIf (.l 3) false (sPush (xMov (.f 0))) (sPush (xMov (.c udf))),
    sIf (.l 4) false (sPush (xMov (.f 2))) (sPush (xMov (.c udf))),
    sIf (.l 5) false (sPush (xIxS 1 (.l 1) (.l 0))) (sPush (xMov (.c udf))),
    sIf (.l 6) false (sPush (xLd1 (.l 0))) (sPush (xMov (.c udf))),
    sIf (.l 7) false (sPush (xCalF 60 [(.l 4), (.l 0)])) (sPush (xMov (.c udf))),
    sIf (.l 8) false (sPush (xBin (bGeq 3 18446744073709551616 9223372036854775808) (.l 0) (.c (.c (.i 3 0))))) (sPush (xMov (.c udf))),
    sSet 4 (xPick (.l 9) (.c (.c (.o (.b true)))) (.l 0))]))
  (cCond (.f 4) (cSeq (cReg (regC [sSet 1 (xMov (.c (.c (.o (.b false)))))]))
  cRet) cSkip)))
  (cReg (regC [sPush (xBin (bAdd 3 18446744073709551616) (.f 2) (.c (.c (.i 3 1)))),
    sSet 2 (xMov (.l 0))])))))))
  (cSeq (cReg (regC [sPush (xLen (.f 0)),
    sPush (xBin (bGeq 3 18446744073709551616 9223372036854775808) (.l 0) (.c (.c (.i 3 1)))),
    sIf (.l 0) true (sPush (xMov (.f 0))) (sPush (xMov (.c udf))),
    sIf (.l 1) true (sPush (xLen (.l 0))) (sPush (xMov (.c udf))),
    sIf (.l 2) true (sPush (xBin (bLeq 3 18446744073709551616 9223372036854775808) (.l 0) (.c (.c (.i 3 6))))) (sPush (xMov (.c udf))),
    sPush (xPick (.l 3) (.l 0) (.c (.c (.o (.b false))))),
    sSet 1 (xMov (.l 0))]))
  cRet))),
  [.v (.f 1)], 1⟩
def m109 : List (Nat × Nat) := [(0, 0), (1, 1), (2, 2), (3, 3), (4, 4), (5, 5), (32, 6), (37, 7), (81, 8)]
/-- legate/legateref7.path -/
noncomputable def u109 : Fu := ⟨(cSeq (cReg (regC [sSet 2 (xBox 72 (.f 0)),
    sSet 3 (xBox 210 (.f 1)),
    sSet 4 (xMov (.c (.c (.o (.b false)))))]))
  (cSeq (cSeq (cReg (regC [sPush (xFld (.f 2) 0),
    sPush (xLd1 (.l 0)),
    sPush (xFld (.f 3) 0),
    sPush (xLd1 (.l 0)),
    sPush (xCalF 60 [(.l 2), (.l 0)]),
    sPush (xBin (bLss 3 18446744073709551616 9223372036854775808) (.l 0) (.c (.c (.i 3 0)))),
    sIf (.l 0) false (sPush (xFld (.f 2) 0)) (sPush (xMov (.c udf))),
    sIf (.l 1) false (sPush (xLd1 (.l 0))) (sPush (xMov (.c udf))),
    sIf (.l 2) false (sPush (xFld (.f 3) 1)) (sPush (xMov (.c udf))),
    sIf (.l 3) false (sPush (xLd1 (.l 0))) (sPush (xMov (.c udf))),
    sIf (.l 4) false (sPush (xCalF 60 [(.l 2), (.l 0)])) (sPush (xMov (.c udf))),
    sIf (.l 5) false (sPush (xBin (bLss 3 18446744073709551616 9223372036854775808) (.l 0) (.c (.c (.i 3 0))))) (sPush (xMov (.c udf))),
    sPush (xPick (.l 6) (.c (.c (.o (.b true)))) (.l 0)),
    sIf (.l 0) false (sPush (xFld (.f 3) 0)) (sPush (xMov (.c udf))),
    sIf (.l 1) false (sPush (xLd1 (.l 0))) (sPush (xMov (.c udf))),
    sIf (.l 2) false (sPush (xFld (.f 3) 1)) (sPush (xMov (.c udf))),
    sIf (.l 3) false (sPush (xLd1 (.l 0))) (sPush (xMov (.c udf))),
    sIf (.l 4) false (sPush (xBin (bEq 1) (.l 2) (.l 0))) (sPush (xMov (.c udf))),
    sPush (xPick (.l 5) (.c (.c (.o (.b true)))) (.l 0)),
    sIf (.l 0) false (sPush (xFld (.f 3) 2)) (sPush (xMov (.c udf))),
    sIf (.l 1) false (sPush (xLd1 (.l 0))) (sPush (xMov (.c udf))),
    sIf (.l 2) false (sPush (xLen (.l 0))) (sPush (xMov (.c udf))),
    sIf (.l 3) false (sPush (xBin (bGtr 3 18446744073709551616 9223372036854775808) (.l 0) (.c (.c (.i 3 4))))) (sPush (xMov (.c udf))),
    sSet 6 (xPick (.l 4) (.c (.c (.o (.b true)))) (.l 0))]))
  (cCond (.f 6) (cSeq (cReg (regC [sSet 4 (xMov (.c (.c (.o (.b false)))))]))
  cRet) cSkip))
  (cSeq (cSeq (cReg (regC [sSet 5 (xMov (.c (.c (.i 3 0))))]))
  (cBlock 0 (cLoop (cSeq (cSeq (cReg (regC [sPush (xFld (.f 3) 2),
    sPush (xLd1 (.l 0)),
    sPush (xLen (.l 0)),
    sSet 7 (xBin (bLss 3 18446744073709551616 9223372036854775808) (.f 5) (.l 0))]))
  (cCond (.f 7) cSkip (cExit 0)))
  (cSeq (cBlock 1 (cSeq (cReg (regC [sPush (xFld (.f 2) 0),
    sPush (xLd1 (.l 0)),
    sPush (xFld (.f 3) 2),
    sPush (xLd1 (.l 0)),
    sPush (xIxS 1 (.l 0) (.f 5)),
    sPush (xLd1 (.l 0)),
    sPush (xCalF 60 [(.l 4), (.l 0)]),
    sPush (xBin (bLss 3 18446744073709551616 9223372036854775808) (.l 0) (.c (.c (.i 3 0)))),
    sIf (.l 0) false (sPush (xFld (.f 3) 2)) (sPush (xMov (.c udf))),
    sIf (.l 1) false (sPush (xLd1 (.l 0))) (sPush (xMov (.c udf))),
    sIf (.l 2) false (sPush (xMov (.f 5))) (sPush (xMov (.c udf))),
    sIf (.l 3) false (sPush (xCutL 1 (.l 1) none (some (.l 0)))) (sPush (xMov (.c udf))),
    sIf (.l 4) false (sPush (xFld (.f 3) 2)) (sPush (xMov (.c udf))),
    sIf (.l 5) false (sPush (xLd1 (.l 0))) (sPush (xMov (.c udf))),
    sIf (.l 6) false (sPush (xMov (.f 5))) (sPush (xMov (.c udf))),
    sIf (.l 7) false (sPush (xIxS 1 (.l 1) (.l 0))) (sPush (xMov (.c udf))),
    sIf (.l 8) false (sPush (xLd1 (.l 0))) (sPush (xMov (.c udf))),
    sIf (.l 9) false (sPush (xCalF 60 [(.l 5), (.l 0)])) (sPush (xMov (.c udf))),
    sIf (.l 10) false (sPush (xBin (bGeq 3 18446744073709551616 9223372036854775808) (.l 0) (.c (.c (.i 3 0))))) (sPush (xMov (.c udf))),
    sPush (xPick (.l 11) (.c (.c (.o (.b true)))) (.l 0)),
    sIf (.l 0) false (sPush (xFld (.f 3) 2)) (sPush (xMov (.c udf))),
    sIf (.l 1) false (sPush (xLd1 (.l 0))) (sPush (xMov (.c udf))),
    sIf (.l 2) false (sPush (xMov (.f 5))) (sPush (xMov (.c udf))),
    sIf (.l 3) false (sPush (xIxS 1 (.l 1) (.l 0))) (sPush (xMov (.c udf))),
    sIf (.l 4) false (sPush (xLd1 (.l 0))) (sPush (xMov (.c udf))),
    sIf (.l 5) false (sPush (xFld (.f 3) 0)) (sPush (xMov (.c udf))),
    sIf (.l 6) false (sPush (xLd1 (.l 0))) (sPush (xMov (.c udf))),
    sIf (.l 7) false (sPush (xBin (bEq 1) (.l 2) (.l 0))) (sPush (xMov (.c udf))),
    sPush (xPick (.l 8) (.c (.c (.o (.b true)))) (.l 0)),
    sIf (.l 0) false (sPush (xFld (.f 3) 2)) (sPush (xMov (.c udf))),
    sIf (.l 1) false (sPush (xLd1 (.l 0))) (sPush (xMov (.c udf))),
    sIf (.l 2) false (sPush (xMov (.f 5))) (sPush (xMov (.c udf))),
    sIf (.l 3) false (sPush (xIxS 1 (.l 1) (.l 0))) (sPush (xMov (.c udf))),
    sIf (.l 4) false (sPush (xLd1 (.l 0))) (sPush (xMov (.c udf))),
    sIf (.l 5) false (sPush (xFld (.f 3) 1)) (sPush (xMov (.c udf))),
    sIf (.l 6) false (sPush (xLd1 (.l 0))) (sPush (xMov (.c udf))),
    sIf (.l 7) false (sPush (xBin (bEq 1) (.l 2) (.l 0))) (sPush (xMov (.c udf))),
    sSet 8 (xPick (.l 8) (.c (.c (.o (.b true)))) (.l 0))]))
  (cCond (.f 8) (cSeq (cReg (regC [sSet 4 (xMov (.c (.c (.o (.b false)))))]))
  cRet) cSkip)))
  (cReg (regC [sPush (xBin (bAdd 3 18446744073709551616) (.f 5) (.c (.c (.i 3 1)))),
    sSet 5 (xMov (.l 0))])))))))
  (cSeq (cReg (regC [sSet 4 (xMov (.c (.c (.o (.b true)))))]))
  cRet)))),
  [.v (.f 4)], 2⟩
def m110 : List (Nat × Nat) := [(0, 0), (1, 1), (2, 2), (3, 3), (4, 4), (5, 5), (6, 6), (8, 7)]
/-- legate/legateref4.halves -/
noncomputable def u110 : Fu := ⟨(cSeq (cReg (regC [sSet 1 (xBox 29 (.f 0)),
    sSet 2 (xAlc 204 [.i 4 0, .i 4 0, .i 4 0, .i 4 0, .i 4 0, .i 4 0, .i 4 0, .i 4 0, .i 4 0, .i 4 0, .i 4 0, .i 4 0, .i 4 0, .i 4 0, .i 4 0, .i 4 0]),
    sSet 3 (xAlc 204 [.i 4 0, .i 4 0, .i 4 0, .i 4 0, .i 4 0, .i 4 0, .i 4 0, .i 4 0, .i 4 0, .i 4 0, .i 4 0, .i 4 0, .i 4 0, .i 4 0, .i 4 0, .i 4 0])]))
  (cSeq (cReg (regC [sSet 4 (xAlc 204 [.i 4 0, .i 4 0, .i 4 0, .i 4 0, .i 4 0, .i 4 0, .i 4 0, .i 4 0, .i 4 0, .i 4 0, .i 4 0, .i 4 0, .i 4 0, .i 4 0, .i 4 0, .i 4 0]),
    sSet 5 (xAlc 204 [.i 4 0, .i 4 0, .i 4 0, .i 4 0, .i 4 0, .i 4 0, .i 4 0, .i 4 0, .i 4 0, .i 4 0, .i 4 0, .i 4 0, .i 4 0, .i 4 0, .i 4 0, .i 4 0])]))
  (cSeq (cSeq (cReg (regC [sSet 6 (xMov (.c (.c (.i 3 0))))]))
  (cBlock 0 (cLoop (cSeq (cSeq (cReg (regC [sSet 7 (xBin (bLss 3 18446744073709551616 9223372036854775808) (.f 6) (.c (.c (.i 3 16))))]))
  (cCond (.f 7) cSkip (cExit 0)))
  (cSeq (cBlock 1 (cReg (regC [sPush (xIxA 32 1 (.f 1) (.f 6)),
    sPush (xLd1 (.l 0)),
    sPush (xBin (bAdd 3 18446744073709551616) (.c (.c (.i 3 16))) (.f 6)),
    sPush (xIxA 32 1 (.f 1) (.l 0)),
    sPush (xLd1 (.l 0)),
    sPush (xIxA 16 1 (.f 4) (.f 6)),
    sDo (xSt1 (.l 0) (.l 4)),
    sAg (.l 1) (xLd1 (.l 2)),
    sPush (xIxA 16 1 (.f 5) (.f 6)),
    sDo (xSt1 (.l 0) (.l 2))])))
  (cReg (regC [sPush (xBin (bAdd 3 18446744073709551616) (.f 6) (.c (.c (.i 3 1)))),
    sSet 6 (xMov (.l 0))])))))))
  (cSeq (cReg (regC [sPush (xLdA 16 (.f 4)),
    sPush (xLdA 16 (.f 5)),
    sDo (xStA 16 (.f 2) (.l 1)),
    sAg (.l 0) (xLdA 16 (.f 5)),
    sDo (xStA 16 (.f 3) (.l 0))]))
  cRet)))),
  [.cn (.f 2) 16, .cn (.f 3) 16], 1⟩
def m111 : List (Nat × Nat) := [(0, 0), (1, 1), (2, 2), (3, 3), (6, 4), (7, 5), (8, 6), (9, 7), (10, 8), (14, 9)]
/-- legate/legateref2.Stream -/
noncomputable def u111 : Fu := ⟨(cSeq (cReg (regC [sSet 3 (xBox 222 (.f 0)),
    sSet 4 (xMov (.c (.c (.o (.ns)))))]))
  (cSeq (cReg (regC [sSet 5 (xMov (.c (.c (.o (.ns)))))]))
  (cSeq (cSeq (cReg (regC [sSet 6 (xMov (.c (.c (.i 3 0))))]))
  (cBlock 0 (cLoop (cSeq (cSeq (cReg (regC [sPush (xLen (.f 5)),
    sSet 9 (xBin (bLss 3 18446744073709551616 9223372036854775808) (.l 0) (.f 2))]))
  (cCond (.f 9) cSkip (cExit 0)))
  (cSeq (cBlock 1 (cSeq (cReg (regC [sPush (xLdA 27 (.f 3)),
    sPush (xBin (bShr 7 18446744073709551616) (.f 1) (.c (.c (.i 7 32)))),
    sPush (xCvi 7 18446744073709551616 18446744073709551616 6 4294967296 (.l 0)),
    sPush (xCvi 7 18446744073709551616 18446744073709551616 6 4294967296 (.f 1)),
    sPush (xCvi 3 18446744073709551616 9223372036854775808 6 4294967296 (.f 6)),
    sPush (xBin (bAdd 6 4294967296) (.l 1) (.l 0)),
    sPush (xCalF 143 [(.l 5), (.l 3), (.l 0)]),
    sPush (xExt (.l 0) 0),
    sPush (xExt (.l 1) 1),
    sSet 7 (xMov (.l 1)),
    sSet 8 (xMov (.l 0))]))
  (cReg (regC [sPush (xCvi 6 4294967296 4294967296 4 256 (.f 7)),
    sPush (xBin (bShr 6 4294967296) (.f 7) (.c (.c (.i 7 8)))),
    sPush (xCvi 6 4294967296 4294967296 4 256 (.l 0)),
    sPush (xBin (bShr 6 4294967296) (.f 7) (.c (.c (.i 7 16)))),
    sPush (xCvi 6 4294967296 4294967296 4 256 (.l 0)),
    sPush (xBin (bShr 6 4294967296) (.f 7) (.c (.c (.i 7 24)))),
    sPush (xCvi 6 4294967296 4294967296 4 256 (.l 0)),
    sPush (xCvi 6 4294967296 4294967296 4 256 (.f 8)),
    sPush (xBin (bShr 6 4294967296) (.f 8) (.c (.c (.i 7 8)))),
    sPush (xCvi 6 4294967296 4294967296 4 256 (.l 0)),
    sPush (xBin (bShr 6 4294967296) (.f 8) (.c (.c (.i 7 16)))),
    sPush (xCvi 6 4294967296 4294967296 4 256 (.l 0)),
    sPush (xBin (bShr 6 4294967296) (.f 8) (.c (.c (.i 7 24)))),
    sPush (xCvi 6 4294967296 4294967296 4 256 (.l 0)),
    sPush (xBls 5 8 [.i 4 0, .i 4 0, .i 4 0, .i 4 0, .i 4 0, .i 4 0, .i 4 0, .i 4 0] [.mk 0 1 (.l 13), .mk 1 1 (.l 11), .mk 2 1 (.l 9), .mk 3 1 (.l 7), .mk 4 1 (.l 6), .mk 5 1 (.l 4), .mk 6 1 (.l 2), .mk 7 1 (.l 0)]),
    sPush (xApp 5 1 (.f 5) (.l 0)),
    sSet 5 (xMov (.l 0))]))))
  (cReg (regC [sPush (xBin (bAdd 3 18446744073709551616) (.f 6) (.c (.c (.i 3 1)))),
    sSet 6 (xMov (.l 0))])))))))
  (cSeq (cReg (regC [sPush (xBin (bMax 3 18446744073709551616 9223372036854775808) (.f 2) (.c (.c (.i 3 0)))),
    sPush (xCutL 1 (.f 5) none (some (.l 0))),
    sSet 4 (xMov (.l 0))]))
  cRet)))),
  [.v (.f 4)], 3⟩
def m112 : List (Nat × Nat) := [(0, 0), (1, 1), (2, 2), (3, 3), (4, 4), (5, 5), (6, 6), (7, 7), (9, 8), (40, 9)]
/-- legate/legateref2.Words -/
noncomputable def u112 : Fu := ⟨(cSeq (cReg (regC [sSet 1 (xBox 204 (.f 0)),
    sSet 2 (xAlc 222 [.i 6 0, .i 6 0, .i 6 0, .i 6 0, .i 6 0, .i 6 0, .i 6 0, .i 6 0, .i 6 0, .i 6 0, .i 6 0, .i 6 0, .i 6 0, .i 6 0, .i 6 0, .i 6 0, .i 6 0, .i 6 0, .i 6 0, .i 6 0, .i 6 0, .i 6 0, .i 6 0, .i 6 0, .i 6 0, .i 6 0, .i 6 0])]))
  (cSeq (cReg (regC [sSet 3 (xAlc 264 [.i 6 0, .i 6 0, .i 6 0, .i 6 0])]))
  (cSeq (cSeq (cReg (regC [sSet 4 (xMov (.c (.c (.i 3 0))))]))
  (cBlock 0 (cLoop (cSeq (cSeq (cReg (regC [sSet 8 (xBin (bLss 3 18446744073709551616 9223372036854775808) (.f 4) (.c (.c (.i 3 16))))]))
  (cCond (.f 8) cSkip (cExit 0)))
  (cSeq (cBlock 1 (cReg (regC [sPush (xBin (bQuo 3 9223372036854775808) (.f 4) (.c (.c (.i 3 4)))),
    sPush (xBin (bQuo 3 9223372036854775808) (.f 4) (.c (.c (.i 3 4)))),
    sPush (xIxA 4 1 (.f 3) (.l 0)),
    sPush (xLd1 (.l 0)),
    sPush (xIxA 16 1 (.f 1) (.f 4)),
    sPush (xLd1 (.l 0)),
    sPush (xCvi 4 256 256 6 4294967296 (.l 0)),
    sPush (xBin (bRem 3 9223372036854775808) (.f 4) (.c (.c (.i 3 4)))),
    sPush (xBin (bMul 3 18446744073709551616) (.c (.c (.i 3 8))) (.l 0)),
    sPush (xCvi 3 18446744073709551616 9223372036854775808 7 18446744073709551616 (.l 0)),
    sPush (xBin (bShl 6 4294967296) (.l 3) (.l 0)),
    sPush (xBin (bOr 6) (.l 7) (.l 0)),
    sPush (xIxA 4 1 (.f 3) (.l 11)),
    sDo (xSt1 (.l 0) (.l 1))])))
  (cReg (regC [sPush (xBin (bAdd 3 18446744073709551616) (.f 4) (.c (.c (.i 3 1)))),
    sSet 4 (xMov (.l 0))])))))))
  (cSeq (cReg (regC [sSet 5 (xAlc 222 [.i 6 0, .i 6 0, .i 6 0, .i 6 0, .i 6 0, .i 6 0, .i 6 0, .i 6 0, .i 6 0, .i 6 0, .i 6 0, .i 6 0, .i 6 0, .i 6 0, .i 6 0, .i 6 0, .i 6 0, .i 6 0, .i 6 0, .i 6 0, .i 6 0, .i 6 0, .i 6 0, .i 6 0, .i 6 0, .i 6 0, .i 6 0])]))
  (cSeq (cReg (regC [sPush (xIxA 4 1 (.f 3) (.c (.c (.i 3 1)))),
    sPush (xLd1 (.l 0)),
    sPush (xIxA 4 1 (.f 3) (.c (.c (.i 3 2)))),
    sPush (xLd1 (.l 0)),
    sPush (xIxA 4 1 (.f 3) (.c (.c (.i 3 3)))),
    sPush (xLd1 (.l 0)),
    sPush (xBls 221 3 [.i 6 0, .i 6 0, .i 6 0] [.mk 0 1 (.l 4), .mk 1 1 (.l 2), .mk 2 1 (.l 0)]),
    sSet 6 (xMov (.l 0))]))
  (cSeq (cReg (regC [sPush (xIxA 4 1 (.f 3) (.c (.c (.i 3 0)))),
    sPush (xLd1 (.l 0)),
    sPush (xIxA 27 1 (.f 5) (.c (.c (.i 3 0)))),
    sDo (xSt1 (.l 0) (.l 1))]))
  (cSeq (cSeq (cReg (regC [sSet 7 (xMov (.c (.c (.i 3 0))))]))
  (cBlock 2 (cLoop (cSeq (cSeq (cReg (regC [sSet 9 (xBin (bLss 3 18446744073709551616 9223372036854775808) (.f 7) (.c (.c (.i 3 26))))]))
  (cCond (.f 9) cSkip (cExit 2)))
  (cSeq (cBlock 3 (cSeq (cReg (regC [sPush (xIxA 27 1 (.f 5) (.f 7)),
    sPush (xLd1 (.l 0)),
    sPush (xIxS 1 (.f 6) (.f 7)),
    sPush (xLd1 (.l 0)),
    sPush (xCvi 3 18446744073709551616 9223372036854775808 6 4294967296 (.f 7)),
    sPush (xCalF 144 [(.l 1), (.c (.c (.i 7 8)))]),
    sAg (.l 4) (xLd1 (.l 5)),
    sPush (xBin (bAdd 6 4294967296) (.l 4) (.l 0)),
    sPush (xBin (bXor 6) (.l 0) (.l 2)),
    sPush (xBld [.i 6 0] [.mk 0 1 (.l 0)]),
    sPush (xMkl 221 1 (.l 0)),
    sPush (xApp 221 1 (.f 6) (.l 0)),
    sSet 6 (xMov (.l 0))]))
  (cReg (regC [sPush (xBin (bAdd 3 18446744073709551616) (.f 7) (.c (.c (.i 3 1)))),
    sPush (xIxA 27 1 (.f 5) (.f 7)),
    sPush (xLd1 (.l 0)),
    sPush (xBin (bAdd 3 18446744073709551616) (.f 7) (.c (.c (.i 3 3)))),
    sPush (xIxS 1 (.f 6) (.l 0)),
    sPush (xLd1 (.l 0)),
    sPush (xCalF 145 [(.l 3), (.c (.c (.i 7 3)))]),
    sAg (.l 1) (xLd1 (.l 2)),
    sPush (xBin (bXor 6) (.l 0) (.l 1)),
    sPush (xIxA 27 1 (.f 5) (.l 7)),
    sDo (xSt1 (.l 0) (.l 1))]))))
  (cReg (regC [sPush (xBin (bAdd 3 18446744073709551616) (.f 7) (.c (.c (.i 3 1)))),
    sSet 7 (xMov (.l 0))])))))))
  (cSeq (cReg (regC [sPush (xLdA 27 (.f 5)),
    sDo (xStA 27 (.f 2) (.l 0))]))
  cRet)))))))),
  [.cn (.f 2) 27], 1⟩
def m113 : List (Nat × Nat) := [(0, 0), (1, 1), (2, 2), (4, 3), (5, 4), (6, 5), (7, 6), (8, 7), (9, 8), (28, 9), (60, 10)]
/-- legate/legateref3.Sum -/
noncomputable def u113 : Fu := ⟨(cSeq (cReg (regC [sSet 2 (xBox 204 (.f 0)),
    sSet 3 (xMov (.c (.c (.i 7 0))))]))
  (cSeq (cReg (regC [sPush (xCutA 16 1 (.f 2) none (some (.c (.c (.i 3 8))))),
    sPush (xCutA 16 1 (.f 2) (some (.c (.c (.i 3 8)))) none),
    sPush (xCalF 146 [(.l 1)]),
    sPush (xCalF 146 [(.l 1)]),
    sSet 4 (xMov (.l 1)),
    sSet 5 (xMov (.l 0))]))
  (cSeq (cReg (regC [sPush (xBin (bXor 7) (.c (.c (.i 7 8317987319222330741))) (.f 4)),
    sPush (xBin (bXor 7) (.c (.c (.i 7 7237128888997146477))) (.f 5)),
    sPush (xBin (bXor 7) (.c (.c (.i 7 7816392313619706465))) (.f 4)),
    sPush (xBin (bXor 7) (.c (.c (.i 7 8387220255154660723))) (.f 5)),
    sPush (xBld [.i 7 0, .i 7 0, .i 7 0, .i 7 0] [.mk 0 1 (.l 3), .mk 1 1 (.l 2), .mk 2 1 (.l 1), .mk 3 1 (.l 0)]),
    sPush (xBox 270 (.l 0)),
    sSet 6 (xMov (.l 0))]))
  (cSeq (cReg (regC [sSet 7 (xMov (.c (.c (.i 3 0))))]))
  (cSeq (cBlock 0 (cLoop (cSeq (cSeq (cReg (regC [sPush (xLen (.f 1)),
    sPush (xBin (bSub 3 18446744073709551616) (.l 0) (.f 7)),
    sSet 9 (xBin (bGeq 3 18446744073709551616 9223372036854775808) (.l 0) (.c (.c (.i 3 8))))]))
  (cCond (.f 9) cSkip (cExit 0)))
  (cBlock 1 (cSeq (cReg (regC [sPush (xBin (bAdd 3 18446744073709551616) (.f 7) (.c (.c (.i 3 8)))),
    sPush (xCutL 1 (.f 1) (some (.f 7)) (some (.l 0))),
    sPush (xCalF 146 [(.l 0)]),
    sPush (xCalF 147 [(.f 6), (.l 0)])]))
  (cReg (regC [sPush (xBin (bAdd 3 18446744073709551616) (.f 7) (.c (.c (.i 3 8)))),
    sSet 7 (xMov (.l 0))])))))))
  (cSeq (cReg (regC [sPush (xCutL 1 (.f 1) (some (.f 7)) none),
    sPush (xCalF 146 [(.l 0)]),
    sPush (xLen (.f 1)),
    sPush (xBin (bAnd 3) (.l 0) (.c (.c (.i 3 255)))),
    sPush (xCvi 3 18446744073709551616 9223372036854775808 7 18446744073709551616 (.l 0)),
    sPush (xBin (bShl 7 18446744073709551616) (.l 0) (.c (.c (.i 7 56)))),
    sPush (xBin (bOr 7) (.l 4) (.l 0)),
    sPush (xCalF 147 [(.f 6), (.l 0)])]))
  (cSeq (cReg (regC [sPush (xChk (.f 6)),
    sPush (xIxA 4 1 (.l 0) (.c (.c (.i 3 2)))),
    sPush (xLd1 (.l 0)),
    sPush (xBin (bXor 7) (.l 0) (.c (.c (.i 7 255)))),
    sPush (xChk (.f 6)),
    sPush (xIxA 4 1 (.l 0) (.c (.c (.i 3 2)))),
    sDo (xSt1 (.l 0) (.l 2))]))
  (cSeq (cSeq (cReg (regC [sSet 8 (xMov (.c (.c (.i 3 0))))]))
  (cBlock 2 (cLoop (cSeq (cSeq (cReg (regC [sSet 10 (xBin (bLss 3 18446744073709551616 9223372036854775808) (.f 8) (.c (.c (.i 3 4))))]))
  (cCond (.f 10) cSkip (cExit 2)))
  (cSeq (cBlock 3 (cReg (regC [sPush (xCalF 148 [(.f 6)])])))
  (cReg (regC [sPush (xBin (bAdd 3 18446744073709551616) (.f 8) (.c (.c (.i 3 1)))),
    sSet 8 (xMov (.l 0))])))))))
  (cSeq (cReg (regC [sPush (xChk (.f 6)),
    sPush (xIxA 4 1 (.l 0) (.c (.c (.i 3 0)))),
    sPush (xLd1 (.l 0)),
    sPush (xChk (.f 6)),
    sPush (xIxA 4 1 (.l 0) (.c (.c (.i 3 1)))),
    sPush (xLd1 (.l 0)),
    sPush (xBin (bXor 7) (.l 3) (.l 0)),
    sPush (xChk (.f 6)),
    sPush (xIxA 4 1 (.l 0) (.c (.c (.i 3 2)))),
    sPush (xLd1 (.l 0)),
    sPush (xBin (bXor 7) (.l 3) (.l 0)),
    sPush (xChk (.f 6)),
    sPush (xIxA 4 1 (.l 0) (.c (.c (.i 3 3)))),
    sPush (xLd1 (.l 0)),
    sPush (xBin (bXor 7) (.l 3) (.l 0)),
    sSet 3 (xMov (.l 0))]))
  cRet))))))))),
  [.v (.f 3)], 2⟩
def m114 : List (Nat × Nat) := [(0, 0), (1, 1), (2, 2), (4, 3), (6, 4), (7, 5), (8, 6), (9, 7), (10, 8), (24, 9)]
/-- legate/msg.again[legate/api.Msg] -/
noncomputable def u114 : Fu := ⟨(cSeq (cReg (regC [sSet 3 (xBox 60 (.f 1)),
    sSet 4 (xAlc 60 [.i 3 0, .o (.s []), .o (.s []), .o (.s []), .o (.s []), .i 3 0, .i 3 0, .o (.s []), .o (.s []), .i 3 0, .o (.ns), .o (.ns), .o (.s []), .o (.s []), .i 3 0, .i 3 0, .o (.s []), .o (.s []), .o (.s []), .o (.s []), .i 3 0, .o (.ns), .o (.ns), .o (.s []), .o (.s []), .i 3 0, .o (.ns), .o (.ns), .i 3 0, .i 3 0]),
    sSet 5 (xMov (.c (.c (.i 3 0))))]))
  (cSeq (cReg (regC [sSet 6 (xAlc 60 [.i 3 0, .o (.s []), .o (.s []), .o (.s []), .o (.s []), .i 3 0, .i 3 0, .o (.s []), .o (.s []), .i 3 0, .o (.ns), .o (.ns), .o (.s []), .o (.s []), .i 3 0, .i 3 0, .o (.s []), .o (.s []), .o (.s []), .o (.s []), .i 3 0, .o (.ns), .o (.ns), .o (.s []), .o (.s []), .i 3 0, .o (.ns), .o (.ns), .i 3 0, .i 3 0])]))
  (cSeq (cReg (regC [sPush (xLdA 30 (.f 3)),
    sPush (xCal (.f 2) [(.l 0)]),
    sPush (xExt (.l 0) 0),
    sPush (xExt (.l 1) 1),
    sSet 7 (xMov (.l 1)),
    sSet 8 (xMov (.l 0))]))
  (cSeq (cSeq (cReg (regC [sPush (xBin (bNe 0) (.f 8) (.c (.c (.i 3 0)))),
    sIf (.l 0) false (sPush (xMov (.f 7))) (sPush (xMov (.c udf))),
    sIf (.l 1) false (sPush (xMov (.f 0))) (sPush (xMov (.c udf))),
    sIf (.l 2) false (sPush (xCalF 149 [(.l 1), (.l 0)])) (sPush (xMov (.c udf))),
    sIf (.l 3) false (sPush (xNot (.l 0))) (sPush (xMov (.c udf))),
    sSet 9 (xPick (.l 4) (.c (.c (.o (.b true)))) (.l 0))]))
  (cCond (.f 9) (cSeq (cReg (regC [sPush (xLdA 30 (.f 6)),
    sDo (xStA 30 (.f 4) (.l 0)),
    sSet 5 (xMov (.c (.c (.i 3 2))))]))
  cRet) cSkip))
  (cSeq (cReg (regC [sPush (xLdA 30 (.f 3)),
    sDo (xStA 30 (.f 4) (.l 0)),
    sSet 5 (xMov (.c (.c (.i 3 0))))]))
  cRet))))),
  [.cn (.f 4) 30, .v (.f 5)], 3⟩
def m115 : List (Nat × Nat) := [(0, 0), (2, 1), (3, 2), (4, 3), (8, 4), (17, 5), (18, 6), (39, 7), (65, 8), (81, 9), (93, 10)]
/-- legate/msg.taken -/
noncomputable def u115 : Fu := ⟨(cSeq (cReg (regC [sSet 1 (xAlc 60 [.i 3 0, .o (.s []), .o (.s []), .o (.s []), .o (.s []), .i 3 0, .i 3 0, .o (.s []), .o (.s []), .i 3 0, .o (.ns), .o (.ns), .o (.s []), .o (.s []), .i 3 0, .i 3 0, .o (.s []), .o (.s []), .o (.s []), .o (.s []), .i 3 0, .o (.ns), .o (.ns), .o (.s []), .o (.s []), .i 3 0, .o (.ns), .o (.ns), .i 3 0, .i 3 0])]))
  (cSeq (cReg (regC [sPush (xBld [.i 3 0, .o (.s []), .o (.s []), .o (.s []), .o (.s []), .i 3 0, .i 3 0, .o (.s []), .o (.s []), .i 3 0, .o (.ns), .o (.ns), .o (.s []), .o (.s []), .i 3 0, .i 3 0, .o (.s []), .o (.s []), .o (.s []), .o (.s []), .i 3 0, .o (.ns), .o (.ns), .o (.s []), .o (.s []), .i 3 0, .o (.ns), .o (.ns), .i 3 0, .i 3 0] []),
    sSet 2 (xAlc 60 [.i 3 0, .o (.s []), .o (.s []), .o (.s []), .o (.s []), .i 3 0, .i 3 0, .o (.s []), .o (.s []), .i 3 0, .o (.ns), .o (.ns), .o (.s []), .o (.s []), .i 3 0, .i 3 0, .o (.s []), .o (.s []), .o (.s []), .o (.s []), .i 3 0, .o (.ns), .o (.ns), .o (.s []), .o (.s []), .i 3 0, .o (.ns), .o (.ns), .i 3 0, .i 3 0]),
    sDo (xStA 30 (.f 2) (.l 0))]))
  (cSeq (cSeq (cReg (regC [sPush (xLen (.f 0)),
    sSet 4 (xBin (bEq 0) (.l 0) (.c (.c (.i 3 0))))]))
  (cCond (.f 4) (cSeq (cReg (regC [sPush (xLdA 30 (.f 2)),
    sDo (xStA 30 (.f 1) (.l 0))]))
  cRet) cSkip))
  (cSeq (cReg (regC [sPush (xIxS 1 (.f 0) (.c (.c (.i 3 0)))),
    sPush (xLd1 (.l 0)),
    sPush (xCalF 150 [(.f 0), (.l 0)]),
    sSet 3 (xAlc 275 [.o (.np)]),
    sDo (xStA 1 (.f 3) (.l 0))]))
  (cSeq (cSeq (cReg (regC [sPush (xIxS 1 (.f 0) (.c (.c (.i 3 0)))),
    sSet 5 (xLd1 (.l 0))]))
  (cBlock 0 (cSeq (cReg (regC [sPush (xBin (bEq 0) (.f 5) (.c (.c (.i 4 106)))),
    sSet 6 (xMov (.l 0))]))
  (cCond (.f 6) (cSeq (cReg (regC [sPush (xFld (.f 2) 0),
    sDo (xSt1 (.l 0) (.c (.c (.i 3 1))))]))
  (cSeq (cReg (regC [sPush (xLdA 1 (.f 3)),
    sPush (xCalF 151 [(.l 0)]),
    sPush (xFld (.f 2) 1),
    sPush (xFld (.l 0) 0),
    sDo (xStA 2 (.l 0) (.l 2))]))
  (cSeq (cReg (regC [sPush (xLdA 1 (.f 3)),
    sPush (xCalF 151 [(.l 0)]),
    sPush (xFld (.f 2) 1),
    sPush (xFld (.l 0) 2),
    sDo (xStA 2 (.l 0) (.l 2))]))
  (cSeq (cReg (regC [sPush (xFld (.f 3) 0),
    sPush (xLd1 (.l 0)),
    sPush (xCalF 152 [(.l 0)]),
    sPush (xFld (.f 2) 1),
    sPush (xFld (.l 0) 4),
    sDo (xSt1 (.l 0) (.l 2))]))
  (cReg (regC [sPush (xFld (.f 3) 0),
    sPush (xLd1 (.l 0)),
    sPush (xCalF 152 [(.l 0)]),
    sPush (xFld (.f 2) 1),
    sPush (xFld (.l 0) 5),
    sDo (xSt1 (.l 0) (.l 2))])))))) (cSeq (cReg (regC [sPush (xBin (bEq 0) (.f 5) (.c (.c (.i 4 108)))),
    sSet 7 (xMov (.l 0))]))
  (cCond (.f 7) (cSeq (cReg (regC [sPush (xFld (.f 2) 0),
    sDo (xSt1 (.l 0) (.c (.c (.i 3 2))))]))
  (cSeq (cReg (regC [sPush (xLdA 1 (.f 3)),
    sPush (xCalF 153 [(.l 0)]),
    sPush (xFld (.f 2) 7),
    sPush (xFld (.l 0) 0),
    sDo (xStA 4 (.l 0) (.l 2))]))
  (cSeq (cReg (regC [sPush (xFld (.f 3) 0),
    sPush (xLd1 (.l 0)),
    sPush (xCalF 154 [(.l 0)]),
    sPush (xFld (.f 2) 7),
    sPush (xFld (.l 0) 4),
    sDo (xSt1 (.l 0) (.l 2))]))
  (cSeq (cReg (regC [sPush (xLdA 1 (.f 3)),
    sPush (xCalF 151 [(.l 0)]),
    sPush (xFld (.f 2) 7),
    sPush (xFld (.l 0) 5),
    sDo (xStA 2 (.l 0) (.l 2))]))
  (cSeq (cReg (regC [sPush (xFld (.f 3) 0),
    sPush (xLd1 (.l 0)),
    sPush (xCalF 152 [(.l 0)]),
    sPush (xFld (.f 2) 7),
    sPush (xFld (.l 0) 7),
    sDo (xSt1 (.l 0) (.l 2))]))
  (cReg (regC [sPush (xFld (.f 3) 0),
    sPush (xLd1 (.l 0)),
    sPush (xCalF 152 [(.l 0)]),
    sPush (xFld (.f 2) 7),
    sPush (xFld (.l 0) 8),
    sDo (xSt1 (.l 0) (.l 2))]))))))) (cSeq (cReg (regC [sPush (xBin (bEq 0) (.f 5) (.c (.c (.i 4 107)))),
    sSet 8 (xMov (.l 0))]))
  (cCond (.f 8) (cSeq (cReg (regC [sPush (xFld (.f 2) 0),
    sDo (xSt1 (.l 0) (.c (.c (.i 3 3))))]))
  (cSeq (cReg (regC [sPush (xLdA 1 (.f 3)),
    sPush (xCalF 151 [(.l 0)]),
    sPush (xFld (.f 2) 16),
    sPush (xFld (.l 0) 0),
    sDo (xStA 2 (.l 0) (.l 2))]))
  (cSeq (cReg (regC [sPush (xLdA 1 (.f 3)),
    sPush (xCalF 153 [(.l 0)]),
    sPush (xFld (.f 2) 16),
    sPush (xFld (.l 0) 2),
    sDo (xStA 4 (.l 0) (.l 2))]))
  (cReg (regC [sPush (xFld (.f 3) 0),
    sPush (xLd1 (.l 0)),
    sPush (xCalF 154 [(.l 0)]),
    sPush (xFld (.f 2) 16),
    sPush (xFld (.l 0) 6),
    sDo (xSt1 (.l 0) (.l 2))]))))) (cSeq (cReg (regC [sPush (xBin (bEq 0) (.f 5) (.c (.c (.i 4 110)))),
    sSet 9 (xMov (.l 0))]))
  (cCond (.f 9) (cSeq (cReg (regC [sPush (xFld (.f 2) 0),
    sDo (xSt1 (.l 0) (.c (.c (.i 3 4))))]))
  (cSeq (cReg (regC [sPush (xLdA 1 (.f 3)),
    sPush (xCalF 153 [(.l 0)]),
    sPush (xFld (.f 2) 23),
    sPush (xFld (.l 0) 0),
    sDo (xStA 4 (.l 0) (.l 2))]))
  (cReg (regC [sPush (xFld (.f 3) 0),
    sPush (xLd1 (.l 0)),
    sPush (xCalF 154 [(.l 0)]),
    sPush (xFld (.f 2) 23),
    sPush (xFld (.l 0) 4),
    sDo (xSt1 (.l 0) (.l 2))])))) (cSeq (cReg (regC [sPush (xBin (bEq 0) (.f 5) (.c (.c (.i 4 126)))),
    sSet 10 (xMov (.l 0))]))
  (cCond (.f 10) (cSeq (cReg (regC [sPush (xFld (.f 2) 0),
    sDo (xSt1 (.l 0) (.c (.c (.i 3 5))))]))
  (cSeq (cReg (regC [sPush (xFld (.f 3) 0),
    sPush (xLd1 (.l 0)),
    sPush (xCalF 152 [(.l 0)]),
    sPush (xFld (.f 2) 28),
    sPush (xFld (.l 0) 0),
    sDo (xSt1 (.l 0) (.l 2))]))
  (cReg (regC [sPush (xFld (.f 3) 0),
    sPush (xLd1 (.l 0)),
    sPush (xCalF 152 [(.l 0)]),
    sPush (xFld (.f 2) 28),
    sPush (xFld (.l 0) 1),
    sDo (xSt1 (.l 0) (.l 2))])))) cSkip))))))))))))
  (cSeq (cReg (regC [sPush (xLdA 30 (.f 2)),
    sDo (xStA 30 (.f 1) (.l 0))]))
  cRet)))))),
  [.cn (.f 1) 30], 1⟩
def m116 : List (Nat × Nat) := [(0, 0), (1, 1), (2, 2), (3, 3), (6, 4)]
/-- legate/msg.Encode -/
noncomputable def u116 : Fu := ⟨(cSeq (cReg (regC [sSet 1 (xBox 60 (.f 0)),
    sSet 2 (xMov (.c (.c (.o (.ns))))),
    sSet 3 (xMov (.c (.c (.i 3 0))))]))
  (cSeq (cSeq (cReg (regC [sPush (xLdA 30 (.f 1)),
    sPush (xCalF 155 [(.l 0)]),
    sSet 4 (xNot (.l 0))]))
  (cCond (.f 4) (cSeq (cReg (regC [sSet 2 (xMov (.c (.c (.o (.ns))))),
    sSet 3 (xMov (.c (.c (.i 3 1))))]))
  cRet) cSkip))
  (cSeq (cReg (regC [sPush (xLdA 30 (.f 1)),
    sPush (xCalF 157 [(.l 0)]),
    sPush (xCalF 156 [(.c (.c (.o (.b true)))), (.l 0)]),
    sPush (xExt (.l 0) 0),
    sPush (xExt (.l 1) 1),
    sSet 2 (xMov (.l 1)),
    sSet 3 (xMov (.l 0))]))
  cRet))),
  [.v (.f 2), .v (.f 3)], 1⟩
def m117 : List (Nat × Nat) := [(0, 0), (1, 1), (2, 2), (4, 3), (5, 4), (6, 5), (7, 6), (8, 7), (13, 8)]
/-- (*legate/ring.Ring).Box -/
noncomputable def u117 : Fu := ⟨(cSeq (cReg (regC [sSet 3 (xBox 26 (.f 1)),
    sSet 4 (xBox 3 (.f 2)),
    sSet 5 (xMov (.c (.c (.o (.np))))),
    sSet 6 (xMov (.c (.c (.i 3 0))))]))
  (cSeq (cReg (regC [sPush (xMkf 158 [] [(.f 3), (.f 4)]),
    sPush (xCalF 94 [(.f 0), (.l 0)]),
    sSet 7 (xMov (.l 0))]))
  (cSeq (cSeq (cReg (regC [sSet 8 (xBin (bEqN 0) (.f 7) (.c (.c (.o (.np)))))]))
  (cCond (.f 8) (cSeq (cReg (regC [sSet 5 (xMov (.c (.c (.o (.np))))),
    sSet 6 (xMov (.c (.c (.i 3 4))))]))
  cRet) cSkip))
  (cSeq (cReg (regC [sPush (xChk (.f 7)),
    sPush (xFld (.l 0) 35),
    sPush (xLd1 (.l 0)),
    sSet 5 (xMov (.l 0)),
    sSet 6 (xMov (.c (.c (.i 3 0))))]))
  cRet)))),
  [.v (.f 5), .v (.f 6)], 3⟩
def m118 : List (Nat × Nat) := [(0, 0), (1, 1), (2, 2), (6, 3), (7, 4), (8, 5), (9, 6), (16, 7), (24, 8), (46, 9)]
/-- (*legate/seal.Box).Open -/
noncomputable def u118 : Fu := ⟨(cSeq (cReg (regC [sSet 3 (xMov (.c (.c (.o (.ns))))),
    sSet 4 (xMov (.c (.c (.i 3 0))))]))
  (cSeq (cSeq (cReg (regC [sPush (xBin (bEqN 0) (.f 0) (.c (.c (.o (.np))))),
    sIf (.l 0) false (sPush (xMov (.f 1))) (sPush (xMov (.c udf))),
    sIf (.l 1) false (sPush (xCalF 159 [(.l 0)])) (sPush (xMov (.c udf))),
    sIf (.l 2) false (sPush (xNot (.l 0))) (sPush (xMov (.c udf))),
    sSet 7 (xPick (.l 3) (.c (.c (.o (.b true)))) (.l 0))]))
  (cCond (.f 7) (cSeq (cReg (regC [sSet 3 (xMov (.c (.c (.o (.ns))))),
    sSet 4 (xMov (.c (.c (.i 3 1))))]))
  cRet) cSkip))
  (cSeq (cSeq (cReg (regC [sPush (xLen (.f 2)),
    sPush (xBin (bGeq 3 18446744073709551616 9223372036854775808) (.l 0) (.c (.c (.i 3 16)))),
    sIf (.l 0) true (sPush (xMov (.f 2))) (sPush (xMov (.c udf))),
    sIf (.l 1) true (sPush (xLen (.l 0))) (sPush (xMov (.c udf))),
    sIf (.l 2) true (sPush (xBin (bLeq 3 18446744073709551616 9223372036854775808) (.l 0) (.c (.c (.i 3 800))))) (sPush (xMov (.c udf))),
    sSet 8 (xPick (.l 3) (.l 0) (.c (.c (.o (.b false)))))]))
  (cCond (.f 8) (cSeq (cReg (regC [sPush (xLen (.f 2)),
    sPush (xBin (bSub 3 18446744073709551616) (.l 0) (.c (.c (.i 3 8)))),
    sPush (xCutL 1 (.f 2) none (some (.l 0))),
    sPush (xCutL 1 (.f 2) none (some (.c (.c (.i 3 8))))),
    sPush (xCalF 160 [(.l 0)]),
    sSet 5 (xMov (.l 2)),
    sSet 6 (xMov (.l 0))]))
  (cSeq (cReg (regC [sPush (xBin (bLeq 7 18446744073709551616 0) (.f 6) (.c (.c (.i 7 1099511627776)))),
    sIf (.l 0) true (sPush (xMov (.f 0))) (sPush (xMov (.c udf))),
    sIf (.l 1) true (sPush (xMov (.f 1))) (sPush (xMov (.c udf))),
    sIf (.l 2) true (sPush (xMov (.f 5))) (sPush (xMov (.c udf))),
    sIf (.l 3) true (sPush (xMov (.f 2))) (sPush (xMov (.c udf))),
    sIf (.l 4) true (sPush (xMov (.f 2))) (sPush (xMov (.c udf))),
    sIf (.l 5) true (sPush (xLen (.l 0))) (sPush (xMov (.c udf))),
    sIf (.l 6) true (sPush (xBin (bSub 3 18446744073709551616) (.l 0) (.c (.c (.i 3 8))))) (sPush (xMov (.c udf))),
    sIf (.l 7) true (sPush (xCutL 1 (.l 3) (some (.l 0)) none)) (sPush (xMov (.c udf))),
    sIf (.l 8) true (sPush (xCalF 162 [(.l 7), (.l 6), (.l 5)])) (sPush (xMov (.c udf))),
    sIf (.l 9) true (sPush (xCalF 161 [(.l 0), (.l 1)])) (sPush (xMov (.c udf))),
    sSet 9 (xPick (.l 10) (.l 0) (.c (.c (.o (.b false)))))]))
  (cCond (.f 9) (cSeq (cReg (regC [sPush (xChk (.f 0)),
    sPush (xFld (.l 0) 18),
    sPush (xCalF 33 [(.l 0), (.c (.c (.i 3 1)))])]))
  (cSeq (cReg (regC [sPush (xCutL 1 (.f 5) (some (.c (.c (.i 3 8)))) none),
    sPush (xCalF 163 [(.f 0), (.f 1), (.f 6), (.l 0)]),
    sSet 3 (xMov (.l 0)),
    sSet 4 (xMov (.c (.c (.i 3 0))))]))
  cRet)) cSkip))) cSkip))
  (cSeq (cReg (regC [sPush (xChk (.f 0)),
    sPush (xFld (.l 0) 19),
    sPush (xCalF 33 [(.l 0), (.c (.c (.i 3 1)))])]))
  (cSeq (cReg (regC [sSet 3 (xMov (.c (.c (.o (.ns))))),
    sSet 4 (xMov (.c (.c (.i 3 3))))]))
  cRet))))),
  [.v (.f 3), .v (.f 4)], 3⟩
def m119 : List (Nat × Nat) := [(0, 0), (2, 1), (3, 2), (4, 3), (5, 4)]
/-- legate/msg.DecodePart -/
noncomputable def u119 : Fu := ⟨(cSeq (cReg (regC [sSet 1 (xAlc 31 [.o (.s []), .o (.s []), .i 4 0, .i 4 0, .i 4 0, .i 4 0, .i 4 0, .i 4 0, .i 4 0, .i 4 0, .i 4 0, .i 4 0, .i 4 0, .i 4 0, .i 4 0, .i 4 0, .i 4 0, .i 4 0, .i 4 0, .i 4 0, .i 4 0, .i 4 0, .i 4 0, .i 4 0, .i 4 0, .i 4 0, .i 4 0, .i 4 0, .i 4 0, .i 4 0, .i 4 0, .i 4 0, .i 4 0, .i 4 0, .o (.s []), .i 3 0, .i 3 0]),
    sSet 2 (xMov (.c (.c (.i 3 0))))]))
  (cSeq (cReg (regC [sPush (xCalF 150 [(.f 0), (.c (.c (.i 4 99)))]),
    sSet 3 (xAlc 275 [.o (.np)]),
    sDo (xStA 1 (.f 3) (.l 0))]))
  (cSeq (cReg (regC [sPush (xLdA 1 (.f 3)),
    sPush (xCalF 151 [(.l 0)]),
    sPush (xBld [.o (.s []), .o (.s []), .i 4 0, .i 4 0, .i 4 0, .i 4 0, .i 4 0, .i 4 0, .i 4 0, .i 4 0, .i 4 0, .i 4 0, .i 4 0, .i 4 0, .i 4 0, .i 4 0, .i 4 0, .i 4 0, .i 4 0, .i 4 0, .i 4 0, .i 4 0, .i 4 0, .i 4 0, .i 4 0, .i 4 0, .i 4 0, .i 4 0, .i 4 0, .i 4 0, .i 4 0, .i 4 0, .i 4 0, .i 4 0, .o (.s []), .i 3 0, .i 3 0] [.mk 0 2 (.l 0)]),
    sSet 4 (xAlc 31 [.o (.s []), .o (.s []), .i 4 0, .i 4 0, .i 4 0, .i 4 0, .i 4 0, .i 4 0, .i 4 0, .i 4 0, .i 4 0, .i 4 0, .i 4 0, .i 4 0, .i 4 0, .i 4 0, .i 4 0, .i 4 0, .i 4 0, .i 4 0, .i 4 0, .i 4 0, .i 4 0, .i 4 0, .i 4 0, .i 4 0, .i 4 0, .i 4 0, .i 4 0, .i 4 0, .i 4 0, .i 4 0, .i 4 0, .i 4 0, .o (.s []), .i 3 0, .i 3 0]),
    sDo (xStA 37 (.f 4) (.l 0))]))
  (cSeq (cReg (regC [sPush (xLdA 1 (.f 3)),
    sPush (xCalF 164 [(.l 0)]),
    sPush (xFld (.f 4) 2),
    sDo (xStA 32 (.l 0) (.l 1))]))
  (cSeq (cReg (regC [sPush (xFld (.f 3) 0),
    sPush (xLd1 (.l 0)),
    sPush (xCalF 165 [(.l 0)]),
    sPush (xFld (.f 4) 34),
    sDo (xSt1 (.l 0) (.l 1))]))
  (cSeq (cReg (regC [sPush (xFld (.f 3) 0),
    sPush (xLd1 (.l 0)),
    sPush (xCalF 152 [(.l 0)]),
    sPush (xFld (.f 4) 35),
    sDo (xSt1 (.l 0) (.l 1))]))
  (cSeq (cReg (regC [sPush (xFld (.f 3) 0),
    sPush (xLd1 (.l 0)),
    sPush (xCalF 152 [(.l 0)]),
    sPush (xFld (.f 4) 36),
    sDo (xSt1 (.l 0) (.l 1))]))
  (cSeq (cReg (regC [sPush (xLdA 37 (.f 4)),
    sPush (xCalF 166 [(.f 0), (.l 0), (.c (.c (.o (.f 167 [] []))))]),
    sPush (xExt (.l 0) 0),
    sPush (xExt (.l 1) 1),
    sDo (xStA 37 (.f 1) (.l 1)),
    sSet 2 (xMov (.l 0))]))
  cRet)))))))),
  [.cn (.f 1) 37, .v (.f 2)], 1⟩
def m120 : List (Nat × Nat) := [(0, 0), (2, 1), (3, 2), (4, 3), (5, 4)]
/-- legate/msg.DecodeAuthn -/
noncomputable def u120 : Fu := ⟨(cSeq (cReg (regC [sSet 1 (xAlc 33 [.o (.s []), .o (.s []), .i 3 0, .i 3 0]),
    sSet 2 (xMov (.c (.c (.i 3 0))))]))
  (cSeq (cReg (regC [sPush (xCalF 150 [(.f 0), (.c (.c (.i 4 98)))]),
    sSet 3 (xAlc 275 [.o (.np)]),
    sDo (xStA 1 (.f 3) (.l 0))]))
  (cSeq (cReg (regC [sPush (xLdA 1 (.f 3)),
    sPush (xCalF 151 [(.l 0)]),
    sPush (xBld [.o (.s []), .o (.s []), .i 3 0, .i 3 0] [.mk 0 2 (.l 0)]),
    sSet 4 (xAlc 33 [.o (.s []), .o (.s []), .i 3 0, .i 3 0]),
    sDo (xStA 4 (.f 4) (.l 0))]))
  (cSeq (cReg (regC [sPush (xFld (.f 3) 0),
    sPush (xLd1 (.l 0)),
    sPush (xCalF 152 [(.l 0)]),
    sPush (xFld (.f 4) 2),
    sDo (xSt1 (.l 0) (.l 1))]))
  (cSeq (cReg (regC [sPush (xFld (.f 3) 0),
    sPush (xLd1 (.l 0)),
    sPush (xCalF 152 [(.l 0)]),
    sPush (xFld (.f 4) 3),
    sDo (xSt1 (.l 0) (.l 1))]))
  (cSeq (cReg (regC [sPush (xLdA 4 (.f 4)),
    sPush (xCalF 168 [(.f 0), (.l 0), (.c (.c (.o (.f 169 [] []))))]),
    sPush (xExt (.l 0) 0),
    sPush (xExt (.l 1) 1),
    sDo (xStA 4 (.f 1) (.l 1)),
    sSet 2 (xMov (.l 0))]))
  cRet)))))),
  [.cn (.f 1) 4, .v (.f 2)], 1⟩
def m121 : List (Nat × Nat) := [(0, 0), (1, 1), (2, 2), (6, 3), (7, 4), (8, 5), (10, 6), (11, 7), (12, 8), (20, 9), (22, 10), (26, 11), (27, 12), (28, 13), (29, 14), (33, 15), (47, 16), (65, 17), (76, 18)]
/-- legate/transit.Expand -/
noncomputable def u121 : Fu := ⟨(cSeq (cReg (regC [sSet 3 (xMov (.c (.c (.o (.ns))))),
    sSet 4 (xMov (.c (.c (.i 3 0))))]))
  (cSeq (cSeq (cReg (regC [sPush (xCalF 92 [(.f 1)]),
    sPush (xNot (.l 0)),
    sIf (.l 0) false (sPush (xMov (.f 2))) (sPush (xMov (.c udf))),
    sIf (.l 1) false (sPush (xCalF 92 [(.l 0)])) (sPush (xMov (.c udf))),
    sIf (.l 2) false (sPush (xNot (.l 0))) (sPush (xMov (.c udf))),
    sSet 9 (xPick (.l 3) (.c (.c (.o (.b true)))) (.l 0))]))
  (cCond (.f 9) (cSeq (cReg (regC [sSet 3 (xMov (.c (.c (.o (.ns))))),
    sSet 4 (xMov (.c (.c (.i 3 1))))]))
  cRet) cSkip))
  (cSeq (cSeq (cReg (regC [sSet 10 (xBin (bEq 1) (.f 0) (.c (.c (.o (.s [])))))]))
  (cCond (.f 10) (cSeq (cReg (regC [sSet 3 (xMov (.c (.c (.o (.ns))))),
    sSet 4 (xMov (.c (.c (.i 3 0))))]))
  cRet) cSkip))
  (cSeq (cReg (regC [sPush (xBld [.o (.ns), .o (.s []), .o (.b false)] []),
    sPush (xBox 289 (.l 0)),
    sSet 5 (xMov (.l 0))]))
  (cSeq (cSeq (cReg (regC [sSet 11 (xCalF 170 [(.f 0), (.c (.c (.o (.s [44]))))]),
    sSet 12 (xLen (.f 11)),
    sSet 13 (xMov (.c (.c (.i 3 0))))]))
  (cBlock 0 (cLoop (cSeq (cReg (regC [sSet 14 (xBin (bLss 3 18446744073709551616 9223372036854775808) (.f 13) (.f 12))]))
  (cSeq (cCond (.f 14) cSkip (cExit 0))
  (cSeq (cBlock 1 (cSeq (cReg (regC [sPush (xIxS 1 (.f 11) (.f 13)),
    sPush (xLd1 (.l 0)),
    sSet 6 (xMov (.l 0))]))
  (cSeq (cSeq (cReg (regC [sSet 15 (xBin (bEq 1) (.f 6) (.c (.c (.o (.s [])))))]))
  (cCond (.f 15) (cSeq (cReg (regC [sPush (xChk (.f 5)),
    sPush (xFld (.l 0) 2),
    sDo (xSt1 (.l 0) (.c (.c (.o (.b true)))))]))
  (cExit 1)) cSkip))
  (cSeq (cReg (regC [sPush (xChk (.f 5)),
    sPush (xFld (.l 0) 1),
    sPush (xLd1 (.l 0)),
    sPush (xCalF 171 [(.f 6), (.l 0)]),
    sPush (xExt (.l 0) 0),
    sPush (xExt (.l 1) 1),
    sSet 7 (xMov (.l 1)),
    sSet 8 (xMov (.l 0))]))
  (cSeq (cSeq (cReg (regC [sSet 16 (xNot (.f 8))]))
  (cCond (.f 16) (cSeq (cReg (regC [sSet 3 (xMov (.c (.c (.o (.ns))))),
    sSet 4 (xMov (.c (.c (.i 3 2))))]))
  cRet) cSkip))
  (cSeq (cReg (regC [sPush (xCalF 172 [(.f 5), (.f 1), (.f 7)])]))
  (cSeq (cReg (regC [sPush (xBls 9 1 [.o (.s [])] [.mk 0 1 (.f 7)]),
    sPush (xCalF 173 [(.f 5), (.l 0)])]))
  (cSeq (cReg (regC [sPush (xChk (.f 5)),
    sPush (xFld (.l 0) 1),
    sDo (xSt1 (.l 0) (.f 7))]))
  (cSeq (cReg (regC [sPush (xChk (.f 5)),
    sPush (xFld (.l 0) 0),
    sPush (xLd1 (.l 0)),
    sPush (xLen (.l 0)),
    sSet 17 (xBin (bGtr 3 18446744073709551616 9223372036854775808) (.l 0) (.c (.c (.i 3 8))))]))
  (cCond (.f 17) (cSeq (cReg (regC [sSet 3 (xMov (.c (.c (.o (.ns))))),
    sSet 4 (xMov (.c (.c (.i 3 13))))]))
  cRet) cSkip))))))))))
  (cReg (regC [sPush (xBin (bAdd 3 18446744073709551616) (.f 13) (.c (.c (.i 3 1)))),
    sSet 13 (xMov (.l 0))]))))))))
  (cSeq (cReg (regC [sPush (xCalF 172 [(.f 5), (.f 1), (.f 2)])]))
  (cSeq (cSeq (cReg (regC [sPush (xChk (.f 5)),
    sPush (xFld (.l 0) 0),
    sPush (xLd1 (.l 0)),
    sPush (xLen (.l 0)),
    sSet 18 (xBin (bGtr 3 18446744073709551616 9223372036854775808) (.l 0) (.c (.c (.i 3 8))))]))
  (cCond (.f 18) (cSeq (cReg (regC [sSet 3 (xMov (.c (.c (.o (.ns))))),
    sSet 4 (xMov (.c (.c (.i 3 13))))]))
  cRet) cSkip))
  (cSeq (cReg (regC [sPush (xChk (.f 5)),
    sPush (xFld (.l 0) 0),
    sPush (xLd1 (.l 0)),
    sSet 3 (xMov (.l 0)),
    sSet 4 (xMov (.c (.c (.i 3 0))))]))
  cRet)))))))),
  [.v (.f 3), .v (.f 4)], 3⟩
def m122 : List (Nat × Nat) := [(0, 0), (1, 1), (2, 2), (3, 3), (4, 4), (8, 5), (9, 6)]
/-- legate/route.Allowed -/
noncomputable def u122 : Fu := ⟨(cSeq (cReg (regC [sSet 4 (xBox 72 (.f 0)),
    sSet 5 (xMov (.c (.c (.o (.b false)))))]))
  (cSeq (cReg (regC [sPush (xLdA 3 (.f 4)),
    sPush (xCalF 174 [(.l 0), (.f 1), (.f 2)]),
    sSet 6 (xAlc 37 [.o (.ns)]),
    sDo (xSt1 (.f 6) (.l 0))]))
  (cSeq (cReg (regC [sPush (xMkf 175 [] [(.f 6)]),
    sPush (xCalF 102 [(.f 3), (.l 0)]),
    sPush (xNot (.l 0)),
    sSet 5 (xMov (.l 0))]))
  cRet))),
  [.v (.f 5)], 4⟩
def m123 : List (Nat × Nat) := [(0, 0), (1, 1), (4, 2), (5, 3), (6, 4), (7, 5), (12, 6), (19, 7), (29, 8)]
/-- slices.DeleteFunc[[]legate/api.Authn,legate/api.Authn] -/
noncomputable def u123 : Fu := ⟨(cSeq (cReg (regC [sSet 2 (xMov (.c (.c (.o (.ns)))))]))
  (cSeq (cReg (regC [sPush (xCalF 176 [(.f 0), (.f 1)]),
    sSet 3 (xMov (.l 0))]))
  (cSeq (cSeq (cReg (regC [sSet 6 (xBin (bEq 0) (.f 3) (.c (.c (.i 3 18446744073709551615))))]))
  (cCond (.f 6) (cSeq (cReg (regC [sSet 2 (xMov (.f 0))]))
  cRet) cSkip))
  (cSeq (cSeq (cReg (regC [sPush (xBin (bAdd 3 18446744073709551616) (.f 3) (.c (.c (.i 3 1)))),
    sSet 4 (xMov (.l 0))]))
  (cBlock 0 (cLoop (cSeq (cSeq (cReg (regC [sPush (xLen (.f 0)),
    sSet 7 (xBin (bLss 3 18446744073709551616 9223372036854775808) (.f 4) (.l 0))]))
  (cCond (.f 7) cSkip (cExit 0)))
  (cSeq (cBlock 1 (cSeq (cReg (regC [sPush (xIxS 4 (.f 0) (.f 4)),
    sPush (xLdA 4 (.l 0)),
    sSet 5 (xAlc 33 [.o (.s []), .o (.s []), .i 3 0, .i 3 0]),
    sDo (xStA 4 (.f 5) (.l 0))]))
  (cSeq (cReg (regC [sPush (xLdA 4 (.f 5)),
    sPush (xCal (.f 1) [(.l 0)]),
    sSet 8 (xNot (.l 0))]))
  (cCond (.f 8) (cSeq (cReg (regC [sPush (xLdA 4 (.f 5)),
    sPush (xIxS 4 (.f 0) (.f 3)),
    sDo (xStA 4 (.l 0) (.l 1))]))
  (cReg (regC [sPush (xBin (bAdd 3 18446744073709551616) (.f 3) (.c (.c (.i 3 1)))),
    sSet 3 (xMov (.l 0))]))) cSkip))))
  (cReg (regC [sPush (xBin (bAdd 3 18446744073709551616) (.f 4) (.c (.c (.i 3 1)))),
    sSet 4 (xMov (.l 0))])))))))
  (cSeq (cReg (regC [sPush (xCutL 4 (.f 0) (some (.f 3)) none),
    sDo (xClr [.o (.s []), .o (.s []), .i 3 0, .i 3 0] (.l 0))]))
  (cSeq (cReg (regC [sPush (xCutL 4 (.f 0) none (some (.f 3))),
    sSet 2 (xMov (.l 0))]))
  cRet)))))),
  [.v (.f 2)], 2⟩
def m124 : List (Nat × Nat) := [(0, 0), (1, 1), (2, 2), (3, 3)]
/-- (*legate/replay.Replay).See$1 -/
noncomputable def u124 : Fu := ⟨(cSeq (cReg (regC [sSet 2 (xBox 33 (.f 0)),
    sSet 3 (xMov (.c (.c (.o (.b false)))))]))
  (cSeq (cReg (regC [sPush (xFld (.f 2) 2),
    sPush (xLd1 (.l 0)),
    sPush (xLd1 (.f 1)),
    sPush (xBin (bSub 3 18446744073709551616) (.l 0) (.c (.c (.i 3 5)))),
    sPush (xBin (bLss 3 18446744073709551616 9223372036854775808) (.l 2) (.l 0)),
    sSet 3 (xMov (.l 0))]))
  cRet)),
  [.v (.f 3)], 2⟩
def m125 : List (Nat × Nat) := [(0, 0), (1, 1), (3, 2), (4, 3)]
/-- slices.Contains[[]legate/api.Authn,legate/api.Authn] -/
noncomputable def u125 : Fu := ⟨(cSeq (cReg (regC [sSet 2 (xBox 33 (.f 1)),
    sSet 3 (xMov (.c (.c (.o (.b false)))))]))
  (cSeq (cReg (regC [sPush (xLdA 4 (.f 2)),
    sPush (xCalF 177 [(.f 0), (.l 0)]),
    sPush (xBin (bGeq 3 18446744073709551616 9223372036854775808) (.l 0) (.c (.c (.i 3 0)))),
    sSet 3 (xMov (.l 0))]))
  cRet)),
  [.v (.f 3)], 2⟩
def m126 : List (Nat × Nat) := [(0, 0), (2, 1), (3, 2), (9, 3)]
/-- legate/legateref1.size -/
noncomputable def u126 : Fu := ⟨(cSeq (cReg (regC [sSet 1 (xMov (.c (.c (.o (.ns)))))]))
  (cSeq (cBlock 0 (cSeq (cReg (regC [sPush (xBin (bLss 3 18446744073709551616 9223372036854775808) (.f 0) (.c (.c (.i 3 128)))),
    sSet 2 (xMov (.l 0))]))
  (cCond (.f 2) (cSeq (cReg (regC [sPush (xCvi 3 18446744073709551616 9223372036854775808 4 256 (.f 0)),
    sPush (xBls 5 1 [.i 4 0] [.mk 0 1 (.l 0)]),
    sSet 1 (xMov (.l 0))]))
  cRet) (cSeq (cReg (regC [sPush (xBin (bLss 3 18446744073709551616 9223372036854775808) (.f 0) (.c (.c (.i 3 256)))),
    sSet 3 (xMov (.l 0))]))
  (cCond (.f 3) (cSeq (cReg (regC [sPush (xCvi 3 18446744073709551616 9223372036854775808 4 256 (.f 0)),
    sPush (xBls 5 2 [.i 4 0, .i 4 0] [.mk 0 1 (.c (.c (.i 4 129))), .mk 1 1 (.l 0)]),
    sSet 1 (xMov (.l 0))]))
  cRet) cSkip)))))
  (cSeq (cReg (regC [sPush (xBin (bShr 3 9223372036854775808) (.f 0) (.c (.c (.i 7 8)))),
    sPush (xCvi 3 18446744073709551616 9223372036854775808 4 256 (.l 0)),
    sPush (xCvi 3 18446744073709551616 9223372036854775808 4 256 (.f 0)),
    sPush (xBls 5 3 [.i 4 0, .i 4 0, .i 4 0] [.mk 0 1 (.c (.c (.i 4 130))), .mk 1 1 (.l 1), .mk 2 1 (.l 0)]),
    sSet 1 (xMov (.l 0))]))
  cRet))),
  [.v (.f 1)], 1⟩
def m130 : List (Nat × Nat) := [(0, 0), (1, 1), (4, 2), (5, 3), (6, 4), (7, 5), (11, 6), (18, 7)]
/-- legate/legateref5.Split -/
noncomputable def u130 : Fu := ⟨(cSeq (cReg (regC [sSet 2 (xMov (.c (.c (.o (.ns)))))]))
  (cSeq (cReg (regC [sSet 3 (xMov (.c (.c (.o (.ns)))))]))
  (cSeq (cReg (regC [sSet 4 (xMov (.c (.c (.i 3 0))))]))
  (cSeq (cSeq (cReg (regC [sSet 5 (xMov (.c (.c (.i 3 0))))]))
  (cBlock 0 (cLoop (cSeq (cSeq (cReg (regC [sPush (xLenT (.f 0)),
    sSet 6 (xBin (bLss 3 18446744073709551616 9223372036854775808) (.f 5) (.l 0))]))
  (cCond (.f 6) cSkip (cExit 0)))
  (cSeq (cBlock 1 (cSeq (cReg (regC [sPush (xIxT (.f 0) (.f 5)),
    sSet 7 (xBin (bEq 0) (.l 0) (.f 1))]))
  (cCond (.f 7) (cSeq (cReg (regC [sPush (xCutT (.f 0) (some (.f 4)) (some (.f 5))),
    sPush (xBls 9 1 [.o (.s [])] [.mk 0 1 (.l 0)]),
    sPush (xApp 9 1 (.f 3) (.l 0)),
    sSet 3 (xMov (.l 0))]))
  (cReg (regC [sPush (xBin (bAdd 3 18446744073709551616) (.f 5) (.c (.c (.i 3 1)))),
    sSet 4 (xMov (.l 0))]))) cSkip)))
  (cReg (regC [sPush (xBin (bAdd 3 18446744073709551616) (.f 5) (.c (.c (.i 3 1)))),
    sSet 5 (xMov (.l 0))])))))))
  (cSeq (cReg (regC [sPush (xCutT (.f 0) (some (.f 4)) none),
    sPush (xBls 9 1 [.o (.s [])] [.mk 0 1 (.l 0)]),
    sPush (xApp 9 1 (.f 3) (.l 0)),
    sSet 2 (xMov (.l 0))]))
  cRet))))),
  [.v (.f 2)], 2⟩
def m135 : List (Nat × Nat) := [(0, 0), (2, 1), (3, 2), (4, 3), (8, 4), (24, 5), (31, 6), (49, 7)]
/-- legate/legateref5.labels -/
noncomputable def u135 : Fu := ⟨(cSeq (cReg (regC [sSet 1 (xMov (.c (.c (.o (.b false)))))]))
  (cSeq (cSeq (cReg (regC [sSet 2 (xMov (.c (.c (.i 3 0))))]))
  (cBlock 0 (cLoop (cSeq (cSeq (cReg (regC [sPush (xLen (.f 0)),
    sSet 4 (xBin (bLss 3 18446744073709551616 9223372036854775808) (.f 2) (.l 0))]))
  (cCond (.f 4) cSkip (cExit 0)))
  (cSeq (cBlock 1 (cSeq (cSeq (cReg (regC [sPush (xIxS 1 (.f 0) (.f 2)),
    sPush (xLd1 (.l 0)),
    sPush (xLenT (.l 0)),
    sPush (xBin (bLss 3 18446744073709551616 9223372036854775808) (.l 0) (.c (.c (.i 3 1)))),
    sIf (.l 0) false (sPush (xMov (.f 0))) (sPush (xMov (.c udf))),
    sIf (.l 1) false (sPush (xMov (.f 2))) (sPush (xMov (.c udf))),
    sIf (.l 2) false (sPush (xIxS 1 (.l 1) (.l 0))) (sPush (xMov (.c udf))),
    sIf (.l 3) false (sPush (xLd1 (.l 0))) (sPush (xMov (.c udf))),
    sIf (.l 4) false (sPush (xLenT (.l 0))) (sPush (xMov (.c udf))),
    sIf (.l 5) false (sPush (xBin (bGtr 3 18446744073709551616 9223372036854775808) (.l 0) (.c (.c (.i 3 8))))) (sPush (xMov (.c udf))),
    sSet 5 (xPick (.l 6) (.c (.c (.o (.b true)))) (.l 0))]))
  (cCond (.f 5) (cSeq (cReg (regC [sSet 1 (xMov (.c (.c (.o (.b false)))))]))
  cRet) cSkip))
  (cSeq (cReg (regC [sSet 3 (xMov (.c (.c (.i 3 0))))]))
  (cBlock 2 (cLoop (cSeq (cSeq (cReg (regC [sPush (xIxS 1 (.f 0) (.f 2)),
    sPush (xLd1 (.l 0)),
    sPush (xLenT (.l 0)),
    sSet 6 (xBin (bLss 3 18446744073709551616 9223372036854775808) (.f 3) (.l 0))]))
  (cCond (.f 6) cSkip (cExit 2)))
  (cSeq (cBlock 3 (cSeq (cReg (regC [sPush (xIxS 1 (.f 0) (.f 2)),
    sPush (xLd1 (.l 0)),
    sPush (xIxT (.l 0) (.f 3)),
    sPush (xBin (bLss 4 256 0) (.l 0) (.c (.c (.i 4 65)))),
    sIf (.l 0) false (sPush (xMov (.f 0))) (sPush (xMov (.c udf))),
    sIf (.l 1) false (sPush (xMov (.f 2))) (sPush (xMov (.c udf))),
    sIf (.l 2) false (sPush (xIxS 1 (.l 1) (.l 0))) (sPush (xMov (.c udf))),
    sIf (.l 3) false (sPush (xLd1 (.l 0))) (sPush (xMov (.c udf))),
    sIf (.l 4) false (sPush (xMov (.f 3))) (sPush (xMov (.c udf))),
    sIf (.l 5) false (sPush (xIxT (.l 1) (.l 0))) (sPush (xMov (.c udf))),
    sIf (.l 6) false (sPush (xBin (bGtr 4 256 0) (.l 0) (.c (.c (.i 4 90))))) (sPush (xMov (.c udf))),
    sSet 7 (xPick (.l 7) (.c (.c (.o (.b true)))) (.l 0))]))
  (cCond (.f 7) (cSeq (cReg (regC [sSet 1 (xMov (.c (.c (.o (.b false)))))]))
  cRet) cSkip)))
  (cReg (regC [sPush (xBin (bAdd 3 18446744073709551616) (.f 3) (.c (.c (.i 3 1)))),
    sSet 3 (xMov (.l 0))])))))))))
  (cReg (regC [sPush (xBin (bAdd 3 18446744073709551616) (.f 2) (.c (.c (.i 3 1)))),
    sSet 2 (xMov (.l 0))])))))))
  (cSeq (cReg (regC [sPush (xLen (.f 0)),
    sPush (xBin (bGeq 3 18446744073709551616 9223372036854775808) (.l 0) (.c (.c (.i 3 1)))),
    sIf (.l 0) true (sPush (xMov (.f 0))) (sPush (xMov (.c udf))),
    sIf (.l 1) true (sPush (xLen (.l 0))) (sPush (xMov (.c udf))),
    sIf (.l 2) true (sPush (xBin (bLeq 3 18446744073709551616 9223372036854775808) (.l 0) (.c (.c (.i 3 4))))) (sPush (xMov (.c udf))),
    sPush (xPick (.l 3) (.l 0) (.c (.c (.o (.b false))))),
    sSet 1 (xMov (.l 0))]))
  cRet))),
  [.v (.f 1)], 1⟩
def m136 : List (Nat × Nat) := [(0, 0), (1, 1), (4, 2), (5, 3)]
/-- strings.CutPrefix -/
noncomputable def u136 : Fu := ⟨(cSeq (cReg (regC [sSet 2 (xMov (.c (.c (.o (.s []))))),
    sSet 3 (xMov (.c (.c (.o (.b false)))))]))
  (cSeq (cReg (regC [sPush (xCalF 183 [(.f 0), (.f 1)]),
    sPush (xExt (.l 0) 0),
    sPush (xExt (.l 1) 1),
    sSet 2 (xMov (.l 1)),
    sSet 3 (xMov (.l 0))]))
  cRet)),
  [.v (.f 2), .v (.f 3)], 2⟩
def m137 : List (Nat × Nat) := [(0, 0), (2, 1), (4, 2)]
/-- legate/name.Kind -/
noncomputable def u137 : Fu := ⟨(cSeq (cReg (regC [sSet 1 (xMov (.c (.c (.i 3 0))))]))
  (cSeq (cReg (regC [sPush (xCalF 184 [(.f 0)]),
    sPush (xExt (.l 0) 0),
    sPush (xExt (.l 1) 1),
    sSet 2 (xMov (.l 0))]))
  (cSeq (cReg (regC [sSet 1 (xMov (.f 2))]))
  cRet))),
  [.v (.f 1)], 1⟩
def m138 : List (Nat × Nat) := [(0, 0), (1, 1), (4, 2), (5, 3), (6, 4), (12, 5), (21, 6), (34, 7)]
/-- strings.Trim -/
noncomputable def u138 : Fu := ⟨(cSeq (cReg (regC [sSet 2 (xMov (.c (.c (.o (.s [])))))]))
  (cSeq (cSeq (cReg (regC [sPush (xBin (bEq 1) (.f 0) (.c (.c (.o (.s []))))),
    sIf (.l 0) false (sPush (xMov (.f 1))) (sPush (xMov (.c udf))),
    sIf (.l 1) false (sPush (xBin (bEq 1) (.l 0) (.c (.c (.o (.s [])))))) (sPush (xMov (.c udf))),
    sSet 5 (xPick (.l 2) (.c (.c (.o (.b true)))) (.l 0))]))
  (cCond (.f 5) (cSeq (cReg (regC [sSet 2 (xMov (.f 0))]))
  cRet) cSkip))
  (cSeq (cSeq (cReg (regC [sPush (xLenT (.f 1)),
    sPush (xBin (bEq 0) (.l 0) (.c (.c (.i 3 1)))),
    sIf (.l 0) true (sPush (xMov (.f 1))) (sPush (xMov (.c udf))),
    sIf (.l 1) true (sPush (xIxT (.l 0) (.c (.c (.i 3 0))))) (sPush (xMov (.c udf))),
    sIf (.l 2) true (sPush (xBin (bLss 4 256 0) (.l 0) (.c (.c (.i 4 128))))) (sPush (xMov (.c udf))),
    sSet 6 (xPick (.l 3) (.l 0) (.c (.c (.o (.b false)))))]))
  (cCond (.f 6) (cSeq (cReg (regC [sPush (xIxT (.f 1) (.c (.c (.i 3 0)))),
    sPush (xIxT (.f 1) (.c (.c (.i 3 0)))),
    sPush (xCalF 186 [(.f 0), (.l 1)]),
    sPush (xCalF 185 [(.l 0), (.l 1)]),
    sSet 2 (xMov (.l 0))]))
  cRet) cSkip))
  (cSeq (cSeq (cReg (regC [sPush (xCalF 187 [(.f 1)]),
    sPush (xExt (.l 0) 0),
    sPush (xExt (.l 1) 1),
    sSet 3 (xAlc 300 [.o (.b false), .o (.b false), .o (.b false), .o (.b false), .o (.b false), .o (.b false), .o (.b false), .o (.b false), .o (.b false), .o (.b false), .o (.b false), .o (.b false), .o (.b false), .o (.b false), .o (.b false), .o (.b false), .o (.b false), .o (.b false), .o (.b false), .o (.b false), .o (.b false), .o (.b false), .o (.b false), .o (.b false), .o (.b false), .o (.b false), .o (.b false), .o (.b false), .o (.b false), .o (.b false), .o (.b false), .o (.b false), .o (.b false), .o (.b false), .o (.b false), .o (.b false), .o (.b false), .o (.b false), .o (.b false), .o (.b false), .o (.b false), .o (.b false), .o (.b false), .o (.b false), .o (.b false), .o (.b false), .o (.b false), .o (.b false), .o (.b false), .o (.b false), .o (.b false), .o (.b false), .o (.b false), .o (.b false), .o (.b false), .o (.b false), .o (.b false), .o (.b false), .o (.b false), .o (.b false), .o (.b false), .o (.b false), .o (.b false), .o (.b false), .o (.b false), .o (.b false), .o (.b false), .o (.b false), .o (.b false), .o (.b false), .o (.b false), .o (.b false), .o (.b false), .o (.b false), .o (.b false), .o (.b false), .o (.b false), .o (.b false), .o (.b false), .o (.b false), .o (.b false), .o (.b false), .o (.b false), .o (.b false), .o (.b false), .o (.b false), .o (.b false), .o (.b false), .o (.b false), .o (.b false), .o (.b false), .o (.b false), .o (.b false), .o (.b false), .o (.b false), .o (.b false), .o (.b false), .o (.b false), .o (.b false), .o (.b false), .o (.b false), .o (.b false), .o (.b false), .o (.b false), .o (.b false), .o (.b false), .o (.b false), .o (.b false), .o (.b false), .o (.b false), .o (.b false), .o (.b false), .o (.b false), .o (.b false), .o (.b false), .o (.b false), .o (.b false), .o (.b false), .o (.b false), .o (.b false), .o (.b false), .o (.b false), .o (.b false), .o (.b false), .o (.b false), .o (.b false), .o (.b false), .o (.b false), .o (.b false), .o (.b false), .o (.b false), .o (.b false), .o (.b false), .o (.b false), .o (.b false), .o (.b false), .o (.b false), .o (.b false), .o (.b false), .o (.b false), .o (.b false), .o (.b false), .o (.b false), .o (.b false), .o (.b false), .o (.b false), .o (.b false), .o (.b false), .o (.b false), .o (.b false), .o (.b false), .o (.b false), .o (.b false), .o (.b false), .o (.b false), .o (.b false), .o (.b false), .o (.b false), .o (.b false), .o (.b false), .o (.b false), .o (.b false), .o (.b false), .o (.b false), .o (.b false), .o (.b false), .o (.b false), .o (.b false), .o (.b false), .o (.b false), .o (.b false), .o (.b false), .o (.b false), .o (.b false), .o (.b false), .o (.b false), .o (.b false), .o (.b false), .o (.b false), .o (.b false), .o (.b false), .o (.b false), .o (.b false), .o (.b false), .o (.b false), .o (.b false), .o (.b false), .o (.b false), .o (.b false), .o (.b false), .o (.b false), .o (.b false), .o (.b false), .o (.b false), .o (.b false), .o (.b false), .o (.b false), .o (.b false), .o (.b false), .o (.b false), .o (.b false), .o (.b false), .o (.b false), .o (.b false), .o (.b false), .o (.b false), .o (.b false), .o (.b false), .o (.b false), .o (.b false), .o (.b false), .o (.b false), .o (.b false), .o (.b false), .o (.b false), .o (.b false), .o (.b false), .o (.b false), .o (.b false), .o (.b false), .o (.b false), .o (.b false), .o (.b false), .o (.b false), .o (.b false), .o (.b false), .o (.b false), .o (.b false), .o (.b false), .o (.b false), .o (.b false), .o (.b false), .o (.b false), .o (.b false), .o (.b false), .o (.b false), .o (.b false), .o (.b false), .o (.b false), .o (.b false), .o (.b false), .o (.b false), .o (.b false), .o (.b false), .o (.b false), .o (.b false), .o (.b false), .o (.b false), .o (.b false), .o (.b false), .o (.b false), .o (.b false), .o (.b false), .o (.b false), .o (.b false), .o (.b false)]),
    sDo (xStA 256 (.f 3) (.l 1)),
    sSet 4 (xMov (.l 0))]))
  (cSeq (cReg (regC [sSet 7 (xMov (.f 4))]))
  (cCond (.f 7) (cSeq (cReg (regC [sPush (xCalF 189 [(.f 0), (.f 3)]),
    sPush (xCalF 188 [(.l 0), (.f 3)]),
    sSet 2 (xMov (.l 0))]))
  cRet) cSkip)))
  (cSeq (cReg (regC [sPush (xCalF 191 [(.f 0), (.f 1)]),
    sPush (xCalF 190 [(.l 0), (.f 1)]),
    sSet 2 (xMov (.l 0))]))
  cRet))))),
  [.v (.f 2)], 2⟩
def m139 : List (Nat × Nat) := [(0, 0), (1, 1), (3, 2), (4, 3)]
/-- slices.Contains[[][2]string,[2]string] -/
noncomputable def u139 : Fu := ⟨(cSeq (cReg (regC [sSet 2 (xBox 156 (.f 1)),
    sSet 3 (xMov (.c (.c (.o (.b false)))))]))
  (cSeq (cReg (regC [sPush (xLdA 2 (.f 2)),
    sPush (xCalF 192 [(.f 0), (.l 0)]),
    sPush (xBin (bGeq 3 18446744073709551616 9223372036854775808) (.l 0) (.c (.c (.i 3 0)))),
    sSet 3 (xMov (.l 0))]))
  cRet)),
  [.v (.f 3)], 2⟩
def m140 : List (Nat × Nat) := [(0, 0), (1, 1), (2, 2), (4, 3)]
/-- legate/route.isPath$1 -/
noncomputable def u140 : Fu := ⟨(cSeq (cReg (regC [sSet 3 (xMov (.c (.c (.o (.b false)))))]))
  (cSeq (cReg (regC [sPush (xFld (.f 1) 0),
    sPush (xLd1 (.l 0)),
    sPush (xCalF 56 [(.l 0), (.f 0)]),
    sPush (xNot (.l 0)),
    sIf (.l 0) false (sPush (xMov (.f 0))) (sPush (xMov (.c udf))),
    sIf (.l 1) false (sPush (xFld (.f 2) 0)) (sPush (xMov (.c udf))),
    sIf (.l 2) false (sPush (xLd1 (.l 0))) (sPush (xMov (.c udf))),
    sIf (.l 3) false (sPush (xBin (bEq 1) (.l 2) (.l 0))) (sPush (xMov (.c udf))),
    sPush (xPick (.l 4) (.c (.c (.o (.b true)))) (.l 0)),
    sIf (.l 0) false (sPush (xMov (.f 0))) (sPush (xMov (.c udf))),
    sIf (.l 1) false (sPush (xFld (.f 2) 1)) (sPush (xMov (.c udf))),
    sIf (.l 2) false (sPush (xLd1 (.l 0))) (sPush (xMov (.c udf))),
    sIf (.l 3) false (sPush (xBin (bEq 1) (.l 2) (.l 0))) (sPush (xMov (.c udf))),
    sPush (xPick (.l 4) (.c (.c (.o (.b true)))) (.l 0)),
    sSet 3 (xMov (.l 0))]))
  cRet)),
  [.v (.f 3)], 3⟩
def m141 : List (Nat × Nat) := [(0, 0), (1, 1), (4, 2), (5, 3), (7, 4), (8, 5), (9, 6), (16, 7)]
/-- slices.IndexFunc[[][2]string,[2]string] -/
noncomputable def u141 : Fu := ⟨(cSeq (cReg (regC [sSet 2 (xMov (.c (.c (.i 3 0))))]))
  (cSeq (cSeq (cReg (regC [sSet 4 (xLen (.f 0)),
    sSet 5 (xMov (.c (.c (.i 3 0))))]))
  (cBlock 0 (cLoop (cSeq (cReg (regC [sSet 6 (xBin (bLss 3 18446744073709551616 9223372036854775808) (.f 5) (.f 4))]))
  (cSeq (cCond (.f 6) cSkip (cExit 0))
  (cSeq (cBlock 1 (cSeq (cReg (regC [sSet 3 (xMov (.f 5))]))
  (cSeq (cReg (regC [sPush (xIxS 2 (.f 0) (.f 3)),
    sPush (xLdA 2 (.l 0)),
    sSet 7 (xCal (.f 1) [(.l 0)])]))
  (cCond (.f 7) (cSeq (cReg (regC [sSet 2 (xMov (.f 3))]))
  cRet) cSkip))))
  (cReg (regC [sPush (xBin (bAdd 3 18446744073709551616) (.f 5) (.c (.c (.i 3 1)))),
    sSet 5 (xMov (.l 0))]))))))))
  (cSeq (cReg (regC [sSet 2 (xMov (.c (.c (.i 3 18446744073709551615))))]))
  cRet))),
  [.v (.f 2)], 2⟩
def m142 : List (Nat × Nat) := [(0, 0), (1, 1), (4, 2), (5, 3), (7, 4), (8, 5), (9, 6), (16, 7)]
/-- slices.IndexFunc[[]string,string] -/
noncomputable def u142 : Fu := ⟨(cSeq (cReg (regC [sSet 2 (xMov (.c (.c (.i 3 0))))]))
  (cSeq (cSeq (cReg (regC [sSet 4 (xLen (.f 0)),
    sSet 5 (xMov (.c (.c (.i 3 0))))]))
  (cBlock 0 (cLoop (cSeq (cReg (regC [sSet 6 (xBin (bLss 3 18446744073709551616 9223372036854775808) (.f 5) (.f 4))]))
  (cSeq (cCond (.f 6) cSkip (cExit 0))
  (cSeq (cBlock 1 (cSeq (cReg (regC [sSet 3 (xMov (.f 5))]))
  (cSeq (cReg (regC [sPush (xIxS 1 (.f 0) (.f 3)),
    sPush (xLd1 (.l 0)),
    sSet 7 (xCal (.f 1) [(.l 0)])]))
  (cCond (.f 7) (cSeq (cReg (regC [sSet 2 (xMov (.f 3))]))
  cRet) cSkip))))
  (cReg (regC [sPush (xBin (bAdd 3 18446744073709551616) (.f 5) (.c (.c (.i 3 1)))),
    sSet 5 (xMov (.l 0))]))))))))
  (cSeq (cReg (regC [sSet 2 (xMov (.c (.c (.i 3 18446744073709551615))))]))
  cRet))),
  [.v (.f 2)], 2⟩
def m143 : List (Nat × Nat) := [(0, 0), (1, 1), (2, 2), (3, 3), (6, 4), (7, 5), (8, 6), (10, 7)]
/-- legate/legateref2.Block -/
noncomputable def u143 : Fu := ⟨(cSeq (cReg (regC [sSet 3 (xBox 222 (.f 0)),
    sSet 4 (xMov (.c (.c (.i 6 0)))),
    sSet 5 (xMov (.c (.c (.i 6 0))))]))
  (cSeq (cSeq (cReg (regC [sSet 6 (xMov (.c (.c (.i 3 0))))]))
  (cBlock 0 (cLoop (cSeq (cSeq (cReg (regC [sSet 7 (xBin (bLss 3 18446744073709551616 9223372036854775808) (.f 6) (.c (.c (.i 3 27))))]))
  (cCond (.f 7) cSkip (cExit 0)))
  (cSeq (cBlock 1 (cSeq (cReg (regC [sPush (xIxA 27 1 (.f 3) (.f 6)),
    sPush (xLd1 (.l 0)),
    sPush (xCalF 144 [(.f 1), (.c (.c (.i 7 8)))]),
    sAg (.l 1) (xLd1 (.l 2)),
    sPush (xBin (bAdd 6 4294967296) (.l 0) (.f 2)),
    sPush (xBin (bXor 6) (.l 0) (.l 2)),
    sSet 1 (xMov (.l 0))]))
  (cReg (regC [sPush (xCalF 145 [(.f 2), (.c (.c (.i 7 3)))]),
    sPush (xBin (bXor 6) (.l 0) (.f 1)),
    sSet 2 (xMov (.l 0))]))))
  (cReg (regC [sPush (xBin (bAdd 3 18446744073709551616) (.f 6) (.c (.c (.i 3 1)))),
    sSet 6 (xMov (.l 0))])))))))
  (cSeq (cReg (regC [sSet 4 (xMov (.f 1)),
    sSet 5 (xMov (.f 2))]))
  cRet))),
  [.v (.f 4), .v (.f 5)], 3⟩
def m144 : List (Nat × Nat) := [(0, 0), (1, 1), (4, 2)]
/-- legate/legateref2.right -/
noncomputable def u144 : Fu := ⟨(cSeq (cReg (regC [sSet 2 (xMov (.c (.c (.i 6 0))))]))
  (cSeq (cReg (regC [sPush (xBin (bShr 6 4294967296) (.f 0) (.f 1)),
    sPush (xBin (bSub 7 18446744073709551616) (.c (.c (.i 7 32))) (.f 1)),
    sPush (xBin (bShl 6 4294967296) (.f 0) (.l 0)),
    sPush (xBin (bOr 6) (.l 2) (.l 0)),
    sSet 2 (xMov (.l 0))]))
  cRet)),
  [.v (.f 2)], 2⟩
def m145 : List (Nat × Nat) := [(0, 0), (1, 1), (4, 2)]
/-- legate/legateref2.left -/
noncomputable def u145 : Fu := ⟨(cSeq (cReg (regC [sSet 2 (xMov (.c (.c (.i 6 0))))]))
  (cSeq (cReg (regC [sPush (xBin (bShl 6 4294967296) (.f 0) (.f 1)),
    sPush (xBin (bSub 7 18446744073709551616) (.c (.c (.i 7 32))) (.f 1)),
    sPush (xBin (bShr 6 4294967296) (.f 0) (.l 0)),
    sPush (xBin (bOr 6) (.l 2) (.l 0)),
    sSet 2 (xMov (.l 0))]))
  cRet)),
  [.v (.f 2)], 2⟩
def m146 : List (Nat × Nat) := [(0, 0), (2, 1), (3, 2), (4, 3), (9, 4)]
/-- legate/legateref3.word -/
noncomputable def u146 : Fu := ⟨(cSeq (cReg (regC [sSet 1 (xMov (.c (.c (.i 7 0))))]))
  (cSeq (cReg (regC [sSet 2 (xMov (.c (.c (.i 7 0))))]))
  (cSeq (cSeq (cReg (regC [sPush (xLen (.f 0)),
    sPush (xBin (bSub 3 18446744073709551616) (.l 0) (.c (.c (.i 3 1)))),
    sSet 3 (xMov (.l 0))]))
  (cBlock 0 (cLoop (cSeq (cSeq (cReg (regC [sSet 4 (xBin (bGeq 3 18446744073709551616 9223372036854775808) (.f 3) (.c (.c (.i 3 0))))]))
  (cCond (.f 4) cSkip (cExit 0)))
  (cSeq (cBlock 1 (cReg (regC [sPush (xBin (bShl 7 18446744073709551616) (.f 2) (.c (.c (.i 7 8)))),
    sPush (xIxS 1 (.f 0) (.f 3)),
    sPush (xLd1 (.l 0)),
    sPush (xCvi 4 256 256 7 18446744073709551616 (.l 0)),
    sPush (xBin (bOr 7) (.l 3) (.l 0)),
    sSet 2 (xMov (.l 0))])))
  (cReg (regC [sPush (xBin (bSub 3 18446744073709551616) (.f 3) (.c (.c (.i 3 1)))),
    sSet 3 (xMov (.l 0))])))))))
  (cSeq (cReg (regC [sSet 1 (xMov (.f 2))]))
  cRet)))),
  [.v (.f 1)], 1⟩
def m147 : List (Nat × Nat) := [(0, 0), (1, 1)]
/-- (*legate/legateref3.state).take -/
noncomputable def u147 : Fu := ⟨(cSeq (cReg (regC [sPush (xChk (.f 0)),
    sPush (xIxA 4 1 (.l 0) (.c (.c (.i 3 3)))),
    sPush (xLd1 (.l 0)),
    sPush (xBin (bXor 7) (.l 0) (.f 1)),
    sPush (xChk (.f 0)),
    sPush (xIxA 4 1 (.l 0) (.c (.c (.i 3 3)))),
    sDo (xSt1 (.l 0) (.l 2))]))
  (cSeq (cReg (regC [sPush (xCalF 148 [(.f 0)])]))
  (cSeq (cReg (regC [sPush (xCalF 148 [(.f 0)])]))
  (cReg (regC [sPush (xChk (.f 0)),
    sPush (xIxA 4 1 (.l 0) (.c (.c (.i 3 0)))),
    sPush (xLd1 (.l 0)),
    sPush (xBin (bXor 7) (.l 0) (.f 1)),
    sPush (xChk (.f 0)),
    sPush (xIxA 4 1 (.l 0) (.c (.c (.i 3 0)))),
    sDo (xSt1 (.l 0) (.l 2))]))))),
  [], 2⟩
def m148 : List (Nat × Nat) := [(0, 0)]
/-- (*legate/legateref3.state).round -/
noncomputable def u148 : Fu := ⟨(cSeq (cReg (regC [sPush (xChk (.f 0)),
    sPush (xIxA 4 1 (.l 0) (.c (.c (.i 3 0)))),
    sPush (xLd1 (.l 0)),
    sPush (xChk (.f 0)),
    sPush (xIxA 4 1 (.l 0) (.c (.c (.i 3 1)))),
    sPush (xLd1 (.l 0)),
    sPush (xBin (bAdd 7 18446744073709551616) (.l 3) (.l 0)),
    sPush (xChk (.f 0)),
    sPush (xIxA 4 1 (.l 0) (.c (.c (.i 3 0)))),
    sDo (xSt1 (.l 0) (.l 2))]))
  (cSeq (cReg (regC [sPush (xChk (.f 0)),
    sPush (xIxA 4 1 (.l 0) (.c (.c (.i 3 1)))),
    sPush (xLd1 (.l 0)),
    sPush (xChk (.f 0)),
    sPush (xIxA 4 1 (.l 0) (.c (.c (.i 3 0)))),
    sPush (xLd1 (.l 0)),
    sPush (xChk (.f 0)),
    sPush (xCalF 193 [(.l 4), (.c (.c (.i 7 13)))]),
    sAg (.l 2) (xLd1 (.l 3)),
    sPush (xBin (bXor 7) (.l 0) (.l 2)),
    sPush (xIxA 4 1 (.l 2) (.c (.c (.i 3 1)))),
    sDo (xSt1 (.l 0) (.l 1))]))
  (cSeq (cReg (regC [sPush (xChk (.f 0)),
    sPush (xIxA 4 1 (.l 0) (.c (.c (.i 3 0)))),
    sPush (xLd1 (.l 0)),
    sPush (xChk (.f 0)),
    sPush (xCalF 193 [(.l 1), (.c (.c (.i 7 32)))]),
    sPush (xIxA 4 1 (.l 1) (.c (.c (.i 3 0)))),
    sDo (xSt1 (.l 0) (.l 1))]))
  (cSeq (cReg (regC [sPush (xChk (.f 0)),
    sPush (xIxA 4 1 (.l 0) (.c (.c (.i 3 2)))),
    sPush (xLd1 (.l 0)),
    sPush (xChk (.f 0)),
    sPush (xIxA 4 1 (.l 0) (.c (.c (.i 3 3)))),
    sPush (xLd1 (.l 0)),
    sPush (xBin (bAdd 7 18446744073709551616) (.l 3) (.l 0)),
    sPush (xChk (.f 0)),
    sPush (xIxA 4 1 (.l 0) (.c (.c (.i 3 2)))),
    sDo (xSt1 (.l 0) (.l 2))]))
  (cSeq (cReg (regC [sPush (xChk (.f 0)),
    sPush (xIxA 4 1 (.l 0) (.c (.c (.i 3 3)))),
    sPush (xLd1 (.l 0)),
    sPush (xChk (.f 0)),
    sPush (xIxA 4 1 (.l 0) (.c (.c (.i 3 2)))),
    sPush (xLd1 (.l 0)),
    sPush (xChk (.f 0)),
    sPush (xCalF 193 [(.l 4), (.c (.c (.i 7 16)))]),
    sAg (.l 2) (xLd1 (.l 3)),
    sPush (xBin (bXor 7) (.l 0) (.l 2)),
    sPush (xIxA 4 1 (.l 2) (.c (.c (.i 3 3)))),
    sDo (xSt1 (.l 0) (.l 1))]))
  (cSeq (cReg (regC [sPush (xChk (.f 0)),
    sPush (xIxA 4 1 (.l 0) (.c (.c (.i 3 0)))),
    sPush (xLd1 (.l 0)),
    sPush (xChk (.f 0)),
    sPush (xIxA 4 1 (.l 0) (.c (.c (.i 3 3)))),
    sPush (xLd1 (.l 0)),
    sPush (xBin (bAdd 7 18446744073709551616) (.l 3) (.l 0)),
    sPush (xChk (.f 0)),
    sPush (xIxA 4 1 (.l 0) (.c (.c (.i 3 0)))),
    sDo (xSt1 (.l 0) (.l 2))]))
  (cSeq (cReg (regC [sPush (xChk (.f 0)),
    sPush (xIxA 4 1 (.l 0) (.c (.c (.i 3 3)))),
    sPush (xLd1 (.l 0)),
    sPush (xChk (.f 0)),
    sPush (xIxA 4 1 (.l 0) (.c (.c (.i 3 0)))),
    sPush (xLd1 (.l 0)),
    sPush (xChk (.f 0)),
    sPush (xCalF 193 [(.l 4), (.c (.c (.i 7 21)))]),
    sAg (.l 2) (xLd1 (.l 3)),
    sPush (xBin (bXor 7) (.l 0) (.l 2)),
    sPush (xIxA 4 1 (.l 2) (.c (.c (.i 3 3)))),
    sDo (xSt1 (.l 0) (.l 1))]))
  (cSeq (cReg (regC [sPush (xChk (.f 0)),
    sPush (xIxA 4 1 (.l 0) (.c (.c (.i 3 2)))),
    sPush (xLd1 (.l 0)),
    sPush (xChk (.f 0)),
    sPush (xIxA 4 1 (.l 0) (.c (.c (.i 3 1)))),
    sPush (xLd1 (.l 0)),
    sPush (xBin (bAdd 7 18446744073709551616) (.l 3) (.l 0)),
    sPush (xChk (.f 0)),
    sPush (xIxA 4 1 (.l 0) (.c (.c (.i 3 2)))),
    sDo (xSt1 (.l 0) (.l 2))]))
  (cSeq (cReg (regC [sPush (xChk (.f 0)),
    sPush (xIxA 4 1 (.l 0) (.c (.c (.i 3 1)))),
    sPush (xLd1 (.l 0)),
    sPush (xChk (.f 0)),
    sPush (xIxA 4 1 (.l 0) (.c (.c (.i 3 2)))),
    sPush (xLd1 (.l 0)),
    sPush (xChk (.f 0)),
    sPush (xCalF 193 [(.l 4), (.c (.c (.i 7 17)))]),
    sAg (.l 2) (xLd1 (.l 3)),
    sPush (xBin (bXor 7) (.l 0) (.l 2)),
    sPush (xIxA 4 1 (.l 2) (.c (.c (.i 3 1)))),
    sDo (xSt1 (.l 0) (.l 1))]))
  (cReg (regC [sPush (xChk (.f 0)),
    sPush (xIxA 4 1 (.l 0) (.c (.c (.i 3 2)))),
    sPush (xLd1 (.l 0)),
    sPush (xChk (.f 0)),
    sPush (xCalF 193 [(.l 1), (.c (.c (.i 7 32)))]),
    sPush (xIxA 4 1 (.l 1) (.c (.c (.i 3 2)))),
    sDo (xSt1 (.l 0) (.l 1))]))))))))))),
  [], 1⟩
def m149 : List (Nat × Nat) := [(0, 0), (1, 1), (4, 2)]
/-- bytes.Equal -/
noncomputable def u149 : Fu := ⟨(cSeq (cReg (regC [sSet 2 (xMov (.c (.c (.o (.b false)))))]))
  (cSeq (cReg (regC [sPush (xB2s (.f 0)),
    sPush (xB2s (.f 1)),
    sPush (xBin (bEq 1) (.l 1) (.l 0)),
    sSet 2 (xMov (.l 0))]))
  cRet)),
  [.v (.f 2)], 2⟩
def m150 : List (Nat × Nat) := [(0, 0), (1, 1), (4, 2)]
/-- legate/msg.in -/
noncomputable def u150 : Fu := ⟨(cSeq (cReg (regC [sSet 2 (xAlc 275 [.o (.np)])]))
  (cSeq (cReg (regC [sPush (xCalF 194 [(.f 0)]),
    sPush (xCalF 195 [(.l 0), (.f 1)]),
    sPush (xBld [.o (.np)] [.mk 0 1 (.l 0)]),
    sDo (xStA 1 (.f 2) (.l 0))]))
  cRet)),
  [.cn (.f 2) 1], 2⟩
def m151 : List (Nat × Nat) := [(0, 0), (1, 1), (2, 2), (3, 3), (4, 4)]
/-- (legate/msg.taker).princ -/
noncomputable def u151 : Fu := ⟨(cSeq (cReg (regC [sSet 1 (xBox 275 (.f 0)),
    sSet 2 (xAlc 26 [.o (.s []), .o (.s [])])]))
  (cSeq (cReg (regC [sPush (xFld (.f 1) 0),
    sPush (xLd1 (.l 0)),
    sPush (xCalF 195 [(.l 0), (.c (.c (.i 4 48)))]),
    sSet 3 (xMov (.l 0))]))
  (cSeq (cReg (regC [sPush (xCalF 165 [(.f 3)]),
    sSet 4 (xMov (.l 0))]))
  (cSeq (cReg (regC [sPush (xCalF 165 [(.f 3)]),
    sPush (xBld [.o (.s []), .o (.s [])] [.mk 0 1 (.f 4), .mk 1 1 (.l 0)]),
    sDo (xStA 2 (.f 2) (.l 0))]))
  cRet)))),
  [.cn (.f 2) 2], 1⟩
def m152 : List (Nat × Nat) := [(0, 0), (2, 1), (3, 2), (4, 3), (5, 4), (7, 5), (14, 6), (19, 7), (20, 8), (21, 9), (22, 10), (37, 11)]
/-- (*legate/der.Cursor).Int -/
noncomputable def u152 : Fu := ⟨(cSeq (cReg (regC [sSet 1 (xMov (.c (.c (.i 3 0))))]))
  (cSeq (cReg (regC [sPush (xCalF 196 [(.f 0), (.c (.c (.i 4 2)))]),
    sPush (xExt (.l 0) 0),
    sPush (xExt (.l 1) 1),
    sSet 2 (xMov (.l 1)),
    sSet 3 (xMov (.l 0))]))
  (cSeq (cSeq (cReg (regC [sSet 6 (xNot (.f 3))]))
  (cCond (.f 6) (cSeq (cReg (regC [sSet 1 (xMov (.c (.c (.i 3 0))))]))
  cRet) cSkip))
  (cSeq (cReg (regC [sSet 4 (xMov (.c (.c (.i 3 0))))]))
  (cSeq (cSeq (cReg (regC [sPush (xLen (.f 2)),
    sPush (xBin (bMin 3 18446744073709551616 9223372036854775808) (.l 0) (.c (.c (.i 3 8)))),
    sSet 7 (xCutL 1 (.f 2) none (some (.l 0))),
    sSet 8 (xLen (.f 7)),
    sSet 9 (xMov (.c (.c (.i 3 0))))]))
  (cBlock 0 (cLoop (cSeq (cReg (regC [sSet 10 (xBin (bLss 3 18446744073709551616 9223372036854775808) (.f 9) (.f 8))]))
  (cSeq (cCond (.f 10) cSkip (cExit 0))
  (cSeq (cBlock 1 (cSeq (cReg (regC [sPush (xIxS 1 (.f 7) (.f 9)),
    sPush (xLd1 (.l 0)),
    sSet 5 (xMov (.l 0))]))
  (cReg (regC [sPush (xBin (bShl 3 18446744073709551616) (.f 4) (.c (.c (.i 7 8)))),
    sPush (xCvi 4 256 256 3 18446744073709551616 (.f 5)),
    sPush (xBin (bAdd 3 18446744073709551616) (.l 1) (.l 0)),
    sSet 4 (xMov (.l 0))]))))
  (cReg (regC [sPush (xBin (bAdd 3 18446744073709551616) (.f 9) (.c (.c (.i 3 1)))),
    sSet 9 (xMov (.l 0))]))))))))
  (cSeq (cSeq (cReg (regC [sPush (xCalF 197 [(.f 2)]),
    sPush (xNot (.l 0)),
    sIf (.l 0) false (sPush (xMov (.f 4))) (sPush (xMov (.c udf))),
    sIf (.l 1) false (sPush (xBin (bGtr 3 18446744073709551616 9223372036854775808) (.l 0) (.c (.c (.i 3 4611686018427387904))))) (sPush (xMov (.c udf))),
    sSet 11 (xPick (.l 2) (.c (.c (.o (.b true)))) (.l 0))]))
  (cCond (.f 11) (cSeq (cReg (regC [sPush (xCalF 198 [(.f 0)])]))
  (cSeq (cReg (regC [sSet 1 (xMov (.c (.c (.i 3 0))))]))
  cRet)) cSkip))
  (cSeq (cReg (regC [sSet 1 (xMov (.f 4))]))
  cRet))))))),
  [.v (.f 1)], 1⟩
def m153 : List (Nat × Nat) := [(0, 0), (1, 1), (2, 2), (3, 3), (4, 4)]
/-- (legate/msg.taker).ticket -/
noncomputable def u153 : Fu := ⟨(cSeq (cReg (regC [sSet 1 (xBox 275 (.f 0)),
    sSet 2 (xAlc 50 [.o (.s []), .o (.s []), .i 3 0, .o (.ns)])]))
  (cSeq (cReg (regC [sPush (xFld (.f 1) 0),
    sPush (xLd1 (.l 0)),
    sPush (xCalF 195 [(.l 0), (.c (.c (.i 4 97)))]),
    sPush (xBld [.o (.np)] [.mk 0 1 (.l 0)]),
    sSet 3 (xAlc 275 [.o (.np)]),
    sDo (xStA 1 (.f 3) (.l 0))]))
  (cSeq (cReg (regC [sPush (xLdA 1 (.f 3)),
    sPush (xCalF 151 [(.l 0)]),
    sPush (xBld [.o (.s []), .o (.s []), .i 3 0, .o (.ns)] [.mk 0 2 (.l 0)]),
    sSet 4 (xAlc 50 [.o (.s []), .o (.s []), .i 3 0, .o (.ns)]),
    sDo (xStA 4 (.f 4) (.l 0))]))
  (cSeq (cReg (regC [sPush (xFld (.f 3) 0),
    sPush (xLd1 (.l 0)),
    sPush (xCalF 152 [(.l 0)]),
    sPush (xFld (.f 4) 2),
    sDo (xSt1 (.l 0) (.l 1))]))
  (cSeq (cReg (regC [sPush (xFld (.f 3) 0),
    sPush (xLd1 (.l 0)),
    sPush (xCalF 154 [(.l 0)]),
    sPush (xFld (.f 4) 3),
    sDo (xSt1 (.l 0) (.l 1))]))
  (cSeq (cReg (regC [sPush (xLdA 4 (.f 4)),
    sDo (xStA 4 (.f 2) (.l 0))]))
  cRet)))))),
  [.cn (.f 2) 4], 1⟩
def m154 : List (Nat × Nat) := [(0, 0), (2, 1), (3, 2)]
/-- (*legate/der.Cursor).Octets -/
noncomputable def u154 : Fu := ⟨(cSeq (cReg (regC [sSet 1 (xMov (.c (.c (.o (.ns)))))]))
  (cSeq (cReg (regC [sPush (xCalF 196 [(.f 0), (.c (.c (.i 4 4)))]),
    sPush (xExt (.l 0) 0),
    sPush (xExt (.l 1) 1),
    sSet 2 (xMov (.l 1))]))
  (cSeq (cReg (regC [sSet 1 (xMov (.f 2))]))
  cRet))),
  [.v (.f 1)], 1⟩
def m155 : List (Nat × Nat) := [(0, 0), (1, 1), (2, 2), (3, 3), (4, 4), (5, 5), (7, 6), (8, 7), (31, 8), (59, 9), (77, 10), (89, 11)]
/-- legate/msg.is -/
noncomputable def u155 : Fu := ⟨(cSeq (cReg (regC [sSet 1 (xBox 60 (.f 0)),
    sSet 2 (xMov (.c (.c (.o (.b false)))))]))
  (cSeq (cReg (regC [sSet 3 (xMov (.c (.c (.o (.b false)))))]))
  (cSeq (cSeq (cReg (regC [sPush (xFld (.f 1) 0),
    sSet 6 (xLd1 (.l 0))]))
  (cBlock 0 (cSeq (cReg (regC [sPush (xBin (bEq 0) (.f 6) (.c (.c (.i 3 1)))),
    sSet 7 (xMov (.l 0))]))
  (cCond (.f 7) (cSeq (cReg (regC [sPush (xFld (.f 1) 1),
    sPush (xLdA 6 (.l 0)),
    sSet 4 (xAlc 48 [.o (.s []), .o (.s []), .o (.s []), .o (.s []), .i 3 0, .i 3 0]),
    sDo (xStA 6 (.f 4) (.l 0))]))
  (cReg (regC [sPush (xFld (.f 4) 0),
    sPush (xLdA 2 (.l 0)),
    sPush (xCalF 51 [(.l 0)]),
    sIf (.l 0) true (sPush (xFld (.f 4) 2)) (sPush (xMov (.c udf))),
    sIf (.l 1) true (sPush (xLdA 2 (.l 0))) (sPush (xMov (.c udf))),
    sIf (.l 2) true (sPush (xCalF 51 [(.l 0)])) (sPush (xMov (.c udf))),
    sPush (xPick (.l 3) (.l 0) (.c (.c (.o (.b false))))),
    sIf (.l 0) true (sPush (xFld (.f 4) 4)) (sPush (xMov (.c udf))),
    sIf (.l 1) true (sPush (xLd1 (.l 0))) (sPush (xMov (.c udf))),
    sIf (.l 2) true (sPush (xBls 3 1 [.i 3 0] [.mk 0 1 (.l 0)])) (sPush (xMov (.c udf))),
    sIf (.l 3) true (sPush (xCalF 199 [(.l 0)])) (sPush (xMov (.c udf))),
    sPush (xPick (.l 4) (.l 0) (.c (.c (.o (.b false))))),
    sIf (.l 0) true (sPush (xFld (.f 4) 5)) (sPush (xMov (.c udf))),
    sIf (.l 1) true (sPush (xLd1 (.l 0))) (sPush (xMov (.c udf))),
    sIf (.l 2) true (sPush (xCalF 200 [(.l 0)])) (sPush (xMov (.c udf))),
    sPush (xPick (.l 3) (.l 0) (.c (.c (.o (.b false))))),
    sSet 3 (xMov (.l 0))]))) (cSeq (cReg (regC [sPush (xBin (bEq 0) (.f 6) (.c (.c (.i 3 2)))),
    sSet 8 (xMov (.l 0))]))
  (cCond (.f 8) (cSeq (cReg (regC [sPush (xFld (.f 1) 7),
    sPush (xLdA 9 (.l 0)),
    sSet 5 (xAlc 52 [.o (.s []), .o (.s []), .i 3 0, .o (.ns), .o (.ns), .o (.s []), .o (.s []), .i 3 0, .i 3 0]),
    sDo (xStA 9 (.f 5) (.l 0))]))
  (cReg (regC [sPush (xFld (.f 5) 0),
    sPush (xLdA 4 (.l 0)),
    sPush (xCalF 201 [(.l 0)]),
    sIf (.l 0) true (sPush (xFld (.f 5) 4)) (sPush (xMov (.c udf))),
    sIf (.l 1) true (sPush (xLd1 (.l 0))) (sPush (xMov (.c udf))),
    sIf (.l 2) true (sPush (xCalF 202 [(.l 0)])) (sPush (xMov (.c udf))),
    sPush (xPick (.l 3) (.l 0) (.c (.c (.o (.b false))))),
    sIf (.l 0) true (sPush (xFld (.f 5) 5)) (sPush (xMov (.c udf))),
    sIf (.l 1) true (sPush (xLdA 2 (.l 0))) (sPush (xMov (.c udf))),
    sIf (.l 2) true (sPush (xCalF 51 [(.l 0)])) (sPush (xMov (.c udf))),
    sPush (xPick (.l 3) (.l 0) (.c (.c (.o (.b false))))),
    sIf (.l 0) true (sPush (xFld (.f 5) 7)) (sPush (xMov (.c udf))),
    sIf (.l 1) true (sPush (xLd1 (.l 0))) (sPush (xMov (.c udf))),
    sIf (.l 2) true (sPush (xBls 3 1 [.i 3 0] [.mk 0 1 (.l 0)])) (sPush (xMov (.c udf))),
    sIf (.l 3) true (sPush (xCalF 199 [(.l 0)])) (sPush (xMov (.c udf))),
    sPush (xPick (.l 4) (.l 0) (.c (.c (.o (.b false))))),
    sIf (.l 0) true (sPush (xFld (.f 5) 8)) (sPush (xMov (.c udf))),
    sIf (.l 1) true (sPush (xLd1 (.l 0))) (sPush (xMov (.c udf))),
    sIf (.l 2) true (sPush (xCalF 200 [(.l 0)])) (sPush (xMov (.c udf))),
    sPush (xPick (.l 3) (.l 0) (.c (.c (.o (.b false))))),
    sSet 3 (xMov (.l 0))]))) (cSeq (cReg (regC [sPush (xBin (bEq 0) (.f 6) (.c (.c (.i 3 3)))),
    sSet 9 (xMov (.l 0))]))
  (cCond (.f 9) (cReg (regC [sPush (xFld (.f 1) 16),
    sPush (xFld (.l 0) 0),
    sPush (xLdA 2 (.l 0)),
    sPush (xCalF 51 [(.l 0)]),
    sIf (.l 0) true (sPush (xFld (.f 1) 16)) (sPush (xMov (.c udf))),
    sIf (.l 1) true (sPush (xFld (.l 0) 2)) (sPush (xMov (.c udf))),
    sIf (.l 2) true (sPush (xLdA 4 (.l 0))) (sPush (xMov (.c udf))),
    sIf (.l 3) true (sPush (xCalF 201 [(.l 0)])) (sPush (xMov (.c udf))),
    sPush (xPick (.l 4) (.l 0) (.c (.c (.o (.b false))))),
    sIf (.l 0) true (sPush (xFld (.f 1) 16)) (sPush (xMov (.c udf))),
    sIf (.l 1) true (sPush (xFld (.l 0) 6)) (sPush (xMov (.c udf))),
    sIf (.l 2) true (sPush (xLd1 (.l 0))) (sPush (xMov (.c udf))),
    sIf (.l 3) true (sPush (xCalF 202 [(.l 0)])) (sPush (xMov (.c udf))),
    sPush (xPick (.l 4) (.l 0) (.c (.c (.o (.b false))))),
    sSet 3 (xMov (.l 0))])) (cSeq (cReg (regC [sPush (xBin (bEq 0) (.f 6) (.c (.c (.i 3 4)))),
    sSet 10 (xMov (.l 0))]))
  (cCond (.f 10) (cReg (regC [sPush (xFld (.f 1) 23),
    sPush (xFld (.l 0) 0),
    sPush (xLdA 4 (.l 0)),
    sPush (xCalF 201 [(.l 0)]),
    sIf (.l 0) true (sPush (xFld (.f 1) 23)) (sPush (xMov (.c udf))),
    sIf (.l 1) true (sPush (xFld (.l 0) 4)) (sPush (xMov (.c udf))),
    sIf (.l 2) true (sPush (xLd1 (.l 0))) (sPush (xMov (.c udf))),
    sIf (.l 3) true (sPush (xCalF 202 [(.l 0)])) (sPush (xMov (.c udf))),
    sPush (xPick (.l 4) (.l 0) (.c (.c (.o (.b false))))),
    sSet 3 (xMov (.l 0))])) (cSeq (cReg (regC [sPush (xBin (bEq 0) (.f 6) (.c (.c (.i 3 5)))),
    sSet 11 (xMov (.l 0))]))
  (cCond (.f 11) (cReg (regC [sPush (xFld (.f 1) 28),
    sPush (xFld (.l 0) 0),
    sPush (xLd1 (.l 0)),
    sPush (xCalF 203 [(.l 0), (.c (.c (.i 3 1))), (.c (.c (.i 3 255)))]),
    sIf (.l 0) true (sPush (xFld (.f 1) 28)) (sPush (xMov (.c udf))),
    sIf (.l 1) true (sPush (xFld (.l 0) 1)) (sPush (xMov (.c udf))),
    sIf (.l 2) true (sPush (xLd1 (.l 0))) (sPush (xMov (.c udf))),
    sIf (.l 3) true (sPush (xCalF 200 [(.l 0)])) (sPush (xMov (.c udf))),
    sPush (xPick (.l 4) (.l 0) (.c (.c (.o (.b false))))),
    sSet 3 (xMov (.l 0))])) cSkip))))))))))))
  (cSeq (cReg (regC [sIf (.f 3) true (sPush (xLdA 30 (.f 1))) (sPush (xMov (.c udf))),
    sIf (.f 3) true (sPush (xCalF 204 [(.l 0)])) (sPush (xMov (.c udf))),
    sPush (xPick (.f 3) (.l 0) (.c (.c (.o (.b false))))),
    sSet 2 (xMov (.l 0))]))
  cRet)))),
  [.v (.f 2)], 1⟩
def m156 : List (Nat × Nat) := [(0, 0), (1, 1), (4, 2), (5, 3), (12, 4)]
/-- legate/msg.limited -/
noncomputable def u156 : Fu := ⟨(cSeq (cReg (regC [sSet 2 (xMov (.c (.c (.o (.ns))))),
    sSet 3 (xMov (.c (.c (.i 3 0))))]))
  (cSeq (cSeq (cReg (regC [sPush (xNot (.f 0)),
    sIf (.l 0) false (sPush (xMov (.f 1))) (sPush (xMov (.c udf))),
    sIf (.l 1) false (sPush (xLen (.l 0))) (sPush (xMov (.c udf))),
    sIf (.l 2) false (sPush (xBin (bGtr 3 18446744073709551616 9223372036854775808) (.l 0) (.c (.c (.i 3 2000))))) (sPush (xMov (.c udf))),
    sSet 4 (xPick (.l 3) (.c (.c (.o (.b true)))) (.l 0))]))
  (cCond (.f 4) (cSeq (cReg (regC [sSet 2 (xMov (.c (.c (.o (.ns))))),
    sSet 3 (xMov (.c (.c (.i 3 1))))]))
  cRet) cSkip))
  (cSeq (cReg (regC [sSet 2 (xMov (.f 1)),
    sSet 3 (xMov (.c (.c (.i 3 0))))]))
  cRet))),
  [.v (.f 2), .v (.f 3)], 2⟩
def m157 : List (Nat × Nat) := [(0, 0), (1, 1), (2, 2), (3, 3), (4, 4), (6, 5), (7, 6), (25, 7), (46, 8), (62, 9)]
/-- legate/msg.laid -/
noncomputable def u157 : Fu := ⟨(cSeq (cReg (regC [sSet 1 (xBox 60 (.f 0)),
    sSet 2 (xMov (.c (.c (.o (.ns)))))]))
  (cSeq (cSeq (cReg (regC [sPush (xFld (.f 1) 0),
    sSet 5 (xLd1 (.l 0))]))
  (cBlock 0 (cSeq (cReg (regC [sPush (xBin (bEq 0) (.f 5) (.c (.c (.i 3 1)))),
    sSet 6 (xMov (.l 0))]))
  (cCond (.f 6) (cSeq (cReg (regC [sPush (xFld (.f 1) 1),
    sPush (xLdA 6 (.l 0)),
    sSet 3 (xAlc 48 [.o (.s []), .o (.s []), .o (.s []), .o (.s []), .i 3 0, .i 3 0]),
    sDo (xStA 6 (.f 3) (.l 0))]))
  (cSeq (cReg (regC [sPush (xFld (.f 3) 0),
    sPush (xLdA 2 (.l 0)),
    sPush (xFld (.f 3) 2),
    sPush (xLdA 2 (.l 0)),
    sPush (xFld (.f 3) 4),
    sPush (xLd1 (.l 0)),
    sPush (xFld (.f 3) 5),
    sPush (xLd1 (.l 0)),
    sPush (xCalF 206 [(.l 6)]),
    sAg (.l 1) (xLd1 (.l 2)),
    sAg (.l 3) (xLd1 (.l 4)),
    sAg (.l 5) (xLdA 2 (.l 6)),
    sPush (xCalF 206 [(.l 5)]),
    sAg (.l 2) (xLd1 (.l 3)),
    sAg (.l 4) (xLd1 (.l 5)),
    sPush (xCalF 207 [(.l 4)]),
    sAg (.l 3) (xLd1 (.l 4)),
    sPush (xCalF 207 [(.l 3)]),
    sPush (xBld [.o (.ns), .o (.ns), .o (.ns), .o (.ns)] [.mk 0 1 (.l 3), .mk 1 1 (.l 2), .mk 2 1 (.l 1), .mk 3 1 (.l 0)]),
    sPush (xMkl 34 4 (.l 0)),
    sPush (xCalF 205 [(.c (.c (.i 4 106))), (.l 0)]),
    sSet 2 (xMov (.l 0))]))
  cRet)) (cSeq (cReg (regC [sPush (xBin (bEq 0) (.f 5) (.c (.c (.i 3 2)))),
    sSet 7 (xMov (.l 0))]))
  (cCond (.f 7) (cSeq (cReg (regC [sPush (xFld (.f 1) 7),
    sPush (xLdA 9 (.l 0)),
    sSet 4 (xAlc 52 [.o (.s []), .o (.s []), .i 3 0, .o (.ns), .o (.ns), .o (.s []), .o (.s []), .i 3 0, .i 3 0]),
    sDo (xStA 9 (.f 4) (.l 0))]))
  (cSeq (cReg (regC [sPush (xFld (.f 4) 0),
    sPush (xLdA 4 (.l 0)),
    sPush (xFld (.f 4) 4),
    sPush (xLd1 (.l 0)),
    sPush (xFld (.f 4) 5),
    sPush (xLdA 2 (.l 0)),
    sPush (xFld (.f 4) 7),
    sPush (xLd1 (.l 0)),
    sPush (xFld (.f 4) 8),
    sPush (xLd1 (.l 0)),
    sPush (xCalF 208 [(.l 8)]),
    sAg (.l 1) (xLd1 (.l 2)),
    sAg (.l 3) (xLd1 (.l 4)),
    sAg (.l 5) (xLdA 2 (.l 6)),
    sAg (.l 7) (xLd1 (.l 8)),
    sPush (xCalF 209 [(.l 7)]),
    sAg (.l 2) (xLd1 (.l 3)),
    sAg (.l 4) (xLd1 (.l 5)),
    sAg (.l 6) (xLdA 2 (.l 7)),
    sPush (xCalF 206 [(.l 6)]),
    sAg (.l 3) (xLd1 (.l 4)),
    sAg (.l 5) (xLd1 (.l 6)),
    sPush (xCalF 207 [(.l 5)]),
    sAg (.l 4) (xLd1 (.l 5)),
    sPush (xCalF 207 [(.l 4)]),
    sPush (xBld [.o (.ns), .o (.ns), .o (.ns), .o (.ns), .o (.ns)] [.mk 0 1 (.l 4), .mk 1 1 (.l 3), .mk 2 1 (.l 2), .mk 3 1 (.l 1), .mk 4 1 (.l 0)]),
    sPush (xMkl 34 5 (.l 0)),
    sPush (xCalF 205 [(.c (.c (.i 4 108))), (.l 0)]),
    sSet 2 (xMov (.l 0))]))
  cRet)) (cSeq (cReg (regC [sPush (xBin (bEq 0) (.f 5) (.c (.c (.i 3 3)))),
    sSet 8 (xMov (.l 0))]))
  (cCond (.f 8) (cSeq (cReg (regC [sPush (xFld (.f 1) 16),
    sPush (xFld (.l 0) 0),
    sPush (xLdA 2 (.l 0)),
    sPush (xFld (.f 1) 16),
    sPush (xFld (.l 0) 2),
    sPush (xLdA 4 (.l 0)),
    sPush (xFld (.f 1) 16),
    sPush (xFld (.l 0) 6),
    sPush (xLd1 (.l 0)),
    sPush (xCalF 206 [(.l 6)]),
    sAg (.l 1) (xLd1 (.l 2)),
    sAg (.l 4) (xLdA 4 (.l 5)),
    sPush (xCalF 208 [(.l 4)]),
    sAg (.l 2) (xLd1 (.l 3)),
    sPush (xCalF 209 [(.l 2)]),
    sPush (xBld [.o (.ns), .o (.ns), .o (.ns)] [.mk 0 1 (.l 2), .mk 1 1 (.l 1), .mk 2 1 (.l 0)]),
    sPush (xMkl 34 3 (.l 0)),
    sPush (xCalF 205 [(.c (.c (.i 4 107))), (.l 0)]),
    sSet 2 (xMov (.l 0))]))
  cRet) (cSeq (cReg (regC [sPush (xBin (bEq 0) (.f 5) (.c (.c (.i 3 4)))),
    sSet 9 (xMov (.l 0))]))
  (cCond (.f 9) (cSeq (cReg (regC [sPush (xFld (.f 1) 23),
    sPush (xFld (.l 0) 0),
    sPush (xLdA 4 (.l 0)),
    sPush (xFld (.f 1) 23),
    sPush (xFld (.l 0) 4),
    sPush (xLd1 (.l 0)),
    sPush (xCalF 208 [(.l 3)]),
    sAg (.l 1) (xLd1 (.l 2)),
    sPush (xCalF 209 [(.l 1)]),
    sPush (xBld [.o (.ns), .o (.ns)] [.mk 0 1 (.l 1), .mk 1 1 (.l 0)]),
    sPush (xMkl 34 2 (.l 0)),
    sPush (xCalF 205 [(.c (.c (.i 4 110))), (.l 0)]),
    sSet 2 (xMov (.l 0))]))
  cRet) cSkip))))))))))
  (cSeq (cReg (regC [sPush (xFld (.f 1) 28),
    sPush (xFld (.l 0) 0),
    sPush (xLd1 (.l 0)),
    sPush (xFld (.f 1) 28),
    sPush (xFld (.l 0) 1),
    sPush (xLd1 (.l 0)),
    sPush (xCalF 207 [(.l 3)]),
    sAg (.l 1) (xLd1 (.l 2)),
    sPush (xCalF 207 [(.l 1)]),
    sPush (xBld [.o (.ns), .o (.ns)] [.mk 0 1 (.l 1), .mk 1 1 (.l 0)]),
    sPush (xMkl 34 2 (.l 0)),
    sPush (xCalF 205 [(.c (.c (.i 4 126))), (.l 0)]),
    sSet 2 (xMov (.l 0))]))
  cRet))),
  [.v (.f 2)], 1⟩
def m158 : List (Nat × Nat) := [(0, 0), (1, 1), (2, 2), (3, 3), (4, 4)]
/-- (*legate/ring.Ring).Box$1 -/
noncomputable def u158 : Fu := ⟨(cSeq (cReg (regC [sSet 3 (xBox 147 (.f 0)),
    sSet 4 (xMov (.c (.c (.o (.b false)))))]))
  (cSeq (cReg (regC [sPush (xFld (.f 3) 0),
    sPush (xLdA 2 (.l 0)),
    sPush (xLdA 2 (.f 1)),
    sPush (xBin (gEq [1, 1]) (.l 1) (.l 0)),
    sIf (.l 0) true (sPush (xFld (.f 3) 2)) (sPush (xMov (.c udf))),
    sIf (.l 1) true (sPush (xLd1 (.l 0))) (sPush (xMov (.c udf))),
    sIf (.l 2) true (sPush (xLd1 (.f 2))) (sPush (xMov (.c udf))),
    sIf (.l 3) true (sPush (xBin (bEq 0) (.l 1) (.l 0))) (sPush (xMov (.c udf))),
    sPush (xPick (.l 4) (.l 0) (.c (.c (.o (.b false))))),
    sSet 4 (xMov (.l 0))]))
  cRet)),
  [.v (.f 4)], 3⟩
def m159 : List (Nat × Nat) := [(0, 0), (2, 1)]
/-- legate/seal.isUse -/
noncomputable def u159 : Fu := ⟨(cSeq (cReg (regC [sSet 1 (xMov (.c (.c (.o (.b false)))))]))
  (cSeq (cReg (regC [sPush (xBin (bGeq 3 18446744073709551616 9223372036854775808) (.f 0) (.c (.c (.i 3 0)))),
    sIf (.l 0) true (sPush (xMov (.f 0))) (sPush (xMov (.c udf))),
    sIf (.l 1) true (sPush (xBin (bLeq 3 18446744073709551616 9223372036854775808) (.l 0) (.c (.c (.i 3 255))))) (sPush (xMov (.c udf))),
    sPush (xPick (.l 2) (.l 0) (.c (.c (.o (.b false))))),
    sSet 1 (xMov (.l 0))]))
  cRet)),
  [.v (.f 1)], 1⟩
def m160 : List (Nat × Nat) := [(0, 0), (2, 1), (3, 2), (5, 3), (6, 4), (7, 5), (8, 6), (9, 7)]
/-- legate/seal.number -/
noncomputable def u160 : Fu := ⟨(cSeq (cReg (regC [sSet 1 (xMov (.c (.c (.i 7 0))))]))
  (cSeq (cReg (regC [sSet 2 (xMov (.c (.c (.i 7 0))))]))
  (cSeq (cSeq (cReg (regC [sSet 4 (xMov (.f 0)),
    sSet 5 (xLen (.f 4)),
    sSet 6 (xMov (.c (.c (.i 3 0))))]))
  (cBlock 0 (cLoop (cSeq (cReg (regC [sSet 7 (xBin (bLss 3 18446744073709551616 9223372036854775808) (.f 6) (.f 5))]))
  (cSeq (cCond (.f 7) cSkip (cExit 0))
  (cSeq (cBlock 1 (cSeq (cReg (regC [sPush (xIxS 1 (.f 4) (.f 6)),
    sPush (xLd1 (.l 0)),
    sSet 3 (xMov (.l 0))]))
  (cReg (regC [sPush (xBin (bShl 7 18446744073709551616) (.f 2) (.c (.c (.i 7 8)))),
    sPush (xCvi 4 256 256 7 18446744073709551616 (.f 3)),
    sPush (xBin (bAdd 7 18446744073709551616) (.l 1) (.l 0)),
    sSet 2 (xMov (.l 0))]))))
  (cReg (regC [sPush (xBin (bAdd 3 18446744073709551616) (.f 6) (.c (.c (.i 3 1)))),
    sSet 6 (xMov (.l 0))]))))))))
  (cSeq (cReg (regC [sSet 1 (xMov (.f 2))]))
  cRet)))),
  [.v (.f 1)], 1⟩
def m161 : List (Nat × Nat) := [(0, 0), (1, 1), (4, 2), (5, 3), (10, 4), (12, 5), (13, 6), (14, 7), (24, 8)]
/-- slices.Equal[[]byte,byte] -/
noncomputable def u161 : Fu := ⟨(cSeq (cReg (regC [sSet 2 (xMov (.c (.c (.o (.b false)))))]))
  (cSeq (cSeq (cReg (regC [sPush (xLen (.f 0)),
    sPush (xLen (.f 1)),
    sSet 4 (xBin (bNe 0) (.l 1) (.l 0))]))
  (cCond (.f 4) (cSeq (cReg (regC [sSet 2 (xMov (.c (.c (.o (.b false)))))]))
  cRet) cSkip))
  (cSeq (cSeq (cReg (regC [sSet 5 (xLen (.f 0)),
    sSet 6 (xMov (.c (.c (.i 3 0))))]))
  (cBlock 0 (cLoop (cSeq (cReg (regC [sSet 7 (xBin (bLss 3 18446744073709551616 9223372036854775808) (.f 6) (.f 5))]))
  (cSeq (cCond (.f 7) cSkip (cExit 0))
  (cSeq (cBlock 1 (cSeq (cReg (regC [sSet 3 (xMov (.f 6))]))
  (cSeq (cReg (regC [sPush (xIxS 1 (.f 0) (.f 3)),
    sPush (xLd1 (.l 0)),
    sPush (xIxS 1 (.f 1) (.f 3)),
    sPush (xLd1 (.l 0)),
    sSet 8 (xBin (bNe 0) (.l 2) (.l 0))]))
  (cCond (.f 8) (cSeq (cReg (regC [sSet 2 (xMov (.c (.c (.o (.b false)))))]))
  cRet) cSkip))))
  (cReg (regC [sPush (xBin (bAdd 3 18446744073709551616) (.f 6) (.c (.c (.i 3 1)))),
    sSet 6 (xMov (.l 0))]))))))))
  (cSeq (cReg (regC [sSet 2 (xMov (.c (.c (.o (.b true)))))]))
  cRet)))),
  [.v (.f 2)], 2⟩
def m162 : List (Nat × Nat) := [(0, 0), (1, 1), (2, 2), (6, 3)]
/-- (*legate/seal.Box).tag -/
noncomputable def u162 : Fu := ⟨(cSeq (cReg (regC [sSet 3 (xMov (.c (.c (.o (.ns)))))]))
  (cSeq (cReg (regC [sPush (xChk (.f 0)),
    sPush (xFld (.l 0) 1),
    sPush (xLdA 16 (.l 0)),
    sPush (xCvi 3 18446744073709551616 9223372036854775808 4 256 (.f 1)),
    sPush (xBls 5 1 [.i 4 0] [.mk 0 1 (.l 0)]),
    sPush (xBls 34 2 [.o (.ns), .o (.ns)] [.mk 0 1 (.l 0), .mk 1 1 (.f 2)]),
    sPush (xCalF 211 [(.l 3), (.l 0)]),
    sPush (xCalF 210 [(.l 0)]),
    sSet 3 (xMov (.l 0))]))
  cRet)),
  [.v (.f 3)], 3⟩
end Go.Ev
