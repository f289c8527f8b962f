/- Functions of the program as the evaluator takes them, printed by a program out of the program's form (part 2). No condition. -/
import Derived.Test.YtlamohamhbhkjaaGreatDoorEa1
namespace Go.Ev
open Go.Eng
set_option maxRecDepth 100000
def m163 : List (Nat × Nat) := [(0, 0), (1, 1), (2, 2), (3, 3), (8, 4), (9, 5), (10, 6), (11, 7), (25, 8), (26, 9), (27, 10), (28, 11)]
/-- (*legate/seal.Box).mixed -/
noncomputable def u163 : Fu := ⟨(cSeq (cReg (regC [sSet 4 (xMov (.c (.c (.o (.ns)))))]))
  (cSeq (cReg (regC [sPush (xCalF 212 [(.f 3)]),
    sSet 5 (xMov (.l 0))]))
  (cSeq (cSeq (cReg (regC [sPush (xChk (.f 0)),
    sPush (xFld (.l 0) 0),
    sPush (xLd1 (.l 0)),
    sPush (xBin (bShl 7 18446744073709551616) (.f 2) (.c (.c (.i 7 8)))),
    sPush (xCvi 3 18446744073709551616 9223372036854775808 7 18446744073709551616 (.f 1)),
    sPush (xBin (bAdd 7 18446744073709551616) (.l 1) (.l 0)),
    sPush (xLen (.f 3)),
    sSet 8 (xCalF 213 [(.l 4), (.l 1), (.l 0)]),
    sSet 9 (xLen (.f 8)),
    sSet 10 (xMov (.c (.c (.i 3 0))))]))
  (cBlock 0 (cLoop (cSeq (cReg (regC [sSet 11 (xBin (bLss 3 18446744073709551616 9223372036854775808) (.f 10) (.f 9))]))
  (cSeq (cCond (.f 11) cSkip (cExit 0))
  (cSeq (cBlock 1 (cSeq (cReg (regC [sPush (xIxS 1 (.f 8) (.f 10)),
    sPush (xLd1 (.l 0)),
    sSet 6 (xMov (.f 10)),
    sSet 7 (xMov (.l 0))]))
  (cReg (regC [sPush (xIxS 1 (.f 5) (.f 6)),
    sPush (xLd1 (.l 0)),
    sPush (xBin (bXor 4) (.l 0) (.f 7)),
    sPush (xIxS 1 (.f 5) (.f 6)),
    sDo (xSt1 (.l 0) (.l 1))]))))
  (cReg (regC [sPush (xBin (bAdd 3 18446744073709551616) (.f 10) (.c (.c (.i 3 1)))),
    sSet 10 (xMov (.l 0))]))))))))
  (cSeq (cReg (regC [sSet 4 (xMov (.f 5))]))
  cRet)))),
  [.v (.f 4)], 4⟩
def m164 : List (Nat × Nat) := [(0, 0), (1, 1), (2, 2), (3, 3)]
/-- (legate/msg.taker).key -/
noncomputable def u164 : Fu := ⟨(cSeq (cReg (regC [sSet 1 (xBox 275 (.f 0)),
    sSet 2 (xAlc 29 [.i 4 0, .i 4 0, .i 4 0, .i 4 0, .i 4 0, .i 4 0, .i 4 0, .i 4 0, .i 4 0, .i 4 0, .i 4 0, .i 4 0, .i 4 0, .i 4 0, .i 4 0, .i 4 0, .i 4 0, .i 4 0, .i 4 0, .i 4 0, .i 4 0, .i 4 0, .i 4 0, .i 4 0, .i 4 0, .i 4 0, .i 4 0, .i 4 0, .i 4 0, .i 4 0, .i 4 0, .i 4 0])]))
  (cSeq (cReg (regC [sPush (xBld [.i 4 0, .i 4 0, .i 4 0, .i 4 0, .i 4 0, .i 4 0, .i 4 0, .i 4 0, .i 4 0, .i 4 0, .i 4 0, .i 4 0, .i 4 0, .i 4 0, .i 4 0, .i 4 0, .i 4 0, .i 4 0, .i 4 0, .i 4 0, .i 4 0, .i 4 0, .i 4 0, .i 4 0, .i 4 0, .i 4 0, .i 4 0, .i 4 0, .i 4 0, .i 4 0, .i 4 0, .i 4 0] []),
    sSet 3 (xAlc 29 [.i 4 0, .i 4 0, .i 4 0, .i 4 0, .i 4 0, .i 4 0, .i 4 0, .i 4 0, .i 4 0, .i 4 0, .i 4 0, .i 4 0, .i 4 0, .i 4 0, .i 4 0, .i 4 0, .i 4 0, .i 4 0, .i 4 0, .i 4 0, .i 4 0, .i 4 0, .i 4 0, .i 4 0, .i 4 0, .i 4 0, .i 4 0, .i 4 0, .i 4 0, .i 4 0, .i 4 0, .i 4 0]),
    sDo (xStA 32 (.f 3) (.l 0))]))
  (cSeq (cReg (regC [sPush (xCutA 32 1 (.f 3) none none),
    sPush (xFld (.f 1) 0),
    sPush (xLd1 (.l 0)),
    sPush (xCalF 154 [(.l 0)]),
    sPush (xCpy 1 (.l 3) (.l 0))]))
  (cSeq (cReg (regC [sPush (xLdA 32 (.f 3)),
    sDo (xStA 32 (.f 2) (.l 0))]))
  cRet)))),
  [.cn (.f 2) 32], 1⟩
def m165 : List (Nat × Nat) := [(0, 0), (2, 1), (3, 2)]
/-- (*legate/der.Cursor).Text -/
noncomputable def u165 : Fu := ⟨(cSeq (cReg (regC [sSet 1 (xMov (.c (.c (.o (.s [])))))]))
  (cSeq (cReg (regC [sPush (xCalF 196 [(.f 0), (.c (.c (.i 4 27)))]),
    sPush (xExt (.l 0) 0),
    sPush (xExt (.l 1) 1),
    sSet 2 (xMov (.l 1))]))
  (cSeq (cReg (regC [sPush (xB2s (.f 2)),
    sSet 1 (xMov (.l 0))]))
  cRet))),
  [.v (.f 1)], 1⟩
def m166 : List (Nat × Nat) := [(0, 0), (1, 1), (2, 2), (4, 3), (6, 4), (7, 5), (8, 6), (9, 7), (10, 8), (24, 9)]
/-- legate/msg.again[legate/api.Part] -/
noncomputable def u166 : Fu := ⟨(cSeq (cReg (regC [sSet 3 (xBox 31 (.f 1)),
    sSet 4 (xAlc 31 [.o (.s []), .o (.s []), .i 4 0, .i 4 0, .i 4 0, .i 4 0, .i 4 0, .i 4 0, .i 4 0, .i 4 0, .i 4 0, .i 4 0, .i 4 0, .i 4 0, .i 4 0, .i 4 0, .i 4 0, .i 4 0, .i 4 0, .i 4 0, .i 4 0, .i 4 0, .i 4 0, .i 4 0, .i 4 0, .i 4 0, .i 4 0, .i 4 0, .i 4 0, .i 4 0, .i 4 0, .i 4 0, .i 4 0, .i 4 0, .o (.s []), .i 3 0, .i 3 0]),
    sSet 5 (xMov (.c (.c (.i 3 0))))]))
  (cSeq (cReg (regC [sSet 6 (xAlc 31 [.o (.s []), .o (.s []), .i 4 0, .i 4 0, .i 4 0, .i 4 0, .i 4 0, .i 4 0, .i 4 0, .i 4 0, .i 4 0, .i 4 0, .i 4 0, .i 4 0, .i 4 0, .i 4 0, .i 4 0, .i 4 0, .i 4 0, .i 4 0, .i 4 0, .i 4 0, .i 4 0, .i 4 0, .i 4 0, .i 4 0, .i 4 0, .i 4 0, .i 4 0, .i 4 0, .i 4 0, .i 4 0, .i 4 0, .i 4 0, .o (.s []), .i 3 0, .i 3 0])]))
  (cSeq (cReg (regC [sPush (xLdA 37 (.f 3)),
    sPush (xCal (.f 2) [(.l 0)]),
    sPush (xExt (.l 0) 0),
    sPush (xExt (.l 1) 1),
    sSet 7 (xMov (.l 1)),
    sSet 8 (xMov (.l 0))]))
  (cSeq (cSeq (cReg (regC [sPush (xBin (bNe 0) (.f 8) (.c (.c (.i 3 0)))),
    sIf (.l 0) false (sPush (xMov (.f 7))) (sPush (xMov (.c udf))),
    sIf (.l 1) false (sPush (xMov (.f 0))) (sPush (xMov (.c udf))),
    sIf (.l 2) false (sPush (xCalF 149 [(.l 1), (.l 0)])) (sPush (xMov (.c udf))),
    sIf (.l 3) false (sPush (xNot (.l 0))) (sPush (xMov (.c udf))),
    sSet 9 (xPick (.l 4) (.c (.c (.o (.b true)))) (.l 0))]))
  (cCond (.f 9) (cSeq (cReg (regC [sPush (xLdA 37 (.f 6)),
    sDo (xStA 37 (.f 4) (.l 0)),
    sSet 5 (xMov (.c (.c (.i 3 2))))]))
  cRet) cSkip))
  (cSeq (cReg (regC [sPush (xLdA 37 (.f 3)),
    sDo (xStA 37 (.f 4) (.l 0)),
    sSet 5 (xMov (.c (.c (.i 3 0))))]))
  cRet))))),
  [.cn (.f 4) 37, .v (.f 5)], 3⟩
def m167 : List (Nat × Nat) := [(0, 0), (1, 1), (2, 2), (3, 3)]
/-- legate/msg.EncodePart -/
noncomputable def u167 : Fu := ⟨(cSeq (cReg (regC [sSet 1 (xBox 31 (.f 0)),
    sSet 2 (xMov (.c (.c (.o (.ns))))),
    sSet 3 (xMov (.c (.c (.i 3 0))))]))
  (cSeq (cReg (regC [sPush (xFld (.f 1) 0),
    sPush (xLdA 2 (.l 0)),
    sPush (xFld (.f 1) 0),
    sPush (xLdA 2 (.l 0)),
    sPush (xFld (.f 1) 2),
    sPush (xCutA 32 1 (.l 0) none none),
    sPush (xFld (.f 1) 34),
    sPush (xLd1 (.l 0)),
    sPush (xFld (.f 1) 35),
    sPush (xLd1 (.l 0)),
    sPush (xFld (.f 1) 36),
    sPush (xLd1 (.l 0)),
    sPush (xCalF 51 [(.l 10)]),
    sAg (.l 1) (xLd1 (.l 2)),
    sAg (.l 3) (xLd1 (.l 4)),
    sAg (.l 5) (xLd1 (.l 6)),
    sAg (.l 9) (xLdA 2 (.l 10)),
    sIf (.l 0) true (sPush (xFld (.f 1) 34)) (sPush (xMov (.c udf))),
    sIf (.l 1) true (sPush (xLd1 (.l 0))) (sPush (xMov (.c udf))),
    sIf (.l 2) true (sPush (xCalF 214 [(.l 0)])) (sPush (xMov (.c udf))),
    sAg (.l 4) (xLd1 (.l 5)),
    sAg (.l 6) (xLd1 (.l 7)),
    sAg (.l 8) (xLd1 (.l 9)),
    sAg (.l 12) (xLdA 2 (.l 13)),
    sPush (xPick (.l 3) (.l 0) (.c (.c (.o (.b false))))),
    sIf (.l 0) true (sPush (xFld (.f 1) 35)) (sPush (xMov (.c udf))),
    sIf (.l 1) true (sPush (xLd1 (.l 0))) (sPush (xMov (.c udf))),
    sIf (.l 2) true (sPush (xFld (.f 1) 36)) (sPush (xMov (.c udf))),
    sIf (.l 3) true (sPush (xLd1 (.l 0))) (sPush (xMov (.c udf))),
    sIf (.l 4) true (sPush (xBls 3 2 [.i 3 0, .i 3 0] [.mk 0 1 (.l 2), .mk 1 1 (.l 0)])) (sPush (xMov (.c udf))),
    sAg (.l 10) (xLd1 (.l 11)),
    sAg (.l 12) (xLd1 (.l 13)),
    sAg (.l 14) (xLd1 (.l 15)),
    sAg (.l 18) (xLdA 2 (.l 19)),
    sIf (.l 5) true (sPush (xCalF 199 [(.l 0)])) (sPush (xMov (.c udf))),
    sAg (.l 11) (xLd1 (.l 12)),
    sAg (.l 13) (xLd1 (.l 14)),
    sAg (.l 15) (xLd1 (.l 16)),
    sAg (.l 19) (xLdA 2 (.l 20)),
    sPush (xPick (.l 6) (.l 0) (.c (.c (.o (.b false))))),
    sPush (xCalF 206 [(.l 20)]),
    sAg (.l 13) (xLd1 (.l 14)),
    sAg (.l 15) (xLd1 (.l 16)),
    sAg (.l 17) (xLd1 (.l 18)),
    sPush (xCalF 209 [(.l 19)]),
    sAg (.l 14) (xLd1 (.l 15)),
    sAg (.l 16) (xLd1 (.l 17)),
    sAg (.l 18) (xLd1 (.l 19)),
    sPush (xCalF 215 [(.l 18)]),
    sAg (.l 15) (xLd1 (.l 16)),
    sAg (.l 17) (xLd1 (.l 18)),
    sPush (xCalF 207 [(.l 17)]),
    sAg (.l 16) (xLd1 (.l 17)),
    sPush (xCalF 207 [(.l 16)]),
    sPush (xBld [.o (.ns), .o (.ns), .o (.ns), .o (.ns), .o (.ns)] [.mk 0 1 (.l 4), .mk 1 1 (.l 3), .mk 2 1 (.l 2), .mk 3 1 (.l 1), .mk 4 1 (.l 0)]),
    sPush (xMkl 34 5 (.l 0)),
    sPush (xCalF 205 [(.c (.c (.i 4 99))), (.l 0)]),
    sPush (xCalF 156 [(.l 8), (.l 0)]),
    sPush (xExt (.l 0) 0),
    sPush (xExt (.l 1) 1),
    sSet 2 (xMov (.l 1)),
    sSet 3 (xMov (.l 0))]))
  cRet)),
  [.v (.f 2), .v (.f 3)], 1⟩
def m168 : List (Nat × Nat) := [(0, 0), (1, 1), (2, 2), (4, 3), (6, 4), (7, 5), (8, 6), (9, 7), (10, 8), (24, 9)]
/-- legate/msg.again[legate/api.Authn] -/
noncomputable def u168 : Fu := ⟨(cSeq (cReg (regC [sSet 3 (xBox 33 (.f 1)),
    sSet 4 (xAlc 33 [.o (.s []), .o (.s []), .i 3 0, .i 3 0]),
    sSet 5 (xMov (.c (.c (.i 3 0))))]))
  (cSeq (cReg (regC [sSet 6 (xAlc 33 [.o (.s []), .o (.s []), .i 3 0, .i 3 0])]))
  (cSeq (cReg (regC [sPush (xLdA 4 (.f 3)),
    sPush (xCal (.f 2) [(.l 0)]),
    sPush (xExt (.l 0) 0),
    sPush (xExt (.l 1) 1),
    sSet 7 (xMov (.l 1)),
    sSet 8 (xMov (.l 0))]))
  (cSeq (cSeq (cReg (regC [sPush (xBin (bNe 0) (.f 8) (.c (.c (.i 3 0)))),
    sIf (.l 0) false (sPush (xMov (.f 7))) (sPush (xMov (.c udf))),
    sIf (.l 1) false (sPush (xMov (.f 0))) (sPush (xMov (.c udf))),
    sIf (.l 2) false (sPush (xCalF 149 [(.l 1), (.l 0)])) (sPush (xMov (.c udf))),
    sIf (.l 3) false (sPush (xNot (.l 0))) (sPush (xMov (.c udf))),
    sSet 9 (xPick (.l 4) (.c (.c (.o (.b true)))) (.l 0))]))
  (cCond (.f 9) (cSeq (cReg (regC [sPush (xLdA 4 (.f 6)),
    sDo (xStA 4 (.f 4) (.l 0)),
    sSet 5 (xMov (.c (.c (.i 3 2))))]))
  cRet) cSkip))
  (cSeq (cReg (regC [sPush (xLdA 4 (.f 3)),
    sDo (xStA 4 (.f 4) (.l 0)),
    sSet 5 (xMov (.c (.c (.i 3 0))))]))
  cRet))))),
  [.cn (.f 4) 4, .v (.f 5)], 3⟩
def m169 : List (Nat × Nat) := [(0, 0), (1, 1), (2, 2), (3, 3)]
/-- legate/msg.EncodeAuthn -/
noncomputable def u169 : Fu := ⟨(cSeq (cReg (regC [sSet 1 (xBox 33 (.f 0)),
    sSet 2 (xMov (.c (.c (.o (.ns))))),
    sSet 3 (xMov (.c (.c (.i 3 0))))]))
  (cSeq (cReg (regC [sPush (xFld (.f 1) 0),
    sPush (xLdA 2 (.l 0)),
    sPush (xFld (.f 1) 0),
    sPush (xLdA 2 (.l 0)),
    sPush (xFld (.f 1) 2),
    sPush (xLd1 (.l 0)),
    sPush (xFld (.f 1) 3),
    sPush (xLd1 (.l 0)),
    sPush (xCalF 51 [(.l 6)]),
    sAg (.l 1) (xLd1 (.l 2)),
    sAg (.l 3) (xLd1 (.l 4)),
    sAg (.l 5) (xLdA 2 (.l 6)),
    sIf (.l 0) true (sPush (xFld (.f 1) 2)) (sPush (xMov (.c udf))),
    sIf (.l 1) true (sPush (xLd1 (.l 0))) (sPush (xMov (.c udf))),
    sIf (.l 2) true (sPush (xBls 3 1 [.i 3 0] [.mk 0 1 (.l 0)])) (sPush (xMov (.c udf))),
    sAg (.l 4) (xLd1 (.l 5)),
    sAg (.l 6) (xLd1 (.l 7)),
    sAg (.l 8) (xLdA 2 (.l 9)),
    sIf (.l 3) true (sPush (xCalF 199 [(.l 0)])) (sPush (xMov (.c udf))),
    sAg (.l 5) (xLd1 (.l 6)),
    sAg (.l 7) (xLd1 (.l 8)),
    sAg (.l 9) (xLdA 2 (.l 10)),
    sPush (xPick (.l 4) (.l 0) (.c (.c (.o (.b false))))),
    sIf (.l 0) true (sPush (xFld (.f 1) 3)) (sPush (xMov (.c udf))),
    sIf (.l 1) true (sPush (xLd1 (.l 0))) (sPush (xMov (.c udf))),
    sIf (.l 2) true (sPush (xCalF 200 [(.l 0)])) (sPush (xMov (.c udf))),
    sAg (.l 9) (xLd1 (.l 10)),
    sAg (.l 11) (xLd1 (.l 12)),
    sAg (.l 13) (xLdA 2 (.l 14)),
    sPush (xPick (.l 3) (.l 0) (.c (.c (.o (.b false))))),
    sPush (xCalF 206 [(.l 14)]),
    sAg (.l 11) (xLd1 (.l 12)),
    sAg (.l 13) (xLd1 (.l 14)),
    sPush (xCalF 207 [(.l 13)]),
    sAg (.l 12) (xLd1 (.l 13)),
    sPush (xCalF 207 [(.l 12)]),
    sPush (xBld [.o (.ns), .o (.ns), .o (.ns)] [.mk 0 1 (.l 2), .mk 1 1 (.l 1), .mk 2 1 (.l 0)]),
    sPush (xMkl 34 3 (.l 0)),
    sPush (xCalF 205 [(.c (.c (.i 4 98))), (.l 0)]),
    sPush (xCalF 156 [(.l 6), (.l 0)]),
    sPush (xExt (.l 0) 0),
    sPush (xExt (.l 1) 1),
    sSet 2 (xMov (.l 1)),
    sSet 3 (xMov (.l 0))]))
  cRet)),
  [.v (.f 2), .v (.f 3)], 1⟩
def m170 : List (Nat × Nat) := [(0, 0), (1, 1), (4, 2)]
/-- strings.Split -/
noncomputable def u170 : Fu := ⟨(cSeq (cReg (regC [sSet 2 (xMov (.c (.c (.o (.ns)))))]))
  (cSeq (cReg (regC [sPush (xCalF 216 [(.f 0), (.f 1), (.c (.c (.i 3 0))), (.c (.c (.i 3 18446744073709551615)))]),
    sSet 2 (xMov (.l 0))]))
  cRet)),
  [.v (.f 2)], 2⟩
def m171 : List (Nat × Nat) := [(0, 0), (1, 1), (4, 2), (5, 3), (6, 4), (10, 5), (14, 6), (19, 7), (23, 8), (30, 9)]
/-- legate/transit.realm -/
noncomputable def u171 : Fu := ⟨(cSeq (cReg (regC [sSet 2 (xMov (.c (.c (.o (.s []))))),
    sSet 3 (xMov (.c (.c (.o (.b false)))))]))
  (cSeq (cBlock 0 (cSeq (cReg (regC [sPush (xCalF 217 [(.f 0), (.c (.c (.o (.s [46]))))]),
    sSet 4 (xMov (.l 0))]))
  (cCond (.f 4) (cSeq (cSeq (cReg (regC [sSet 5 (xBin (bEq 1) (.f 1) (.c (.c (.o (.s [])))))]))
  (cCond (.f 5) (cSeq (cReg (regC [sSet 2 (xMov (.c (.c (.o (.s []))))),
    sSet 3 (xMov (.c (.c (.o (.b false)))))]))
  cRet) cSkip))
  (cReg (regC [sPush (xBin (bCat) (.f 0) (.f 1)),
    sSet 0 (xMov (.l 0))]))) (cSeq (cReg (regC [sPush (xCalF 218 [(.f 0), (.c (.c (.o (.s [47]))))]),
    sSet 6 (xMov (.l 0))]))
  (cCond (.f 6) (cSeq (cReg (regC [sPush (xCalF 137 [(.f 1)]),
    sSet 7 (xBin (bEq 0) (.l 0) (.c (.c (.i 3 2))))]))
  (cCond (.f 7) (cReg (regC [sPush (xBin (bCat) (.f 1) (.f 0)),
    sSet 0 (xMov (.l 0))])) cSkip)) (cSeq (cReg (regC [sPush (xCalF 218 [(.f 0), (.c (.c (.o (.s [32]))))]),
    sSet 8 (xMov (.l 0))]))
  (cCond (.f 8) (cSeq (cReg (regC [sPush (xCutT (.f 0) (some (.c (.c (.i 3 1)))) none),
    sSet 0 (xMov (.l 0))]))
  (cSeq (cReg (regC [sPush (xCalF 218 [(.f 0), (.c (.c (.o (.s [47]))))]),
    sSet 9 (xNot (.l 0))]))
  (cCond (.f 9) (cSeq (cReg (regC [sSet 2 (xMov (.c (.c (.o (.s []))))),
    sSet 3 (xMov (.c (.c (.o (.b false)))))]))
  cRet) cSkip))) cSkip)))))))
  (cSeq (cReg (regC [sPush (xCalF 92 [(.f 0)]),
    sSet 2 (xMov (.f 0)),
    sSet 3 (xMov (.l 0))]))
  cRet))),
  [.v (.f 2), .v (.f 3)], 2⟩
def m172 : List (Nat × Nat) := [(0, 0), (1, 1), (2, 2), (6, 3), (11, 4), (17, 5)]
/-- (*legate/transit.expander).fills -/
noncomputable def u172 : Fu := ⟨(cSeq (cSeq (cReg (regC [sPush (xChk (.f 0)),
    sPush (xFld (.l 0) 2),
    sPush (xLd1 (.l 0)),
    sSet 4 (xNot (.l 0))]))
  (cCond (.f 4) cRet cSkip))
  (cSeq (cReg (regC [sPush (xChk (.f 0)),
    sPush (xFld (.l 0) 1),
    sPush (xLd1 (.l 0)),
    sSet 3 (xMov (.l 0))]))
  (cSeq (cSeq (cReg (regC [sSet 5 (xBin (bEq 1) (.f 3) (.c (.c (.o (.s [])))))]))
  (cCond (.f 5) (cReg (regC [sSet 3 (xMov (.f 1))])) cSkip))
  (cSeq (cReg (regC [sPush (xCalF 219 [(.f 3), (.f 2)]),
    sPush (xCalF 173 [(.f 0), (.l 0)])]))
  (cReg (regC [sPush (xChk (.f 0)),
    sPush (xFld (.l 0) 2),
    sDo (xSt1 (.l 0) (.c (.c (.o (.b false)))))])))))),
  [], 3⟩
def m173 : List (Nat × Nat) := [(0, 0), (1, 1), (5, 2), (6, 3), (7, 4), (8, 5), (9, 6), (18, 7)]
/-- (*legate/transit.expander).adds -/
noncomputable def u173 : Fu := ⟨(cSeq (cReg (regC [sSet 3 (xMov (.f 1)),
    sSet 4 (xLen (.f 3)),
    sSet 5 (xMov (.c (.c (.i 3 0))))]))
  (cBlock 0 (cLoop (cSeq (cReg (regC [sSet 6 (xBin (bLss 3 18446744073709551616 9223372036854775808) (.f 5) (.f 4))]))
  (cSeq (cCond (.f 6) cSkip (cExit 0))
  (cSeq (cBlock 1 (cSeq (cReg (regC [sPush (xIxS 1 (.f 3) (.f 5)),
    sPush (xLd1 (.l 0)),
    sSet 2 (xMov (.l 0))]))
  (cSeq (cReg (regC [sPush (xChk (.f 0)),
    sPush (xFld (.l 0) 0),
    sPush (xLd1 (.l 0)),
    sPush (xCalF 56 [(.l 0), (.f 2)]),
    sSet 7 (xNot (.l 0))]))
  (cCond (.f 7) (cReg (regC [sPush (xChk (.f 0)),
    sPush (xFld (.l 0) 0),
    sPush (xLd1 (.l 0)),
    sPush (xBls 9 1 [.o (.s [])] [.mk 0 1 (.f 2)]),
    sPush (xApp 9 1 (.l 1) (.l 0)),
    sPush (xChk (.f 0)),
    sPush (xFld (.l 0) 0),
    sDo (xSt1 (.l 0) (.l 2))])) cSkip))))
  (cReg (regC [sPush (xBin (bAdd 3 18446744073709551616) (.f 5) (.c (.c (.i 3 1)))),
    sSet 5 (xMov (.l 0))])))))))),
  [], 2⟩
def m174 : List (Nat × Nat) := [(0, 0), (1, 1), (2, 2), (3, 3), (6, 4), (7, 5), (8, 6), (16, 7)]
/-- legate/route.Via -/
noncomputable def u174 : Fu := ⟨(cSeq (cReg (regC [sSet 3 (xBox 72 (.f 0)),
    sSet 4 (xMov (.c (.c (.o (.ns)))))]))
  (cSeq (cSeq (cReg (regC [sPush (xLdA 3 (.f 3)),
    sPush (xCalF 220 [(.l 0), (.f 1), (.f 2)]),
    sPush (xExt (.l 0) 0),
    sPush (xExt (.l 1) 1),
    sSet 5 (xMov (.l 1)),
    sSet 6 (xMov (.l 0))]))
  (cSeq (cReg (regC [sSet 7 (xMov (.f 6))]))
  (cCond (.f 7) (cSeq (cReg (regC [sSet 4 (xMov (.f 5))]))
  cRet) cSkip)))
  (cSeq (cReg (regC [sPush (xCalF 219 [(.f 1), (.f 2)]),
    sSet 4 (xMov (.l 0))]))
  cRet))),
  [.v (.f 4)], 3⟩
def m175 : List (Nat × Nat) := [(0, 0), (1, 1), (3, 2)]
/-- legate/route.Allowed$1 -/
noncomputable def u175 : Fu := ⟨(cSeq (cReg (regC [sSet 2 (xMov (.c (.c (.o (.b false)))))]))
  (cSeq (cReg (regC [sPush (xLd1 (.f 1)),
    sPush (xCalF 56 [(.l 0), (.f 0)]),
    sPush (xNot (.l 0)),
    sSet 2 (xMov (.l 0))]))
  cRet)),
  [.v (.f 2)], 2⟩
def m176 : List (Nat × Nat) := [(0, 0), (1, 1), (4, 2), (5, 3), (7, 4), (8, 5), (9, 6), (16, 7)]
/-- slices.IndexFunc[[]legate/api.Authn,legate/api.Authn] -/
noncomputable def u176 : Fu := ⟨(cSeq (cReg (regC [sSet 2 (xMov (.c (.c (.i 3 0))))]))
  (cSeq (cSeq (cReg (regC [sSet 4 (xLen (.f 0)),
    sSet 5 (xMov (.c (.c (.i 3 0))))]))
  (cBlock 0 (cLoop (cSeq (cReg (regC [sSet 6 (xBin (bLss 3 18446744073709551616 9223372036854775808) (.f 5) (.f 4))]))
  (cSeq (cCond (.f 6) cSkip (cExit 0))
  (cSeq (cBlock 1 (cSeq (cReg (regC [sSet 3 (xMov (.f 5))]))
  (cSeq (cReg (regC [sPush (xIxS 4 (.f 0) (.f 3)),
    sPush (xLdA 4 (.l 0)),
    sSet 7 (xCal (.f 1) [(.l 0)])]))
  (cCond (.f 7) (cSeq (cReg (regC [sSet 2 (xMov (.f 3))]))
  cRet) cSkip))))
  (cReg (regC [sPush (xBin (bAdd 3 18446744073709551616) (.f 5) (.c (.c (.i 3 1)))),
    sSet 5 (xMov (.l 0))]))))))))
  (cSeq (cReg (regC [sSet 2 (xMov (.c (.c (.i 3 18446744073709551615))))]))
  cRet))),
  [.v (.f 2)], 2⟩
def m177 : List (Nat × Nat) := [(0, 0), (1, 1), (3, 2), (4, 3), (5, 4), (7, 5), (8, 6), (9, 7), (16, 8)]
/-- slices.Index[[]legate/api.Authn,legate/api.Authn] -/
noncomputable def u177 : Fu := ⟨(cSeq (cReg (regC [sSet 2 (xBox 33 (.f 1)),
    sSet 3 (xMov (.c (.c (.i 3 0))))]))
  (cSeq (cSeq (cReg (regC [sSet 5 (xLen (.f 0)),
    sSet 6 (xMov (.c (.c (.i 3 0))))]))
  (cBlock 0 (cLoop (cSeq (cReg (regC [sSet 7 (xBin (bLss 3 18446744073709551616 9223372036854775808) (.f 6) (.f 5))]))
  (cSeq (cCond (.f 7) cSkip (cExit 0))
  (cSeq (cBlock 1 (cSeq (cReg (regC [sSet 4 (xMov (.f 6))]))
  (cSeq (cReg (regC [sPush (xLdA 4 (.f 2)),
    sPush (xIxS 4 (.f 0) (.f 4)),
    sPush (xLdA 4 (.l 0)),
    sSet 8 (xBin (gEq [1, 1, 0, 0]) (.l 2) (.l 0))]))
  (cCond (.f 8) (cSeq (cReg (regC [sSet 3 (xMov (.f 4))]))
  cRet) cSkip))))
  (cReg (regC [sPush (xBin (bAdd 3 18446744073709551616) (.f 6) (.c (.c (.i 3 1)))),
    sSet 6 (xMov (.l 0))]))))))))
  (cSeq (cReg (regC [sSet 3 (xMov (.c (.c (.i 3 18446744073709551615))))]))
  cRet))),
  [.v (.f 3)], 2⟩
def m183 : List (Nat × Nat) := [(0, 0), (1, 1), (4, 2), (5, 3), (9, 4)]
/-- internal/stringslite.CutPrefix -/
noncomputable def u183 : Fu := ⟨(cSeq (cReg (regC [sSet 2 (xMov (.c (.c (.o (.s []))))),
    sSet 3 (xMov (.c (.c (.o (.b false)))))]))
  (cSeq (cSeq (cReg (regC [sPush (xCalF 221 [(.f 0), (.f 1)]),
    sSet 4 (xNot (.l 0))]))
  (cCond (.f 4) (cSeq (cReg (regC [sSet 2 (xMov (.f 0)),
    sSet 3 (xMov (.c (.c (.o (.b false)))))]))
  cRet) cSkip))
  (cSeq (cReg (regC [sPush (xLenT (.f 1)),
    sPush (xCutT (.f 0) (some (.l 0)) none),
    sSet 2 (xMov (.l 0)),
    sSet 3 (xMov (.c (.c (.o (.b true)))))]))
  cRet))),
  [.v (.f 2), .v (.f 3)], 2⟩
def m184 : List (Nat × Nat) := [(0, 0), (2, 1), (3, 2), (4, 3), (5, 4), (6, 5), (10, 6), (23, 7)]
/-- legate/name.labels -/
noncomputable def u184 : Fu := ⟨(cSeq (cReg (regC [sSet 1 (xMov (.c (.c (.o (.ns))))),
    sSet 2 (xMov (.c (.c (.i 3 0))))]))
  (cSeq (cReg (regC [sPush (xCalF 170 [(.f 0), (.c (.c (.o (.s [46]))))]),
    sSet 3 (xMov (.c (.c (.i 3 1)))),
    sSet 4 (xMov (.l 0))]))
  (cSeq (cSeq (cReg (regC [sSet 6 (xCalF 218 [(.f 0), (.c (.c (.o (.s [47]))))])]))
  (cCond (.f 6) (cReg (regC [sPush (xCutT (.f 0) (some (.c (.c (.i 3 1)))) none),
    sPush (xCalF 170 [(.l 0), (.c (.c (.o (.s [47]))))]),
    sSet 3 (xMov (.c (.c (.i 3 2)))),
    sSet 4 (xMov (.l 0))])) (cReg (regC [sPush (xCalF 222 [(.f 4)])]))))
  (cSeq (cReg (regC [sSet 5 (xMov (.c (.c (.o (.f 223 [] [])))))]))
  (cSeq (cSeq (cReg (regC [sPush (xLen (.f 4)),
    sPush (xBin (bGtr 3 18446744073709551616 9223372036854775808) (.l 0) (.c (.c (.i 3 4)))),
    sIf (.l 0) false (sPush (xMov (.f 4))) (sPush (xMov (.c udf))),
    sIf (.l 1) false (sPush (xMov (.f 5))) (sPush (xMov (.c udf))),
    sIf (.l 2) false (sPush (xCalF 102 [(.l 1), (.l 0)])) (sPush (xMov (.c udf))),
    sSet 7 (xPick (.l 3) (.c (.c (.o (.b true)))) (.l 0))]))
  (cCond (.f 7) (cSeq (cReg (regC [sSet 1 (xMov (.c (.c (.o (.ns))))),
    sSet 2 (xMov (.c (.c (.i 3 0))))]))
  cRet) cSkip))
  (cSeq (cReg (regC [sSet 1 (xMov (.f 4)),
    sSet 2 (xMov (.f 3))]))
  cRet)))))),
  [.v (.f 1), .v (.f 2)], 1⟩
def m185 : List (Nat × Nat) := [(0, 0), (1, 1), (4, 2), (13, 3)]
/-- strings.trimLeftByte -/
noncomputable def u185 : Fu := ⟨(cSeq (cReg (regC [sSet 2 (xMov (.c (.c (.o (.s [])))))]))
  (cSeq (cBlock 0 (cLoop (cSeq (cSeq (cReg (regC [sPush (xLenT (.f 0)),
    sPush (xBin (bGtr 3 18446744073709551616 9223372036854775808) (.l 0) (.c (.c (.i 3 0)))),
    sIf (.l 0) true (sPush (xMov (.f 0))) (sPush (xMov (.c udf))),
    sIf (.l 1) true (sPush (xIxT (.l 0) (.c (.c (.i 3 0))))) (sPush (xMov (.c udf))),
    sIf (.l 2) true (sPush (xMov (.f 1))) (sPush (xMov (.c udf))),
    sIf (.l 3) true (sPush (xBin (bEq 0) (.l 1) (.l 0))) (sPush (xMov (.c udf))),
    sSet 3 (xPick (.l 4) (.l 0) (.c (.c (.o (.b false)))))]))
  (cCond (.f 3) cSkip (cExit 0)))
  (cBlock 1 (cReg (regC [sPush (xCutT (.f 0) (some (.c (.c (.i 3 1)))) none),
    sSet 0 (xMov (.l 0))]))))))
  (cSeq (cReg (regC [sSet 2 (xMov (.f 0))]))
  cRet))),
  [.v (.f 2)], 2⟩
def m186 : List (Nat × Nat) := [(0, 0), (1, 1), (4, 2), (16, 3)]
/-- strings.trimRightByte -/
noncomputable def u186 : Fu := ⟨(cSeq (cReg (regC [sSet 2 (xMov (.c (.c (.o (.s [])))))]))
  (cSeq (cBlock 0 (cLoop (cSeq (cSeq (cReg (regC [sPush (xLenT (.f 0)),
    sPush (xBin (bGtr 3 18446744073709551616 9223372036854775808) (.l 0) (.c (.c (.i 3 0)))),
    sIf (.l 0) true (sPush (xMov (.f 0))) (sPush (xMov (.c udf))),
    sIf (.l 1) true (sPush (xMov (.f 0))) (sPush (xMov (.c udf))),
    sIf (.l 2) true (sPush (xLenT (.l 0))) (sPush (xMov (.c udf))),
    sIf (.l 3) true (sPush (xBin (bSub 3 18446744073709551616) (.l 0) (.c (.c (.i 3 1))))) (sPush (xMov (.c udf))),
    sIf (.l 4) true (sPush (xIxT (.l 3) (.l 0))) (sPush (xMov (.c udf))),
    sIf (.l 5) true (sPush (xMov (.f 1))) (sPush (xMov (.c udf))),
    sIf (.l 6) true (sPush (xBin (bEq 0) (.l 1) (.l 0))) (sPush (xMov (.c udf))),
    sSet 3 (xPick (.l 7) (.l 0) (.c (.c (.o (.b false)))))]))
  (cCond (.f 3) cSkip (cExit 0)))
  (cBlock 1 (cReg (regC [sPush (xLenT (.f 0)),
    sPush (xBin (bSub 3 18446744073709551616) (.l 0) (.c (.c (.i 3 1)))),
    sPush (xCutT (.f 0) none (some (.l 0))),
    sSet 0 (xMov (.l 0))]))))))
  (cSeq (cReg (regC [sSet 2 (xMov (.f 0))]))
  cRet))),
  [.v (.f 2)], 2⟩
def m187 : List (Nat × Nat) := [(0, 0), (2, 1), (3, 2), (4, 3), (5, 4), (9, 5), (16, 6)]
/-- strings.makeASCIISet -/
noncomputable def u187 : Fu := ⟨(cSeq (cReg (regC [sSet 1 (xAlc 300 [.o (.b false), .o (.b false), .o (.b false), .o (.b false), .o (.b false), .o (.b false), .o (.b false), .o (.b false), .o (.b false), .o (.b false), .o (.b false), .o (.b false), .o (.b false), .o (.b false), .o (.b false), .o (.b false), .o (.b false), .o (.b false), .o (.b false), .o (.b false), .o (.b false), .o (.b false), .o (.b false), .o (.b false), .o (.b false), .o (.b false), .o (.b false), .o (.b false), .o (.b false), .o (.b false), .o (.b false), .o (.b false), .o (.b false), .o (.b false), .o (.b false), .o (.b false), .o (.b false), .o (.b false), .o (.b false), .o (.b false), .o (.b false), .o (.b false), .o (.b false), .o (.b false), .o (.b false), .o (.b false), .o (.b false), .o (.b false), .o (.b false), .o (.b false), .o (.b false), .o (.b false), .o (.b false), .o (.b false), .o (.b false), .o (.b false), .o (.b false), .o (.b false), .o (.b false), .o (.b false), .o (.b false), .o (.b false), .o (.b false), .o (.b false), .o (.b false), .o (.b false), .o (.b false), .o (.b false), .o (.b false), .o (.b false), .o (.b false), .o (.b false), .o (.b false), .o (.b false), .o (.b false), .o (.b false), .o (.b false), .o (.b false), .o (.b false), .o (.b false), .o (.b false), .o (.b false), .o (.b false), .o (.b false), .o (.b false), .o (.b false), .o (.b false), .o (.b false), .o (.b false), .o (.b false), .o (.b false), .o (.b false), .o (.b false), .o (.b false), .o (.b false), .o (.b false), .o (.b false), .o (.b false), .o (.b false), .o (.b false), .o (.b false), .o (.b false), .o (.b false), .o (.b false), .o (.b false), .o (.b false), .o (.b false), .o (.b false), .o (.b false), .o (.b false), .o (.b false), .o (.b false), .o (.b false), .o (.b false), .o (.b false), .o (.b false), .o (.b false), .o (.b false), .o (.b false), .o (.b false), .o (.b false), .o (.b false), .o (.b false), .o (.b false), .o (.b false), .o (.b false), .o (.b false), .o (.b false), .o (.b false), .o (.b false), .o (.b false), .o (.b false), .o (.b false), .o (.b false), .o (.b false), .o (.b false), .o (.b false), .o (.b false), .o (.b false), .o (.b false), .o (.b false), .o (.b false), .o (.b false), .o (.b false), .o (.b false), .o (.b false), .o (.b false), .o (.b false), .o (.b false), .o (.b false), .o (.b false), .o (.b false), .o (.b false), .o (.b false), .o (.b false), .o (.b false), .o (.b false), .o (.b false), .o (.b false), .o (.b false), .o (.b false), .o (.b false), .o (.b false), .o (.b false), .o (.b false), .o (.b false), .o (.b false), .o (.b false), .o (.b false), .o (.b false), .o (.b false), .o (.b false), .o (.b false), .o (.b false), .o (.b false), .o (.b false), .o (.b false), .o (.b false), .o (.b false), .o (.b false), .o (.b false), .o (.b false), .o (.b false), .o (.b false), .o (.b false), .o (.b false), .o (.b false), .o (.b false), .o (.b false), .o (.b false), .o (.b false), .o (.b false), .o (.b false), .o (.b false), .o (.b false), .o (.b false), .o (.b false), .o (.b false), .o (.b false), .o (.b false), .o (.b false), .o (.b false), .o (.b false), .o (.b false), .o (.b false), .o (.b false), .o (.b false), .o (.b false), .o (.b false), .o (.b false), .o (.b false), .o (.b false), .o (.b false), .o (.b false), .o (.b false), .o (.b false), .o (.b false), .o (.b false), .o (.b false), .o (.b false), .o (.b false), .o (.b false), .o (.b false), .o (.b false), .o (.b false), .o (.b false), .o (.b false), .o (.b false), .o (.b false), .o (.b false), .o (.b false), .o (.b false), .o (.b false), .o (.b false), .o (.b false), .o (.b false), .o (.b false), .o (.b false), .o (.b false), .o (.b false), .o (.b false), .o (.b false), .o (.b false), .o (.b false), .o (.b false), .o (.b false), .o (.b false), .o (.b false), .o (.b false), .o (.b false), .o (.b false), .o (.b false), .o (.b false), .o (.b false), .o (.b false), .o (.b false)]),
    sSet 2 (xMov (.c (.c (.o (.b false)))))]))
  (cSeq (cSeq (cReg (regC [sSet 3 (xMov (.c (.c (.i 3 0))))]))
  (cBlock 0 (cLoop (cSeq (cSeq (cReg (regC [sPush (xLenT (.f 0)),
    sSet 5 (xBin (bLss 3 18446744073709551616 9223372036854775808) (.f 3) (.l 0))]))
  (cCond (.f 5) cSkip (cExit 0)))
  (cSeq (cBlock 1 (cSeq (cReg (regC [sPush (xIxT (.f 0) (.f 3)),
    sSet 4 (xMov (.l 0))]))
  (cSeq (cSeq (cReg (regC [sSet 6 (xBin (bGeq 4 256 0) (.f 4) (.c (.c (.i 4 128))))]))
  (cCond (.f 6) (cSeq (cReg (regC [sPush (xLdA 256 (.f 1)),
    sDo (xStA 256 (.f 1) (.l 0)),
    sSet 2 (xMov (.c (.c (.o (.b false)))))]))
  cRet) cSkip))
  (cReg (regC [sPush (xIxA 256 1 (.f 1) (.f 4)),
    sDo (xSt1 (.l 0) (.c (.c (.o (.b true)))))])))))
  (cReg (regC [sPush (xBin (bAdd 3 18446744073709551616) (.f 3) (.c (.c (.i 3 1)))),
    sSet 3 (xMov (.l 0))])))))))
  (cSeq (cReg (regC [sPush (xLdA 256 (.f 1)),
    sDo (xStA 256 (.f 1) (.l 0)),
    sSet 2 (xMov (.c (.c (.o (.b true)))))]))
  cRet))),
  [.cn (.f 1) 256, .v (.f 2)], 1⟩
def m188 : List (Nat × Nat) := [(0, 0), (1, 1), (4, 2), (7, 3), (12, 4)]
/-- strings.trimLeftASCII -/
noncomputable def u188 : Fu := ⟨(cSeq (cReg (regC [sSet 2 (xMov (.c (.c (.o (.s [])))))]))
  (cSeq (cBlock 0 (cLoop (cSeq (cSeq (cReg (regC [sPush (xLenT (.f 0)),
    sSet 3 (xBin (bGtr 3 18446744073709551616 9223372036854775808) (.l 0) (.c (.c (.i 3 0))))]))
  (cCond (.f 3) cSkip (cExit 0)))
  (cBlock 1 (cSeq (cSeq (cReg (regC [sPush (xIxT (.f 0) (.c (.c (.i 3 0)))),
    sPush (xCalF 224 [(.f 1), (.l 0)]),
    sSet 4 (xNot (.l 0))]))
  (cCond (.f 4) (cExit 0) cSkip))
  (cReg (regC [sPush (xCutT (.f 0) (some (.c (.c (.i 3 1)))) none),
    sSet 0 (xMov (.l 0))])))))))
  (cSeq (cReg (regC [sSet 2 (xMov (.f 0))]))
  cRet))),
  [.v (.f 2)], 2⟩
def m189 : List (Nat × Nat) := [(0, 0), (1, 1), (4, 2), (7, 3), (15, 4)]
/-- strings.trimRightASCII -/
noncomputable def u189 : Fu := ⟨(cSeq (cReg (regC [sSet 2 (xMov (.c (.c (.o (.s [])))))]))
  (cSeq (cBlock 0 (cLoop (cSeq (cSeq (cReg (regC [sPush (xLenT (.f 0)),
    sSet 3 (xBin (bGtr 3 18446744073709551616 9223372036854775808) (.l 0) (.c (.c (.i 3 0))))]))
  (cCond (.f 3) cSkip (cExit 0)))
  (cBlock 1 (cSeq (cSeq (cReg (regC [sPush (xLenT (.f 0)),
    sPush (xBin (bSub 3 18446744073709551616) (.l 0) (.c (.c (.i 3 1)))),
    sPush (xIxT (.f 0) (.l 0)),
    sPush (xCalF 224 [(.f 1), (.l 0)]),
    sSet 4 (xNot (.l 0))]))
  (cCond (.f 4) (cExit 0) cSkip))
  (cReg (regC [sPush (xLenT (.f 0)),
    sPush (xBin (bSub 3 18446744073709551616) (.l 0) (.c (.c (.i 3 1)))),
    sPush (xCutT (.f 0) none (some (.l 0))),
    sSet 0 (xMov (.l 0))])))))))
  (cSeq (cReg (regC [sSet 2 (xMov (.f 0))]))
  cRet))),
  [.v (.f 2)], 2⟩
def m190 : List (Nat × Nat) := [(0, 0), (1, 1), (4, 2), (5, 3), (6, 4), (9, 5), (18, 6)]
/-- strings.trimLeftUnicode -/
noncomputable def u190 : Fu := ⟨(cSeq (cReg (regC [sSet 2 (xMov (.c (.c (.o (.s [])))))]))
  (cSeq (cBlock 0 (cLoop (cSeq (cSeq (cReg (regC [sPush (xLenT (.f 0)),
    sSet 5 (xBin (bGtr 3 18446744073709551616 9223372036854775808) (.l 0) (.c (.c (.i 3 0))))]))
  (cCond (.f 5) cSkip (cExit 0)))
  (cBlock 1 (cSeq (cReg (regC [sPush (xCalF 225 [(.f 0)]),
    sPush (xExt (.l 0) 0),
    sPush (xExt (.l 1) 1),
    sSet 3 (xMov (.l 1)),
    sSet 4 (xMov (.l 0))]))
  (cSeq (cSeq (cReg (regC [sPush (xCalF 226 [(.f 1), (.f 3)]),
    sSet 6 (xNot (.l 0))]))
  (cCond (.f 6) (cExit 0) cSkip))
  (cReg (regC [sPush (xCutT (.f 0) (some (.f 4)) none),
    sSet 0 (xMov (.l 0))]))))))))
  (cSeq (cReg (regC [sSet 2 (xMov (.f 0))]))
  cRet))),
  [.v (.f 2)], 2⟩
def m191 : List (Nat × Nat) := [(0, 0), (1, 1), (4, 2), (5, 3), (6, 4), (9, 5), (17, 6), (26, 7)]
/-- strings.trimRightUnicode -/
noncomputable def u191 : Fu := ⟨(cSeq (cReg (regC [sSet 2 (xMov (.c (.c (.o (.s [])))))]))
  (cSeq (cBlock 0 (cLoop (cSeq (cSeq (cReg (regC [sPush (xLenT (.f 0)),
    sSet 5 (xBin (bGtr 3 18446744073709551616 9223372036854775808) (.l 0) (.c (.c (.i 3 0))))]))
  (cCond (.f 5) cSkip (cExit 0)))
  (cBlock 1 (cSeq (cReg (regC [sPush (xLenT (.f 0)),
    sPush (xBin (bSub 3 18446744073709551616) (.l 0) (.c (.c (.i 3 1)))),
    sPush (xIxT (.f 0) (.l 0)),
    sPush (xCvi 4 256 256 2 4294967296 (.l 0)),
    sSet 3 (xMov (.l 0)),
    sSet 4 (xMov (.c (.c (.i 3 1))))]))
  (cSeq (cSeq (cReg (regC [sSet 6 (xBin (bGeq 2 4294967296 2147483648) (.f 3) (.c (.c (.i 2 128))))]))
  (cCond (.f 6) (cReg (regC [sPush (xCalF 227 [(.f 0)]),
    sPush (xExt (.l 0) 0),
    sPush (xExt (.l 1) 1),
    sSet 3 (xMov (.l 1)),
    sSet 4 (xMov (.l 0))])) cSkip))
  (cSeq (cSeq (cReg (regC [sPush (xCalF 226 [(.f 1), (.f 3)]),
    sSet 7 (xNot (.l 0))]))
  (cCond (.f 7) (cExit 0) cSkip))
  (cReg (regC [sPush (xLenT (.f 0)),
    sPush (xBin (bSub 3 18446744073709551616) (.l 0) (.f 4)),
    sPush (xCutT (.f 0) none (some (.l 0))),
    sSet 0 (xMov (.l 0))])))))))))
  (cSeq (cReg (regC [sSet 2 (xMov (.f 0))]))
  cRet))),
  [.v (.f 2)], 2⟩
def m192 : List (Nat × Nat) := [(0, 0), (1, 1), (3, 2), (4, 3), (5, 4), (7, 5), (8, 6), (9, 7), (16, 8)]
/-- slices.Index[[][2]string,[2]string] -/
noncomputable def u192 : Fu := ⟨(cSeq (cReg (regC [sSet 2 (xBox 156 (.f 1)),
    sSet 3 (xMov (.c (.c (.i 3 0))))]))
  (cSeq (cSeq (cReg (regC [sSet 5 (xLen (.f 0)),
    sSet 6 (xMov (.c (.c (.i 3 0))))]))
  (cBlock 0 (cLoop (cSeq (cReg (regC [sSet 7 (xBin (bLss 3 18446744073709551616 9223372036854775808) (.f 6) (.f 5))]))
  (cSeq (cCond (.f 7) cSkip (cExit 0))
  (cSeq (cBlock 1 (cSeq (cReg (regC [sSet 4 (xMov (.f 6))]))
  (cSeq (cReg (regC [sPush (xLdA 2 (.f 2)),
    sPush (xIxS 2 (.f 0) (.f 4)),
    sPush (xLdA 2 (.l 0)),
    sSet 8 (xBin (gEq [1, 1]) (.l 2) (.l 0))]))
  (cCond (.f 8) (cSeq (cReg (regC [sSet 3 (xMov (.f 4))]))
  cRet) cSkip))))
  (cReg (regC [sPush (xBin (bAdd 3 18446744073709551616) (.f 6) (.c (.c (.i 3 1)))),
    sSet 6 (xMov (.l 0))]))))))))
  (cSeq (cReg (regC [sSet 3 (xMov (.c (.c (.i 3 18446744073709551615))))]))
  cRet))),
  [.v (.f 3)], 2⟩
def m193 : List (Nat × Nat) := [(0, 0), (1, 1), (4, 2)]
/-- legate/legateref3.left -/
noncomputable def u193 : Fu := ⟨(cSeq (cReg (regC [sSet 2 (xMov (.c (.c (.i 7 0))))]))
  (cSeq (cReg (regC [sPush (xBin (bShl 7 18446744073709551616) (.f 0) (.f 1)),
    sPush (xBin (bSub 7 18446744073709551616) (.c (.c (.i 7 64))) (.f 1)),
    sPush (xBin (bShr 7 18446744073709551616) (.f 0) (.l 0)),
    sPush (xBin (bOr 7) (.l 2) (.l 0)),
    sSet 2 (xMov (.l 0))]))
  cRet)),
  [.v (.f 2)], 2⟩
def m194 : List (Nat × Nat) := [(0, 0), (2, 1)]
/-- legate/der.Open -/
noncomputable def u194 : Fu := ⟨(cSeq (cReg (regC [sSet 1 (xMov (.c (.c (.o (.np)))))]))
  (cSeq (cReg (regC [sPush (xCalF 212 [(.f 0)]),
    sPush (xBld [.o (.ns), .o (.b false)] [.mk 0 1 (.l 0)]),
    sPush (xBox 322 (.l 0)),
    sSet 1 (xMov (.l 0))]))
  cRet)),
  [.v (.f 1)], 1⟩
def m195 : List (Nat × Nat) := [(0, 0), (1, 1), (4, 2), (5, 3), (6, 4)]
/-- (*legate/der.Cursor).Into -/
noncomputable def u195 : Fu := ⟨(cSeq (cReg (regC [sSet 2 (xMov (.c (.c (.o (.np)))))]))
  (cSeq (cReg (regC [sPush (xCalF 196 [(.f 0), (.f 1)]),
    sPush (xExt (.l 0) 0),
    sPush (xExt (.l 1) 1),
    sSet 3 (xMov (.l 1)),
    sSet 4 (xMov (.l 0))]))
  (cSeq (cReg (regC [sPush (xNot (.f 4)),
    sPush (xBld [.o (.ns), .o (.b false)] [.mk 0 1 (.f 3), .mk 1 1 (.l 0)]),
    sPush (xBox 322 (.l 0)),
    sSet 2 (xMov (.l 0))]))
  cRet))),
  [.v (.f 2)], 2⟩
def m196 : List (Nat × Nat) := [(0, 0), (1, 1), (4, 2), (5, 3), (6, 4), (7, 5), (8, 6), (9, 7), (30, 8), (53, 9)]
/-- (*legate/der.Cursor).element -/
noncomputable def u196 : Fu := ⟨(cSeq (cReg (regC [sSet 2 (xMov (.c (.c (.o (.ns))))),
    sSet 3 (xMov (.c (.c (.o (.b false)))))]))
  (cSeq (cSeq (cReg (regC [sPush (xCalF 228 [(.f 0)]),
    sPush (xNot (.l 0)),
    sIf (.l 0) false (sPush (xMov (.f 0))) (sPush (xMov (.c udf))),
    sIf (.l 1) false (sPush (xChk (.l 0))) (sPush (xMov (.c udf))),
    sIf (.l 2) false (sPush (xFld (.l 0) 0)) (sPush (xMov (.c udf))),
    sIf (.l 3) false (sPush (xLd1 (.l 0))) (sPush (xMov (.c udf))),
    sIf (.l 4) false (sPush (xLen (.l 0))) (sPush (xMov (.c udf))),
    sIf (.l 5) false (sPush (xBin (bEq 0) (.l 0) (.c (.c (.i 3 0))))) (sPush (xMov (.c udf))),
    sPush (xPick (.l 6) (.c (.c (.o (.b true)))) (.l 0)),
    sIf (.l 0) false (sPush (xMov (.f 0))) (sPush (xMov (.c udf))),
    sIf (.l 1) false (sPush (xChk (.l 0))) (sPush (xMov (.c udf))),
    sIf (.l 2) false (sPush (xFld (.l 0) 0)) (sPush (xMov (.c udf))),
    sIf (.l 3) false (sPush (xLd1 (.l 0))) (sPush (xMov (.c udf))),
    sIf (.l 4) false (sPush (xIxS 1 (.l 0) (.c (.c (.i 3 0))))) (sPush (xMov (.c udf))),
    sIf (.l 5) false (sPush (xLd1 (.l 0))) (sPush (xMov (.c udf))),
    sIf (.l 6) false (sPush (xMov (.f 1))) (sPush (xMov (.c udf))),
    sIf (.l 7) false (sPush (xBin (bNe 0) (.l 1) (.l 0))) (sPush (xMov (.c udf))),
    sSet 8 (xPick (.l 8) (.c (.c (.o (.b true)))) (.l 0))]))
  (cCond (.f 8) (cSeq (cReg (regC [sPush (xCalF 198 [(.f 0)]),
    sSet 2 (xMov (.l 0)),
    sSet 3 (xMov (.c (.c (.o (.b false)))))]))
  cRet) cSkip))
  (cSeq (cReg (regC [sPush (xChk (.f 0)),
    sPush (xFld (.l 0) 0),
    sPush (xLd1 (.l 0)),
    sPush (xCutL 1 (.l 0) (some (.c (.c (.i 3 1)))) none),
    sSet 4 (xMov (.l 0))]))
  (cSeq (cReg (regC [sPush (xCalF 229 [(.f 4)]),
    sPush (xExt (.l 0) 0),
    sPush (xExt (.l 1) 1),
    sPush (xExt (.l 2) 2),
    sSet 5 (xMov (.l 2)),
    sSet 6 (xMov (.l 1)),
    sSet 7 (xMov (.l 0))]))
  (cSeq (cSeq (cReg (regC [sPush (xNot (.f 7)),
    sIf (.l 0) false (sPush (xMov (.f 6))) (sPush (xMov (.c udf))),
    sIf (.l 1) false (sPush (xMov (.f 4))) (sPush (xMov (.c udf))),
    sIf (.l 2) false (sPush (xLen (.l 0))) (sPush (xMov (.c udf))),
    sIf (.l 3) false (sPush (xMov (.f 5))) (sPush (xMov (.c udf))),
    sIf (.l 4) false (sPush (xBin (bSub 3 18446744073709551616) (.l 1) (.l 0))) (sPush (xMov (.c udf))),
    sIf (.l 5) false (sPush (xBin (bGtr 3 18446744073709551616 9223372036854775808) (.l 4) (.l 0))) (sPush (xMov (.c udf))),
    sSet 9 (xPick (.l 6) (.c (.c (.o (.b true)))) (.l 0))]))
  (cCond (.f 9) (cSeq (cReg (regC [sPush (xCalF 198 [(.f 0)]),
    sSet 2 (xMov (.l 0)),
    sSet 3 (xMov (.c (.c (.o (.b false)))))]))
  cRet) cSkip))
  (cSeq (cReg (regC [sPush (xBin (bAdd 3 18446744073709551616) (.f 5) (.f 6)),
    sPush (xCutL 1 (.f 4) (some (.l 0)) none),
    sPush (xChk (.f 0)),
    sPush (xFld (.l 0) 0),
    sDo (xSt1 (.l 0) (.l 2))]))
  (cSeq (cReg (regC [sPush (xBin (bAdd 3 18446744073709551616) (.f 5) (.f 6)),
    sPush (xCutL 1 (.f 4) (some (.f 5)) (some (.l 0))),
    sPush (xCalF 212 [(.l 0)]),
    sSet 2 (xMov (.l 0)),
    sSet 3 (xMov (.c (.c (.o (.b true)))))]))
  cRet))))))),
  [.v (.f 2), .v (.f 3)], 2⟩
def m197 : List (Nat × Nat) := [(0, 0), (2, 1), (3, 2), (18, 3)]
/-- legate/der.isNumber -/
noncomputable def u197 : Fu := ⟨(cSeq (cReg (regC [sSet 1 (xMov (.c (.c (.o (.b false)))))]))
  (cSeq (cBlock 0 (cSeq (cReg (regC [sPush (xLen (.f 0)),
    sPush (xBin (bEq 0) (.l 0) (.c (.c (.i 3 0)))),
    sIf (.l 0) false (sPush (xMov (.f 0))) (sPush (xMov (.c udf))),
    sIf (.l 1) false (sPush (xLen (.l 0))) (sPush (xMov (.c udf))),
    sIf (.l 2) false (sPush (xBin (bGtr 3 18446744073709551616 9223372036854775808) (.l 0) (.c (.c (.i 3 8))))) (sPush (xMov (.c udf))),
    sPush (xPick (.l 3) (.c (.c (.o (.b true)))) (.l 0)),
    sIf (.l 0) false (sPush (xMov (.f 0))) (sPush (xMov (.c udf))),
    sIf (.l 1) false (sPush (xIxS 1 (.l 0) (.c (.c (.i 3 0))))) (sPush (xMov (.c udf))),
    sIf (.l 2) false (sPush (xLd1 (.l 0))) (sPush (xMov (.c udf))),
    sIf (.l 3) false (sPush (xBin (bGeq 4 256 0) (.l 0) (.c (.c (.i 4 128))))) (sPush (xMov (.c udf))),
    sPush (xPick (.l 4) (.c (.c (.o (.b true)))) (.l 0)),
    sSet 2 (xMov (.l 0))]))
  (cCond (.f 2) (cSeq (cReg (regC [sSet 1 (xMov (.c (.c (.o (.b false)))))]))
  cRet) (cSeq (cReg (regC [sPush (xLen (.f 0)),
    sPush (xBin (bGtr 3 18446744073709551616 9223372036854775808) (.l 0) (.c (.c (.i 3 1)))),
    sIf (.l 0) true (sPush (xMov (.f 0))) (sPush (xMov (.c udf))),
    sIf (.l 1) true (sPush (xIxS 1 (.l 0) (.c (.c (.i 3 0))))) (sPush (xMov (.c udf))),
    sIf (.l 2) true (sPush (xLd1 (.l 0))) (sPush (xMov (.c udf))),
    sIf (.l 3) true (sPush (xBin (bEq 0) (.l 0) (.c (.c (.i 4 0))))) (sPush (xMov (.c udf))),
    sPush (xPick (.l 4) (.l 0) (.c (.c (.o (.b false))))),
    sSet 3 (xMov (.l 0))]))
  (cCond (.f 3) (cSeq (cReg (regC [sPush (xIxS 1 (.f 0) (.c (.c (.i 3 1)))),
    sPush (xLd1 (.l 0)),
    sPush (xBin (bGeq 4 256 0) (.l 0) (.c (.c (.i 4 128)))),
    sSet 1 (xMov (.l 0))]))
  cRet) cSkip)))))
  (cSeq (cReg (regC [sSet 1 (xMov (.c (.c (.o (.b true)))))]))
  cRet))),
  [.v (.f 1)], 1⟩
def m198 : List (Nat × Nat) := [(0, 0), (2, 1), (4, 2)]
/-- (*legate/der.Cursor).errs -/
noncomputable def u198 : Fu := ⟨(cSeq (cReg (regC [sSet 1 (xMov (.c (.c (.o (.ns)))))]))
  (cSeq (cSeq (cReg (regC [sSet 2 (xBin (bNeN 0) (.f 0) (.c (.c (.o (.np)))))]))
  (cCond (.f 2) (cReg (regC [sPush (xChk (.f 0)),
    sPush (xFld (.l 0) 0),
    sDo (xSt1 (.l 0) (.c (.c (.o (.ns))))),
    sPush (xChk (.f 0)),
    sPush (xFld (.l 0) 1),
    sDo (xSt1 (.l 0) (.c (.c (.o (.b true)))))])) cSkip))
  (cSeq (cReg (regC [sSet 1 (xMov (.c (.c (.o (.ns)))))]))
  cRet))),
  [.v (.f 1)], 1⟩
def m199 : List (Nat × Nat) := [(0, 0), (2, 1), (4, 2), (5, 3), (6, 4), (7, 5), (8, 6), (13, 7)]
/-- legate/msg.areTimes -/
noncomputable def u199 : Fu := ⟨(cSeq (cReg (regC [sSet 1 (xMov (.c (.c (.o (.b false)))))]))
  (cSeq (cSeq (cReg (regC [sSet 3 (xMov (.f 0)),
    sSet 4 (xLen (.f 3)),
    sSet 5 (xMov (.c (.c (.i 3 0))))]))
  (cBlock 0 (cLoop (cSeq (cReg (regC [sSet 6 (xBin (bLss 3 18446744073709551616 9223372036854775808) (.f 5) (.f 4))]))
  (cSeq (cCond (.f 6) cSkip (cExit 0))
  (cSeq (cBlock 1 (cSeq (cReg (regC [sPush (xIxS 1 (.f 3) (.f 5)),
    sPush (xLd1 (.l 0)),
    sSet 2 (xMov (.l 0))]))
  (cSeq (cReg (regC [sPush (xCalF 203 [(.f 2), (.c (.c (.i 3 0))), (.c (.c (.i 3 1073741824)))]),
    sSet 7 (xNot (.l 0))]))
  (cCond (.f 7) (cSeq (cReg (regC [sSet 1 (xMov (.c (.c (.o (.b false)))))]))
  cRet) cSkip))))
  (cReg (regC [sPush (xBin (bAdd 3 18446744073709551616) (.f 5) (.c (.c (.i 3 1)))),
    sSet 5 (xMov (.l 0))]))))))))
  (cSeq (cReg (regC [sSet 1 (xMov (.c (.c (.o (.b true)))))]))
  cRet))),
  [.v (.f 1)], 1⟩
def m200 : List (Nat × Nat) := [(0, 0), (2, 1)]
/-- legate/msg.isNonce -/
noncomputable def u200 : Fu := ⟨(cSeq (cReg (regC [sSet 1 (xMov (.c (.c (.o (.b false)))))]))
  (cSeq (cReg (regC [sPush (xCalF 203 [(.f 0), (.c (.c (.i 3 0))), (.c (.c (.i 3 1073741824)))]),
    sSet 1 (xMov (.l 0))]))
  cRet)),
  [.v (.f 1)], 1⟩
def m201 : List (Nat × Nat) := [(0, 0), (1, 1), (2, 2)]
/-- legate/msg.isTicket -/
noncomputable def u201 : Fu := ⟨(cSeq (cReg (regC [sSet 1 (xBox 50 (.f 0)),
    sSet 2 (xMov (.c (.c (.o (.b false)))))]))
  (cSeq (cReg (regC [sPush (xFld (.f 1) 0),
    sPush (xLdA 2 (.l 0)),
    sPush (xCalF 51 [(.l 0)]),
    sIf (.l 0) true (sPush (xFld (.f 1) 2)) (sPush (xMov (.c udf))),
    sIf (.l 1) true (sPush (xLd1 (.l 0))) (sPush (xMov (.c udf))),
    sIf (.l 2) true (sPush (xCalF 203 [(.l 0), (.c (.c (.i 3 1))), (.c (.c (.i 3 255)))])) (sPush (xMov (.c udf))),
    sPush (xPick (.l 3) (.l 0) (.c (.c (.o (.b false))))),
    sIf (.l 0) true (sPush (xFld (.f 1) 3)) (sPush (xMov (.c udf))),
    sIf (.l 1) true (sPush (xLd1 (.l 0))) (sPush (xMov (.c udf))),
    sIf (.l 2) true (sPush (xCalF 202 [(.l 0)])) (sPush (xMov (.c udf))),
    sPush (xPick (.l 3) (.l 0) (.c (.c (.o (.b false))))),
    sSet 2 (xMov (.l 0))]))
  cRet)),
  [.v (.f 2)], 1⟩
def m202 : List (Nat × Nat) := [(0, 0), (2, 1)]
/-- legate/msg.isBlob -/
noncomputable def u202 : Fu := ⟨(cSeq (cReg (regC [sSet 1 (xMov (.c (.c (.o (.b false)))))]))
  (cSeq (cReg (regC [sPush (xLen (.f 0)),
    sPush (xCalF 203 [(.l 0), (.c (.c (.i 3 1))), (.c (.c (.i 3 800)))]),
    sSet 1 (xMov (.l 0))]))
  cRet)),
  [.v (.f 1)], 1⟩
def m203 : List (Nat × Nat) := [(0, 0), (1, 1), (2, 2), (6, 3)]
/-- legate/msg.isIn -/
noncomputable def u203 : Fu := ⟨(cSeq (cReg (regC [sSet 3 (xMov (.c (.c (.o (.b false)))))]))
  (cSeq (cReg (regC [sPush (xBin (bGeq 3 18446744073709551616 9223372036854775808) (.f 0) (.f 1)),
    sIf (.l 0) true (sPush (xMov (.f 0))) (sPush (xMov (.c udf))),
    sIf (.l 1) true (sPush (xMov (.f 2))) (sPush (xMov (.c udf))),
    sIf (.l 2) true (sPush (xBin (bLeq 3 18446744073709551616 9223372036854775808) (.l 1) (.l 0))) (sPush (xMov (.c udf))),
    sPush (xPick (.l 3) (.l 0) (.c (.c (.o (.b false))))),
    sSet 3 (xMov (.l 0))]))
  cRet)),
  [.v (.f 3)], 3⟩
def m204 : List (Nat × Nat) := [(0, 0), (1, 1), (2, 2), (3, 3), (4, 4), (5, 5)]
/-- legate/msg.others -/
noncomputable def u204 : Fu := ⟨(cSeq (cReg (regC [sSet 1 (xBox 60 (.f 0)),
    sSet 2 (xMov (.c (.c (.o (.b false)))))]))
  (cSeq (cReg (regC [sPush (xFld (.f 1) 7),
    sPush (xLdA 9 (.l 0)),
    sPush (xFld (.f 1) 16),
    sPush (xLdA 7 (.l 0)),
    sPush (xFld (.f 1) 23),
    sPush (xLdA 5 (.l 0)),
    sPush (xMov (.c (.g [.o (.s []), .o (.s []), .i 3 0, .o (.ns), .o (.ns), .o (.s []), .o (.s []), .i 3 0, .i 3 0]))),
    sPush (xMov (.c (.g [.o (.s []), .o (.s []), .o (.s []), .o (.s []), .i 3 0, .o (.ns), .o (.ns)]))),
    sPush (xMov (.c (.g [.o (.s []), .o (.s []), .i 3 0, .o (.ns), .o (.ns)]))),
    sSet 3 (xMkp 52 (.l 2)),
    sSet 4 (xMkp 54 (.l 1)),
    sSet 5 (xMkp 56 (.l 0)),
    sDo (xStA 9 (.f 3) (.l 7)),
    sAg (.l 3) (xLdA 5 (.l 4)),
    sAg (.l 5) (xLdA 7 (.l 6)),
    sDo (xStA 7 (.f 4) (.l 5)),
    sAg (.l 3) (xLdA 5 (.l 4)),
    sDo (xStA 5 (.f 5) (.l 3))]))
  (cSeq (cReg (regC [sPush (xFld (.f 1) 0),
    sPush (xLd1 (.l 0)),
    sPush (xBin (bEq 0) (.l 0) (.c (.c (.i 3 1)))),
    sIf (.l 0) false (sPush (xFld (.f 1) 1)) (sPush (xMov (.c udf))),
    sIf (.l 1) false (sPush (xLdA 6 (.l 0))) (sPush (xMov (.c udf))),
    sIf (.l 2) false (sPush (xBld [.o (.s []), .o (.s []), .o (.s []), .o (.s []), .i 3 0, .i 3 0] [])) (sPush (xMov (.c udf))),
    sIf (.l 3) false (sPush (xBin (gEq [1, 1, 1, 1, 0, 0]) (.l 1) (.l 0))) (sPush (xMov (.c udf))),
    sPush (xPick (.l 4) (.c (.c (.o (.b true)))) (.l 0)),
    sIf (.l 0) true (sPush (xFld (.f 1) 0)) (sPush (xMov (.c udf))),
    sIf (.l 1) true (sPush (xLd1 (.l 0))) (sPush (xMov (.c udf))),
    sIf (.l 2) true (sPush (xBin (bEq 0) (.l 0) (.c (.c (.i 3 2))))) (sPush (xMov (.c udf))),
    sIf (.l 3) true (sPush (xMov (.l 0))) (sPush (xMov (.c udf))),
    sIf (.l 0) false (sPush (xFld (.f 3) 0)) (sPush (xMov (.c udf))),
    sIf (.l 1) false (sPush (xLdA 4 (.l 0))) (sPush (xMov (.c udf))),
    sIf (.l 2) false (sPush (xCalF 230 [(.l 0)])) (sPush (xMov (.c udf))),
    sIf (.l 3) false (sPush (xMov (.l 0))) (sPush (xMov (.c udf))),
    sIf (.l 0) true (sPush (xFld (.f 3) 4)) (sPush (xMov (.c udf))),
    sIf (.l 1) true (sPush (xLd1 (.l 0))) (sPush (xMov (.c udf))),
    sIf (.l 2) true (sPush (xLen (.l 0))) (sPush (xMov (.c udf))),
    sIf (.l 3) true (sPush (xBin (bEq 0) (.l 0) (.c (.c (.i 3 0))))) (sPush (xMov (.c udf))),
    sIf (.l 8) false (sPush (xPick (.l 4) (.l 0) (.c (.c (.o (.b false)))))) (sPush (xMov (.c udf))),
    sIf (.l 9) false (sPush (xMov (.l 0))) (sPush (xMov (.c udf))),
    sIf (.l 0) true (sPush (xFld (.f 3) 5)) (sPush (xMov (.c udf))),
    sIf (.l 1) true (sPush (xLdA 2 (.l 0))) (sPush (xMov (.c udf))),
    sIf (.l 2) true (sPush (xBld [.o (.s []), .o (.s [])] [])) (sPush (xMov (.c udf))),
    sIf (.l 3) true (sPush (xBin (gEq [1, 1]) (.l 1) (.l 0))) (sPush (xMov (.c udf))),
    sIf (.l 14) false (sPush (xPick (.l 4) (.l 0) (.c (.c (.o (.b false)))))) (sPush (xMov (.c udf))),
    sIf (.l 15) false (sPush (xMov (.l 0))) (sPush (xMov (.c udf))),
    sIf (.l 0) true (sPush (xFld (.f 3) 7)) (sPush (xMov (.c udf))),
    sIf (.l 1) true (sPush (xLd1 (.l 0))) (sPush (xMov (.c udf))),
    sIf (.l 2) true (sPush (xBin (bEq 0) (.l 0) (.c (.c (.i 3 0))))) (sPush (xMov (.c udf))),
    sIf (.l 19) false (sPush (xPick (.l 3) (.l 0) (.c (.c (.o (.b false)))))) (sPush (xMov (.c udf))),
    sIf (.l 20) false (sPush (xMov (.l 0))) (sPush (xMov (.c udf))),
    sIf (.l 0) true (sPush (xFld (.f 3) 8)) (sPush (xMov (.c udf))),
    sIf (.l 1) true (sPush (xLd1 (.l 0))) (sPush (xMov (.c udf))),
    sIf (.l 2) true (sPush (xBin (bEq 0) (.l 0) (.c (.c (.i 3 0))))) (sPush (xMov (.c udf))),
    sIf (.l 24) false (sPush (xPick (.l 3) (.l 0) (.c (.c (.o (.b false)))))) (sPush (xMov (.c udf))),
    sIf (.l 29) true (sPush (xPick (.l 25) (.c (.c (.o (.b true)))) (.l 0))) (sPush (xMov (.c udf))),
    sPush (xPick (.l 30) (.l 0) (.c (.c (.o (.b false))))),
    sIf (.l 0) true (sPush (xFld (.f 1) 0)) (sPush (xMov (.c udf))),
    sIf (.l 1) true (sPush (xLd1 (.l 0))) (sPush (xMov (.c udf))),
    sIf (.l 2) true (sPush (xBin (bEq 0) (.l 0) (.c (.c (.i 3 3))))) (sPush (xMov (.c udf))),
    sIf (.l 3) true (sPush (xMov (.l 0))) (sPush (xMov (.c udf))),
    sIf (.l 0) false (sPush (xFld (.f 4) 0)) (sPush (xMov (.c udf))),
    sIf (.l 1) false (sPush (xLdA 2 (.l 0))) (sPush (xMov (.c udf))),
    sIf (.l 2) false (sPush (xBld [.o (.s []), .o (.s [])] [])) (sPush (xMov (.c udf))),
    sIf (.l 3) false (sPush (xBin (gEq [1, 1]) (.l 1) (.l 0))) (sPush (xMov (.c udf))),
    sIf (.l 4) false (sPush (xMov (.l 0))) (sPush (xMov (.c udf))),
    sIf (.l 0) true (sPush (xFld (.f 4) 2)) (sPush (xMov (.c udf))),
    sIf (.l 1) true (sPush (xLdA 4 (.l 0))) (sPush (xMov (.c udf))),
    sIf (.l 2) true (sPush (xCalF 230 [(.l 0)])) (sPush (xMov (.c udf))),
    sIf (.l 8) false (sPush (xPick (.l 3) (.l 0) (.c (.c (.o (.b false)))))) (sPush (xMov (.c udf))),
    sIf (.l 9) false (sPush (xMov (.l 0))) (sPush (xMov (.c udf))),
    sIf (.l 0) true (sPush (xFld (.f 4) 6)) (sPush (xMov (.c udf))),
    sIf (.l 1) true (sPush (xLd1 (.l 0))) (sPush (xMov (.c udf))),
    sIf (.l 2) true (sPush (xLen (.l 0))) (sPush (xMov (.c udf))),
    sIf (.l 3) true (sPush (xBin (bEq 0) (.l 0) (.c (.c (.i 3 0))))) (sPush (xMov (.c udf))),
    sIf (.l 14) false (sPush (xPick (.l 4) (.l 0) (.c (.c (.o (.b false)))))) (sPush (xMov (.c udf))),
    sIf (.l 19) true (sPush (xPick (.l 15) (.c (.c (.o (.b true)))) (.l 0))) (sPush (xMov (.c udf))),
    sPush (xPick (.l 20) (.l 0) (.c (.c (.o (.b false))))),
    sIf (.l 0) true (sPush (xFld (.f 1) 0)) (sPush (xMov (.c udf))),
    sIf (.l 1) true (sPush (xLd1 (.l 0))) (sPush (xMov (.c udf))),
    sIf (.l 2) true (sPush (xBin (bEq 0) (.l 0) (.c (.c (.i 3 4))))) (sPush (xMov (.c udf))),
    sIf (.l 3) true (sPush (xMov (.l 0))) (sPush (xMov (.c udf))),
    sIf (.l 0) false (sPush (xFld (.f 5) 0)) (sPush (xMov (.c udf))),
    sIf (.l 1) false (sPush (xLdA 4 (.l 0))) (sPush (xMov (.c udf))),
    sIf (.l 2) false (sPush (xCalF 230 [(.l 0)])) (sPush (xMov (.c udf))),
    sIf (.l 3) false (sPush (xMov (.l 0))) (sPush (xMov (.c udf))),
    sIf (.l 0) true (sPush (xFld (.f 5) 4)) (sPush (xMov (.c udf))),
    sIf (.l 1) true (sPush (xLd1 (.l 0))) (sPush (xMov (.c udf))),
    sIf (.l 2) true (sPush (xLen (.l 0))) (sPush (xMov (.c udf))),
    sIf (.l 3) true (sPush (xBin (bEq 0) (.l 0) (.c (.c (.i 3 0))))) (sPush (xMov (.c udf))),
    sIf (.l 8) false (sPush (xPick (.l 4) (.l 0) (.c (.c (.o (.b false)))))) (sPush (xMov (.c udf))),
    sIf (.l 13) true (sPush (xPick (.l 9) (.c (.c (.o (.b true)))) (.l 0))) (sPush (xMov (.c udf))),
    sPush (xPick (.l 14) (.l 0) (.c (.c (.o (.b false))))),
    sIf (.l 0) true (sPush (xFld (.f 1) 0)) (sPush (xMov (.c udf))),
    sIf (.l 1) true (sPush (xLd1 (.l 0))) (sPush (xMov (.c udf))),
    sIf (.l 2) true (sPush (xBin (bEq 0) (.l 0) (.c (.c (.i 3 5))))) (sPush (xMov (.c udf))),
    sIf (.l 3) true (sPush (xMov (.l 0))) (sPush (xMov (.c udf))),
    sIf (.l 0) false (sPush (xFld (.f 1) 28)) (sPush (xMov (.c udf))),
    sIf (.l 1) false (sPush (xLdA 2 (.l 0))) (sPush (xMov (.c udf))),
    sIf (.l 2) false (sPush (xBld [.i 3 0, .i 3 0] [])) (sPush (xMov (.c udf))),
    sIf (.l 3) false (sPush (xBin (gEq [0, 0]) (.l 1) (.l 0))) (sPush (xMov (.c udf))),
    sIf (.l 8) true (sPush (xPick (.l 4) (.c (.c (.o (.b true)))) (.l 0))) (sPush (xMov (.c udf))),
    sPush (xPick (.l 9) (.l 0) (.c (.c (.o (.b false))))),
    sSet 2 (xMov (.l 0))]))
  cRet))),
  [.v (.f 2)], 1⟩
def m205 : List (Nat × Nat) := [(0, 0), (1, 1), (4, 2), (5, 3)]
/-- legate/der.Wrap -/
noncomputable def u205 : Fu := ⟨(cSeq (cReg (regC [sSet 2 (xMov (.c (.c (.o (.ns)))))]))
  (cSeq (cReg (regC [sPush (xCalF 231 [(.f 1)]),
    sSet 3 (xMov (.l 0))]))
  (cSeq (cReg (regC [sPush (xBls 5 1 [.i 4 0] [.mk 0 1 (.f 0)]),
    sPush (xLen (.f 3)),
    sPush (xCalF 232 [(.l 0)]),
    sPush (xBls 34 3 [.o (.ns), .o (.ns), .o (.ns)] [.mk 0 1 (.l 2), .mk 1 1 (.l 0), .mk 2 1 (.f 3)]),
    sPush (xCalF 231 [(.l 0)]),
    sSet 2 (xMov (.l 0))]))
  cRet))),
  [.v (.f 2)], 2⟩
def m206 : List (Nat × Nat) := [(0, 0), (1, 1), (2, 2)]
/-- legate/msg.princ -/
noncomputable def u206 : Fu := ⟨(cSeq (cReg (regC [sSet 1 (xBox 26 (.f 0)),
    sSet 2 (xMov (.c (.c (.o (.ns)))))]))
  (cSeq (cReg (regC [sPush (xFld (.f 1) 0),
    sPush (xLd1 (.l 0)),
    sPush (xFld (.f 1) 1),
    sPush (xLd1 (.l 0)),
    sPush (xCalF 215 [(.l 2)]),
    sAg (.l 1) (xLd1 (.l 2)),
    sPush (xCalF 215 [(.l 1)]),
    sPush (xBld [.o (.ns), .o (.ns)] [.mk 0 1 (.l 1), .mk 1 1 (.l 0)]),
    sPush (xMkl 34 2 (.l 0)),
    sPush (xCalF 205 [(.c (.c (.i 4 48))), (.l 0)]),
    sSet 2 (xMov (.l 0))]))
  cRet)),
  [.v (.f 2)], 1⟩
def m207 : List (Nat × Nat) := [(0, 0), (2, 1), (3, 2), (8, 3), (27, 4)]
/-- legate/der.Int -/
noncomputable def u207 : Fu := ⟨(cSeq (cReg (regC [sSet 1 (xMov (.c (.c (.o (.ns)))))]))
  (cSeq (cReg (regC [sPush (xBin (bMax 3 18446744073709551616 9223372036854775808) (.f 0) (.c (.c (.i 3 0)))),
    sPush (xBin (bMin 3 18446744073709551616 9223372036854775808) (.l 0) (.c (.c (.i 3 4611686018427387904)))),
    sSet 0 (xMov (.l 0))]))
  (cSeq (cReg (regC [sSet 2 (xMov (.c (.c (.o (.ns)))))]))
  (cSeq (cBlock 0 (cLoop (cSeq (cSeq (cReg (regC [sSet 3 (xBin (bGtr 3 18446744073709551616 9223372036854775808) (.f 0) (.c (.c (.i 3 0))))]))
  (cCond (.f 3) cSkip (cExit 0)))
  (cSeq (cBlock 1 (cReg (regC [sPush (xCvi 3 18446744073709551616 9223372036854775808 4 256 (.f 0)),
    sPush (xBls 5 1 [.i 4 0] [.mk 0 1 (.l 0)]),
    sPush (xApp 5 1 (.f 2) (.l 0)),
    sSet 2 (xMov (.l 0))])))
  (cReg (regC [sPush (xBin (bShr 3 9223372036854775808) (.f 0) (.c (.c (.i 7 8)))),
    sSet 0 (xMov (.l 0))]))))))
  (cSeq (cSeq (cReg (regC [sPush (xLen (.f 2)),
    sPush (xBin (bEq 0) (.l 0) (.c (.c (.i 3 0)))),
    sIf (.l 0) false (sPush (xMov (.f 2))) (sPush (xMov (.c udf))),
    sIf (.l 1) false (sPush (xMov (.f 2))) (sPush (xMov (.c udf))),
    sIf (.l 2) false (sPush (xLen (.l 0))) (sPush (xMov (.c udf))),
    sIf (.l 3) false (sPush (xBin (bSub 3 18446744073709551616) (.l 0) (.c (.c (.i 3 1))))) (sPush (xMov (.c udf))),
    sIf (.l 4) false (sPush (xIxS 1 (.l 3) (.l 0))) (sPush (xMov (.c udf))),
    sIf (.l 5) false (sPush (xLd1 (.l 0))) (sPush (xMov (.c udf))),
    sIf (.l 6) false (sPush (xBin (bGeq 4 256 0) (.l 0) (.c (.c (.i 4 128))))) (sPush (xMov (.c udf))),
    sSet 4 (xPick (.l 7) (.c (.c (.o (.b true)))) (.l 0))]))
  (cCond (.f 4) (cReg (regC [sPush (xBls 5 1 [.i 4 0] [.mk 0 1 (.c (.c (.i 4 0)))]),
    sPush (xApp 5 1 (.f 2) (.l 0)),
    sSet 2 (xMov (.l 0))])) cSkip))
  (cSeq (cReg (regC [sPush (xCalF 233 [(.f 2)])]))
  (cSeq (cReg (regC [sPush (xBls 34 1 [.o (.ns)] [.mk 0 1 (.f 2)]),
    sPush (xCalF 205 [(.c (.c (.i 4 2))), (.l 0)]),
    sSet 1 (xMov (.l 0))]))
  cRet))))))),
  [.v (.f 1)], 1⟩
def m208 : List (Nat × Nat) := [(0, 0), (1, 1), (2, 2)]
/-- legate/msg.ticket -/
noncomputable def u208 : Fu := ⟨(cSeq (cReg (regC [sSet 1 (xBox 50 (.f 0)),
    sSet 2 (xMov (.c (.c (.o (.ns)))))]))
  (cSeq (cReg (regC [sPush (xFld (.f 1) 0),
    sPush (xLdA 2 (.l 0)),
    sPush (xFld (.f 1) 2),
    sPush (xLd1 (.l 0)),
    sPush (xFld (.f 1) 3),
    sPush (xLd1 (.l 0)),
    sPush (xCalF 206 [(.l 4)]),
    sAg (.l 1) (xLd1 (.l 2)),
    sAg (.l 3) (xLd1 (.l 4)),
    sPush (xCalF 207 [(.l 3)]),
    sAg (.l 2) (xLd1 (.l 3)),
    sPush (xCalF 209 [(.l 2)]),
    sPush (xBld [.o (.ns), .o (.ns), .o (.ns)] [.mk 0 1 (.l 2), .mk 1 1 (.l 1), .mk 2 1 (.l 0)]),
    sPush (xMkl 34 3 (.l 0)),
    sPush (xCalF 205 [(.c (.c (.i 4 97))), (.l 0)]),
    sSet 2 (xMov (.l 0))]))
  cRet)),
  [.v (.f 2)], 1⟩
def m209 : List (Nat × Nat) := [(0, 0), (2, 1)]
/-- legate/der.Octets -/
noncomputable def u209 : Fu := ⟨(cSeq (cReg (regC [sSet 1 (xMov (.c (.c (.o (.ns)))))]))
  (cSeq (cReg (regC [sPush (xBls 34 1 [.o (.ns)] [.mk 0 1 (.f 0)]),
    sPush (xCalF 205 [(.c (.c (.i 4 4))), (.l 0)]),
    sSet 1 (xMov (.l 0))]))
  cRet)),
  [.v (.f 1)], 1⟩
def m210 : List (Nat × Nat) := [(0, 0), (2, 1), (3, 2), (4, 3), (7, 4), (8, 5), (9, 6)]
/-- legate/seal.bytes -/
noncomputable def u210 : Fu := ⟨(cSeq (cReg (regC [sSet 1 (xMov (.c (.c (.o (.ns)))))]))
  (cSeq (cReg (regC [sPush (xMks 5 [.i 4 0] (.c (.c (.i 3 8))) (.c (.c (.i 3 8)))),
    sSet 2 (xMov (.l 0))]))
  (cSeq (cSeq (cReg (regC [sSet 4 (xLen (.f 2)),
    sSet 5 (xMov (.c (.c (.i 3 0))))]))
  (cBlock 0 (cLoop (cSeq (cReg (regC [sSet 6 (xBin (bLss 3 18446744073709551616 9223372036854775808) (.f 5) (.f 4))]))
  (cSeq (cCond (.f 6) cSkip (cExit 0))
  (cSeq (cBlock 1 (cSeq (cReg (regC [sSet 3 (xMov (.f 5))]))
  (cReg (regC [sPush (xBin (bSub 3 18446744073709551616) (.c (.c (.i 3 7))) (.f 3)),
    sPush (xBin (bMul 3 18446744073709551616) (.c (.c (.i 3 8))) (.f 3)),
    sPush (xBin (bShr 7 18446744073709551616) (.f 0) (.l 0)),
    sPush (xCvi 7 18446744073709551616 18446744073709551616 4 256 (.l 0)),
    sPush (xIxS 1 (.f 2) (.l 3)),
    sDo (xSt1 (.l 0) (.l 1))]))))
  (cReg (regC [sPush (xBin (bAdd 3 18446744073709551616) (.f 5) (.c (.c (.i 3 1)))),
    sSet 5 (xMov (.l 0))]))))))))
  (cSeq (cReg (regC [sSet 1 (xMov (.f 2))]))
  cRet)))),
  [.v (.f 1)], 1⟩
def m211 : List (Nat × Nat) := [(0, 0), (1, 1), (2, 2), (4, 3), (5, 4), (6, 5), (7, 6), (8, 7), (9, 8), (33, 9)]
/-- legate/sip.Sum -/
noncomputable def u211 : Fu := ⟨(cSeq (cReg (regC [sSet 2 (xBox 204 (.f 0)),
    sSet 3 (xMov (.c (.c (.i 7 0))))]))
  (cSeq (cReg (regC [sPush (xCutA 16 1 (.f 2) none (some (.c (.c (.i 3 8))))),
    sPush (xCutA 16 1 (.f 2) (some (.c (.c (.i 3 8)))) none),
    sPush (xCalF 234 [(.l 1)]),
    sPush (xCalF 234 [(.l 1)]),
    sSet 4 (xMov (.l 1)),
    sSet 5 (xMov (.l 0))]))
  (cSeq (cReg (regC [sPush (xBin (bXor 7) (.c (.c (.i 7 8317987319222330741))) (.f 4)),
    sPush (xBin (bXor 7) (.c (.c (.i 7 7237128888997146477))) (.f 5)),
    sPush (xBin (bXor 7) (.c (.c (.i 7 7816392313619706465))) (.f 4)),
    sPush (xBin (bXor 7) (.c (.c (.i 7 8387220255154660723))) (.f 5)),
    sPush (xBld [.i 7 0, .i 7 0, .i 7 0, .i 7 0] [.mk 0 1 (.l 3), .mk 1 1 (.l 2), .mk 2 1 (.l 1), .mk 3 1 (.l 0)]),
    sPush (xBox 328 (.l 0)),
    sSet 6 (xMov (.l 0))]))
  (cSeq (cReg (regC [sPush (xCalF 231 [(.f 1)]),
    sSet 7 (xMov (.l 0))]))
  (cSeq (cReg (regC [sPush (xLen (.f 7)),
    sPush (xCvi 3 18446744073709551616 9223372036854775808 4 256 (.l 0)),
    sPush (xCvi 4 256 256 7 18446744073709551616 (.l 0)),
    sPush (xBin (bShl 7 18446744073709551616) (.l 0) (.c (.c (.i 7 56)))),
    sSet 8 (xMov (.l 0))]))
  (cSeq (cBlock 0 (cLoop (cSeq (cSeq (cReg (regC [sPush (xLen (.f 7)),
    sSet 9 (xBin (bGeq 3 18446744073709551616 9223372036854775808) (.l 0) (.c (.c (.i 3 8))))]))
  (cCond (.f 9) cSkip (cExit 0)))
  (cBlock 1 (cSeq (cReg (regC [sPush (xCutL 1 (.f 7) none (some (.c (.c (.i 3 8))))),
    sPush (xCalF 234 [(.l 0)]),
    sPush (xCalF 235 [(.f 6), (.l 0)])]))
  (cReg (regC [sPush (xCutL 1 (.f 7) (some (.c (.c (.i 3 8)))) none),
    sSet 7 (xMov (.l 0))])))))))
  (cSeq (cReg (regC [sPush (xCalF 234 [(.f 7)]),
    sPush (xBin (bOr 7) (.f 8) (.l 0)),
    sPush (xCalF 235 [(.f 6), (.l 0)])]))
  (cSeq (cReg (regC [sPush (xChk (.f 6)),
    sPush (xIxA 4 1 (.l 0) (.c (.c (.i 3 2)))),
    sPush (xLd1 (.l 0)),
    sPush (xBin (bXor 7) (.l 0) (.c (.c (.i 7 255)))),
    sPush (xChk (.f 6)),
    sPush (xIxA 4 1 (.l 0) (.c (.c (.i 3 2)))),
    sDo (xSt1 (.l 0) (.l 2))]))
  (cSeq (cReg (regC [sPush (xCalF 236 [(.f 6), (.c (.c (.i 3 4)))])]))
  (cSeq (cReg (regC [sPush (xChk (.f 6)),
    sPush (xIxA 4 1 (.l 0) (.c (.c (.i 3 0)))),
    sPush (xLd1 (.l 0)),
    sPush (xChk (.f 6)),
    sPush (xIxA 4 1 (.l 0) (.c (.c (.i 3 1)))),
    sPush (xLd1 (.l 0)),
    sPush (xBin (bXor 7) (.l 3) (.l 0)),
    sPush (xChk (.f 6)),
    sPush (xIxA 4 1 (.l 0) (.c (.c (.i 3 2)))),
    sPush (xLd1 (.l 0)),
    sPush (xBin (bXor 7) (.l 3) (.l 0)),
    sPush (xChk (.f 6)),
    sPush (xIxA 4 1 (.l 0) (.c (.c (.i 3 3)))),
    sPush (xLd1 (.l 0)),
    sPush (xBin (bXor 7) (.l 3) (.l 0)),
    sSet 3 (xMov (.l 0))]))
  cRet)))))))))),
  [.v (.f 3)], 2⟩
def m212 : List (Nat × Nat) := [(0, 0), (2, 1), (4, 2)]
/-- slices.Clone[[]byte,byte] -/
noncomputable def u212 : Fu := ⟨(cSeq (cReg (regC [sSet 1 (xMov (.c (.c (.o (.ns)))))]))
  (cSeq (cSeq (cReg (regC [sSet 2 (xBin (bEqN 1) (.f 0) (.c (.c (.o (.ns)))))]))
  (cCond (.f 2) (cSeq (cReg (regC [sSet 1 (xMov (.c (.c (.o (.ns)))))]))
  cRet) cSkip))
  (cSeq (cReg (regC [sPush (xBls 5 0 [] []),
    sPush (xApp 5 1 (.l 0) (.f 0)),
    sSet 1 (xMov (.l 0))]))
  cRet))),
  [.v (.f 1)], 1⟩
def m213 : List (Nat × Nat) := [(0, 0), (1, 1), (2, 2), (6, 3), (7, 4), (8, 5), (9, 6), (10, 7), (12, 8), (18, 9), (25, 10), (42, 11), (43, 12), (44, 13), (45, 14)]
/-- (*legate/speck.Key).Stream -/
noncomputable def u213 : Fu := ⟨(cSeq (cReg (regC [sSet 3 (xMov (.c (.c (.o (.ns)))))]))
  (cSeq (cSeq (cReg (regC [sPush (xBin (bEqN 0) (.f 0) (.c (.c (.o (.np))))),
    sIf (.l 0) false (sPush (xMov (.f 2))) (sPush (xMov (.c udf))),
    sIf (.l 1) false (sPush (xBin (bLss 3 18446744073709551616 9223372036854775808) (.l 0) (.c (.c (.i 3 1))))) (sPush (xMov (.c udf))),
    sSet 9 (xPick (.l 2) (.c (.c (.o (.b true)))) (.l 0))]))
  (cCond (.f 9) (cSeq (cReg (regC [sSet 3 (xMov (.c (.c (.o (.ns)))))]))
  cRet) cSkip))
  (cSeq (cReg (regC [sPush (xBin (bAdd 3 18446744073709551616) (.f 2) (.c (.c (.i 3 8)))),
    sPush (xMks 5 [.i 4 0] (.c (.c (.i 3 0))) (.l 0)),
    sSet 4 (xMov (.l 0))]))
  (cSeq (cSeq (cReg (regC [sSet 5 (xMov (.c (.c (.i 6 0))))]))
  (cBlock 0 (cLoop (cSeq (cSeq (cReg (regC [sPush (xLen (.f 4)),
    sSet 10 (xBin (bLss 3 18446744073709551616 9223372036854775808) (.l 0) (.f 2))]))
  (cCond (.f 10) cSkip (cExit 0)))
  (cSeq (cBlock 1 (cSeq (cReg (regC [sPush (xBin (bShr 7 18446744073709551616) (.f 1) (.c (.c (.i 7 32)))),
    sPush (xCvi 7 18446744073709551616 18446744073709551616 6 4294967296 (.l 0)),
    sPush (xCvi 7 18446744073709551616 18446744073709551616 6 4294967296 (.f 1)),
    sPush (xBin (bAdd 6 4294967296) (.l 0) (.f 5)),
    sPush (xCalF 237 [(.f 0), (.l 2), (.l 0)]),
    sPush (xExt (.l 0) 0),
    sPush (xExt (.l 1) 1),
    sSet 6 (xMov (.l 1)),
    sSet 7 (xMov (.l 0))]))
  (cSeq (cReg (regC [sSet 11 (xBls 221 2 [.i 6 0, .i 6 0] [.mk 0 1 (.f 6), .mk 1 1 (.f 7)]),
    sSet 12 (xLen (.f 11)),
    sSet 13 (xMov (.c (.c (.i 3 0))))]))
  (cBlock 2 (cLoop (cSeq (cReg (regC [sSet 14 (xBin (bLss 3 18446744073709551616 9223372036854775808) (.f 13) (.f 12))]))
  (cSeq (cCond (.f 14) cSkip (cExit 2))
  (cSeq (cBlock 3 (cSeq (cReg (regC [sPush (xIxS 1 (.f 11) (.f 13)),
    sPush (xLd1 (.l 0)),
    sSet 8 (xMov (.l 0))]))
  (cReg (regC [sPush (xCvi 6 4294967296 4294967296 4 256 (.f 8)),
    sPush (xBin (bShr 6 4294967296) (.f 8) (.c (.c (.i 7 8)))),
    sPush (xCvi 6 4294967296 4294967296 4 256 (.l 0)),
    sPush (xBin (bShr 6 4294967296) (.f 8) (.c (.c (.i 7 16)))),
    sPush (xCvi 6 4294967296 4294967296 4 256 (.l 0)),
    sPush (xBin (bShr 6 4294967296) (.f 8) (.c (.c (.i 7 24)))),
    sPush (xCvi 6 4294967296 4294967296 4 256 (.l 0)),
    sPush (xBls 5 4 [.i 4 0, .i 4 0, .i 4 0, .i 4 0] [.mk 0 1 (.l 6), .mk 1 1 (.l 4), .mk 2 1 (.l 2), .mk 3 1 (.l 0)]),
    sPush (xApp 5 1 (.f 4) (.l 0)),
    sSet 4 (xMov (.l 0))]))))
  (cReg (regC [sPush (xBin (bAdd 3 18446744073709551616) (.f 13) (.c (.c (.i 3 1)))),
    sSet 13 (xMov (.l 0))]))))))))))
  (cReg (regC [sPush (xBin (bAdd 6 4294967296) (.f 5) (.c (.c (.i 6 1)))),
    sSet 5 (xMov (.l 0))])))))))
  (cSeq (cReg (regC [sPush (xCutL 1 (.f 4) none (some (.f 2))),
    sSet 3 (xMov (.l 0))]))
  cRet))))),
  [.v (.f 3)], 3⟩
def m214 : List (Nat × Nat) := [(0, 0), (2, 1)]
/-- legate/msg.isText -/
noncomputable def u214 : Fu := ⟨(cSeq (cReg (regC [sSet 1 (xMov (.c (.c (.o (.b false)))))]))
  (cSeq (cReg (regC [sPush (xLenT (.f 0)),
    sPush (xBin (bLeq 3 18446744073709551616 9223372036854775808) (.l 0) (.c (.c (.i 3 300)))),
    sIf (.l 0) true (sPush (xMov (.f 0))) (sPush (xMov (.c udf))),
    sIf (.l 1) true (sPush (xCalF 238 [(.l 0), (.c (.c (.o (.f 239 [] []))))])) (sPush (xMov (.c udf))),
    sIf (.l 2) true (sPush (xBin (bLss 3 18446744073709551616 9223372036854775808) (.l 0) (.c (.c (.i 3 0))))) (sPush (xMov (.c udf))),
    sPush (xPick (.l 3) (.l 0) (.c (.c (.o (.b false))))),
    sSet 1 (xMov (.l 0))]))
  cRet)),
  [.v (.f 1)], 1⟩
def m215 : List (Nat × Nat) := [(0, 0), (2, 1)]
/-- legate/der.Text -/
noncomputable def u215 : Fu := ⟨(cSeq (cReg (regC [sSet 1 (xMov (.c (.c (.o (.ns)))))]))
  (cSeq (cReg (regC [sPush (xS2b 5 (.f 0)),
    sPush (xBls 34 1 [.o (.ns)] [.mk 0 1 (.l 0)]),
    sPush (xCalF 205 [(.c (.c (.i 4 27))), (.l 0)]),
    sSet 1 (xMov (.l 0))]))
  cRet)),
  [.v (.f 1)], 1⟩
def m216 : List (Nat × Nat) := [(0, 0), (1, 1), (2, 2), (3, 3), (8, 4), (9, 5), (10, 6), (11, 7), (13, 8), (15, 9), (20, 10), (36, 11), (41, 12)]
/-- strings.genSplit -/
noncomputable def u216 : Fu := ⟨(cSeq (cReg (regC [sSet 4 (xMov (.c (.c (.o (.ns)))))]))
  (cSeq (cSeq (cReg (regC [sSet 8 (xBin (bEq 0) (.f 3) (.c (.c (.i 3 0))))]))
  (cCond (.f 8) (cSeq (cReg (regC [sSet 4 (xMov (.c (.c (.o (.ns)))))]))
  cRet) cSkip))
  (cSeq (cSeq (cReg (regC [sSet 9 (xBin (bEq 1) (.f 1) (.c (.c (.o (.s [])))))]))
  (cCond (.f 9) (cSeq (cReg (regC [sPush (xCalF 240 [(.f 0), (.f 3)]),
    sSet 4 (xMov (.l 0))]))
  cRet) cSkip))
  (cSeq (cSeq (cReg (regC [sSet 10 (xBin (bLss 3 18446744073709551616 9223372036854775808) (.f 3) (.c (.c (.i 3 0))))]))
  (cCond (.f 10) (cReg (regC [sPush (xCalF 241 [(.f 0), (.f 1)]),
    sPush (xBin (bAdd 3 18446744073709551616) (.l 0) (.c (.c (.i 3 1)))),
    sSet 3 (xMov (.l 0))])) cSkip))
  (cSeq (cReg (regC [sPush (xLenT (.f 0)),
    sPush (xBin (bAdd 3 18446744073709551616) (.l 0) (.c (.c (.i 3 1)))),
    sPush (xBin (bMin 3 18446744073709551616 9223372036854775808) (.f 3) (.l 0)),
    sSet 3 (xMov (.l 0))]))
  (cSeq (cReg (regC [sPush (xMks 9 [.o (.s [])] (.f 3) (.f 3)),
    sSet 5 (xMov (.l 0))]))
  (cSeq (cReg (regC [sPush (xBin (bSub 3 18446744073709551616) (.f 3) (.c (.c (.i 3 1)))),
    sSet 3 (xMov (.l 0))]))
  (cSeq (cReg (regC [sSet 6 (xMov (.c (.c (.i 3 0))))]))
  (cSeq (cBlock 0 (cLoop (cSeq (cSeq (cReg (regC [sSet 11 (xBin (bLss 3 18446744073709551616 9223372036854775808) (.f 6) (.f 3))]))
  (cCond (.f 11) cSkip (cExit 0)))
  (cBlock 1 (cSeq (cReg (regC [sPush (xCalF 242 [(.f 0), (.f 1)]),
    sSet 7 (xMov (.l 0))]))
  (cSeq (cSeq (cReg (regC [sSet 12 (xBin (bLss 3 18446744073709551616 9223372036854775808) (.f 7) (.c (.c (.i 3 0))))]))
  (cCond (.f 12) (cExit 0) cSkip))
  (cSeq (cReg (regC [sPush (xBin (bAdd 3 18446744073709551616) (.f 7) (.f 2)),
    sPush (xCutT (.f 0) none (some (.l 0))),
    sPush (xIxS 1 (.f 5) (.f 6)),
    sDo (xSt1 (.l 0) (.l 1))]))
  (cSeq (cReg (regC [sPush (xLenT (.f 1)),
    sPush (xBin (bAdd 3 18446744073709551616) (.f 7) (.l 0)),
    sPush (xCutT (.f 0) (some (.l 0)) none),
    sSet 0 (xMov (.l 0))]))
  (cReg (regC [sPush (xBin (bAdd 3 18446744073709551616) (.f 6) (.c (.c (.i 3 1)))),
    sSet 6 (xMov (.l 0))]))))))))))
  (cSeq (cReg (regC [sPush (xIxS 1 (.f 5) (.f 6)),
    sDo (xSt1 (.l 0) (.f 0))]))
  (cSeq (cReg (regC [sPush (xBin (bAdd 3 18446744073709551616) (.f 6) (.c (.c (.i 3 1)))),
    sPush (xCutL 1 (.f 5) none (some (.l 0))),
    sSet 4 (xMov (.l 0))]))
  cRet))))))))))),
  [.v (.f 4)], 4⟩
def m217 : List (Nat × Nat) := [(0, 0), (1, 1), (4, 2)]
/-- strings.HasSuffix -/
noncomputable def u217 : Fu := ⟨(cSeq (cReg (regC [sSet 2 (xMov (.c (.c (.o (.b false)))))]))
  (cSeq (cReg (regC [sPush (xCalF 243 [(.f 0), (.f 1)]),
    sSet 2 (xMov (.l 0))]))
  cRet)),
  [.v (.f 2)], 2⟩
def m218 : List (Nat × Nat) := [(0, 0), (1, 1), (4, 2)]
/-- strings.HasPrefix -/
noncomputable def u218 : Fu := ⟨(cSeq (cReg (regC [sSet 2 (xMov (.c (.c (.o (.b false)))))]))
  (cSeq (cReg (regC [sPush (xCalF 221 [(.f 0), (.f 1)]),
    sSet 2 (xMov (.l 0))]))
  cRet)),
  [.v (.f 2)], 2⟩
def m219 : List (Nat × Nat) := [(0, 0), (1, 1), (2, 2), (3, 3), (4, 4), (5, 5), (6, 6), (7, 7), (8, 8), (9, 9), (10, 10), (11, 11), (12, 12), (13, 13), (29, 14), (52, 15), (61, 16), (77, 17), (88, 18)]
/-- legate/name.Between -/
noncomputable def u219 : Fu := ⟨(cSeq (cReg (regC [sSet 2 (xBox 9 (.f 0)),
    sSet 3 (xBox 9 (.f 1)),
    sSet 4 (xMov (.c (.c (.o (.ns)))))]))
  (cSeq (cReg (regC [sPush (xLd1 (.f 2)),
    sPush (xCalF 184 [(.l 0)]),
    sPush (xExt (.l 0) 0),
    sPush (xExt (.l 1) 1),
    sSet 5 (xMov (.l 1)),
    sSet 6 (xMov (.l 0))]))
  (cSeq (cReg (regC [sPush (xLd1 (.f 3)),
    sPush (xCalF 184 [(.l 0)]),
    sPush (xExt (.l 0) 0),
    sPush (xExt (.l 1) 1),
    sSet 7 (xMov (.l 1)),
    sSet 8 (xMov (.l 0))]))
  (cSeq (cSeq (cReg (regC [sPush (xBin (bEq 0) (.f 6) (.c (.c (.i 3 0)))),
    sIf (.l 0) false (sPush (xMov (.f 8))) (sPush (xMov (.c udf))),
    sIf (.l 1) false (sPush (xBin (bEq 0) (.l 0) (.c (.c (.i 3 0))))) (sPush (xMov (.c udf))),
    sSet 14 (xPick (.l 2) (.c (.c (.o (.b true)))) (.l 0))]))
  (cCond (.f 14) (cSeq (cReg (regC [sSet 4 (xMov (.c (.c (.o (.ns)))))]))
  cRet) cSkip))
  (cSeq (cReg (regC [sSet 9 (xMov (.c (.c (.i 3 0))))]))
  (cSeq (cBlock 0 (cLoop (cSeq (cSeq (cReg (regC [sPush (xBin (bEq 0) (.f 6) (.f 8)),
    sIf (.l 0) true (sPush (xMov (.f 9))) (sPush (xMov (.c udf))),
    sIf (.l 1) true (sPush (xMov (.f 5))) (sPush (xMov (.c udf))),
    sIf (.l 2) true (sPush (xLen (.l 0))) (sPush (xMov (.c udf))),
    sIf (.l 3) true (sPush (xMov (.f 7))) (sPush (xMov (.c udf))),
    sIf (.l 4) true (sPush (xLen (.l 0))) (sPush (xMov (.c udf))),
    sIf (.l 5) true (sPush (xBin (bMin 3 18446744073709551616 9223372036854775808) (.l 2) (.l 0))) (sPush (xMov (.c udf))),
    sIf (.l 6) true (sPush (xBin (bLss 3 18446744073709551616 9223372036854775808) (.l 5) (.l 0))) (sPush (xMov (.c udf))),
    sPush (xPick (.l 7) (.l 0) (.c (.c (.o (.b false))))),
    sIf (.l 0) true (sPush (xMov (.f 5))) (sPush (xMov (.c udf))),
    sIf (.l 1) true (sPush (xMov (.f 9))) (sPush (xMov (.c udf))),
    sIf (.l 2) true (sPush (xIxS 1 (.l 1) (.l 0))) (sPush (xMov (.c udf))),
    sIf (.l 3) true (sPush (xLd1 (.l 0))) (sPush (xMov (.c udf))),
    sIf (.l 4) true (sPush (xMov (.f 7))) (sPush (xMov (.c udf))),
    sIf (.l 5) true (sPush (xMov (.f 9))) (sPush (xMov (.c udf))),
    sIf (.l 6) true (sPush (xIxS 1 (.l 1) (.l 0))) (sPush (xMov (.c udf))),
    sIf (.l 7) true (sPush (xLd1 (.l 0))) (sPush (xMov (.c udf))),
    sIf (.l 8) true (sPush (xBin (bEq 1) (.l 4) (.l 0))) (sPush (xMov (.c udf))),
    sSet 15 (xPick (.l 9) (.l 0) (.c (.c (.o (.b false)))))]))
  (cCond (.f 15) cSkip (cExit 0)))
  (cBlock 1 (cReg (regC [sPush (xBin (bAdd 3 18446744073709551616) (.f 9) (.c (.c (.i 3 1)))),
    sSet 9 (xMov (.l 0))]))))))
  (cSeq (cReg (regC [sSet 10 (xMov (.c (.c (.o (.ns)))))]))
  (cSeq (cSeq (cReg (regC [sPush (xLen (.f 5)),
    sPush (xBin (bSub 3 18446744073709551616) (.l 0) (.c (.c (.i 3 1)))),
    sSet 11 (xMov (.l 0))]))
  (cBlock 2 (cLoop (cSeq (cSeq (cReg (regC [sPush (xBin (bMax 3 18446744073709551616 9223372036854775808) (.f 9) (.c (.c (.i 3 1)))),
    sSet 16 (xBin (bGeq 3 18446744073709551616 9223372036854775808) (.f 11) (.l 0))]))
  (cCond (.f 16) cSkip (cExit 2)))
  (cSeq (cBlock 3 (cReg (regC [sPush (xCutL 1 (.f 5) none (some (.f 11))),
    sPush (xCalF 244 [(.l 0), (.f 6)]),
    sPush (xBls 9 1 [.o (.s [])] [.mk 0 1 (.l 0)]),
    sPush (xApp 9 1 (.f 10) (.l 0)),
    sSet 10 (xMov (.l 0))])))
  (cReg (regC [sPush (xBin (bSub 3 18446744073709551616) (.f 11) (.c (.c (.i 3 1)))),
    sSet 11 (xMov (.l 0))])))))))
  (cSeq (cSeq (cReg (regC [sPush (xBin (bMax 3 18446744073709551616 9223372036854775808) (.f 9) (.c (.c (.i 3 1)))),
    sSet 12 (xMov (.l 0))]))
  (cBlock 4 (cLoop (cSeq (cSeq (cReg (regC [sPush (xLen (.f 7)),
    sSet 17 (xBin (bLss 3 18446744073709551616 9223372036854775808) (.f 12) (.l 0))]))
  (cCond (.f 17) cSkip (cExit 4)))
  (cSeq (cBlock 5 (cSeq (cReg (regC [sPush (xCutL 1 (.f 7) none (some (.f 12))),
    sPush (xCalF 244 [(.l 0), (.f 8)]),
    sSet 13 (xMov (.l 0))]))
  (cSeq (cReg (regC [sPush (xCalF 56 [(.f 10), (.f 13)]),
    sSet 18 (xNot (.l 0))]))
  (cCond (.f 18) (cReg (regC [sPush (xBls 9 1 [.o (.s [])] [.mk 0 1 (.f 13)]),
    sPush (xApp 9 1 (.f 10) (.l 0)),
    sSet 10 (xMov (.l 0))])) cSkip))))
  (cReg (regC [sPush (xBin (bAdd 3 18446744073709551616) (.f 12) (.c (.c (.i 3 1)))),
    sSet 12 (xMov (.l 0))])))))))
  (cSeq (cReg (regC [sPush (xMkf 246 [] [(.f 2), (.f 3)]),
    sPush (xCalF 245 [(.f 10), (.l 0)]),
    sSet 4 (xMov (.l 0))]))
  cRet)))))))))),
  [.v (.f 4)], 2⟩
def m220 : List (Nat × Nat) := [(0, 0), (1, 1), (2, 2), (3, 3), (4, 4), (5, 5), (6, 6), (7, 7), (8, 8), (14, 9)]
/-- legate/route.laid -/
noncomputable def u220 : Fu := ⟨(cSeq (cReg (regC [sSet 3 (xBox 72 (.f 0)),
    sSet 4 (xBox 9 (.f 1)),
    sSet 5 (xBox 9 (.f 2)),
    sSet 6 (xMov (.c (.c (.o (.ns))))),
    sSet 7 (xMov (.c (.c (.o (.b false)))))]))
  (cSeq (cReg (regC [sPush (xFld (.f 3) 2),
    sPush (xLd1 (.l 0)),
    sPush (xMkf 248 [] [(.f 4), (.f 5)]),
    sPush (xCalF 247 [(.l 1), (.l 0)]),
    sSet 8 (xMov (.l 0))]))
  (cSeq (cSeq (cReg (regC [sSet 9 (xBin (bLss 3 18446744073709551616 9223372036854775808) (.f 8) (.c (.c (.i 3 0))))]))
  (cCond (.f 9) (cSeq (cReg (regC [sSet 6 (xMov (.c (.c (.o (.ns))))),
    sSet 7 (xMov (.c (.c (.o (.b false)))))]))
  cRet) cSkip))
  (cSeq (cReg (regC [sPush (xFld (.f 3) 2),
    sPush (xLd1 (.l 0)),
    sPush (xIxS 3 (.l 0) (.f 8)),
    sPush (xFld (.l 0) 2),
    sPush (xLd1 (.l 0)),
    sPush (xCalF 105 [(.l 0)]),
    sSet 6 (xMov (.l 0)),
    sSet 7 (xMov (.c (.c (.o (.b true)))))]))
  cRet)))),
  [.v (.f 6), .v (.f 7)], 3⟩
def m221 : List (Nat × Nat) := [(0, 0), (1, 1), (4, 2)]
/-- internal/stringslite.HasPrefix -/
noncomputable def u221 : Fu := ⟨(cSeq (cReg (regC [sSet 2 (xMov (.c (.c (.o (.b false)))))]))
  (cSeq (cReg (regC [sPush (xLenT (.f 0)),
    sPush (xLenT (.f 1)),
    sPush (xBin (bGeq 3 18446744073709551616 9223372036854775808) (.l 1) (.l 0)),
    sIf (.l 0) true (sPush (xMov (.f 0))) (sPush (xMov (.c udf))),
    sIf (.l 1) true (sPush (xMov (.f 1))) (sPush (xMov (.c udf))),
    sIf (.l 2) true (sPush (xLenT (.l 0))) (sPush (xMov (.c udf))),
    sIf (.l 3) true (sPush (xCutT (.l 2) none (some (.l 0)))) (sPush (xMov (.c udf))),
    sIf (.l 4) true (sPush (xMov (.f 1))) (sPush (xMov (.c udf))),
    sIf (.l 5) true (sPush (xBin (bEq 1) (.l 1) (.l 0))) (sPush (xMov (.c udf))),
    sPush (xPick (.l 6) (.l 0) (.c (.c (.o (.b false))))),
    sSet 2 (xMov (.l 0))]))
  cRet)),
  [.v (.f 2)], 2⟩
def m222 : List (Nat × Nat) := [(0, 0), (2, 1), (3, 2), (9, 3)]
/-- slices.Reverse[[]string,string] -/
noncomputable def u222 : Fu := ⟨(cSeq (cReg (regC [sPush (xLen (.f 0)),
    sPush (xBin (bSub 3 18446744073709551616) (.l 0) (.c (.c (.i 3 1)))),
    sSet 1 (xMov (.c (.c (.i 3 0)))),
    sSet 2 (xMov (.l 0))]))
  (cBlock 0 (cLoop (cSeq (cSeq (cReg (regC [sSet 3 (xBin (bLss 3 18446744073709551616 9223372036854775808) (.f 1) (.f 2))]))
  (cCond (.f 3) cSkip (cExit 0)))
  (cSeq (cBlock 1 (cReg (regC [sPush (xIxS 1 (.f 0) (.f 2)),
    sPush (xLd1 (.l 0)),
    sPush (xIxS 1 (.f 0) (.f 1)),
    sPush (xLd1 (.l 0)),
    sPush (xIxS 1 (.f 0) (.f 1)),
    sDo (xSt1 (.l 0) (.l 3)),
    sPush (xIxS 1 (.f 0) (.f 2)),
    sDo (xSt1 (.l 0) (.l 2))])))
  (cReg (regC [sPush (xBin (bAdd 3 18446744073709551616) (.f 1) (.c (.c (.i 3 1)))),
    sPush (xBin (bSub 3 18446744073709551616) (.f 2) (.c (.c (.i 3 1)))),
    sSet 1 (xMov (.l 1)),
    sSet 2 (xMov (.l 0))]))))))),
  [], 1⟩
def m223 : List (Nat × Nat) := [(0, 0), (2, 1)]
/-- legate/name.labels$1 -/
noncomputable def u223 : Fu := ⟨(cSeq (cReg (regC [sSet 1 (xMov (.c (.c (.o (.b false)))))]))
  (cSeq (cReg (regC [sPush (xCalF 93 [(.f 0), (.c (.c (.o (.s [65, 66, 67, 68, 69, 70, 71, 72, 73, 74, 75, 76, 77, 78, 79, 80, 81, 82, 83, 84, 85, 86, 87, 88, 89, 90]))))]),
    sPush (xNot (.l 0)),
    sSet 1 (xMov (.l 0))]))
  cRet)),
  [.v (.f 1)], 1⟩
def m224 : List (Nat × Nat) := [(0, 0), (1, 1), (4, 2)]
/-- (*strings.asciiSet).contains -/
noncomputable def u224 : Fu := ⟨(cSeq (cReg (regC [sSet 2 (xMov (.c (.c (.o (.b false)))))]))
  (cSeq (cReg (regC [sPush (xChk (.f 0)),
    sPush (xIxA 256 1 (.l 0) (.f 1)),
    sPush (xLd1 (.l 0)),
    sSet 2 (xMov (.l 0))]))
  cRet)),
  [.v (.f 2)], 2⟩
def m225 : List (Nat × Nat) := [(0, 0), (2, 1), (3, 2), (10, 3)]
/-- unicode/utf8.DecodeRuneInString -/
noncomputable def u225 : Fu := ⟨(cSeq (cReg (regC [sSet 1 (xMov (.c (.c (.i 2 0)))),
    sSet 2 (xMov (.c (.c (.i 3 0))))]))
  (cSeq (cSeq (cReg (regC [sPush (xBin (bNe 1) (.f 0) (.c (.c (.o (.s []))))),
    sIf (.l 0) true (sPush (xMov (.f 0))) (sPush (xMov (.c udf))),
    sIf (.l 1) true (sPush (xIxT (.l 0) (.c (.c (.i 3 0))))) (sPush (xMov (.c udf))),
    sIf (.l 2) true (sPush (xBin (bLss 4 256 0) (.l 0) (.c (.c (.i 4 128))))) (sPush (xMov (.c udf))),
    sSet 3 (xPick (.l 3) (.l 0) (.c (.c (.o (.b false)))))]))
  (cCond (.f 3) (cSeq (cReg (regC [sPush (xIxT (.f 0) (.c (.c (.i 3 0)))),
    sPush (xCvi 4 256 256 2 4294967296 (.l 0)),
    sSet 1 (xMov (.l 0)),
    sSet 2 (xMov (.c (.c (.i 3 1))))]))
  cRet) (cReg (regC [sPush (xCalF 249 [(.f 0)]),
    sPush (xExt (.l 0) 0),
    sPush (xExt (.l 1) 1),
    sSet 1 (xMov (.l 1)),
    sSet 2 (xMov (.l 0))]))))
  cRet)),
  [.v (.f 1), .v (.f 2)], 1⟩
def m226 : List (Nat × Nat) := [(0, 0), (1, 1), (4, 2)]
/-- strings.ContainsRune -/
noncomputable def u226 : Fu := ⟨(cSeq (cReg (regC [sSet 2 (xMov (.c (.c (.o (.b false)))))]))
  (cSeq (cReg (regC [sPush (xCalF 250 [(.f 0), (.f 1)]),
    sPush (xBin (bGeq 3 18446744073709551616 9223372036854775808) (.l 0) (.c (.c (.i 3 0)))),
    sSet 2 (xMov (.l 0))]))
  cRet)),
  [.v (.f 2)], 2⟩
def m227 : List (Nat × Nat) := [(0, 0), (2, 1), (3, 2), (4, 3), (5, 4), (6, 5), (10, 6), (18, 7), (27, 8), (33, 9), (35, 10), (48, 11)]
/-- unicode/utf8.DecodeLastRuneInString -/
noncomputable def u227 : Fu := ⟨(cSeq (cReg (regC [sSet 1 (xMov (.c (.c (.i 2 0)))),
    sSet 2 (xMov (.c (.c (.i 3 0))))]))
  (cSeq (cReg (regC [sPush (xLenT (.f 0)),
    sSet 3 (xMov (.l 0))]))
  (cSeq (cSeq (cReg (regC [sSet 6 (xBin (bEq 0) (.f 3) (.c (.c (.i 3 0))))]))
  (cCond (.f 6) (cSeq (cReg (regC [sSet 1 (xMov (.c (.c (.i 2 65533)))),
    sSet 2 (xMov (.c (.c (.i 3 0))))]))
  cRet) cSkip))
  (cSeq (cReg (regC [sPush (xBin (bSub 3 18446744073709551616) (.f 3) (.c (.c (.i 3 1)))),
    sSet 4 (xMov (.l 0))]))
  (cSeq (cReg (regC [sPush (xIxT (.f 0) (.f 4)),
    sPush (xCvi 4 256 256 2 4294967296 (.l 0)),
    sSet 1 (xMov (.l 0))]))
  (cSeq (cSeq (cReg (regC [sSet 7 (xBin (bLss 2 4294967296 2147483648) (.f 1) (.c (.c (.i 2 128))))]))
  (cCond (.f 7) (cSeq (cReg (regC [sSet 1 (xMov (.f 1)),
    sSet 2 (xMov (.c (.c (.i 3 1))))]))
  cRet) cSkip))
  (cSeq (cReg (regC [sPush (xBin (bSub 3 18446744073709551616) (.f 3) (.c (.c (.i 3 4)))),
    sPush (xBin (bMax 3 18446744073709551616 9223372036854775808) (.l 0) (.c (.c (.i 3 0)))),
    sSet 5 (xMov (.l 0))]))
  (cSeq (cSeq (cReg (regC [sPush (xBin (bSub 3 18446744073709551616) (.f 4) (.c (.c (.i 3 1)))),
    sSet 4 (xMov (.l 0))]))
  (cBlock 0 (cLoop (cSeq (cSeq (cReg (regC [sSet 8 (xBin (bGeq 3 18446744073709551616 9223372036854775808) (.f 4) (.f 5))]))
  (cCond (.f 8) cSkip (cExit 0)))
  (cSeq (cBlock 1 (cSeq (cReg (regC [sPush (xIxT (.f 0) (.f 4)),
    sSet 9 (xCalF 251 [(.l 0)])]))
  (cCond (.f 9) (cExit 0) cSkip)))
  (cReg (regC [sPush (xBin (bSub 3 18446744073709551616) (.f 4) (.c (.c (.i 3 1)))),
    sSet 4 (xMov (.l 0))])))))))
  (cSeq (cSeq (cReg (regC [sSet 10 (xBin (bLss 3 18446744073709551616 9223372036854775808) (.f 4) (.c (.c (.i 3 0))))]))
  (cCond (.f 10) (cReg (regC [sSet 4 (xMov (.c (.c (.i 3 0))))])) cSkip))
  (cSeq (cReg (regC [sPush (xCutT (.f 0) (some (.f 4)) (some (.f 3))),
    sPush (xCalF 225 [(.l 0)]),
    sPush (xExt (.l 0) 0),
    sPush (xExt (.l 1) 1),
    sSet 1 (xMov (.l 1)),
    sSet 2 (xMov (.l 0))]))
  (cSeq (cSeq (cReg (regC [sPush (xBin (bAdd 3 18446744073709551616) (.f 4) (.f 2)),
    sSet 11 (xBin (bNe 0) (.l 0) (.f 3))]))
  (cCond (.f 11) (cSeq (cReg (regC [sSet 1 (xMov (.c (.c (.i 2 65533)))),
    sSet 2 (xMov (.c (.c (.i 3 1))))]))
  cRet) cSkip))
  (cSeq (cReg (regC [sSet 1 (xMov (.f 1)),
    sSet 2 (xMov (.f 2))]))
  cRet)))))))))))),
  [.v (.f 1), .v (.f 2)], 1⟩
def m228 : List (Nat × Nat) := [(0, 0), (2, 1)]
/-- (*legate/der.Cursor).Good -/
noncomputable def u228 : Fu := ⟨(cSeq (cReg (regC [sSet 1 (xMov (.c (.c (.o (.b false)))))]))
  (cSeq (cReg (regC [sPush (xBin (bNeN 0) (.f 0) (.c (.c (.o (.np))))),
    sIf (.l 0) true (sPush (xMov (.f 0))) (sPush (xMov (.c udf))),
    sIf (.l 1) true (sPush (xChk (.l 0))) (sPush (xMov (.c udf))),
    sIf (.l 2) true (sPush (xFld (.l 0) 1)) (sPush (xMov (.c udf))),
    sIf (.l 3) true (sPush (xLd1 (.l 0))) (sPush (xMov (.c udf))),
    sIf (.l 4) true (sPush (xNot (.l 0))) (sPush (xMov (.c udf))),
    sPush (xPick (.l 5) (.l 0) (.c (.c (.o (.b false))))),
    sSet 1 (xMov (.l 0))]))
  cRet)),
  [.v (.f 1)], 1⟩
def m229 : List (Nat × Nat) := [(0, 0), (2, 1), (3, 2), (4, 3), (5, 4), (19, 5), (39, 6)]
/-- legate/der.head -/
noncomputable def u229 : Fu := ⟨(cSeq (cReg (regC [sSet 1 (xMov (.c (.c (.i 3 0)))),
    sSet 2 (xMov (.c (.c (.i 3 0)))),
    sSet 3 (xMov (.c (.c (.o (.b false)))))]))
  (cSeq (cBlock 0 (cSeq (cReg (regC [sPush (xLen (.f 0)),
    sPush (xBin (bGeq 3 18446744073709551616 9223372036854775808) (.l 0) (.c (.c (.i 3 1)))),
    sIf (.l 0) true (sPush (xMov (.f 0))) (sPush (xMov (.c udf))),
    sIf (.l 1) true (sPush (xIxS 1 (.l 0) (.c (.c (.i 3 0))))) (sPush (xMov (.c udf))),
    sIf (.l 2) true (sPush (xLd1 (.l 0))) (sPush (xMov (.c udf))),
    sIf (.l 3) true (sPush (xBin (bLss 4 256 0) (.l 0) (.c (.c (.i 4 128))))) (sPush (xMov (.c udf))),
    sPush (xPick (.l 4) (.l 0) (.c (.c (.o (.b false))))),
    sSet 4 (xMov (.l 0))]))
  (cCond (.f 4) (cSeq (cReg (regC [sPush (xIxS 1 (.f 0) (.c (.c (.i 3 0)))),
    sPush (xLd1 (.l 0)),
    sPush (xCvi 4 256 256 3 18446744073709551616 (.l 0)),
    sSet 1 (xMov (.c (.c (.i 3 1)))),
    sSet 2 (xMov (.l 0)),
    sSet 3 (xMov (.c (.c (.o (.b true)))))]))
  cRet) (cSeq (cReg (regC [sPush (xLen (.f 0)),
    sPush (xBin (bGeq 3 18446744073709551616 9223372036854775808) (.l 0) (.c (.c (.i 3 2)))),
    sIf (.l 0) true (sPush (xMov (.f 0))) (sPush (xMov (.c udf))),
    sIf (.l 1) true (sPush (xIxS 1 (.l 0) (.c (.c (.i 3 0))))) (sPush (xMov (.c udf))),
    sIf (.l 2) true (sPush (xLd1 (.l 0))) (sPush (xMov (.c udf))),
    sIf (.l 3) true (sPush (xBin (bEq 0) (.l 0) (.c (.c (.i 4 129))))) (sPush (xMov (.c udf))),
    sPush (xPick (.l 4) (.l 0) (.c (.c (.o (.b false))))),
    sIf (.l 0) true (sPush (xMov (.f 0))) (sPush (xMov (.c udf))),
    sIf (.l 1) true (sPush (xIxS 1 (.l 0) (.c (.c (.i 3 1))))) (sPush (xMov (.c udf))),
    sIf (.l 2) true (sPush (xLd1 (.l 0))) (sPush (xMov (.c udf))),
    sIf (.l 3) true (sPush (xBin (bGeq 4 256 0) (.l 0) (.c (.c (.i 4 128))))) (sPush (xMov (.c udf))),
    sPush (xPick (.l 4) (.l 0) (.c (.c (.o (.b false))))),
    sSet 5 (xMov (.l 0))]))
  (cCond (.f 5) (cSeq (cReg (regC [sPush (xIxS 1 (.f 0) (.c (.c (.i 3 1)))),
    sPush (xLd1 (.l 0)),
    sPush (xCvi 4 256 256 3 18446744073709551616 (.l 0)),
    sSet 1 (xMov (.c (.c (.i 3 2)))),
    sSet 2 (xMov (.l 0)),
    sSet 3 (xMov (.c (.c (.o (.b true)))))]))
  cRet) (cSeq (cReg (regC [sPush (xLen (.f 0)),
    sPush (xBin (bGeq 3 18446744073709551616 9223372036854775808) (.l 0) (.c (.c (.i 3 3)))),
    sIf (.l 0) true (sPush (xMov (.f 0))) (sPush (xMov (.c udf))),
    sIf (.l 1) true (sPush (xIxS 1 (.l 0) (.c (.c (.i 3 0))))) (sPush (xMov (.c udf))),
    sIf (.l 2) true (sPush (xLd1 (.l 0))) (sPush (xMov (.c udf))),
    sIf (.l 3) true (sPush (xBin (bEq 0) (.l 0) (.c (.c (.i 4 130))))) (sPush (xMov (.c udf))),
    sPush (xPick (.l 4) (.l 0) (.c (.c (.o (.b false))))),
    sIf (.l 0) true (sPush (xMov (.f 0))) (sPush (xMov (.c udf))),
    sIf (.l 1) true (sPush (xIxS 1 (.l 0) (.c (.c (.i 3 1))))) (sPush (xMov (.c udf))),
    sIf (.l 2) true (sPush (xLd1 (.l 0))) (sPush (xMov (.c udf))),
    sIf (.l 3) true (sPush (xBin (bGtr 4 256 0) (.l 0) (.c (.c (.i 4 0))))) (sPush (xMov (.c udf))),
    sPush (xPick (.l 4) (.l 0) (.c (.c (.o (.b false))))),
    sSet 6 (xMov (.l 0))]))
  (cCond (.f 6) (cSeq (cReg (regC [sPush (xIxS 1 (.f 0) (.c (.c (.i 3 1)))),
    sPush (xLd1 (.l 0)),
    sPush (xCvi 4 256 256 3 18446744073709551616 (.l 0)),
    sPush (xBin (bShl 3 18446744073709551616) (.l 0) (.c (.c (.i 7 8)))),
    sPush (xIxS 1 (.f 0) (.c (.c (.i 3 2)))),
    sPush (xLd1 (.l 0)),
    sPush (xCvi 4 256 256 3 18446744073709551616 (.l 0)),
    sPush (xBin (bAdd 3 18446744073709551616) (.l 3) (.l 0)),
    sSet 1 (xMov (.c (.c (.i 3 3)))),
    sSet 2 (xMov (.l 0)),
    sSet 3 (xMov (.c (.c (.o (.b true)))))]))
  cRet) cSkip)))))))
  (cSeq (cReg (regC [sSet 1 (xMov (.c (.c (.i 3 0)))),
    sSet 2 (xMov (.c (.c (.i 3 0)))),
    sSet 3 (xMov (.c (.c (.o (.b false)))))]))
  cRet))),
  [.v (.f 1), .v (.f 2), .v (.f 3)], 1⟩
def m230 : List (Nat × Nat) := [(0, 0), (1, 1), (2, 2)]
/-- legate/msg.noTicket -/
noncomputable def u230 : Fu := ⟨(cSeq (cReg (regC [sSet 1 (xBox 50 (.f 0)),
    sSet 2 (xMov (.c (.c (.o (.b false)))))]))
  (cSeq (cReg (regC [sPush (xFld (.f 1) 0),
    sPush (xLdA 2 (.l 0)),
    sPush (xBld [.o (.s []), .o (.s [])] []),
    sPush (xBin (gEq [1, 1]) (.l 1) (.l 0)),
    sIf (.l 0) true (sPush (xFld (.f 1) 2)) (sPush (xMov (.c udf))),
    sIf (.l 1) true (sPush (xLd1 (.l 0))) (sPush (xMov (.c udf))),
    sIf (.l 2) true (sPush (xBin (bEq 0) (.l 0) (.c (.c (.i 3 0))))) (sPush (xMov (.c udf))),
    sPush (xPick (.l 3) (.l 0) (.c (.c (.o (.b false))))),
    sIf (.l 0) true (sPush (xFld (.f 1) 3)) (sPush (xMov (.c udf))),
    sIf (.l 1) true (sPush (xLd1 (.l 0))) (sPush (xMov (.c udf))),
    sIf (.l 2) true (sPush (xLen (.l 0))) (sPush (xMov (.c udf))),
    sIf (.l 3) true (sPush (xBin (bEq 0) (.l 0) (.c (.c (.i 3 0))))) (sPush (xMov (.c udf))),
    sPush (xPick (.l 4) (.l 0) (.c (.c (.o (.b false))))),
    sSet 2 (xMov (.l 0))]))
  cRet)),
  [.v (.f 2)], 1⟩
def m231 : List (Nat × Nat) := [(0, 0), (2, 1), (3, 2), (5, 3), (6, 4), (8, 5), (9, 6), (10, 7), (11, 8), (12, 9), (20, 10), (25, 11), (26, 12), (27, 13), (28, 14)]
/-- slices.Concat[[]byte,byte] -/
noncomputable def u231 : Fu := ⟨(cSeq (cReg (regC [sSet 1 (xMov (.c (.c (.o (.ns)))))]))
  (cSeq (cReg (regC [sSet 2 (xMov (.c (.c (.i 3 0))))]))
  (cSeq (cSeq (cReg (regC [sSet 6 (xMov (.f 0)),
    sSet 7 (xLen (.f 6)),
    sSet 8 (xMov (.c (.c (.i 3 0))))]))
  (cBlock 0 (cLoop (cSeq (cReg (regC [sSet 9 (xBin (bLss 3 18446744073709551616 9223372036854775808) (.f 8) (.f 7))]))
  (cSeq (cCond (.f 9) cSkip (cExit 0))
  (cSeq (cBlock 1 (cSeq (cReg (regC [sPush (xIxS 1 (.f 6) (.f 8)),
    sPush (xLd1 (.l 0)),
    sSet 3 (xMov (.l 0))]))
  (cSeq (cReg (regC [sPush (xLen (.f 3)),
    sPush (xBin (bAdd 3 18446744073709551616) (.f 2) (.l 0)),
    sSet 2 (xMov (.l 0))]))
  (cSeq (cReg (regC [sSet 10 (xBin (bLss 3 18446744073709551616 9223372036854775808) (.f 2) (.c (.c (.i 3 0))))]))
  (cCond (.f 10) (cReg (regC [sPush (xBad),
    sDo (xBad)])) cSkip)))))
  (cReg (regC [sPush (xBin (bAdd 3 18446744073709551616) (.f 8) (.c (.c (.i 3 1)))),
    sSet 8 (xMov (.l 0))]))))))))
  (cSeq (cReg (regC [sPush (xCalF 252 [(.c (.c (.o (.ns)))), (.f 2)]),
    sSet 4 (xMov (.l 0))]))
  (cSeq (cSeq (cReg (regC [sSet 11 (xMov (.f 0)),
    sSet 12 (xLen (.f 11)),
    sSet 13 (xMov (.c (.c (.i 3 0))))]))
  (cBlock 2 (cLoop (cSeq (cReg (regC [sSet 14 (xBin (bLss 3 18446744073709551616 9223372036854775808) (.f 13) (.f 12))]))
  (cSeq (cCond (.f 14) cSkip (cExit 2))
  (cSeq (cBlock 3 (cSeq (cReg (regC [sPush (xIxS 1 (.f 11) (.f 13)),
    sPush (xLd1 (.l 0)),
    sSet 5 (xMov (.l 0))]))
  (cReg (regC [sPush (xApp 5 1 (.f 4) (.f 5)),
    sSet 4 (xMov (.l 0))]))))
  (cReg (regC [sPush (xBin (bAdd 3 18446744073709551616) (.f 13) (.c (.c (.i 3 1)))),
    sSet 13 (xMov (.l 0))]))))))))
  (cSeq (cReg (regC [sSet 1 (xMov (.f 4))]))
  cRet)))))),
  [.v (.f 1)], 1⟩
def m232 : List (Nat × Nat) := [(0, 0), (2, 1), (3, 2), (9, 3)]
/-- legate/der.length -/
noncomputable def u232 : Fu := ⟨(cSeq (cReg (regC [sSet 1 (xMov (.c (.c (.o (.ns)))))]))
  (cSeq (cBlock 0 (cSeq (cReg (regC [sPush (xBin (bLss 3 18446744073709551616 9223372036854775808) (.f 0) (.c (.c (.i 3 128)))),
    sSet 2 (xMov (.l 0))]))
  (cCond (.f 2) (cSeq (cReg (regC [sPush (xCvi 3 18446744073709551616 9223372036854775808 4 256 (.f 0)),
    sPush (xBls 5 1 [.i 4 0] [.mk 0 1 (.l 0)]),
    sSet 1 (xMov (.l 0))]))
  cRet) (cSeq (cReg (regC [sPush (xBin (bLeq 3 18446744073709551616 9223372036854775808) (.f 0) (.c (.c (.i 3 255)))),
    sSet 3 (xMov (.l 0))]))
  (cCond (.f 3) (cSeq (cReg (regC [sPush (xCvi 3 18446744073709551616 9223372036854775808 4 256 (.f 0)),
    sPush (xBls 5 2 [.i 4 0, .i 4 0] [.mk 0 1 (.c (.c (.i 4 129))), .mk 1 1 (.l 0)]),
    sSet 1 (xMov (.l 0))]))
  cRet) cSkip)))))
  (cSeq (cReg (regC [sPush (xBin (bShr 3 9223372036854775808) (.f 0) (.c (.c (.i 7 8)))),
    sPush (xCvi 3 18446744073709551616 9223372036854775808 4 256 (.l 0)),
    sPush (xCvi 3 18446744073709551616 9223372036854775808 4 256 (.f 0)),
    sPush (xBls 5 3 [.i 4 0, .i 4 0, .i 4 0] [.mk 0 1 (.c (.c (.i 4 130))), .mk 1 1 (.l 1), .mk 2 1 (.l 0)]),
    sSet 1 (xMov (.l 0))]))
  cRet))),
  [.v (.f 1)], 1⟩
def m233 : List (Nat × Nat) := [(0, 0), (2, 1), (3, 2), (9, 3)]
/-- slices.Reverse[[]byte,byte] -/
noncomputable def u233 : Fu := ⟨(cSeq (cReg (regC [sPush (xLen (.f 0)),
    sPush (xBin (bSub 3 18446744073709551616) (.l 0) (.c (.c (.i 3 1)))),
    sSet 1 (xMov (.c (.c (.i 3 0)))),
    sSet 2 (xMov (.l 0))]))
  (cBlock 0 (cLoop (cSeq (cSeq (cReg (regC [sSet 3 (xBin (bLss 3 18446744073709551616 9223372036854775808) (.f 1) (.f 2))]))
  (cCond (.f 3) cSkip (cExit 0)))
  (cSeq (cBlock 1 (cReg (regC [sPush (xIxS 1 (.f 0) (.f 2)),
    sPush (xLd1 (.l 0)),
    sPush (xIxS 1 (.f 0) (.f 1)),
    sPush (xLd1 (.l 0)),
    sPush (xIxS 1 (.f 0) (.f 1)),
    sDo (xSt1 (.l 0) (.l 3)),
    sPush (xIxS 1 (.f 0) (.f 2)),
    sDo (xSt1 (.l 0) (.l 2))])))
  (cReg (regC [sPush (xBin (bAdd 3 18446744073709551616) (.f 1) (.c (.c (.i 3 1)))),
    sPush (xBin (bSub 3 18446744073709551616) (.f 2) (.c (.c (.i 3 1)))),
    sSet 1 (xMov (.l 1)),
    sSet 2 (xMov (.l 0))]))))))),
  [], 1⟩
def m234 : List (Nat × Nat) := [(0, 0), (2, 1), (3, 2), (4, 3), (5, 4), (6, 5), (7, 6), (8, 7), (9, 8)]
/-- legate/sip.number -/
noncomputable def u234 : Fu := ⟨(cSeq (cReg (regC [sSet 1 (xMov (.c (.c (.i 7 0))))]))
  (cSeq (cReg (regC [sSet 2 (xMov (.c (.c (.i 7 0))))]))
  (cSeq (cSeq (cReg (regC [sSet 5 (xMov (.f 0)),
    sSet 6 (xLen (.f 5)),
    sSet 7 (xMov (.c (.c (.i 3 0))))]))
  (cBlock 0 (cLoop (cSeq (cReg (regC [sSet 8 (xBin (bLss 3 18446744073709551616 9223372036854775808) (.f 7) (.f 6))]))
  (cSeq (cCond (.f 8) cSkip (cExit 0))
  (cSeq (cBlock 1 (cSeq (cReg (regC [sPush (xIxS 1 (.f 5) (.f 7)),
    sPush (xLd1 (.l 0)),
    sSet 3 (xMov (.f 7)),
    sSet 4 (xMov (.l 0))]))
  (cReg (regC [sPush (xCvi 4 256 256 7 18446744073709551616 (.f 4)),
    sPush (xBin (bMul 3 18446744073709551616) (.c (.c (.i 3 8))) (.f 3)),
    sPush (xBin (bShl 7 18446744073709551616) (.l 1) (.l 0)),
    sPush (xBin (bOr 7) (.f 2) (.l 0)),
    sSet 2 (xMov (.l 0))]))))
  (cReg (regC [sPush (xBin (bAdd 3 18446744073709551616) (.f 7) (.c (.c (.i 3 1)))),
    sSet 7 (xMov (.l 0))]))))))))
  (cSeq (cReg (regC [sSet 1 (xMov (.f 2))]))
  cRet)))),
  [.v (.f 1)], 1⟩
def m235 : List (Nat × Nat) := [(0, 0), (1, 1)]
/-- (*legate/sip.state).takes -/
noncomputable def u235 : Fu := ⟨(cSeq (cReg (regC [sPush (xChk (.f 0)),
    sPush (xIxA 4 1 (.l 0) (.c (.c (.i 3 3)))),
    sPush (xLd1 (.l 0)),
    sPush (xBin (bXor 7) (.l 0) (.f 1)),
    sPush (xChk (.f 0)),
    sPush (xIxA 4 1 (.l 0) (.c (.c (.i 3 3)))),
    sDo (xSt1 (.l 0) (.l 2))]))
  (cSeq (cReg (regC [sPush (xCalF 236 [(.f 0), (.c (.c (.i 3 2)))])]))
  (cReg (regC [sPush (xChk (.f 0)),
    sPush (xIxA 4 1 (.l 0) (.c (.c (.i 3 0)))),
    sPush (xLd1 (.l 0)),
    sPush (xBin (bXor 7) (.l 0) (.f 1)),
    sPush (xChk (.f 0)),
    sPush (xIxA 4 1 (.l 0) (.c (.c (.i 3 0)))),
    sDo (xSt1 (.l 0) (.l 2))])))),
  [], 2⟩
def m236 : List (Nat × Nat) := [(0, 0), (1, 1), (4, 2), (5, 3), (6, 4)]
/-- (*legate/sip.state).rounds -/
noncomputable def u236 : Fu := ⟨(cSeq (cReg (regC [sSet 2 (xMov (.f 1)),
    sSet 3 (xMov (.c (.c (.i 3 0))))]))
  (cBlock 0 (cLoop (cSeq (cReg (regC [sSet 4 (xBin (bLss 3 18446744073709551616 9223372036854775808) (.f 3) (.f 2))]))
  (cSeq (cCond (.f 4) cSkip (cExit 0))
  (cSeq (cBlock 1 (cSeq (cReg (regC [sPush (xChk (.f 0)),
    sPush (xIxA 4 1 (.l 0) (.c (.c (.i 3 0)))),
    sPush (xLd1 (.l 0)),
    sPush (xChk (.f 0)),
    sPush (xIxA 4 1 (.l 0) (.c (.c (.i 3 1)))),
    sPush (xLd1 (.l 0)),
    sPush (xBin (bAdd 7 18446744073709551616) (.l 3) (.l 0)),
    sPush (xChk (.f 0)),
    sPush (xIxA 4 1 (.l 0) (.c (.c (.i 3 0)))),
    sDo (xSt1 (.l 0) (.l 2))]))
  (cSeq (cReg (regC [sPush (xChk (.f 0)),
    sPush (xIxA 4 1 (.l 0) (.c (.c (.i 3 1)))),
    sPush (xLd1 (.l 0)),
    sPush (xChk (.f 0)),
    sPush (xIxA 4 1 (.l 0) (.c (.c (.i 3 0)))),
    sPush (xLd1 (.l 0)),
    sPush (xChk (.f 0)),
    sPush (xCalF 253 [(.l 4), (.c (.c (.i 3 13)))]),
    sAg (.l 2) (xLd1 (.l 3)),
    sPush (xBin (bXor 7) (.l 0) (.l 2)),
    sPush (xIxA 4 1 (.l 2) (.c (.c (.i 3 1)))),
    sDo (xSt1 (.l 0) (.l 1))]))
  (cSeq (cReg (regC [sPush (xChk (.f 0)),
    sPush (xIxA 4 1 (.l 0) (.c (.c (.i 3 0)))),
    sPush (xLd1 (.l 0)),
    sPush (xChk (.f 0)),
    sPush (xCalF 253 [(.l 1), (.c (.c (.i 3 32)))]),
    sPush (xIxA 4 1 (.l 1) (.c (.c (.i 3 0)))),
    sDo (xSt1 (.l 0) (.l 1))]))
  (cSeq (cReg (regC [sPush (xChk (.f 0)),
    sPush (xIxA 4 1 (.l 0) (.c (.c (.i 3 2)))),
    sPush (xLd1 (.l 0)),
    sPush (xChk (.f 0)),
    sPush (xIxA 4 1 (.l 0) (.c (.c (.i 3 3)))),
    sPush (xLd1 (.l 0)),
    sPush (xBin (bAdd 7 18446744073709551616) (.l 3) (.l 0)),
    sPush (xChk (.f 0)),
    sPush (xIxA 4 1 (.l 0) (.c (.c (.i 3 2)))),
    sDo (xSt1 (.l 0) (.l 2))]))
  (cSeq (cReg (regC [sPush (xChk (.f 0)),
    sPush (xIxA 4 1 (.l 0) (.c (.c (.i 3 3)))),
    sPush (xLd1 (.l 0)),
    sPush (xChk (.f 0)),
    sPush (xIxA 4 1 (.l 0) (.c (.c (.i 3 2)))),
    sPush (xLd1 (.l 0)),
    sPush (xChk (.f 0)),
    sPush (xCalF 253 [(.l 4), (.c (.c (.i 3 16)))]),
    sAg (.l 2) (xLd1 (.l 3)),
    sPush (xBin (bXor 7) (.l 0) (.l 2)),
    sPush (xIxA 4 1 (.l 2) (.c (.c (.i 3 3)))),
    sDo (xSt1 (.l 0) (.l 1))]))
  (cSeq (cReg (regC [sPush (xChk (.f 0)),
    sPush (xIxA 4 1 (.l 0) (.c (.c (.i 3 0)))),
    sPush (xLd1 (.l 0)),
    sPush (xChk (.f 0)),
    sPush (xIxA 4 1 (.l 0) (.c (.c (.i 3 3)))),
    sPush (xLd1 (.l 0)),
    sPush (xBin (bAdd 7 18446744073709551616) (.l 3) (.l 0)),
    sPush (xChk (.f 0)),
    sPush (xIxA 4 1 (.l 0) (.c (.c (.i 3 0)))),
    sDo (xSt1 (.l 0) (.l 2))]))
  (cSeq (cReg (regC [sPush (xChk (.f 0)),
    sPush (xIxA 4 1 (.l 0) (.c (.c (.i 3 3)))),
    sPush (xLd1 (.l 0)),
    sPush (xChk (.f 0)),
    sPush (xIxA 4 1 (.l 0) (.c (.c (.i 3 0)))),
    sPush (xLd1 (.l 0)),
    sPush (xChk (.f 0)),
    sPush (xCalF 253 [(.l 4), (.c (.c (.i 3 21)))]),
    sAg (.l 2) (xLd1 (.l 3)),
    sPush (xBin (bXor 7) (.l 0) (.l 2)),
    sPush (xIxA 4 1 (.l 2) (.c (.c (.i 3 3)))),
    sDo (xSt1 (.l 0) (.l 1))]))
  (cSeq (cReg (regC [sPush (xChk (.f 0)),
    sPush (xIxA 4 1 (.l 0) (.c (.c (.i 3 2)))),
    sPush (xLd1 (.l 0)),
    sPush (xChk (.f 0)),
    sPush (xIxA 4 1 (.l 0) (.c (.c (.i 3 1)))),
    sPush (xLd1 (.l 0)),
    sPush (xBin (bAdd 7 18446744073709551616) (.l 3) (.l 0)),
    sPush (xChk (.f 0)),
    sPush (xIxA 4 1 (.l 0) (.c (.c (.i 3 2)))),
    sDo (xSt1 (.l 0) (.l 2))]))
  (cSeq (cReg (regC [sPush (xChk (.f 0)),
    sPush (xIxA 4 1 (.l 0) (.c (.c (.i 3 1)))),
    sPush (xLd1 (.l 0)),
    sPush (xChk (.f 0)),
    sPush (xIxA 4 1 (.l 0) (.c (.c (.i 3 2)))),
    sPush (xLd1 (.l 0)),
    sPush (xChk (.f 0)),
    sPush (xCalF 253 [(.l 4), (.c (.c (.i 3 17)))]),
    sAg (.l 2) (xLd1 (.l 3)),
    sPush (xBin (bXor 7) (.l 0) (.l 2)),
    sPush (xIxA 4 1 (.l 2) (.c (.c (.i 3 1)))),
    sDo (xSt1 (.l 0) (.l 1))]))
  (cReg (regC [sPush (xChk (.f 0)),
    sPush (xIxA 4 1 (.l 0) (.c (.c (.i 3 2)))),
    sPush (xLd1 (.l 0)),
    sPush (xChk (.f 0)),
    sPush (xCalF 253 [(.l 1), (.c (.c (.i 3 32)))]),
    sPush (xIxA 4 1 (.l 1) (.c (.c (.i 3 2)))),
    sDo (xSt1 (.l 0) (.l 1))]))))))))))))
  (cReg (regC [sPush (xBin (bAdd 3 18446744073709551616) (.f 3) (.c (.c (.i 3 1)))),
    sSet 3 (xMov (.l 0))])))))))),
  [], 2⟩
def m237 : List (Nat × Nat) := [(0, 0), (1, 1), (2, 2), (6, 3), (7, 4), (9, 5), (11, 6), (13, 7), (14, 8), (15, 9), (16, 10)]
/-- (*legate/speck.Key).Block -/
noncomputable def u237 : Fu := ⟨(cSeq (cReg (regC [sSet 3 (xMov (.c (.c (.i 6 0)))),
    sSet 4 (xMov (.c (.c (.i 6 0))))]))
  (cSeq (cSeq (cReg (regC [sSet 6 (xBin (bEqN 0) (.f 0) (.c (.c (.o (.np)))))]))
  (cCond (.f 6) (cSeq (cReg (regC [sSet 3 (xMov (.c (.c (.i 6 0)))),
    sSet 4 (xMov (.c (.c (.i 6 0))))]))
  cRet) cSkip))
  (cSeq (cSeq (cReg (regC [sSet 7 (xCalF 254 [(.f 0)]),
    sSet 8 (xLen (.f 7)),
    sSet 9 (xMov (.c (.c (.i 3 0))))]))
  (cBlock 0 (cLoop (cSeq (cReg (regC [sSet 10 (xBin (bLss 3 18446744073709551616 9223372036854775808) (.f 9) (.f 8))]))
  (cSeq (cCond (.f 10) cSkip (cExit 0))
  (cSeq (cBlock 1 (cSeq (cReg (regC [sPush (xIxS 1 (.f 7) (.f 9)),
    sPush (xLd1 (.l 0)),
    sSet 5 (xMov (.l 0))]))
  (cSeq (cReg (regC [sPush (xCalF 255 [(.f 1), (.c (.c (.i 3 18446744073709551608)))]),
    sPush (xBin (bAdd 6 4294967296) (.l 0) (.f 2)),
    sPush (xBin (bXor 6) (.l 0) (.f 5)),
    sSet 1 (xMov (.l 0))]))
  (cReg (regC [sPush (xCalF 255 [(.f 2), (.c (.c (.i 3 3)))]),
    sPush (xBin (bXor 6) (.l 0) (.f 1)),
    sSet 2 (xMov (.l 0))])))))
  (cReg (regC [sPush (xBin (bAdd 3 18446744073709551616) (.f 9) (.c (.c (.i 3 1)))),
    sSet 9 (xMov (.l 0))]))))))))
  (cSeq (cReg (regC [sSet 3 (xMov (.f 1)),
    sSet 4 (xMov (.f 2))]))
  cRet)))),
  [.v (.f 3), .v (.f 4)], 3⟩
def m238 : List (Nat × Nat) := [(0, 0), (1, 1), (4, 2)]
/-- strings.IndexFunc -/
noncomputable def u238 : Fu := ⟨(cSeq (cReg (regC [sSet 2 (xMov (.c (.c (.i 3 0))))]))
  (cSeq (cReg (regC [sPush (xCalF 256 [(.f 0), (.f 1), (.c (.c (.o (.b true))))]),
    sSet 2 (xMov (.l 0))]))
  cRet)),
  [.v (.f 2)], 2⟩
def m239 : List (Nat × Nat) := [(0, 0), (2, 1)]
/-- legate/msg.isText$1 -/
noncomputable def u239 : Fu := ⟨(cSeq (cReg (regC [sSet 1 (xMov (.c (.c (.o (.b false)))))]))
  (cSeq (cReg (regC [sPush (xBin (bLss 2 4294967296 2147483648) (.f 0) (.c (.c (.i 2 32)))),
    sIf (.l 0) false (sPush (xMov (.f 0))) (sPush (xMov (.c udf))),
    sIf (.l 1) false (sPush (xBin (bGtr 2 4294967296 2147483648) (.l 0) (.c (.c (.i 2 126))))) (sPush (xMov (.c udf))),
    sPush (xPick (.l 2) (.c (.c (.o (.b true)))) (.l 0)),
    sSet 1 (xMov (.l 0))]))
  cRet)),
  [.v (.f 1)], 1⟩
def m240 : List (Nat × Nat) := [(0, 0), (1, 1), (4, 2), (5, 3), (6, 4), (7, 5), (9, 6), (18, 7), (25, 8), (43, 9)]
/-- strings.explode -/
noncomputable def u240 : Fu := ⟨(cSeq (cReg (regC [sSet 2 (xMov (.c (.c (.o (.ns)))))]))
  (cSeq (cReg (regC [sPush (xCalF 257 [(.f 0)]),
    sSet 3 (xMov (.l 0))]))
  (cSeq (cSeq (cReg (regC [sPush (xBin (bLss 3 18446744073709551616 9223372036854775808) (.f 1) (.c (.c (.i 3 0)))),
    sIf (.l 0) false (sPush (xMov (.f 1))) (sPush (xMov (.c udf))),
    sIf (.l 1) false (sPush (xMov (.f 3))) (sPush (xMov (.c udf))),
    sIf (.l 2) false (sPush (xBin (bGtr 3 18446744073709551616 9223372036854775808) (.l 1) (.l 0))) (sPush (xMov (.c udf))),
    sSet 7 (xPick (.l 3) (.c (.c (.o (.b true)))) (.l 0))]))
  (cCond (.f 7) (cReg (regC [sSet 1 (xMov (.f 3))])) cSkip))
  (cSeq (cReg (regC [sPush (xMks 9 [.o (.s [])] (.f 1) (.f 1)),
    sSet 4 (xMov (.l 0))]))
  (cSeq (cSeq (cReg (regC [sSet 5 (xMov (.c (.c (.i 3 0))))]))
  (cBlock 0 (cLoop (cSeq (cSeq (cReg (regC [sPush (xBin (bSub 3 18446744073709551616) (.f 1) (.c (.c (.i 3 1)))),
    sSet 8 (xBin (bLss 3 18446744073709551616 9223372036854775808) (.f 5) (.l 0))]))
  (cCond (.f 8) cSkip (cExit 0)))
  (cSeq (cBlock 1 (cSeq (cReg (regC [sPush (xCalF 225 [(.f 0)]),
    sPush (xExt (.l 0) 0),
    sPush (xExt (.l 1) 1),
    sSet 6 (xMov (.l 0))]))
  (cSeq (cReg (regC [sPush (xCutT (.f 0) none (some (.f 6))),
    sPush (xIxS 1 (.f 4) (.f 5)),
    sDo (xSt1 (.l 0) (.l 1))]))
  (cReg (regC [sPush (xCutT (.f 0) (some (.f 6)) none),
    sSet 0 (xMov (.l 0))])))))
  (cReg (regC [sPush (xBin (bAdd 3 18446744073709551616) (.f 5) (.c (.c (.i 3 1)))),
    sSet 5 (xMov (.l 0))])))))))
  (cSeq (cSeq (cReg (regC [sSet 9 (xBin (bGtr 3 18446744073709551616 9223372036854775808) (.f 1) (.c (.c (.i 3 0))))]))
  (cCond (.f 9) (cReg (regC [sPush (xBin (bSub 3 18446744073709551616) (.f 1) (.c (.c (.i 3 1)))),
    sPush (xIxS 1 (.f 4) (.l 0)),
    sDo (xSt1 (.l 0) (.f 0))])) cSkip))
  (cSeq (cReg (regC [sSet 2 (xMov (.f 4))]))
  cRet))))))),
  [.v (.f 2)], 2⟩
def m241 : List (Nat × Nat) := [(0, 0), (1, 1), (4, 2), (5, 3), (6, 4), (9, 5), (15, 6), (24, 7)]
/-- strings.Count -/
noncomputable def u241 : Fu := ⟨(cSeq (cReg (regC [sSet 2 (xMov (.c (.c (.i 3 0))))]))
  (cSeq (cSeq (cReg (regC [sPush (xLenT (.f 1)),
    sSet 5 (xBin (bEq 0) (.l 0) (.c (.c (.i 3 0))))]))
  (cCond (.f 5) (cSeq (cReg (regC [sPush (xCalF 257 [(.f 0)]),
    sPush (xBin (bAdd 3 18446744073709551616) (.l 0) (.c (.c (.i 3 1)))),
    sSet 2 (xMov (.l 0))]))
  cRet) cSkip))
  (cSeq (cSeq (cReg (regC [sPush (xLenT (.f 1)),
    sSet 6 (xBin (bEq 0) (.l 0) (.c (.c (.i 3 1))))]))
  (cCond (.f 6) (cSeq (cReg (regC [sPush (xIxT (.f 1) (.c (.c (.i 3 0)))),
    sPush (xCalF 258 [(.f 0), (.l 0)]),
    sSet 2 (xMov (.l 0))]))
  cRet) cSkip))
  (cSeq (cReg (regC [sSet 3 (xMov (.c (.c (.i 3 0))))]))
  (cBlock 0 (cLoop (cBlock 1 (cSeq (cReg (regC [sPush (xCalF 242 [(.f 0), (.f 1)]),
    sSet 4 (xMov (.l 0))]))
  (cSeq (cSeq (cReg (regC [sSet 7 (xBin (bEq 0) (.f 4) (.c (.c (.i 3 18446744073709551615))))]))
  (cCond (.f 7) (cSeq (cReg (regC [sSet 2 (xMov (.f 3))]))
  cRet) cSkip))
  (cSeq (cReg (regC [sPush (xBin (bAdd 3 18446744073709551616) (.f 3) (.c (.c (.i 3 1)))),
    sSet 3 (xMov (.l 0))]))
  (cReg (regC [sPush (xLenT (.f 1)),
    sPush (xBin (bAdd 3 18446744073709551616) (.f 4) (.l 0)),
    sPush (xCutT (.f 0) (some (.l 0)) none),
    sSet 0 (xMov (.l 0))])))))))))))),
  [.v (.f 2)], 2⟩
def m242 : List (Nat × Nat) := [(0, 0), (1, 1), (4, 2)]
/-- strings.Index -/
noncomputable def u242 : Fu := ⟨(cSeq (cReg (regC [sSet 2 (xMov (.c (.c (.i 3 0))))]))
  (cSeq (cReg (regC [sPush (xCalF 259 [(.f 0), (.f 1)]),
    sSet 2 (xMov (.l 0))]))
  cRet)),
  [.v (.f 2)], 2⟩
def m243 : List (Nat × Nat) := [(0, 0), (1, 1), (4, 2)]
/-- internal/stringslite.HasSuffix -/
noncomputable def u243 : Fu := ⟨(cSeq (cReg (regC [sSet 2 (xMov (.c (.c (.o (.b false)))))]))
  (cSeq (cReg (regC [sPush (xLenT (.f 0)),
    sPush (xLenT (.f 1)),
    sPush (xBin (bGeq 3 18446744073709551616 9223372036854775808) (.l 1) (.l 0)),
    sIf (.l 0) true (sPush (xMov (.f 0))) (sPush (xMov (.c udf))),
    sIf (.l 1) true (sPush (xMov (.f 0))) (sPush (xMov (.c udf))),
    sIf (.l 2) true (sPush (xLenT (.l 0))) (sPush (xMov (.c udf))),
    sIf (.l 3) true (sPush (xMov (.f 1))) (sPush (xMov (.c udf))),
    sIf (.l 4) true (sPush (xLenT (.l 0))) (sPush (xMov (.c udf))),
    sIf (.l 5) true (sPush (xBin (bSub 3 18446744073709551616) (.l 2) (.l 0))) (sPush (xMov (.c udf))),
    sIf (.l 6) true (sPush (xCutT (.l 5) (some (.l 0)) none)) (sPush (xMov (.c udf))),
    sIf (.l 7) true (sPush (xMov (.f 1))) (sPush (xMov (.c udf))),
    sIf (.l 8) true (sPush (xBin (bEq 1) (.l 1) (.l 0))) (sPush (xMov (.c udf))),
    sPush (xPick (.l 9) (.l 0) (.c (.c (.o (.b false))))),
    sSet 2 (xMov (.l 0))]))
  cRet)),
  [.v (.f 2)], 2⟩
def m244 : List (Nat × Nat) := [(0, 0), (1, 1), (4, 2), (7, 3), (11, 4)]
/-- legate/name.realm -/
noncomputable def u244 : Fu := ⟨(cSeq (cReg (regC [sSet 2 (xMov (.c (.c (.o (.s [])))))]))
  (cSeq (cReg (regC [sPush (xCalF 105 [(.f 0)]),
    sSet 0 (xMov (.l 0))]))
  (cSeq (cBlock 0 (cSeq (cReg (regC [sPush (xLen (.f 0)),
    sPush (xBin (bEq 0) (.l 0) (.c (.c (.i 3 0)))),
    sSet 3 (xMov (.l 0))]))
  (cCond (.f 3) (cSeq (cReg (regC [sSet 2 (xMov (.c (.c (.o (.s [])))))]))
  cRet) (cSeq (cReg (regC [sPush (xBin (bEq 0) (.f 1) (.c (.c (.i 3 2)))),
    sSet 4 (xMov (.l 0))]))
  (cCond (.f 4) (cSeq (cReg (regC [sPush (xCalF 260 [(.f 0), (.c (.c (.o (.s [47]))))]),
    sPush (xBin (bCat) (.c (.c (.o (.s [47])))) (.l 0)),
    sSet 2 (xMov (.l 0))]))
  cRet) cSkip)))))
  (cSeq (cReg (regC [sPush (xCalF 222 [(.f 0)])]))
  (cSeq (cReg (regC [sPush (xCalF 260 [(.f 0), (.c (.c (.o (.s [46]))))]),
    sSet 2 (xMov (.l 0))]))
  cRet))))),
  [.v (.f 2)], 2⟩
def m245 : List (Nat × Nat) := [(0, 0), (1, 1), (4, 2), (5, 3), (6, 4), (7, 5), (12, 6), (19, 7), (29, 8)]
/-- slices.DeleteFunc[[]string,string] -/
noncomputable def u245 : Fu := ⟨(cSeq (cReg (regC [sSet 2 (xMov (.c (.c (.o (.ns)))))]))
  (cSeq (cReg (regC [sPush (xCalF 142 [(.f 0), (.f 1)]),
    sSet 3 (xMov (.l 0))]))
  (cSeq (cSeq (cReg (regC [sSet 6 (xBin (bEq 0) (.f 3) (.c (.c (.i 3 18446744073709551615))))]))
  (cCond (.f 6) (cSeq (cReg (regC [sSet 2 (xMov (.f 0))]))
  cRet) cSkip))
  (cSeq (cSeq (cReg (regC [sPush (xBin (bAdd 3 18446744073709551616) (.f 3) (.c (.c (.i 3 1)))),
    sSet 4 (xMov (.l 0))]))
  (cBlock 0 (cLoop (cSeq (cSeq (cReg (regC [sPush (xLen (.f 0)),
    sSet 7 (xBin (bLss 3 18446744073709551616 9223372036854775808) (.f 4) (.l 0))]))
  (cCond (.f 7) cSkip (cExit 0)))
  (cSeq (cBlock 1 (cSeq (cReg (regC [sPush (xIxS 1 (.f 0) (.f 4)),
    sPush (xLd1 (.l 0)),
    sSet 5 (xMov (.l 0))]))
  (cSeq (cReg (regC [sPush (xCal (.f 1) [(.f 5)]),
    sSet 8 (xNot (.l 0))]))
  (cCond (.f 8) (cSeq (cReg (regC [sPush (xIxS 1 (.f 0) (.f 3)),
    sDo (xSt1 (.l 0) (.f 5))]))
  (cReg (regC [sPush (xBin (bAdd 3 18446744073709551616) (.f 3) (.c (.c (.i 3 1)))),
    sSet 3 (xMov (.l 0))]))) cSkip))))
  (cReg (regC [sPush (xBin (bAdd 3 18446744073709551616) (.f 4) (.c (.c (.i 3 1)))),
    sSet 4 (xMov (.l 0))])))))))
  (cSeq (cReg (regC [sPush (xCutL 1 (.f 0) (some (.f 3)) none),
    sDo (xClr [.o (.s [])] (.l 0))]))
  (cSeq (cReg (regC [sPush (xCutL 1 (.f 0) none (some (.f 3))),
    sSet 2 (xMov (.l 0))]))
  cRet)))))),
  [.v (.f 2)], 2⟩
def m246 : List (Nat × Nat) := [(0, 0), (1, 1), (2, 2), (4, 3)]
/-- legate/name.Between$1 -/
noncomputable def u246 : Fu := ⟨(cSeq (cReg (regC [sSet 3 (xMov (.c (.c (.o (.b false)))))]))
  (cSeq (cReg (regC [sPush (xLd1 (.f 1)),
    sPush (xBin (bEq 1) (.f 0) (.l 0)),
    sIf (.l 0) false (sPush (xMov (.f 0))) (sPush (xMov (.c udf))),
    sIf (.l 1) false (sPush (xLd1 (.f 2))) (sPush (xMov (.c udf))),
    sIf (.l 2) false (sPush (xBin (bEq 1) (.l 1) (.l 0))) (sPush (xMov (.c udf))),
    sPush (xPick (.l 3) (.c (.c (.o (.b true)))) (.l 0)),
    sSet 3 (xMov (.l 0))]))
  cRet)),
  [.v (.f 3)], 3⟩
def m247 : List (Nat × Nat) := [(0, 0), (1, 1), (4, 2), (5, 3), (7, 4), (8, 5), (9, 6), (16, 7)]
/-- slices.IndexFunc[[]legate/api.Path,legate/api.Path] -/
noncomputable def u247 : Fu := ⟨(cSeq (cReg (regC [sSet 2 (xMov (.c (.c (.i 3 0))))]))
  (cSeq (cSeq (cReg (regC [sSet 4 (xLen (.f 0)),
    sSet 5 (xMov (.c (.c (.i 3 0))))]))
  (cBlock 0 (cLoop (cSeq (cReg (regC [sSet 6 (xBin (bLss 3 18446744073709551616 9223372036854775808) (.f 5) (.f 4))]))
  (cSeq (cCond (.f 6) cSkip (cExit 0))
  (cSeq (cBlock 1 (cSeq (cReg (regC [sSet 3 (xMov (.f 5))]))
  (cSeq (cReg (regC [sPush (xIxS 3 (.f 0) (.f 3)),
    sPush (xLdA 3 (.l 0)),
    sSet 7 (xCal (.f 1) [(.l 0)])]))
  (cCond (.f 7) (cSeq (cReg (regC [sSet 2 (xMov (.f 3))]))
  cRet) cSkip))))
  (cReg (regC [sPush (xBin (bAdd 3 18446744073709551616) (.f 5) (.c (.c (.i 3 1)))),
    sSet 5 (xMov (.l 0))]))))))))
  (cSeq (cReg (regC [sSet 2 (xMov (.c (.c (.i 3 18446744073709551615))))]))
  cRet))),
  [.v (.f 2)], 2⟩
def m248 : List (Nat × Nat) := [(0, 0), (1, 1), (2, 2), (3, 3), (4, 4)]
/-- legate/route.laid$1 -/
noncomputable def u248 : Fu := ⟨(cSeq (cReg (regC [sSet 3 (xBox 210 (.f 0)),
    sSet 4 (xMov (.c (.c (.o (.b false)))))]))
  (cSeq (cReg (regC [sPush (xFld (.f 3) 0),
    sPush (xLd1 (.l 0)),
    sPush (xLd1 (.f 1)),
    sPush (xBin (bEq 1) (.l 1) (.l 0)),
    sIf (.l 0) true (sPush (xFld (.f 3) 1)) (sPush (xMov (.c udf))),
    sIf (.l 1) true (sPush (xLd1 (.l 0))) (sPush (xMov (.c udf))),
    sIf (.l 2) true (sPush (xLd1 (.f 2))) (sPush (xMov (.c udf))),
    sIf (.l 3) true (sPush (xBin (bEq 1) (.l 1) (.l 0))) (sPush (xMov (.c udf))),
    sPush (xPick (.l 4) (.l 0) (.c (.c (.o (.b false))))),
    sSet 4 (xMov (.l 0))]))
  cRet)),
  [.v (.f 4)], 3⟩
def m249 : List (Nat × Nat) := [(0, 0), (2, 1), (3, 2), (4, 3), (5, 4), (6, 5), (7, 6), (8, 7), (9, 8), (10, 9), (11, 10), (12, 11), (16, 12), (23, 13), (45, 14), (57, 15), (59, 16), (75, 17), (77, 18), (98, 19)]
/-- unicode/utf8.decodeRuneInStringSlow -/
noncomputable def u249 : Fu := ⟨(cSeq (cReg (regC [sSet 1 (xMov (.c (.c (.i 2 0)))),
    sSet 2 (xMov (.c (.c (.i 3 0))))]))
  (cSeq (cReg (regC [sPush (xLenT (.f 0)),
    sSet 3 (xMov (.l 0))]))
  (cSeq (cSeq (cReg (regC [sSet 12 (xBin (bLss 3 18446744073709551616 9223372036854775808) (.f 3) (.c (.c (.i 3 1))))]))
  (cCond (.f 12) (cSeq (cReg (regC [sSet 1 (xMov (.c (.c (.i 2 65533)))),
    sSet 2 (xMov (.c (.c (.i 3 0))))]))
  cRet) cSkip))
  (cSeq (cReg (regC [sPush (xIxT (.f 0) (.c (.c (.i 3 0)))),
    sSet 4 (xMov (.l 0))]))
  (cSeq (cReg (regC [sPush (xIxA 256 1 (.c (.c (.o (.raw (.pointer (some ⟨0, 0, none⟩)))))) (.f 4)),
    sPush (xLd1 (.l 0)),
    sSet 5 (xMov (.l 0))]))
  (cSeq (cSeq (cReg (regC [sSet 13 (xBin (bGeq 4 256 0) (.f 5) (.c (.c (.i 4 240))))]))
  (cCond (.f 13) (cSeq (cReg (regC [sPush (xCvi 4 256 256 2 4294967296 (.f 5)),
    sPush (xBin (bShl 2 4294967296) (.l 0) (.c (.c (.i 7 31)))),
    sPush (xBin (bShr 2 2147483648) (.l 0) (.c (.c (.i 7 31)))),
    sSet 6 (xMov (.l 0))]))
  (cSeq (cReg (regC [sPush (xIxT (.f 0) (.c (.c (.i 3 0)))),
    sPush (xCvi 4 256 256 2 4294967296 (.l 0)),
    sPush (xBad),
    sPush (xBin (bAnd 2) (.c (.c (.i 2 65533))) (.f 6)),
    sPush (xBin (bOr 2) (.l 1) (.l 0)),
    sSet 1 (xMov (.l 0)),
    sSet 2 (xMov (.c (.c (.i 3 1))))]))
  cRet)) cSkip))
  (cSeq (cReg (regC [sPush (xBin (bAnd 4) (.f 5) (.c (.c (.i 4 7)))),
    sPush (xCvi 4 256 256 3 18446744073709551616 (.l 0)),
    sSet 7 (xMov (.l 0))]))
  (cSeq (cReg (regC [sPush (xBin (bShr 4 256) (.f 5) (.c (.c (.i 7 4)))),
    sPush (xIxA 16 2 (.c (.c (.o (.raw (.pointer (some ⟨1, 0, none⟩)))))) (.l 0)),
    sPush (xLdA 2 (.l 0)),
    sSet 8 (xAlc 348 [.i 4 0, .i 4 0]),
    sDo (xStA 2 (.f 8) (.l 0))]))
  (cSeq (cSeq (cReg (regC [sSet 14 (xBin (bLss 3 18446744073709551616 9223372036854775808) (.f 3) (.f 7))]))
  (cCond (.f 14) (cSeq (cReg (regC [sSet 1 (xMov (.c (.c (.i 2 65533)))),
    sSet 2 (xMov (.c (.c (.i 3 1))))]))
  cRet) cSkip))
  (cSeq (cReg (regC [sPush (xIxT (.f 0) (.c (.c (.i 3 1)))),
    sSet 9 (xMov (.l 0))]))
  (cSeq (cSeq (cReg (regC [sPush (xFld (.f 8) 0),
    sPush (xLd1 (.l 0)),
    sPush (xBin (bLss 4 256 0) (.f 9) (.l 0)),
    sIf (.l 0) false (sPush (xFld (.f 8) 1)) (sPush (xMov (.c udf))),
    sIf (.l 1) false (sPush (xLd1 (.l 0))) (sPush (xMov (.c udf))),
    sIf (.l 2) false (sPush (xMov (.f 9))) (sPush (xMov (.c udf))),
    sIf (.l 3) false (sPush (xBin (bLss 4 256 0) (.l 1) (.l 0))) (sPush (xMov (.c udf))),
    sSet 15 (xPick (.l 4) (.c (.c (.o (.b true)))) (.l 0))]))
  (cCond (.f 15) (cSeq (cReg (regC [sSet 1 (xMov (.c (.c (.i 2 65533)))),
    sSet 2 (xMov (.c (.c (.i 3 1))))]))
  cRet) cSkip))
  (cSeq (cSeq (cReg (regC [sSet 16 (xBin (bLeq 3 18446744073709551616 9223372036854775808) (.f 7) (.c (.c (.i 3 2))))]))
  (cCond (.f 16) (cSeq (cReg (regC [sPush (xBin (bAnd 4) (.f 4) (.c (.c (.i 4 31)))),
    sPush (xCvi 4 256 256 2 4294967296 (.l 0)),
    sPush (xBin (bShl 2 4294967296) (.l 0) (.c (.c (.i 7 6)))),
    sPush (xBin (bAnd 4) (.f 9) (.c (.c (.i 4 63)))),
    sPush (xCvi 4 256 256 2 4294967296 (.l 0)),
    sPush (xBin (bOr 2) (.l 2) (.l 0)),
    sSet 1 (xMov (.l 0)),
    sSet 2 (xMov (.c (.c (.i 3 2))))]))
  cRet) cSkip))
  (cSeq (cReg (regC [sPush (xIxT (.f 0) (.c (.c (.i 3 2)))),
    sSet 10 (xMov (.l 0))]))
  (cSeq (cSeq (cReg (regC [sPush (xBin (bLss 4 256 0) (.f 10) (.c (.c (.i 4 128)))),
    sIf (.l 0) false (sPush (xMov (.f 10))) (sPush (xMov (.c udf))),
    sIf (.l 1) false (sPush (xBin (bLss 4 256 0) (.c (.c (.i 4 191))) (.l 0))) (sPush (xMov (.c udf))),
    sSet 17 (xPick (.l 2) (.c (.c (.o (.b true)))) (.l 0))]))
  (cCond (.f 17) (cSeq (cReg (regC [sSet 1 (xMov (.c (.c (.i 2 65533)))),
    sSet 2 (xMov (.c (.c (.i 3 1))))]))
  cRet) cSkip))
  (cSeq (cSeq (cReg (regC [sSet 18 (xBin (bLeq 3 18446744073709551616 9223372036854775808) (.f 7) (.c (.c (.i 3 3))))]))
  (cCond (.f 18) (cSeq (cReg (regC [sPush (xBin (bAnd 4) (.f 4) (.c (.c (.i 4 15)))),
    sPush (xCvi 4 256 256 2 4294967296 (.l 0)),
    sPush (xBin (bShl 2 4294967296) (.l 0) (.c (.c (.i 7 12)))),
    sPush (xBin (bAnd 4) (.f 9) (.c (.c (.i 4 63)))),
    sPush (xCvi 4 256 256 2 4294967296 (.l 0)),
    sPush (xBin (bShl 2 4294967296) (.l 0) (.c (.c (.i 7 6)))),
    sPush (xBin (bOr 2) (.l 3) (.l 0)),
    sPush (xBin (bAnd 4) (.f 10) (.c (.c (.i 4 63)))),
    sPush (xCvi 4 256 256 2 4294967296 (.l 0)),
    sPush (xBin (bOr 2) (.l 2) (.l 0)),
    sSet 1 (xMov (.l 0)),
    sSet 2 (xMov (.c (.c (.i 3 3))))]))
  cRet) cSkip))
  (cSeq (cReg (regC [sPush (xIxT (.f 0) (.c (.c (.i 3 3)))),
    sSet 11 (xMov (.l 0))]))
  (cSeq (cSeq (cReg (regC [sPush (xBin (bLss 4 256 0) (.f 11) (.c (.c (.i 4 128)))),
    sIf (.l 0) false (sPush (xMov (.f 11))) (sPush (xMov (.c udf))),
    sIf (.l 1) false (sPush (xBin (bLss 4 256 0) (.c (.c (.i 4 191))) (.l 0))) (sPush (xMov (.c udf))),
    sSet 19 (xPick (.l 2) (.c (.c (.o (.b true)))) (.l 0))]))
  (cCond (.f 19) (cSeq (cReg (regC [sSet 1 (xMov (.c (.c (.i 2 65533)))),
    sSet 2 (xMov (.c (.c (.i 3 1))))]))
  cRet) cSkip))
  (cSeq (cReg (regC [sPush (xBin (bAnd 4) (.f 4) (.c (.c (.i 4 7)))),
    sPush (xCvi 4 256 256 2 4294967296 (.l 0)),
    sPush (xBin (bShl 2 4294967296) (.l 0) (.c (.c (.i 7 18)))),
    sPush (xBin (bAnd 4) (.f 9) (.c (.c (.i 4 63)))),
    sPush (xCvi 4 256 256 2 4294967296 (.l 0)),
    sPush (xBin (bShl 2 4294967296) (.l 0) (.c (.c (.i 7 12)))),
    sPush (xBin (bOr 2) (.l 3) (.l 0)),
    sPush (xBin (bAnd 4) (.f 10) (.c (.c (.i 4 63)))),
    sPush (xCvi 4 256 256 2 4294967296 (.l 0)),
    sPush (xBin (bShl 2 4294967296) (.l 0) (.c (.c (.i 7 6)))),
    sPush (xBin (bOr 2) (.l 3) (.l 0)),
    sPush (xBin (bAnd 4) (.f 11) (.c (.c (.i 4 63)))),
    sPush (xCvi 4 256 256 2 4294967296 (.l 0)),
    sPush (xBin (bOr 2) (.l 2) (.l 0)),
    sSet 1 (xMov (.l 0)),
    sSet 2 (xMov (.c (.c (.i 3 4))))]))
  cRet)))))))))))))))))),
  [.v (.f 1), .v (.f 2)], 1⟩
def m250 : List (Nat × Nat) := [(0, 0), (1, 1), (4, 2), (5, 3), (6, 4), (160, 5), (171, 6), (175, 7), (176, 8), (177, 9), (181, 10), (183, 11)]
/-- strings.IndexRune -/
noncomputable def u250 : Fu := ⟨(cSeq (cReg (regC [sSet 2 (xMov (.c (.c (.i 3 0))))]))
  (cBlock 0 (cSeq (cReg (regC [sPush (xBin (bLeq 2 4294967296 2147483648) (.c (.c (.i 2 0))) (.f 1)),
    sIf (.l 0) true (sPush (xMov (.f 1))) (sPush (xMov (.c udf))),
    sIf (.l 1) true (sPush (xBin (bLss 2 4294967296 2147483648) (.l 0) (.c (.c (.i 2 128))))) (sPush (xMov (.c udf))),
    sPush (xPick (.l 2) (.l 0) (.c (.c (.o (.b false))))),
    sSet 5 (xMov (.l 0))]))
  (cCond (.f 5) (cSeq (cReg (regC [sPush (xCvi 2 4294967296 2147483648 4 256 (.f 1)),
    sPush (xCalF 261 [(.f 0), (.l 0)]),
    sSet 2 (xMov (.l 0))]))
  cRet) (cSeq (cReg (regC [sPush (xBin (bEq 0) (.f 1) (.c (.c (.i 2 65533)))),
    sSet 6 (xMov (.l 0))]))
  (cCond (.f 6) (cSeq (cSeq (cReg (regC [sSet 7 (xRng (.f 0))]))
  (cBlock 9 (cLoop (cSeq (cReg (regC [sSet 8 (xNxt (.f 7)),
    sSet 9 (xExt (.f 8) 0)]))
  (cSeq (cCond (.f 9) cSkip (cExit 9))
  (cBlock 10 (cSeq (cReg (regC [sPush (xExt (.f 8) 1),
    sPush (xExt (.f 8) 2),
    sSet 3 (xMov (.l 1)),
    sSet 4 (xMov (.l 0))]))
  (cSeq (cReg (regC [sSet 10 (xBin (bEq 0) (.f 4) (.c (.c (.i 2 65533))))]))
  (cCond (.f 10) (cSeq (cReg (regC [sSet 2 (xMov (.f 3))]))
  cRet) cSkip)))))))))
  (cSeq (cReg (regC [sSet 2 (xMov (.c (.c (.i 3 18446744073709551615))))]))
  cRet)) (cSeq (cReg (regC [sPush (xCalF 262 [(.f 1)]),
    sPush (xNot (.l 0)),
    sSet 11 (xMov (.l 0))]))
  (cCond (.f 11) (cSeq (cReg (regC [sSet 2 (xMov (.c (.c (.i 3 18446744073709551615))))]))
  cRet) cBad)))))))),
  [.v (.f 2)], 2⟩
def m251 : List (Nat × Nat) := [(0, 0), (2, 1)]
/-- unicode/utf8.RuneStart -/
noncomputable def u251 : Fu := ⟨(cSeq (cReg (regC [sSet 1 (xMov (.c (.c (.o (.b false)))))]))
  (cSeq (cReg (regC [sPush (xBin (bAnd 4) (.f 0) (.c (.c (.i 4 192)))),
    sPush (xBin (bNe 0) (.l 0) (.c (.c (.i 4 128)))),
    sSet 1 (xMov (.l 0))]))
  cRet)),
  [.v (.f 1)], 1⟩
def m252 : List (Nat × Nat) := [(0, 0), (1, 1), (4, 2), (6, 3), (16, 4)]
/-- slices.Grow[[]byte,byte] -/
noncomputable def u252 : Fu := ⟨(cSeq (cReg (regC [sSet 2 (xMov (.c (.c (.o (.ns)))))]))
  (cSeq (cSeq (cReg (regC [sSet 3 (xBin (bLss 3 18446744073709551616 9223372036854775808) (.f 1) (.c (.c (.i 3 0))))]))
  (cCond (.f 3) (cReg (regC [sPush (xBad),
    sDo (xBad)])) cSkip))
  (cSeq (cSeq (cReg (regC [sPush (xCap (.f 0)),
    sPush (xLen (.f 0)),
    sPush (xBin (bSub 3 18446744073709551616) (.l 1) (.l 0)),
    sPush (xBin (bSub 3 18446744073709551616) (.f 1) (.l 0)),
    sSet 1 (xMov (.l 0))]))
  (cSeq (cReg (regC [sSet 4 (xBin (bGtr 3 18446744073709551616 9223372036854775808) (.f 1) (.c (.c (.i 3 0))))]))
  (cCond (.f 4) (cReg (regC [sPush (xCap (.f 0)),
    sPush (xCutL 1 (.f 0) none (some (.l 0))),
    sPush (xApz 5 [.i 4 0] (.l 0) (.f 1)),
    sPush (xLen (.f 0)),
    sPush (xCutL 1 (.l 1) none (some (.l 0))),
    sSet 0 (xMov (.l 0))])) cSkip)))
  (cSeq (cReg (regC [sSet 2 (xMov (.f 0))]))
  cRet)))),
  [.v (.f 2)], 2⟩
def m253 : List (Nat × Nat) := [(0, 0), (1, 1), (4, 2), (5, 3)]
/-- math/bits.RotateLeft64 -/
noncomputable def u253 : Fu := ⟨(cSeq (cReg (regC [sSet 2 (xMov (.c (.c (.i 7 0))))]))
  (cSeq (cReg (regC [sPush (xCvi 3 18446744073709551616 9223372036854775808 7 18446744073709551616 (.f 1)),
    sPush (xBin (bAnd 7) (.l 0) (.c (.c (.i 7 63)))),
    sSet 3 (xMov (.l 0))]))
  (cSeq (cReg (regC [sPush (xBin (bShl 7 18446744073709551616) (.f 0) (.f 3)),
    sPush (xBin (bSub 7 18446744073709551616) (.c (.c (.i 7 64))) (.f 3)),
    sPush (xBin (bShr 7 18446744073709551616) (.f 0) (.l 0)),
    sPush (xBin (bOr 7) (.l 2) (.l 0)),
    sSet 2 (xMov (.l 0))]))
  cRet))),
  [.v (.f 2)], 2⟩
def m254 : List (Nat × Nat) := [(0, 0), (2, 1), (4, 2)]
/-- (*legate/speck.Key).words -/
noncomputable def u254 : Fu := ⟨(cSeq (cReg (regC [sSet 1 (xMov (.c (.c (.o (.ns)))))]))
  (cSeq (cSeq (cReg (regC [sSet 2 (xBin (bEqN 0) (.f 0) (.c (.c (.o (.np)))))]))
  (cCond (.f 2) (cSeq (cReg (regC [sSet 1 (xMov (.c (.c (.o (.ns)))))]))
  cRet) cSkip))
  (cSeq (cReg (regC [sPush (xChk (.f 0)),
    sPush (xFld (.l 0) 16),
    sPush (xMkf 266 [(.f 0)] []),
    sPush (xCalF 265 [(.l 1), (.l 0)])]))
  (cSeq (cReg (regC [sPush (xChk (.f 0)),
    sPush (xFld (.l 0) 19),
    sPush (xCutA 27 1 (.l 0) none none),
    sSet 1 (xMov (.l 0))]))
  cRet)))),
  [.v (.f 1)], 1⟩
def m255 : List (Nat × Nat) := [(0, 0), (1, 1), (4, 2), (5, 3)]
/-- math/bits.RotateLeft32 -/
noncomputable def u255 : Fu := ⟨(cSeq (cReg (regC [sSet 2 (xMov (.c (.c (.i 6 0))))]))
  (cSeq (cReg (regC [sPush (xCvi 3 18446744073709551616 9223372036854775808 7 18446744073709551616 (.f 1)),
    sPush (xBin (bAnd 7) (.l 0) (.c (.c (.i 7 31)))),
    sSet 3 (xMov (.l 0))]))
  (cSeq (cReg (regC [sPush (xBin (bShl 6 4294967296) (.f 0) (.f 3)),
    sPush (xBin (bSub 7 18446744073709551616) (.c (.c (.i 7 32))) (.f 3)),
    sPush (xBin (bShr 6 4294967296) (.f 0) (.l 0)),
    sPush (xBin (bOr 6) (.l 2) (.l 0)),
    sSet 2 (xMov (.l 0))]))
  cRet))),
  [.v (.f 2)], 2⟩
def m256 : List (Nat × Nat) := [(0, 0), (1, 1), (2, 2), (6, 3), (7, 4), (8, 5), (10, 6), (11, 7), (12, 8), (19, 9)]
/-- strings.indexFunc -/
noncomputable def u256 : Fu := ⟨(cSeq (cReg (regC [sSet 3 (xMov (.c (.c (.i 3 0))))]))
  (cSeq (cSeq (cReg (regC [sSet 6 (xRng (.f 0))]))
  (cBlock 0 (cLoop (cSeq (cReg (regC [sSet 7 (xNxt (.f 6)),
    sSet 8 (xExt (.f 7) 0)]))
  (cSeq (cCond (.f 8) cSkip (cExit 0))
  (cBlock 1 (cSeq (cReg (regC [sPush (xExt (.f 7) 1),
    sPush (xExt (.f 7) 2),
    sSet 4 (xMov (.l 1)),
    sSet 5 (xMov (.l 0))]))
  (cSeq (cReg (regC [sPush (xCal (.f 1) [(.f 5)]),
    sSet 9 (xBin (bEq 2) (.l 0) (.f 2))]))
  (cCond (.f 9) (cSeq (cReg (regC [sSet 3 (xMov (.f 4))]))
  cRet) cSkip)))))))))
  (cSeq (cReg (regC [sSet 3 (xMov (.c (.c (.i 3 18446744073709551615))))]))
  cRet))),
  [.v (.f 3)], 3⟩
def m257 : List (Nat × Nat) := [(0, 0), (2, 1), (4, 2), (6, 3)]
/-- unicode/utf8.RuneCountInString -/
noncomputable def u257 : Fu := ⟨(cSeq (cReg (regC [sSet 1 (xMov (.c (.c (.i 3 0))))]))
  (cSeq (cSeq (cReg (regC [sSet 2 (xRng (.f 0))]))
  (cBlock 0 (cLoop (cSeq (cReg (regC [sPush (xNxt (.f 2)),
    sSet 3 (xExt (.l 0) 0)]))
  (cSeq (cCond (.f 3) cSkip (cExit 0))
  (cBlock 1 (cReg (regC [sPush (xBin (bAdd 3 18446744073709551616) (.f 1) (.c (.c (.i 3 1)))),
    sSet 1 (xMov (.l 0))]))))))))
  (cSeq (cReg (regC [sSet 1 (xMov (.f 1))]))
  cRet))),
  [.v (.f 1)], 1⟩
def m259 : List (Nat × Nat) := [(0, 0), (1, 1), (4, 2), (5, 3), (6, 4), (7, 5), (8, 6), (9, 7), (10, 8), (11, 9), (12, 10), (13, 11), (16, 12), (24, 13), (31, 14), (36, 15), (59, 16), (64, 17), (73, 18), (93, 19), (107, 20), (114, 21), (132, 22), (139, 23)]
/-- internal/stringslite.Index -/
noncomputable def u259 : Fu := ⟨(cSeq (cReg (regC [sSet 2 (xMov (.c (.c (.i 3 0))))]))
  (cSeq (cReg (regC [sPush (xLenT (.f 1)),
    sSet 3 (xMov (.l 0))]))
  (cSeq (cBlock 0 (cSeq (cReg (regC [sPush (xBin (bEq 0) (.f 3) (.c (.c (.i 3 0)))),
    sIf (.l 0) false (sPush (xMov (.f 1))) (sPush (xMov (.c udf))),
    sIf (.l 1) false (sPush (xMov (.f 0))) (sPush (xMov (.c udf))),
    sIf (.l 2) false (sPush (xBin (bEq 1) (.l 1) (.l 0))) (sPush (xMov (.c udf))),
    sPush (xPick (.l 3) (.c (.c (.o (.b true)))) (.l 0)),
    sSet 12 (xMov (.l 0))]))
  (cCond (.f 12) (cSeq (cReg (regC [sSet 2 (xMov (.c (.c (.i 3 0))))]))
  cRet) (cSeq (cReg (regC [sPush (xBin (bEq 0) (.f 3) (.c (.c (.i 3 1)))),
    sSet 13 (xMov (.l 0))]))
  (cCond (.f 13) (cSeq (cReg (regC [sPush (xIxT (.f 1) (.c (.c (.i 3 0)))),
    sPush (xCalF 267 [(.f 0), (.l 0)]),
    sSet 2 (xMov (.l 0))]))
  cRet) (cSeq (cReg (regC [sPush (xLenT (.f 0)),
    sPush (xBin (bGeq 3 18446744073709551616 9223372036854775808) (.f 3) (.l 0)),
    sSet 14 (xMov (.l 0))]))
  (cCond (.f 14) (cSeq (cReg (regC [sSet 2 (xMov (.c (.c (.i 3 18446744073709551615))))]))
  cRet) (cSeq (cReg (regC [sPush (xLd1 (.c (.c (.o (.raw (.pointer (some ⟨2, 0, none⟩))))))),
    sPush (xBin (bLeq 3 18446744073709551616 9223372036854775808) (.f 3) (.l 0)),
    sIf (.l 0) true (sPush (xMov (.f 0))) (sPush (xMov (.c udf))),
    sIf (.l 1) true (sPush (xLenT (.l 0))) (sPush (xMov (.c udf))),
    sIf (.l 2) true (sPush (xBin (bLeq 3 18446744073709551616 9223372036854775808) (.l 0) (.c (.c (.i 3 64))))) (sPush (xMov (.c udf))),
    sPush (xPick (.l 3) (.l 0) (.c (.c (.o (.b false))))),
    sSet 15 (xMov (.l 0))]))
  (cCond (.f 15) (cSeq (cReg (regC [sPush (xCalF 264 [(.f 0), (.f 1)]),
    sSet 2 (xMov (.l 0))]))
  cRet) cSkip)))))))))
  (cSeq (cReg (regC [sPush (xIxT (.f 1) (.c (.c (.i 3 0)))),
    sSet 4 (xMov (.l 0))]))
  (cSeq (cReg (regC [sPush (xIxT (.f 1) (.c (.c (.i 3 1)))),
    sSet 5 (xMov (.l 0))]))
  (cSeq (cReg (regC [sSet 6 (xMov (.c (.c (.i 3 0))))]))
  (cSeq (cReg (regC [sPush (xLenT (.f 0)),
    sPush (xBin (bSub 3 18446744073709551616) (.l 0) (.f 3)),
    sPush (xBin (bAdd 3 18446744073709551616) (.l 0) (.c (.c (.i 3 1)))),
    sSet 7 (xMov (.l 0))]))
  (cSeq (cReg (regC [sSet 8 (xMov (.c (.c (.i 3 0))))]))
  (cSeq (cBlock 1 (cLoop (cSeq (cSeq (cReg (regC [sSet 16 (xBin (bLss 3 18446744073709551616 9223372036854775808) (.f 6) (.f 7))]))
  (cCond (.f 16) cSkip (cExit 1)))
  (cBlock 2 (cSeq (cSeq (cReg (regC [sPush (xIxT (.f 0) (.f 6)),
    sSet 17 (xBin (bNe 0) (.l 0) (.f 4))]))
  (cCond (.f 17) (cSeq (cReg (regC [sPush (xBin (bAdd 3 18446744073709551616) (.f 6) (.c (.c (.i 3 1)))),
    sPush (xCutT (.f 0) (some (.l 0)) (some (.f 7))),
    sPush (xCalF 267 [(.l 0), (.f 4)]),
    sSet 9 (xMov (.l 0))]))
  (cSeq (cSeq (cReg (regC [sSet 18 (xBin (bLss 3 18446744073709551616 9223372036854775808) (.f 9) (.c (.c (.i 3 0))))]))
  (cCond (.f 18) (cSeq (cReg (regC [sSet 2 (xMov (.c (.c (.i 3 18446744073709551615))))]))
  cRet) cSkip))
  (cReg (regC [sPush (xBin (bAdd 3 18446744073709551616) (.f 9) (.c (.c (.i 3 1)))),
    sPush (xBin (bAdd 3 18446744073709551616) (.f 6) (.l 0)),
    sSet 6 (xMov (.l 0))])))) cSkip))
  (cSeq (cSeq (cReg (regC [sPush (xBin (bAdd 3 18446744073709551616) (.f 6) (.c (.c (.i 3 1)))),
    sPush (xIxT (.f 0) (.l 0)),
    sPush (xBin (bEq 0) (.l 0) (.f 5)),
    sIf (.l 0) true (sPush (xMov (.f 0))) (sPush (xMov (.c udf))),
    sIf (.l 1) true (sPush (xMov (.f 6))) (sPush (xMov (.c udf))),
    sIf (.l 2) true (sPush (xMov (.f 6))) (sPush (xMov (.c udf))),
    sIf (.l 3) true (sPush (xMov (.f 3))) (sPush (xMov (.c udf))),
    sIf (.l 4) true (sPush (xBin (bAdd 3 18446744073709551616) (.l 1) (.l 0))) (sPush (xMov (.c udf))),
    sIf (.l 5) true (sPush (xCutT (.l 4) (some (.l 3)) (some (.l 0)))) (sPush (xMov (.c udf))),
    sIf (.l 6) true (sPush (xMov (.f 1))) (sPush (xMov (.c udf))),
    sIf (.l 7) true (sPush (xBin (bEq 1) (.l 1) (.l 0))) (sPush (xMov (.c udf))),
    sSet 19 (xPick (.l 8) (.l 0) (.c (.c (.o (.b false)))))]))
  (cCond (.f 19) (cSeq (cReg (regC [sSet 2 (xMov (.f 6))]))
  cRet) cSkip))
  (cSeq (cReg (regC [sPush (xBin (bAdd 3 18446744073709551616) (.f 6) (.c (.c (.i 3 1)))),
    sSet 6 (xMov (.l 0))]))
  (cSeq (cReg (regC [sPush (xBin (bAdd 3 18446744073709551616) (.f 8) (.c (.c (.i 3 1)))),
    sSet 8 (xMov (.l 0))]))
  (cSeq (cReg (regC [sPush (xLd1 (.c (.c (.o (.raw (.pointer (some ⟨2, 0, none⟩))))))),
    sPush (xBin (bLeq 3 18446744073709551616 9223372036854775808) (.f 3) (.l 0)),
    sIf (.l 0) true (sPush (xMov (.f 8))) (sPush (xMov (.c udf))),
    sIf (.l 1) true (sPush (xMov (.f 6))) (sPush (xMov (.c udf))),
    sIf (.l 2) true (sPush (xCalF 263 [(.l 0)])) (sPush (xMov (.c udf))),
    sIf (.l 3) true (sPush (xBin (bGtr 3 18446744073709551616 9223372036854775808) (.l 2) (.l 0))) (sPush (xMov (.c udf))),
    sSet 20 (xPick (.l 4) (.l 0) (.c (.c (.o (.b false)))))]))
  (cCond (.f 20) (cSeq (cReg (regC [sPush (xCutT (.f 0) (some (.f 6)) none),
    sPush (xCalF 264 [(.l 0), (.f 1)]),
    sSet 10 (xMov (.l 0))]))
  (cSeq (cSeq (cReg (regC [sSet 21 (xBin (bGeq 3 18446744073709551616 9223372036854775808) (.f 10) (.c (.c (.i 3 0))))]))
  (cCond (.f 21) (cSeq (cReg (regC [sPush (xBin (bAdd 3 18446744073709551616) (.f 10) (.f 6)),
    sSet 2 (xMov (.l 0))]))
  cRet) cSkip))
  (cSeq (cReg (regC [sSet 2 (xMov (.c (.c (.i 3 18446744073709551615))))]))
  cRet))) (cSeq (cReg (regC [sPush (xLd1 (.c (.c (.o (.raw (.pointer (some ⟨2, 0, none⟩))))))),
    sPush (xBin (bGtr 3 18446744073709551616 9223372036854775808) (.f 3) (.l 0)),
    sIf (.l 0) true (sPush (xMov (.f 8))) (sPush (xMov (.c udf))),
    sIf (.l 1) true (sPush (xMov (.f 6))) (sPush (xMov (.c udf))),
    sIf (.l 2) true (sPush (xBin (bShr 3 9223372036854775808) (.l 0) (.c (.c (.i 7 4))))) (sPush (xMov (.c udf))),
    sIf (.l 3) true (sPush (xBin (bAdd 3 18446744073709551616) (.c (.c (.i 3 4))) (.l 0))) (sPush (xMov (.c udf))),
    sIf (.l 4) true (sPush (xBin (bGeq 3 18446744073709551616 9223372036854775808) (.l 3) (.l 0))) (sPush (xMov (.c udf))),
    sPush (xPick (.l 5) (.l 0) (.c (.c (.o (.b false))))),
    sIf (.l 0) true (sPush (xMov (.f 6))) (sPush (xMov (.c udf))),
    sIf (.l 1) true (sPush (xMov (.f 7))) (sPush (xMov (.c udf))),
    sIf (.l 2) true (sPush (xBin (bLss 3 18446744073709551616 9223372036854775808) (.l 1) (.l 0))) (sPush (xMov (.c udf))),
    sSet 22 (xPick (.l 3) (.l 0) (.c (.c (.o (.b false)))))]))
  (cCond (.f 22) (cSeq (cReg (regC [sPush (xCutT (.f 0) (some (.f 6)) none),
    sPush (xCalF 268 [(.l 0), (.f 1)]),
    sSet 11 (xMov (.l 0))]))
  (cSeq (cSeq (cReg (regC [sSet 23 (xBin (bLss 3 18446744073709551616 9223372036854775808) (.f 11) (.c (.c (.i 3 0))))]))
  (cCond (.f 23) (cSeq (cReg (regC [sSet 2 (xMov (.c (.c (.i 3 18446744073709551615))))]))
  cRet) cSkip))
  (cSeq (cReg (regC [sPush (xBin (bAdd 3 18446744073709551616) (.f 6) (.f 11)),
    sSet 2 (xMov (.l 0))]))
  cRet))) cSkip))))))))))))
  (cSeq (cReg (regC [sSet 2 (xMov (.c (.c (.i 3 18446744073709551615))))]))
  cRet)))))))))),
  [.v (.f 2)], 2⟩
def m260 : List (Nat × Nat) := [(0, 0), (1, 1), (4, 2), (5, 3), (7, 4), (8, 5), (10, 6), (12, 7), (13, 8), (15, 9), (22, 10), (29, 11), (39, 12), (40, 13), (41, 14), (42, 15), (49, 16), (63, 17), (64, 18), (65, 19), (66, 20)]
/-- strings.Join -/
noncomputable def u260 : Fu := ⟨(cSeq (cReg (regC [sSet 2 (xMov (.c (.c (.o (.s [])))))]))
  (cSeq (cSeq (cReg (regC [sSet 7 (xLen (.f 0))]))
  (cBlock 0 (cSeq (cReg (regC [sPush (xBin (bEq 0) (.f 7) (.c (.c (.i 3 0)))),
    sSet 8 (xMov (.l 0))]))
  (cCond (.f 8) (cSeq (cReg (regC [sSet 2 (xMov (.c (.c (.o (.s [])))))]))
  cRet) (cSeq (cReg (regC [sPush (xBin (bEq 0) (.f 7) (.c (.c (.i 3 1)))),
    sSet 9 (xMov (.l 0))]))
  (cCond (.f 9) (cSeq (cReg (regC [sPush (xIxS 1 (.f 0) (.c (.c (.i 3 0)))),
    sPush (xLd1 (.l 0)),
    sSet 2 (xMov (.l 0))]))
  cRet) cSkip))))))
  (cSeq (cReg (regC [sSet 3 (xMov (.c (.c (.i 3 0))))]))
  (cSeq (cSeq (cReg (regC [sPush (xLenT (.f 1)),
    sSet 10 (xBin (bGtr 3 18446744073709551616 9223372036854775808) (.l 0) (.c (.c (.i 3 0))))]))
  (cCond (.f 10) (cSeq (cSeq (cReg (regC [sPush (xLenT (.f 1)),
    sPush (xLen (.f 0)),
    sPush (xBin (bSub 3 18446744073709551616) (.l 0) (.c (.c (.i 3 1)))),
    sPush (xBin (bQuo 3 9223372036854775808) (.c (.c (.i 3 9223372036854775807))) (.l 0)),
    sSet 11 (xBin (bGeq 3 18446744073709551616 9223372036854775808) (.l 3) (.l 0))]))
  (cCond (.f 11) (cReg (regC [sPush (xBad),
    sDo (xBad)])) cSkip))
  (cReg (regC [sPush (xLenT (.f 1)),
    sPush (xLen (.f 0)),
    sPush (xBin (bSub 3 18446744073709551616) (.l 0) (.c (.c (.i 3 1)))),
    sPush (xBin (bMul 3 18446744073709551616) (.l 2) (.l 0)),
    sPush (xBin (bAdd 3 18446744073709551616) (.f 3) (.l 0)),
    sSet 3 (xMov (.l 0))]))) cSkip))
  (cSeq (cSeq (cReg (regC [sSet 12 (xMov (.f 0)),
    sSet 13 (xLen (.f 12)),
    sSet 14 (xMov (.c (.c (.i 3 0))))]))
  (cBlock 1 (cLoop (cSeq (cReg (regC [sSet 15 (xBin (bLss 3 18446744073709551616 9223372036854775808) (.f 14) (.f 13))]))
  (cSeq (cCond (.f 15) cSkip (cExit 1))
  (cSeq (cBlock 2 (cSeq (cReg (regC [sPush (xIxS 1 (.f 12) (.f 14)),
    sPush (xLd1 (.l 0)),
    sSet 4 (xMov (.l 0))]))
  (cSeq (cSeq (cReg (regC [sPush (xLenT (.f 4)),
    sPush (xBin (bSub 3 18446744073709551616) (.c (.c (.i 3 9223372036854775807))) (.f 3)),
    sSet 16 (xBin (bGtr 3 18446744073709551616 9223372036854775808) (.l 1) (.l 0))]))
  (cCond (.f 16) (cReg (regC [sPush (xBad),
    sDo (xBad)])) cSkip))
  (cReg (regC [sPush (xLenT (.f 4)),
    sPush (xBin (bAdd 3 18446744073709551616) (.f 3) (.l 0)),
    sSet 3 (xMov (.l 0))])))))
  (cReg (regC [sPush (xBin (bAdd 3 18446744073709551616) (.f 14) (.c (.c (.i 3 1)))),
    sSet 14 (xMov (.l 0))]))))))))
  (cSeq (cReg (regC [sSet 5 (xAlc 354 [.o (.np), .o (.ns)])]))
  (cSeq (cReg (regC [sPush (xCalF 269 [(.f 5), (.f 3)])]))
  (cSeq (cReg (regC [sPush (xIxS 1 (.f 0) (.c (.c (.i 3 0)))),
    sPush (xLd1 (.l 0)),
    sPush (xCalF 270 [(.f 5), (.l 0)])]))
  (cSeq (cSeq (cReg (regC [sSet 17 (xCutL 1 (.f 0) (some (.c (.c (.i 3 1)))) none),
    sSet 18 (xLen (.f 17)),
    sSet 19 (xMov (.c (.c (.i 3 0))))]))
  (cBlock 3 (cLoop (cSeq (cReg (regC [sSet 20 (xBin (bLss 3 18446744073709551616 9223372036854775808) (.f 19) (.f 18))]))
  (cSeq (cCond (.f 20) cSkip (cExit 3))
  (cSeq (cBlock 4 (cSeq (cReg (regC [sPush (xIxS 1 (.f 17) (.f 19)),
    sPush (xLd1 (.l 0)),
    sSet 6 (xMov (.l 0))]))
  (cSeq (cReg (regC [sPush (xCalF 270 [(.f 5), (.f 1)])]))
  (cReg (regC [sPush (xCalF 270 [(.f 5), (.f 6)])])))))
  (cReg (regC [sPush (xBin (bAdd 3 18446744073709551616) (.f 19) (.c (.c (.i 3 1)))),
    sSet 19 (xMov (.l 0))]))))))))
  (cSeq (cReg (regC [sPush (xCalF 271 [(.f 5)]),
    sSet 2 (xMov (.l 0))]))
  cRet)))))))))),
  [.v (.f 2)], 2⟩
def m261 : List (Nat × Nat) := [(0, 0), (1, 1), (4, 2)]
/-- strings.IndexByte -/
noncomputable def u261 : Fu := ⟨(cSeq (cReg (regC [sSet 2 (xMov (.c (.c (.i 3 0))))]))
  (cSeq (cReg (regC [sPush (xCalF 267 [(.f 0), (.f 1)]),
    sSet 2 (xMov (.l 0))]))
  cRet)),
  [.v (.f 2)], 2⟩
def m262 : List (Nat × Nat) := [(0, 0), (2, 1), (3, 2), (10, 3)]
/-- unicode/utf8.ValidRune -/
noncomputable def u262 : Fu := ⟨(cSeq (cReg (regC [sSet 1 (xMov (.c (.c (.o (.b false)))))]))
  (cSeq (cBlock 0 (cSeq (cReg (regC [sPush (xBin (bLeq 2 4294967296 2147483648) (.c (.c (.i 2 0))) (.f 0)),
    sIf (.l 0) true (sPush (xMov (.f 0))) (sPush (xMov (.c udf))),
    sIf (.l 1) true (sPush (xBin (bLss 2 4294967296 2147483648) (.l 0) (.c (.c (.i 2 55296))))) (sPush (xMov (.c udf))),
    sPush (xPick (.l 2) (.l 0) (.c (.c (.o (.b false))))),
    sSet 2 (xMov (.l 0))]))
  (cCond (.f 2) (cSeq (cReg (regC [sSet 1 (xMov (.c (.c (.o (.b true)))))]))
  cRet) (cSeq (cReg (regC [sPush (xBin (bLss 2 4294967296 2147483648) (.c (.c (.i 2 57343))) (.f 0)),
    sIf (.l 0) true (sPush (xMov (.f 0))) (sPush (xMov (.c udf))),
    sIf (.l 1) true (sPush (xBin (bLeq 2 4294967296 2147483648) (.l 0) (.c (.c (.i 2 1114111))))) (sPush (xMov (.c udf))),
    sPush (xPick (.l 2) (.l 0) (.c (.c (.o (.b false))))),
    sSet 3 (xMov (.l 0))]))
  (cCond (.f 3) (cSeq (cReg (regC [sSet 1 (xMov (.c (.c (.o (.b true)))))]))
  cRet) cSkip)))))
  (cSeq (cReg (regC [sSet 1 (xMov (.c (.c (.o (.b false)))))]))
  cRet))),
  [.v (.f 1)], 1⟩
def m263 : List (Nat × Nat) := [(0, 0), (2, 1)]
/-- internal/bytealg.Cutover -/
noncomputable def u263 : Fu := ⟨(cSeq (cReg (regC [sSet 1 (xMov (.c (.c (.i 3 0))))]))
  (cSeq (cReg (regC [sPush (xBin (bAdd 3 18446744073709551616) (.f 0) (.c (.c (.i 3 16)))),
    sPush (xBin (bQuo 3 9223372036854775808) (.l 0) (.c (.c (.i 3 8)))),
    sSet 1 (xMov (.l 0))]))
  cRet)),
  [.v (.f 1)], 1⟩
def m265 : List (Nat × Nat) := [(0, 0), (1, 1), (8, 2)]
/-- (*sync.Once).Do -/
noncomputable def u265 : Fu := ⟨(cSeq (cReg (regC [sPush (xChk (.f 0)),
    sPush (xFld (.l 0) 0),
    sPush (xCalF 272 [(.l 0)]),
    sSet 2 (xNot (.l 0))]))
  (cCond (.f 2) (cReg (regC [sPush (xCalF 273 [(.f 0), (.f 1)])])) cSkip)),
  [], 2⟩
def m266 : List (Nat × Nat) := [(0, 0), (2, 1), (3, 2), (4, 3), (5, 4), (6, 5), (7, 6), (8, 7), (12, 8), (13, 9), (14, 10), (33, 11), (34, 12)]
/-- (*legate/speck.Key).make -/
noncomputable def u266 : Fu := ⟨(cSeq (cReg (regC [sSet 1 (xAlc 264 [.i 6 0, .i 6 0, .i 6 0, .i 6 0])]))
  (cSeq (cSeq (cReg (regC [sPush (xChk (.f 0)),
    sPush (xFld (.l 0) 0),
    sSet 8 (xLdA 16 (.l 0)),
    sSet 9 (xMov (.c (.c (.i 3 0))))]))
  (cBlock 0 (cLoop (cSeq (cReg (regC [sSet 10 (xBin (bLss 3 18446744073709551616 9223372036854775808) (.f 9) (.c (.c (.i 3 16))))]))
  (cSeq (cCond (.f 10) cSkip (cExit 0))
  (cSeq (cBlock 1 (cSeq (cReg (regC [sPush (xIxG 16 (.f 8) (.f 9)),
    sSet 2 (xMov (.f 9)),
    sSet 3 (xMov (.l 0))]))
  (cReg (regC [sPush (xBin (bQuo 3 9223372036854775808) (.f 2) (.c (.c (.i 3 4)))),
    sPush (xIxA 4 1 (.f 1) (.l 0)),
    sPush (xLd1 (.l 0)),
    sPush (xCvi 4 256 256 6 4294967296 (.f 3)),
    sPush (xBin (bRem 3 9223372036854775808) (.f 2) (.c (.c (.i 3 4)))),
    sPush (xBin (bMul 3 18446744073709551616) (.c (.c (.i 3 8))) (.l 0)),
    sPush (xBin (bShl 6 4294967296) (.l 2) (.l 0)),
    sPush (xBin (bOr 6) (.l 4) (.l 0)),
    sPush (xIxA 4 1 (.f 1) (.l 7)),
    sDo (xSt1 (.l 0) (.l 1))]))))
  (cReg (regC [sPush (xBin (bAdd 3 18446744073709551616) (.f 9) (.c (.c (.i 3 1)))),
    sSet 9 (xMov (.l 0))]))))))))
  (cSeq (cReg (regC [sPush (xIxA 4 1 (.f 1) (.c (.c (.i 3 0)))),
    sPush (xLd1 (.l 0)),
    sPush (xCutA 4 1 (.f 1) (some (.c (.c (.i 3 1)))) none),
    sSet 4 (xMov (.l 1)),
    sSet 5 (xMov (.l 0))]))
  (cSeq (cSeq (cReg (regC [sSet 11 (xMov (.c (.c (.i 3 0))))]))
  (cBlock 2 (cLoop (cSeq (cReg (regC [sSet 12 (xBin (bLss 3 18446744073709551616 9223372036854775808) (.f 11) (.c (.c (.i 3 27))))]))
  (cSeq (cCond (.f 12) cSkip (cExit 2))
  (cSeq (cBlock 3 (cSeq (cReg (regC [sSet 6 (xMov (.f 11))]))
  (cSeq (cReg (regC [sPush (xChk (.f 0)),
    sPush (xFld (.l 0) 19),
    sPush (xIxA 27 1 (.l 0) (.f 6)),
    sDo (xSt1 (.l 0) (.f 4))]))
  (cSeq (cReg (regC [sPush (xIxS 1 (.f 5) (.c (.c (.i 3 0)))),
    sPush (xLd1 (.l 0)),
    sPush (xCalF 255 [(.l 0), (.c (.c (.i 3 18446744073709551608)))]),
    sPush (xBin (bAdd 6 4294967296) (.f 4) (.l 0)),
    sPush (xCvi 3 18446744073709551616 9223372036854775808 6 4294967296 (.f 6)),
    sPush (xBin (bXor 6) (.l 1) (.l 0)),
    sSet 7 (xMov (.l 0))]))
  (cSeq (cReg (regC [sPush (xCalF 255 [(.f 4), (.c (.c (.i 3 3)))]),
    sPush (xBin (bXor 6) (.l 0) (.f 7)),
    sSet 4 (xMov (.l 0))]))
  (cReg (regC [sPush (xCutL 1 (.f 5) (some (.c (.c (.i 3 1)))) none),
    sPush (xBls 221 1 [.i 6 0] [.mk 0 1 (.f 7)]),
    sPush (xApp 221 1 (.l 1) (.l 0)),
    sSet 5 (xMov (.l 0))])))))))
  (cReg (regC [sPush (xBin (bAdd 3 18446744073709551616) (.f 11) (.c (.c (.i 3 1)))),
    sSet 11 (xMov (.l 0))]))))))))
  (cReg (regC [sPush (xChk (.f 0)),
    sPush (xFld (.l 0) 46),
    sPush (xCalF 274 [(.l 0), (.c (.c (.o (.b true))))])])))))),
  [], 1⟩
def m267 : List (Nat × Nat) := [(0, 0), (1, 1), (4, 2)]
/-- internal/stringslite.IndexByte -/
noncomputable def u267 : Fu := ⟨(cSeq (cReg (regC [sSet 2 (xMov (.c (.c (.i 3 0))))]))
  (cSeq (cReg (regC [sPush (xCalF 275 [(.f 0), (.f 1)]),
    sSet 2 (xMov (.l 0))]))
  cRet)),
  [.v (.f 2)], 2⟩
def m268 : List (Nat × Nat) := [(0, 0), (1, 1), (4, 2), (5, 3), (6, 4), (7, 5), (8, 6), (9, 7), (10, 8), (20, 9), (39, 10), (44, 11), (77, 12)]
/-- internal/bytealg.IndexRabinKarp[string] -/
noncomputable def u268 : Fu := ⟨(cSeq (cReg (regC [sSet 2 (xMov (.c (.c (.i 3 0))))]))
  (cSeq (cReg (regC [sPush (xCalF 276 [(.f 1)]),
    sPush (xExt (.l 0) 0),
    sPush (xExt (.l 1) 1),
    sSet 3 (xMov (.l 1)),
    sSet 4 (xMov (.l 0))]))
  (cSeq (cReg (regC [sPush (xLenT (.f 1)),
    sSet 5 (xMov (.l 0))]))
  (cSeq (cReg (regC [sSet 6 (xMov (.c (.c (.i 6 0))))]))
  (cSeq (cSeq (cReg (regC [sSet 7 (xMov (.c (.c (.i 3 0))))]))
  (cBlock 0 (cLoop (cSeq (cSeq (cReg (regC [sSet 9 (xBin (bLss 3 18446744073709551616 9223372036854775808) (.f 7) (.f 5))]))
  (cCond (.f 9) cSkip (cExit 0)))
  (cSeq (cBlock 1 (cReg (regC [sPush (xBin (bMul 6 4294967296) (.f 6) (.c (.c (.i 6 16777619)))),
    sPush (xIxT (.f 0) (.f 7)),
    sPush (xCvi 4 256 256 6 4294967296 (.l 0)),
    sPush (xBin (bAdd 6 4294967296) (.l 2) (.l 0)),
    sSet 6 (xMov (.l 0))])))
  (cReg (regC [sPush (xBin (bAdd 3 18446744073709551616) (.f 7) (.c (.c (.i 3 1)))),
    sSet 7 (xMov (.l 0))])))))))
  (cSeq (cSeq (cReg (regC [sPush (xBin (bEq 0) (.f 6) (.f 3)),
    sIf (.l 0) true (sPush (xMov (.f 0))) (sPush (xMov (.c udf))),
    sIf (.l 1) true (sPush (xMov (.f 5))) (sPush (xMov (.c udf))),
    sIf (.l 2) true (sPush (xCutT (.l 1) none (some (.l 0)))) (sPush (xMov (.c udf))),
    sIf (.l 3) true (sPush (xMov (.f 1))) (sPush (xMov (.c udf))),
    sIf (.l 4) true (sPush (xBin (bEq 1) (.l 1) (.l 0))) (sPush (xMov (.c udf))),
    sSet 10 (xPick (.l 5) (.l 0) (.c (.c (.o (.b false)))))]))
  (cCond (.f 10) (cSeq (cReg (regC [sSet 2 (xMov (.c (.c (.i 3 0))))]))
  cRet) cSkip))
  (cSeq (cSeq (cReg (regC [sSet 8 (xMov (.f 5))]))
  (cBlock 2 (cLoop (cSeq (cSeq (cReg (regC [sPush (xLenT (.f 0)),
    sSet 11 (xBin (bLss 3 18446744073709551616 9223372036854775808) (.f 8) (.l 0))]))
  (cCond (.f 11) cSkip (cExit 2)))
  (cBlock 3 (cSeq (cReg (regC [sPush (xBin (bMul 6 4294967296) (.f 6) (.c (.c (.i 6 16777619)))),
    sSet 6 (xMov (.l 0))]))
  (cSeq (cReg (regC [sPush (xIxT (.f 0) (.f 8)),
    sPush (xCvi 4 256 256 6 4294967296 (.l 0)),
    sPush (xBin (bAdd 6 4294967296) (.f 6) (.l 0)),
    sSet 6 (xMov (.l 0))]))
  (cSeq (cReg (regC [sPush (xBin (bSub 3 18446744073709551616) (.f 8) (.f 5)),
    sPush (xIxT (.f 0) (.l 0)),
    sPush (xCvi 4 256 256 6 4294967296 (.l 0)),
    sPush (xBin (bMul 6 4294967296) (.f 4) (.l 0)),
    sPush (xBin (bSub 6 4294967296) (.f 6) (.l 0)),
    sSet 6 (xMov (.l 0))]))
  (cSeq (cReg (regC [sPush (xBin (bAdd 3 18446744073709551616) (.f 8) (.c (.c (.i 3 1)))),
    sSet 8 (xMov (.l 0))]))
  (cSeq (cReg (regC [sPush (xBin (bEq 0) (.f 6) (.f 3)),
    sIf (.l 0) true (sPush (xMov (.f 0))) (sPush (xMov (.c udf))),
    sIf (.l 1) true (sPush (xMov (.f 8))) (sPush (xMov (.c udf))),
    sIf (.l 2) true (sPush (xMov (.f 5))) (sPush (xMov (.c udf))),
    sIf (.l 3) true (sPush (xBin (bSub 3 18446744073709551616) (.l 1) (.l 0))) (sPush (xMov (.c udf))),
    sIf (.l 4) true (sPush (xMov (.f 8))) (sPush (xMov (.c udf))),
    sIf (.l 5) true (sPush (xCutT (.l 4) (some (.l 1)) (some (.l 0)))) (sPush (xMov (.c udf))),
    sIf (.l 6) true (sPush (xMov (.f 1))) (sPush (xMov (.c udf))),
    sIf (.l 7) true (sPush (xBin (bEq 1) (.l 1) (.l 0))) (sPush (xMov (.c udf))),
    sSet 12 (xPick (.l 8) (.l 0) (.c (.c (.o (.b false)))))]))
  (cCond (.f 12) (cSeq (cReg (regC [sPush (xBin (bSub 3 18446744073709551616) (.f 8) (.f 5)),
    sSet 2 (xMov (.l 0))]))
  cRet) cSkip)))))))))))
  (cSeq (cReg (regC [sSet 2 (xMov (.c (.c (.i 3 18446744073709551615))))]))
  cRet)))))))),
  [.v (.f 2)], 2⟩
def m272 : List (Nat × Nat) := [(0, 0), (2, 1)]
/-- (*sync/atomic.Bool).Load -/
noncomputable def u272 : Fu := ⟨(cSeq (cReg (regC [sSet 1 (xMov (.c (.c (.o (.b false)))))]))
  (cSeq (cReg (regC [sPush (xChk (.f 0)),
    sPush (xFld (.l 0) 0),
    sPush (xCalF 279 [(.l 0)]),
    sPush (xBin (bNe 0) (.l 0) (.c (.c (.i 6 0)))),
    sSet 1 (xMov (.l 0))]))
  cRet)),
  [.v (.f 1)], 1⟩
def m274 : List (Nat × Nat) := [(0, 0), (1, 1)]
/-- (*sync/atomic.Bool).Store -/
noncomputable def u274 : Fu := ⟨(cReg (regC [sPush (xChk (.f 0)),
    sPush (xFld (.l 0) 0),
    sPush (xCalF 283 [(.f 1)]),
    sPush (xCalF 282 [(.l 1), (.l 0)])])),
  [], 2⟩
def m276 : List (Nat × Nat) := [(0, 0), (2, 1), (3, 2), (4, 3), (5, 4), (6, 5), (7, 6), (8, 7), (12, 8), (25, 9), (30, 10)]
/-- internal/bytealg.hashStr[string] -/
noncomputable def u276 : Fu := ⟨(cSeq (cReg (regC [sSet 1 (xMov (.c (.c (.i 6 0)))),
    sSet 2 (xMov (.c (.c (.i 6 0))))]))
  (cSeq (cReg (regC [sSet 3 (xMov (.c (.c (.i 6 0))))]))
  (cSeq (cSeq (cReg (regC [sSet 4 (xMov (.c (.c (.i 3 0))))]))
  (cBlock 0 (cLoop (cSeq (cSeq (cReg (regC [sPush (xLenT (.f 0)),
    sSet 8 (xBin (bLss 3 18446744073709551616 9223372036854775808) (.f 4) (.l 0))]))
  (cCond (.f 8) cSkip (cExit 0)))
  (cSeq (cBlock 1 (cReg (regC [sPush (xBin (bMul 6 4294967296) (.f 3) (.c (.c (.i 6 16777619)))),
    sPush (xIxT (.f 0) (.f 4)),
    sPush (xCvi 4 256 256 6 4294967296 (.l 0)),
    sPush (xBin (bAdd 6 4294967296) (.l 2) (.l 0)),
    sSet 3 (xMov (.l 0))])))
  (cReg (regC [sPush (xBin (bAdd 3 18446744073709551616) (.f 4) (.c (.c (.i 3 1)))),
    sSet 4 (xMov (.l 0))])))))))
  (cSeq (cReg (regC [sSet 5 (xMov (.c (.c (.i 6 1)))),
    sSet 6 (xMov (.c (.c (.i 6 16777619))))]))
  (cSeq (cSeq (cReg (regC [sPush (xLenT (.f 0)),
    sSet 7 (xMov (.l 0))]))
  (cBlock 2 (cLoop (cSeq (cSeq (cReg (regC [sSet 9 (xBin (bGtr 3 18446744073709551616 9223372036854775808) (.f 7) (.c (.c (.i 3 0))))]))
  (cCond (.f 9) cSkip (cExit 2)))
  (cSeq (cBlock 3 (cSeq (cSeq (cReg (regC [sPush (xBin (bAnd 3) (.f 7) (.c (.c (.i 3 1)))),
    sSet 10 (xBin (bNe 0) (.l 0) (.c (.c (.i 3 0))))]))
  (cCond (.f 10) (cReg (regC [sPush (xBin (bMul 6 4294967296) (.f 5) (.f 6)),
    sSet 5 (xMov (.l 0))])) cSkip))
  (cReg (regC [sPush (xBin (bMul 6 4294967296) (.f 6) (.f 6)),
    sSet 6 (xMov (.l 0))]))))
  (cReg (regC [sPush (xBin (bShr 3 9223372036854775808) (.f 7) (.c (.c (.i 7 1)))),
    sSet 7 (xMov (.l 0))])))))))
  (cSeq (cReg (regC [sSet 1 (xMov (.f 3)),
    sSet 2 (xMov (.f 5))]))
  cRet)))))),
  [.v (.f 1), .v (.f 2)], 1⟩
def m283 : List (Nat × Nat) := [(0, 0), (2, 1), (3, 2)]
/-- sync/atomic.b32 -/
noncomputable def u283 : Fu := ⟨(cSeq (cReg (regC [sSet 1 (xMov (.c (.c (.i 6 0))))]))
  (cSeq (cSeq (cReg (regC [sSet 2 (xMov (.f 0))]))
  (cCond (.f 2) (cSeq (cReg (regC [sSet 1 (xMov (.c (.c (.i 6 1))))]))
  cRet) cSkip))
  (cSeq (cReg (regC [sSet 1 (xMov (.c (.c (.i 6 0))))]))
  cRet))),
  [.v (.f 1)], 1⟩
noncomputable def ft0000001 : Nat → Option Fx := fSplit 8 (fOne 7 (runF u7)) (fOne 8 (runF u8))
noncomputable def ft000000 : Nat → Option Fx := fSplit 7 (fOne 3 (runF u3)) ft0000001
noncomputable def ft0000010 : Nat → Option Fx := fSplit 10 (fOne 9 (runF u9)) (fOne 10 (runF u10))
noncomputable def ft0000011 : Nat → Option Fx := fSplit 12 (fOne 11 (runF u11)) (fOne 12 (runF u12))
noncomputable def ft000001 : Nat → Option Fx := fSplit 11 ft0000010 ft0000011
noncomputable def ft00000 : Nat → Option Fx := fSplit 9 ft000000 ft000001
noncomputable def ft0000100 : Nat → Option Fx := fSplit 19 (fOne 18 (runF u18)) (fOne 19 (runF u19))
noncomputable def ft0000101 : Nat → Option Fx := fSplit 21 (fOne 20 (runF u20)) (fOne 21 (runF u21))
noncomputable def ft000010 : Nat → Option Fx := fSplit 20 ft0000100 ft0000101
noncomputable def ft0000110 : Nat → Option Fx := fSplit 23 (fOne 22 (runF u22)) (fOne 23 (runF u23))
noncomputable def ft0000111 : Nat → Option Fx := fSplit 25 (fOne 24 (runF u24)) (fOne 25 (runF u25))
noncomputable def ft000011 : Nat → Option Fx := fSplit 24 ft0000110 ft0000111
noncomputable def ft00001 : Nat → Option Fx := fSplit 22 ft000010 ft000011
noncomputable def ft0000 : Nat → Option Fx := fSplit 18 ft00000 ft00001
noncomputable def ft0001001 : Nat → Option Fx := fSplit 28 (fOne 27 (runF u27)) (fOne 28 (runF u28))
noncomputable def ft000100 : Nat → Option Fx := fSplit 27 (fOne 26 (runF u26)) ft0001001
noncomputable def ft0001010 : Nat → Option Fx := fSplit 30 (fOne 29 (runF u29)) (fOne 30 (runF u30))
noncomputable def ft0001011 : Nat → Option Fx := fSplit 32 (fOne 31 (runF u31)) (fOne 32 (runF u32))
noncomputable def ft000101 : Nat → Option Fx := fSplit 31 ft0001010 ft0001011
noncomputable def ft00010 : Nat → Option Fx := fSplit 29 ft000100 ft000101
noncomputable def ft0001100 : Nat → Option Fx := fSplit 34 (fOne 33 (runF u33)) (fOne 34 (runF u34))
noncomputable def ft0001101 : Nat → Option Fx := fSplit 36 (fOne 35 (runF u35)) (fOne 36 (runF u36))
noncomputable def ft000110 : Nat → Option Fx := fSplit 35 ft0001100 ft0001101
noncomputable def ft0001110 : Nat → Option Fx := fSplit 38 (fOne 37 (runF u37)) (fOne 38 (runF u38))
noncomputable def ft0001111 : Nat → Option Fx := fSplit 42 (fOne 41 (runF u41)) (fOne 42 (runF u42))
noncomputable def ft000111 : Nat → Option Fx := fSplit 41 ft0001110 ft0001111
noncomputable def ft00011 : Nat → Option Fx := fSplit 37 ft000110 ft000111
noncomputable def ft0001 : Nat → Option Fx := fSplit 33 ft00010 ft00011
noncomputable def ft000 : Nat → Option Fx := fSplit 26 ft0000 ft0001
noncomputable def ft0010001 : Nat → Option Fx := fSplit 45 (fOne 44 (runF u44)) (fOne 45 (runF u45))
noncomputable def ft001000 : Nat → Option Fx := fSplit 44 (fOne 43 (runF u43)) ft0010001
noncomputable def ft0010010 : Nat → Option Fx := fSplit 47 (fOne 46 (runF u46)) (fOne 47 (runF u47))
noncomputable def ft0010011 : Nat → Option Fx := fSplit 49 (fOne 48 (runF u48)) (fOne 49 (runF u49))
noncomputable def ft001001 : Nat → Option Fx := fSplit 48 ft0010010 ft0010011
noncomputable def ft00100 : Nat → Option Fx := fSplit 46 ft001000 ft001001
noncomputable def ft0010100 : Nat → Option Fx := fSplit 51 (fOne 50 (runF u50)) (fOne 51 (runF u51))
noncomputable def ft0010101 : Nat → Option Fx := fSplit 53 (fOne 52 (runF u52)) (fOne 53 (runF u53))
noncomputable def ft001010 : Nat → Option Fx := fSplit 52 ft0010100 ft0010101
noncomputable def ft0010110 : Nat → Option Fx := fSplit 55 (fOne 54 (runF u54)) (fOne 55 (runF u55))
noncomputable def ft0010111 : Nat → Option Fx := fSplit 57 (fOne 56 (runF u56)) (fOne 57 (runF u57))
noncomputable def ft001011 : Nat → Option Fx := fSplit 56 ft0010110 ft0010111
noncomputable def ft00101 : Nat → Option Fx := fSplit 54 ft001010 ft001011
noncomputable def ft0010 : Nat → Option Fx := fSplit 50 ft00100 ft00101
noncomputable def ft0011000 : Nat → Option Fx := fSplit 59 (fOne 58 (runF u58)) (fOne 59 (runF u59))
noncomputable def ft0011001 : Nat → Option Fx := fSplit 61 (fOne 60 (runF u60)) (fOne 61 (runF u61))
noncomputable def ft001100 : Nat → Option Fx := fSplit 60 ft0011000 ft0011001
noncomputable def ft0011010 : Nat → Option Fx := fSplit 63 (fOne 62 (runF u62)) (fOne 63 (runF u63))
noncomputable def ft0011011 : Nat → Option Fx := fSplit 65 (fOne 64 (runF u64)) (fOne 65 (runF u65))
noncomputable def ft001101 : Nat → Option Fx := fSplit 64 ft0011010 ft0011011
noncomputable def ft00110 : Nat → Option Fx := fSplit 62 ft001100 ft001101
noncomputable def ft0011100 : Nat → Option Fx := fSplit 67 (fOne 66 (runF u66)) (fOne 67 (runF u67))
noncomputable def ft0011101 : Nat → Option Fx := fSplit 69 (fOne 68 (runF u68)) (fOne 69 (runF u69))
noncomputable def ft001110 : Nat → Option Fx := fSplit 68 ft0011100 ft0011101
noncomputable def ft0011110 : Nat → Option Fx := fSplit 71 (fOne 70 (runF u70)) (fOne 71 (runF u71))
noncomputable def ft0011111 : Nat → Option Fx := fSplit 73 (fOne 72 (runF u72)) (fOne 73 oAdd)
noncomputable def ft001111 : Nat → Option Fx := fSplit 72 ft0011110 ft0011111
noncomputable def ft00111 : Nat → Option Fx := fSplit 70 ft001110 ft001111
noncomputable def ft0011 : Nat → Option Fx := fSplit 66 ft00110 ft00111
noncomputable def ft001 : Nat → Option Fx := fSplit 58 ft0010 ft0011
noncomputable def ft00 : Nat → Option Fx := fSplit 43 ft000 ft001
noncomputable def ft0100001 : Nat → Option Fx := fSplit 76 (fOne 75 (runF u75)) (fOne 76 (runF u76))
noncomputable def ft010000 : Nat → Option Fx := fSplit 75 (fOne 74 (runF u74)) ft0100001
noncomputable def ft0100010 : Nat → Option Fx := fSplit 83 (fOne 77 (runF u77)) (fOne 83 oLd64)
noncomputable def ft0100011 : Nat → Option Fx := fSplit 85 (fOne 84 (runF u84)) (fOne 85 (runF u85))
noncomputable def ft010001 : Nat → Option Fx := fSplit 84 ft0100010 ft0100011
noncomputable def ft01000 : Nat → Option Fx := fSplit 77 ft010000 ft010001
noncomputable def ft0100100 : Nat → Option Fx := fSplit 87 (fOne 86 (runF u86)) (fOne 87 (runF u87))
noncomputable def ft0100101 : Nat → Option Fx := fSplit 89 (fOne 88 (runF u88)) (fOne 89 (runF u89))
noncomputable def ft010010 : Nat → Option Fx := fSplit 88 ft0100100 ft0100101
noncomputable def ft0100110 : Nat → Option Fx := fSplit 91 (fOne 90 (runF u90)) (fOne 91 (runF u91))
noncomputable def ft0100111 : Nat → Option Fx := fSplit 93 (fOne 92 (runF u92)) (fOne 93 (runF u93))
noncomputable def ft010011 : Nat → Option Fx := fSplit 92 ft0100110 ft0100111
noncomputable def ft01001 : Nat → Option Fx := fSplit 90 ft010010 ft010011
noncomputable def ft0100 : Nat → Option Fx := fSplit 86 ft01000 ft01001
noncomputable def ft0101000 : Nat → Option Fx := fSplit 95 (fOne 94 (runF u94)) (fOne 95 (runF u95))
noncomputable def ft0101001 : Nat → Option Fx := fSplit 97 (fOne 96 (runF u96)) (fOne 97 (runF u97))
noncomputable def ft010100 : Nat → Option Fx := fSplit 96 ft0101000 ft0101001
noncomputable def ft0101010 : Nat → Option Fx := fSplit 99 (fOne 98 (runF u98)) (fOne 99 (runF u99))
noncomputable def ft0101011 : Nat → Option Fx := fSplit 101 (fOne 100 (runF u100)) (fOne 101 (runF u101))
noncomputable def ft010101 : Nat → Option Fx := fSplit 100 ft0101010 ft0101011
noncomputable def ft01010 : Nat → Option Fx := fSplit 98 ft010100 ft010101
noncomputable def ft0101100 : Nat → Option Fx := fSplit 103 (fOne 102 (runF u102)) (fOne 103 (runF u103))
noncomputable def ft0101101 : Nat → Option Fx := fSplit 105 (fOne 104 (runF u104)) (fOne 105 (runF u105))
noncomputable def ft010110 : Nat → Option Fx := fSplit 104 ft0101100 ft0101101
noncomputable def ft0101110 : Nat → Option Fx := fSplit 107 (fOne 106 (runF u106)) (fOne 107 (runF u107))
noncomputable def ft0101111 : Nat → Option Fx := fSplit 109 (fOne 108 (runF u108)) (fOne 109 (runF u109))
noncomputable def ft010111 : Nat → Option Fx := fSplit 108 ft0101110 ft0101111
noncomputable def ft01011 : Nat → Option Fx := fSplit 106 ft010110 ft010111
noncomputable def ft0101 : Nat → Option Fx := fSplit 102 ft01010 ft01011
noncomputable def ft010 : Nat → Option Fx := fSplit 94 ft0100 ft0101
noncomputable def ft0110001 : Nat → Option Fx := fSplit 112 (fOne 111 (runF u111)) (fOne 112 (runF u112))
noncomputable def ft011000 : Nat → Option Fx := fSplit 111 (fOne 110 (runF u110)) ft0110001
noncomputable def ft0110010 : Nat → Option Fx := fSplit 114 (fOne 113 (runF u113)) (fOne 114 (runF u114))
noncomputable def ft0110011 : Nat → Option Fx := fSplit 116 (fOne 115 (runF u115)) (fOne 116 (runF u116))
noncomputable def ft011001 : Nat → Option Fx := fSplit 115 ft0110010 ft0110011
noncomputable def ft01100 : Nat → Option Fx := fSplit 113 ft011000 ft011001
noncomputable def ft0110100 : Nat → Option Fx := fSplit 118 (fOne 117 (runF u117)) (fOne 118 (runF u118))
noncomputable def ft0110101 : Nat → Option Fx := fSplit 120 (fOne 119 (runF u119)) (fOne 120 (runF u120))
noncomputable def ft011010 : Nat → Option Fx := fSplit 119 ft0110100 ft0110101
noncomputable def ft0110110 : Nat → Option Fx := fSplit 122 (fOne 121 (runF u121)) (fOne 122 (runF u122))
noncomputable def ft0110111 : Nat → Option Fx := fSplit 124 (fOne 123 (runF u123)) (fOne 124 (runF u124))
noncomputable def ft011011 : Nat → Option Fx := fSplit 123 ft0110110 ft0110111
noncomputable def ft01101 : Nat → Option Fx := fSplit 121 ft011010 ft011011
noncomputable def ft0110 : Nat → Option Fx := fSplit 117 ft01100 ft01101
noncomputable def ft0111000 : Nat → Option Fx := fSplit 126 (fOne 125 (runF u125)) (fOne 126 (runF u126))
noncomputable def ft0111001 : Nat → Option Fx := fSplit 135 (fOne 130 (runF u130)) (fOne 135 (runF u135))
noncomputable def ft011100 : Nat → Option Fx := fSplit 130 ft0111000 ft0111001
noncomputable def ft0111010 : Nat → Option Fx := fSplit 137 (fOne 136 (runF u136)) (fOne 137 (runF u137))
noncomputable def ft0111011 : Nat → Option Fx := fSplit 139 (fOne 138 (runF u138)) (fOne 139 (runF u139))
noncomputable def ft011101 : Nat → Option Fx := fSplit 138 ft0111010 ft0111011
noncomputable def ft01110 : Nat → Option Fx := fSplit 136 ft011100 ft011101
noncomputable def ft0111100 : Nat → Option Fx := fSplit 141 (fOne 140 (runF u140)) (fOne 141 (runF u141))
noncomputable def ft0111101 : Nat → Option Fx := fSplit 143 (fOne 142 (runF u142)) (fOne 143 (runF u143))
noncomputable def ft011110 : Nat → Option Fx := fSplit 142 ft0111100 ft0111101
noncomputable def ft0111110 : Nat → Option Fx := fSplit 145 (fOne 144 (runF u144)) (fOne 145 (runF u145))
noncomputable def ft0111111 : Nat → Option Fx := fSplit 147 (fOne 146 (runF u146)) (fOne 147 (runF u147))
noncomputable def ft011111 : Nat → Option Fx := fSplit 146 ft0111110 ft0111111
noncomputable def ft01111 : Nat → Option Fx := fSplit 144 ft011110 ft011111
noncomputable def ft0111 : Nat → Option Fx := fSplit 140 ft01110 ft01111
noncomputable def ft011 : Nat → Option Fx := fSplit 125 ft0110 ft0111
noncomputable def ft01 : Nat → Option Fx := fSplit 110 ft010 ft011
noncomputable def ft0 : Nat → Option Fx := fSplit 74 ft00 ft01
noncomputable def ft1000001 : Nat → Option Fx := fSplit 150 (fOne 149 (runF u149)) (fOne 150 (runF u150))
noncomputable def ft100000 : Nat → Option Fx := fSplit 149 (fOne 148 (runF u148)) ft1000001
noncomputable def ft1000010 : Nat → Option Fx := fSplit 152 (fOne 151 (runF u151)) (fOne 152 (runF u152))
noncomputable def ft1000011 : Nat → Option Fx := fSplit 154 (fOne 153 (runF u153)) (fOne 154 (runF u154))
noncomputable def ft100001 : Nat → Option Fx := fSplit 153 ft1000010 ft1000011
noncomputable def ft10000 : Nat → Option Fx := fSplit 151 ft100000 ft100001
noncomputable def ft1000100 : Nat → Option Fx := fSplit 156 (fOne 155 (runF u155)) (fOne 156 (runF u156))
noncomputable def ft1000101 : Nat → Option Fx := fSplit 158 (fOne 157 (runF u157)) (fOne 158 (runF u158))
noncomputable def ft100010 : Nat → Option Fx := fSplit 157 ft1000100 ft1000101
noncomputable def ft1000110 : Nat → Option Fx := fSplit 160 (fOne 159 (runF u159)) (fOne 160 (runF u160))
noncomputable def ft1000111 : Nat → Option Fx := fSplit 162 (fOne 161 (runF u161)) (fOne 162 (runF u162))
noncomputable def ft100011 : Nat → Option Fx := fSplit 161 ft1000110 ft1000111
noncomputable def ft10001 : Nat → Option Fx := fSplit 159 ft100010 ft100011
noncomputable def ft1000 : Nat → Option Fx := fSplit 155 ft10000 ft10001
noncomputable def ft1001001 : Nat → Option Fx := fSplit 165 (fOne 164 (runF u164)) (fOne 165 (runF u165))
noncomputable def ft100100 : Nat → Option Fx := fSplit 164 (fOne 163 (runF u163)) ft1001001
noncomputable def ft1001010 : Nat → Option Fx := fSplit 167 (fOne 166 (runF u166)) (fOne 167 (runF u167))
noncomputable def ft1001011 : Nat → Option Fx := fSplit 169 (fOne 168 (runF u168)) (fOne 169 (runF u169))
noncomputable def ft100101 : Nat → Option Fx := fSplit 168 ft1001010 ft1001011
noncomputable def ft10010 : Nat → Option Fx := fSplit 166 ft100100 ft100101
noncomputable def ft1001100 : Nat → Option Fx := fSplit 171 (fOne 170 (runF u170)) (fOne 171 (runF u171))
noncomputable def ft1001101 : Nat → Option Fx := fSplit 173 (fOne 172 (runF u172)) (fOne 173 (runF u173))
noncomputable def ft100110 : Nat → Option Fx := fSplit 172 ft1001100 ft1001101
noncomputable def ft1001110 : Nat → Option Fx := fSplit 175 (fOne 174 (runF u174)) (fOne 175 (runF u175))
noncomputable def ft1001111 : Nat → Option Fx := fSplit 177 (fOne 176 (runF u176)) (fOne 177 (runF u177))
noncomputable def ft100111 : Nat → Option Fx := fSplit 176 ft1001110 ft1001111
noncomputable def ft10011 : Nat → Option Fx := fSplit 174 ft100110 ft100111
noncomputable def ft1001 : Nat → Option Fx := fSplit 170 ft10010 ft10011
noncomputable def ft100 : Nat → Option Fx := fSplit 163 ft1000 ft1001
noncomputable def ft1010001 : Nat → Option Fx := fSplit 185 (fOne 184 (runF u184)) (fOne 185 (runF u185))
noncomputable def ft101000 : Nat → Option Fx := fSplit 184 (fOne 183 (runF u183)) ft1010001
noncomputable def ft1010010 : Nat → Option Fx := fSplit 187 (fOne 186 (runF u186)) (fOne 187 (runF u187))
noncomputable def ft1010011 : Nat → Option Fx := fSplit 189 (fOne 188 (runF u188)) (fOne 189 (runF u189))
noncomputable def ft101001 : Nat → Option Fx := fSplit 188 ft1010010 ft1010011
noncomputable def ft10100 : Nat → Option Fx := fSplit 186 ft101000 ft101001
noncomputable def ft1010100 : Nat → Option Fx := fSplit 191 (fOne 190 (runF u190)) (fOne 191 (runF u191))
noncomputable def ft1010101 : Nat → Option Fx := fSplit 193 (fOne 192 (runF u192)) (fOne 193 (runF u193))
noncomputable def ft101010 : Nat → Option Fx := fSplit 192 ft1010100 ft1010101
noncomputable def ft1010110 : Nat → Option Fx := fSplit 195 (fOne 194 (runF u194)) (fOne 195 (runF u195))
noncomputable def ft1010111 : Nat → Option Fx := fSplit 197 (fOne 196 (runF u196)) (fOne 197 (runF u197))
noncomputable def ft101011 : Nat → Option Fx := fSplit 196 ft1010110 ft1010111
noncomputable def ft10101 : Nat → Option Fx := fSplit 194 ft101010 ft101011
noncomputable def ft1010 : Nat → Option Fx := fSplit 190 ft10100 ft10101
noncomputable def ft1011000 : Nat → Option Fx := fSplit 199 (fOne 198 (runF u198)) (fOne 199 (runF u199))
noncomputable def ft1011001 : Nat → Option Fx := fSplit 201 (fOne 200 (runF u200)) (fOne 201 (runF u201))
noncomputable def ft101100 : Nat → Option Fx := fSplit 200 ft1011000 ft1011001
noncomputable def ft1011010 : Nat → Option Fx := fSplit 203 (fOne 202 (runF u202)) (fOne 203 (runF u203))
noncomputable def ft1011011 : Nat → Option Fx := fSplit 205 (fOne 204 (runF u204)) (fOne 205 (runF u205))
noncomputable def ft101101 : Nat → Option Fx := fSplit 204 ft1011010 ft1011011
noncomputable def ft10110 : Nat → Option Fx := fSplit 202 ft101100 ft101101
noncomputable def ft1011100 : Nat → Option Fx := fSplit 207 (fOne 206 (runF u206)) (fOne 207 (runF u207))
noncomputable def ft1011101 : Nat → Option Fx := fSplit 209 (fOne 208 (runF u208)) (fOne 209 (runF u209))
noncomputable def ft101110 : Nat → Option Fx := fSplit 208 ft1011100 ft1011101
noncomputable def ft1011110 : Nat → Option Fx := fSplit 211 (fOne 210 (runF u210)) (fOne 211 (runF u211))
noncomputable def ft1011111 : Nat → Option Fx := fSplit 213 (fOne 212 (runF u212)) (fOne 213 (runF u213))
noncomputable def ft101111 : Nat → Option Fx := fSplit 212 ft1011110 ft1011111
noncomputable def ft10111 : Nat → Option Fx := fSplit 210 ft101110 ft101111
noncomputable def ft1011 : Nat → Option Fx := fSplit 206 ft10110 ft10111
noncomputable def ft101 : Nat → Option Fx := fSplit 198 ft1010 ft1011
noncomputable def ft10 : Nat → Option Fx := fSplit 183 ft100 ft101
noncomputable def ft1100001 : Nat → Option Fx := fSplit 216 (fOne 215 (runF u215)) (fOne 216 (runF u216))
noncomputable def ft110000 : Nat → Option Fx := fSplit 215 (fOne 214 (runF u214)) ft1100001
noncomputable def ft1100010 : Nat → Option Fx := fSplit 218 (fOne 217 (runF u217)) (fOne 218 (runF u218))
noncomputable def ft1100011 : Nat → Option Fx := fSplit 220 (fOne 219 (runF u219)) (fOne 220 (runF u220))
noncomputable def ft110001 : Nat → Option Fx := fSplit 219 ft1100010 ft1100011
noncomputable def ft11000 : Nat → Option Fx := fSplit 217 ft110000 ft110001
noncomputable def ft1100100 : Nat → Option Fx := fSplit 222 (fOne 221 (runF u221)) (fOne 222 (runF u222))
noncomputable def ft1100101 : Nat → Option Fx := fSplit 224 (fOne 223 (runF u223)) (fOne 224 (runF u224))
noncomputable def ft110010 : Nat → Option Fx := fSplit 223 ft1100100 ft1100101
noncomputable def ft1100110 : Nat → Option Fx := fSplit 226 (fOne 225 (runF u225)) (fOne 226 (runF u226))
noncomputable def ft1100111 : Nat → Option Fx := fSplit 228 (fOne 227 (runF u227)) (fOne 228 (runF u228))
noncomputable def ft110011 : Nat → Option Fx := fSplit 227 ft1100110 ft1100111
noncomputable def ft11001 : Nat → Option Fx := fSplit 225 ft110010 ft110011
noncomputable def ft1100 : Nat → Option Fx := fSplit 221 ft11000 ft11001
noncomputable def ft1101000 : Nat → Option Fx := fSplit 230 (fOne 229 (runF u229)) (fOne 230 (runF u230))
noncomputable def ft1101001 : Nat → Option Fx := fSplit 232 (fOne 231 (runF u231)) (fOne 232 (runF u232))
noncomputable def ft110100 : Nat → Option Fx := fSplit 231 ft1101000 ft1101001
noncomputable def ft1101010 : Nat → Option Fx := fSplit 234 (fOne 233 (runF u233)) (fOne 234 (runF u234))
noncomputable def ft1101011 : Nat → Option Fx := fSplit 236 (fOne 235 (runF u235)) (fOne 236 (runF u236))
noncomputable def ft110101 : Nat → Option Fx := fSplit 235 ft1101010 ft1101011
noncomputable def ft11010 : Nat → Option Fx := fSplit 233 ft110100 ft110101
noncomputable def ft1101100 : Nat → Option Fx := fSplit 238 (fOne 237 (runF u237)) (fOne 238 (runF u238))
noncomputable def ft1101101 : Nat → Option Fx := fSplit 240 (fOne 239 (runF u239)) (fOne 240 (runF u240))
noncomputable def ft110110 : Nat → Option Fx := fSplit 239 ft1101100 ft1101101
noncomputable def ft1101110 : Nat → Option Fx := fSplit 242 (fOne 241 (runF u241)) (fOne 242 (runF u242))
noncomputable def ft1101111 : Nat → Option Fx := fSplit 244 (fOne 243 (runF u243)) (fOne 244 (runF u244))
noncomputable def ft110111 : Nat → Option Fx := fSplit 243 ft1101110 ft1101111
noncomputable def ft11011 : Nat → Option Fx := fSplit 241 ft110110 ft110111
noncomputable def ft1101 : Nat → Option Fx := fSplit 237 ft11010 ft11011
noncomputable def ft110 : Nat → Option Fx := fSplit 229 ft1100 ft1101
noncomputable def ft1110001 : Nat → Option Fx := fSplit 247 (fOne 246 (runF u246)) (fOne 247 (runF u247))
noncomputable def ft111000 : Nat → Option Fx := fSplit 246 (fOne 245 (runF u245)) ft1110001
noncomputable def ft1110010 : Nat → Option Fx := fSplit 249 (fOne 248 (runF u248)) (fOne 249 (runF u249))
noncomputable def ft1110011 : Nat → Option Fx := fSplit 251 (fOne 250 (runF u250)) (fOne 251 (runF u251))
noncomputable def ft111001 : Nat → Option Fx := fSplit 250 ft1110010 ft1110011
noncomputable def ft11100 : Nat → Option Fx := fSplit 248 ft111000 ft111001
noncomputable def ft1110100 : Nat → Option Fx := fSplit 253 (fOne 252 (runF u252)) (fOne 253 (runF u253))
noncomputable def ft1110101 : Nat → Option Fx := fSplit 255 (fOne 254 (runF u254)) (fOne 255 (runF u255))
noncomputable def ft111010 : Nat → Option Fx := fSplit 254 ft1110100 ft1110101
noncomputable def ft1110110 : Nat → Option Fx := fSplit 257 (fOne 256 (runF u256)) (fOne 257 (runF u257))
noncomputable def ft1110111 : Nat → Option Fx := fSplit 259 (fOne 258 oCount) (fOne 259 (runF u259))
noncomputable def ft111011 : Nat → Option Fx := fSplit 258 ft1110110 ft1110111
noncomputable def ft11101 : Nat → Option Fx := fSplit 256 ft111010 ft111011
noncomputable def ft1110 : Nat → Option Fx := fSplit 252 ft11100 ft11101
noncomputable def ft1111000 : Nat → Option Fx := fSplit 261 (fOne 260 (runF u260)) (fOne 261 (runF u261))
noncomputable def ft1111001 : Nat → Option Fx := fSplit 263 (fOne 262 (runF u262)) (fOne 263 (runF u263))
noncomputable def ft111100 : Nat → Option Fx := fSplit 262 ft1111000 ft1111001
noncomputable def ft1111010 : Nat → Option Fx := fSplit 266 (fOne 265 (runF u265)) (fOne 266 (runF u266))
noncomputable def ft1111011 : Nat → Option Fx := fSplit 268 (fOne 267 (runF u267)) (fOne 268 (runF u268))
noncomputable def ft111101 : Nat → Option Fx := fSplit 267 ft1111010 ft1111011
noncomputable def ft11110 : Nat → Option Fx := fSplit 265 ft111100 ft111101
noncomputable def ft1111100 : Nat → Option Fx := fSplit 273 (fOne 272 (runF u272)) (fOne 273 oSlow)
noncomputable def ft1111101 : Nat → Option Fx := fSplit 275 (fOne 274 (runF u274)) (fOne 275 oIndex)
noncomputable def ft111110 : Nat → Option Fx := fSplit 274 ft1111100 ft1111101
noncomputable def ft1111110 : Nat → Option Fx := fSplit 279 (fOne 276 (runF u276)) (fOne 279 oLd32)
noncomputable def ft1111111 : Nat → Option Fx := fSplit 283 (fOne 282 oStore) (fOne 283 (runF u283))
noncomputable def ft111111 : Nat → Option Fx := fSplit 282 ft1111110 ft1111111
noncomputable def ft11111 : Nat → Option Fx := fSplit 276 ft111110 ft111111
noncomputable def ft1111 : Nat → Option Fx := fSplit 272 ft11110 ft11111
noncomputable def ft111 : Nat → Option Fx := fSplit 260 ft1110 ft1111
noncomputable def ft11 : Nat → Option Fx := fSplit 245 ft110 ft111
noncomputable def ft1 : Nat → Option Fx := fSplit 214 ft10 ft11
noncomputable def ft : Nat → Option Fx := fSplit 148 ft0 ft1
noncomputable def FF : Nat → Option Fx := ft
end Go.Ev
