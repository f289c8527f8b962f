/- Each of these functions is what the evaluator takes it to be (part 1). No condition. -/
import Derived.Test.YtlamohamhbhkjaaGreatDoorProg
import Derived.Test.YtlamohamhbhkjaaGreatDoorEa2
import Derived.KernelRfl
namespace Go.Ev
open Go.Eng
theorem l3 : (funV Proofs.Tryz.prog 3 m3).map Fd.den = some u3 := by kernel_rfl
theorem l10 : (funV Proofs.Tryz.prog 10 m10).map Fd.den = some u10 := by kernel_rfl
theorem l19 : (funV Proofs.Tryz.prog 19 m19).map Fd.den = some u19 := by kernel_rfl
theorem l23 : (funV Proofs.Tryz.prog 23 m23).map Fd.den = some u23 := by kernel_rfl
theorem l27 : (funV Proofs.Tryz.prog 27 m27).map Fd.den = some u27 := by kernel_rfl
theorem l31 : (funV Proofs.Tryz.prog 31 m31).map Fd.den = some u31 := by kernel_rfl
theorem l35 : (funV Proofs.Tryz.prog 35 m35).map Fd.den = some u35 := by kernel_rfl
theorem l41 : (funV Proofs.Tryz.prog 41 m41).map Fd.den = some u41 := by kernel_rfl
theorem l45 : (funV Proofs.Tryz.prog 45 m45).map Fd.den = some u45 := by kernel_rfl
theorem l49 : (funV Proofs.Tryz.prog 49 m49).map Fd.den = some u49 := by kernel_rfl
theorem l53 : (funV Proofs.Tryz.prog 53 m53).map Fd.den = some u53 := by kernel_rfl
theorem l57 : (funV Proofs.Tryz.prog 57 m57).map Fd.den = some u57 := by kernel_rfl
theorem l61 : (funV Proofs.Tryz.prog 61 m61).map Fd.den = some u61 := by kernel_rfl
theorem l65 : (funV Proofs.Tryz.prog 65 m65).map Fd.den = some u65 := by kernel_rfl
theorem l69 : (funV Proofs.Tryz.prog 69 m69).map Fd.den = some u69 := by kernel_rfl
theorem l74 : (funV Proofs.Tryz.prog 74 m74).map Fd.den = some u74 := by kernel_rfl
theorem l84 : (funV Proofs.Tryz.prog 84 m84).map Fd.den = some u84 := by kernel_rfl
theorem l88 : (funV Proofs.Tryz.prog 88 m88).map Fd.den = some u88 := by kernel_rfl
theorem l92 : (funV Proofs.Tryz.prog 92 m92).map Fd.den = some u92 := by kernel_rfl
theorem l96 : (funV Proofs.Tryz.prog 96 m96).map Fd.den = some u96 := by kernel_rfl
theorem l100 : (funV Proofs.Tryz.prog 100 m100).map Fd.den = some u100 := by kernel_rfl
theorem l104 : (funV Proofs.Tryz.prog 104 m104).map Fd.den = some u104 := by kernel_rfl
theorem l108 : (funV Proofs.Tryz.prog 108 m108).map Fd.den = some u108 := by kernel_rfl
theorem l112 : (funV Proofs.Tryz.prog 112 m112).map Fd.den = some u112 := by kernel_rfl
theorem l116 : (funV Proofs.Tryz.prog 116 m116).map Fd.den = some u116 := by kernel_rfl
theorem l120 : (funV Proofs.Tryz.prog 120 m120).map Fd.den = some u120 := by kernel_rfl
theorem l124 : (funV Proofs.Tryz.prog 124 m124).map Fd.den = some u124 := by kernel_rfl
theorem l135 : (funV Proofs.Tryz.prog 135 m135).map Fd.den = some u135 := by kernel_rfl
theorem l139 : (funV Proofs.Tryz.prog 139 m139).map Fd.den = some u139 := by kernel_rfl
theorem l143 : (funV Proofs.Tryz.prog 143 m143).map Fd.den = some u143 := by kernel_rfl
theorem l147 : (funV Proofs.Tryz.prog 147 m147).map Fd.den = some u147 := by kernel_rfl
theorem l151 : (funV Proofs.Tryz.prog 151 m151).map Fd.den = some u151 := by kernel_rfl
theorem l155 : (funV Proofs.Tryz.prog 155 m155).map Fd.den = some u155 := by kernel_rfl
theorem l159 : (funV Proofs.Tryz.prog 159 m159).map Fd.den = some u159 := by kernel_rfl
theorem l163 : (funV Proofs.Tryz.prog 163 m163).map Fd.den = some u163 := by kernel_rfl
theorem l167 : (funV Proofs.Tryz.prog 167 m167).map Fd.den = some u167 := by kernel_rfl
theorem l171 : (funV Proofs.Tryz.prog 171 m171).map Fd.den = some u171 := by kernel_rfl
theorem l175 : (funV Proofs.Tryz.prog 175 m175).map Fd.den = some u175 := by kernel_rfl
theorem l184 : (funV Proofs.Tryz.prog 184 m184).map Fd.den = some u184 := by kernel_rfl
theorem l188 : (funV Proofs.Tryz.prog 188 m188).map Fd.den = some u188 := by kernel_rfl
theorem l192 : (funV Proofs.Tryz.prog 192 m192).map Fd.den = some u192 := by kernel_rfl
theorem l196 : (funV Proofs.Tryz.prog 196 m196).map Fd.den = some u196 := by kernel_rfl
theorem l200 : (funV Proofs.Tryz.prog 200 m200).map Fd.den = some u200 := by kernel_rfl
theorem l204 : (funV Proofs.Tryz.prog 204 m204).map Fd.den = some u204 := by kernel_rfl
theorem l208 : (funV Proofs.Tryz.prog 208 m208).map Fd.den = some u208 := by kernel_rfl
theorem l212 : (funV Proofs.Tryz.prog 212 m212).map Fd.den = some u212 := by kernel_rfl
theorem l216 : (funV Proofs.Tryz.prog 216 m216).map Fd.den = some u216 := by kernel_rfl
theorem l220 : (funV Proofs.Tryz.prog 220 m220).map Fd.den = some u220 := by kernel_rfl
theorem l224 : (funV Proofs.Tryz.prog 224 m224).map Fd.den = some u224 := by kernel_rfl
theorem l228 : (funV Proofs.Tryz.prog 228 m228).map Fd.den = some u228 := by kernel_rfl
theorem l232 : (funV Proofs.Tryz.prog 232 m232).map Fd.den = some u232 := by kernel_rfl
theorem l236 : (funV Proofs.Tryz.prog 236 m236).map Fd.den = some u236 := by kernel_rfl
theorem l240 : (funV Proofs.Tryz.prog 240 m240).map Fd.den = some u240 := by kernel_rfl
theorem l244 : (funV Proofs.Tryz.prog 244 m244).map Fd.den = some u244 := by kernel_rfl
theorem l248 : (funV Proofs.Tryz.prog 248 m248).map Fd.den = some u248 := by kernel_rfl
theorem l252 : (funV Proofs.Tryz.prog 252 m252).map Fd.den = some u252 := by kernel_rfl
theorem l256 : (funV Proofs.Tryz.prog 256 m256).map Fd.den = some u256 := by kernel_rfl
theorem l261 : (funV Proofs.Tryz.prog 261 m261).map Fd.den = some u261 := by kernel_rfl
theorem l266 : (funV Proofs.Tryz.prog 266 m266).map Fd.den = some u266 := by kernel_rfl
theorem l274 : (funV Proofs.Tryz.prog 274 m274).map Fd.den = some u274 := by kernel_rfl
end Go.Ev
