/- Each of these functions is what the evaluator takes it to be (part 3). No condition. -/
import Derived.Test.YtlamohamhbhkjaaGreatDoorProg
import Derived.Test.YtlamohamhbhkjaaGreatDoorEa2
import Derived.KernelRfl
namespace Go.Ev
open Go.Eng
theorem l8 : (funV Proofs.Tryz.prog 8 m8).map Fd.den = some u8 := by kernel_rfl
theorem l12 : (funV Proofs.Tryz.prog 12 m12).map Fd.den = some u12 := by kernel_rfl
theorem l21 : (funV Proofs.Tryz.prog 21 m21).map Fd.den = some u21 := by kernel_rfl
theorem l25 : (funV Proofs.Tryz.prog 25 m25).map Fd.den = some u25 := by kernel_rfl
theorem l29 : (funV Proofs.Tryz.prog 29 m29).map Fd.den = some u29 := by kernel_rfl
theorem l33 : (funV Proofs.Tryz.prog 33 m33).map Fd.den = some u33 := by kernel_rfl
theorem l37 : (funV Proofs.Tryz.prog 37 m37).map Fd.den = some u37 := by kernel_rfl
theorem l43 : (funV Proofs.Tryz.prog 43 m43).map Fd.den = some u43 := by kernel_rfl
theorem l47 : (funV Proofs.Tryz.prog 47 m47).map Fd.den = some u47 := by kernel_rfl
theorem l51 : (funV Proofs.Tryz.prog 51 m51).map Fd.den = some u51 := by kernel_rfl
theorem l55 : (funV Proofs.Tryz.prog 55 m55).map Fd.den = some u55 := by kernel_rfl
theorem l59 : (funV Proofs.Tryz.prog 59 m59).map Fd.den = some u59 := by kernel_rfl
theorem l63 : (funV Proofs.Tryz.prog 63 m63).map Fd.den = some u63 := by kernel_rfl
theorem l67 : (funV Proofs.Tryz.prog 67 m67).map Fd.den = some u67 := by kernel_rfl
theorem l71 : (funV Proofs.Tryz.prog 71 m71).map Fd.den = some u71 := by kernel_rfl
theorem l76 : (funV Proofs.Tryz.prog 76 m76).map Fd.den = some u76 := by kernel_rfl
theorem l86 : (funV Proofs.Tryz.prog 86 m86).map Fd.den = some u86 := by kernel_rfl
theorem l90 : (funV Proofs.Tryz.prog 90 m90).map Fd.den = some u90 := by kernel_rfl
theorem l94 : (funV Proofs.Tryz.prog 94 m94).map Fd.den = some u94 := by kernel_rfl
theorem l98 : (funV Proofs.Tryz.prog 98 m98).map Fd.den = some u98 := by kernel_rfl
theorem l102 : (funV Proofs.Tryz.prog 102 m102).map Fd.den = some u102 := by kernel_rfl
theorem l106 : (funV Proofs.Tryz.prog 106 m106).map Fd.den = some u106 := by kernel_rfl
theorem l110 : (funV Proofs.Tryz.prog 110 m110).map Fd.den = some u110 := by kernel_rfl
theorem l114 : (funV Proofs.Tryz.prog 114 m114).map Fd.den = some u114 := by kernel_rfl
theorem l118 : (funV Proofs.Tryz.prog 118 m118).map Fd.den = some u118 := by kernel_rfl
theorem l122 : (funV Proofs.Tryz.prog 122 m122).map Fd.den = some u122 := by kernel_rfl
theorem l126 : (funV Proofs.Tryz.prog 126 m126).map Fd.den = some u126 := by kernel_rfl
theorem l137 : (funV Proofs.Tryz.prog 137 m137).map Fd.den = some u137 := by kernel_rfl
theorem l141 : (funV Proofs.Tryz.prog 141 m141).map Fd.den = some u141 := by kernel_rfl
theorem l145 : (funV Proofs.Tryz.prog 145 m145).map Fd.den = some u145 := by kernel_rfl
theorem l149 : (funV Proofs.Tryz.prog 149 m149).map Fd.den = some u149 := by kernel_rfl
theorem l153 : (funV Proofs.Tryz.prog 153 m153).map Fd.den = some u153 := by kernel_rfl
theorem l157 : (funV Proofs.Tryz.prog 157 m157).map Fd.den = some u157 := by kernel_rfl
theorem l161 : (funV Proofs.Tryz.prog 161 m161).map Fd.den = some u161 := by kernel_rfl
theorem l165 : (funV Proofs.Tryz.prog 165 m165).map Fd.den = some u165 := by kernel_rfl
theorem l169 : (funV Proofs.Tryz.prog 169 m169).map Fd.den = some u169 := by kernel_rfl
theorem l173 : (funV Proofs.Tryz.prog 173 m173).map Fd.den = some u173 := by kernel_rfl
theorem l177 : (funV Proofs.Tryz.prog 177 m177).map Fd.den = some u177 := by kernel_rfl
theorem l186 : (funV Proofs.Tryz.prog 186 m186).map Fd.den = some u186 := by kernel_rfl
theorem l190 : (funV Proofs.Tryz.prog 190 m190).map Fd.den = some u190 := by kernel_rfl
theorem l194 : (funV Proofs.Tryz.prog 194 m194).map Fd.den = some u194 := by kernel_rfl
theorem l198 : (funV Proofs.Tryz.prog 198 m198).map Fd.den = some u198 := by kernel_rfl
theorem l202 : (funV Proofs.Tryz.prog 202 m202).map Fd.den = some u202 := by kernel_rfl
theorem l206 : (funV Proofs.Tryz.prog 206 m206).map Fd.den = some u206 := by kernel_rfl
theorem l210 : (funV Proofs.Tryz.prog 210 m210).map Fd.den = some u210 := by kernel_rfl
theorem l214 : (funV Proofs.Tryz.prog 214 m214).map Fd.den = some u214 := by kernel_rfl
theorem l218 : (funV Proofs.Tryz.prog 218 m218).map Fd.den = some u218 := by kernel_rfl
theorem l222 : (funV Proofs.Tryz.prog 222 m222).map Fd.den = some u222 := by kernel_rfl
theorem l226 : (funV Proofs.Tryz.prog 226 m226).map Fd.den = some u226 := by kernel_rfl
theorem l230 : (funV Proofs.Tryz.prog 230 m230).map Fd.den = some u230 := by kernel_rfl
theorem l234 : (funV Proofs.Tryz.prog 234 m234).map Fd.den = some u234 := by kernel_rfl
theorem l238 : (funV Proofs.Tryz.prog 238 m238).map Fd.den = some u238 := by kernel_rfl
theorem l242 : (funV Proofs.Tryz.prog 242 m242).map Fd.den = some u242 := by kernel_rfl
theorem l246 : (funV Proofs.Tryz.prog 246 m246).map Fd.den = some u246 := by kernel_rfl
theorem l250 : (funV Proofs.Tryz.prog 250 m250).map Fd.den = some u250 := by kernel_rfl
theorem l254 : (funV Proofs.Tryz.prog 254 m254).map Fd.den = some u254 := by kernel_rfl
theorem l259 : (funV Proofs.Tryz.prog 259 m259).map Fd.den = some u259 := by kernel_rfl
theorem l263 : (funV Proofs.Tryz.prog 263 m263).map Fd.den = some u263 := by kernel_rfl
theorem l268 : (funV Proofs.Tryz.prog 268 m268).map Fd.den = some u268 := by kernel_rfl
theorem l283 : (funV Proofs.Tryz.prog 283 m283).map Fd.den = some u283 := by kernel_rfl
end Go.Ev
