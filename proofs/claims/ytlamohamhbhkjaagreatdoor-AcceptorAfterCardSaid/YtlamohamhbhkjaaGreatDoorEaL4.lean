/- Each of these functions is what the evaluator takes it to be (part 4). No condition. -/
import Derived.Test.YtlamohamhbhkjaaGreatDoorProg
import Derived.Test.YtlamohamhbhkjaaGreatDoorEa2
import Derived.KernelRfl
namespace Go.Ev
open Go.Eng
theorem l9 : (funV Proofs.Tryz.prog 9 m9).map Fd.den = some u9 := by kernel_rfl
theorem l18 : (funV Proofs.Tryz.prog 18 m18).map Fd.den = some u18 := by kernel_rfl
theorem l22 : (funV Proofs.Tryz.prog 22 m22).map Fd.den = some u22 := by kernel_rfl
theorem l26 : (funV Proofs.Tryz.prog 26 m26).map Fd.den = some u26 := by kernel_rfl
theorem l30 : (funV Proofs.Tryz.prog 30 m30).map Fd.den = some u30 := by kernel_rfl
theorem l34 : (funV Proofs.Tryz.prog 34 m34).map Fd.den = some u34 := by kernel_rfl
theorem l38 : (funV Proofs.Tryz.prog 38 m38).map Fd.den = some u38 := by kernel_rfl
theorem l44 : (funV Proofs.Tryz.prog 44 m44).map Fd.den = some u44 := by kernel_rfl
theorem l48 : (funV Proofs.Tryz.prog 48 m48).map Fd.den = some u48 := by kernel_rfl
theorem l52 : (funV Proofs.Tryz.prog 52 m52).map Fd.den = some u52 := by kernel_rfl
theorem l56 : (funV Proofs.Tryz.prog 56 m56).map Fd.den = some u56 := by kernel_rfl
theorem l60 : (funV Proofs.Tryz.prog 60 m60).map Fd.den = some u60 := by kernel_rfl
theorem l64 : (funV Proofs.Tryz.prog 64 m64).map Fd.den = some u64 := by kernel_rfl
theorem l68 : (funV Proofs.Tryz.prog 68 m68).map Fd.den = some u68 := by kernel_rfl
theorem l72 : (funV Proofs.Tryz.prog 72 m72).map Fd.den = some u72 := by kernel_rfl
theorem l77 : (funV Proofs.Tryz.prog 77 m77).map Fd.den = some u77 := by kernel_rfl
theorem l87 : (funV Proofs.Tryz.prog 87 m87).map Fd.den = some u87 := by kernel_rfl
theorem l91 : (funV Proofs.Tryz.prog 91 m91).map Fd.den = some u91 := by kernel_rfl
theorem l95 : (funV Proofs.Tryz.prog 95 m95).map Fd.den = some u95 := by kernel_rfl
theorem l99 : (funV Proofs.Tryz.prog 99 m99).map Fd.den = some u99 := by kernel_rfl
theorem l103 : (funV Proofs.Tryz.prog 103 m103).map Fd.den = some u103 := by kernel_rfl
theorem l107 : (funV Proofs.Tryz.prog 107 m107).map Fd.den = some u107 := by kernel_rfl
theorem l111 : (funV Proofs.Tryz.prog 111 m111).map Fd.den = some u111 := by kernel_rfl
theorem l115 : (funV Proofs.Tryz.prog 115 m115).map Fd.den = some u115 := by kernel_rfl
theorem l119 : (funV Proofs.Tryz.prog 119 m119).map Fd.den = some u119 := by kernel_rfl
theorem l123 : (funV Proofs.Tryz.prog 123 m123).map Fd.den = some u123 := by kernel_rfl
theorem l130 : (funV Proofs.Tryz.prog 130 m130).map Fd.den = some u130 := by kernel_rfl
theorem l138 : (funV Proofs.Tryz.prog 138 m138).map Fd.den = some u138 := by kernel_rfl
theorem l142 : (funV Proofs.Tryz.prog 142 m142).map Fd.den = some u142 := by kernel_rfl
theorem l146 : (funV Proofs.Tryz.prog 146 m146).map Fd.den = some u146 := by kernel_rfl
theorem l150 : (funV Proofs.Tryz.prog 150 m150).map Fd.den = some u150 := by kernel_rfl
theorem l154 : (funV Proofs.Tryz.prog 154 m154).map Fd.den = some u154 := by kernel_rfl
theorem l158 : (funV Proofs.Tryz.prog 158 m158).map Fd.den = some u158 := by kernel_rfl
theorem l162 : (funV Proofs.Tryz.prog 162 m162).map Fd.den = some u162 := by kernel_rfl
theorem l166 : (funV Proofs.Tryz.prog 166 m166).map Fd.den = some u166 := by kernel_rfl
theorem l170 : (funV Proofs.Tryz.prog 170 m170).map Fd.den = some u170 := by kernel_rfl
theorem l174 : (funV Proofs.Tryz.prog 174 m174).map Fd.den = some u174 := by kernel_rfl
theorem l183 : (funV Proofs.Tryz.prog 183 m183).map Fd.den = some u183 := by kernel_rfl
theorem l187 : (funV Proofs.Tryz.prog 187 m187).map Fd.den = some u187 := by kernel_rfl
theorem l191 : (funV Proofs.Tryz.prog 191 m191).map Fd.den = some u191 := by kernel_rfl
theorem l195 : (funV Proofs.Tryz.prog 195 m195).map Fd.den = some u195 := by kernel_rfl
theorem l199 : (funV Proofs.Tryz.prog 199 m199).map Fd.den = some u199 := by kernel_rfl
theorem l203 : (funV Proofs.Tryz.prog 203 m203).map Fd.den = some u203 := by kernel_rfl
theorem l207 : (funV Proofs.Tryz.prog 207 m207).map Fd.den = some u207 := by kernel_rfl
theorem l211 : (funV Proofs.Tryz.prog 211 m211).map Fd.den = some u211 := by kernel_rfl
theorem l215 : (funV Proofs.Tryz.prog 215 m215).map Fd.den = some u215 := by kernel_rfl
theorem l219 : (funV Proofs.Tryz.prog 219 m219).map Fd.den = some u219 := by kernel_rfl
theorem l223 : (funV Proofs.Tryz.prog 223 m223).map Fd.den = some u223 := by kernel_rfl
theorem l227 : (funV Proofs.Tryz.prog 227 m227).map Fd.den = some u227 := by kernel_rfl
theorem l231 : (funV Proofs.Tryz.prog 231 m231).map Fd.den = some u231 := by kernel_rfl
theorem l235 : (funV Proofs.Tryz.prog 235 m235).map Fd.den = some u235 := by kernel_rfl
theorem l239 : (funV Proofs.Tryz.prog 239 m239).map Fd.den = some u239 := by kernel_rfl
theorem l243 : (funV Proofs.Tryz.prog 243 m243).map Fd.den = some u243 := by kernel_rfl
theorem l247 : (funV Proofs.Tryz.prog 247 m247).map Fd.den = some u247 := by kernel_rfl
theorem l251 : (funV Proofs.Tryz.prog 251 m251).map Fd.den = some u251 := by kernel_rfl
theorem l255 : (funV Proofs.Tryz.prog 255 m255).map Fd.den = some u255 := by kernel_rfl
theorem l260 : (funV Proofs.Tryz.prog 260 m260).map Fd.den = some u260 := by kernel_rfl
theorem l265 : (funV Proofs.Tryz.prog 265 m265).map Fd.den = some u265 := by kernel_rfl
theorem l272 : (funV Proofs.Tryz.prog 272 m272).map Fd.den = some u272 := by kernel_rfl
end Go.Ev
