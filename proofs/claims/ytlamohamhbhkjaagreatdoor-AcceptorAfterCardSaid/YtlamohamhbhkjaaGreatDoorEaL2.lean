/- Each of these functions is what the evaluator takes it to be (part 2). No condition. -/
import Derived.Test.YtlamohamhbhkjaaGreatDoorProg
import Derived.Test.YtlamohamhbhkjaaGreatDoorEa2
import Derived.KernelRfl
namespace Go.Ev
open Go.Eng
theorem l7 : (funV Proofs.Tryz.prog 7 m7).map Fd.den = some u7 := by kernel_rfl
theorem l11 : (funV Proofs.Tryz.prog 11 m11).map Fd.den = some u11 := by kernel_rfl
theorem l20 : (funV Proofs.Tryz.prog 20 m20).map Fd.den = some u20 := by kernel_rfl
theorem l24 : (funV Proofs.Tryz.prog 24 m24).map Fd.den = some u24 := by kernel_rfl
theorem l28 : (funV Proofs.Tryz.prog 28 m28).map Fd.den = some u28 := by kernel_rfl
theorem l32 : (funV Proofs.Tryz.prog 32 m32).map Fd.den = some u32 := by kernel_rfl
theorem l36 : (funV Proofs.Tryz.prog 36 m36).map Fd.den = some u36 := by kernel_rfl
theorem l42 : (funV Proofs.Tryz.prog 42 m42).map Fd.den = some u42 := by kernel_rfl
theorem l46 : (funV Proofs.Tryz.prog 46 m46).map Fd.den = some u46 := by kernel_rfl
theorem l50 : (funV Proofs.Tryz.prog 50 m50).map Fd.den = some u50 := by kernel_rfl
theorem l54 : (funV Proofs.Tryz.prog 54 m54).map Fd.den = some u54 := by kernel_rfl
theorem l58 : (funV Proofs.Tryz.prog 58 m58).map Fd.den = some u58 := by kernel_rfl
theorem l62 : (funV Proofs.Tryz.prog 62 m62).map Fd.den = some u62 := by kernel_rfl
theorem l66 : (funV Proofs.Tryz.prog 66 m66).map Fd.den = some u66 := by kernel_rfl
theorem l70 : (funV Proofs.Tryz.prog 70 m70).map Fd.den = some u70 := by kernel_rfl
theorem l75 : (funV Proofs.Tryz.prog 75 m75).map Fd.den = some u75 := by kernel_rfl
theorem l85 : (funV Proofs.Tryz.prog 85 m85).map Fd.den = some u85 := by kernel_rfl
theorem l89 : (funV Proofs.Tryz.prog 89 m89).map Fd.den = some u89 := by kernel_rfl
theorem l93 : (funV Proofs.Tryz.prog 93 m93).map Fd.den = some u93 := by kernel_rfl
theorem l97 : (funV Proofs.Tryz.prog 97 m97).map Fd.den = some u97 := by kernel_rfl
theorem l101 : (funV Proofs.Tryz.prog 101 m101).map Fd.den = some u101 := by kernel_rfl
theorem l105 : (funV Proofs.Tryz.prog 105 m105).map Fd.den = some u105 := by kernel_rfl
theorem l109 : (funV Proofs.Tryz.prog 109 m109).map Fd.den = some u109 := by kernel_rfl
theorem l113 : (funV Proofs.Tryz.prog 113 m113).map Fd.den = some u113 := by kernel_rfl
theorem l117 : (funV Proofs.Tryz.prog 117 m117).map Fd.den = some u117 := by kernel_rfl
theorem l121 : (funV Proofs.Tryz.prog 121 m121).map Fd.den = some u121 := by kernel_rfl
theorem l125 : (funV Proofs.Tryz.prog 125 m125).map Fd.den = some u125 := by kernel_rfl
theorem l136 : (funV Proofs.Tryz.prog 136 m136).map Fd.den = some u136 := by kernel_rfl
theorem l140 : (funV Proofs.Tryz.prog 140 m140).map Fd.den = some u140 := by kernel_rfl
theorem l144 : (funV Proofs.Tryz.prog 144 m144).map Fd.den = some u144 := by kernel_rfl
theorem l148 : (funV Proofs.Tryz.prog 148 m148).map Fd.den = some u148 := by kernel_rfl
theorem l152 : (funV Proofs.Tryz.prog 152 m152).map Fd.den = some u152 := by kernel_rfl
theorem l156 : (funV Proofs.Tryz.prog 156 m156).map Fd.den = some u156 := by kernel_rfl
theorem l160 : (funV Proofs.Tryz.prog 160 m160).map Fd.den = some u160 := by kernel_rfl
theorem l164 : (funV Proofs.Tryz.prog 164 m164).map Fd.den = some u164 := by kernel_rfl
theorem l168 : (funV Proofs.Tryz.prog 168 m168).map Fd.den = some u168 := by kernel_rfl
theorem l172 : (funV Proofs.Tryz.prog 172 m172).map Fd.den = some u172 := by kernel_rfl
theorem l176 : (funV Proofs.Tryz.prog 176 m176).map Fd.den = some u176 := by kernel_rfl
theorem l185 : (funV Proofs.Tryz.prog 185 m185).map Fd.den = some u185 := by kernel_rfl
theorem l189 : (funV Proofs.Tryz.prog 189 m189).map Fd.den = some u189 := by kernel_rfl
theorem l193 : (funV Proofs.Tryz.prog 193 m193).map Fd.den = some u193 := by kernel_rfl
theorem l197 : (funV Proofs.Tryz.prog 197 m197).map Fd.den = some u197 := by kernel_rfl
theorem l201 : (funV Proofs.Tryz.prog 201 m201).map Fd.den = some u201 := by kernel_rfl
theorem l205 : (funV Proofs.Tryz.prog 205 m205).map Fd.den = some u205 := by kernel_rfl
theorem l209 : (funV Proofs.Tryz.prog 209 m209).map Fd.den = some u209 := by kernel_rfl
theorem l213 : (funV Proofs.Tryz.prog 213 m213).map Fd.den = some u213 := by kernel_rfl
theorem l217 : (funV Proofs.Tryz.prog 217 m217).map Fd.den = some u217 := by kernel_rfl
theorem l221 : (funV Proofs.Tryz.prog 221 m221).map Fd.den = some u221 := by kernel_rfl
theorem l225 : (funV Proofs.Tryz.prog 225 m225).map Fd.den = some u225 := by kernel_rfl
theorem l229 : (funV Proofs.Tryz.prog 229 m229).map Fd.den = some u229 := by kernel_rfl
theorem l233 : (funV Proofs.Tryz.prog 233 m233).map Fd.den = some u233 := by kernel_rfl
theorem l237 : (funV Proofs.Tryz.prog 237 m237).map Fd.den = some u237 := by kernel_rfl
theorem l241 : (funV Proofs.Tryz.prog 241 m241).map Fd.den = some u241 := by kernel_rfl
theorem l245 : (funV Proofs.Tryz.prog 245 m245).map Fd.den = some u245 := by kernel_rfl
theorem l249 : (funV Proofs.Tryz.prog 249 m249).map Fd.den = some u249 := by kernel_rfl
theorem l253 : (funV Proofs.Tryz.prog 253 m253).map Fd.den = some u253 := by kernel_rfl
theorem l257 : (funV Proofs.Tryz.prog 257 m257).map Fd.den = some u257 := by kernel_rfl
theorem l262 : (funV Proofs.Tryz.prog 262 m262).map Fd.den = some u262 := by kernel_rfl
theorem l267 : (funV Proofs.Tryz.prog 267 m267).map Fd.den = some u267 := by kernel_rfl
theorem l276 : (funV Proofs.Tryz.prog 276 m276).map Fd.den = some u276 := by kernel_rfl
end Go.Ev
