/- The table of the evaluator's functions is right. No condition. -/
import Derived.Test.YtlamohamhbhkjaaGreatDoorEaL1
import Derived.Test.YtlamohamhbhkjaaGreatDoorEaL2
import Derived.Test.YtlamohamhbhkjaaGreatDoorEaL3
import Derived.Test.YtlamohamhbhkjaaGreatDoorEaL4
import Derived.Test.YtlamohamhbhkjaaGreatDoorOnce
import Derived.Test.YtlamohamhbhkjaaGreatDoorIs
namespace Go.Ev
open Go.RowKit Go.Eng
set_option maxRecDepth 100000
theorem tab_mix : Proofs.Tryz.prog.follows .mixedOrders = true := by kernel_rfl
theorem t7 : Sound Proofs.Tryz.prog 7 (runF u7) := fun_sound (P := Proofs.Tryz.prog) (fm := m7) (n := 7) (u := u7) tab_mix l7
theorem t8 : Sound Proofs.Tryz.prog 8 (runF u8) := fun_sound (P := Proofs.Tryz.prog) (fm := m8) (n := 8) (u := u8) tab_mix l8
theorem sft0000001 : ∀ n x, ft0000001 n = some x → Sound Proofs.Tryz.prog n x := @tab_split Proofs.Tryz.prog 8 (fOne 7 (runF u7)) (fOne 8 (runF u8)) (@tab_one Proofs.Tryz.prog 7 (runF u7) t7) (@tab_one Proofs.Tryz.prog 8 (runF u8) t8)
theorem t3 : Sound Proofs.Tryz.prog 3 (runF u3) := fun_sound (P := Proofs.Tryz.prog) (fm := m3) (n := 3) (u := u3) tab_mix l3
theorem sft000000 : ∀ n x, ft000000 n = some x → Sound Proofs.Tryz.prog n x := @tab_split Proofs.Tryz.prog 7 (fOne 3 (runF u3)) ft0000001 (@tab_one Proofs.Tryz.prog 3 (runF u3) t3) sft0000001
theorem t9 : Sound Proofs.Tryz.prog 9 (runF u9) := fun_sound (P := Proofs.Tryz.prog) (fm := m9) (n := 9) (u := u9) tab_mix l9
theorem t10 : Sound Proofs.Tryz.prog 10 (runF u10) := fun_sound (P := Proofs.Tryz.prog) (fm := m10) (n := 10) (u := u10) tab_mix l10
theorem sft0000010 : ∀ n x, ft0000010 n = some x → Sound Proofs.Tryz.prog n x := @tab_split Proofs.Tryz.prog 10 (fOne 9 (runF u9)) (fOne 10 (runF u10)) (@tab_one Proofs.Tryz.prog 9 (runF u9) t9) (@tab_one Proofs.Tryz.prog 10 (runF u10) t10)
theorem t11 : Sound Proofs.Tryz.prog 11 (runF u11) := fun_sound (P := Proofs.Tryz.prog) (fm := m11) (n := 11) (u := u11) tab_mix l11
theorem t12 : Sound Proofs.Tryz.prog 12 (runF u12) := fun_sound (P := Proofs.Tryz.prog) (fm := m12) (n := 12) (u := u12) tab_mix l12
theorem sft0000011 : ∀ n x, ft0000011 n = some x → Sound Proofs.Tryz.prog n x := @tab_split Proofs.Tryz.prog 12 (fOne 11 (runF u11)) (fOne 12 (runF u12)) (@tab_one Proofs.Tryz.prog 11 (runF u11) t11) (@tab_one Proofs.Tryz.prog 12 (runF u12) t12)
theorem sft000001 : ∀ n x, ft000001 n = some x → Sound Proofs.Tryz.prog n x := @tab_split Proofs.Tryz.prog 11 ft0000010 ft0000011 sft0000010 sft0000011
theorem sft00000 : ∀ n x, ft00000 n = some x → Sound Proofs.Tryz.prog n x := @tab_split Proofs.Tryz.prog 9 ft000000 ft000001 sft000000 sft000001
theorem t18 : Sound Proofs.Tryz.prog 18 (runF u18) := fun_sound (P := Proofs.Tryz.prog) (fm := m18) (n := 18) (u := u18) tab_mix l18
theorem t19 : Sound Proofs.Tryz.prog 19 (runF u19) := fun_sound (P := Proofs.Tryz.prog) (fm := m19) (n := 19) (u := u19) tab_mix l19
theorem sft0000100 : ∀ n x, ft0000100 n = some x → Sound Proofs.Tryz.prog n x := @tab_split Proofs.Tryz.prog 19 (fOne 18 (runF u18)) (fOne 19 (runF u19)) (@tab_one Proofs.Tryz.prog 18 (runF u18) t18) (@tab_one Proofs.Tryz.prog 19 (runF u19) t19)
theorem t20 : Sound Proofs.Tryz.prog 20 (runF u20) := fun_sound (P := Proofs.Tryz.prog) (fm := m20) (n := 20) (u := u20) tab_mix l20
theorem t21 : Sound Proofs.Tryz.prog 21 (runF u21) := fun_sound (P := Proofs.Tryz.prog) (fm := m21) (n := 21) (u := u21) tab_mix l21
theorem sft0000101 : ∀ n x, ft0000101 n = some x → Sound Proofs.Tryz.prog n x := @tab_split Proofs.Tryz.prog 21 (fOne 20 (runF u20)) (fOne 21 (runF u21)) (@tab_one Proofs.Tryz.prog 20 (runF u20) t20) (@tab_one Proofs.Tryz.prog 21 (runF u21) t21)
theorem sft000010 : ∀ n x, ft000010 n = some x → Sound Proofs.Tryz.prog n x := @tab_split Proofs.Tryz.prog 20 ft0000100 ft0000101 sft0000100 sft0000101
theorem t22 : Sound Proofs.Tryz.prog 22 (runF u22) := fun_sound (P := Proofs.Tryz.prog) (fm := m22) (n := 22) (u := u22) tab_mix l22
theorem t23 : Sound Proofs.Tryz.prog 23 (runF u23) := fun_sound (P := Proofs.Tryz.prog) (fm := m23) (n := 23) (u := u23) tab_mix l23
theorem sft0000110 : ∀ n x, ft0000110 n = some x → Sound Proofs.Tryz.prog n x := @tab_split Proofs.Tryz.prog 23 (fOne 22 (runF u22)) (fOne 23 (runF u23)) (@tab_one Proofs.Tryz.prog 22 (runF u22) t22) (@tab_one Proofs.Tryz.prog 23 (runF u23) t23)
theorem t24 : Sound Proofs.Tryz.prog 24 (runF u24) := fun_sound (P := Proofs.Tryz.prog) (fm := m24) (n := 24) (u := u24) tab_mix l24
theorem t25 : Sound Proofs.Tryz.prog 25 (runF u25) := fun_sound (P := Proofs.Tryz.prog) (fm := m25) (n := 25) (u := u25) tab_mix l25
theorem sft0000111 : ∀ n x, ft0000111 n = some x → Sound Proofs.Tryz.prog n x := @tab_split Proofs.Tryz.prog 25 (fOne 24 (runF u24)) (fOne 25 (runF u25)) (@tab_one Proofs.Tryz.prog 24 (runF u24) t24) (@tab_one Proofs.Tryz.prog 25 (runF u25) t25)
theorem sft000011 : ∀ n x, ft000011 n = some x → Sound Proofs.Tryz.prog n x := @tab_split Proofs.Tryz.prog 24 ft0000110 ft0000111 sft0000110 sft0000111
theorem sft00001 : ∀ n x, ft00001 n = some x → Sound Proofs.Tryz.prog n x := @tab_split Proofs.Tryz.prog 22 ft000010 ft000011 sft000010 sft000011
theorem sft0000 : ∀ n x, ft0000 n = some x → Sound Proofs.Tryz.prog n x := @tab_split Proofs.Tryz.prog 18 ft00000 ft00001 sft00000 sft00001
theorem t27 : Sound Proofs.Tryz.prog 27 (runF u27) := fun_sound (P := Proofs.Tryz.prog) (fm := m27) (n := 27) (u := u27) tab_mix l27
theorem t28 : Sound Proofs.Tryz.prog 28 (runF u28) := fun_sound (P := Proofs.Tryz.prog) (fm := m28) (n := 28) (u := u28) tab_mix l28
theorem sft0001001 : ∀ n x, ft0001001 n = some x → Sound Proofs.Tryz.prog n x := @tab_split Proofs.Tryz.prog 28 (fOne 27 (runF u27)) (fOne 28 (runF u28)) (@tab_one Proofs.Tryz.prog 27 (runF u27) t27) (@tab_one Proofs.Tryz.prog 28 (runF u28) t28)
theorem t26 : Sound Proofs.Tryz.prog 26 (runF u26) := fun_sound (P := Proofs.Tryz.prog) (fm := m26) (n := 26) (u := u26) tab_mix l26
theorem sft000100 : ∀ n x, ft000100 n = some x → Sound Proofs.Tryz.prog n x := @tab_split Proofs.Tryz.prog 27 (fOne 26 (runF u26)) ft0001001 (@tab_one Proofs.Tryz.prog 26 (runF u26) t26) sft0001001
theorem t29 : Sound Proofs.Tryz.prog 29 (runF u29) := fun_sound (P := Proofs.Tryz.prog) (fm := m29) (n := 29) (u := u29) tab_mix l29
theorem t30 : Sound Proofs.Tryz.prog 30 (runF u30) := fun_sound (P := Proofs.Tryz.prog) (fm := m30) (n := 30) (u := u30) tab_mix l30
theorem sft0001010 : ∀ n x, ft0001010 n = some x → Sound Proofs.Tryz.prog n x := @tab_split Proofs.Tryz.prog 30 (fOne 29 (runF u29)) (fOne 30 (runF u30)) (@tab_one Proofs.Tryz.prog 29 (runF u29) t29) (@tab_one Proofs.Tryz.prog 30 (runF u30) t30)
theorem t31 : Sound Proofs.Tryz.prog 31 (runF u31) := fun_sound (P := Proofs.Tryz.prog) (fm := m31) (n := 31) (u := u31) tab_mix l31
theorem t32 : Sound Proofs.Tryz.prog 32 (runF u32) := fun_sound (P := Proofs.Tryz.prog) (fm := m32) (n := 32) (u := u32) tab_mix l32
theorem sft0001011 : ∀ n x, ft0001011 n = some x → Sound Proofs.Tryz.prog n x := @tab_split Proofs.Tryz.prog 32 (fOne 31 (runF u31)) (fOne 32 (runF u32)) (@tab_one Proofs.Tryz.prog 31 (runF u31) t31) (@tab_one Proofs.Tryz.prog 32 (runF u32) t32)
theorem sft000101 : ∀ n x, ft000101 n = some x → Sound Proofs.Tryz.prog n x := @tab_split Proofs.Tryz.prog 31 ft0001010 ft0001011 sft0001010 sft0001011
theorem sft00010 : ∀ n x, ft00010 n = some x → Sound Proofs.Tryz.prog n x := @tab_split Proofs.Tryz.prog 29 ft000100 ft000101 sft000100 sft000101
theorem t33 : Sound Proofs.Tryz.prog 33 (runF u33) := fun_sound (P := Proofs.Tryz.prog) (fm := m33) (n := 33) (u := u33) tab_mix l33
theorem t34 : Sound Proofs.Tryz.prog 34 (runF u34) := fun_sound (P := Proofs.Tryz.prog) (fm := m34) (n := 34) (u := u34) tab_mix l34
theorem sft0001100 : ∀ n x, ft0001100 n = some x → Sound Proofs.Tryz.prog n x := @tab_split Proofs.Tryz.prog 34 (fOne 33 (runF u33)) (fOne 34 (runF u34)) (@tab_one Proofs.Tryz.prog 33 (runF u33) t33) (@tab_one Proofs.Tryz.prog 34 (runF u34) t34)
theorem t35 : Sound Proofs.Tryz.prog 35 (runF u35) := fun_sound (P := Proofs.Tryz.prog) (fm := m35) (n := 35) (u := u35) tab_mix l35
theorem t36 : Sound Proofs.Tryz.prog 36 (runF u36) := fun_sound (P := Proofs.Tryz.prog) (fm := m36) (n := 36) (u := u36) tab_mix l36
theorem sft0001101 : ∀ n x, ft0001101 n = some x → Sound Proofs.Tryz.prog n x := @tab_split Proofs.Tryz.prog 36 (fOne 35 (runF u35)) (fOne 36 (runF u36)) (@tab_one Proofs.Tryz.prog 35 (runF u35) t35) (@tab_one Proofs.Tryz.prog 36 (runF u36) t36)
theorem sft000110 : ∀ n x, ft000110 n = some x → Sound Proofs.Tryz.prog n x := @tab_split Proofs.Tryz.prog 35 ft0001100 ft0001101 sft0001100 sft0001101
theorem t37 : Sound Proofs.Tryz.prog 37 (runF u37) := fun_sound (P := Proofs.Tryz.prog) (fm := m37) (n := 37) (u := u37) tab_mix l37
theorem t38 : Sound Proofs.Tryz.prog 38 (runF u38) := fun_sound (P := Proofs.Tryz.prog) (fm := m38) (n := 38) (u := u38) tab_mix l38
theorem sft0001110 : ∀ n x, ft0001110 n = some x → Sound Proofs.Tryz.prog n x := @tab_split Proofs.Tryz.prog 38 (fOne 37 (runF u37)) (fOne 38 (runF u38)) (@tab_one Proofs.Tryz.prog 37 (runF u37) t37) (@tab_one Proofs.Tryz.prog 38 (runF u38) t38)
theorem t41 : Sound Proofs.Tryz.prog 41 (runF u41) := fun_sound (P := Proofs.Tryz.prog) (fm := m41) (n := 41) (u := u41) tab_mix l41
theorem t42 : Sound Proofs.Tryz.prog 42 (runF u42) := fun_sound (P := Proofs.Tryz.prog) (fm := m42) (n := 42) (u := u42) tab_mix l42
theorem sft0001111 : ∀ n x, ft0001111 n = some x → Sound Proofs.Tryz.prog n x := @tab_split Proofs.Tryz.prog 42 (fOne 41 (runF u41)) (fOne 42 (runF u42)) (@tab_one Proofs.Tryz.prog 41 (runF u41) t41) (@tab_one Proofs.Tryz.prog 42 (runF u42) t42)
theorem sft000111 : ∀ n x, ft000111 n = some x → Sound Proofs.Tryz.prog n x := @tab_split Proofs.Tryz.prog 41 ft0001110 ft0001111 sft0001110 sft0001111
theorem sft00011 : ∀ n x, ft00011 n = some x → Sound Proofs.Tryz.prog n x := @tab_split Proofs.Tryz.prog 37 ft000110 ft000111 sft000110 sft000111
theorem sft0001 : ∀ n x, ft0001 n = some x → Sound Proofs.Tryz.prog n x := @tab_split Proofs.Tryz.prog 33 ft00010 ft00011 sft00010 sft00011
theorem sft000 : ∀ n x, ft000 n = some x → Sound Proofs.Tryz.prog n x := @tab_split Proofs.Tryz.prog 26 ft0000 ft0001 sft0000 sft0001
theorem t44 : Sound Proofs.Tryz.prog 44 (runF u44) := fun_sound (P := Proofs.Tryz.prog) (fm := m44) (n := 44) (u := u44) tab_mix l44
theorem t45 : Sound Proofs.Tryz.prog 45 (runF u45) := fun_sound (P := Proofs.Tryz.prog) (fm := m45) (n := 45) (u := u45) tab_mix l45
theorem sft0010001 : ∀ n x, ft0010001 n = some x → Sound Proofs.Tryz.prog n x := @tab_split Proofs.Tryz.prog 45 (fOne 44 (runF u44)) (fOne 45 (runF u45)) (@tab_one Proofs.Tryz.prog 44 (runF u44) t44) (@tab_one Proofs.Tryz.prog 45 (runF u45) t45)
theorem t43 : Sound Proofs.Tryz.prog 43 (runF u43) := fun_sound (P := Proofs.Tryz.prog) (fm := m43) (n := 43) (u := u43) tab_mix l43
theorem sft001000 : ∀ n x, ft001000 n = some x → Sound Proofs.Tryz.prog n x := @tab_split Proofs.Tryz.prog 44 (fOne 43 (runF u43)) ft0010001 (@tab_one Proofs.Tryz.prog 43 (runF u43) t43) sft0010001
theorem t46 : Sound Proofs.Tryz.prog 46 (runF u46) := fun_sound (P := Proofs.Tryz.prog) (fm := m46) (n := 46) (u := u46) tab_mix l46
theorem t47 : Sound Proofs.Tryz.prog 47 (runF u47) := fun_sound (P := Proofs.Tryz.prog) (fm := m47) (n := 47) (u := u47) tab_mix l47
theorem sft0010010 : ∀ n x, ft0010010 n = some x → Sound Proofs.Tryz.prog n x := @tab_split Proofs.Tryz.prog 47 (fOne 46 (runF u46)) (fOne 47 (runF u47)) (@tab_one Proofs.Tryz.prog 46 (runF u46) t46) (@tab_one Proofs.Tryz.prog 47 (runF u47) t47)
theorem t48 : Sound Proofs.Tryz.prog 48 (runF u48) := fun_sound (P := Proofs.Tryz.prog) (fm := m48) (n := 48) (u := u48) tab_mix l48
theorem t49 : Sound Proofs.Tryz.prog 49 (runF u49) := fun_sound (P := Proofs.Tryz.prog) (fm := m49) (n := 49) (u := u49) tab_mix l49
theorem sft0010011 : ∀ n x, ft0010011 n = some x → Sound Proofs.Tryz.prog n x := @tab_split Proofs.Tryz.prog 49 (fOne 48 (runF u48)) (fOne 49 (runF u49)) (@tab_one Proofs.Tryz.prog 48 (runF u48) t48) (@tab_one Proofs.Tryz.prog 49 (runF u49) t49)
theorem sft001001 : ∀ n x, ft001001 n = some x → Sound Proofs.Tryz.prog n x := @tab_split Proofs.Tryz.prog 48 ft0010010 ft0010011 sft0010010 sft0010011
theorem sft00100 : ∀ n x, ft00100 n = some x → Sound Proofs.Tryz.prog n x := @tab_split Proofs.Tryz.prog 46 ft001000 ft001001 sft001000 sft001001
theorem t50 : Sound Proofs.Tryz.prog 50 (runF u50) := fun_sound (P := Proofs.Tryz.prog) (fm := m50) (n := 50) (u := u50) tab_mix l50
theorem t51 : Sound Proofs.Tryz.prog 51 (runF u51) := fun_sound (P := Proofs.Tryz.prog) (fm := m51) (n := 51) (u := u51) tab_mix l51
theorem sft0010100 : ∀ n x, ft0010100 n = some x → Sound Proofs.Tryz.prog n x := @tab_split Proofs.Tryz.prog 51 (fOne 50 (runF u50)) (fOne 51 (runF u51)) (@tab_one Proofs.Tryz.prog 50 (runF u50) t50) (@tab_one Proofs.Tryz.prog 51 (runF u51) t51)
theorem t52 : Sound Proofs.Tryz.prog 52 (runF u52) := fun_sound (P := Proofs.Tryz.prog) (fm := m52) (n := 52) (u := u52) tab_mix l52
theorem t53 : Sound Proofs.Tryz.prog 53 (runF u53) := fun_sound (P := Proofs.Tryz.prog) (fm := m53) (n := 53) (u := u53) tab_mix l53
theorem sft0010101 : ∀ n x, ft0010101 n = some x → Sound Proofs.Tryz.prog n x := @tab_split Proofs.Tryz.prog 53 (fOne 52 (runF u52)) (fOne 53 (runF u53)) (@tab_one Proofs.Tryz.prog 52 (runF u52) t52) (@tab_one Proofs.Tryz.prog 53 (runF u53) t53)
theorem sft001010 : ∀ n x, ft001010 n = some x → Sound Proofs.Tryz.prog n x := @tab_split Proofs.Tryz.prog 52 ft0010100 ft0010101 sft0010100 sft0010101
theorem t54 : Sound Proofs.Tryz.prog 54 (runF u54) := fun_sound (P := Proofs.Tryz.prog) (fm := m54) (n := 54) (u := u54) tab_mix l54
theorem t55 : Sound Proofs.Tryz.prog 55 (runF u55) := fun_sound (P := Proofs.Tryz.prog) (fm := m55) (n := 55) (u := u55) tab_mix l55
theorem sft0010110 : ∀ n x, ft0010110 n = some x → Sound Proofs.Tryz.prog n x := @tab_split Proofs.Tryz.prog 55 (fOne 54 (runF u54)) (fOne 55 (runF u55)) (@tab_one Proofs.Tryz.prog 54 (runF u54) t54) (@tab_one Proofs.Tryz.prog 55 (runF u55) t55)
theorem t56 : Sound Proofs.Tryz.prog 56 (runF u56) := fun_sound (P := Proofs.Tryz.prog) (fm := m56) (n := 56) (u := u56) tab_mix l56
theorem t57 : Sound Proofs.Tryz.prog 57 (runF u57) := fun_sound (P := Proofs.Tryz.prog) (fm := m57) (n := 57) (u := u57) tab_mix l57
theorem sft0010111 : ∀ n x, ft0010111 n = some x → Sound Proofs.Tryz.prog n x := @tab_split Proofs.Tryz.prog 57 (fOne 56 (runF u56)) (fOne 57 (runF u57)) (@tab_one Proofs.Tryz.prog 56 (runF u56) t56) (@tab_one Proofs.Tryz.prog 57 (runF u57) t57)
theorem sft001011 : ∀ n x, ft001011 n = some x → Sound Proofs.Tryz.prog n x := @tab_split Proofs.Tryz.prog 56 ft0010110 ft0010111 sft0010110 sft0010111
theorem sft00101 : ∀ n x, ft00101 n = some x → Sound Proofs.Tryz.prog n x := @tab_split Proofs.Tryz.prog 54 ft001010 ft001011 sft001010 sft001011
theorem sft0010 : ∀ n x, ft0010 n = some x → Sound Proofs.Tryz.prog n x := @tab_split Proofs.Tryz.prog 50 ft00100 ft00101 sft00100 sft00101
theorem t58 : Sound Proofs.Tryz.prog 58 (runF u58) := fun_sound (P := Proofs.Tryz.prog) (fm := m58) (n := 58) (u := u58) tab_mix l58
theorem t59 : Sound Proofs.Tryz.prog 59 (runF u59) := fun_sound (P := Proofs.Tryz.prog) (fm := m59) (n := 59) (u := u59) tab_mix l59
theorem sft0011000 : ∀ n x, ft0011000 n = some x → Sound Proofs.Tryz.prog n x := @tab_split Proofs.Tryz.prog 59 (fOne 58 (runF u58)) (fOne 59 (runF u59)) (@tab_one Proofs.Tryz.prog 58 (runF u58) t58) (@tab_one Proofs.Tryz.prog 59 (runF u59) t59)
theorem t60 : Sound Proofs.Tryz.prog 60 (runF u60) := fun_sound (P := Proofs.Tryz.prog) (fm := m60) (n := 60) (u := u60) tab_mix l60
theorem t61 : Sound Proofs.Tryz.prog 61 (runF u61) := fun_sound (P := Proofs.Tryz.prog) (fm := m61) (n := 61) (u := u61) tab_mix l61
theorem sft0011001 : ∀ n x, ft0011001 n = some x → Sound Proofs.Tryz.prog n x := @tab_split Proofs.Tryz.prog 61 (fOne 60 (runF u60)) (fOne 61 (runF u61)) (@tab_one Proofs.Tryz.prog 60 (runF u60) t60) (@tab_one Proofs.Tryz.prog 61 (runF u61) t61)
theorem sft001100 : ∀ n x, ft001100 n = some x → Sound Proofs.Tryz.prog n x := @tab_split Proofs.Tryz.prog 60 ft0011000 ft0011001 sft0011000 sft0011001
theorem t62 : Sound Proofs.Tryz.prog 62 (runF u62) := fun_sound (P := Proofs.Tryz.prog) (fm := m62) (n := 62) (u := u62) tab_mix l62
theorem t63 : Sound Proofs.Tryz.prog 63 (runF u63) := fun_sound (P := Proofs.Tryz.prog) (fm := m63) (n := 63) (u := u63) tab_mix l63
theorem sft0011010 : ∀ n x, ft0011010 n = some x → Sound Proofs.Tryz.prog n x := @tab_split Proofs.Tryz.prog 63 (fOne 62 (runF u62)) (fOne 63 (runF u63)) (@tab_one Proofs.Tryz.prog 62 (runF u62) t62) (@tab_one Proofs.Tryz.prog 63 (runF u63) t63)
theorem t64 : Sound Proofs.Tryz.prog 64 (runF u64) := fun_sound (P := Proofs.Tryz.prog) (fm := m64) (n := 64) (u := u64) tab_mix l64
theorem t65 : Sound Proofs.Tryz.prog 65 (runF u65) := fun_sound (P := Proofs.Tryz.prog) (fm := m65) (n := 65) (u := u65) tab_mix l65
theorem sft0011011 : ∀ n x, ft0011011 n = some x → Sound Proofs.Tryz.prog n x := @tab_split Proofs.Tryz.prog 65 (fOne 64 (runF u64)) (fOne 65 (runF u65)) (@tab_one Proofs.Tryz.prog 64 (runF u64) t64) (@tab_one Proofs.Tryz.prog 65 (runF u65) t65)
theorem sft001101 : ∀ n x, ft001101 n = some x → Sound Proofs.Tryz.prog n x := @tab_split Proofs.Tryz.prog 64 ft0011010 ft0011011 sft0011010 sft0011011
theorem sft00110 : ∀ n x, ft00110 n = some x → Sound Proofs.Tryz.prog n x := @tab_split Proofs.Tryz.prog 62 ft001100 ft001101 sft001100 sft001101
theorem t66 : Sound Proofs.Tryz.prog 66 (runF u66) := fun_sound (P := Proofs.Tryz.prog) (fm := m66) (n := 66) (u := u66) tab_mix l66
theorem t67 : Sound Proofs.Tryz.prog 67 (runF u67) := fun_sound (P := Proofs.Tryz.prog) (fm := m67) (n := 67) (u := u67) tab_mix l67
theorem sft0011100 : ∀ n x, ft0011100 n = some x → Sound Proofs.Tryz.prog n x := @tab_split Proofs.Tryz.prog 67 (fOne 66 (runF u66)) (fOne 67 (runF u67)) (@tab_one Proofs.Tryz.prog 66 (runF u66) t66) (@tab_one Proofs.Tryz.prog 67 (runF u67) t67)
theorem t68 : Sound Proofs.Tryz.prog 68 (runF u68) := fun_sound (P := Proofs.Tryz.prog) (fm := m68) (n := 68) (u := u68) tab_mix l68
theorem t69 : Sound Proofs.Tryz.prog 69 (runF u69) := fun_sound (P := Proofs.Tryz.prog) (fm := m69) (n := 69) (u := u69) tab_mix l69
theorem sft0011101 : ∀ n x, ft0011101 n = some x → Sound Proofs.Tryz.prog n x := @tab_split Proofs.Tryz.prog 69 (fOne 68 (runF u68)) (fOne 69 (runF u69)) (@tab_one Proofs.Tryz.prog 68 (runF u68) t68) (@tab_one Proofs.Tryz.prog 69 (runF u69) t69)
theorem sft001110 : ∀ n x, ft001110 n = some x → Sound Proofs.Tryz.prog n x := @tab_split Proofs.Tryz.prog 68 ft0011100 ft0011101 sft0011100 sft0011101
theorem t70 : Sound Proofs.Tryz.prog 70 (runF u70) := fun_sound (P := Proofs.Tryz.prog) (fm := m70) (n := 70) (u := u70) tab_mix l70
theorem t71 : Sound Proofs.Tryz.prog 71 (runF u71) := fun_sound (P := Proofs.Tryz.prog) (fm := m71) (n := 71) (u := u71) tab_mix l71
theorem sft0011110 : ∀ n x, ft0011110 n = some x → Sound Proofs.Tryz.prog n x := @tab_split Proofs.Tryz.prog 71 (fOne 70 (runF u70)) (fOne 71 (runF u71)) (@tab_one Proofs.Tryz.prog 70 (runF u70) t70) (@tab_one Proofs.Tryz.prog 71 (runF u71) t71)
theorem t72 : Sound Proofs.Tryz.prog 72 (runF u72) := fun_sound (P := Proofs.Tryz.prog) (fm := m72) (n := 72) (u := u72) tab_mix l72
theorem t73 : Sound Proofs.Tryz.prog 73 oAdd := add_ok (P := Proofs.Tryz.prog) (n := 73) ⟨Proofs.Tryz.f73, Proofs.Tryz.func73, by kernel_rfl, by kernel_rfl, by kernel_rfl, by kernel_rfl⟩
theorem sft0011111 : ∀ n x, ft0011111 n = some x → Sound Proofs.Tryz.prog n x := @tab_split Proofs.Tryz.prog 73 (fOne 72 (runF u72)) (fOne 73 oAdd) (@tab_one Proofs.Tryz.prog 72 (runF u72) t72) (@tab_one Proofs.Tryz.prog 73 oAdd t73)
theorem sft001111 : ∀ n x, ft001111 n = some x → Sound Proofs.Tryz.prog n x := @tab_split Proofs.Tryz.prog 72 ft0011110 ft0011111 sft0011110 sft0011111
theorem sft00111 : ∀ n x, ft00111 n = some x → Sound Proofs.Tryz.prog n x := @tab_split Proofs.Tryz.prog 70 ft001110 ft001111 sft001110 sft001111
theorem sft0011 : ∀ n x, ft0011 n = some x → Sound Proofs.Tryz.prog n x := @tab_split Proofs.Tryz.prog 66 ft00110 ft00111 sft00110 sft00111
theorem sft001 : ∀ n x, ft001 n = some x → Sound Proofs.Tryz.prog n x := @tab_split Proofs.Tryz.prog 58 ft0010 ft0011 sft0010 sft0011
theorem sft00 : ∀ n x, ft00 n = some x → Sound Proofs.Tryz.prog n x := @tab_split Proofs.Tryz.prog 43 ft000 ft001 sft000 sft001
theorem t75 : Sound Proofs.Tryz.prog 75 (runF u75) := fun_sound (P := Proofs.Tryz.prog) (fm := m75) (n := 75) (u := u75) tab_mix l75
theorem t76 : Sound Proofs.Tryz.prog 76 (runF u76) := fun_sound (P := Proofs.Tryz.prog) (fm := m76) (n := 76) (u := u76) tab_mix l76
theorem sft0100001 : ∀ n x, ft0100001 n = some x → Sound Proofs.Tryz.prog n x := @tab_split Proofs.Tryz.prog 76 (fOne 75 (runF u75)) (fOne 76 (runF u76)) (@tab_one Proofs.Tryz.prog 75 (runF u75) t75) (@tab_one Proofs.Tryz.prog 76 (runF u76) t76)
theorem t74 : Sound Proofs.Tryz.prog 74 (runF u74) := fun_sound (P := Proofs.Tryz.prog) (fm := m74) (n := 74) (u := u74) tab_mix l74
theorem sft010000 : ∀ n x, ft010000 n = some x → Sound Proofs.Tryz.prog n x := @tab_split Proofs.Tryz.prog 75 (fOne 74 (runF u74)) ft0100001 (@tab_one Proofs.Tryz.prog 74 (runF u74) t74) sft0100001
theorem t77 : Sound Proofs.Tryz.prog 77 (runF u77) := fun_sound (P := Proofs.Tryz.prog) (fm := m77) (n := 77) (u := u77) tab_mix l77
theorem t83 : Sound Proofs.Tryz.prog 83 oLd64 := load64_ok (P := Proofs.Tryz.prog) (n := 83) ⟨Proofs.Tryz.f83, Proofs.Tryz.func83, by kernel_rfl, by kernel_rfl, by kernel_rfl, by kernel_rfl⟩
theorem sft0100010 : ∀ n x, ft0100010 n = some x → Sound Proofs.Tryz.prog n x := @tab_split Proofs.Tryz.prog 83 (fOne 77 (runF u77)) (fOne 83 oLd64) (@tab_one Proofs.Tryz.prog 77 (runF u77) t77) (@tab_one Proofs.Tryz.prog 83 oLd64 t83)
theorem t84 : Sound Proofs.Tryz.prog 84 (runF u84) := fun_sound (P := Proofs.Tryz.prog) (fm := m84) (n := 84) (u := u84) tab_mix l84
theorem t85 : Sound Proofs.Tryz.prog 85 (runF u85) := fun_sound (P := Proofs.Tryz.prog) (fm := m85) (n := 85) (u := u85) tab_mix l85
theorem sft0100011 : ∀ n x, ft0100011 n = some x → Sound Proofs.Tryz.prog n x := @tab_split Proofs.Tryz.prog 85 (fOne 84 (runF u84)) (fOne 85 (runF u85)) (@tab_one Proofs.Tryz.prog 84 (runF u84) t84) (@tab_one Proofs.Tryz.prog 85 (runF u85) t85)
theorem sft010001 : ∀ n x, ft010001 n = some x → Sound Proofs.Tryz.prog n x := @tab_split Proofs.Tryz.prog 84 ft0100010 ft0100011 sft0100010 sft0100011
theorem sft01000 : ∀ n x, ft01000 n = some x → Sound Proofs.Tryz.prog n x := @tab_split Proofs.Tryz.prog 77 ft010000 ft010001 sft010000 sft010001
theorem t86 : Sound Proofs.Tryz.prog 86 (runF u86) := fun_sound (P := Proofs.Tryz.prog) (fm := m86) (n := 86) (u := u86) tab_mix l86
theorem t87 : Sound Proofs.Tryz.prog 87 (runF u87) := fun_sound (P := Proofs.Tryz.prog) (fm := m87) (n := 87) (u := u87) tab_mix l87
theorem sft0100100 : ∀ n x, ft0100100 n = some x → Sound Proofs.Tryz.prog n x := @tab_split Proofs.Tryz.prog 87 (fOne 86 (runF u86)) (fOne 87 (runF u87)) (@tab_one Proofs.Tryz.prog 86 (runF u86) t86) (@tab_one Proofs.Tryz.prog 87 (runF u87) t87)
theorem t88 : Sound Proofs.Tryz.prog 88 (runF u88) := fun_sound (P := Proofs.Tryz.prog) (fm := m88) (n := 88) (u := u88) tab_mix l88
theorem t89 : Sound Proofs.Tryz.prog 89 (runF u89) := fun_sound (P := Proofs.Tryz.prog) (fm := m89) (n := 89) (u := u89) tab_mix l89
theorem sft0100101 : ∀ n x, ft0100101 n = some x → Sound Proofs.Tryz.prog n x := @tab_split Proofs.Tryz.prog 89 (fOne 88 (runF u88)) (fOne 89 (runF u89)) (@tab_one Proofs.Tryz.prog 88 (runF u88) t88) (@tab_one Proofs.Tryz.prog 89 (runF u89) t89)
theorem sft010010 : ∀ n x, ft010010 n = some x → Sound Proofs.Tryz.prog n x := @tab_split Proofs.Tryz.prog 88 ft0100100 ft0100101 sft0100100 sft0100101
theorem t90 : Sound Proofs.Tryz.prog 90 (runF u90) := fun_sound (P := Proofs.Tryz.prog) (fm := m90) (n := 90) (u := u90) tab_mix l90
theorem t91 : Sound Proofs.Tryz.prog 91 (runF u91) := fun_sound (P := Proofs.Tryz.prog) (fm := m91) (n := 91) (u := u91) tab_mix l91
theorem sft0100110 : ∀ n x, ft0100110 n = some x → Sound Proofs.Tryz.prog n x := @tab_split Proofs.Tryz.prog 91 (fOne 90 (runF u90)) (fOne 91 (runF u91)) (@tab_one Proofs.Tryz.prog 90 (runF u90) t90) (@tab_one Proofs.Tryz.prog 91 (runF u91) t91)
theorem t92 : Sound Proofs.Tryz.prog 92 (runF u92) := fun_sound (P := Proofs.Tryz.prog) (fm := m92) (n := 92) (u := u92) tab_mix l92
theorem t93 : Sound Proofs.Tryz.prog 93 (runF u93) := fun_sound (P := Proofs.Tryz.prog) (fm := m93) (n := 93) (u := u93) tab_mix l93
theorem sft0100111 : ∀ n x, ft0100111 n = some x → Sound Proofs.Tryz.prog n x := @tab_split Proofs.Tryz.prog 93 (fOne 92 (runF u92)) (fOne 93 (runF u93)) (@tab_one Proofs.Tryz.prog 92 (runF u92) t92) (@tab_one Proofs.Tryz.prog 93 (runF u93) t93)
theorem sft010011 : ∀ n x, ft010011 n = some x → Sound Proofs.Tryz.prog n x := @tab_split Proofs.Tryz.prog 92 ft0100110 ft0100111 sft0100110 sft0100111
theorem sft01001 : ∀ n x, ft01001 n = some x → Sound Proofs.Tryz.prog n x := @tab_split Proofs.Tryz.prog 90 ft010010 ft010011 sft010010 sft010011
theorem sft0100 : ∀ n x, ft0100 n = some x → Sound Proofs.Tryz.prog n x := @tab_split Proofs.Tryz.prog 86 ft01000 ft01001 sft01000 sft01001
theorem t94 : Sound Proofs.Tryz.prog 94 (runF u94) := fun_sound (P := Proofs.Tryz.prog) (fm := m94) (n := 94) (u := u94) tab_mix l94
theorem t95 : Sound Proofs.Tryz.prog 95 (runF u95) := fun_sound (P := Proofs.Tryz.prog) (fm := m95) (n := 95) (u := u95) tab_mix l95
theorem sft0101000 : ∀ n x, ft0101000 n = some x → Sound Proofs.Tryz.prog n x := @tab_split Proofs.Tryz.prog 95 (fOne 94 (runF u94)) (fOne 95 (runF u95)) (@tab_one Proofs.Tryz.prog 94 (runF u94) t94) (@tab_one Proofs.Tryz.prog 95 (runF u95) t95)
theorem t96 : Sound Proofs.Tryz.prog 96 (runF u96) := fun_sound (P := Proofs.Tryz.prog) (fm := m96) (n := 96) (u := u96) tab_mix l96
theorem t97 : Sound Proofs.Tryz.prog 97 (runF u97) := fun_sound (P := Proofs.Tryz.prog) (fm := m97) (n := 97) (u := u97) tab_mix l97
theorem sft0101001 : ∀ n x, ft0101001 n = some x → Sound Proofs.Tryz.prog n x := @tab_split Proofs.Tryz.prog 97 (fOne 96 (runF u96)) (fOne 97 (runF u97)) (@tab_one Proofs.Tryz.prog 96 (runF u96) t96) (@tab_one Proofs.Tryz.prog 97 (runF u97) t97)
theorem sft010100 : ∀ n x, ft010100 n = some x → Sound Proofs.Tryz.prog n x := @tab_split Proofs.Tryz.prog 96 ft0101000 ft0101001 sft0101000 sft0101001
theorem t98 : Sound Proofs.Tryz.prog 98 (runF u98) := fun_sound (P := Proofs.Tryz.prog) (fm := m98) (n := 98) (u := u98) tab_mix l98
theorem t99 : Sound Proofs.Tryz.prog 99 (runF u99) := fun_sound (P := Proofs.Tryz.prog) (fm := m99) (n := 99) (u := u99) tab_mix l99
theorem sft0101010 : ∀ n x, ft0101010 n = some x → Sound Proofs.Tryz.prog n x := @tab_split Proofs.Tryz.prog 99 (fOne 98 (runF u98)) (fOne 99 (runF u99)) (@tab_one Proofs.Tryz.prog 98 (runF u98) t98) (@tab_one Proofs.Tryz.prog 99 (runF u99) t99)
theorem t100 : Sound Proofs.Tryz.prog 100 (runF u100) := fun_sound (P := Proofs.Tryz.prog) (fm := m100) (n := 100) (u := u100) tab_mix l100
theorem t101 : Sound Proofs.Tryz.prog 101 (runF u101) := fun_sound (P := Proofs.Tryz.prog) (fm := m101) (n := 101) (u := u101) tab_mix l101
theorem sft0101011 : ∀ n x, ft0101011 n = some x → Sound Proofs.Tryz.prog n x := @tab_split Proofs.Tryz.prog 101 (fOne 100 (runF u100)) (fOne 101 (runF u101)) (@tab_one Proofs.Tryz.prog 100 (runF u100) t100) (@tab_one Proofs.Tryz.prog 101 (runF u101) t101)
theorem sft010101 : ∀ n x, ft010101 n = some x → Sound Proofs.Tryz.prog n x := @tab_split Proofs.Tryz.prog 100 ft0101010 ft0101011 sft0101010 sft0101011
theorem sft01010 : ∀ n x, ft01010 n = some x → Sound Proofs.Tryz.prog n x := @tab_split Proofs.Tryz.prog 98 ft010100 ft010101 sft010100 sft010101
theorem t102 : Sound Proofs.Tryz.prog 102 (runF u102) := fun_sound (P := Proofs.Tryz.prog) (fm := m102) (n := 102) (u := u102) tab_mix l102
theorem t103 : Sound Proofs.Tryz.prog 103 (runF u103) := fun_sound (P := Proofs.Tryz.prog) (fm := m103) (n := 103) (u := u103) tab_mix l103
theorem sft0101100 : ∀ n x, ft0101100 n = some x → Sound Proofs.Tryz.prog n x := @tab_split Proofs.Tryz.prog 103 (fOne 102 (runF u102)) (fOne 103 (runF u103)) (@tab_one Proofs.Tryz.prog 102 (runF u102) t102) (@tab_one Proofs.Tryz.prog 103 (runF u103) t103)
theorem t104 : Sound Proofs.Tryz.prog 104 (runF u104) := fun_sound (P := Proofs.Tryz.prog) (fm := m104) (n := 104) (u := u104) tab_mix l104
theorem t105 : Sound Proofs.Tryz.prog 105 (runF u105) := fun_sound (P := Proofs.Tryz.prog) (fm := m105) (n := 105) (u := u105) tab_mix l105
theorem sft0101101 : ∀ n x, ft0101101 n = some x → Sound Proofs.Tryz.prog n x := @tab_split Proofs.Tryz.prog 105 (fOne 104 (runF u104)) (fOne 105 (runF u105)) (@tab_one Proofs.Tryz.prog 104 (runF u104) t104) (@tab_one Proofs.Tryz.prog 105 (runF u105) t105)
theorem sft010110 : ∀ n x, ft010110 n = some x → Sound Proofs.Tryz.prog n x := @tab_split Proofs.Tryz.prog 104 ft0101100 ft0101101 sft0101100 sft0101101
theorem t106 : Sound Proofs.Tryz.prog 106 (runF u106) := fun_sound (P := Proofs.Tryz.prog) (fm := m106) (n := 106) (u := u106) tab_mix l106
theorem t107 : Sound Proofs.Tryz.prog 107 (runF u107) := fun_sound (P := Proofs.Tryz.prog) (fm := m107) (n := 107) (u := u107) tab_mix l107
theorem sft0101110 : ∀ n x, ft0101110 n = some x → Sound Proofs.Tryz.prog n x := @tab_split Proofs.Tryz.prog 107 (fOne 106 (runF u106)) (fOne 107 (runF u107)) (@tab_one Proofs.Tryz.prog 106 (runF u106) t106) (@tab_one Proofs.Tryz.prog 107 (runF u107) t107)
theorem t108 : Sound Proofs.Tryz.prog 108 (runF u108) := fun_sound (P := Proofs.Tryz.prog) (fm := m108) (n := 108) (u := u108) tab_mix l108
theorem t109 : Sound Proofs.Tryz.prog 109 (runF u109) := fun_sound (P := Proofs.Tryz.prog) (fm := m109) (n := 109) (u := u109) tab_mix l109
theorem sft0101111 : ∀ n x, ft0101111 n = some x → Sound Proofs.Tryz.prog n x := @tab_split Proofs.Tryz.prog 109 (fOne 108 (runF u108)) (fOne 109 (runF u109)) (@tab_one Proofs.Tryz.prog 108 (runF u108) t108) (@tab_one Proofs.Tryz.prog 109 (runF u109) t109)
theorem sft010111 : ∀ n x, ft010111 n = some x → Sound Proofs.Tryz.prog n x := @tab_split Proofs.Tryz.prog 108 ft0101110 ft0101111 sft0101110 sft0101111
theorem sft01011 : ∀ n x, ft01011 n = some x → Sound Proofs.Tryz.prog n x := @tab_split Proofs.Tryz.prog 106 ft010110 ft010111 sft010110 sft010111
theorem sft0101 : ∀ n x, ft0101 n = some x → Sound Proofs.Tryz.prog n x := @tab_split Proofs.Tryz.prog 102 ft01010 ft01011 sft01010 sft01011
theorem sft010 : ∀ n x, ft010 n = some x → Sound Proofs.Tryz.prog n x := @tab_split Proofs.Tryz.prog 94 ft0100 ft0101 sft0100 sft0101
theorem t111 : Sound Proofs.Tryz.prog 111 (runF u111) := fun_sound (P := Proofs.Tryz.prog) (fm := m111) (n := 111) (u := u111) tab_mix l111
theorem t112 : Sound Proofs.Tryz.prog 112 (runF u112) := fun_sound (P := Proofs.Tryz.prog) (fm := m112) (n := 112) (u := u112) tab_mix l112
theorem sft0110001 : ∀ n x, ft0110001 n = some x → Sound Proofs.Tryz.prog n x := @tab_split Proofs.Tryz.prog 112 (fOne 111 (runF u111)) (fOne 112 (runF u112)) (@tab_one Proofs.Tryz.prog 111 (runF u111) t111) (@tab_one Proofs.Tryz.prog 112 (runF u112) t112)
theorem t110 : Sound Proofs.Tryz.prog 110 (runF u110) := fun_sound (P := Proofs.Tryz.prog) (fm := m110) (n := 110) (u := u110) tab_mix l110
theorem sft011000 : ∀ n x, ft011000 n = some x → Sound Proofs.Tryz.prog n x := @tab_split Proofs.Tryz.prog 111 (fOne 110 (runF u110)) ft0110001 (@tab_one Proofs.Tryz.prog 110 (runF u110) t110) sft0110001
theorem t113 : Sound Proofs.Tryz.prog 113 (runF u113) := fun_sound (P := Proofs.Tryz.prog) (fm := m113) (n := 113) (u := u113) tab_mix l113
theorem t114 : Sound Proofs.Tryz.prog 114 (runF u114) := fun_sound (P := Proofs.Tryz.prog) (fm := m114) (n := 114) (u := u114) tab_mix l114
theorem sft0110010 : ∀ n x, ft0110010 n = some x → Sound Proofs.Tryz.prog n x := @tab_split Proofs.Tryz.prog 114 (fOne 113 (runF u113)) (fOne 114 (runF u114)) (@tab_one Proofs.Tryz.prog 113 (runF u113) t113) (@tab_one Proofs.Tryz.prog 114 (runF u114) t114)
theorem t115 : Sound Proofs.Tryz.prog 115 (runF u115) := fun_sound (P := Proofs.Tryz.prog) (fm := m115) (n := 115) (u := u115) tab_mix l115
theorem t116 : Sound Proofs.Tryz.prog 116 (runF u116) := fun_sound (P := Proofs.Tryz.prog) (fm := m116) (n := 116) (u := u116) tab_mix l116
theorem sft0110011 : ∀ n x, ft0110011 n = some x → Sound Proofs.Tryz.prog n x := @tab_split Proofs.Tryz.prog 116 (fOne 115 (runF u115)) (fOne 116 (runF u116)) (@tab_one Proofs.Tryz.prog 115 (runF u115) t115) (@tab_one Proofs.Tryz.prog 116 (runF u116) t116)
theorem sft011001 : ∀ n x, ft011001 n = some x → Sound Proofs.Tryz.prog n x := @tab_split Proofs.Tryz.prog 115 ft0110010 ft0110011 sft0110010 sft0110011
theorem sft01100 : ∀ n x, ft01100 n = some x → Sound Proofs.Tryz.prog n x := @tab_split Proofs.Tryz.prog 113 ft011000 ft011001 sft011000 sft011001
theorem t117 : Sound Proofs.Tryz.prog 117 (runF u117) := fun_sound (P := Proofs.Tryz.prog) (fm := m117) (n := 117) (u := u117) tab_mix l117
theorem t118 : Sound Proofs.Tryz.prog 118 (runF u118) := fun_sound (P := Proofs.Tryz.prog) (fm := m118) (n := 118) (u := u118) tab_mix l118
theorem sft0110100 : ∀ n x, ft0110100 n = some x → Sound Proofs.Tryz.prog n x := @tab_split Proofs.Tryz.prog 118 (fOne 117 (runF u117)) (fOne 118 (runF u118)) (@tab_one Proofs.Tryz.prog 117 (runF u117) t117) (@tab_one Proofs.Tryz.prog 118 (runF u118) t118)
theorem t119 : Sound Proofs.Tryz.prog 119 (runF u119) := fun_sound (P := Proofs.Tryz.prog) (fm := m119) (n := 119) (u := u119) tab_mix l119
theorem t120 : Sound Proofs.Tryz.prog 120 (runF u120) := fun_sound (P := Proofs.Tryz.prog) (fm := m120) (n := 120) (u := u120) tab_mix l120
theorem sft0110101 : ∀ n x, ft0110101 n = some x → Sound Proofs.Tryz.prog n x := @tab_split Proofs.Tryz.prog 120 (fOne 119 (runF u119)) (fOne 120 (runF u120)) (@tab_one Proofs.Tryz.prog 119 (runF u119) t119) (@tab_one Proofs.Tryz.prog 120 (runF u120) t120)
theorem sft011010 : ∀ n x, ft011010 n = some x → Sound Proofs.Tryz.prog n x := @tab_split Proofs.Tryz.prog 119 ft0110100 ft0110101 sft0110100 sft0110101
theorem t121 : Sound Proofs.Tryz.prog 121 (runF u121) := fun_sound (P := Proofs.Tryz.prog) (fm := m121) (n := 121) (u := u121) tab_mix l121
theorem t122 : Sound Proofs.Tryz.prog 122 (runF u122) := fun_sound (P := Proofs.Tryz.prog) (fm := m122) (n := 122) (u := u122) tab_mix l122
theorem sft0110110 : ∀ n x, ft0110110 n = some x → Sound Proofs.Tryz.prog n x := @tab_split Proofs.Tryz.prog 122 (fOne 121 (runF u121)) (fOne 122 (runF u122)) (@tab_one Proofs.Tryz.prog 121 (runF u121) t121) (@tab_one Proofs.Tryz.prog 122 (runF u122) t122)
theorem t123 : Sound Proofs.Tryz.prog 123 (runF u123) := fun_sound (P := Proofs.Tryz.prog) (fm := m123) (n := 123) (u := u123) tab_mix l123
theorem t124 : Sound Proofs.Tryz.prog 124 (runF u124) := fun_sound (P := Proofs.Tryz.prog) (fm := m124) (n := 124) (u := u124) tab_mix l124
theorem sft0110111 : ∀ n x, ft0110111 n = some x → Sound Proofs.Tryz.prog n x := @tab_split Proofs.Tryz.prog 124 (fOne 123 (runF u123)) (fOne 124 (runF u124)) (@tab_one Proofs.Tryz.prog 123 (runF u123) t123) (@tab_one Proofs.Tryz.prog 124 (runF u124) t124)
theorem sft011011 : ∀ n x, ft011011 n = some x → Sound Proofs.Tryz.prog n x := @tab_split Proofs.Tryz.prog 123 ft0110110 ft0110111 sft0110110 sft0110111
theorem sft01101 : ∀ n x, ft01101 n = some x → Sound Proofs.Tryz.prog n x := @tab_split Proofs.Tryz.prog 121 ft011010 ft011011 sft011010 sft011011
theorem sft0110 : ∀ n x, ft0110 n = some x → Sound Proofs.Tryz.prog n x := @tab_split Proofs.Tryz.prog 117 ft01100 ft01101 sft01100 sft01101
theorem t125 : Sound Proofs.Tryz.prog 125 (runF u125) := fun_sound (P := Proofs.Tryz.prog) (fm := m125) (n := 125) (u := u125) tab_mix l125
theorem t126 : Sound Proofs.Tryz.prog 126 (runF u126) := fun_sound (P := Proofs.Tryz.prog) (fm := m126) (n := 126) (u := u126) tab_mix l126
theorem sft0111000 : ∀ n x, ft0111000 n = some x → Sound Proofs.Tryz.prog n x := @tab_split Proofs.Tryz.prog 126 (fOne 125 (runF u125)) (fOne 126 (runF u126)) (@tab_one Proofs.Tryz.prog 125 (runF u125) t125) (@tab_one Proofs.Tryz.prog 126 (runF u126) t126)
theorem t130 : Sound Proofs.Tryz.prog 130 (runF u130) := fun_sound (P := Proofs.Tryz.prog) (fm := m130) (n := 130) (u := u130) tab_mix l130
theorem t135 : Sound Proofs.Tryz.prog 135 (runF u135) := fun_sound (P := Proofs.Tryz.prog) (fm := m135) (n := 135) (u := u135) tab_mix l135
theorem sft0111001 : ∀ n x, ft0111001 n = some x → Sound Proofs.Tryz.prog n x := @tab_split Proofs.Tryz.prog 135 (fOne 130 (runF u130)) (fOne 135 (runF u135)) (@tab_one Proofs.Tryz.prog 130 (runF u130) t130) (@tab_one Proofs.Tryz.prog 135 (runF u135) t135)
theorem sft011100 : ∀ n x, ft011100 n = some x → Sound Proofs.Tryz.prog n x := @tab_split Proofs.Tryz.prog 130 ft0111000 ft0111001 sft0111000 sft0111001
theorem t136 : Sound Proofs.Tryz.prog 136 (runF u136) := fun_sound (P := Proofs.Tryz.prog) (fm := m136) (n := 136) (u := u136) tab_mix l136
theorem t137 : Sound Proofs.Tryz.prog 137 (runF u137) := fun_sound (P := Proofs.Tryz.prog) (fm := m137) (n := 137) (u := u137) tab_mix l137
theorem sft0111010 : ∀ n x, ft0111010 n = some x → Sound Proofs.Tryz.prog n x := @tab_split Proofs.Tryz.prog 137 (fOne 136 (runF u136)) (fOne 137 (runF u137)) (@tab_one Proofs.Tryz.prog 136 (runF u136) t136) (@tab_one Proofs.Tryz.prog 137 (runF u137) t137)
theorem t138 : Sound Proofs.Tryz.prog 138 (runF u138) := fun_sound (P := Proofs.Tryz.prog) (fm := m138) (n := 138) (u := u138) tab_mix l138
theorem t139 : Sound Proofs.Tryz.prog 139 (runF u139) := fun_sound (P := Proofs.Tryz.prog) (fm := m139) (n := 139) (u := u139) tab_mix l139
theorem sft0111011 : ∀ n x, ft0111011 n = some x → Sound Proofs.Tryz.prog n x := @tab_split Proofs.Tryz.prog 139 (fOne 138 (runF u138)) (fOne 139 (runF u139)) (@tab_one Proofs.Tryz.prog 138 (runF u138) t138) (@tab_one Proofs.Tryz.prog 139 (runF u139) t139)
theorem sft011101 : ∀ n x, ft011101 n = some x → Sound Proofs.Tryz.prog n x := @tab_split Proofs.Tryz.prog 138 ft0111010 ft0111011 sft0111010 sft0111011
theorem sft01110 : ∀ n x, ft01110 n = some x → Sound Proofs.Tryz.prog n x := @tab_split Proofs.Tryz.prog 136 ft011100 ft011101 sft011100 sft011101
theorem t140 : Sound Proofs.Tryz.prog 140 (runF u140) := fun_sound (P := Proofs.Tryz.prog) (fm := m140) (n := 140) (u := u140) tab_mix l140
theorem t141 : Sound Proofs.Tryz.prog 141 (runF u141) := fun_sound (P := Proofs.Tryz.prog) (fm := m141) (n := 141) (u := u141) tab_mix l141
theorem sft0111100 : ∀ n x, ft0111100 n = some x → Sound Proofs.Tryz.prog n x := @tab_split Proofs.Tryz.prog 141 (fOne 140 (runF u140)) (fOne 141 (runF u141)) (@tab_one Proofs.Tryz.prog 140 (runF u140) t140) (@tab_one Proofs.Tryz.prog 141 (runF u141) t141)
theorem t142 : Sound Proofs.Tryz.prog 142 (runF u142) := fun_sound (P := Proofs.Tryz.prog) (fm := m142) (n := 142) (u := u142) tab_mix l142
theorem t143 : Sound Proofs.Tryz.prog 143 (runF u143) := fun_sound (P := Proofs.Tryz.prog) (fm := m143) (n := 143) (u := u143) tab_mix l143
theorem sft0111101 : ∀ n x, ft0111101 n = some x → Sound Proofs.Tryz.prog n x := @tab_split Proofs.Tryz.prog 143 (fOne 142 (runF u142)) (fOne 143 (runF u143)) (@tab_one Proofs.Tryz.prog 142 (runF u142) t142) (@tab_one Proofs.Tryz.prog 143 (runF u143) t143)
theorem sft011110 : ∀ n x, ft011110 n = some x → Sound Proofs.Tryz.prog n x := @tab_split Proofs.Tryz.prog 142 ft0111100 ft0111101 sft0111100 sft0111101
theorem t144 : Sound Proofs.Tryz.prog 144 (runF u144) := fun_sound (P := Proofs.Tryz.prog) (fm := m144) (n := 144) (u := u144) tab_mix l144
theorem t145 : Sound Proofs.Tryz.prog 145 (runF u145) := fun_sound (P := Proofs.Tryz.prog) (fm := m145) (n := 145) (u := u145) tab_mix l145
theorem sft0111110 : ∀ n x, ft0111110 n = some x → Sound Proofs.Tryz.prog n x := @tab_split Proofs.Tryz.prog 145 (fOne 144 (runF u144)) (fOne 145 (runF u145)) (@tab_one Proofs.Tryz.prog 144 (runF u144) t144) (@tab_one Proofs.Tryz.prog 145 (runF u145) t145)
theorem t146 : Sound Proofs.Tryz.prog 146 (runF u146) := fun_sound (P := Proofs.Tryz.prog) (fm := m146) (n := 146) (u := u146) tab_mix l146
theorem t147 : Sound Proofs.Tryz.prog 147 (runF u147) := fun_sound (P := Proofs.Tryz.prog) (fm := m147) (n := 147) (u := u147) tab_mix l147
theorem sft0111111 : ∀ n x, ft0111111 n = some x → Sound Proofs.Tryz.prog n x := @tab_split Proofs.Tryz.prog 147 (fOne 146 (runF u146)) (fOne 147 (runF u147)) (@tab_one Proofs.Tryz.prog 146 (runF u146) t146) (@tab_one Proofs.Tryz.prog 147 (runF u147) t147)
theorem sft011111 : ∀ n x, ft011111 n = some x → Sound Proofs.Tryz.prog n x := @tab_split Proofs.Tryz.prog 146 ft0111110 ft0111111 sft0111110 sft0111111
theorem sft01111 : ∀ n x, ft01111 n = some x → Sound Proofs.Tryz.prog n x := @tab_split Proofs.Tryz.prog 144 ft011110 ft011111 sft011110 sft011111
theorem sft0111 : ∀ n x, ft0111 n = some x → Sound Proofs.Tryz.prog n x := @tab_split Proofs.Tryz.prog 140 ft01110 ft01111 sft01110 sft01111
theorem sft011 : ∀ n x, ft011 n = some x → Sound Proofs.Tryz.prog n x := @tab_split Proofs.Tryz.prog 125 ft0110 ft0111 sft0110 sft0111
theorem sft01 : ∀ n x, ft01 n = some x → Sound Proofs.Tryz.prog n x := @tab_split Proofs.Tryz.prog 110 ft010 ft011 sft010 sft011
theorem sft0 : ∀ n x, ft0 n = some x → Sound Proofs.Tryz.prog n x := @tab_split Proofs.Tryz.prog 74 ft00 ft01 sft00 sft01
theorem t149 : Sound Proofs.Tryz.prog 149 (runF u149) := fun_sound (P := Proofs.Tryz.prog) (fm := m149) (n := 149) (u := u149) tab_mix l149
theorem t150 : Sound Proofs.Tryz.prog 150 (runF u150) := fun_sound (P := Proofs.Tryz.prog) (fm := m150) (n := 150) (u := u150) tab_mix l150
theorem sft1000001 : ∀ n x, ft1000001 n = some x → Sound Proofs.Tryz.prog n x := @tab_split Proofs.Tryz.prog 150 (fOne 149 (runF u149)) (fOne 150 (runF u150)) (@tab_one Proofs.Tryz.prog 149 (runF u149) t149) (@tab_one Proofs.Tryz.prog 150 (runF u150) t150)
theorem t148 : Sound Proofs.Tryz.prog 148 (runF u148) := fun_sound (P := Proofs.Tryz.prog) (fm := m148) (n := 148) (u := u148) tab_mix l148
theorem sft100000 : ∀ n x, ft100000 n = some x → Sound Proofs.Tryz.prog n x := @tab_split Proofs.Tryz.prog 149 (fOne 148 (runF u148)) ft1000001 (@tab_one Proofs.Tryz.prog 148 (runF u148) t148) sft1000001
theorem t151 : Sound Proofs.Tryz.prog 151 (runF u151) := fun_sound (P := Proofs.Tryz.prog) (fm := m151) (n := 151) (u := u151) tab_mix l151
theorem t152 : Sound Proofs.Tryz.prog 152 (runF u152) := fun_sound (P := Proofs.Tryz.prog) (fm := m152) (n := 152) (u := u152) tab_mix l152
theorem sft1000010 : ∀ n x, ft1000010 n = some x → Sound Proofs.Tryz.prog n x := @tab_split Proofs.Tryz.prog 152 (fOne 151 (runF u151)) (fOne 152 (runF u152)) (@tab_one Proofs.Tryz.prog 151 (runF u151) t151) (@tab_one Proofs.Tryz.prog 152 (runF u152) t152)
theorem t153 : Sound Proofs.Tryz.prog 153 (runF u153) := fun_sound (P := Proofs.Tryz.prog) (fm := m153) (n := 153) (u := u153) tab_mix l153
theorem t154 : Sound Proofs.Tryz.prog 154 (runF u154) := fun_sound (P := Proofs.Tryz.prog) (fm := m154) (n := 154) (u := u154) tab_mix l154
theorem sft1000011 : ∀ n x, ft1000011 n = some x → Sound Proofs.Tryz.prog n x := @tab_split Proofs.Tryz.prog 154 (fOne 153 (runF u153)) (fOne 154 (runF u154)) (@tab_one Proofs.Tryz.prog 153 (runF u153) t153) (@tab_one Proofs.Tryz.prog 154 (runF u154) t154)
theorem sft100001 : ∀ n x, ft100001 n = some x → Sound Proofs.Tryz.prog n x := @tab_split Proofs.Tryz.prog 153 ft1000010 ft1000011 sft1000010 sft1000011
theorem sft10000 : ∀ n x, ft10000 n = some x → Sound Proofs.Tryz.prog n x := @tab_split Proofs.Tryz.prog 151 ft100000 ft100001 sft100000 sft100001
theorem t155 : Sound Proofs.Tryz.prog 155 (runF u155) := fun_sound (P := Proofs.Tryz.prog) (fm := m155) (n := 155) (u := u155) tab_mix l155
theorem t156 : Sound Proofs.Tryz.prog 156 (runF u156) := fun_sound (P := Proofs.Tryz.prog) (fm := m156) (n := 156) (u := u156) tab_mix l156
theorem sft1000100 : ∀ n x, ft1000100 n = some x → Sound Proofs.Tryz.prog n x := @tab_split Proofs.Tryz.prog 156 (fOne 155 (runF u155)) (fOne 156 (runF u156)) (@tab_one Proofs.Tryz.prog 155 (runF u155) t155) (@tab_one Proofs.Tryz.prog 156 (runF u156) t156)
theorem t157 : Sound Proofs.Tryz.prog 157 (runF u157) := fun_sound (P := Proofs.Tryz.prog) (fm := m157) (n := 157) (u := u157) tab_mix l157
theorem t158 : Sound Proofs.Tryz.prog 158 (runF u158) := fun_sound (P := Proofs.Tryz.prog) (fm := m158) (n := 158) (u := u158) tab_mix l158
theorem sft1000101 : ∀ n x, ft1000101 n = some x → Sound Proofs.Tryz.prog n x := @tab_split Proofs.Tryz.prog 158 (fOne 157 (runF u157)) (fOne 158 (runF u158)) (@tab_one Proofs.Tryz.prog 157 (runF u157) t157) (@tab_one Proofs.Tryz.prog 158 (runF u158) t158)
theorem sft100010 : ∀ n x, ft100010 n = some x → Sound Proofs.Tryz.prog n x := @tab_split Proofs.Tryz.prog 157 ft1000100 ft1000101 sft1000100 sft1000101
theorem t159 : Sound Proofs.Tryz.prog 159 (runF u159) := fun_sound (P := Proofs.Tryz.prog) (fm := m159) (n := 159) (u := u159) tab_mix l159
theorem t160 : Sound Proofs.Tryz.prog 160 (runF u160) := fun_sound (P := Proofs.Tryz.prog) (fm := m160) (n := 160) (u := u160) tab_mix l160
theorem sft1000110 : ∀ n x, ft1000110 n = some x → Sound Proofs.Tryz.prog n x := @tab_split Proofs.Tryz.prog 160 (fOne 159 (runF u159)) (fOne 160 (runF u160)) (@tab_one Proofs.Tryz.prog 159 (runF u159) t159) (@tab_one Proofs.Tryz.prog 160 (runF u160) t160)
theorem t161 : Sound Proofs.Tryz.prog 161 (runF u161) := fun_sound (P := Proofs.Tryz.prog) (fm := m161) (n := 161) (u := u161) tab_mix l161
theorem t162 : Sound Proofs.Tryz.prog 162 (runF u162) := fun_sound (P := Proofs.Tryz.prog) (fm := m162) (n := 162) (u := u162) tab_mix l162
theorem sft1000111 : ∀ n x, ft1000111 n = some x → Sound Proofs.Tryz.prog n x := @tab_split Proofs.Tryz.prog 162 (fOne 161 (runF u161)) (fOne 162 (runF u162)) (@tab_one Proofs.Tryz.prog 161 (runF u161) t161) (@tab_one Proofs.Tryz.prog 162 (runF u162) t162)
theorem sft100011 : ∀ n x, ft100011 n = some x → Sound Proofs.Tryz.prog n x := @tab_split Proofs.Tryz.prog 161 ft1000110 ft1000111 sft1000110 sft1000111
theorem sft10001 : ∀ n x, ft10001 n = some x → Sound Proofs.Tryz.prog n x := @tab_split Proofs.Tryz.prog 159 ft100010 ft100011 sft100010 sft100011
theorem sft1000 : ∀ n x, ft1000 n = some x → Sound Proofs.Tryz.prog n x := @tab_split Proofs.Tryz.prog 155 ft10000 ft10001 sft10000 sft10001
theorem t164 : Sound Proofs.Tryz.prog 164 (runF u164) := fun_sound (P := Proofs.Tryz.prog) (fm := m164) (n := 164) (u := u164) tab_mix l164
theorem t165 : Sound Proofs.Tryz.prog 165 (runF u165) := fun_sound (P := Proofs.Tryz.prog) (fm := m165) (n := 165) (u := u165) tab_mix l165
theorem sft1001001 : ∀ n x, ft1001001 n = some x → Sound Proofs.Tryz.prog n x := @tab_split Proofs.Tryz.prog 165 (fOne 164 (runF u164)) (fOne 165 (runF u165)) (@tab_one Proofs.Tryz.prog 164 (runF u164) t164) (@tab_one Proofs.Tryz.prog 165 (runF u165) t165)
theorem t163 : Sound Proofs.Tryz.prog 163 (runF u163) := fun_sound (P := Proofs.Tryz.prog) (fm := m163) (n := 163) (u := u163) tab_mix l163
theorem sft100100 : ∀ n x, ft100100 n = some x → Sound Proofs.Tryz.prog n x := @tab_split Proofs.Tryz.prog 164 (fOne 163 (runF u163)) ft1001001 (@tab_one Proofs.Tryz.prog 163 (runF u163) t163) sft1001001
theorem t166 : Sound Proofs.Tryz.prog 166 (runF u166) := fun_sound (P := Proofs.Tryz.prog) (fm := m166) (n := 166) (u := u166) tab_mix l166
theorem t167 : Sound Proofs.Tryz.prog 167 (runF u167) := fun_sound (P := Proofs.Tryz.prog) (fm := m167) (n := 167) (u := u167) tab_mix l167
theorem sft1001010 : ∀ n x, ft1001010 n = some x → Sound Proofs.Tryz.prog n x := @tab_split Proofs.Tryz.prog 167 (fOne 166 (runF u166)) (fOne 167 (runF u167)) (@tab_one Proofs.Tryz.prog 166 (runF u166) t166) (@tab_one Proofs.Tryz.prog 167 (runF u167) t167)
theorem t168 : Sound Proofs.Tryz.prog 168 (runF u168) := fun_sound (P := Proofs.Tryz.prog) (fm := m168) (n := 168) (u := u168) tab_mix l168
theorem t169 : Sound Proofs.Tryz.prog 169 (runF u169) := fun_sound (P := Proofs.Tryz.prog) (fm := m169) (n := 169) (u := u169) tab_mix l169
theorem sft1001011 : ∀ n x, ft1001011 n = some x → Sound Proofs.Tryz.prog n x := @tab_split Proofs.Tryz.prog 169 (fOne 168 (runF u168)) (fOne 169 (runF u169)) (@tab_one Proofs.Tryz.prog 168 (runF u168) t168) (@tab_one Proofs.Tryz.prog 169 (runF u169) t169)
theorem sft100101 : ∀ n x, ft100101 n = some x → Sound Proofs.Tryz.prog n x := @tab_split Proofs.Tryz.prog 168 ft1001010 ft1001011 sft1001010 sft1001011
theorem sft10010 : ∀ n x, ft10010 n = some x → Sound Proofs.Tryz.prog n x := @tab_split Proofs.Tryz.prog 166 ft100100 ft100101 sft100100 sft100101
theorem t170 : Sound Proofs.Tryz.prog 170 (runF u170) := fun_sound (P := Proofs.Tryz.prog) (fm := m170) (n := 170) (u := u170) tab_mix l170
theorem t171 : Sound Proofs.Tryz.prog 171 (runF u171) := fun_sound (P := Proofs.Tryz.prog) (fm := m171) (n := 171) (u := u171) tab_mix l171
theorem sft1001100 : ∀ n x, ft1001100 n = some x → Sound Proofs.Tryz.prog n x := @tab_split Proofs.Tryz.prog 171 (fOne 170 (runF u170)) (fOne 171 (runF u171)) (@tab_one Proofs.Tryz.prog 170 (runF u170) t170) (@tab_one Proofs.Tryz.prog 171 (runF u171) t171)
theorem t172 : Sound Proofs.Tryz.prog 172 (runF u172) := fun_sound (P := Proofs.Tryz.prog) (fm := m172) (n := 172) (u := u172) tab_mix l172
theorem t173 : Sound Proofs.Tryz.prog 173 (runF u173) := fun_sound (P := Proofs.Tryz.prog) (fm := m173) (n := 173) (u := u173) tab_mix l173
theorem sft1001101 : ∀ n x, ft1001101 n = some x → Sound Proofs.Tryz.prog n x := @tab_split Proofs.Tryz.prog 173 (fOne 172 (runF u172)) (fOne 173 (runF u173)) (@tab_one Proofs.Tryz.prog 172 (runF u172) t172) (@tab_one Proofs.Tryz.prog 173 (runF u173) t173)
theorem sft100110 : ∀ n x, ft100110 n = some x → Sound Proofs.Tryz.prog n x := @tab_split Proofs.Tryz.prog 172 ft1001100 ft1001101 sft1001100 sft1001101
theorem t174 : Sound Proofs.Tryz.prog 174 (runF u174) := fun_sound (P := Proofs.Tryz.prog) (fm := m174) (n := 174) (u := u174) tab_mix l174
theorem t175 : Sound Proofs.Tryz.prog 175 (runF u175) := fun_sound (P := Proofs.Tryz.prog) (fm := m175) (n := 175) (u := u175) tab_mix l175
theorem sft1001110 : ∀ n x, ft1001110 n = some x → Sound Proofs.Tryz.prog n x := @tab_split Proofs.Tryz.prog 175 (fOne 174 (runF u174)) (fOne 175 (runF u175)) (@tab_one Proofs.Tryz.prog 174 (runF u174) t174) (@tab_one Proofs.Tryz.prog 175 (runF u175) t175)
theorem t176 : Sound Proofs.Tryz.prog 176 (runF u176) := fun_sound (P := Proofs.Tryz.prog) (fm := m176) (n := 176) (u := u176) tab_mix l176
theorem t177 : Sound Proofs.Tryz.prog 177 (runF u177) := fun_sound (P := Proofs.Tryz.prog) (fm := m177) (n := 177) (u := u177) tab_mix l177
theorem sft1001111 : ∀ n x, ft1001111 n = some x → Sound Proofs.Tryz.prog n x := @tab_split Proofs.Tryz.prog 177 (fOne 176 (runF u176)) (fOne 177 (runF u177)) (@tab_one Proofs.Tryz.prog 176 (runF u176) t176) (@tab_one Proofs.Tryz.prog 177 (runF u177) t177)
theorem sft100111 : ∀ n x, ft100111 n = some x → Sound Proofs.Tryz.prog n x := @tab_split Proofs.Tryz.prog 176 ft1001110 ft1001111 sft1001110 sft1001111
theorem sft10011 : ∀ n x, ft10011 n = some x → Sound Proofs.Tryz.prog n x := @tab_split Proofs.Tryz.prog 174 ft100110 ft100111 sft100110 sft100111
theorem sft1001 : ∀ n x, ft1001 n = some x → Sound Proofs.Tryz.prog n x := @tab_split Proofs.Tryz.prog 170 ft10010 ft10011 sft10010 sft10011
theorem sft100 : ∀ n x, ft100 n = some x → Sound Proofs.Tryz.prog n x := @tab_split Proofs.Tryz.prog 163 ft1000 ft1001 sft1000 sft1001
theorem t184 : Sound Proofs.Tryz.prog 184 (runF u184) := fun_sound (P := Proofs.Tryz.prog) (fm := m184) (n := 184) (u := u184) tab_mix l184
theorem t185 : Sound Proofs.Tryz.prog 185 (runF u185) := fun_sound (P := Proofs.Tryz.prog) (fm := m185) (n := 185) (u := u185) tab_mix l185
theorem sft1010001 : ∀ n x, ft1010001 n = some x → Sound Proofs.Tryz.prog n x := @tab_split Proofs.Tryz.prog 185 (fOne 184 (runF u184)) (fOne 185 (runF u185)) (@tab_one Proofs.Tryz.prog 184 (runF u184) t184) (@tab_one Proofs.Tryz.prog 185 (runF u185) t185)
theorem t183 : Sound Proofs.Tryz.prog 183 (runF u183) := fun_sound (P := Proofs.Tryz.prog) (fm := m183) (n := 183) (u := u183) tab_mix l183
theorem sft101000 : ∀ n x, ft101000 n = some x → Sound Proofs.Tryz.prog n x := @tab_split Proofs.Tryz.prog 184 (fOne 183 (runF u183)) ft1010001 (@tab_one Proofs.Tryz.prog 183 (runF u183) t183) sft1010001
theorem t186 : Sound Proofs.Tryz.prog 186 (runF u186) := fun_sound (P := Proofs.Tryz.prog) (fm := m186) (n := 186) (u := u186) tab_mix l186
theorem t187 : Sound Proofs.Tryz.prog 187 (runF u187) := fun_sound (P := Proofs.Tryz.prog) (fm := m187) (n := 187) (u := u187) tab_mix l187
theorem sft1010010 : ∀ n x, ft1010010 n = some x → Sound Proofs.Tryz.prog n x := @tab_split Proofs.Tryz.prog 187 (fOne 186 (runF u186)) (fOne 187 (runF u187)) (@tab_one Proofs.Tryz.prog 186 (runF u186) t186) (@tab_one Proofs.Tryz.prog 187 (runF u187) t187)
theorem t188 : Sound Proofs.Tryz.prog 188 (runF u188) := fun_sound (P := Proofs.Tryz.prog) (fm := m188) (n := 188) (u := u188) tab_mix l188
theorem t189 : Sound Proofs.Tryz.prog 189 (runF u189) := fun_sound (P := Proofs.Tryz.prog) (fm := m189) (n := 189) (u := u189) tab_mix l189
theorem sft1010011 : ∀ n x, ft1010011 n = some x → Sound Proofs.Tryz.prog n x := @tab_split Proofs.Tryz.prog 189 (fOne 188 (runF u188)) (fOne 189 (runF u189)) (@tab_one Proofs.Tryz.prog 188 (runF u188) t188) (@tab_one Proofs.Tryz.prog 189 (runF u189) t189)
theorem sft101001 : ∀ n x, ft101001 n = some x → Sound Proofs.Tryz.prog n x := @tab_split Proofs.Tryz.prog 188 ft1010010 ft1010011 sft1010010 sft1010011
theorem sft10100 : ∀ n x, ft10100 n = some x → Sound Proofs.Tryz.prog n x := @tab_split Proofs.Tryz.prog 186 ft101000 ft101001 sft101000 sft101001
theorem t190 : Sound Proofs.Tryz.prog 190 (runF u190) := fun_sound (P := Proofs.Tryz.prog) (fm := m190) (n := 190) (u := u190) tab_mix l190
theorem t191 : Sound Proofs.Tryz.prog 191 (runF u191) := fun_sound (P := Proofs.Tryz.prog) (fm := m191) (n := 191) (u := u191) tab_mix l191
theorem sft1010100 : ∀ n x, ft1010100 n = some x → Sound Proofs.Tryz.prog n x := @tab_split Proofs.Tryz.prog 191 (fOne 190 (runF u190)) (fOne 191 (runF u191)) (@tab_one Proofs.Tryz.prog 190 (runF u190) t190) (@tab_one Proofs.Tryz.prog 191 (runF u191) t191)
theorem t192 : Sound Proofs.Tryz.prog 192 (runF u192) := fun_sound (P := Proofs.Tryz.prog) (fm := m192) (n := 192) (u := u192) tab_mix l192
theorem t193 : Sound Proofs.Tryz.prog 193 (runF u193) := fun_sound (P := Proofs.Tryz.prog) (fm := m193) (n := 193) (u := u193) tab_mix l193
theorem sft1010101 : ∀ n x, ft1010101 n = some x → Sound Proofs.Tryz.prog n x := @tab_split Proofs.Tryz.prog 193 (fOne 192 (runF u192)) (fOne 193 (runF u193)) (@tab_one Proofs.Tryz.prog 192 (runF u192) t192) (@tab_one Proofs.Tryz.prog 193 (runF u193) t193)
theorem sft101010 : ∀ n x, ft101010 n = some x → Sound Proofs.Tryz.prog n x := @tab_split Proofs.Tryz.prog 192 ft1010100 ft1010101 sft1010100 sft1010101
theorem t194 : Sound Proofs.Tryz.prog 194 (runF u194) := fun_sound (P := Proofs.Tryz.prog) (fm := m194) (n := 194) (u := u194) tab_mix l194
theorem t195 : Sound Proofs.Tryz.prog 195 (runF u195) := fun_sound (P := Proofs.Tryz.prog) (fm := m195) (n := 195) (u := u195) tab_mix l195
theorem sft1010110 : ∀ n x, ft1010110 n = some x → Sound Proofs.Tryz.prog n x := @tab_split Proofs.Tryz.prog 195 (fOne 194 (runF u194)) (fOne 195 (runF u195)) (@tab_one Proofs.Tryz.prog 194 (runF u194) t194) (@tab_one Proofs.Tryz.prog 195 (runF u195) t195)
theorem t196 : Sound Proofs.Tryz.prog 196 (runF u196) := fun_sound (P := Proofs.Tryz.prog) (fm := m196) (n := 196) (u := u196) tab_mix l196
theorem t197 : Sound Proofs.Tryz.prog 197 (runF u197) := fun_sound (P := Proofs.Tryz.prog) (fm := m197) (n := 197) (u := u197) tab_mix l197
theorem sft1010111 : ∀ n x, ft1010111 n = some x → Sound Proofs.Tryz.prog n x := @tab_split Proofs.Tryz.prog 197 (fOne 196 (runF u196)) (fOne 197 (runF u197)) (@tab_one Proofs.Tryz.prog 196 (runF u196) t196) (@tab_one Proofs.Tryz.prog 197 (runF u197) t197)
theorem sft101011 : ∀ n x, ft101011 n = some x → Sound Proofs.Tryz.prog n x := @tab_split Proofs.Tryz.prog 196 ft1010110 ft1010111 sft1010110 sft1010111
theorem sft10101 : ∀ n x, ft10101 n = some x → Sound Proofs.Tryz.prog n x := @tab_split Proofs.Tryz.prog 194 ft101010 ft101011 sft101010 sft101011
theorem sft1010 : ∀ n x, ft1010 n = some x → Sound Proofs.Tryz.prog n x := @tab_split Proofs.Tryz.prog 190 ft10100 ft10101 sft10100 sft10101
theorem t198 : Sound Proofs.Tryz.prog 198 (runF u198) := fun_sound (P := Proofs.Tryz.prog) (fm := m198) (n := 198) (u := u198) tab_mix l198
theorem t199 : Sound Proofs.Tryz.prog 199 (runF u199) := fun_sound (P := Proofs.Tryz.prog) (fm := m199) (n := 199) (u := u199) tab_mix l199
theorem sft1011000 : ∀ n x, ft1011000 n = some x → Sound Proofs.Tryz.prog n x := @tab_split Proofs.Tryz.prog 199 (fOne 198 (runF u198)) (fOne 199 (runF u199)) (@tab_one Proofs.Tryz.prog 198 (runF u198) t198) (@tab_one Proofs.Tryz.prog 199 (runF u199) t199)
theorem t200 : Sound Proofs.Tryz.prog 200 (runF u200) := fun_sound (P := Proofs.Tryz.prog) (fm := m200) (n := 200) (u := u200) tab_mix l200
theorem t201 : Sound Proofs.Tryz.prog 201 (runF u201) := fun_sound (P := Proofs.Tryz.prog) (fm := m201) (n := 201) (u := u201) tab_mix l201
theorem sft1011001 : ∀ n x, ft1011001 n = some x → Sound Proofs.Tryz.prog n x := @tab_split Proofs.Tryz.prog 201 (fOne 200 (runF u200)) (fOne 201 (runF u201)) (@tab_one Proofs.Tryz.prog 200 (runF u200) t200) (@tab_one Proofs.Tryz.prog 201 (runF u201) t201)
theorem sft101100 : ∀ n x, ft101100 n = some x → Sound Proofs.Tryz.prog n x := @tab_split Proofs.Tryz.prog 200 ft1011000 ft1011001 sft1011000 sft1011001
theorem t202 : Sound Proofs.Tryz.prog 202 (runF u202) := fun_sound (P := Proofs.Tryz.prog) (fm := m202) (n := 202) (u := u202) tab_mix l202
theorem t203 : Sound Proofs.Tryz.prog 203 (runF u203) := fun_sound (P := Proofs.Tryz.prog) (fm := m203) (n := 203) (u := u203) tab_mix l203
theorem sft1011010 : ∀ n x, ft1011010 n = some x → Sound Proofs.Tryz.prog n x := @tab_split Proofs.Tryz.prog 203 (fOne 202 (runF u202)) (fOne 203 (runF u203)) (@tab_one Proofs.Tryz.prog 202 (runF u202) t202) (@tab_one Proofs.Tryz.prog 203 (runF u203) t203)
theorem t204 : Sound Proofs.Tryz.prog 204 (runF u204) := fun_sound (P := Proofs.Tryz.prog) (fm := m204) (n := 204) (u := u204) tab_mix l204
theorem t205 : Sound Proofs.Tryz.prog 205 (runF u205) := fun_sound (P := Proofs.Tryz.prog) (fm := m205) (n := 205) (u := u205) tab_mix l205
theorem sft1011011 : ∀ n x, ft1011011 n = some x → Sound Proofs.Tryz.prog n x := @tab_split Proofs.Tryz.prog 205 (fOne 204 (runF u204)) (fOne 205 (runF u205)) (@tab_one Proofs.Tryz.prog 204 (runF u204) t204) (@tab_one Proofs.Tryz.prog 205 (runF u205) t205)
theorem sft101101 : ∀ n x, ft101101 n = some x → Sound Proofs.Tryz.prog n x := @tab_split Proofs.Tryz.prog 204 ft1011010 ft1011011 sft1011010 sft1011011
theorem sft10110 : ∀ n x, ft10110 n = some x → Sound Proofs.Tryz.prog n x := @tab_split Proofs.Tryz.prog 202 ft101100 ft101101 sft101100 sft101101
theorem t206 : Sound Proofs.Tryz.prog 206 (runF u206) := fun_sound (P := Proofs.Tryz.prog) (fm := m206) (n := 206) (u := u206) tab_mix l206
theorem t207 : Sound Proofs.Tryz.prog 207 (runF u207) := fun_sound (P := Proofs.Tryz.prog) (fm := m207) (n := 207) (u := u207) tab_mix l207
theorem sft1011100 : ∀ n x, ft1011100 n = some x → Sound Proofs.Tryz.prog n x := @tab_split Proofs.Tryz.prog 207 (fOne 206 (runF u206)) (fOne 207 (runF u207)) (@tab_one Proofs.Tryz.prog 206 (runF u206) t206) (@tab_one Proofs.Tryz.prog 207 (runF u207) t207)
theorem t208 : Sound Proofs.Tryz.prog 208 (runF u208) := fun_sound (P := Proofs.Tryz.prog) (fm := m208) (n := 208) (u := u208) tab_mix l208
theorem t209 : Sound Proofs.Tryz.prog 209 (runF u209) := fun_sound (P := Proofs.Tryz.prog) (fm := m209) (n := 209) (u := u209) tab_mix l209
theorem sft1011101 : ∀ n x, ft1011101 n = some x → Sound Proofs.Tryz.prog n x := @tab_split Proofs.Tryz.prog 209 (fOne 208 (runF u208)) (fOne 209 (runF u209)) (@tab_one Proofs.Tryz.prog 208 (runF u208) t208) (@tab_one Proofs.Tryz.prog 209 (runF u209) t209)
theorem sft101110 : ∀ n x, ft101110 n = some x → Sound Proofs.Tryz.prog n x := @tab_split Proofs.Tryz.prog 208 ft1011100 ft1011101 sft1011100 sft1011101
theorem t210 : Sound Proofs.Tryz.prog 210 (runF u210) := fun_sound (P := Proofs.Tryz.prog) (fm := m210) (n := 210) (u := u210) tab_mix l210
theorem t211 : Sound Proofs.Tryz.prog 211 (runF u211) := fun_sound (P := Proofs.Tryz.prog) (fm := m211) (n := 211) (u := u211) tab_mix l211
theorem sft1011110 : ∀ n x, ft1011110 n = some x → Sound Proofs.Tryz.prog n x := @tab_split Proofs.Tryz.prog 211 (fOne 210 (runF u210)) (fOne 211 (runF u211)) (@tab_one Proofs.Tryz.prog 210 (runF u210) t210) (@tab_one Proofs.Tryz.prog 211 (runF u211) t211)
theorem t212 : Sound Proofs.Tryz.prog 212 (runF u212) := fun_sound (P := Proofs.Tryz.prog) (fm := m212) (n := 212) (u := u212) tab_mix l212
theorem t213 : Sound Proofs.Tryz.prog 213 (runF u213) := fun_sound (P := Proofs.Tryz.prog) (fm := m213) (n := 213) (u := u213) tab_mix l213
theorem sft1011111 : ∀ n x, ft1011111 n = some x → Sound Proofs.Tryz.prog n x := @tab_split Proofs.Tryz.prog 213 (fOne 212 (runF u212)) (fOne 213 (runF u213)) (@tab_one Proofs.Tryz.prog 212 (runF u212) t212) (@tab_one Proofs.Tryz.prog 213 (runF u213) t213)
theorem sft101111 : ∀ n x, ft101111 n = some x → Sound Proofs.Tryz.prog n x := @tab_split Proofs.Tryz.prog 212 ft1011110 ft1011111 sft1011110 sft1011111
theorem sft10111 : ∀ n x, ft10111 n = some x → Sound Proofs.Tryz.prog n x := @tab_split Proofs.Tryz.prog 210 ft101110 ft101111 sft101110 sft101111
theorem sft1011 : ∀ n x, ft1011 n = some x → Sound Proofs.Tryz.prog n x := @tab_split Proofs.Tryz.prog 206 ft10110 ft10111 sft10110 sft10111
theorem sft101 : ∀ n x, ft101 n = some x → Sound Proofs.Tryz.prog n x := @tab_split Proofs.Tryz.prog 198 ft1010 ft1011 sft1010 sft1011
theorem sft10 : ∀ n x, ft10 n = some x → Sound Proofs.Tryz.prog n x := @tab_split Proofs.Tryz.prog 183 ft100 ft101 sft100 sft101
theorem t215 : Sound Proofs.Tryz.prog 215 (runF u215) := fun_sound (P := Proofs.Tryz.prog) (fm := m215) (n := 215) (u := u215) tab_mix l215
theorem t216 : Sound Proofs.Tryz.prog 216 (runF u216) := fun_sound (P := Proofs.Tryz.prog) (fm := m216) (n := 216) (u := u216) tab_mix l216
theorem sft1100001 : ∀ n x, ft1100001 n = some x → Sound Proofs.Tryz.prog n x := @tab_split Proofs.Tryz.prog 216 (fOne 215 (runF u215)) (fOne 216 (runF u216)) (@tab_one Proofs.Tryz.prog 215 (runF u215) t215) (@tab_one Proofs.Tryz.prog 216 (runF u216) t216)
theorem t214 : Sound Proofs.Tryz.prog 214 (runF u214) := fun_sound (P := Proofs.Tryz.prog) (fm := m214) (n := 214) (u := u214) tab_mix l214
theorem sft110000 : ∀ n x, ft110000 n = some x → Sound Proofs.Tryz.prog n x := @tab_split Proofs.Tryz.prog 215 (fOne 214 (runF u214)) ft1100001 (@tab_one Proofs.Tryz.prog 214 (runF u214) t214) sft1100001
theorem t217 : Sound Proofs.Tryz.prog 217 (runF u217) := fun_sound (P := Proofs.Tryz.prog) (fm := m217) (n := 217) (u := u217) tab_mix l217
theorem t218 : Sound Proofs.Tryz.prog 218 (runF u218) := fun_sound (P := Proofs.Tryz.prog) (fm := m218) (n := 218) (u := u218) tab_mix l218
theorem sft1100010 : ∀ n x, ft1100010 n = some x → Sound Proofs.Tryz.prog n x := @tab_split Proofs.Tryz.prog 218 (fOne 217 (runF u217)) (fOne 218 (runF u218)) (@tab_one Proofs.Tryz.prog 217 (runF u217) t217) (@tab_one Proofs.Tryz.prog 218 (runF u218) t218)
theorem t219 : Sound Proofs.Tryz.prog 219 (runF u219) := fun_sound (P := Proofs.Tryz.prog) (fm := m219) (n := 219) (u := u219) tab_mix l219
theorem t220 : Sound Proofs.Tryz.prog 220 (runF u220) := fun_sound (P := Proofs.Tryz.prog) (fm := m220) (n := 220) (u := u220) tab_mix l220
theorem sft1100011 : ∀ n x, ft1100011 n = some x → Sound Proofs.Tryz.prog n x := @tab_split Proofs.Tryz.prog 220 (fOne 219 (runF u219)) (fOne 220 (runF u220)) (@tab_one Proofs.Tryz.prog 219 (runF u219) t219) (@tab_one Proofs.Tryz.prog 220 (runF u220) t220)
theorem sft110001 : ∀ n x, ft110001 n = some x → Sound Proofs.Tryz.prog n x := @tab_split Proofs.Tryz.prog 219 ft1100010 ft1100011 sft1100010 sft1100011
theorem sft11000 : ∀ n x, ft11000 n = some x → Sound Proofs.Tryz.prog n x := @tab_split Proofs.Tryz.prog 217 ft110000 ft110001 sft110000 sft110001
theorem t221 : Sound Proofs.Tryz.prog 221 (runF u221) := fun_sound (P := Proofs.Tryz.prog) (fm := m221) (n := 221) (u := u221) tab_mix l221
theorem t222 : Sound Proofs.Tryz.prog 222 (runF u222) := fun_sound (P := Proofs.Tryz.prog) (fm := m222) (n := 222) (u := u222) tab_mix l222
theorem sft1100100 : ∀ n x, ft1100100 n = some x → Sound Proofs.Tryz.prog n x := @tab_split Proofs.Tryz.prog 222 (fOne 221 (runF u221)) (fOne 222 (runF u222)) (@tab_one Proofs.Tryz.prog 221 (runF u221) t221) (@tab_one Proofs.Tryz.prog 222 (runF u222) t222)
theorem t223 : Sound Proofs.Tryz.prog 223 (runF u223) := fun_sound (P := Proofs.Tryz.prog) (fm := m223) (n := 223) (u := u223) tab_mix l223
theorem t224 : Sound Proofs.Tryz.prog 224 (runF u224) := fun_sound (P := Proofs.Tryz.prog) (fm := m224) (n := 224) (u := u224) tab_mix l224
theorem sft1100101 : ∀ n x, ft1100101 n = some x → Sound Proofs.Tryz.prog n x := @tab_split Proofs.Tryz.prog 224 (fOne 223 (runF u223)) (fOne 224 (runF u224)) (@tab_one Proofs.Tryz.prog 223 (runF u223) t223) (@tab_one Proofs.Tryz.prog 224 (runF u224) t224)
theorem sft110010 : ∀ n x, ft110010 n = some x → Sound Proofs.Tryz.prog n x := @tab_split Proofs.Tryz.prog 223 ft1100100 ft1100101 sft1100100 sft1100101
theorem t225 : Sound Proofs.Tryz.prog 225 (runF u225) := fun_sound (P := Proofs.Tryz.prog) (fm := m225) (n := 225) (u := u225) tab_mix l225
theorem t226 : Sound Proofs.Tryz.prog 226 (runF u226) := fun_sound (P := Proofs.Tryz.prog) (fm := m226) (n := 226) (u := u226) tab_mix l226
theorem sft1100110 : ∀ n x, ft1100110 n = some x → Sound Proofs.Tryz.prog n x := @tab_split Proofs.Tryz.prog 226 (fOne 225 (runF u225)) (fOne 226 (runF u226)) (@tab_one Proofs.Tryz.prog 225 (runF u225) t225) (@tab_one Proofs.Tryz.prog 226 (runF u226) t226)
theorem t227 : Sound Proofs.Tryz.prog 227 (runF u227) := fun_sound (P := Proofs.Tryz.prog) (fm := m227) (n := 227) (u := u227) tab_mix l227
theorem t228 : Sound Proofs.Tryz.prog 228 (runF u228) := fun_sound (P := Proofs.Tryz.prog) (fm := m228) (n := 228) (u := u228) tab_mix l228
theorem sft1100111 : ∀ n x, ft1100111 n = some x → Sound Proofs.Tryz.prog n x := @tab_split Proofs.Tryz.prog 228 (fOne 227 (runF u227)) (fOne 228 (runF u228)) (@tab_one Proofs.Tryz.prog 227 (runF u227) t227) (@tab_one Proofs.Tryz.prog 228 (runF u228) t228)
theorem sft110011 : ∀ n x, ft110011 n = some x → Sound Proofs.Tryz.prog n x := @tab_split Proofs.Tryz.prog 227 ft1100110 ft1100111 sft1100110 sft1100111
theorem sft11001 : ∀ n x, ft11001 n = some x → Sound Proofs.Tryz.prog n x := @tab_split Proofs.Tryz.prog 225 ft110010 ft110011 sft110010 sft110011
theorem sft1100 : ∀ n x, ft1100 n = some x → Sound Proofs.Tryz.prog n x := @tab_split Proofs.Tryz.prog 221 ft11000 ft11001 sft11000 sft11001
theorem t229 : Sound Proofs.Tryz.prog 229 (runF u229) := fun_sound (P := Proofs.Tryz.prog) (fm := m229) (n := 229) (u := u229) tab_mix l229
theorem t230 : Sound Proofs.Tryz.prog 230 (runF u230) := fun_sound (P := Proofs.Tryz.prog) (fm := m230) (n := 230) (u := u230) tab_mix l230
theorem sft1101000 : ∀ n x, ft1101000 n = some x → Sound Proofs.Tryz.prog n x := @tab_split Proofs.Tryz.prog 230 (fOne 229 (runF u229)) (fOne 230 (runF u230)) (@tab_one Proofs.Tryz.prog 229 (runF u229) t229) (@tab_one Proofs.Tryz.prog 230 (runF u230) t230)
theorem t231 : Sound Proofs.Tryz.prog 231 (runF u231) := fun_sound (P := Proofs.Tryz.prog) (fm := m231) (n := 231) (u := u231) tab_mix l231
theorem t232 : Sound Proofs.Tryz.prog 232 (runF u232) := fun_sound (P := Proofs.Tryz.prog) (fm := m232) (n := 232) (u := u232) tab_mix l232
theorem sft1101001 : ∀ n x, ft1101001 n = some x → Sound Proofs.Tryz.prog n x := @tab_split Proofs.Tryz.prog 232 (fOne 231 (runF u231)) (fOne 232 (runF u232)) (@tab_one Proofs.Tryz.prog 231 (runF u231) t231) (@tab_one Proofs.Tryz.prog 232 (runF u232) t232)
theorem sft110100 : ∀ n x, ft110100 n = some x → Sound Proofs.Tryz.prog n x := @tab_split Proofs.Tryz.prog 231 ft1101000 ft1101001 sft1101000 sft1101001
theorem t233 : Sound Proofs.Tryz.prog 233 (runF u233) := fun_sound (P := Proofs.Tryz.prog) (fm := m233) (n := 233) (u := u233) tab_mix l233
theorem t234 : Sound Proofs.Tryz.prog 234 (runF u234) := fun_sound (P := Proofs.Tryz.prog) (fm := m234) (n := 234) (u := u234) tab_mix l234
theorem sft1101010 : ∀ n x, ft1101010 n = some x → Sound Proofs.Tryz.prog n x := @tab_split Proofs.Tryz.prog 234 (fOne 233 (runF u233)) (fOne 234 (runF u234)) (@tab_one Proofs.Tryz.prog 233 (runF u233) t233) (@tab_one Proofs.Tryz.prog 234 (runF u234) t234)
theorem t235 : Sound Proofs.Tryz.prog 235 (runF u235) := fun_sound (P := Proofs.Tryz.prog) (fm := m235) (n := 235) (u := u235) tab_mix l235
theorem t236 : Sound Proofs.Tryz.prog 236 (runF u236) := fun_sound (P := Proofs.Tryz.prog) (fm := m236) (n := 236) (u := u236) tab_mix l236
theorem sft1101011 : ∀ n x, ft1101011 n = some x → Sound Proofs.Tryz.prog n x := @tab_split Proofs.Tryz.prog 236 (fOne 235 (runF u235)) (fOne 236 (runF u236)) (@tab_one Proofs.Tryz.prog 235 (runF u235) t235) (@tab_one Proofs.Tryz.prog 236 (runF u236) t236)
theorem sft110101 : ∀ n x, ft110101 n = some x → Sound Proofs.Tryz.prog n x := @tab_split Proofs.Tryz.prog 235 ft1101010 ft1101011 sft1101010 sft1101011
theorem sft11010 : ∀ n x, ft11010 n = some x → Sound Proofs.Tryz.prog n x := @tab_split Proofs.Tryz.prog 233 ft110100 ft110101 sft110100 sft110101
theorem t237 : Sound Proofs.Tryz.prog 237 (runF u237) := fun_sound (P := Proofs.Tryz.prog) (fm := m237) (n := 237) (u := u237) tab_mix l237
theorem t238 : Sound Proofs.Tryz.prog 238 (runF u238) := fun_sound (P := Proofs.Tryz.prog) (fm := m238) (n := 238) (u := u238) tab_mix l238
theorem sft1101100 : ∀ n x, ft1101100 n = some x → Sound Proofs.Tryz.prog n x := @tab_split Proofs.Tryz.prog 238 (fOne 237 (runF u237)) (fOne 238 (runF u238)) (@tab_one Proofs.Tryz.prog 237 (runF u237) t237) (@tab_one Proofs.Tryz.prog 238 (runF u238) t238)
theorem t239 : Sound Proofs.Tryz.prog 239 (runF u239) := fun_sound (P := Proofs.Tryz.prog) (fm := m239) (n := 239) (u := u239) tab_mix l239
theorem t240 : Sound Proofs.Tryz.prog 240 (runF u240) := fun_sound (P := Proofs.Tryz.prog) (fm := m240) (n := 240) (u := u240) tab_mix l240
theorem sft1101101 : ∀ n x, ft1101101 n = some x → Sound Proofs.Tryz.prog n x := @tab_split Proofs.Tryz.prog 240 (fOne 239 (runF u239)) (fOne 240 (runF u240)) (@tab_one Proofs.Tryz.prog 239 (runF u239) t239) (@tab_one Proofs.Tryz.prog 240 (runF u240) t240)
theorem sft110110 : ∀ n x, ft110110 n = some x → Sound Proofs.Tryz.prog n x := @tab_split Proofs.Tryz.prog 239 ft1101100 ft1101101 sft1101100 sft1101101
theorem t241 : Sound Proofs.Tryz.prog 241 (runF u241) := fun_sound (P := Proofs.Tryz.prog) (fm := m241) (n := 241) (u := u241) tab_mix l241
theorem t242 : Sound Proofs.Tryz.prog 242 (runF u242) := fun_sound (P := Proofs.Tryz.prog) (fm := m242) (n := 242) (u := u242) tab_mix l242
theorem sft1101110 : ∀ n x, ft1101110 n = some x → Sound Proofs.Tryz.prog n x := @tab_split Proofs.Tryz.prog 242 (fOne 241 (runF u241)) (fOne 242 (runF u242)) (@tab_one Proofs.Tryz.prog 241 (runF u241) t241) (@tab_one Proofs.Tryz.prog 242 (runF u242) t242)
theorem t243 : Sound Proofs.Tryz.prog 243 (runF u243) := fun_sound (P := Proofs.Tryz.prog) (fm := m243) (n := 243) (u := u243) tab_mix l243
theorem t244 : Sound Proofs.Tryz.prog 244 (runF u244) := fun_sound (P := Proofs.Tryz.prog) (fm := m244) (n := 244) (u := u244) tab_mix l244
theorem sft1101111 : ∀ n x, ft1101111 n = some x → Sound Proofs.Tryz.prog n x := @tab_split Proofs.Tryz.prog 244 (fOne 243 (runF u243)) (fOne 244 (runF u244)) (@tab_one Proofs.Tryz.prog 243 (runF u243) t243) (@tab_one Proofs.Tryz.prog 244 (runF u244) t244)
theorem sft110111 : ∀ n x, ft110111 n = some x → Sound Proofs.Tryz.prog n x := @tab_split Proofs.Tryz.prog 243 ft1101110 ft1101111 sft1101110 sft1101111
theorem sft11011 : ∀ n x, ft11011 n = some x → Sound Proofs.Tryz.prog n x := @tab_split Proofs.Tryz.prog 241 ft110110 ft110111 sft110110 sft110111
theorem sft1101 : ∀ n x, ft1101 n = some x → Sound Proofs.Tryz.prog n x := @tab_split Proofs.Tryz.prog 237 ft11010 ft11011 sft11010 sft11011
theorem sft110 : ∀ n x, ft110 n = some x → Sound Proofs.Tryz.prog n x := @tab_split Proofs.Tryz.prog 229 ft1100 ft1101 sft1100 sft1101
theorem t246 : Sound Proofs.Tryz.prog 246 (runF u246) := fun_sound (P := Proofs.Tryz.prog) (fm := m246) (n := 246) (u := u246) tab_mix l246
theorem t247 : Sound Proofs.Tryz.prog 247 (runF u247) := fun_sound (P := Proofs.Tryz.prog) (fm := m247) (n := 247) (u := u247) tab_mix l247
theorem sft1110001 : ∀ n x, ft1110001 n = some x → Sound Proofs.Tryz.prog n x := @tab_split Proofs.Tryz.prog 247 (fOne 246 (runF u246)) (fOne 247 (runF u247)) (@tab_one Proofs.Tryz.prog 246 (runF u246) t246) (@tab_one Proofs.Tryz.prog 247 (runF u247) t247)
theorem t245 : Sound Proofs.Tryz.prog 245 (runF u245) := fun_sound (P := Proofs.Tryz.prog) (fm := m245) (n := 245) (u := u245) tab_mix l245
theorem sft111000 : ∀ n x, ft111000 n = some x → Sound Proofs.Tryz.prog n x := @tab_split Proofs.Tryz.prog 246 (fOne 245 (runF u245)) ft1110001 (@tab_one Proofs.Tryz.prog 245 (runF u245) t245) sft1110001
theorem t248 : Sound Proofs.Tryz.prog 248 (runF u248) := fun_sound (P := Proofs.Tryz.prog) (fm := m248) (n := 248) (u := u248) tab_mix l248
theorem t249 : Sound Proofs.Tryz.prog 249 (runF u249) := fun_sound (P := Proofs.Tryz.prog) (fm := m249) (n := 249) (u := u249) tab_mix l249
theorem sft1110010 : ∀ n x, ft1110010 n = some x → Sound Proofs.Tryz.prog n x := @tab_split Proofs.Tryz.prog 249 (fOne 248 (runF u248)) (fOne 249 (runF u249)) (@tab_one Proofs.Tryz.prog 248 (runF u248) t248) (@tab_one Proofs.Tryz.prog 249 (runF u249) t249)
theorem t250 : Sound Proofs.Tryz.prog 250 (runF u250) := fun_sound (P := Proofs.Tryz.prog) (fm := m250) (n := 250) (u := u250) tab_mix l250
theorem t251 : Sound Proofs.Tryz.prog 251 (runF u251) := fun_sound (P := Proofs.Tryz.prog) (fm := m251) (n := 251) (u := u251) tab_mix l251
theorem sft1110011 : ∀ n x, ft1110011 n = some x → Sound Proofs.Tryz.prog n x := @tab_split Proofs.Tryz.prog 251 (fOne 250 (runF u250)) (fOne 251 (runF u251)) (@tab_one Proofs.Tryz.prog 250 (runF u250) t250) (@tab_one Proofs.Tryz.prog 251 (runF u251) t251)
theorem sft111001 : ∀ n x, ft111001 n = some x → Sound Proofs.Tryz.prog n x := @tab_split Proofs.Tryz.prog 250 ft1110010 ft1110011 sft1110010 sft1110011
theorem sft11100 : ∀ n x, ft11100 n = some x → Sound Proofs.Tryz.prog n x := @tab_split Proofs.Tryz.prog 248 ft111000 ft111001 sft111000 sft111001
theorem t252 : Sound Proofs.Tryz.prog 252 (runF u252) := fun_sound (P := Proofs.Tryz.prog) (fm := m252) (n := 252) (u := u252) tab_mix l252
theorem t253 : Sound Proofs.Tryz.prog 253 (runF u253) := fun_sound (P := Proofs.Tryz.prog) (fm := m253) (n := 253) (u := u253) tab_mix l253
theorem sft1110100 : ∀ n x, ft1110100 n = some x → Sound Proofs.Tryz.prog n x := @tab_split Proofs.Tryz.prog 253 (fOne 252 (runF u252)) (fOne 253 (runF u253)) (@tab_one Proofs.Tryz.prog 252 (runF u252) t252) (@tab_one Proofs.Tryz.prog 253 (runF u253) t253)
theorem t254 : Sound Proofs.Tryz.prog 254 (runF u254) := fun_sound (P := Proofs.Tryz.prog) (fm := m254) (n := 254) (u := u254) tab_mix l254
theorem t255 : Sound Proofs.Tryz.prog 255 (runF u255) := fun_sound (P := Proofs.Tryz.prog) (fm := m255) (n := 255) (u := u255) tab_mix l255
theorem sft1110101 : ∀ n x, ft1110101 n = some x → Sound Proofs.Tryz.prog n x := @tab_split Proofs.Tryz.prog 255 (fOne 254 (runF u254)) (fOne 255 (runF u255)) (@tab_one Proofs.Tryz.prog 254 (runF u254) t254) (@tab_one Proofs.Tryz.prog 255 (runF u255) t255)
theorem sft111010 : ∀ n x, ft111010 n = some x → Sound Proofs.Tryz.prog n x := @tab_split Proofs.Tryz.prog 254 ft1110100 ft1110101 sft1110100 sft1110101
theorem t256 : Sound Proofs.Tryz.prog 256 (runF u256) := fun_sound (P := Proofs.Tryz.prog) (fm := m256) (n := 256) (u := u256) tab_mix l256
theorem t257 : Sound Proofs.Tryz.prog 257 (runF u257) := fun_sound (P := Proofs.Tryz.prog) (fm := m257) (n := 257) (u := u257) tab_mix l257
theorem sft1110110 : ∀ n x, ft1110110 n = some x → Sound Proofs.Tryz.prog n x := @tab_split Proofs.Tryz.prog 257 (fOne 256 (runF u256)) (fOne 257 (runF u257)) (@tab_one Proofs.Tryz.prog 256 (runF u256) t256) (@tab_one Proofs.Tryz.prog 257 (runF u257) t257)
theorem t258 : Sound Proofs.Tryz.prog 258 oCount := count_ok (P := Proofs.Tryz.prog) (n := 258) ⟨Proofs.Tryz.f258, Proofs.Tryz.func258, by kernel_rfl, by kernel_rfl, by kernel_rfl, by kernel_rfl⟩
theorem t259 : Sound Proofs.Tryz.prog 259 (runF u259) := fun_sound (P := Proofs.Tryz.prog) (fm := m259) (n := 259) (u := u259) tab_mix l259
theorem sft1110111 : ∀ n x, ft1110111 n = some x → Sound Proofs.Tryz.prog n x := @tab_split Proofs.Tryz.prog 259 (fOne 258 oCount) (fOne 259 (runF u259)) (@tab_one Proofs.Tryz.prog 258 oCount t258) (@tab_one Proofs.Tryz.prog 259 (runF u259) t259)
theorem sft111011 : ∀ n x, ft111011 n = some x → Sound Proofs.Tryz.prog n x := @tab_split Proofs.Tryz.prog 258 ft1110110 ft1110111 sft1110110 sft1110111
theorem sft11101 : ∀ n x, ft11101 n = some x → Sound Proofs.Tryz.prog n x := @tab_split Proofs.Tryz.prog 256 ft111010 ft111011 sft111010 sft111011
theorem sft1110 : ∀ n x, ft1110 n = some x → Sound Proofs.Tryz.prog n x := @tab_split Proofs.Tryz.prog 252 ft11100 ft11101 sft11100 sft11101
theorem t260 : Sound Proofs.Tryz.prog 260 (runF u260) := fun_sound (P := Proofs.Tryz.prog) (fm := m260) (n := 260) (u := u260) tab_mix l260
theorem t261 : Sound Proofs.Tryz.prog 261 (runF u261) := fun_sound (P := Proofs.Tryz.prog) (fm := m261) (n := 261) (u := u261) tab_mix l261
theorem sft1111000 : ∀ n x, ft1111000 n = some x → Sound Proofs.Tryz.prog n x := @tab_split Proofs.Tryz.prog 261 (fOne 260 (runF u260)) (fOne 261 (runF u261)) (@tab_one Proofs.Tryz.prog 260 (runF u260) t260) (@tab_one Proofs.Tryz.prog 261 (runF u261) t261)
theorem t262 : Sound Proofs.Tryz.prog 262 (runF u262) := fun_sound (P := Proofs.Tryz.prog) (fm := m262) (n := 262) (u := u262) tab_mix l262
theorem t263 : Sound Proofs.Tryz.prog 263 (runF u263) := fun_sound (P := Proofs.Tryz.prog) (fm := m263) (n := 263) (u := u263) tab_mix l263
theorem sft1111001 : ∀ n x, ft1111001 n = some x → Sound Proofs.Tryz.prog n x := @tab_split Proofs.Tryz.prog 263 (fOne 262 (runF u262)) (fOne 263 (runF u263)) (@tab_one Proofs.Tryz.prog 262 (runF u262) t262) (@tab_one Proofs.Tryz.prog 263 (runF u263) t263)
theorem sft111100 : ∀ n x, ft111100 n = some x → Sound Proofs.Tryz.prog n x := @tab_split Proofs.Tryz.prog 262 ft1111000 ft1111001 sft1111000 sft1111001
theorem t265 : Sound Proofs.Tryz.prog 265 (runF u265) := fun_sound (P := Proofs.Tryz.prog) (fm := m265) (n := 265) (u := u265) tab_mix l265
theorem t266 : Sound Proofs.Tryz.prog 266 (runF u266) := fun_sound (P := Proofs.Tryz.prog) (fm := m266) (n := 266) (u := u266) tab_mix l266
theorem sft1111010 : ∀ n x, ft1111010 n = some x → Sound Proofs.Tryz.prog n x := @tab_split Proofs.Tryz.prog 266 (fOne 265 (runF u265)) (fOne 266 (runF u266)) (@tab_one Proofs.Tryz.prog 265 (runF u265) t265) (@tab_one Proofs.Tryz.prog 266 (runF u266) t266)
theorem t267 : Sound Proofs.Tryz.prog 267 (runF u267) := fun_sound (P := Proofs.Tryz.prog) (fm := m267) (n := 267) (u := u267) tab_mix l267
theorem t268 : Sound Proofs.Tryz.prog 268 (runF u268) := fun_sound (P := Proofs.Tryz.prog) (fm := m268) (n := 268) (u := u268) tab_mix l268
theorem sft1111011 : ∀ n x, ft1111011 n = some x → Sound Proofs.Tryz.prog n x := @tab_split Proofs.Tryz.prog 268 (fOne 267 (runF u267)) (fOne 268 (runF u268)) (@tab_one Proofs.Tryz.prog 267 (runF u267) t267) (@tab_one Proofs.Tryz.prog 268 (runF u268) t268)
theorem sft111101 : ∀ n x, ft111101 n = some x → Sound Proofs.Tryz.prog n x := @tab_split Proofs.Tryz.prog 267 ft1111010 ft1111011 sft1111010 sft1111011
theorem sft11110 : ∀ n x, ft11110 n = some x → Sound Proofs.Tryz.prog n x := @tab_split Proofs.Tryz.prog 265 ft111100 ft111101 sft111100 sft111101
theorem t272 : Sound Proofs.Tryz.prog 272 (runF u272) := fun_sound (P := Proofs.Tryz.prog) (fm := m272) (n := 272) (u := u272) tab_mix l272
theorem t273 : Sound Proofs.Tryz.prog 273 oSlow := once_slow
theorem sft1111100 : ∀ n x, ft1111100 n = some x → Sound Proofs.Tryz.prog n x := @tab_split Proofs.Tryz.prog 273 (fOne 272 (runF u272)) (fOne 273 oSlow) (@tab_one Proofs.Tryz.prog 272 (runF u272) t272) (@tab_one Proofs.Tryz.prog 273 oSlow t273)
theorem t274 : Sound Proofs.Tryz.prog 274 (runF u274) := fun_sound (P := Proofs.Tryz.prog) (fm := m274) (n := 274) (u := u274) tab_mix l274
theorem t275 : Sound Proofs.Tryz.prog 275 oIndex := index_ok (P := Proofs.Tryz.prog) (n := 275) ⟨Proofs.Tryz.f275, Proofs.Tryz.func275, by kernel_rfl, by kernel_rfl, by kernel_rfl, by kernel_rfl⟩
theorem sft1111101 : ∀ n x, ft1111101 n = some x → Sound Proofs.Tryz.prog n x := @tab_split Proofs.Tryz.prog 275 (fOne 274 (runF u274)) (fOne 275 oIndex) (@tab_one Proofs.Tryz.prog 274 (runF u274) t274) (@tab_one Proofs.Tryz.prog 275 oIndex t275)
theorem sft111110 : ∀ n x, ft111110 n = some x → Sound Proofs.Tryz.prog n x := @tab_split Proofs.Tryz.prog 274 ft1111100 ft1111101 sft1111100 sft1111101
theorem t276 : Sound Proofs.Tryz.prog 276 (runF u276) := fun_sound (P := Proofs.Tryz.prog) (fm := m276) (n := 276) (u := u276) tab_mix l276
theorem t279 : Sound Proofs.Tryz.prog 279 oLd32 := load32_ok (P := Proofs.Tryz.prog) (n := 279) ⟨Proofs.Tryz.f279, Proofs.Tryz.func279, by kernel_rfl, by kernel_rfl, by kernel_rfl, by kernel_rfl⟩
theorem sft1111110 : ∀ n x, ft1111110 n = some x → Sound Proofs.Tryz.prog n x := @tab_split Proofs.Tryz.prog 279 (fOne 276 (runF u276)) (fOne 279 oLd32) (@tab_one Proofs.Tryz.prog 276 (runF u276) t276) (@tab_one Proofs.Tryz.prog 279 oLd32 t279)
theorem t282 : Sound Proofs.Tryz.prog 282 oStore := store_ok (P := Proofs.Tryz.prog) (n := 282) ⟨Proofs.Tryz.f282, Proofs.Tryz.func282, by kernel_rfl, by kernel_rfl, by kernel_rfl, by kernel_rfl⟩
theorem t283 : Sound Proofs.Tryz.prog 283 (runF u283) := fun_sound (P := Proofs.Tryz.prog) (fm := m283) (n := 283) (u := u283) tab_mix l283
theorem sft1111111 : ∀ n x, ft1111111 n = some x → Sound Proofs.Tryz.prog n x := @tab_split Proofs.Tryz.prog 283 (fOne 282 oStore) (fOne 283 (runF u283)) (@tab_one Proofs.Tryz.prog 282 oStore t282) (@tab_one Proofs.Tryz.prog 283 (runF u283) t283)
theorem sft111111 : ∀ n x, ft111111 n = some x → Sound Proofs.Tryz.prog n x := @tab_split Proofs.Tryz.prog 282 ft1111110 ft1111111 sft1111110 sft1111111
theorem sft11111 : ∀ n x, ft11111 n = some x → Sound Proofs.Tryz.prog n x := @tab_split Proofs.Tryz.prog 276 ft111110 ft111111 sft111110 sft111111
theorem sft1111 : ∀ n x, ft1111 n = some x → Sound Proofs.Tryz.prog n x := @tab_split Proofs.Tryz.prog 272 ft11110 ft11111 sft11110 sft11111
theorem sft111 : ∀ n x, ft111 n = some x → Sound Proofs.Tryz.prog n x := @tab_split Proofs.Tryz.prog 260 ft1110 ft1111 sft1110 sft1111
theorem sft11 : ∀ n x, ft11 n = some x → Sound Proofs.Tryz.prog n x := @tab_split Proofs.Tryz.prog 245 ft110 ft111 sft110 sft111
theorem sft1 : ∀ n x, ft1 n = some x → Sound Proofs.Tryz.prog n x := @tab_split Proofs.Tryz.prog 214 ft10 ft11 sft10 sft11
theorem sft : ∀ n x, ft n = some x → Sound Proofs.Tryz.prog n x := @tab_split Proofs.Tryz.prog 148 ft0 ft1 sft0 sft1
theorem sFF : ∀ n x, FF n = some x → Sound Proofs.Tryz.prog n x := sft
end Go.Ev
