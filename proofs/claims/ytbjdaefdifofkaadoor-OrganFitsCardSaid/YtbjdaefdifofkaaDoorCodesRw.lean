/- This text shows the codes of the reference, each by the kernel: fits and wrong. No conditions of its own. -/
import Derived.Test.YtbjdaefdifofkaaDoorCodesR
set_option linter.unusedSimpArgs false
set_option linter.unusedVariables false
set_option maxRecDepth 100000
namespace Go.Ai
def code32 : MF := ⟨37, [(4, none), (5, none)], (.seq (.ops false [⟨some 2,none,.box (.tmp 0)⟩,⟨some 3,none,.box (.tmp 1)⟩,⟨some 4,none,.mov (.cst (.bool false))⟩,⟨some 5,none,.mov (.cst (I 0))⟩])
 (.seq (.seq (.ops true [⟨some 12,none,.load (some 6) (.tmp 2)⟩,⟨some 13,none,.load (some 6) (.tmp 2)⟩,⟨some 14,none,.load (some 4) (.tmp 3)⟩,⟨some 15,none,.call (.cst (.fn (.func 65) [] [])) [(.tmp 13), (.tmp 14)]⟩,⟨some 16,none,.call (.cst (.fn (.func 70) [] [])) [(.tmp 12), (.tmp 15)]⟩,⟨some 11,none,.mov (.tmp 16)⟩,⟨some 17,none,.ext (.tmp 11) 0⟩,⟨some 18,none,.ext (.tmp 11) 1⟩,⟨some 6,none,.alloc [(I 0),(I 0),(I 0),(I 0),(I 0),(I 0),(I 0),(I 0),(I 0),(I 0),(I 0),(I 0),(I 0),(I 0),(I 0),(I 0),(I 0),(I 0),(I 0),(I 0),(I 0),(I 0),(I 0),(I 0),(I 0),(I 0),(I 0),(I 0),(I 0),(I 0),(I 0),(I 0),(I 0),(I 0),(I 0),(I 0)]⟩,⟨none,none,.store 36 (.tmp 6) (.tmp 17)⟩,⟨some 7,none,.mov (.tmp 18)⟩])
 (.seq (.ops false [⟨some 19,none,.mov (.tmp 7)⟩,⟨some 20,none,.bin .neq (.tmp 19) (.cst (I 0))⟩])
 (.cond (.tmp 20) (.seq (.ops false [⟨some 21,none,.mov (.tmp 7)⟩,⟨some 4,none,.mov (.cst (.bool false))⟩,⟨some 5,none,.mov (.tmp 21)⟩])
 .ret) .skip)))
 (.seq (.ops false [⟨some 22,none,.load (some 6) (.tmp 2)⟩,⟨some 8,none,.alloc [(I 0), .nils, .nils, .nils, (I 0), .nils]⟩,⟨none,none,.store 6 (.tmp 8) (.tmp 22)⟩])
 (.seq (.ops false [⟨some 23,none,.bsl 4 true (.agg [(I 0),(I 0),(I 0),(I 0)]) 0 []⟩,⟨some 24,none,.fad (.tmp 2) 1⟩,⟨some 25,none,.load none (.tmp 24)⟩,⟨some 26,none,.app false 4 32 true (.tmp 23) (.tmp 25)⟩,⟨some 27,none,.load (some 4) (.tmp 3)⟩,⟨some 28,none,.bsl 4 true (.agg [(I 0),(I 0),(I 0),(I 0)]) 1 [(0, (.tmp 27))]⟩,⟨some 29,none,.app false 4 32 true (.tmp 26) (.tmp 28)⟩,⟨some 30,none,.fad (.tmp 8) 1⟩,⟨none,none,.store 1 (.tmp 30) (.tmp 29)⟩])
 (.seq (.ops false [⟨some 32,none,.load (some 6) (.tmp 8)⟩,⟨some 33,none,.call (.cst (.fn (.func 59) [] [])) [(.tmp 32), (.cst (I 0))]⟩,⟨some 31,none,.mov (.tmp 33)⟩,⟨some 34,none,.ext (.tmp 31) 0⟩,⟨some 35,none,.ext (.tmp 31) 1⟩,⟨some 9,none,.alloc [(I 0),(I 0),(I 0),(I 0),(I 0),(I 0),(I 0),(I 0),(I 0),(I 0),(I 0),(I 0),(I 0),(I 0),(I 0),(I 0),(I 0),(I 0),(I 0),(I 0),(I 0),(I 0),(I 0),(I 0),(I 0),(I 0),(I 0),(I 0),(I 0),(I 0),(I 0),(I 0),(I 0),(I 0),(I 0),(I 0)]⟩,⟨none,none,.store 36 (.tmp 9) (.tmp 34)⟩,⟨some 10,none,.mov (.tmp 35)⟩])
 (.seq (.ops false [⟨some 36,none,.mov (.tmp 10)⟩,⟨some 4,none,.mov (.tmp 36)⟩,⟨some 5,none,.mov (.cst (I 0))⟩])
 .ret))))))⟩
theorem comp32 : compF Cv 32 = some code32 := by kernel_rfl
def body34_0 : MC := (.seq (.seq (.ops false [⟨some 48,none,.mov (.tmp 11)⟩,⟨some 49,none,.mov (.tmp 5)⟩,⟨some 50,none,.bin .shl (.cst (I 1)) (.tmp 49)⟩,⟨some 51,none,.bin .lss (.tmp 48) (.tmp 50)⟩])
 (.cond (.tmp 51) .skip (.exit 0)))
 (.seq (.block 1 (.seq (.ops false [⟨some 54,none,.mov (.tmp 11)⟩,⟨some 55,none,.mov (.tmp 5)⟩,⟨some 56,none,.call (.cst (.fn (.func 52) [] [])) [(.tmp 54), (.tmp 55)]⟩,⟨some 12,none,.mov (.tmp 56)⟩])
 (.seq (.ops false [⟨some 57,none,.mov (.tmp 12)⟩,⟨some 58,none,.mov (.tmp 6)⟩,⟨some 59,none,.call (.cst (.fn (.func 54) [] [])) [(.tmp 57), (.tmp 58)]⟩])
 (.cond (.tmp 59) (.seq (.ops false [⟨some 61,none,.load (some 6) (.tmp 1)⟩,⟨some 62,none,.mov (.tmp 11)⟩,⟨some 63,none,.call (.cst (.fn (.func 59) [] [])) [(.tmp 61), (.tmp 62)]⟩,⟨some 60,none,.mov (.tmp 63)⟩,⟨some 64,none,.ext (.tmp 60) 0⟩,⟨some 65,none,.ext (.tmp 60) 1⟩,⟨some 13,none,.alloc [(I 0),(I 0),(I 0),(I 0),(I 0),(I 0),(I 0),(I 0),(I 0),(I 0),(I 0),(I 0),(I 0),(I 0),(I 0),(I 0),(I 0),(I 0),(I 0),(I 0),(I 0),(I 0),(I 0),(I 0),(I 0),(I 0),(I 0),(I 0),(I 0),(I 0),(I 0),(I 0),(I 0),(I 0),(I 0),(I 0)]⟩,⟨none,none,.store 36 (.tmp 13) (.tmp 64)⟩,⟨some 14,none,.mov (.tmp 65)⟩])
 (.seq (.ops false [⟨some 66,none,.mov (.tmp 14)⟩])
 (.cond (.tmp 66) (.ops false [⟨some 67,none,.mov (.tmp 12)⟩,⟨some 6,none,.mov (.tmp 67)⟩]) .skip))) .skip))))
 (.ops false [⟨some 52,none,.mov (.tmp 11)⟩,⟨some 53,none,.bin .add (.tmp 52) (.cst (I 1))⟩,⟨some 11,none,.mov (.tmp 53)⟩])))
def keep34_0 : Option (List Nat) := some [1, 5, 6, 11]
def code34 : MF := ⟨69, [(2, none), (3, none)], (.seq (.ops false [⟨some 1,none,.box (.tmp 0)⟩,⟨some 2,none,.mov (.cst .nils)⟩,⟨some 3,none,.mov (.cst (I 0))⟩])
 (.seq (.seq (.ops false [⟨some 15,none,.load (some 6) (.tmp 1)⟩,⟨some 16,none,.call (.cst (.fn (.func 18) [] [])) [(.tmp 15)]⟩,⟨some 4,none,.mov (.tmp 16)⟩])
 (.seq (.ops false [⟨some 17,none,.mov (.tmp 4)⟩,⟨some 18,none,.bin .neq (.tmp 17) (.cst (I 0))⟩])
 (.cond (.tmp 18) (.seq (.ops false [⟨some 19,none,.mov (.tmp 4)⟩,⟨some 2,none,.mov (.cst .nils)⟩,⟨some 3,none,.mov (.tmp 19)⟩])
 .ret) .skip)))
 (.seq (.ops false [⟨some 20,none,.fad (.tmp 1) 1⟩,⟨some 21,none,.load none (.tmp 20)⟩,⟨some 22,none,.len (.tmp 21)⟩,⟨some 5,none,.mov (.tmp 22)⟩])
 (.seq (.ops false [⟨some 23,none,.mov (.tmp 5)⟩,⟨some 24,none,.bin .shl (.cst (I 1)) (.tmp 23)⟩,⟨some 25,none,.bin .sub (.tmp 24) (.cst (I 1))⟩,⟨some 26,none,.mov (.tmp 5)⟩,⟨some 27,none,.call (.cst (.fn (.func 52) [] [])) [(.tmp 25), (.tmp 26)]⟩,⟨some 6,none,.mov (.tmp 27)⟩])
 (.seq (.ops true [⟨some 29,none,.load (some 6) (.tmp 1)⟩,⟨some 30,none,.mov (.tmp 5)⟩,⟨some 31,none,.bin .shl (.cst (I 1)) (.tmp 30)⟩,⟨some 32,none,.bin .sub (.tmp 31) (.cst (I 1))⟩,⟨some 33,none,.call (.cst (.fn (.func 59) [] [])) [(.tmp 29), (.tmp 32)]⟩,⟨some 28,none,.mov (.tmp 33)⟩,⟨some 34,none,.ext (.tmp 28) 0⟩,⟨some 35,none,.ext (.tmp 28) 1⟩,⟨some 7,none,.alloc [(I 0),(I 0),(I 0),(I 0),(I 0),(I 0),(I 0),(I 0),(I 0),(I 0),(I 0),(I 0),(I 0),(I 0),(I 0),(I 0),(I 0),(I 0),(I 0),(I 0),(I 0),(I 0),(I 0),(I 0),(I 0),(I 0),(I 0),(I 0),(I 0),(I 0),(I 0),(I 0),(I 0),(I 0),(I 0),(I 0)]⟩,⟨none,none,.store 36 (.tmp 7) (.tmp 34)⟩,⟨some 8,none,.mov (.tmp 35)⟩])
 (.seq (.seq (.ops false [⟨some 37,none,.fad (.tmp 1) 3⟩,⟨some 38,none,.load (some 3) (.tmp 37)⟩,⟨some 39,none,.call (.cst (.fn (.func 58) [] [])) [(.tmp 38)]⟩,⟨some 36,none,.mov (.tmp 39)⟩,⟨some 40,none,.ext (.tmp 36) 0⟩,⟨some 41,none,.ext (.tmp 36) 1⟩,⟨some 9,none,.mov (.tmp 40)⟩,⟨some 10,none,.mov (.tmp 41)⟩])
 (.seq (.ops false [⟨some 42,none,.mov (.tmp 8)⟩,⟨some 43,none,.lnot (.tmp 42)⟩,⟨some 44,none,.mov (.tmp 43)⟩,⟨some 45,some ((some 44), false),.mov (.tmp 9)⟩,⟨some 46,some ((some 44), false),.lnot (.tmp 45)⟩,⟨some 47,none,.pick (.tmp 44) (.cst (.bool true)) (.tmp 46)⟩])
 (.cond (.tmp 47) (.seq (.ops false [⟨some 2,none,.mov (.cst .nils)⟩,⟨some 3,none,.mov (.cst (I 82))⟩])
 .ret) .skip)))
 (.seq (.seq (.ops false [⟨some 11,none,.mov (.cst (I 0))⟩])
 (.block 0 (.loop keep34_0 body34_0)))
 (.seq (.ops false [⟨some 68,none,.mov (.tmp 6)⟩,⟨some 2,none,.mov (.tmp 68)⟩,⟨some 3,none,.mov (.cst (I 0))⟩])
 .ret))))))))⟩
theorem comp34 : compF Cv 34 = some code34 := by kernel_rfl
end Go.Ai
