/- This text shows the code of a law, by the kernel. No conditions of its own. -/
import Derived.Test.YtbjdaefdifofkaaDoorCodes
set_option linter.unusedSimpArgs false
set_option linter.unusedVariables false
set_option maxRecDepth 100000
namespace Go.Ai

def code4 : MF := ⟨61, [(6, none)], (.seq (.ops false [⟨some 3,none,.box (.tmp 0)⟩,⟨some 6,none,.mov (.cst (.bool false))⟩])
 (.seq (.ops false [⟨some 14,none,.load (some 6) (.tmp 3)⟩,⟨some 15,none,.mov (.tmp 1)⟩,⟨some 16,none,.mov (.tmp 2)⟩,⟨some 17,none,.call (.cst (.fn (.func 26) [] [])) [(.tmp 14), (.tmp 15), (.tmp 16)]⟩,⟨some 13,none,.mov (.tmp 17)⟩,⟨some 18,none,.ext (.tmp 13) 0⟩,⟨some 19,none,.ext (.tmp 13) 1⟩,⟨some 7,none,.mov (.tmp 18)⟩,⟨some 8,none,.mov (.tmp 19)⟩])
 (.seq (.ops false [⟨some 21,none,.load (some 6) (.tmp 3)⟩,⟨some 22,none,.mov (.tmp 1)⟩,⟨some 23,none,.mov (.tmp 2)⟩,⟨some 24,none,.call (.cst (.fn (.func 27) [] [])) [(.tmp 21), (.tmp 22), (.tmp 23)]⟩,⟨some 20,none,.mov (.tmp 24)⟩,⟨some 25,none,.ext (.tmp 20) 0⟩,⟨some 26,none,.ext (.tmp 20) 1⟩,⟨some 9,none,.mov (.tmp 25)⟩,⟨some 10,none,.mov (.tmp 26)⟩])
 (.seq (.seq (.ops false [⟨some 27,none,.mov (.tmp 7)⟩,⟨some 28,none,.mov (.tmp 9)⟩,⟨some 29,none,.call (.cst (.fn (.func 28) [] [])) [(.tmp 27), (.tmp 28)]⟩,⟨some 30,none,.lnot (.tmp 29)⟩,⟨some 31,none,.mov (.tmp 30)⟩,⟨some 32,some ((some 31), false),.mov (.tmp 8)⟩,⟨some 33,some ((some 31), false),.mov (.tmp 10)⟩,⟨some 34,some ((some 31), false),.bin .neq (.tmp 32) (.tmp 33)⟩,⟨some 35,none,.pick (.tmp 31) (.cst (.bool true)) (.tmp 34)⟩])
 (.cond (.tmp 35) (.seq (.ops false [⟨some 6,none,.mov (.cst (.bool false))⟩])
 .ret) .skip))
 (.seq (.ops false [⟨some 37,none,.load (some 6) (.tmp 3)⟩,⟨some 38,none,.mov (.tmp 1)⟩,⟨some 39,none,.mov (.tmp 2)⟩,⟨some 40,none,.call (.cst (.fn (.func 29) [] [])) [(.tmp 37), (.tmp 38), (.tmp 39)]⟩,⟨some 36,none,.mov (.tmp 40)⟩,⟨some 41,none,.ext (.tmp 36) 0⟩,⟨some 42,none,.ext (.tmp 36) 1⟩,⟨some 11,none,.mov (.tmp 41)⟩,⟨some 8,none,.mov (.tmp 42)⟩])
 (.seq (.ops false [⟨some 44,none,.load (some 6) (.tmp 3)⟩,⟨some 45,none,.mov (.tmp 1)⟩,⟨some 46,none,.mov (.tmp 2)⟩,⟨some 47,none,.call (.cst (.fn (.func 30) [] [])) [(.tmp 44), (.tmp 45), (.tmp 46)]⟩,⟨some 43,none,.mov (.tmp 47)⟩,⟨some 48,none,.ext (.tmp 43) 0⟩,⟨some 49,none,.ext (.tmp 43) 1⟩,⟨some 12,none,.mov (.tmp 48)⟩,⟨some 10,none,.mov (.tmp 49)⟩])
 (.seq (.ops false [⟨some 50,none,.mov (.tmp 11)⟩,⟨some 51,none,.mov (.tmp 12)⟩,⟨some 52,none,.bin .eql (.tmp 50) (.tmp 51)⟩,⟨some 53,none,.mov (.tmp 52)⟩,⟨some 54,some ((some 53), true),.mov (.tmp 8)⟩,⟨some 55,some ((some 53), true),.mov (.tmp 10)⟩,⟨some 56,some ((some 53), true),.bin .eql (.tmp 54) (.tmp 55)⟩,⟨some 57,none,.pick (.tmp 53) (.tmp 56) (.cst (.bool false))⟩,⟨some 58,none,.mov (.tmp 57)⟩,⟨some 59,some ((some 58), true),.call (.cst (.fn (.func 25) [] [])) []⟩,⟨some 60,none,.pick (.tmp 58) (.tmp 59) (.cst (.bool false))⟩,⟨some 6,none,.mov (.tmp 60)⟩])
 .ret)))))))⟩
theorem comp4 : compF Cv 4 = some code4 := by kernel_rfl
end Go.Ai
