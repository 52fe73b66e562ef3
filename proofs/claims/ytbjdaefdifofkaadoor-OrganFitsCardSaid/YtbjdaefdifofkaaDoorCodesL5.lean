/- This text shows the code of a law, by the kernel. No conditions of its own. -/
import Derived.Test.YtbjdaefdifofkaaDoorCodes
set_option linter.unusedSimpArgs false
set_option linter.unusedVariables false
set_option maxRecDepth 100000
namespace Go.Ai

def code5 : MF := ⟨52, [(4, none)], (.seq (.ops false [⟨some 2,none,.box (.tmp 0)⟩,⟨some 3,none,.box (.tmp 1)⟩,⟨some 4,none,.mov (.cst (.bool false))⟩])
 (.seq (.ops false [⟨some 12,none,.load (some 6) (.tmp 2)⟩,⟨some 13,none,.load (some 4) (.tmp 3)⟩,⟨some 14,none,.call (.cst (.fn (.func 31) [] [])) [(.tmp 12), (.tmp 13)]⟩,⟨some 11,none,.mov (.tmp 14)⟩,⟨some 15,none,.ext (.tmp 11) 0⟩,⟨some 16,none,.ext (.tmp 11) 1⟩,⟨some 5,none,.mov (.tmp 15)⟩,⟨some 6,none,.mov (.tmp 16)⟩])
 (.seq (.ops false [⟨some 18,none,.load (some 6) (.tmp 2)⟩,⟨some 19,none,.load (some 4) (.tmp 3)⟩,⟨some 20,none,.call (.cst (.fn (.func 32) [] [])) [(.tmp 18), (.tmp 19)]⟩,⟨some 17,none,.mov (.tmp 20)⟩,⟨some 21,none,.ext (.tmp 17) 0⟩,⟨some 22,none,.ext (.tmp 17) 1⟩,⟨some 7,none,.mov (.tmp 21)⟩,⟨some 8,none,.mov (.tmp 22)⟩])
 (.seq (.seq (.ops false [⟨some 23,none,.mov (.tmp 5)⟩,⟨some 24,none,.mov (.tmp 7)⟩,⟨some 25,none,.beq true (.tmp 23) (.tmp 24)⟩,⟨some 26,none,.mov (.tmp 25)⟩,⟨some 27,some ((some 26), false),.mov (.tmp 6)⟩,⟨some 28,some ((some 26), false),.mov (.tmp 8)⟩,⟨some 29,some ((some 26), false),.bin .neq (.tmp 27) (.tmp 28)⟩,⟨some 30,none,.pick (.tmp 26) (.cst (.bool true)) (.tmp 29)⟩])
 (.cond (.tmp 30) (.seq (.ops false [⟨some 4,none,.mov (.cst (.bool false))⟩])
 .ret) .skip))
 (.seq (.ops false [⟨some 32,none,.load (some 6) (.tmp 2)⟩,⟨some 33,none,.call (.cst (.fn (.func 33) [] [])) [(.tmp 32)]⟩,⟨some 31,none,.mov (.tmp 33)⟩,⟨some 34,none,.ext (.tmp 31) 0⟩,⟨some 35,none,.ext (.tmp 31) 1⟩,⟨some 9,none,.mov (.tmp 34)⟩,⟨some 6,none,.mov (.tmp 35)⟩])
 (.seq (.ops false [⟨some 37,none,.load (some 6) (.tmp 2)⟩,⟨some 38,none,.call (.cst (.fn (.func 34) [] [])) [(.tmp 37)]⟩,⟨some 36,none,.mov (.tmp 38)⟩,⟨some 39,none,.ext (.tmp 36) 0⟩,⟨some 40,none,.ext (.tmp 36) 1⟩,⟨some 10,none,.mov (.tmp 39)⟩,⟨some 8,none,.mov (.tmp 40)⟩])
 (.seq (.ops false [⟨some 41,none,.mov (.tmp 9)⟩,⟨some 42,none,.mov (.tmp 10)⟩,⟨some 43,none,.call (.cst (.fn (.func 28) [] [])) [(.tmp 41), (.tmp 42)]⟩,⟨some 44,none,.mov (.tmp 43)⟩,⟨some 45,some ((some 44), true),.mov (.tmp 6)⟩,⟨some 46,some ((some 44), true),.mov (.tmp 8)⟩,⟨some 47,some ((some 44), true),.bin .eql (.tmp 45) (.tmp 46)⟩,⟨some 48,none,.pick (.tmp 44) (.tmp 47) (.cst (.bool false))⟩,⟨some 49,none,.mov (.tmp 48)⟩,⟨some 50,some ((some 49), true),.call (.cst (.fn (.func 25) [] [])) []⟩,⟨some 51,none,.pick (.tmp 49) (.tmp 50) (.cst (.bool false))⟩,⟨some 4,none,.mov (.tmp 51)⟩])
 .ret)))))))⟩
theorem comp5 : compF Cv 5 = some code5 := by kernel_rfl
end Go.Ai
