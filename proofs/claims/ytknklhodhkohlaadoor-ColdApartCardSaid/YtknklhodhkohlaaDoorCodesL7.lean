/- This text shows the code of a law, by the kernel. No conditions of its own. -/
import Derived.Test.YtknklhodhkohlaaDoorCodes
set_option linter.unusedSimpArgs false
set_option linter.unusedVariables false
set_option maxRecDepth 100000
namespace Go.Ai

def body7_0 : MC := (.seq (.seq (.ops false [⟨some 73,none,.mov (.tmp 12)⟩,⟨some 74,none,.mov (.tmp 10)⟩,⟨some 75,none,.len (.tmp 74)⟩,⟨some 76,none,.bin .lss (.tmp 73) (.tmp 75)⟩])
 (.cond (.tmp 76) .skip (.exit 0)))
 (.seq (.block 1 (.seq (.ops false [⟨some 79,none,.load (some 11) (.tmp 3)⟩,⟨some 80,none,.mov (.tmp 10)⟩,⟨some 81,none,.mov (.tmp 12)⟩,⟨some 82,none,.ixs 1 (.tmp 80) (.tmp 81)⟩,⟨some 83,none,.load none (.tmp 82)⟩,⟨some 84,none,.call (.cst (.fn (.func 37) [] [])) [(.tmp 79), (.tmp 83)]⟩,⟨some 85,none,.mov (.tmp 8)⟩,⟨some 86,none,.bin .leq (.tmp 84) (.tmp 85)⟩])
 (.cond (.tmp 86) (.seq (.ops false [⟨some 6,none,.mov (.cst (.bool false))⟩])
 .ret) .skip)))
 (.ops false [⟨some 77,none,.mov (.tmp 12)⟩,⟨some 78,none,.bin .add (.tmp 77) (.cst (I 1))⟩,⟨some 12,none,.mov (.tmp 78)⟩])))
def keep7_0 : Option (List Nat) := some [3, 7, 8, 9, 10, 11, 12]
def body7_1 : MC := (.seq (.seq (.ops false [⟨some 87,none,.mov (.tmp 14)⟩,⟨some 88,none,.fad (.tmp 3) 0⟩,⟨some 89,none,.load none (.tmp 88)⟩,⟨some 90,none,.bin .lss (.tmp 87) (.tmp 89)⟩])
 (.cond (.tmp 90) .skip (.exit 2)))
 (.seq (.block 3 (.seq (.ops false [⟨some 94,none,.load (some 11) (.tmp 9)⟩,⟨some 95,none,.mov (.tmp 14)⟩,⟨some 96,none,.call (.cst (.fn (.func 26) [] [])) [(.tmp 94), (.tmp 95)]⟩,⟨some 93,none,.mov (.tmp 96)⟩,⟨some 97,none,.ext (.tmp 93) 0⟩,⟨some 98,none,.ext (.tmp 93) 1⟩,⟨some 15,none,.alloc [(I 0),(I 0)]⟩,⟨none,none,.store 2 (.tmp 15) (.tmp 97)⟩,⟨some 16,none,.mov (.tmp 98)⟩])
 (.seq (.seq (.ops false [⟨some 99,none,.mov (.tmp 16)⟩,⟨some 100,none,.bin .neq (.tmp 99) (.cst (I 0))⟩,⟨some 101,none,.mov (.tmp 100)⟩,⟨some 102,some ((some 101), true),.mov (.tmp 16)⟩,⟨some 103,some ((some 101), true),.bin .neq (.tmp 102) (.cst (I 4))⟩,⟨some 104,none,.pick (.tmp 101) (.tmp 103) (.cst (.bool false))⟩])
 (.cond (.tmp 104) (.seq (.ops false [⟨some 6,none,.mov (.cst (.bool false))⟩])
 .ret) .skip))
 (.ops false [⟨some 105,none,.mov (.tmp 13)⟩,⟨some 106,none,.mov (.tmp 105)⟩,⟨some 107,some ((some 106), false),.mov (.tmp 16)⟩,⟨some 108,some ((some 106), false),.bin .eql (.tmp 107) (.cst (I 0))⟩,⟨some 109,some ((some 106), false),.mov (.tmp 108)⟩,⟨some 110,some ((some 109), true),.fad (.tmp 15) 1⟩,⟨some 111,some ((some 109), true),.load none (.tmp 110)⟩,⟨some 112,some ((some 109), true),.mov (.tmp 8)⟩,⟨some 113,some ((some 109), true),.bin .geq (.tmp 111) (.tmp 112)⟩,⟨some 114,some ((some 106), false),.pick (.tmp 109) (.tmp 113) (.cst (.bool false))⟩,⟨some 115,none,.pick (.tmp 106) (.cst (.bool true)) (.tmp 114)⟩,⟨some 13,none,.mov (.tmp 115)⟩]))))
 (.ops false [⟨some 91,none,.mov (.tmp 14)⟩,⟨some 92,none,.bin .add (.tmp 91) (.cst (I 1))⟩,⟨some 14,none,.mov (.tmp 92)⟩])))
def keep7_1 : Option (List Nat) := some [3, 7, 8, 9, 10, 11, 13, 14]
def code7 : MF := ⟨141, [(6, none)], (.seq (.ops false [⟨some 3,none,.box (.tmp 0)⟩,⟨some 6,none,.mov (.cst (.bool false))⟩])
 (.seq (.seq (.ops false [⟨some 17,none,.load (some 11) (.tmp 3)⟩,⟨some 18,none,.call (.cst (.fn (.func 13) [] [])) [(.tmp 17)]⟩,⟨some 19,none,.lnot (.tmp 18)⟩,⟨some 20,none,.mov (.tmp 19)⟩,⟨some 21,some ((some 20), false),.fad (.tmp 3) 1⟩,⟨some 22,some ((some 20), false),.load none (.tmp 21)⟩,⟨some 23,some ((some 20), false),.bin .lss (.tmp 22) (.cst (I 2))⟩,⟨some 24,none,.pick (.tmp 20) (.cst (.bool true)) (.tmp 23)⟩])
 (.cond (.tmp 24) (.seq (.ops false [⟨some 25,none,.call (.cst (.fn (.func 14) [] [])) []⟩,⟨some 6,none,.mov (.tmp 25)⟩])
 .ret) .skip))
 (.seq (.ops true [⟨some 26,none,.load (some 11) (.tmp 3)⟩,⟨some 27,none,.mov (.tmp 1)⟩,⟨some 28,none,.call (.cst (.fn (.func 15) [] [])) [(.tmp 26), (.tmp 27)]⟩,⟨some 29,none,.mov (.tmp 2)⟩,⟨some 30,none,.fad (.tmp 3) 1⟩,⟨some 31,none,.load none (.tmp 30)⟩,⟨some 32,none,.bin .sub (.tmp 31) (.cst (I 1))⟩,⟨some 33,none,.call (.cst (.fn (.func 16) [] [])) [(.tmp 29), (.tmp 32)]⟩,⟨some 34,none,.bin .add (.cst (I 1)) (.tmp 33)⟩,⟨some 7,none,.alloc [(I 0),(I 0),(I 0), .nils]⟩,⟨none,none,.store 4 (.tmp 7) (.tmp 28)⟩,⟨some 8,none,.mov (.tmp 34)⟩])
 (.seq (.ops false [⟨some 35,none,.load (some 11) (.tmp 3)⟩,⟨some 36,none,.load (some 4) (.tmp 7)⟩,⟨some 37,none,.call (.cst (.fn (.func 17) [] [])) [(.tmp 35), (.tmp 36)]⟩,⟨some 9,none,.alloc [(I 0),(I 0),(I 0),(I 0),(I 0),(I 0),(I 0),(I 0), .nils, (I 0), .nils]⟩,⟨none,none,.store 11 (.tmp 9) (.tmp 37)⟩])
 (.seq (.ops false [⟨some 39,none,.load (some 11) (.tmp 9)⟩,⟨some 40,none,.mov (.tmp 8)⟩,⟨some 41,none,.call (.cst (.fn (.func 36) [] [])) [(.tmp 39), (.tmp 40)]⟩,⟨some 38,none,.mov (.tmp 41)⟩,⟨some 42,none,.ext (.tmp 38) 0⟩,⟨some 43,none,.ext (.tmp 38) 1⟩,⟨some 10,none,.mov (.tmp 42)⟩,⟨some 11,none,.mov (.tmp 43)⟩])
 (.seq (.seq (.ops false [⟨some 44,none,.mov (.tmp 11)⟩,⟨some 45,none,.bin .neq (.tmp 44) (.cst (I 0))⟩,⟨some 46,none,.mov (.tmp 45)⟩,⟨some 47,some ((some 46), true),.mov (.tmp 11)⟩,⟨some 48,some ((some 46), true),.bin .neq (.tmp 47) (.cst (I 4))⟩,⟨some 49,none,.pick (.tmp 46) (.tmp 48) (.cst (.bool false))⟩,⟨some 50,none,.mov (.tmp 49)⟩,⟨some 51,some ((some 50), false),.mov (.tmp 10)⟩,⟨some 52,some ((some 50), false),.fad (.tmp 3) 0⟩,⟨some 53,some ((some 50), false),.load none (.tmp 52)⟩,⟨some 54,some ((some 50), false),.call (.cst (.fn (.func 25) [] [])) [(.tmp 51), (.tmp 53)]⟩,⟨some 55,some ((some 50), false),.lnot (.tmp 54)⟩,⟨some 56,none,.pick (.tmp 50) (.cst (.bool true)) (.tmp 55)⟩,⟨some 57,none,.mov (.tmp 56)⟩,⟨some 58,some ((some 57), false),.mov (.tmp 10)⟩,⟨some 59,some ((some 57), false),.len (.tmp 58)⟩,⟨some 60,some ((some 57), false),.fad (.tmp 3) 9⟩,⟨some 61,some ((some 57), false),.load none (.tmp 60)⟩,⟨some 62,some ((some 57), false),.bin .gtr (.tmp 59) (.tmp 61)⟩,⟨some 63,none,.pick (.tmp 57) (.cst (.bool true)) (.tmp 62)⟩,⟨some 64,none,.mov (.tmp 63)⟩,⟨some 65,some ((some 64), false),.mov (.tmp 11)⟩,⟨some 66,some ((some 64), false),.bin .neq (.tmp 65) (.cst (I 0))⟩,⟨some 67,some ((some 64), false),.mov (.tmp 66)⟩,⟨some 68,some ((some 67), true),.mov (.tmp 10)⟩,⟨some 69,some ((some 67), true),.len (.tmp 68)⟩,⟨some 70,some ((some 67), true),.bin .neq (.tmp 69) (.cst (I 0))⟩,⟨some 71,some ((some 64), false),.pick (.tmp 67) (.tmp 70) (.cst (.bool false))⟩,⟨some 72,none,.pick (.tmp 64) (.cst (.bool true)) (.tmp 71)⟩])
 (.cond (.tmp 72) (.seq (.ops false [⟨some 6,none,.mov (.cst (.bool false))⟩])
 .ret) .skip))
 (.seq (.seq (.ops false [⟨some 12,none,.mov (.cst (I 0))⟩])
 (.block 0 (.loop keep7_0 body7_0)))
 (.seq (.ops false [⟨some 13,none,.mov (.cst (.bool false))⟩])
 (.seq (.seq (.ops false [⟨some 14,none,.mov (.cst (I 0))⟩])
 (.block 2 (.loop keep7_1 body7_1)))
 (.seq (.ops false [⟨some 116,none,.mov (.tmp 11)⟩,⟨some 117,none,.bin .eql (.tmp 116) (.cst (I 0))⟩,⟨some 118,none,.mov (.tmp 117)⟩,⟨some 119,some ((some 118), true),.mov (.tmp 10)⟩,⟨some 120,some ((some 118), true),.len (.tmp 119)⟩,⟨some 121,some ((some 118), true),.bin .eql (.tmp 120) (.cst (I 0))⟩,⟨some 122,none,.pick (.tmp 118) (.tmp 121) (.cst (.bool false))⟩,⟨some 123,none,.mov (.tmp 13)⟩,⟨some 124,none,.lnot (.tmp 123)⟩,⟨some 125,none,.beq false (.tmp 122) (.tmp 124)⟩,⟨some 126,none,.mov (.tmp 125)⟩,⟨some 127,some ((some 126), true),.mov (.tmp 11)⟩,⟨some 128,some ((some 126), true),.bin .neq (.tmp 127) (.cst (I 0))⟩,⟨some 129,some ((some 126), true),.mov (.tmp 128)⟩,⟨some 130,some ((some 129), false),.load (some 11) (.tmp 3)⟩,⟨some 131,some ((some 129), false),.load (some 4) (.tmp 7)⟩,⟨some 132,some ((some 129), false),.mov (.tmp 10)⟩,⟨some 133,some ((some 129), false),.mov (.tmp 8)⟩,⟨some 134,some ((some 129), false),.call (.cst (.fn (.func 38) [] [])) [(.tmp 130), (.tmp 131), (.tmp 132), (.tmp 133)]⟩,⟨some 135,some ((some 129), false),.lnot (.tmp 134)⟩,⟨some 136,some ((some 126), true),.pick (.tmp 129) (.cst (.bool true)) (.tmp 135)⟩,⟨some 137,none,.pick (.tmp 126) (.tmp 136) (.cst (.bool false))⟩,⟨some 138,none,.mov (.tmp 137)⟩,⟨some 139,some ((some 138), true),.call (.cst (.fn (.func 14) [] [])) []⟩,⟨some 140,none,.pick (.tmp 138) (.tmp 139) (.cst (.bool false))⟩,⟨some 6,none,.mov (.tmp 140)⟩])
 .ret))))))))))⟩
theorem comp7 : compF Cv 7 = some code7 := by kernel_rfl
end Go.Ai
