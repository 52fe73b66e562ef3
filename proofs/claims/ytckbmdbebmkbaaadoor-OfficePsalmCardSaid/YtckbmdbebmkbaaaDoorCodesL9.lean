/- This text shows the code of a law, by the kernel. No conditions of its own. -/
import Derived.Test.YtckbmdbebmkbaaaDoorCodes
set_option linter.unusedSimpArgs false
set_option linter.unusedVariables false
set_option maxRecDepth 100000
namespace Go.Ai

def body9_0 : MC := (.seq (.seq (.ops false [⟨some 36,none,.mov (.tmp 8)⟩,⟨some 37,none,.fad (.tmp 7) 2⟩,⟨some 38,none,.load none (.tmp 37)⟩,⟨some 39,none,.len (.tmp 38)⟩,⟨some 40,none,.bin .lss (.tmp 36) (.tmp 39)⟩])
 (.cond (.tmp 40) .skip (.exit 0)))
 (.seq (.block 1 (.ops false [⟨some 43,none,.fad (.tmp 7) 2⟩,⟨some 44,none,.load none (.tmp 43)⟩,⟨some 45,none,.mov (.tmp 8)⟩,⟨some 46,none,.ixs 3 (.tmp 44) (.tmp 45)⟩,⟨some 47,none,.fad (.tmp 46) 2⟩,⟨none,none,.store 1 (.tmp 47) (.cst (I 0))⟩]))
 (.ops false [⟨some 41,none,.mov (.tmp 8)⟩,⟨some 42,none,.bin .add (.tmp 41) (.cst (I 1))⟩,⟨some 8,none,.mov (.tmp 42)⟩])))
def keep9_0 : Option (List Nat) := some [2, 5, 6, 7, 8]
def code9 : MF := ⟨105, [(4, none)], (.seq (.ops false [⟨some 2,none,.box (.tmp 0)⟩,⟨some 3,none,.box (.tmp 1)⟩,⟨some 4,none,.mov (.cst (.bool false))⟩])
 (.seq (.seq (.ops false [⟨some 17,none,.load (some 8) (.tmp 2)⟩,⟨some 18,none,.call (.cst (.fn (.func 12) [] [])) [(.tmp 17)]⟩,⟨some 19,none,.lnot (.tmp 18)⟩])
 (.cond (.tmp 19) (.seq (.ops false [⟨some 20,none,.call (.cst (.fn (.func 13) [] [])) []⟩,⟨some 4,none,.mov (.tmp 20)⟩])
 .ret) .skip))
 (.seq (.ops true [⟨some 21,none,.ixa 2 1 (.tmp 3) (.cst (I 0))⟩,⟨some 22,none,.load none (.tmp 21)⟩,⟨some 23,none,.call (.cst (.fn (.func 14) [] [])) [(.tmp 22), (.cst (I 2))]⟩,⟨some 24,none,.ixa 2 1 (.tmp 3) (.cst (I 1))⟩,⟨some 25,none,.load none (.tmp 24)⟩,⟨some 26,none,.fad (.tmp 2) 0⟩,⟨some 27,none,.load none (.tmp 26)⟩,⟨some 28,none,.call (.cst (.fn (.func 14) [] [])) [(.tmp 25), (.tmp 27)]⟩,⟨some 5,none,.mov (.tmp 23)⟩,⟨some 6,none,.mov (.tmp 28)⟩])
 (.seq (.ops false [⟨some 29,none,.load (some 8) (.tmp 2)⟩,⟨some 7,none,.alloc [(I 0),(I 0), .nils, .nils, (.bool false), .nils, (.bool false), .nils]⟩,⟨none,none,.store 8 (.tmp 7) (.tmp 29)⟩])
 (.seq (.ops false [⟨some 30,none,.bsl 3 true (.agg [(I 0),(I 0),(I 0)]) 0 []⟩,⟨some 31,none,.fad (.tmp 2) 2⟩,⟨some 32,none,.load none (.tmp 31)⟩,⟨some 33,none,.app true 3 24 true (.tmp 30) (.tmp 32)⟩,⟨some 34,none,.fad (.tmp 7) 7⟩,⟨none,none,.store 1 (.tmp 34) (.cst .nils)⟩,⟨some 35,none,.fad (.tmp 7) 2⟩,⟨none,none,.store 1 (.tmp 35) (.tmp 33)⟩])
 (.seq (.seq (.ops false [⟨some 8,none,.mov (.cst (I 0))⟩])
 (.block 0 (.loop keep9_0 body9_0)))
 (.seq (.ops false [⟨some 48,none,.load (some 8) (.tmp 7)⟩,⟨some 9,none,.alloc [(I 0),(I 0), .nils, .nils, (.bool false), .nils, (.bool false), .nils]⟩,⟨none,none,.store 8 (.tmp 9) (.tmp 48)⟩])
 (.seq (.ops false [⟨some 49,none,.fad (.tmp 9) 2⟩,⟨none,none,.store 1 (.tmp 49) (.cst .nils)⟩])
 (.seq (.ops false [⟨some 50,none,.fad (.tmp 2) 1⟩,⟨some 51,none,.load none (.tmp 50)⟩,⟨some 52,none,.mov (.tmp 6)⟩,⟨some 53,none,.bin .add (.tmp 51) (.tmp 52)⟩,⟨some 54,none,.bin .rem (.tmp 53) (.cst (I 30))⟩,⟨some 55,none,.bsl 1 false (I 0) 1 [(0, (.tmp 54))]⟩,⟨some 10,none,.mov (.tmp 55)⟩])
 (.seq (.ops false [⟨some 57,none,.load (some 8) (.tmp 7)⟩,⟨some 58,none,.mov (.tmp 5)⟩,⟨some 59,none,.mov (.tmp 6)⟩,⟨some 60,none,.call (.cst (.fn (.func 27) [] [])) [(.tmp 57), (.tmp 58), (.tmp 59)]⟩,⟨some 56,none,.mov (.tmp 60)⟩,⟨some 61,none,.ext (.tmp 56) 0⟩,⟨some 62,none,.ext (.tmp 56) 1⟩,⟨some 11,none,.mov (.tmp 61)⟩,⟨some 12,none,.mov (.tmp 62)⟩])
 (.seq (.ops false [⟨some 64,none,.load (some 8) (.tmp 9)⟩,⟨some 65,none,.mov (.tmp 5)⟩,⟨some 66,none,.mov (.tmp 6)⟩,⟨some 67,none,.call (.cst (.fn (.func 27) [] [])) [(.tmp 64), (.tmp 65), (.tmp 66)]⟩,⟨some 63,none,.mov (.tmp 67)⟩,⟨some 68,none,.ext (.tmp 63) 0⟩,⟨some 69,none,.ext (.tmp 63) 1⟩,⟨some 13,none,.mov (.tmp 68)⟩,⟨some 14,none,.mov (.tmp 69)⟩])
 (.seq (.ops false [⟨some 71,none,.load (some 8) (.tmp 9)⟩,⟨some 72,none,.mov (.tmp 5)⟩,⟨some 73,none,.mov (.tmp 6)⟩,⟨some 74,none,.call (.cst (.fn (.func 15) [] [])) [(.tmp 71), (.tmp 72), (.tmp 73)]⟩,⟨some 70,none,.mov (.tmp 74)⟩,⟨some 75,none,.ext (.tmp 70) 0⟩,⟨some 76,none,.ext (.tmp 70) 1⟩,⟨some 15,none,.mov (.tmp 75)⟩,⟨some 16,none,.mov (.tmp 76)⟩])
 (.seq (.ops false [⟨some 77,none,.mov (.tmp 12)⟩,⟨some 78,none,.bin .eql (.tmp 77) (.cst (I 0))⟩,⟨some 79,none,.mov (.tmp 78)⟩,⟨some 80,some ((some 79), true),.mov (.tmp 14)⟩,⟨some 81,some ((some 79), true),.bin .eql (.tmp 80) (.cst (I 0))⟩,⟨some 82,none,.pick (.tmp 79) (.tmp 81) (.cst (.bool false))⟩,⟨some 83,none,.mov (.tmp 82)⟩,⟨some 84,some ((some 83), true),.mov (.tmp 16)⟩,⟨some 85,some ((some 83), true),.bin .eql (.tmp 84) (.cst (I 0))⟩,⟨some 86,none,.pick (.tmp 83) (.tmp 85) (.cst (.bool false))⟩,⟨some 87,none,.mov (.tmp 86)⟩,⟨some 88,some ((some 87), true),.mov (.tmp 11)⟩,⟨some 89,some ((some 87), true),.mov (.tmp 10)⟩,⟨some 90,some ((some 87), true),.call (.cst (.fn (.func 22) [] [])) [(.tmp 88), (.tmp 89)]⟩,⟨some 91,none,.pick (.tmp 87) (.tmp 90) (.cst (.bool false))⟩,⟨some 92,none,.mov (.tmp 91)⟩,⟨some 93,some ((some 92), true),.mov (.tmp 13)⟩,⟨some 94,some ((some 92), true),.mov (.tmp 10)⟩,⟨some 95,some ((some 92), true),.call (.cst (.fn (.func 22) [] [])) [(.tmp 93), (.tmp 94)]⟩,⟨some 96,none,.pick (.tmp 92) (.tmp 95) (.cst (.bool false))⟩,⟨some 97,none,.mov (.tmp 96)⟩,⟨some 98,some ((some 97), true),.mov (.tmp 15)⟩,⟨some 99,some ((some 97), true),.bsl 1 false (I 0) 1 [(0, (.cst (I (-1))))]⟩,⟨some 100,some ((some 97), true),.call (.cst (.fn (.func 22) [] [])) [(.tmp 98), (.tmp 99)]⟩,⟨some 101,none,.pick (.tmp 97) (.tmp 100) (.cst (.bool false))⟩,⟨some 102,none,.mov (.tmp 101)⟩,⟨some 103,some ((some 102), true),.call (.cst (.fn (.func 13) [] [])) []⟩,⟨some 104,none,.pick (.tmp 102) (.tmp 103) (.cst (.bool false))⟩,⟨some 4,none,.mov (.tmp 104)⟩])
 .ret)))))))))))))⟩
theorem comp9 : compF Cv 9 = some code9 := by kernel_rfl
end Go.Ai
