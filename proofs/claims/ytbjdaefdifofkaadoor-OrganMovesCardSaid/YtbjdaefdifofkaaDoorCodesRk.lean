/- This text shows the codes of the reference, each by the kernel: keys. No conditions of its own. -/
import Derived.Test.YtbjdaefdifofkaaDoorCodesR
set_option linter.unusedSimpArgs false
set_option linter.unusedVariables false
set_option maxRecDepth 100000
namespace Go.Ai
def body27_0 : MC := (.seq (.seq (.ops false [⟨some 42,none,.mov (.tmp 13)⟩,⟨some 43,none,.mov (.tmp 42)⟩,⟨some 44,some ((some 43), true),.mov (.tmp 14)⟩,⟨some 45,some ((some 43), true),.mov (.tmp 2)⟩,⟨some 46,some ((some 43), true),.len (.tmp 45)⟩,⟨some 47,some ((some 43), true),.bin .lss (.tmp 44) (.tmp 46)⟩,⟨some 48,none,.pick (.tmp 43) (.tmp 47) (.cst (.bool false))⟩])
 (.cond (.tmp 48) .skip (.exit 2)))
 (.seq (.block 3 (.ops false [⟨some 51,none,.load (some 6) (.tmp 3)⟩,⟨some 52,none,.mov (.tmp 1)⟩,⟨some 53,none,.mov (.tmp 2)⟩,⟨some 54,none,.mov (.tmp 14)⟩,⟨some 55,none,.ixs 3 (.tmp 53) (.tmp 54)⟩,⟨some 56,none,.load (some 3) (.tmp 55)⟩,⟨some 57,none,.mov (.tmp 12)⟩,⟨some 58,none,.load (some 2) (.tmp 10)⟩,⟨some 59,none,.call (.cst (.fn (.func 79) [] [])) [(.tmp 51), (.tmp 52), (.tmp 56), (.tmp 57), (.tmp 58)]⟩,⟨some 13,none,.mov (.tmp 59)⟩]))
 (.ops false [⟨some 49,none,.mov (.tmp 14)⟩,⟨some 50,none,.bin .add (.tmp 49) (.cst (I 1))⟩,⟨some 14,none,.mov (.tmp 50)⟩])))
def keep27_0 : Option (List Nat) := some [1, 2, 3, 10, 11, 12, 13, 14]
def body27_1 : MC := (.seq (.seq (.ops false [⟨some 38,none,.mov (.tmp 12)⟩,⟨some 39,none,.bin .leq (.tmp 38) (.cst (I 6))⟩])
 (.cond (.tmp 39) .skip (.exit 0)))
 (.seq (.block 1 (.seq (.ops false [⟨some 13,none,.mov (.cst (.bool true))⟩])
 (.seq (.seq (.ops false [⟨some 14,none,.mov (.cst (I 0))⟩])
 (.block 2 (.loop keep27_0 body27_0)))
 (.seq (.ops false [⟨some 60,none,.mov (.tmp 13)⟩])
 (.cond (.tmp 60) (.ops false [⟨some 61,none,.mov (.tmp 11)⟩,⟨some 62,none,.mov (.tmp 12)⟩,⟨some 63,none,.bsl 1 false (I 0) 1 [(0, (.tmp 62))]⟩,⟨some 64,none,.app false 1 8 false (.tmp 61) (.tmp 63)⟩,⟨some 11,none,.mov (.tmp 64)⟩]) .skip)))))
 (.ops false [⟨some 40,none,.mov (.tmp 12)⟩,⟨some 41,none,.bin .add (.tmp 40) (.cst (I 1))⟩,⟨some 12,none,.mov (.tmp 41)⟩])))
def keep27_1 : Option (List Nat) := some [1, 2, 3, 10, 11, 12]
def code27 : MF := ⟨66, [(6, none), (7, none)], (.seq (.ops false [⟨some 3,none,.box (.tmp 0)⟩,⟨some 6,none,.mov (.cst .nils)⟩,⟨some 7,none,.mov (.cst (I 0))⟩])
 (.seq (.ops true [⟨some 16,none,.load (some 6) (.tmp 3)⟩,⟨some 17,none,.mov (.tmp 1)⟩,⟨some 18,none,.fad (.tmp 3) 3⟩,⟨some 19,none,.fad (.tmp 18) 1⟩,⟨some 20,none,.load none (.tmp 19)⟩,⟨some 21,none,.bin .sub (.tmp 20) (.cst (I 1))⟩,⟨some 22,none,.call (.cst (.fn (.func 43) [] [])) [(.tmp 17), (.cst (I 0)), (.tmp 21)]⟩,⟨some 23,none,.mov (.tmp 22)⟩,⟨some 24,some ((some 23), true),.load (some 6) (.tmp 3)⟩,⟨some 25,some ((some 23), true),.mov (.tmp 2)⟩,⟨some 26,some ((some 23), true),.call (.cst (.fn (.func 78) [] [])) [(.tmp 24), (.tmp 25)]⟩,⟨some 27,none,.pick (.tmp 23) (.tmp 26) (.cst (.bool false))⟩,⟨some 28,none,.call (.cst (.fn (.func 70) [] [])) [(.tmp 16), (.tmp 27)]⟩,⟨some 15,none,.mov (.tmp 28)⟩,⟨some 29,none,.ext (.tmp 15) 0⟩,⟨some 30,none,.ext (.tmp 15) 1⟩,⟨some 8,none,.alloc [(I 0),(I 0),(I 0),(I 0),(I 0),(I 0),(I 0),(I 0),(I 0),(I 0),(I 0),(I 0),(I 0),(I 0),(I 0),(I 0),(I 0),(I 0),(I 0),(I 0),(I 0),(I 0),(I 0),(I 0),(I 0),(I 0),(I 0),(I 0),(I 0),(I 0),(I 0),(I 0),(I 0),(I 0),(I 0),(I 0)]⟩,⟨none,none,.store 36 (.tmp 8) (.tmp 29)⟩,⟨some 9,none,.mov (.tmp 30)⟩])
 (.seq (.seq (.ops false [⟨some 31,none,.mov (.tmp 9)⟩,⟨some 32,none,.bin .neq (.tmp 31) (.cst (I 0))⟩])
 (.cond (.tmp 32) (.seq (.ops false [⟨some 33,none,.mov (.tmp 9)⟩,⟨some 6,none,.mov (.cst .nils)⟩,⟨some 7,none,.mov (.tmp 33)⟩])
 .ret) .skip))
 (.seq (.ops false [⟨some 34,none,.load (some 6) (.tmp 3)⟩,⟨some 35,none,.load (some 36) (.tmp 8)⟩,⟨some 36,none,.call (.cst (.fn (.func 73) [] [])) [(.tmp 34), (.tmp 35)]⟩,⟨some 37,none,.bsl 1 false (I 0) 0 []⟩,⟨some 10,none,.alloc [(I 0),(I 0)]⟩,⟨none,none,.store 2 (.tmp 10) (.tmp 36)⟩,⟨some 11,none,.mov (.tmp 37)⟩])
 (.seq (.seq (.ops false [⟨some 12,none,.mov (.cst (I (-6)))⟩])
 (.block 0 (.loop keep27_1 body27_1)))
 (.seq (.ops false [⟨some 65,none,.mov (.tmp 11)⟩,⟨some 6,none,.mov (.tmp 65)⟩,⟨some 7,none,.mov (.cst (I 0))⟩])
 .ret))))))⟩
theorem comp27 : compF Cv 27 = some code27 := by kernel_rfl
def body30_0 : MC := (.seq (.seq (.ops false [⟨some 28,none,.mov (.tmp 11)⟩,⟨some 29,none,.mov (.tmp 8)⟩,⟨some 30,none,.len (.tmp 29)⟩,⟨some 31,none,.bin .lss (.tmp 28) (.tmp 30)⟩])
 (.cond (.tmp 31) .skip (.exit 0)))
 (.seq (.block 1 (.seq (.ops false [⟨some 34,none,.mov (.tmp 8)⟩,⟨some 35,none,.mov (.tmp 11)⟩,⟨some 36,none,.ixs 1 (.tmp 34) (.tmp 35)⟩,⟨some 37,none,.load none (.tmp 36)⟩,⟨some 38,none,.mov (.tmp 8)⟩,⟨some 39,none,.mov (.tmp 11)⟩,⟨some 40,none,.ixs 1 (.tmp 38) (.tmp 39)⟩,⟨some 41,none,.load none (.tmp 40)⟩,⟨some 42,none,.neg (.tmp 41)⟩,⟨some 43,none,.mx (.tmp 37) [(.tmp 42)]⟩,⟨some 44,none,.mov (.tmp 10)⟩,⟨some 45,none,.mov (.tmp 10)⟩,⟨some 46,none,.neg (.tmp 45)⟩,⟨some 47,none,.mx (.tmp 44) [(.tmp 46)]⟩,⟨some 48,none,.bin .lss (.tmp 43) (.tmp 47)⟩])
 (.cond (.tmp 48) (.ops false [⟨some 49,none,.mov (.tmp 8)⟩,⟨some 50,none,.mov (.tmp 11)⟩,⟨some 51,none,.ixs 1 (.tmp 49) (.tmp 50)⟩,⟨some 52,none,.load none (.tmp 51)⟩,⟨some 10,none,.mov (.tmp 52)⟩]) .skip)))
 (.ops false [⟨some 32,none,.mov (.tmp 11)⟩,⟨some 33,none,.bin .add (.tmp 32) (.cst (I 1))⟩,⟨some 11,none,.mov (.tmp 33)⟩])))
def keep30_0 : Option (List Nat) := some [8, 10, 11]
def code30 : MF := ⟨54, [(6, none), (7, none)], (.seq (.ops false [⟨some 3,none,.box (.tmp 0)⟩,⟨some 6,none,.mov (.cst (I 0))⟩,⟨some 7,none,.mov (.cst (I 0))⟩])
 (.seq (.ops false [⟨some 13,none,.load (some 6) (.tmp 3)⟩,⟨some 14,none,.mov (.tmp 1)⟩,⟨some 15,none,.mov (.tmp 2)⟩,⟨some 16,none,.call (.cst (.fn (.func 27) [] [])) [(.tmp 13), (.tmp 14), (.tmp 15)]⟩,⟨some 12,none,.mov (.tmp 16)⟩,⟨some 17,none,.ext (.tmp 12) 0⟩,⟨some 18,none,.ext (.tmp 12) 1⟩,⟨some 8,none,.mov (.tmp 17)⟩,⟨some 9,none,.mov (.tmp 18)⟩])
 (.seq (.seq (.ops false [⟨some 19,none,.mov (.tmp 9)⟩,⟨some 20,none,.bin .neq (.tmp 19) (.cst (I 0))⟩])
 (.cond (.tmp 20) (.seq (.ops false [⟨some 21,none,.mov (.tmp 9)⟩,⟨some 6,none,.mov (.cst (I 0))⟩,⟨some 7,none,.mov (.tmp 21)⟩])
 .ret) .skip))
 (.seq (.seq (.ops false [⟨some 22,none,.mov (.tmp 8)⟩,⟨some 23,none,.len (.tmp 22)⟩,⟨some 24,none,.bin .eql (.tmp 23) (.cst (I 0))⟩])
 (.cond (.tmp 24) (.seq (.ops false [⟨some 6,none,.mov (.cst (I 0))⟩,⟨some 7,none,.mov (.cst (I 4))⟩])
 .ret) .skip))
 (.seq (.ops false [⟨some 25,none,.mov (.tmp 8)⟩,⟨some 26,none,.ixs 1 (.tmp 25) (.cst (I 0))⟩,⟨some 27,none,.load none (.tmp 26)⟩,⟨some 10,none,.mov (.tmp 27)⟩])
 (.seq (.seq (.ops false [⟨some 11,none,.mov (.cst (I 0))⟩])
 (.block 0 (.loop keep30_0 body30_0)))
 (.seq (.ops false [⟨some 53,none,.mov (.tmp 10)⟩,⟨some 6,none,.mov (.tmp 53)⟩,⟨some 7,none,.mov (.cst (I 0))⟩])
 .ret)))))))⟩
theorem comp30 : compF Cv 30 = some code30 := by kernel_rfl
def body78_0 : MC := (.seq (.seq (.ops false [⟨some 10,none,.mov (.tmp 5)⟩,⟨some 11,none,.mov (.tmp 10)⟩,⟨some 12,some ((some 11), true),.mov (.tmp 6)⟩,⟨some 13,some ((some 11), true),.mov (.tmp 1)⟩,⟨some 14,some ((some 11), true),.len (.tmp 13)⟩,⟨some 15,some ((some 11), true),.bin .lss (.tmp 12) (.tmp 14)⟩,⟨some 16,none,.pick (.tmp 11) (.tmp 15) (.cst (.bool false))⟩])
 (.cond (.tmp 16) .skip (.exit 0)))
 (.seq (.block 1 (.ops false [⟨some 19,none,.mov (.tmp 1)⟩,⟨some 20,none,.mov (.tmp 6)⟩,⟨some 21,none,.ixs 3 (.tmp 19) (.tmp 20)⟩,⟨some 22,none,.fad (.tmp 21) 0⟩,⟨some 23,none,.load none (.tmp 22)⟩,⟨some 24,none,.fad (.tmp 2) 3⟩,⟨some 25,none,.fad (.tmp 24) 0⟩,⟨some 26,none,.load none (.tmp 25)⟩,⟨some 27,none,.len (.tmp 26)⟩,⟨some 28,none,.bin .sub (.tmp 27) (.cst (I 1))⟩,⟨some 29,none,.call (.cst (.fn (.func 43) [] [])) [(.tmp 23), (.cst (I 0)), (.tmp 28)]⟩,⟨some 30,none,.mov (.tmp 29)⟩,⟨some 31,some ((some 30), true),.mov (.tmp 1)⟩,⟨some 32,some ((some 30), true),.mov (.tmp 6)⟩,⟨some 33,some ((some 30), true),.ixs 3 (.tmp 31) (.tmp 32)⟩,⟨some 34,some ((some 30), true),.fad (.tmp 33) 1⟩,⟨some 35,some ((some 30), true),.load (some 2) (.tmp 34)⟩,⟨some 36,some ((some 30), true),.call (.cst (.fn (.func 45) [] [])) [(.tmp 35), (.cst (I 0)), (.cst (I 40)), (.cst (I 40))]⟩,⟨some 37,none,.pick (.tmp 30) (.tmp 36) (.cst (.bool false))⟩,⟨some 5,none,.mov (.tmp 37)⟩]))
 (.ops false [⟨some 17,none,.mov (.tmp 6)⟩,⟨some 18,none,.bin .add (.tmp 17) (.cst (I 1))⟩,⟨some 6,none,.mov (.tmp 18)⟩])))
def keep78_0 : Option (List Nat) := some [1, 2, 5, 6]
def code78 : MF := ⟨39, [(4, none)], (.seq (.ops false [⟨some 2,none,.box (.tmp 0)⟩,⟨some 4,none,.mov (.cst (.bool false))⟩])
 (.seq (.ops false [⟨some 7,none,.mov (.tmp 1)⟩,⟨some 8,none,.len (.tmp 7)⟩,⟨some 9,none,.call (.cst (.fn (.func 43) [] [])) [(.tmp 8), (.cst (I 1)), (.cst (I 4))]⟩,⟨some 5,none,.mov (.tmp 9)⟩])
 (.seq (.seq (.ops false [⟨some 6,none,.mov (.cst (I 0))⟩])
 (.block 0 (.loop keep78_0 body78_0)))
 (.seq (.ops false [⟨some 38,none,.mov (.tmp 5)⟩,⟨some 4,none,.mov (.tmp 38)⟩])
 .ret))))⟩
theorem comp78 : compF Cv 78 = some code78 := by kernel_rfl
def body79_0 : MC := (.seq (.seq (.ops false [⟨some 22,none,.mov (.tmp 11)⟩,⟨some 23,none,.fad (.tmp 7) 1⟩,⟨some 24,none,.fad (.tmp 23) 1⟩,⟨some 25,none,.load none (.tmp 24)⟩,⟨some 26,none,.mov (.tmp 3)⟩,⟨some 27,none,.bin .add (.tmp 25) (.tmp 26)⟩,⟨some 28,none,.fad (.tmp 9) 1⟩,⟨some 29,none,.load none (.tmp 28)⟩,⟨some 30,none,.bin .add (.tmp 27) (.tmp 29)⟩,⟨some 31,none,.bin .leq (.tmp 22) (.tmp 30)⟩])
 (.cond (.tmp 31) .skip (.exit 0)))
 (.seq (.block 1 (.seq (.ops false [⟨some 35,none,.fad (.tmp 5) 3⟩,⟨some 36,none,.load (some 3) (.tmp 35)⟩,⟨some 37,none,.fad (.tmp 7) 0⟩,⟨some 38,none,.load none (.tmp 37)⟩,⟨some 39,none,.mov (.tmp 1)⟩,⟨some 40,none,.mov (.tmp 11)⟩,⟨some 41,none,.call (.cst (.fn (.func 105) [] [])) [(.tmp 36), (.tmp 38), (.tmp 39), (.tmp 40)]⟩,⟨some 34,none,.mov (.tmp 41)⟩,⟨some 42,none,.ext (.tmp 34) 0⟩,⟨some 43,none,.ext (.tmp 34) 1⟩,⟨some 12,none,.mov (.tmp 42)⟩,⟨some 13,none,.mov (.tmp 43)⟩])
 (.seq (.ops false [⟨some 44,none,.mov (.tmp 13)⟩,⟨some 45,none,.bin .neq (.tmp 44) (.cst (I 0))⟩,⟨some 46,none,.mov (.tmp 45)⟩,⟨some 47,some ((some 46), false),.mov (.tmp 12)⟩,⟨some 48,some ((some 46), false),.bin .neq (.tmp 47) (.cst (I 2))⟩,⟨some 49,none,.pick (.tmp 46) (.cst (.bool true)) (.tmp 48)⟩])
 (.cond (.tmp 49) (.seq (.ops false [⟨some 10,none,.mov (.cst (.bool false))⟩])
 .ret) .skip))))
 (.ops false [⟨some 32,none,.mov (.tmp 11)⟩,⟨some 33,none,.bin .add (.tmp 32) (.cst (I 1))⟩,⟨some 11,none,.mov (.tmp 33)⟩])))
def keep79_0 : Option (List Nat) := some [1, 3, 5, 7, 9, 11]
def code79 : MF := ⟨50, [(10, none)], (.seq (.ops false [⟨some 5,none,.box (.tmp 0)⟩,⟨some 7,none,.box (.tmp 2)⟩,⟨some 9,none,.box (.tmp 4)⟩,⟨some 10,none,.mov (.cst (.bool false))⟩])
 (.seq (.seq (.ops false [⟨some 14,none,.fad (.tmp 7) 1⟩,⟨some 15,none,.fad (.tmp 14) 0⟩,⟨some 16,none,.load none (.tmp 15)⟩,⟨some 17,none,.mov (.tmp 3)⟩,⟨some 18,none,.bin .add (.tmp 16) (.tmp 17)⟩,⟨some 19,none,.fad (.tmp 9) 0⟩,⟨some 20,none,.load none (.tmp 19)⟩,⟨some 21,none,.bin .add (.tmp 18) (.tmp 20)⟩,⟨some 11,none,.mov (.tmp 21)⟩])
 (.block 0 (.loop keep79_0 body79_0)))
 (.seq (.ops false [⟨some 10,none,.mov (.cst (.bool true))⟩])
 .ret)))⟩
theorem comp79 : compF Cv 79 = some code79 := by kernel_rfl
end Go.Ai
