/- This text shows the codes of the reference, each by the kernel. No conditions of its own. -/
import Derived.Test.YtbjdaefdifofkaaDoorCodes
set_option linter.unusedSimpArgs false
set_option linter.unusedVariables false
set_option maxRecDepth 100000
namespace Go.Ai
def code16 : MF := ⟨29, [(2, none), (3, none)], (.seq (.ops false [⟨some 1,none,.box (.tmp 0)⟩,⟨some 2,none,.mov (.cst (.bool false))⟩,⟨some 3,none,.mov (.cst (I 0))⟩])
 (.seq (.seq (.ops false [⟨some 9,none,.load (some 6) (.tmp 1)⟩,⟨some 10,none,.call (.cst (.fn (.func 18) [] [])) [(.tmp 9)]⟩,⟨some 4,none,.mov (.tmp 10)⟩])
 (.seq (.ops false [⟨some 11,none,.mov (.tmp 4)⟩,⟨some 12,none,.bin .neq (.tmp 11) (.cst (I 0))⟩])
 (.cond (.tmp 12) (.seq (.ops false [⟨some 13,none,.mov (.tmp 4)⟩,⟨some 2,none,.mov (.cst (.bool false))⟩,⟨some 3,none,.mov (.tmp 13)⟩])
 .ret) .skip)))
 (.seq (.ops false [⟨some 15,none,.fad (.tmp 1) 3⟩,⟨some 16,none,.load (some 3) (.tmp 15)⟩,⟨some 17,none,.call (.cst (.fn (.func 58) [] [])) [(.tmp 16)]⟩,⟨some 14,none,.mov (.tmp 17)⟩,⟨some 18,none,.ext (.tmp 14) 0⟩,⟨some 19,none,.ext (.tmp 14) 1⟩,⟨some 5,none,.mov (.tmp 18)⟩,⟨some 6,none,.mov (.tmp 19)⟩])
 (.seq (.ops false [⟨some 21,none,.load (some 6) (.tmp 1)⟩,⟨some 22,none,.call (.cst (.fn (.func 59) [] [])) [(.tmp 21), (.cst (I 0))]⟩,⟨some 20,none,.mov (.tmp 22)⟩,⟨some 23,none,.ext (.tmp 20) 0⟩,⟨some 24,none,.ext (.tmp 20) 1⟩,⟨some 7,none,.alloc [(I 0),(I 0),(I 0),(I 0),(I 0),(I 0),(I 0),(I 0),(I 0),(I 0),(I 0),(I 0),(I 0),(I 0),(I 0),(I 0),(I 0),(I 0),(I 0),(I 0),(I 0),(I 0),(I 0),(I 0),(I 0),(I 0),(I 0),(I 0),(I 0),(I 0),(I 0),(I 0),(I 0),(I 0),(I 0),(I 0)]⟩,⟨none,none,.store 36 (.tmp 7) (.tmp 23)⟩,⟨some 8,none,.mov (.tmp 24)⟩])
 (.seq (.ops false [⟨some 25,none,.mov (.tmp 5)⟩,⟨some 26,none,.mov (.tmp 25)⟩,⟨some 27,some ((some 26), true),.mov (.tmp 8)⟩,⟨some 28,none,.pick (.tmp 26) (.tmp 27) (.cst (.bool false))⟩,⟨some 2,none,.mov (.tmp 28)⟩,⟨some 3,none,.mov (.cst (I 0))⟩])
 .ret)))))⟩
theorem comp16 : compF Cv 16 = some code16 := by kernel_rfl
def body18_0 : MC := (.seq (.seq (.ops false [⟨some 28,none,.mov (.tmp 3)⟩,⟨some 29,none,.mov (.tmp 28)⟩,⟨some 30,some ((some 29), true),.mov (.tmp 4)⟩,⟨some 31,some ((some 29), true),.fad (.tmp 1) 1⟩,⟨some 32,some ((some 29), true),.load none (.tmp 31)⟩,⟨some 33,some ((some 29), true),.len (.tmp 32)⟩,⟨some 34,some ((some 29), true),.bin .lss (.tmp 30) (.tmp 33)⟩,⟨some 35,none,.pick (.tmp 29) (.tmp 34) (.cst (.bool false))⟩])
 (.cond (.tmp 35) .skip (.exit 0)))
 (.seq (.block 1 (.ops false [⟨some 38,none,.load (some 6) (.tmp 1)⟩,⟨some 39,none,.fad (.tmp 1) 1⟩,⟨some 40,none,.load none (.tmp 39)⟩,⟨some 41,none,.mov (.tmp 4)⟩,⟨some 42,none,.ixs 4 (.tmp 40) (.tmp 41)⟩,⟨some 43,none,.load (some 4) (.tmp 42)⟩,⟨some 44,none,.call (.cst (.fn (.func 65) [] [])) [(.tmp 38), (.tmp 43)]⟩,⟨some 3,none,.mov (.tmp 44)⟩]))
 (.ops false [⟨some 36,none,.mov (.tmp 4)⟩,⟨some 37,none,.bin .add (.tmp 36) (.cst (I 1))⟩,⟨some 4,none,.mov (.tmp 37)⟩])))
def keep18_0 : Option (List Nat) := some [1, 3, 4]
def body18_1 : MC := (.seq (.seq (.ops false [⟨some 45,none,.mov (.tmp 3)⟩,⟨some 46,none,.mov (.tmp 45)⟩,⟨some 47,some ((some 46), true),.mov (.tmp 5)⟩,⟨some 48,some ((some 46), true),.fad (.tmp 1) 2⟩,⟨some 49,some ((some 46), true),.load none (.tmp 48)⟩,⟨some 50,some ((some 46), true),.len (.tmp 49)⟩,⟨some 51,some ((some 46), true),.bin .lss (.tmp 47) (.tmp 50)⟩,⟨some 52,none,.pick (.tmp 46) (.tmp 51) (.cst (.bool false))⟩])
 (.cond (.tmp 52) .skip (.exit 2)))
 (.seq (.block 3 (.seq (.ops false [⟨some 55,none,.fad (.tmp 1) 2⟩,⟨some 56,none,.load none (.tmp 55)⟩,⟨some 57,none,.mov (.tmp 5)⟩,⟨some 58,none,.ixs 3 (.tmp 56) (.tmp 57)⟩,⟨some 59,none,.load (some 3) (.tmp 58)⟩,⟨some 6,none,.alloc [(I 0),(I 0),(I 0)]⟩,⟨none,none,.store 3 (.tmp 6) (.tmp 59)⟩])
 (.ops false [⟨some 60,none,.load (some 6) (.tmp 1)⟩,⟨some 61,none,.fad (.tmp 6) 0⟩,⟨some 62,none,.load none (.tmp 61)⟩,⟨some 63,none,.call (.cst (.fn (.func 66) [] [])) [(.tmp 60), (.tmp 62)]⟩,⟨some 64,none,.mov (.tmp 63)⟩,⟨some 65,some ((some 64), true),.fad (.tmp 6) 1⟩,⟨some 66,some ((some 64), true),.load none (.tmp 65)⟩,⟨some 67,some ((some 64), true),.call (.cst (.fn (.func 43) [] [])) [(.tmp 66), (.cst (I (-60))), (.cst (I 60))]⟩,⟨some 68,none,.pick (.tmp 64) (.tmp 67) (.cst (.bool false))⟩,⟨some 69,none,.mov (.tmp 68)⟩,⟨some 70,some ((some 69), true),.fad (.tmp 6) 2⟩,⟨some 71,some ((some 69), true),.load none (.tmp 70)⟩,⟨some 72,some ((some 69), true),.call (.cst (.fn (.func 43) [] [])) [(.tmp 71), (.cst (I 0)), (.cst (I 5))]⟩,⟨some 73,none,.pick (.tmp 69) (.tmp 72) (.cst (.bool false))⟩,⟨some 3,none,.mov (.tmp 73)⟩])))
 (.ops false [⟨some 53,none,.mov (.tmp 5)⟩,⟨some 54,none,.bin .add (.tmp 53) (.cst (I 1))⟩,⟨some 5,none,.mov (.tmp 54)⟩])))
def keep18_1 : Option (List Nat) := some [1, 3, 5]
def code18 : MF := ⟨76, [(2, none)], (.seq (.ops false [⟨some 1,none,.box (.tmp 0)⟩,⟨some 2,none,.mov (.cst (I 0))⟩])
 (.seq (.ops false [⟨some 7,none,.fad (.tmp 1) 0⟩,⟨some 8,none,.load none (.tmp 7)⟩,⟨some 9,none,.call (.cst (.fn (.func 43) [] [])) [(.tmp 8), (.cst (I 1)), (.cst (I 5))]⟩,⟨some 10,none,.mov (.tmp 9)⟩,⟨some 11,some ((some 10), true),.fad (.tmp 1) 1⟩,⟨some 12,some ((some 10), true),.load none (.tmp 11)⟩,⟨some 13,some ((some 10), true),.len (.tmp 12)⟩,⟨some 14,some ((some 10), true),.bin .leq (.tmp 13) (.cst (I 6))⟩,⟨some 15,none,.pick (.tmp 10) (.tmp 14) (.cst (.bool false))⟩,⟨some 16,none,.mov (.tmp 15)⟩,⟨some 17,some ((some 16), true),.fad (.tmp 1) 2⟩,⟨some 18,some ((some 16), true),.load none (.tmp 17)⟩,⟨some 19,some ((some 16), true),.len (.tmp 18)⟩,⟨some 20,some ((some 16), true),.bin .leq (.tmp 19) (.cst (I 3))⟩,⟨some 21,none,.pick (.tmp 16) (.tmp 20) (.cst (.bool false))⟩,⟨some 22,none,.mov (.tmp 21)⟩,⟨some 23,some ((some 22), true),.fad (.tmp 1) 3⟩,⟨some 24,some ((some 22), true),.load (some 3) (.tmp 23)⟩,⟨some 25,some ((some 22), true),.call (.cst (.fn (.func 64) [] [])) [(.tmp 24)]⟩,⟨some 26,some ((some 22), true),.bin .eql (.tmp 25) (.cst (I 0))⟩,⟨some 27,none,.pick (.tmp 22) (.tmp 26) (.cst (.bool false))⟩,⟨some 3,none,.mov (.tmp 27)⟩])
 (.seq (.seq (.ops false [⟨some 4,none,.mov (.cst (I 0))⟩])
 (.block 0 (.loop keep18_0 body18_0)))
 (.seq (.seq (.ops false [⟨some 5,none,.mov (.cst (I 0))⟩])
 (.block 2 (.loop keep18_1 body18_1)))
 (.seq (.seq (.ops false [⟨some 74,none,.mov (.tmp 3)⟩,⟨some 75,none,.lnot (.tmp 74)⟩])
 (.cond (.tmp 75) (.seq (.ops false [⟨some 2,none,.mov (.cst (I 80))⟩])
 .ret) .skip))
 (.seq (.ops false [⟨some 2,none,.mov (.cst (I 0))⟩])
 .ret))))))⟩
theorem comp18 : compF Cv 18 = some code18 := by kernel_rfl
def code20 : MF := ⟨23, [(4, some (some 2)), (5, none)], (.seq (.ops false [⟨some 2,none,.box (.tmp 0)⟩,⟨some 4,none,.alloc [(I 0),(I 0)]⟩,⟨some 5,none,.mov (.cst (I 0))⟩])
 (.seq (.ops true [⟨some 9,none,.load (some 6) (.tmp 2)⟩,⟨some 10,none,.load (some 6) (.tmp 2)⟩,⟨some 11,none,.mov (.tmp 1)⟩,⟨some 12,none,.call (.cst (.fn (.func 66) [] [])) [(.tmp 10), (.tmp 11)]⟩,⟨some 13,none,.call (.cst (.fn (.func 70) [] [])) [(.tmp 9), (.tmp 12)]⟩,⟨some 8,none,.mov (.tmp 13)⟩,⟨some 14,none,.ext (.tmp 8) 0⟩,⟨some 15,none,.ext (.tmp 8) 1⟩,⟨some 6,none,.alloc [(I 0),(I 0),(I 0),(I 0),(I 0),(I 0),(I 0),(I 0),(I 0),(I 0),(I 0),(I 0),(I 0),(I 0),(I 0),(I 0),(I 0),(I 0),(I 0),(I 0),(I 0),(I 0),(I 0),(I 0),(I 0),(I 0),(I 0),(I 0),(I 0),(I 0),(I 0),(I 0),(I 0),(I 0),(I 0),(I 0)]⟩,⟨none,none,.store 36 (.tmp 6) (.tmp 14)⟩,⟨some 7,none,.mov (.tmp 15)⟩])
 (.seq (.seq (.ops false [⟨some 16,none,.mov (.tmp 7)⟩,⟨some 17,none,.bin .neq (.tmp 16) (.cst (I 0))⟩])
 (.cond (.tmp 17) (.seq (.ops false [⟨some 18,none,.bld [(I 0),(I 0)] []⟩,⟨some 19,none,.mov (.tmp 7)⟩,⟨none,none,.store 2 (.tmp 4) (.tmp 18)⟩,⟨some 5,none,.mov (.tmp 19)⟩])
 .ret) .skip))
 (.seq (.ops false [⟨some 20,none,.load (some 36) (.tmp 6)⟩,⟨some 21,none,.mov (.tmp 1)⟩,⟨some 22,none,.call (.cst (.fn (.func 71) [] [])) [(.tmp 20), (.cst (I 5)), (.tmp 21)]⟩,⟨none,none,.store 2 (.tmp 4) (.tmp 22)⟩,⟨some 5,none,.mov (.cst (I 0))⟩])
 .ret))))⟩
theorem comp20 : compF Cv 20 = some code20 := by kernel_rfl
def code22 : MF := ⟨31, [(6, some (some 2)), (7, none)], (.seq (.ops false [⟨some 3,none,.box (.tmp 0)⟩,⟨some 6,none,.alloc [(I 0),(I 0)]⟩,⟨some 7,none,.mov (.cst (I 0))⟩])
 (.seq (.ops true [⟨some 11,none,.load (some 6) (.tmp 3)⟩,⟨some 12,none,.load (some 6) (.tmp 3)⟩,⟨some 13,none,.mov (.tmp 1)⟩,⟨some 14,none,.call (.cst (.fn (.func 66) [] [])) [(.tmp 12), (.tmp 13)]⟩,⟨some 15,none,.mov (.tmp 14)⟩,⟨some 16,some ((some 15), true),.load (some 6) (.tmp 3)⟩,⟨some 17,some ((some 15), true),.mov (.tmp 2)⟩,⟨some 18,some ((some 15), true),.call (.cst (.fn (.func 66) [] [])) [(.tmp 16), (.tmp 17)]⟩,⟨some 19,none,.pick (.tmp 15) (.tmp 18) (.cst (.bool false))⟩,⟨some 20,none,.call (.cst (.fn (.func 70) [] [])) [(.tmp 11), (.tmp 19)]⟩,⟨some 10,none,.mov (.tmp 20)⟩,⟨some 21,none,.ext (.tmp 10) 0⟩,⟨some 22,none,.ext (.tmp 10) 1⟩,⟨some 8,none,.alloc [(I 0),(I 0),(I 0),(I 0),(I 0),(I 0),(I 0),(I 0),(I 0),(I 0),(I 0),(I 0),(I 0),(I 0),(I 0),(I 0),(I 0),(I 0),(I 0),(I 0),(I 0),(I 0),(I 0),(I 0),(I 0),(I 0),(I 0),(I 0),(I 0),(I 0),(I 0),(I 0),(I 0),(I 0),(I 0),(I 0)]⟩,⟨none,none,.store 36 (.tmp 8) (.tmp 21)⟩,⟨some 9,none,.mov (.tmp 22)⟩])
 (.seq (.seq (.ops false [⟨some 23,none,.mov (.tmp 9)⟩,⟨some 24,none,.bin .neq (.tmp 23) (.cst (I 0))⟩])
 (.cond (.tmp 24) (.seq (.ops false [⟨some 25,none,.bld [(I 0),(I 0)] []⟩,⟨some 26,none,.mov (.tmp 9)⟩,⟨none,none,.store 2 (.tmp 6) (.tmp 25)⟩,⟨some 7,none,.mov (.tmp 26)⟩])
 .ret) .skip))
 (.seq (.ops false [⟨some 27,none,.load (some 36) (.tmp 8)⟩,⟨some 28,none,.mov (.tmp 1)⟩,⟨some 29,none,.mov (.tmp 2)⟩,⟨some 30,none,.call (.cst (.fn (.func 71) [] [])) [(.tmp 27), (.tmp 28), (.tmp 29)]⟩,⟨none,none,.store 2 (.tmp 6) (.tmp 30)⟩,⟨some 7,none,.mov (.cst (I 0))⟩])
 .ret))))⟩
theorem comp22 : compF Cv 22 = some code22 := by kernel_rfl
def code24 : MF := ⟨18, [(2, some (some 2)), (3, none)], (.seq (.ops false [⟨some 1,none,.box (.tmp 0)⟩,⟨some 2,none,.alloc [(I 0),(I 0)]⟩,⟨some 3,none,.mov (.cst (I 0))⟩])
 (.seq (.ops false [⟨some 7,none,.load (some 6) (.tmp 1)⟩,⟨some 8,none,.call (.cst (.fn (.func 70) [] [])) [(.tmp 7), (.cst (.bool true))]⟩,⟨some 6,none,.mov (.tmp 8)⟩,⟨some 9,none,.ext (.tmp 6) 0⟩,⟨some 10,none,.ext (.tmp 6) 1⟩,⟨some 4,none,.alloc [(I 0),(I 0),(I 0),(I 0),(I 0),(I 0),(I 0),(I 0),(I 0),(I 0),(I 0),(I 0),(I 0),(I 0),(I 0),(I 0),(I 0),(I 0),(I 0),(I 0),(I 0),(I 0),(I 0),(I 0),(I 0),(I 0),(I 0),(I 0),(I 0),(I 0),(I 0),(I 0),(I 0),(I 0),(I 0),(I 0)]⟩,⟨none,none,.store 36 (.tmp 4) (.tmp 9)⟩,⟨some 5,none,.mov (.tmp 10)⟩])
 (.seq (.seq (.ops false [⟨some 11,none,.mov (.tmp 5)⟩,⟨some 12,none,.bin .neq (.tmp 11) (.cst (I 0))⟩])
 (.cond (.tmp 12) (.seq (.ops false [⟨some 13,none,.bld [(I 0),(I 0)] []⟩,⟨some 14,none,.mov (.tmp 5)⟩,⟨none,none,.store 2 (.tmp 2) (.tmp 13)⟩,⟨some 3,none,.mov (.tmp 14)⟩])
 .ret) .skip))
 (.seq (.ops false [⟨some 15,none,.load (some 6) (.tmp 1)⟩,⟨some 16,none,.load (some 36) (.tmp 4)⟩,⟨some 17,none,.call (.cst (.fn (.func 73) [] [])) [(.tmp 15), (.tmp 16)]⟩,⟨none,none,.store 2 (.tmp 2) (.tmp 17)⟩,⟨some 3,none,.mov (.cst (I 0))⟩])
 .ret))))⟩
theorem comp24 : compF Cv 24 = some code24 := by kernel_rfl
def code58 : MF := ⟨12, [(2, none), (3, none)], (.seq (.ops false [⟨some 1,none,.box (.tmp 0)⟩,⟨some 2,none,.mov (.cst (.bool false))⟩,⟨some 3,none,.mov (.cst (I 0))⟩])
 (.seq (.seq (.ops false [⟨some 5,none,.load (some 3) (.tmp 1)⟩,⟨some 6,none,.call (.cst (.fn (.func 64) [] [])) [(.tmp 5)]⟩,⟨some 4,none,.mov (.tmp 6)⟩])
 (.seq (.ops false [⟨some 7,none,.mov (.tmp 4)⟩,⟨some 8,none,.bin .neq (.tmp 7) (.cst (I 0))⟩])
 (.cond (.tmp 8) (.seq (.ops false [⟨some 9,none,.mov (.tmp 4)⟩,⟨some 2,none,.mov (.cst (.bool false))⟩,⟨some 3,none,.mov (.tmp 9)⟩])
 .ret) .skip)))
 (.seq (.ops false [⟨some 10,none,.load (some 3) (.tmp 1)⟩,⟨some 11,none,.call (.cst (.fn (.func 95) [] [])) [(.tmp 10), (.cst (I 0))]⟩,⟨some 2,none,.mov (.tmp 11)⟩,⟨some 3,none,.mov (.cst (I 0))⟩])
 .ret)))⟩
theorem comp58 : compF Cv 58 = some code58 := by kernel_rfl
def body59_0 : MC := (.seq (.seq (.ops false [⟨some 22,none,.mov (.tmp 8)⟩,⟨some 23,none,.bin .lss (.tmp 22) (.cst (I 6))⟩])
 (.cond (.tmp 23) .skip (.exit 2)))
 (.seq (.block 3 (.ops false [⟨some 26,none,.mov (.tmp 7)⟩,⟨some 27,none,.mov (.tmp 8)⟩,⟨some 28,none,.ixa 6 6 (.tmp 6) (.tmp 26)⟩,⟨some 29,none,.ixa 6 1 (.tmp 28) (.tmp 27)⟩,⟨none,none,.store 1 (.tmp 29) (.cst (I 100000))⟩]))
 (.ops false [⟨some 24,none,.mov (.tmp 8)⟩,⟨some 25,none,.bin .add (.tmp 24) (.cst (I 1))⟩,⟨some 8,none,.mov (.tmp 25)⟩])))
def keep59_0 : Option (List Nat) := some [1, 2, 4, 6, 7, 8]
def body59_1 : MC := (.seq (.seq (.ops false [⟨some 18,none,.mov (.tmp 7)⟩,⟨some 19,none,.bin .lss (.tmp 18) (.cst (I 6))⟩])
 (.cond (.tmp 19) .skip (.exit 0)))
 (.seq (.block 1 (.seq (.seq (.ops false [⟨some 8,none,.mov (.cst (I 0))⟩])
 (.block 2 (.loop keep59_0 body59_0)))
 (.ops false [⟨some 30,none,.mov (.tmp 7)⟩,⟨some 31,none,.mov (.tmp 7)⟩,⟨some 32,none,.ixa 6 6 (.tmp 6) (.tmp 30)⟩,⟨some 33,none,.ixa 6 1 (.tmp 32) (.tmp 31)⟩,⟨none,none,.store 1 (.tmp 33) (.cst (I 0))⟩])))
 (.ops false [⟨some 20,none,.mov (.tmp 7)⟩,⟨some 21,none,.bin .add (.tmp 20) (.cst (I 1))⟩,⟨some 7,none,.mov (.tmp 21)⟩])))
def keep59_1 : Option (List Nat) := some [1, 2, 4, 6, 7]
def body59_2 : MC := (.seq (.seq (.ops false [⟨some 34,none,.mov (.tmp 9)⟩,⟨some 35,none,.fad (.tmp 2) 0⟩,⟨some 36,none,.load none (.tmp 35)⟩,⟨some 37,none,.bin .lss (.tmp 34) (.tmp 36)⟩])
 (.cond (.tmp 37) .skip (.exit 4)))
 (.seq (.block 5 (.ops false [⟨some 40,none,.load (some 36) (.tmp 6)⟩,⟨some 41,none,.mov (.tmp 9)⟩,⟨some 42,none,.call (.cst (.fn (.func 96) [] [])) [(.tmp 40), (.cst (I 5)), (.tmp 41), (.cst (I 60))]⟩,⟨some 43,none,.mov (.tmp 9)⟩,⟨some 44,none,.call (.cst (.fn (.func 96) [] [])) [(.tmp 42), (.tmp 43), (.cst (I 5)), (.cst (I 60))]⟩,⟨none,none,.store 36 (.tmp 6) (.tmp 44)⟩]))
 (.ops false [⟨some 38,none,.mov (.tmp 9)⟩,⟨some 39,none,.bin .add (.tmp 38) (.cst (I 1))⟩,⟨some 9,none,.mov (.tmp 39)⟩])))
def keep59_2 : Option (List Nat) := some [1, 2, 4, 6, 9]
def body59_3 : MC := (.seq (.seq (.ops false [⟨some 45,none,.mov (.tmp 10)⟩,⟨some 46,none,.fad (.tmp 2) 2⟩,⟨some 47,none,.load none (.tmp 46)⟩,⟨some 48,none,.len (.tmp 47)⟩,⟨some 49,none,.bin .lss (.tmp 45) (.tmp 48)⟩])
 (.cond (.tmp 49) .skip (.exit 6)))
 (.seq (.block 7 (.seq (.ops false [⟨some 52,none,.fad (.tmp 2) 2⟩,⟨some 53,none,.load none (.tmp 52)⟩,⟨some 54,none,.mov (.tmp 10)⟩,⟨some 55,none,.ixs 3 (.tmp 53) (.tmp 54)⟩,⟨some 56,none,.load (some 3) (.tmp 55)⟩,⟨some 11,none,.alloc [(I 0),(I 0),(I 0)]⟩,⟨none,none,.store 3 (.tmp 11) (.tmp 56)⟩])
 (.ops true [⟨some 57,none,.load (some 36) (.tmp 6)⟩,⟨some 58,none,.fad (.tmp 11) 0⟩,⟨some 59,none,.load none (.tmp 58)⟩,⟨some 60,none,.fad (.tmp 11) 1⟩,⟨some 61,none,.load none (.tmp 60)⟩,⟨some 62,none,.fad (.tmp 11) 2⟩,⟨some 63,none,.load none (.tmp 62)⟩,⟨some 64,none,.bin .add (.tmp 61) (.tmp 63)⟩,⟨some 65,none,.call (.cst (.fn (.func 96) [] [])) [(.tmp 57), (.cst (I 5)), (.tmp 59), (.tmp 64)]⟩,⟨some 66,none,.fad (.tmp 11) 0⟩,⟨some 67,none,.load none (.tmp 66)⟩,⟨some 68,none,.fad (.tmp 11) 2⟩,⟨some 69,none,.load none (.tmp 68)⟩,⟨some 70,none,.fad (.tmp 11) 1⟩,⟨some 71,none,.load none (.tmp 70)⟩,⟨some 72,none,.bin .sub (.tmp 69) (.tmp 71)⟩,⟨some 73,none,.call (.cst (.fn (.func 96) [] [])) [(.tmp 65), (.tmp 67), (.cst (I 5)), (.tmp 72)]⟩,⟨none,none,.store 36 (.tmp 6) (.tmp 73)⟩])))
 (.ops false [⟨some 50,none,.mov (.tmp 10)⟩,⟨some 51,none,.bin .add (.tmp 50) (.cst (I 1))⟩,⟨some 10,none,.mov (.tmp 51)⟩])))
def keep59_3 : Option (List Nat) := some [1, 2, 4, 6, 10]
def body59_4 : MC := (.seq (.seq (.ops false [⟨some 74,none,.mov (.tmp 12)⟩,⟨some 75,none,.fad (.tmp 2) 1⟩,⟨some 76,none,.load none (.tmp 75)⟩,⟨some 77,none,.len (.tmp 76)⟩,⟨some 78,none,.bin .lss (.tmp 74) (.tmp 77)⟩])
 (.cond (.tmp 78) .skip (.exit 8)))
 (.seq (.block 9 (.seq (.ops false [⟨some 81,none,.fad (.tmp 2) 1⟩,⟨some 82,none,.load none (.tmp 81)⟩,⟨some 83,none,.mov (.tmp 12)⟩,⟨some 84,none,.ixs 4 (.tmp 82) (.tmp 83)⟩,⟨some 85,none,.load (some 4) (.tmp 84)⟩,⟨some 13,none,.alloc [(I 0),(I 0),(I 0),(I 0)]⟩,⟨none,none,.store 4 (.tmp 13) (.tmp 85)⟩])
 (.seq (.ops false [⟨some 86,none,.mov (.tmp 1)⟩,⟨some 87,none,.mov (.tmp 12)⟩,⟨some 88,none,.call (.cst (.fn (.func 92) [] [])) [(.tmp 86), (.tmp 87)]⟩,⟨some 89,none,.lnot (.tmp 88)⟩])
 (.cond (.tmp 89) (.ops true [⟨some 90,none,.load (some 36) (.tmp 6)⟩,⟨some 91,none,.fad (.tmp 13) 0⟩,⟨some 92,none,.load none (.tmp 91)⟩,⟨some 93,none,.fad (.tmp 13) 1⟩,⟨some 94,none,.load none (.tmp 93)⟩,⟨some 95,none,.fad (.tmp 13) 2⟩,⟨some 96,none,.load none (.tmp 95)⟩,⟨some 97,none,.fad (.tmp 13) 3⟩,⟨some 98,none,.load none (.tmp 97)⟩,⟨some 99,none,.bin .add (.tmp 96) (.tmp 98)⟩,⟨some 100,none,.call (.cst (.fn (.func 96) [] [])) [(.tmp 90), (.tmp 92), (.tmp 94), (.tmp 99)]⟩,⟨some 101,none,.fad (.tmp 13) 1⟩,⟨some 102,none,.load none (.tmp 101)⟩,⟨some 103,none,.fad (.tmp 13) 0⟩,⟨some 104,none,.load none (.tmp 103)⟩,⟨some 105,none,.fad (.tmp 13) 3⟩,⟨some 106,none,.load none (.tmp 105)⟩,⟨some 107,none,.fad (.tmp 13) 2⟩,⟨some 108,none,.load none (.tmp 107)⟩,⟨some 109,none,.bin .sub (.tmp 106) (.tmp 108)⟩,⟨some 110,none,.call (.cst (.fn (.func 96) [] [])) [(.tmp 100), (.tmp 102), (.tmp 104), (.tmp 109)]⟩,⟨none,none,.store 36 (.tmp 6) (.tmp 110)⟩]) .skip))))
 (.ops false [⟨some 79,none,.mov (.tmp 12)⟩,⟨some 80,none,.bin .add (.tmp 79) (.cst (I 1))⟩,⟨some 12,none,.mov (.tmp 80)⟩])))
def keep59_4 : Option (List Nat) := some [1, 2, 4, 6, 12]
def body59_5 : MC := (.seq (.seq (.ops false [⟨some 119,none,.mov (.tmp 16)⟩,⟨some 120,none,.bin .lss (.tmp 119) (.cst (I 6))⟩])
 (.cond (.tmp 120) .skip (.exit 14)))
 (.seq (.block 15 (.ops false [⟨some 123,none,.load (some 36) (.tmp 6)⟩,⟨some 124,none,.mov (.tmp 15)⟩,⟨some 125,none,.mov (.tmp 16)⟩,⟨some 126,none,.mov (.tmp 15)⟩,⟨some 127,none,.mov (.tmp 14)⟩,⟨some 128,none,.ixa 6 6 (.tmp 6) (.tmp 126)⟩,⟨some 129,none,.ixa 6 1 (.tmp 128) (.tmp 127)⟩,⟨some 130,none,.load none (.tmp 129)⟩,⟨some 131,none,.mov (.tmp 14)⟩,⟨some 132,none,.mov (.tmp 16)⟩,⟨some 133,none,.ixa 6 6 (.tmp 6) (.tmp 131)⟩,⟨some 134,none,.ixa 6 1 (.tmp 133) (.tmp 132)⟩,⟨some 135,none,.load none (.tmp 134)⟩,⟨some 136,none,.bin .add (.tmp 130) (.tmp 135)⟩,⟨some 137,none,.call (.cst (.fn (.func 96) [] [])) [(.tmp 123), (.tmp 124), (.tmp 125), (.tmp 136)]⟩,⟨none,none,.store 36 (.tmp 6) (.tmp 137)⟩]))
 (.ops false [⟨some 121,none,.mov (.tmp 16)⟩,⟨some 122,none,.bin .add (.tmp 121) (.cst (I 1))⟩,⟨some 16,none,.mov (.tmp 122)⟩])))
def keep59_5 : Option (List Nat) := some [4, 6, 14, 15, 16]
def body59_6 : MC := (.seq (.seq (.ops false [⟨some 115,none,.mov (.tmp 15)⟩,⟨some 116,none,.bin .lss (.tmp 115) (.cst (I 6))⟩])
 (.cond (.tmp 116) .skip (.exit 12)))
 (.seq (.block 13 (.seq (.ops false [⟨some 16,none,.mov (.cst (I 0))⟩])
 (.block 14 (.loop keep59_5 body59_5))))
 (.ops false [⟨some 117,none,.mov (.tmp 15)⟩,⟨some 118,none,.bin .add (.tmp 117) (.cst (I 1))⟩,⟨some 15,none,.mov (.tmp 118)⟩])))
def keep59_6 : Option (List Nat) := some [4, 6, 14, 15]
def body59_7 : MC := (.seq (.seq (.ops false [⟨some 111,none,.mov (.tmp 14)⟩,⟨some 112,none,.bin .lss (.tmp 111) (.cst (I 6))⟩])
 (.cond (.tmp 112) .skip (.exit 10)))
 (.seq (.block 11 (.seq (.ops false [⟨some 15,none,.mov (.cst (I 0))⟩])
 (.block 12 (.loop keep59_6 body59_6))))
 (.ops false [⟨some 113,none,.mov (.tmp 14)⟩,⟨some 114,none,.bin .add (.tmp 113) (.cst (I 1))⟩,⟨some 14,none,.mov (.tmp 114)⟩])))
def keep59_7 : Option (List Nat) := some [4, 6, 14]
def body59_8 : MC := (.seq (.seq (.ops false [⟨some 138,none,.mov (.tmp 17)⟩,⟨some 139,none,.bin .lss (.tmp 138) (.cst (I 6))⟩])
 (.cond (.tmp 139) .skip (.exit 16)))
 (.seq (.block 17 (.seq (.ops false [⟨some 142,none,.mov (.tmp 17)⟩,⟨some 143,none,.mov (.tmp 17)⟩,⟨some 144,none,.ixa 6 6 (.tmp 6) (.tmp 142)⟩,⟨some 145,none,.ixa 6 1 (.tmp 144) (.tmp 143)⟩,⟨some 146,none,.load none (.tmp 145)⟩,⟨some 147,none,.bin .lss (.tmp 146) (.cst (I 0))⟩])
 (.cond (.tmp 147) (.seq (.ops false [⟨some 148,none,.load (some 36) (.tmp 6)⟩,⟨none,none,.store 36 (.tmp 4) (.tmp 148)⟩,⟨some 5,none,.mov (.cst (.bool false))⟩])
 .ret) .skip)))
 (.ops false [⟨some 140,none,.mov (.tmp 17)⟩,⟨some 141,none,.bin .add (.tmp 140) (.cst (I 1))⟩,⟨some 17,none,.mov (.tmp 141)⟩])))
def keep59_8 : Option (List Nat) := some [4, 6, 17]
def code59 : MF := ⟨150, [(4, some (some 36)), (5, none)], (.seq (.ops false [⟨some 2,none,.box (.tmp 0)⟩,⟨some 4,none,.alloc [(I 0),(I 0),(I 0),(I 0),(I 0),(I 0),(I 0),(I 0),(I 0),(I 0),(I 0),(I 0),(I 0),(I 0),(I 0),(I 0),(I 0),(I 0),(I 0),(I 0),(I 0),(I 0),(I 0),(I 0),(I 0),(I 0),(I 0),(I 0),(I 0),(I 0),(I 0),(I 0),(I 0),(I 0),(I 0),(I 0)]⟩,⟨some 5,none,.mov (.cst (.bool false))⟩])
 (.seq (.ops false [⟨some 6,none,.alloc [(I 0),(I 0),(I 0),(I 0),(I 0),(I 0),(I 0),(I 0),(I 0),(I 0),(I 0),(I 0),(I 0),(I 0),(I 0),(I 0),(I 0),(I 0),(I 0),(I 0),(I 0),(I 0),(I 0),(I 0),(I 0),(I 0),(I 0),(I 0),(I 0),(I 0),(I 0),(I 0),(I 0),(I 0),(I 0),(I 0)]⟩])
 (.seq (.seq (.ops false [⟨some 7,none,.mov (.cst (I 0))⟩])
 (.block 0 (.loop keep59_1 body59_1)))
 (.seq (.seq (.ops false [⟨some 9,none,.mov (.cst (I 0))⟩])
 (.block 4 (.loop keep59_2 body59_2)))
 (.seq (.seq (.ops false [⟨some 10,none,.mov (.cst (I 0))⟩])
 (.block 6 (.loop keep59_3 body59_3)))
 (.seq (.seq (.ops false [⟨some 12,none,.mov (.cst (I 0))⟩])
 (.block 8 (.loop keep59_4 body59_4)))
 (.seq (.seq (.ops false [⟨some 14,none,.mov (.cst (I 0))⟩])
 (.block 10 (.loop keep59_7 body59_7)))
 (.seq (.seq (.ops false [⟨some 17,none,.mov (.cst (I 0))⟩])
 (.block 16 (.loop keep59_8 body59_8)))
 (.seq (.ops false [⟨some 149,none,.load (some 36) (.tmp 6)⟩,⟨none,none,.store 36 (.tmp 4) (.tmp 149)⟩,⟨some 5,none,.mov (.cst (.bool true))⟩])
 .ret)))))))))⟩
theorem comp59 : compF Cv 59 = some code59 := by kernel_rfl
def code65 : MF := ⟨32, [(4, none)], (.seq (.ops false [⟨some 2,none,.box (.tmp 0)⟩,⟨some 3,none,.box (.tmp 1)⟩,⟨some 4,none,.mov (.cst (.bool false))⟩])
 (.seq (.ops false [⟨some 5,none,.load (some 6) (.tmp 2)⟩,⟨some 6,none,.fad (.tmp 3) 0⟩,⟨some 7,none,.load none (.tmp 6)⟩,⟨some 8,none,.call (.cst (.fn (.func 66) [] [])) [(.tmp 5), (.tmp 7)]⟩,⟨some 9,none,.mov (.tmp 8)⟩,⟨some 10,some ((some 9), true),.load (some 6) (.tmp 2)⟩,⟨some 11,some ((some 9), true),.fad (.tmp 3) 1⟩,⟨some 12,some ((some 9), true),.load none (.tmp 11)⟩,⟨some 13,some ((some 9), true),.call (.cst (.fn (.func 66) [] [])) [(.tmp 10), (.tmp 12)]⟩,⟨some 14,none,.pick (.tmp 9) (.tmp 13) (.cst (.bool false))⟩,⟨some 15,none,.mov (.tmp 14)⟩,⟨some 16,some ((some 15), true),.fad (.tmp 3) 0⟩,⟨some 17,some ((some 15), true),.load none (.tmp 16)⟩,⟨some 18,some ((some 15), true),.fad (.tmp 3) 1⟩,⟨some 19,some ((some 15), true),.load none (.tmp 18)⟩,⟨some 20,some ((some 15), true),.bin .neq (.tmp 17) (.tmp 19)⟩,⟨some 21,none,.pick (.tmp 15) (.tmp 20) (.cst (.bool false))⟩,⟨some 22,none,.mov (.tmp 21)⟩,⟨some 23,some ((some 22), true),.fad (.tmp 3) 2⟩,⟨some 24,some ((some 22), true),.load none (.tmp 23)⟩,⟨some 25,some ((some 22), true),.call (.cst (.fn (.func 43) [] [])) [(.tmp 24), (.cst (I (-30))), (.cst (I 30))]⟩,⟨some 26,none,.pick (.tmp 22) (.tmp 25) (.cst (.bool false))⟩,⟨some 27,none,.mov (.tmp 26)⟩,⟨some 28,some ((some 27), true),.fad (.tmp 3) 3⟩,⟨some 29,some ((some 27), true),.load none (.tmp 28)⟩,⟨some 30,some ((some 27), true),.call (.cst (.fn (.func 43) [] [])) [(.tmp 29), (.cst (I 0)), (.cst (I 5))]⟩,⟨some 31,none,.pick (.tmp 27) (.tmp 30) (.cst (.bool false))⟩,⟨some 4,none,.mov (.tmp 31)⟩])
 .ret))⟩
theorem comp65 : compF Cv 65 = some code65 := by kernel_rfl
def code66 : MF := ⟨10, [(4, none)], (.seq (.ops false [⟨some 2,none,.box (.tmp 0)⟩,⟨some 4,none,.mov (.cst (.bool false))⟩])
 (.seq (.ops false [⟨some 5,none,.mov (.tmp 1)⟩,⟨some 6,none,.fad (.tmp 2) 0⟩,⟨some 7,none,.load none (.tmp 6)⟩,⟨some 8,none,.bin .sub (.tmp 7) (.cst (I 1))⟩,⟨some 9,none,.call (.cst (.fn (.func 43) [] [])) [(.tmp 5), (.cst (I 0)), (.tmp 8)]⟩,⟨some 4,none,.mov (.tmp 9)⟩])
 .ret))⟩
theorem comp66 : compF Cv 66 = some code66 := by kernel_rfl
def code70 : MF := ⟨39, [(4, some (some 36)), (5, none)], (.seq (.ops false [⟨some 2,none,.box (.tmp 0)⟩,⟨some 4,none,.alloc [(I 0),(I 0),(I 0),(I 0),(I 0),(I 0),(I 0),(I 0),(I 0),(I 0),(I 0),(I 0),(I 0),(I 0),(I 0),(I 0),(I 0),(I 0),(I 0),(I 0),(I 0),(I 0),(I 0),(I 0),(I 0),(I 0),(I 0),(I 0),(I 0),(I 0),(I 0),(I 0),(I 0),(I 0),(I 0),(I 0)]⟩,⟨some 5,none,.mov (.cst (I 0))⟩])
 (.seq (.seq (.ops false [⟨some 11,none,.load (some 6) (.tmp 2)⟩,⟨some 12,none,.call (.cst (.fn (.func 18) [] [])) [(.tmp 11)]⟩,⟨some 6,none,.mov (.tmp 12)⟩])
 (.seq (.ops false [⟨some 13,none,.mov (.tmp 6)⟩,⟨some 14,none,.bin .neq (.tmp 13) (.cst (I 0))⟩])
 (.cond (.tmp 14) (.seq (.ops false [⟨some 15,none,.bld [(I 0),(I 0),(I 0),(I 0),(I 0),(I 0),(I 0),(I 0),(I 0),(I 0),(I 0),(I 0),(I 0),(I 0),(I 0),(I 0),(I 0),(I 0),(I 0),(I 0),(I 0),(I 0),(I 0),(I 0),(I 0),(I 0),(I 0),(I 0),(I 0),(I 0),(I 0),(I 0),(I 0),(I 0),(I 0),(I 0)] []⟩,⟨some 16,none,.mov (.tmp 6)⟩,⟨none,none,.store 36 (.tmp 4) (.tmp 15)⟩,⟨some 5,none,.mov (.tmp 16)⟩])
 .ret) .skip)))
 (.seq (.seq (.ops false [⟨some 17,none,.mov (.tmp 1)⟩,⟨some 18,none,.lnot (.tmp 17)⟩])
 (.cond (.tmp 18) (.seq (.ops false [⟨some 19,none,.bld [(I 0),(I 0),(I 0),(I 0),(I 0),(I 0),(I 0),(I 0),(I 0),(I 0),(I 0),(I 0),(I 0),(I 0),(I 0),(I 0),(I 0),(I 0),(I 0),(I 0),(I 0),(I 0),(I 0),(I 0),(I 0),(I 0),(I 0),(I 0),(I 0),(I 0),(I 0),(I 0),(I 0),(I 0),(I 0),(I 0)] []⟩,⟨none,none,.store 36 (.tmp 4) (.tmp 19)⟩,⟨some 5,none,.mov (.cst (I 81))⟩])
 .ret) .skip))
 (.seq (.ops false [⟨some 21,none,.load (some 6) (.tmp 2)⟩,⟨some 22,none,.call (.cst (.fn (.func 59) [] [])) [(.tmp 21), (.cst (I 0))]⟩,⟨some 20,none,.mov (.tmp 22)⟩,⟨some 23,none,.ext (.tmp 20) 0⟩,⟨some 24,none,.ext (.tmp 20) 1⟩,⟨some 7,none,.alloc [(I 0),(I 0),(I 0),(I 0),(I 0),(I 0),(I 0),(I 0),(I 0),(I 0),(I 0),(I 0),(I 0),(I 0),(I 0),(I 0),(I 0),(I 0),(I 0),(I 0),(I 0),(I 0),(I 0),(I 0),(I 0),(I 0),(I 0),(I 0),(I 0),(I 0),(I 0),(I 0),(I 0),(I 0),(I 0),(I 0)]⟩,⟨none,none,.store 36 (.tmp 7) (.tmp 23)⟩,⟨some 8,none,.mov (.tmp 24)⟩])
 (.seq (.seq (.ops false [⟨some 26,none,.fad (.tmp 2) 3⟩,⟨some 27,none,.load (some 3) (.tmp 26)⟩,⟨some 28,none,.call (.cst (.fn (.func 58) [] [])) [(.tmp 27)]⟩,⟨some 25,none,.mov (.tmp 28)⟩,⟨some 29,none,.ext (.tmp 25) 0⟩,⟨some 30,none,.ext (.tmp 25) 1⟩,⟨some 9,none,.mov (.tmp 29)⟩,⟨some 10,none,.mov (.tmp 30)⟩])
 (.seq (.ops false [⟨some 31,none,.mov (.tmp 8)⟩,⟨some 32,none,.lnot (.tmp 31)⟩,⟨some 33,none,.mov (.tmp 32)⟩,⟨some 34,some ((some 33), false),.mov (.tmp 9)⟩,⟨some 35,some ((some 33), false),.lnot (.tmp 34)⟩,⟨some 36,none,.pick (.tmp 33) (.cst (.bool true)) (.tmp 35)⟩])
 (.cond (.tmp 36) (.seq (.ops false [⟨some 37,none,.load (some 36) (.tmp 7)⟩,⟨none,none,.store 36 (.tmp 4) (.tmp 37)⟩,⟨some 5,none,.mov (.cst (I 82))⟩])
 .ret) .skip)))
 (.seq (.ops false [⟨some 38,none,.load (some 36) (.tmp 7)⟩,⟨none,none,.store 36 (.tmp 4) (.tmp 38)⟩,⟨some 5,none,.mov (.cst (I 0))⟩])
 .ret))))))⟩
theorem comp70 : compF Cv 70 = some code70 := by kernel_rfl
def code71 : MF := ⟨19, [(6, some (some 2))], (.seq (.ops false [⟨some 3,none,.box (.tmp 0)⟩,⟨some 6,none,.alloc [(I 0),(I 0)]⟩])
 (.seq (.ops false [⟨some 7,none,.mov (.tmp 2)⟩,⟨some 8,none,.mov (.tmp 1)⟩,⟨some 9,none,.ixa 6 6 (.tmp 3) (.tmp 7)⟩,⟨some 10,none,.ixa 6 1 (.tmp 9) (.tmp 8)⟩,⟨some 11,none,.load none (.tmp 10)⟩,⟨some 12,none,.neg (.tmp 11)⟩,⟨some 13,none,.mov (.tmp 1)⟩,⟨some 14,none,.mov (.tmp 2)⟩,⟨some 15,none,.ixa 6 6 (.tmp 3) (.tmp 13)⟩,⟨some 16,none,.ixa 6 1 (.tmp 15) (.tmp 14)⟩,⟨some 17,none,.load none (.tmp 16)⟩,⟨some 18,none,.call (.cst (.fn (.func 49) [] [])) [(.tmp 12), (.tmp 17)]⟩,⟨none,none,.store 2 (.tmp 6) (.tmp 18)⟩])
 .ret))⟩
theorem comp71 : compF Cv 71 = some code71 := by kernel_rfl
def body73_0 : MC := (.seq (.seq (.ops false [⟨some 9,none,.mov (.tmp 6)⟩,⟨some 10,none,.fad (.tmp 2) 0⟩,⟨some 11,none,.load none (.tmp 10)⟩,⟨some 12,none,.bin .lss (.tmp 9) (.tmp 11)⟩])
 (.cond (.tmp 12) .skip (.exit 0)))
 (.seq (.block 1 (.ops true [⟨some 15,none,.load (some 2) (.tmp 5)⟩,⟨some 16,none,.load (some 36) (.tmp 3)⟩,⟨some 17,none,.mov (.tmp 6)⟩,⟨some 18,none,.call (.cst (.fn (.func 71) [] [])) [(.tmp 16), (.cst (I 5)), (.tmp 17)]⟩,⟨some 19,none,.call (.cst (.fn (.func 102) [] [])) [(.tmp 15), (.tmp 18)]⟩,⟨none,none,.store 2 (.tmp 5) (.tmp 19)⟩]))
 (.ops false [⟨some 13,none,.mov (.tmp 6)⟩,⟨some 14,none,.bin .add (.tmp 13) (.cst (I 1))⟩,⟨some 6,none,.mov (.tmp 14)⟩])))
def keep73_0 : Option (List Nat) := some [2, 3, 4, 5, 6]
def code73 : MF := ⟨29, [(4, some (some 2))], (.seq (.ops false [⟨some 2,none,.box (.tmp 0)⟩,⟨some 3,none,.box (.tmp 1)⟩,⟨some 4,none,.alloc [(I 0),(I 0)]⟩])
 (.seq (.ops false [⟨some 7,none,.load (some 36) (.tmp 3)⟩,⟨some 8,none,.call (.cst (.fn (.func 71) [] [])) [(.tmp 7), (.cst (I 5)), (.cst (I 0))]⟩,⟨some 5,none,.alloc [(I 0),(I 0)]⟩,⟨none,none,.store 2 (.tmp 5) (.tmp 8)⟩])
 (.seq (.seq (.ops false [⟨some 6,none,.mov (.cst (I 0))⟩])
 (.block 0 (.loop keep73_0 body73_0)))
 (.seq (.ops true [⟨some 20,none,.fad (.tmp 5) 0⟩,⟨some 21,none,.load none (.tmp 20)⟩,⟨some 22,none,.call (.cst (.fn (.func 103) [] [])) [(.tmp 21)]⟩,⟨some 23,none,.fad (.tmp 5) 1⟩,⟨some 24,none,.load none (.tmp 23)⟩,⟨some 25,none,.neg (.tmp 24)⟩,⟨some 26,none,.call (.cst (.fn (.func 103) [] [])) [(.tmp 25)]⟩,⟨some 27,none,.neg (.tmp 26)⟩,⟨some 28,none,.call (.cst (.fn (.func 49) [] [])) [(.tmp 22), (.tmp 27)]⟩,⟨none,none,.store 2 (.tmp 4) (.tmp 28)⟩])
 .ret))))⟩
theorem comp73 : compF Cv 73 = some code73 := by kernel_rfl
def body95_0 : MC := (.seq (.seq (.ops false [⟨some 6,none,.mov (.tmp 5)⟩,⟨some 7,none,.fad (.tmp 2) 0⟩,⟨some 8,none,.load none (.tmp 7)⟩,⟨some 9,none,.len (.tmp 8)⟩,⟨some 10,none,.bin .lss (.tmp 6) (.tmp 9)⟩])
 (.cond (.tmp 10) .skip (.exit 0)))
 (.seq (.block 1 (.seq (.ops false [⟨some 13,none,.load (some 3) (.tmp 2)⟩,⟨some 14,none,.mov (.tmp 5)⟩,⟨some 15,none,.mov (.tmp 1)⟩,⟨some 16,none,.call (.cst (.fn (.func 112) [] [])) [(.tmp 13), (.tmp 14), (.tmp 15)]⟩,⟨some 17,none,.len (.tmp 16)⟩,⟨some 18,none,.bin .eql (.tmp 17) (.cst (I 0))⟩])
 (.cond (.tmp 18) (.seq (.ops false [⟨some 4,none,.mov (.cst (.bool false))⟩])
 .ret) .skip)))
 (.ops false [⟨some 11,none,.mov (.tmp 5)⟩,⟨some 12,none,.bin .add (.tmp 11) (.cst (I 1))⟩,⟨some 5,none,.mov (.tmp 12)⟩])))
def keep95_0 : Option (List Nat) := some [1, 2, 5]
def code95 : MF := ⟨19, [(4, none)], (.seq (.ops false [⟨some 2,none,.box (.tmp 0)⟩,⟨some 4,none,.mov (.cst (.bool false))⟩])
 (.seq (.seq (.ops false [⟨some 5,none,.mov (.cst (I 0))⟩])
 (.block 0 (.loop keep95_0 body95_0)))
 (.seq (.ops false [⟨some 4,none,.mov (.cst (.bool true))⟩])
 .ret)))⟩
theorem comp95 : compF Cv 95 = some code95 := by kernel_rfl
def code96 : MF := ⟨21, [(8, some (some 36))], (.seq (.ops false [⟨some 4,none,.box (.tmp 0)⟩,⟨some 8,none,.alloc [(I 0),(I 0),(I 0),(I 0),(I 0),(I 0),(I 0),(I 0),(I 0),(I 0),(I 0),(I 0),(I 0),(I 0),(I 0),(I 0),(I 0),(I 0),(I 0),(I 0),(I 0),(I 0),(I 0),(I 0),(I 0),(I 0),(I 0),(I 0),(I 0),(I 0),(I 0),(I 0),(I 0),(I 0),(I 0),(I 0)]⟩])
 (.seq (.ops false [⟨some 9,none,.mov (.tmp 1)⟩,⟨some 10,none,.mov (.tmp 2)⟩,⟨some 11,none,.mov (.tmp 1)⟩,⟨some 12,none,.mov (.tmp 2)⟩,⟨some 13,none,.ixa 6 6 (.tmp 4) (.tmp 11)⟩,⟨some 14,none,.ixa 6 1 (.tmp 13) (.tmp 12)⟩,⟨some 15,none,.load none (.tmp 14)⟩,⟨some 16,none,.mov (.tmp 3)⟩,⟨some 17,none,.mn (.tmp 15) [(.tmp 16)]⟩,⟨some 18,none,.ixa 6 6 (.tmp 4) (.tmp 9)⟩,⟨some 19,none,.ixa 6 1 (.tmp 18) (.tmp 10)⟩,⟨none,none,.store 1 (.tmp 19) (.tmp 17)⟩])
 (.seq (.ops false [⟨some 20,none,.load (some 36) (.tmp 4)⟩,⟨none,none,.store 36 (.tmp 8) (.tmp 20)⟩])
 .ret)))⟩
theorem comp96 : compF Cv 96 = some code96 := by kernel_rfl
def code103 : MF := ⟨13, [(2, none)], (.seq (.ops false [⟨some 2,none,.mov (.cst (I 0))⟩])
 (.seq (.ops false [⟨some 4,none,.mov (.tmp 0)⟩,⟨some 5,none,.bin .quo (.tmp 4) (.cst (I 10))⟩,⟨some 3,none,.mov (.tmp 5)⟩])
 (.seq (.seq (.ops false [⟨some 6,none,.mov (.tmp 3)⟩,⟨some 7,none,.bin .mul (.tmp 6) (.cst (I 10))⟩,⟨some 8,none,.mov (.tmp 0)⟩,⟨some 9,none,.bin .gtr (.tmp 7) (.tmp 8)⟩])
 (.cond (.tmp 9) (.ops false [⟨some 10,none,.mov (.tmp 3)⟩,⟨some 11,none,.bin .sub (.tmp 10) (.cst (I 1))⟩,⟨some 3,none,.mov (.tmp 11)⟩]) .skip))
 (.seq (.ops false [⟨some 12,none,.mov (.tmp 3)⟩,⟨some 2,none,.mov (.tmp 12)⟩])
 .ret))))⟩
theorem comp103 : compF Cv 103 = some code103 := by kernel_rfl
def body112_0 : MC := (.seq (.seq (.ops false [⟨some 78,none,.fad (.tmp 9) 5⟩,⟨some 79,none,.load none (.tmp 78)⟩,⟨some 80,none,.fad (.tmp 8) 9⟩,⟨some 81,none,.fad (.tmp 80) 1⟩,⟨some 82,none,.load none (.tmp 81)⟩,⟨some 83,none,.bin .leq (.tmp 79) (.tmp 82)⟩])
 (.cond (.tmp 83) .skip (.exit 8)))
 (.seq (.block 9 (.seq (.ops false [⟨some 88,none,.load (some 3) (.tmp 3)⟩,⟨some 89,none,.mov (.tmp 1)⟩,⟨some 90,none,.load (some 6) (.tmp 9)⟩,⟨some 91,none,.mov (.tmp 2)⟩,⟨some 92,none,.call (.cst (.fn (.func 125) [] [])) [(.tmp 88), (.tmp 89), (.tmp 90), (.tmp 91)]⟩])
 (.cond (.tmp 92) (.ops false [⟨some 93,none,.mov (.tmp 7)⟩,⟨some 94,none,.load (some 6) (.tmp 9)⟩,⟨some 95,none,.bsl 6 true (.agg [(I 0),(I 0),(I 0),(I 0),(I 0),(I 0)]) 1 [(0, (.tmp 94))]⟩,⟨some 96,none,.app false 6 48 true (.tmp 93) (.tmp 95)⟩,⟨some 7,none,.mov (.tmp 96)⟩]) .skip)))
 (.ops false [⟨some 84,none,.fad (.tmp 9) 5⟩,⟨some 85,none,.load none (.tmp 84)⟩,⟨some 86,none,.bin .add (.tmp 85) (.cst (I 1))⟩,⟨some 87,none,.fad (.tmp 9) 5⟩,⟨none,none,.store 1 (.tmp 87) (.tmp 86)⟩])))
def keep112_0 : Option (List Nat) := some [1, 2, 3, 7, 8, 9]
def body112_1 : MC := (.seq (.seq (.ops false [⟨some 64,none,.fad (.tmp 9) 3⟩,⟨some 65,none,.load none (.tmp 64)⟩,⟨some 66,none,.fad (.tmp 8) 6⟩,⟨some 67,none,.fad (.tmp 66) 1⟩,⟨some 68,none,.load none (.tmp 67)⟩,⟨some 69,none,.bin .leq (.tmp 65) (.tmp 68)⟩])
 (.cond (.tmp 69) .skip (.exit 6)))
 (.seq (.block 7 (.seq (.ops false [⟨some 74,none,.fad (.tmp 8) 9⟩,⟨some 75,none,.fad (.tmp 74) 0⟩,⟨some 76,none,.load none (.tmp 75)⟩,⟨some 77,none,.fad (.tmp 9) 5⟩,⟨none,none,.store 1 (.tmp 77) (.tmp 76)⟩])
 (.block 8 (.loop keep112_0 body112_0))))
 (.ops false [⟨some 70,none,.fad (.tmp 9) 3⟩,⟨some 71,none,.load none (.tmp 70)⟩,⟨some 72,none,.bin .add (.tmp 71) (.cst (I 1))⟩,⟨some 73,none,.fad (.tmp 9) 3⟩,⟨none,none,.store 1 (.tmp 73) (.tmp 72)⟩])))
def keep112_1 : Option (List Nat) := some [1, 2, 3, 7, 8, 9]
def body112_2 : MC := (.seq (.seq (.ops false [⟨some 50,none,.fad (.tmp 9) 2⟩,⟨some 51,none,.load none (.tmp 50)⟩,⟨some 52,none,.fad (.tmp 8) 4⟩,⟨some 53,none,.fad (.tmp 52) 1⟩,⟨some 54,none,.load none (.tmp 53)⟩,⟨some 55,none,.bin .leq (.tmp 51) (.tmp 54)⟩])
 (.cond (.tmp 55) .skip (.exit 4)))
 (.seq (.block 5 (.seq (.ops false [⟨some 60,none,.fad (.tmp 8) 6⟩,⟨some 61,none,.fad (.tmp 60) 0⟩,⟨some 62,none,.load none (.tmp 61)⟩,⟨some 63,none,.fad (.tmp 9) 3⟩,⟨none,none,.store 1 (.tmp 63) (.tmp 62)⟩])
 (.block 6 (.loop keep112_1 body112_1))))
 (.ops false [⟨some 56,none,.fad (.tmp 9) 2⟩,⟨some 57,none,.load none (.tmp 56)⟩,⟨some 58,none,.bin .add (.tmp 57) (.cst (I 1))⟩,⟨some 59,none,.fad (.tmp 9) 2⟩,⟨none,none,.store 1 (.tmp 59) (.tmp 58)⟩])))
def keep112_2 : Option (List Nat) := some [1, 2, 3, 7, 8, 9]
def body112_3 : MC := (.seq (.seq (.ops false [⟨some 36,none,.fad (.tmp 9) 1⟩,⟨some 37,none,.load none (.tmp 36)⟩,⟨some 38,none,.fad (.tmp 8) 2⟩,⟨some 39,none,.fad (.tmp 38) 1⟩,⟨some 40,none,.load none (.tmp 39)⟩,⟨some 41,none,.bin .leq (.tmp 37) (.tmp 40)⟩])
 (.cond (.tmp 41) .skip (.exit 2)))
 (.seq (.block 3 (.seq (.ops false [⟨some 46,none,.fad (.tmp 8) 4⟩,⟨some 47,none,.fad (.tmp 46) 0⟩,⟨some 48,none,.load none (.tmp 47)⟩,⟨some 49,none,.fad (.tmp 9) 2⟩,⟨none,none,.store 1 (.tmp 49) (.tmp 48)⟩])
 (.block 4 (.loop keep112_2 body112_2))))
 (.ops false [⟨some 42,none,.fad (.tmp 9) 1⟩,⟨some 43,none,.load none (.tmp 42)⟩,⟨some 44,none,.bin .add (.tmp 43) (.cst (I 1))⟩,⟨some 45,none,.fad (.tmp 9) 1⟩,⟨none,none,.store 1 (.tmp 45) (.tmp 44)⟩])))
def keep112_3 : Option (List Nat) := some [1, 2, 3, 7, 8, 9]
def body112_4 : MC := (.seq (.seq (.ops false [⟨some 22,none,.fad (.tmp 9) 0⟩,⟨some 23,none,.load none (.tmp 22)⟩,⟨some 24,none,.fad (.tmp 8) 0⟩,⟨some 25,none,.fad (.tmp 24) 1⟩,⟨some 26,none,.load none (.tmp 25)⟩,⟨some 27,none,.bin .leq (.tmp 23) (.tmp 26)⟩])
 (.cond (.tmp 27) .skip (.exit 0)))
 (.seq (.block 1 (.seq (.ops false [⟨some 32,none,.fad (.tmp 8) 2⟩,⟨some 33,none,.fad (.tmp 32) 0⟩,⟨some 34,none,.load none (.tmp 33)⟩,⟨some 35,none,.fad (.tmp 9) 1⟩,⟨none,none,.store 1 (.tmp 35) (.tmp 34)⟩])
 (.block 2 (.loop keep112_3 body112_3))))
 (.ops false [⟨some 28,none,.fad (.tmp 9) 0⟩,⟨some 29,none,.load none (.tmp 28)⟩,⟨some 30,none,.bin .add (.tmp 29) (.cst (I 1))⟩,⟨some 31,none,.fad (.tmp 9) 0⟩,⟨none,none,.store 1 (.tmp 31) (.tmp 30)⟩])))
def keep112_4 : Option (List Nat) := some [1, 2, 3, 7, 8, 9]
def code112 : MF := ⟨98, [(6, none)], (.seq (.ops false [⟨some 3,none,.box (.tmp 0)⟩,⟨some 6,none,.mov (.cst .nils)⟩])
 (.seq (.ops false [⟨some 7,none,.mov (.cst .nils)⟩])
 (.seq (.ops false [⟨some 10,none,.fad (.tmp 3) 0⟩,⟨some 11,none,.load none (.tmp 10)⟩,⟨some 12,none,.mov (.tmp 1)⟩,⟨some 13,none,.ixs 11 (.tmp 11) (.tmp 12)⟩,⟨some 14,none,.load (some 11) (.tmp 13)⟩,⟨some 8,none,.alloc [(I 0),(I 0),(I 0),(I 0),(I 0),(I 0),(I 0),(I 0),(I 0),(I 0),(I 0)]⟩,⟨none,none,.store 11 (.tmp 8) (.tmp 14)⟩])
 (.seq (.ops false [⟨some 15,none,.fad (.tmp 8) 8⟩,⟨some 16,none,.load none (.tmp 15)⟩,⟨some 17,none,.bld [(I 0),(I 0),(I 0),(I 0),(I 0),(I 0)] [(4, 1, (.tmp 16))]⟩,⟨some 9,none,.alloc [(I 0),(I 0),(I 0),(I 0),(I 0),(I 0)]⟩,⟨none,none,.store 6 (.tmp 9) (.tmp 17)⟩])
 (.seq (.seq (.ops false [⟨some 18,none,.fad (.tmp 8) 0⟩,⟨some 19,none,.fad (.tmp 18) 0⟩,⟨some 20,none,.load none (.tmp 19)⟩,⟨some 21,none,.fad (.tmp 9) 0⟩,⟨none,none,.store 1 (.tmp 21) (.tmp 20)⟩])
 (.block 0 (.loop keep112_4 body112_4)))
 (.seq (.ops false [⟨some 97,none,.mov (.tmp 7)⟩,⟨some 6,none,.mov (.tmp 97)⟩])
 .ret))))))⟩
theorem comp112 : compF Cv 112 = some code112 := by kernel_rfl
def code116 : MF := ⟨16, [(4, none)], (.seq (.ops false [⟨some 2,none,.box (.tmp 0)⟩,⟨some 4,none,.mov (.cst (I 0))⟩])
 (.seq (.seq (.ops false [⟨some 6,none,.load (some 3) (.tmp 2)⟩,⟨some 7,none,.call (.cst (.fn (.func 64) [] [])) [(.tmp 6)]⟩,⟨some 5,none,.mov (.tmp 7)⟩])
 (.seq (.ops false [⟨some 8,none,.mov (.tmp 5)⟩,⟨some 9,none,.bin .neq (.tmp 8) (.cst (I 0))⟩])
 (.cond (.tmp 9) (.seq (.ops false [⟨some 10,none,.mov (.tmp 5)⟩,⟨some 4,none,.mov (.tmp 10)⟩])
 .ret) .skip)))
 (.seq (.seq (.ops false [⟨some 11,none,.mov (.tmp 1)⟩,⟨some 12,none,.lnot (.tmp 11)⟩])
 (.cond (.tmp 12) (.seq (.ops false [⟨some 4,none,.mov (.cst (I 21))⟩])
 .ret) .skip))
 (.seq (.seq (.ops false [⟨some 13,none,.load (some 3) (.tmp 2)⟩,⟨some 14,none,.call (.cst (.fn (.func 95) [] [])) [(.tmp 13), (.cst (I 0))]⟩,⟨some 15,none,.lnot (.tmp 14)⟩])
 (.cond (.tmp 15) (.seq (.ops false [⟨some 4,none,.mov (.cst (I 22))⟩])
 .ret) .skip))
 (.seq (.ops false [⟨some 4,none,.mov (.cst (I 0))⟩])
 .ret)))))⟩
theorem comp116 : compF Cv 116 = some code116 := by kernel_rfl
def body125_0 : MC := (.seq (.seq (.ops false [⟨some 11,none,.mov (.tmp 9)⟩,⟨some 12,none,.fad (.tmp 4) 2⟩,⟨some 13,none,.load none (.tmp 12)⟩,⟨some 14,none,.len (.tmp 13)⟩,⟨some 15,none,.bin .lss (.tmp 11) (.tmp 14)⟩])
 (.cond (.tmp 15) .skip (.exit 0)))
 (.seq (.block 1 (.seq (.ops false [⟨some 18,none,.fad (.tmp 4) 2⟩,⟨some 19,none,.load none (.tmp 18)⟩,⟨some 20,none,.mov (.tmp 9)⟩,⟨some 21,none,.ixs 4 (.tmp 19) (.tmp 20)⟩,⟨some 22,none,.load (some 4) (.tmp 21)⟩,⟨some 10,none,.alloc [(I 0),(I 0),(I 0),(I 0)]⟩,⟨none,none,.store 4 (.tmp 10) (.tmp 22)⟩])
 (.seq (.ops true [⟨some 23,none,.fad (.tmp 10) 0⟩,⟨some 24,none,.load none (.tmp 23)⟩,⟨some 25,none,.mov (.tmp 1)⟩,⟨some 26,none,.bin .eql (.tmp 24) (.tmp 25)⟩,⟨some 27,none,.mov (.tmp 26)⟩,⟨some 28,some ((some 27), true),.mov (.tmp 3)⟩,⟨some 29,some ((some 27), true),.mov (.tmp 9)⟩,⟨some 30,some ((some 27), true),.call (.cst (.fn (.func 92) [] [])) [(.tmp 28), (.tmp 29)]⟩,⟨some 31,some ((some 27), true),.lnot (.tmp 30)⟩,⟨some 32,none,.pick (.tmp 27) (.tmp 31) (.cst (.bool false))⟩,⟨some 33,none,.mov (.tmp 32)⟩,⟨some 34,some ((some 33), true),.load (some 6) (.tmp 6)⟩,⟨some 35,some ((some 33), true),.fad (.tmp 10) 1⟩,⟨some 36,some ((some 33), true),.load none (.tmp 35)⟩,⟨some 37,some ((some 33), true),.fad (.tmp 10) 2⟩,⟨some 38,some ((some 33), true),.load none (.tmp 37)⟩,⟨some 39,some ((some 33), true),.call (.cst (.fn (.func 126) [] [])) [(.tmp 34), (.tmp 36), (.tmp 38)]⟩,⟨some 40,some ((some 33), true),.fad (.tmp 10) 3⟩,⟨some 41,some ((some 33), true),.load none (.tmp 40)⟩,⟨some 42,some ((some 33), true),.bin .eql (.tmp 41) (.cst (I 1))⟩,⟨some 43,some ((some 33), true),.beq true (.tmp 39) (.tmp 42)⟩,⟨some 44,none,.pick (.tmp 33) (.tmp 43) (.cst (.bool false))⟩])
 (.cond (.tmp 44) (.seq (.ops false [⟨some 8,none,.mov (.cst (.bool false))⟩])
 .ret) .skip))))
 (.ops false [⟨some 16,none,.mov (.tmp 9)⟩,⟨some 17,none,.bin .add (.tmp 16) (.cst (I 1))⟩,⟨some 9,none,.mov (.tmp 17)⟩])))
def keep125_0 : Option (List Nat) := some [1, 3, 4, 6, 9]
def code125 : MF := ⟨45, [(8, none)], (.seq (.ops false [⟨some 4,none,.box (.tmp 0)⟩,⟨some 6,none,.box (.tmp 2)⟩,⟨some 8,none,.mov (.cst (.bool false))⟩])
 (.seq (.seq (.ops false [⟨some 9,none,.mov (.cst (I 0))⟩])
 (.block 0 (.loop keep125_0 body125_0)))
 (.seq (.ops false [⟨some 8,none,.mov (.cst (.bool true))⟩])
 .ret)))⟩
theorem comp125 : compF Cv 125 = some code125 := by kernel_rfl
def code126 : MF := ⟨20, [(6, none)], (.seq (.ops false [⟨some 3,none,.box (.tmp 0)⟩,⟨some 6,none,.mov (.cst (.bool false))⟩])
 (.seq (.ops true [⟨some 7,none,.mov (.tmp 1)⟩,⟨some 8,none,.fad (.tmp 3) 5⟩,⟨some 9,none,.load none (.tmp 8)⟩,⟨some 10,none,.bin .lss (.tmp 7) (.tmp 9)⟩,⟨some 11,none,.mov (.tmp 10)⟩,⟨some 12,some ((some 11), true),.mov (.tmp 2)⟩,⟨some 13,some ((some 11), true),.fad (.tmp 3) 0⟩,⟨some 14,some ((some 11), true),.load none (.tmp 13)⟩,⟨some 15,some ((some 11), true),.load (some 6) (.tmp 3)⟩,⟨some 16,some ((some 11), true),.mov (.tmp 1)⟩,⟨some 17,some ((some 11), true),.call (.cst (.fn (.func 132) [] [])) [(.tmp 15), (.tmp 16)]⟩,⟨some 18,some ((some 11), true),.call (.cst (.fn (.func 43) [] [])) [(.tmp 12), (.tmp 14), (.tmp 17)]⟩,⟨some 19,none,.pick (.tmp 11) (.tmp 18) (.cst (.bool false))⟩,⟨some 6,none,.mov (.tmp 19)⟩])
 .ret))⟩
theorem comp126 : compF Cv 126 = some code126 := by kernel_rfl
def code132 : MF := ⟨24, [(4, none)], (.seq (.ops false [⟨some 2,none,.box (.tmp 0)⟩,⟨some 4,none,.mov (.cst (I 0))⟩])
 (.seq (.ops false [⟨some 6,none,.mov (.tmp 1)⟩,⟨some 7,none,.fad (.tmp 2) 3⟩,⟨some 8,none,.load none (.tmp 7)⟩,⟨some 9,none,.mn (.tmp 6) [(.tmp 8)]⟩,⟨some 5,none,.mov (.tmp 9)⟩])
 (.seq (.ops false [⟨some 10,none,.fad (.tmp 2) 1⟩,⟨some 11,none,.load none (.tmp 10)⟩,⟨some 12,none,.mov (.tmp 5)⟩,⟨some 13,none,.fad (.tmp 2) 2⟩,⟨some 14,none,.load none (.tmp 13)⟩,⟨some 15,none,.bin .mul (.tmp 12) (.tmp 14)⟩,⟨some 16,none,.bin .add (.tmp 11) (.tmp 15)⟩,⟨some 17,none,.mov (.tmp 1)⟩,⟨some 18,none,.mov (.tmp 5)⟩,⟨some 19,none,.bin .sub (.tmp 17) (.tmp 18)⟩,⟨some 20,none,.fad (.tmp 2) 4⟩,⟨some 21,none,.load none (.tmp 20)⟩,⟨some 22,none,.bin .mul (.tmp 19) (.tmp 21)⟩,⟨some 23,none,.bin .sub (.tmp 16) (.tmp 22)⟩,⟨some 4,none,.mov (.tmp 23)⟩])
 .ret)))⟩
theorem comp132 : compF Cv 132 = some code132 := by kernel_rfl
end Go.Ai
