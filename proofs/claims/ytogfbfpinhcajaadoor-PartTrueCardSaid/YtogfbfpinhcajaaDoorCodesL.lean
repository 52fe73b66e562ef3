/- This text shows the codes of the laws, each by the kernel. No conditions of its own. -/
import Derived.Test.YtogfbfpinhcajaaDoorCodes
set_option linter.unusedSimpArgs false
set_option linter.unusedVariables false
set_option maxRecDepth 100000
namespace Go.Ai
def code3 : MF := ⟨108, [(4, none)], (.seq (.ops false [
  ⟨some 2, none, .box (.tmp 0)⟩,
  ⟨some 3, none, .box (.tmp 1)⟩,
  ⟨some 4, none, .mov (.cst (.bool false))⟩])
 (.seq (.ops false [
  ⟨some 14, none, .load (some 6) (.tmp 2)⟩,
  ⟨some 15, none, .call (.cst (.fn (.func 15) [] [])) [(.tmp 14)]⟩,
  ⟨some 13, none, .mov (.tmp 15)⟩,
  ⟨some 16, none, .ext (.tmp 13) 0⟩,
  ⟨some 17, none, .ext (.tmp 13) 1⟩,
  ⟨some 5, none, .mov (.tmp 16)⟩,
  ⟨some 6, none, .mov (.tmp 17)⟩])
 (.seq (.ops false [
  ⟨some 19, none, .load (some 6) (.tmp 2)⟩,
  ⟨some 20, none, .call (.cst (.fn (.func 16) [] [])) [(.tmp 19)]⟩,
  ⟨some 18, none, .mov (.tmp 20)⟩,
  ⟨some 21, none, .ext (.tmp 18) 0⟩,
  ⟨some 22, none, .ext (.tmp 18) 1⟩,
  ⟨some 7, none, .mov (.tmp 21)⟩,
  ⟨some 8, none, .mov (.tmp 22)⟩])
 (.seq (.seq (.ops true [
  ⟨some 23, none, .mov (.tmp 5)⟩,
  ⟨some 24, none, .mov (.tmp 7)⟩,
  ⟨some 25, none, .beq true (.tmp 23) (.tmp 24)⟩,
  ⟨some 26, none, .mov (.tmp 25)⟩,
  ⟨some 27, some ((some 26), false), .mov (.tmp 6)⟩,
  ⟨some 28, some ((some 26), false), .mov (.tmp 8)⟩,
  ⟨some 29, some ((some 26), false), .bin .neq (.tmp 27) (.tmp 28)⟩,
  ⟨some 30, none, .pick (.tmp 26) (.cst (.bool true)) (.tmp 29)⟩,
  ⟨some 31, none, .mov (.tmp 30)⟩,
  ⟨some 32, some ((some 31), false), .load (some 6) (.tmp 2)⟩,
  ⟨some 33, some ((some 31), false), .call (.cst (.fn (.func 17) [] [])) [(.tmp 32)]⟩,
  ⟨some 34, some ((some 31), false), .load (some 6) (.tmp 2)⟩,
  ⟨some 35, some ((some 31), false), .call (.cst (.fn (.func 18) [] [])) [(.tmp 34)]⟩,
  ⟨some 36, some ((some 31), false), .bin .neq (.tmp 33) (.tmp 35)⟩,
  ⟨some 37, none, .pick (.tmp 31) (.cst (.bool true)) (.tmp 36)⟩])
 (.cond (.tmp 37) (.seq (.ops false [
  ⟨some 4, none, .mov (.cst (.bool false))⟩])
 .ret) .skip))
 (.seq (.ops false [
  ⟨some 39, none, .load (some 6) (.tmp 2)⟩,
  ⟨some 40, none, .call (.cst (.fn (.func 19) [] [])) [(.tmp 39)]⟩,
  ⟨some 38, none, .mov (.tmp 40)⟩,
  ⟨some 41, none, .ext (.tmp 38) 0⟩,
  ⟨some 42, none, .ext (.tmp 38) 1⟩,
  ⟨some 9, none, .mov (.tmp 41)⟩,
  ⟨some 6, none, .mov (.tmp 42)⟩])
 (.seq (.ops false [
  ⟨some 44, none, .load (some 6) (.tmp 2)⟩,
  ⟨some 45, none, .call (.cst (.fn (.func 20) [] [])) [(.tmp 44)]⟩,
  ⟨some 43, none, .mov (.tmp 45)⟩,
  ⟨some 46, none, .ext (.tmp 43) 0⟩,
  ⟨some 47, none, .ext (.tmp 43) 1⟩,
  ⟨some 10, none, .mov (.tmp 46)⟩,
  ⟨some 8, none, .mov (.tmp 47)⟩])
 (.seq (.seq (.ops false [
  ⟨some 48, none, .mov (.tmp 9)⟩,
  ⟨some 49, none, .mov (.tmp 10)⟩,
  ⟨some 50, none, .bin .neq (.tmp 48) (.tmp 49)⟩,
  ⟨some 51, none, .mov (.tmp 50)⟩,
  ⟨some 52, some ((some 51), false), .mov (.tmp 6)⟩,
  ⟨some 53, some ((some 51), false), .mov (.tmp 8)⟩,
  ⟨some 54, some ((some 51), false), .bin .neq (.tmp 52) (.tmp 53)⟩,
  ⟨some 55, none, .pick (.tmp 51) (.cst (.bool true)) (.tmp 54)⟩])
 (.cond (.tmp 55) (.seq (.ops false [
  ⟨some 4, none, .mov (.cst (.bool false))⟩])
 .ret) .skip))
 (.seq (.ops false [
  ⟨some 57, none, .load (some 6) (.tmp 2)⟩,
  ⟨some 58, none, .ixa 2 1 (.tmp 3) (.cst (I 0))⟩,
  ⟨some 59, none, .load none (.tmp 58)⟩,
  ⟨some 60, none, .ixa 2 1 (.tmp 3) (.cst (I 1))⟩,
  ⟨some 61, none, .load none (.tmp 60)⟩,
  ⟨some 62, none, .call (.cst (.fn (.func 21) [] [])) [(.tmp 57), (.tmp 59), (.tmp 61)]⟩,
  ⟨some 56, none, .mov (.tmp 62)⟩,
  ⟨some 63, none, .ext (.tmp 56) 0⟩,
  ⟨some 64, none, .ext (.tmp 56) 1⟩,
  ⟨some 11, none, .mov (.tmp 63)⟩,
  ⟨some 6, none, .mov (.tmp 64)⟩])
 (.seq (.ops false [
  ⟨some 66, none, .load (some 6) (.tmp 2)⟩,
  ⟨some 67, none, .ixa 2 1 (.tmp 3) (.cst (I 0))⟩,
  ⟨some 68, none, .load none (.tmp 67)⟩,
  ⟨some 69, none, .ixa 2 1 (.tmp 3) (.cst (I 1))⟩,
  ⟨some 70, none, .load none (.tmp 69)⟩,
  ⟨some 71, none, .call (.cst (.fn (.func 22) [] [])) [(.tmp 66), (.tmp 68), (.tmp 70)]⟩,
  ⟨some 65, none, .mov (.tmp 71)⟩,
  ⟨some 72, none, .ext (.tmp 65) 0⟩,
  ⟨some 73, none, .ext (.tmp 65) 1⟩,
  ⟨some 12, none, .mov (.tmp 72)⟩,
  ⟨some 8, none, .mov (.tmp 73)⟩])
 (.seq (.seq (.ops false [
  ⟨some 74, none, .mov (.tmp 11)⟩,
  ⟨some 75, none, .mov (.tmp 12)⟩,
  ⟨some 76, none, .call (.cst (.fn (.func 23) [] [])) [(.tmp 74), (.tmp 75)]⟩,
  ⟨some 77, none, .lnot (.tmp 76)⟩,
  ⟨some 78, none, .mov (.tmp 77)⟩,
  ⟨some 79, some ((some 78), false), .mov (.tmp 6)⟩,
  ⟨some 80, some ((some 78), false), .mov (.tmp 8)⟩,
  ⟨some 81, some ((some 78), false), .bin .neq (.tmp 79) (.tmp 80)⟩,
  ⟨some 82, none, .pick (.tmp 78) (.cst (.bool true)) (.tmp 81)⟩])
 (.cond (.tmp 82) (.seq (.ops false [
  ⟨some 4, none, .mov (.cst (.bool false))⟩])
 .ret) .skip))
 (.seq (.ops false [
  ⟨some 84, none, .load (some 6) (.tmp 2)⟩,
  ⟨some 85, none, .ixa 2 1 (.tmp 3) (.cst (I 0))⟩,
  ⟨some 86, none, .load none (.tmp 85)⟩,
  ⟨some 87, none, .call (.cst (.fn (.func 24) [] [])) [(.tmp 84), (.tmp 86)]⟩,
  ⟨some 83, none, .mov (.tmp 87)⟩,
  ⟨some 88, none, .ext (.tmp 83) 0⟩,
  ⟨some 89, none, .ext (.tmp 83) 1⟩,
  ⟨some 11, none, .mov (.tmp 88)⟩,
  ⟨some 6, none, .mov (.tmp 89)⟩])
 (.seq (.ops false [
  ⟨some 91, none, .load (some 6) (.tmp 2)⟩,
  ⟨some 92, none, .ixa 2 1 (.tmp 3) (.cst (I 0))⟩,
  ⟨some 93, none, .load none (.tmp 92)⟩,
  ⟨some 94, none, .call (.cst (.fn (.func 25) [] [])) [(.tmp 91), (.tmp 93)]⟩,
  ⟨some 90, none, .mov (.tmp 94)⟩,
  ⟨some 95, none, .ext (.tmp 90) 0⟩,
  ⟨some 96, none, .ext (.tmp 90) 1⟩,
  ⟨some 12, none, .mov (.tmp 95)⟩,
  ⟨some 8, none, .mov (.tmp 96)⟩])
 (.seq (.ops false [
  ⟨some 97, none, .mov (.tmp 11)⟩,
  ⟨some 98, none, .mov (.tmp 12)⟩,
  ⟨some 99, none, .call (.cst (.fn (.func 23) [] [])) [(.tmp 97), (.tmp 98)]⟩,
  ⟨some 100, none, .mov (.tmp 99)⟩,
  ⟨some 101, some ((some 100), true), .mov (.tmp 6)⟩,
  ⟨some 102, some ((some 100), true), .mov (.tmp 8)⟩,
  ⟨some 103, some ((some 100), true), .bin .eql (.tmp 101) (.tmp 102)⟩,
  ⟨some 104, none, .pick (.tmp 100) (.tmp 103) (.cst (.bool false))⟩,
  ⟨some 105, none, .mov (.tmp 104)⟩,
  ⟨some 106, some ((some 105), true), .call (.cst (.fn (.func 26) [] [])) []⟩,
  ⟨some 107, none, .pick (.tmp 105) (.tmp 106) (.cst (.bool false))⟩,
  ⟨some 4, none, .mov (.tmp 107)⟩])
 .ret)))))))))))))⟩
theorem comp3 : compF Cv 3 = some code3 := by kernel_rfl

def code4 : MF := ⟨62, [(2, none)], (.seq (.ops false [
  ⟨some 1, none, .box (.tmp 0)⟩,
  ⟨some 2, none, .mov (.cst (.bool false))⟩])
 (.seq (.ops false [
  ⟨some 10, none, .load (some 6) (.tmp 1)⟩,
  ⟨some 11, none, .call (.cst (.fn (.func 27) [] [])) [(.tmp 10)]⟩,
  ⟨some 9, none, .mov (.tmp 11)⟩,
  ⟨some 12, none, .ext (.tmp 9) 0⟩,
  ⟨some 13, none, .ext (.tmp 9) 1⟩,
  ⟨some 14, none, .ext (.tmp 9) 2⟩,
  ⟨some 3, none, .mov (.tmp 12)⟩,
  ⟨some 4, none, .mov (.tmp 13)⟩,
  ⟨some 5, none, .mov (.tmp 14)⟩])
 (.seq (.ops false [
  ⟨some 16, none, .load (some 6) (.tmp 1)⟩,
  ⟨some 17, none, .call (.cst (.fn (.func 28) [] [])) [(.tmp 16)]⟩,
  ⟨some 15, none, .mov (.tmp 17)⟩,
  ⟨some 18, none, .ext (.tmp 15) 0⟩,
  ⟨some 19, none, .ext (.tmp 15) 1⟩,
  ⟨some 20, none, .ext (.tmp 15) 2⟩,
  ⟨some 6, none, .mov (.tmp 18)⟩,
  ⟨some 7, none, .mov (.tmp 19)⟩,
  ⟨some 8, none, .mov (.tmp 20)⟩])
 (.seq (.seq (.ops false [
  ⟨some 21, none, .mov (.tmp 3)⟩,
  ⟨some 22, none, .mov (.tmp 6)⟩,
  ⟨some 23, none, .bin .neq (.tmp 21) (.tmp 22)⟩,
  ⟨some 24, none, .mov (.tmp 23)⟩,
  ⟨some 25, some ((some 24), false), .mov (.tmp 4)⟩,
  ⟨some 26, some ((some 24), false), .mov (.tmp 7)⟩,
  ⟨some 27, some ((some 24), false), .bin .neq (.tmp 25) (.tmp 26)⟩,
  ⟨some 28, none, .pick (.tmp 24) (.cst (.bool true)) (.tmp 27)⟩,
  ⟨some 29, none, .mov (.tmp 28)⟩,
  ⟨some 30, some ((some 29), false), .mov (.tmp 5)⟩,
  ⟨some 31, some ((some 29), false), .mov (.tmp 8)⟩,
  ⟨some 32, some ((some 29), false), .bin .neq (.tmp 30) (.tmp 31)⟩,
  ⟨some 33, none, .pick (.tmp 29) (.cst (.bool true)) (.tmp 32)⟩])
 (.cond (.tmp 33) (.seq (.ops false [
  ⟨some 2, none, .mov (.cst (.bool false))⟩])
 .ret) .skip))
 (.seq (.ops false [
  ⟨some 35, none, .load (some 6) (.tmp 1)⟩,
  ⟨some 36, none, .call (.cst (.fn (.func 29) [] [])) [(.tmp 35)]⟩,
  ⟨some 34, none, .mov (.tmp 36)⟩,
  ⟨some 37, none, .ext (.tmp 34) 0⟩,
  ⟨some 38, none, .ext (.tmp 34) 1⟩,
  ⟨some 39, none, .ext (.tmp 34) 2⟩,
  ⟨some 3, none, .mov (.tmp 37)⟩,
  ⟨some 4, none, .mov (.tmp 38)⟩,
  ⟨some 5, none, .mov (.tmp 39)⟩])
 (.seq (.ops false [
  ⟨some 41, none, .load (some 6) (.tmp 1)⟩,
  ⟨some 42, none, .call (.cst (.fn (.func 30) [] [])) [(.tmp 41)]⟩,
  ⟨some 40, none, .mov (.tmp 42)⟩,
  ⟨some 43, none, .ext (.tmp 40) 0⟩,
  ⟨some 44, none, .ext (.tmp 40) 1⟩,
  ⟨some 45, none, .ext (.tmp 40) 2⟩,
  ⟨some 6, none, .mov (.tmp 43)⟩,
  ⟨some 7, none, .mov (.tmp 44)⟩,
  ⟨some 8, none, .mov (.tmp 45)⟩])
 (.seq (.ops false [
  ⟨some 46, none, .mov (.tmp 3)⟩,
  ⟨some 47, none, .mov (.tmp 6)⟩,
  ⟨some 48, none, .bin .eql (.tmp 46) (.tmp 47)⟩,
  ⟨some 49, none, .mov (.tmp 48)⟩,
  ⟨some 50, some ((some 49), true), .mov (.tmp 4)⟩,
  ⟨some 51, some ((some 49), true), .mov (.tmp 7)⟩,
  ⟨some 52, some ((some 49), true), .bin .eql (.tmp 50) (.tmp 51)⟩,
  ⟨some 53, none, .pick (.tmp 49) (.tmp 52) (.cst (.bool false))⟩,
  ⟨some 54, none, .mov (.tmp 53)⟩,
  ⟨some 55, some ((some 54), true), .mov (.tmp 5)⟩,
  ⟨some 56, some ((some 54), true), .mov (.tmp 8)⟩,
  ⟨some 57, some ((some 54), true), .bin .eql (.tmp 55) (.tmp 56)⟩,
  ⟨some 58, none, .pick (.tmp 54) (.tmp 57) (.cst (.bool false))⟩,
  ⟨some 59, none, .mov (.tmp 58)⟩,
  ⟨some 60, some ((some 59), true), .call (.cst (.fn (.func 26) [] [])) []⟩,
  ⟨some 61, none, .pick (.tmp 59) (.tmp 60) (.cst (.bool false))⟩,
  ⟨some 2, none, .mov (.tmp 61)⟩])
 .ret)))))))⟩
theorem comp4 : compF Cv 4 = some code4 := by kernel_rfl

def code5 : MF := ⟨77, [(6, none)], (.seq (.ops false [
  ⟨some 3, none, .box (.tmp 0)⟩,
  ⟨some 4, none, .box (.tmp 1)⟩,
  ⟨some 6, none, .mov (.cst (.bool false))⟩])
 (.seq (.ops false [
  ⟨some 16, none, .load (some 6) (.tmp 3)⟩,
  ⟨some 17, none, .load (some 2) (.tmp 4)⟩,
  ⟨some 18, none, .call (.cst (.fn (.func 31) [] [])) [(.tmp 16), (.tmp 17)]⟩,
  ⟨some 15, none, .mov (.tmp 18)⟩,
  ⟨some 19, none, .ext (.tmp 15) 0⟩,
  ⟨some 20, none, .ext (.tmp 15) 1⟩,
  ⟨some 7, none, .mov (.tmp 19)⟩,
  ⟨some 8, none, .mov (.tmp 20)⟩])
 (.seq (.ops false [
  ⟨some 22, none, .load (some 6) (.tmp 3)⟩,
  ⟨some 23, none, .load (some 2) (.tmp 4)⟩,
  ⟨some 24, none, .call (.cst (.fn (.func 32) [] [])) [(.tmp 22), (.tmp 23)]⟩,
  ⟨some 21, none, .mov (.tmp 24)⟩,
  ⟨some 25, none, .ext (.tmp 21) 0⟩,
  ⟨some 26, none, .ext (.tmp 21) 1⟩,
  ⟨some 9, none, .mov (.tmp 25)⟩,
  ⟨some 10, none, .mov (.tmp 26)⟩])
 (.seq (.seq (.ops false [
  ⟨some 27, none, .mov (.tmp 7)⟩,
  ⟨some 28, none, .mov (.tmp 9)⟩,
  ⟨some 29, none, .beq true (.tmp 27) (.tmp 28)⟩,
  ⟨some 30, none, .mov (.tmp 29)⟩,
  ⟨some 31, some ((some 30), false), .mov (.tmp 8)⟩,
  ⟨some 32, some ((some 30), false), .mov (.tmp 10)⟩,
  ⟨some 33, some ((some 30), false), .bin .neq (.tmp 31) (.tmp 32)⟩,
  ⟨some 34, none, .pick (.tmp 30) (.cst (.bool true)) (.tmp 33)⟩])
 (.cond (.tmp 34) (.seq (.ops false [
  ⟨some 6, none, .mov (.cst (.bool false))⟩])
 .ret) .skip))
 (.seq (.ops false [
  ⟨some 36, none, .load (some 6) (.tmp 3)⟩,
  ⟨some 37, none, .call (.cst (.fn (.func 33) [] [])) [(.tmp 36)]⟩,
  ⟨some 35, none, .mov (.tmp 37)⟩,
  ⟨some 38, none, .ext (.tmp 35) 0⟩,
  ⟨some 39, none, .ext (.tmp 35) 1⟩,
  ⟨some 11, none, .mov (.tmp 38)⟩,
  ⟨some 8, none, .mov (.tmp 39)⟩])
 (.seq (.ops false [
  ⟨some 41, none, .load (some 6) (.tmp 3)⟩,
  ⟨some 42, none, .call (.cst (.fn (.func 34) [] [])) [(.tmp 41)]⟩,
  ⟨some 40, none, .mov (.tmp 42)⟩,
  ⟨some 43, none, .ext (.tmp 40) 0⟩,
  ⟨some 44, none, .ext (.tmp 40) 1⟩,
  ⟨some 12, none, .mov (.tmp 43)⟩,
  ⟨some 10, none, .mov (.tmp 44)⟩])
 (.seq (.seq (.ops false [
  ⟨some 45, none, .mov (.tmp 11)⟩,
  ⟨some 46, none, .mov (.tmp 12)⟩,
  ⟨some 47, none, .call (.cst (.fn (.func 23) [] [])) [(.tmp 45), (.tmp 46)]⟩,
  ⟨some 48, none, .lnot (.tmp 47)⟩,
  ⟨some 49, none, .mov (.tmp 48)⟩,
  ⟨some 50, some ((some 49), false), .mov (.tmp 8)⟩,
  ⟨some 51, some ((some 49), false), .mov (.tmp 10)⟩,
  ⟨some 52, some ((some 49), false), .bin .neq (.tmp 50) (.tmp 51)⟩,
  ⟨some 53, none, .pick (.tmp 49) (.cst (.bool true)) (.tmp 52)⟩])
 (.cond (.tmp 53) (.seq (.ops false [
  ⟨some 6, none, .mov (.cst (.bool false))⟩])
 .ret) .skip))
 (.seq (.ops false [
  ⟨some 55, none, .load (some 6) (.tmp 3)⟩,
  ⟨some 56, none, .mov (.tmp 2)⟩,
  ⟨some 57, none, .call (.cst (.fn (.func 35) [] [])) [(.tmp 55), (.tmp 56)]⟩,
  ⟨some 54, none, .mov (.tmp 57)⟩,
  ⟨some 58, none, .ext (.tmp 54) 0⟩,
  ⟨some 59, none, .ext (.tmp 54) 1⟩,
  ⟨some 13, none, .mov (.tmp 58)⟩,
  ⟨some 8, none, .mov (.tmp 59)⟩])
 (.seq (.ops false [
  ⟨some 61, none, .load (some 6) (.tmp 3)⟩,
  ⟨some 62, none, .mov (.tmp 2)⟩,
  ⟨some 63, none, .call (.cst (.fn (.func 36) [] [])) [(.tmp 61), (.tmp 62)]⟩,
  ⟨some 60, none, .mov (.tmp 63)⟩,
  ⟨some 64, none, .ext (.tmp 60) 0⟩,
  ⟨some 65, none, .ext (.tmp 60) 1⟩,
  ⟨some 14, none, .mov (.tmp 64)⟩,
  ⟨some 10, none, .mov (.tmp 65)⟩])
 (.seq (.ops false [
  ⟨some 66, none, .mov (.tmp 13)⟩,
  ⟨some 67, none, .mov (.tmp 14)⟩,
  ⟨some 68, none, .bin .eql (.tmp 66) (.tmp 67)⟩,
  ⟨some 69, none, .mov (.tmp 68)⟩,
  ⟨some 70, some ((some 69), true), .mov (.tmp 8)⟩,
  ⟨some 71, some ((some 69), true), .mov (.tmp 10)⟩,
  ⟨some 72, some ((some 69), true), .bin .eql (.tmp 70) (.tmp 71)⟩,
  ⟨some 73, none, .pick (.tmp 69) (.tmp 72) (.cst (.bool false))⟩,
  ⟨some 74, none, .mov (.tmp 73)⟩,
  ⟨some 75, some ((some 74), true), .call (.cst (.fn (.func 26) [] [])) []⟩,
  ⟨some 76, none, .pick (.tmp 74) (.tmp 75) (.cst (.bool false))⟩,
  ⟨some 6, none, .mov (.tmp 76)⟩])
 .ret))))))))))⟩
theorem comp5 : compF Cv 5 = some code5 := by kernel_rfl

def body6_0 : MC := (.seq (.seq (.ops false [
  ⟨some 147, none, .mov (.tmp 22)⟩,
  ⟨some 148, none, .fad (.tmp 2) 0⟩,
  ⟨some 149, none, .load none (.tmp 148)⟩,
  ⟨some 150, none, .bin .lss (.tmp 147) (.tmp 149)⟩])
 (.cond (.tmp 150) .skip (.exit 2)))
 (.seq (.block 3 (.seq (.ops false [
  ⟨some 154, none, .load (some 6) (.tmp 10)⟩,
  ⟨some 155, none, .mov (.tmp 18)⟩,
  ⟨some 156, none, .mov (.tmp 22)⟩,
  ⟨some 157, none, .call (.cst (.fn (.func 21) [] [])) [(.tmp 154), (.tmp 155), (.tmp 156)]⟩,
  ⟨some 153, none, .mov (.tmp 157)⟩,
  ⟨some 158, none, .ext (.tmp 153) 0⟩,
  ⟨some 159, none, .ext (.tmp 153) 1⟩,
  ⟨some 23, none, .mov (.tmp 158)⟩,
  ⟨some 24, none, .mov (.tmp 159)⟩])
 (.seq (.ops false [
  ⟨some 160, none, .mov (.tmp 24)⟩,
  ⟨some 161, none, .bin .neq (.tmp 160) (.cst (I 0))⟩,
  ⟨some 162, none, .mov (.tmp 161)⟩,
  ⟨some 163, some ((some 162), false), .mov (.tmp 23)⟩,
  ⟨some 164, some ((some 162), false), .call (.cst (.fn (.func 41) [] [])) [(.tmp 163), (.cst (I 13))]⟩,
  ⟨some 165, some ((some 162), false), .lnot (.tmp 164)⟩,
  ⟨some 166, none, .pick (.tmp 162) (.cst (.bool true)) (.tmp 165)⟩,
  ⟨some 167, none, .mov (.tmp 166)⟩,
  ⟨some 168, some ((some 167), false), .mov (.tmp 23)⟩,
  ⟨some 169, some ((some 167), false), .mov (.tmp 19)⟩,
  ⟨some 170, some ((some 167), false), .mov (.tmp 22)⟩,
  ⟨some 171, some ((some 167), false), .ixs 1 (.tmp 169) (.tmp 170)⟩,
  ⟨some 172, some ((some 167), false), .load none (.tmp 171)⟩,
  ⟨some 173, some ((some 167), false), .call (.cst (.fn (.func 42) [] [])) [(.tmp 168), (.tmp 172)]⟩,
  ⟨some 174, some ((some 167), false), .bin .lss (.tmp 173) (.cst (I 0))⟩,
  ⟨some 175, none, .pick (.tmp 167) (.cst (.bool true)) (.tmp 174)⟩,
  ⟨some 176, none, .mov (.tmp 175)⟩,
  ⟨some 177, some ((some 176), false), .mov (.tmp 21)⟩,
  ⟨some 178, some ((some 176), false), .bin .eql (.tmp 177) (.cst (I 0))⟩,
  ⟨some 179, some ((some 176), false), .mov (.tmp 178)⟩,
  ⟨some 180, some ((some 179), true), .mov (.tmp 23)⟩,
  ⟨some 181, some ((some 179), true), .len (.tmp 180)⟩,
  ⟨some 182, some ((some 179), true), .bin .neq (.tmp 181) (.cst (I 1))⟩,
  ⟨some 183, some ((some 176), false), .pick (.tmp 179) (.tmp 182) (.cst (.bool false))⟩,
  ⟨some 184, none, .pick (.tmp 176) (.cst (.bool true)) (.tmp 183)⟩])
 (.cond (.tmp 184) (.seq (.ops false [
  ⟨some 4, none, .mov (.cst (.bool false))⟩])
 .ret) .skip))))
 (.ops false [
  ⟨some 151, none, .mov (.tmp 22)⟩,
  ⟨some 152, none, .bin .add (.tmp 151) (.cst (I 1))⟩,
  ⟨some 22, none, .mov (.tmp 152)⟩])))
def keep6_0 : Option (List Nat) := some [2, 5, 10, 11, 18, 19, 21, 22]
def body6_1 : MC := (.seq (.seq (.ops false [
  ⟨some 110, none, .mov (.tmp 18)⟩,
  ⟨some 111, none, .fad (.tmp 2) 1⟩,
  ⟨some 112, none, .load none (.tmp 111)⟩,
  ⟨some 113, none, .len (.tmp 112)⟩,
  ⟨some 114, none, .bin .lss (.tmp 110) (.tmp 113)⟩])
 (.cond (.tmp 114) .skip (.exit 0)))
 (.seq (.block 1 (.seq (.ops false [
  ⟨some 117, none, .load (some 6) (.tmp 2)⟩,
  ⟨some 118, none, .mov (.tmp 5)⟩,
  ⟨some 119, none, .mov (.tmp 18)⟩,
  ⟨some 120, none, .call (.cst (.fn (.func 40) [] [])) [(.tmp 117), (.tmp 118), (.tmp 119)]⟩,
  ⟨some 19, none, .mov (.tmp 120)⟩])
 (.seq (.ops false [
  ⟨some 122, none, .load (some 6) (.tmp 10)⟩,
  ⟨some 123, none, .mov (.tmp 18)⟩,
  ⟨some 124, none, .call (.cst (.fn (.func 24) [] [])) [(.tmp 122), (.tmp 123)]⟩,
  ⟨some 121, none, .mov (.tmp 124)⟩,
  ⟨some 125, none, .ext (.tmp 121) 0⟩,
  ⟨some 126, none, .ext (.tmp 121) 1⟩,
  ⟨some 20, none, .mov (.tmp 125)⟩,
  ⟨some 21, none, .mov (.tmp 126)⟩])
 (.seq (.seq (.ops false [
  ⟨some 127, none, .mov (.tmp 21)⟩,
  ⟨some 128, none, .bin .neq (.tmp 127) (.cst (I 4))⟩,
  ⟨some 129, none, .mov (.tmp 128)⟩,
  ⟨some 130, some ((some 129), true), .mov (.tmp 21)⟩,
  ⟨some 131, some ((some 129), true), .bin .neq (.tmp 130) (.cst (I 0))⟩,
  ⟨some 132, some ((some 129), true), .mov (.tmp 131)⟩,
  ⟨some 133, some ((some 132), false), .mov (.tmp 20)⟩,
  ⟨some 134, some ((some 132), false), .mov (.tmp 19)⟩,
  ⟨some 135, some ((some 132), false), .call (.cst (.fn (.func 23) [] [])) [(.tmp 133), (.tmp 134)]⟩,
  ⟨some 136, some ((some 132), false), .lnot (.tmp 135)⟩,
  ⟨some 137, some ((some 129), true), .pick (.tmp 132) (.cst (.bool true)) (.tmp 136)⟩,
  ⟨some 138, none, .pick (.tmp 129) (.tmp 137) (.cst (.bool false))⟩,
  ⟨some 139, none, .mov (.tmp 138)⟩,
  ⟨some 140, some ((some 139), false), .mov (.tmp 11)⟩,
  ⟨some 141, some ((some 139), false), .bin .eql (.tmp 140) (.cst (I 1))⟩,
  ⟨some 142, some ((some 139), false), .mov (.tmp 141)⟩,
  ⟨some 143, some ((some 142), true), .mov (.tmp 21)⟩,
  ⟨some 144, some ((some 142), true), .bin .neq (.tmp 143) (.cst (I 0))⟩,
  ⟨some 145, some ((some 139), false), .pick (.tmp 142) (.tmp 144) (.cst (.bool false))⟩,
  ⟨some 146, none, .pick (.tmp 139) (.cst (.bool true)) (.tmp 145)⟩])
 (.cond (.tmp 146) (.seq (.ops false [
  ⟨some 4, none, .mov (.cst (.bool false))⟩])
 .ret) .skip))
 (.seq (.ops false [
  ⟨some 22, none, .mov (.cst (I 0))⟩])
 (.block 2 (.loop keep6_0 body6_0)))))))
 (.ops false [
  ⟨some 115, none, .mov (.tmp 18)⟩,
  ⟨some 116, none, .bin .add (.tmp 115) (.cst (I 1))⟩,
  ⟨some 18, none, .mov (.tmp 116)⟩])))
def keep6_1 : Option (List Nat) := some [2, 5, 10, 11, 18]
def body6_2 : MC := (.seq (.seq (.ops false [
  ⟨some 185, none, .mov (.tmp 25)⟩,
  ⟨some 186, none, .fad (.tmp 10) 5⟩,
  ⟨some 187, none, .load none (.tmp 186)⟩,
  ⟨some 188, none, .len (.tmp 187)⟩,
  ⟨some 189, none, .bin .lss (.tmp 185) (.tmp 188)⟩])
 (.cond (.tmp 189) .skip (.exit 4)))
 (.seq (.block 5 (.seq (.ops false [
  ⟨some 193, none, .load (some 6) (.tmp 10)⟩,
  ⟨some 194, none, .mov (.tmp 25)⟩,
  ⟨some 195, none, .call (.cst (.fn (.func 35) [] [])) [(.tmp 193), (.tmp 194)]⟩,
  ⟨some 192, none, .mov (.tmp 195)⟩,
  ⟨some 196, none, .ext (.tmp 192) 0⟩,
  ⟨some 197, none, .ext (.tmp 192) 1⟩,
  ⟨some 26, none, .mov (.tmp 196)⟩,
  ⟨some 27, none, .mov (.tmp 197)⟩])
 (.seq (.ops false [
  ⟨some 198, none, .mov (.tmp 27)⟩,
  ⟨some 199, none, .bin .neq (.tmp 198) (.cst (I 4))⟩,
  ⟨some 200, none, .mov (.tmp 199)⟩,
  ⟨some 201, some ((some 200), false), .mov (.tmp 26)⟩,
  ⟨some 202, some ((some 200), false), .bin .neq (.tmp 201) (.cst (I 0))⟩,
  ⟨some 203, none, .pick (.tmp 200) (.cst (.bool true)) (.tmp 202)⟩])
 (.cond (.tmp 203) (.seq (.ops false [
  ⟨some 4, none, .mov (.cst (.bool false))⟩])
 .ret) .skip))))
 (.ops false [
  ⟨some 190, none, .mov (.tmp 25)⟩,
  ⟨some 191, none, .bin .add (.tmp 190) (.cst (I 1))⟩,
  ⟨some 25, none, .mov (.tmp 191)⟩])))
def keep6_2 : Option (List Nat) := some [10, 25]
def code6 : MF := ⟨205, [(4, none)], (.seq (.ops false [
  ⟨some 2, none, .box (.tmp 0)⟩,
  ⟨some 4, none, .mov (.cst (.bool false))⟩])
 (.seq (.seq (.ops false [
  ⟨some 28, none, .load (some 6) (.tmp 2)⟩,
  ⟨some 29, none, .call (.cst (.fn (.func 37) [] [])) [(.tmp 28)]⟩,
  ⟨some 30, none, .lnot (.tmp 29)⟩])
 (.cond (.tmp 30) (.seq (.ops false [
  ⟨some 31, none, .call (.cst (.fn (.func 26) [] [])) []⟩,
  ⟨some 4, none, .mov (.tmp 31)⟩])
 .ret) .skip))
 (.seq (.ops false [
  ⟨some 32, none, .load (some 6) (.tmp 2)⟩,
  ⟨some 33, none, .mov (.tmp 1)⟩,
  ⟨some 34, none, .call (.cst (.fn (.func 38) [] [])) [(.tmp 32), (.cst .nils), (.tmp 33)]⟩,
  ⟨some 5, none, .mov (.tmp 34)⟩])
 (.seq (.seq (.ops false [
  ⟨some 35, none, .mov (.tmp 5)⟩,
  ⟨some 36, none, .len (.tmp 35)⟩,
  ⟨some 37, none, .bin .eql (.tmp 36) (.cst (I 0))⟩])
 (.cond (.tmp 37) (.seq (.ops false [
  ⟨some 39, none, .load (some 6) (.tmp 2)⟩,
  ⟨some 40, none, .call (.cst (.fn (.func 33) [] [])) [(.tmp 39)]⟩,
  ⟨some 38, none, .mov (.tmp 40)⟩,
  ⟨some 41, none, .ext (.tmp 38) 0⟩,
  ⟨some 42, none, .ext (.tmp 38) 1⟩,
  ⟨some 6, none, .mov (.tmp 41)⟩,
  ⟨some 7, none, .mov (.tmp 42)⟩])
 (.seq (.ops false [
  ⟨some 44, none, .load (some 6) (.tmp 2)⟩,
  ⟨some 45, none, .call (.cst (.fn (.func 19) [] [])) [(.tmp 44)]⟩,
  ⟨some 43, none, .mov (.tmp 45)⟩,
  ⟨some 46, none, .ext (.tmp 43) 0⟩,
  ⟨some 47, none, .ext (.tmp 43) 1⟩,
  ⟨some 8, none, .mov (.tmp 46)⟩,
  ⟨some 9, none, .mov (.tmp 47)⟩])
 (.seq (.ops false [
  ⟨some 48, none, .mov (.tmp 7)⟩,
  ⟨some 49, none, .bin .eql (.tmp 48) (.cst (I 52))⟩,
  ⟨some 50, none, .mov (.tmp 49)⟩,
  ⟨some 51, some ((some 50), true), .mov (.tmp 9)⟩,
  ⟨some 52, some ((some 50), true), .bin .eql (.tmp 51) (.cst (I 0))⟩,
  ⟨some 53, none, .pick (.tmp 50) (.tmp 52) (.cst (.bool false))⟩,
  ⟨some 54, none, .mov (.tmp 53)⟩,
  ⟨some 55, some ((some 54), true), .mov (.tmp 8)⟩,
  ⟨some 56, some ((some 54), true), .bin .eql (.tmp 55) (.cst (I 0))⟩,
  ⟨some 57, none, .pick (.tmp 54) (.tmp 56) (.cst (.bool false))⟩,
  ⟨some 58, none, .mov (.tmp 57)⟩,
  ⟨some 59, some ((some 58), true), .call (.cst (.fn (.func 26) [] [])) []⟩,
  ⟨some 60, none, .pick (.tmp 58) (.tmp 59) (.cst (.bool false))⟩,
  ⟨some 4, none, .mov (.tmp 60)⟩])
 .ret))) .skip))
 (.seq (.ops false [
  ⟨some 61, none, .load (some 6) (.tmp 2)⟩,
  ⟨some 62, none, .mov (.tmp 5)⟩,
  ⟨some 63, none, .call (.cst (.fn (.func 39) [] [])) [(.tmp 61), (.tmp 62)]⟩,
  ⟨some 10, none, .alloc [(I 0), .nils, (I 0), (I 0), (I 0), .nils]⟩,
  ⟨none, none, .store 6 (.tmp 10) (.tmp 63)⟩])
 (.seq (.ops false [
  ⟨some 65, none, .load (some 6) (.tmp 10)⟩,
  ⟨some 66, none, .call (.cst (.fn (.func 19) [] [])) [(.tmp 65)]⟩,
  ⟨some 64, none, .mov (.tmp 66)⟩,
  ⟨some 67, none, .ext (.tmp 64) 0⟩,
  ⟨some 68, none, .ext (.tmp 64) 1⟩,
  ⟨some 11, none, .mov (.tmp 67)⟩,
  ⟨some 12, none, .mov (.tmp 68)⟩])
 (.seq (.ops false [
  ⟨some 70, none, .load (some 6) (.tmp 10)⟩,
  ⟨some 71, none, .call (.cst (.fn (.func 33) [] [])) [(.tmp 70)]⟩,
  ⟨some 69, none, .mov (.tmp 71)⟩,
  ⟨some 72, none, .ext (.tmp 69) 0⟩,
  ⟨some 73, none, .ext (.tmp 69) 1⟩,
  ⟨some 13, none, .mov (.tmp 72)⟩,
  ⟨some 14, none, .mov (.tmp 73)⟩])
 (.seq (.ops false [
  ⟨some 75, none, .load (some 6) (.tmp 10)⟩,
  ⟨some 76, none, .call (.cst (.fn (.func 27) [] [])) [(.tmp 75)]⟩,
  ⟨some 74, none, .mov (.tmp 76)⟩,
  ⟨some 77, none, .ext (.tmp 74) 0⟩,
  ⟨some 78, none, .ext (.tmp 74) 1⟩,
  ⟨some 79, none, .ext (.tmp 74) 2⟩,
  ⟨some 15, none, .mov (.tmp 77)⟩,
  ⟨some 16, none, .mov (.tmp 78)⟩,
  ⟨some 17, none, .mov (.tmp 79)⟩])
 (.seq (.seq (.ops false [
  ⟨some 80, none, .mov (.tmp 12)⟩,
  ⟨some 81, none, .bin .neq (.tmp 80) (.cst (I 0))⟩,
  ⟨some 82, none, .mov (.tmp 81)⟩,
  ⟨some 83, some ((some 82), false), .mov (.tmp 14)⟩,
  ⟨some 84, some ((some 82), false), .bin .neq (.tmp 83) (.cst (I 0))⟩,
  ⟨some 85, none, .pick (.tmp 82) (.cst (.bool true)) (.tmp 84)⟩,
  ⟨some 86, none, .mov (.tmp 85)⟩,
  ⟨some 87, some ((some 86), false), .mov (.tmp 11)⟩,
  ⟨some 88, some ((some 86), false), .bin .lss (.tmp 87) (.cst (I 1))⟩,
  ⟨some 89, none, .pick (.tmp 86) (.cst (.bool true)) (.tmp 88)⟩,
  ⟨some 90, none, .mov (.tmp 89)⟩,
  ⟨some 91, some ((some 90), false), .mov (.tmp 13)⟩,
  ⟨some 92, some ((some 90), false), .len (.tmp 91)⟩,
  ⟨some 93, some ((some 90), false), .bin .neq (.tmp 92) (.cst (I 0))⟩,
  ⟨some 94, none, .pick (.tmp 90) (.cst (.bool true)) (.tmp 93)⟩,
  ⟨some 95, none, .mov (.tmp 94)⟩,
  ⟨some 96, some ((some 95), false), .mov (.tmp 17)⟩,
  ⟨some 97, some ((some 95), false), .bin .neq (.tmp 96) (.cst (I 0))⟩,
  ⟨some 98, some ((some 95), false), .mov (.tmp 97)⟩,
  ⟨some 99, some ((some 98), true), .mov (.tmp 17)⟩,
  ⟨some 100, some ((some 98), true), .bin .neq (.tmp 99) (.cst (I 4))⟩,
  ⟨some 101, some ((some 95), false), .pick (.tmp 98) (.tmp 100) (.cst (.bool false))⟩,
  ⟨some 102, none, .pick (.tmp 95) (.cst (.bool true)) (.tmp 101)⟩,
  ⟨some 103, none, .mov (.tmp 102)⟩,
  ⟨some 104, some ((some 103), false), .mov (.tmp 17)⟩,
  ⟨some 105, some ((some 103), false), .bin .eql (.tmp 104) (.cst (I 4))⟩,
  ⟨some 106, some ((some 103), false), .mov (.tmp 11)⟩,
  ⟨some 107, some ((some 103), false), .bin .eql (.tmp 106) (.cst (I 1))⟩,
  ⟨some 108, some ((some 103), false), .beq true (.tmp 105) (.tmp 107)⟩,
  ⟨some 109, none, .pick (.tmp 103) (.cst (.bool true)) (.tmp 108)⟩])
 (.cond (.tmp 109) (.seq (.ops false [
  ⟨some 4, none, .mov (.cst (.bool false))⟩])
 .ret) .skip))
 (.seq (.seq (.ops false [
  ⟨some 18, none, .mov (.cst (I 0))⟩])
 (.block 0 (.loop keep6_1 body6_1)))
 (.seq (.seq (.ops false [
  ⟨some 25, none, .mov (.cst (I 0))⟩])
 (.block 4 (.loop keep6_2 body6_2)))
 (.seq (.ops false [
  ⟨some 204, none, .call (.cst (.fn (.func 26) [] [])) []⟩,
  ⟨some 4, none, .mov (.tmp 204)⟩])
 .ret))))))))))))⟩
theorem comp6 : compF Cv 6 = some code6 := by kernel_rfl

def body7_0 : MC := (.seq (.seq (.ops false [
  ⟨some 55, none, .mov (.tmp 14)⟩,
  ⟨some 56, none, .mov (.tmp 9)⟩,
  ⟨some 57, none, .len (.tmp 56)⟩,
  ⟨some 58, none, .bin .lss (.tmp 55) (.tmp 57)⟩])
 (.cond (.tmp 58) .skip (.exit 0)))
 (.seq (.block 1 (.seq (.ops true [
  ⟨some 62, none, .load (some 6) (.tmp 2)⟩,
  ⟨some 63, none, .mov (.tmp 5)⟩,
  ⟨some 64, none, .mov (.tmp 9)⟩,
  ⟨some 65, none, .mov (.tmp 14)⟩,
  ⟨some 66, none, .ixs 1 (.tmp 64) (.tmp 65)⟩,
  ⟨some 67, none, .load none (.tmp 66)⟩,
  ⟨some 68, none, .call (.cst (.fn (.func 46) [] [])) [(.tmp 63), (.tmp 67)]⟩,
  ⟨some 69, none, .call (.cst (.fn (.func 45) [] [])) [(.tmp 62), (.tmp 68)]⟩,
  ⟨some 70, none, .call (.cst (.fn (.func 19) [] [])) [(.tmp 69)]⟩,
  ⟨some 61, none, .mov (.tmp 70)⟩,
  ⟨some 71, none, .ext (.tmp 61) 0⟩,
  ⟨some 72, none, .ext (.tmp 61) 1⟩,
  ⟨some 15, none, .mov (.tmp 71)⟩,
  ⟨some 16, none, .mov (.tmp 72)⟩])
 (.seq (.ops true [
  ⟨some 74, none, .load (some 6) (.tmp 2)⟩,
  ⟨some 75, none, .mov (.tmp 5)⟩,
  ⟨some 76, none, .mov (.tmp 9)⟩,
  ⟨some 77, none, .mov (.tmp 14)⟩,
  ⟨some 78, none, .ixs 1 (.tmp 76) (.tmp 77)⟩,
  ⟨some 79, none, .load none (.tmp 78)⟩,
  ⟨some 80, none, .call (.cst (.fn (.func 46) [] [])) [(.tmp 75), (.tmp 79)]⟩,
  ⟨some 81, none, .call (.cst (.fn (.func 31) [] [])) [(.tmp 74), (.tmp 80)]⟩,
  ⟨some 73, none, .mov (.tmp 81)⟩,
  ⟨some 82, none, .ext (.tmp 73) 0⟩,
  ⟨some 83, none, .ext (.tmp 73) 1⟩,
  ⟨some 17, none, .mov (.tmp 82)⟩,
  ⟨some 18, none, .mov (.tmp 83)⟩])
 (.seq (.seq (.ops false [
  ⟨some 84, none, .mov (.tmp 16)⟩,
  ⟨some 85, none, .bin .neq (.tmp 84) (.cst (I 0))⟩,
  ⟨some 86, none, .mov (.tmp 85)⟩,
  ⟨some 87, some ((some 86), false), .mov (.tmp 7)⟩,
  ⟨some 88, some ((some 86), false), .bin .gtr (.tmp 87) (.cst (I 0))⟩,
  ⟨some 89, some ((some 86), false), .mov (.tmp 88)⟩,
  ⟨some 90, some ((some 89), true), .mov (.tmp 18)⟩,
  ⟨some 91, some ((some 89), true), .bin .neq (.tmp 90) (.cst (I 0))⟩,
  ⟨some 92, some ((some 89), true), .mov (.tmp 91)⟩,
  ⟨some 93, some ((some 92), false), .mov (.tmp 17)⟩,
  ⟨some 94, some ((some 92), false), .mov (.tmp 15)⟩,
  ⟨some 95, some ((some 92), false), .bin .gtr (.tmp 94) (.cst (I 0))⟩,
  ⟨some 96, some ((some 92), false), .beq true (.tmp 93) (.tmp 95)⟩,
  ⟨some 97, some ((some 89), true), .pick (.tmp 92) (.cst (.bool true)) (.tmp 96)⟩,
  ⟨some 98, some ((some 86), false), .pick (.tmp 89) (.tmp 97) (.cst (.bool false))⟩,
  ⟨some 99, none, .pick (.tmp 86) (.cst (.bool true)) (.tmp 98)⟩,
  ⟨some 100, none, .mov (.tmp 99)⟩,
  ⟨some 101, some ((some 100), false), .mov (.tmp 7)⟩,
  ⟨some 102, some ((some 100), false), .bin .eql (.tmp 101) (.cst (I 0))⟩,
  ⟨some 103, some ((some 100), false), .mov (.tmp 102)⟩,
  ⟨some 104, some ((some 103), true), .mov (.tmp 18)⟩,
  ⟨some 105, some ((some 103), true), .bin .neq (.tmp 104) (.cst (I 52))⟩,
  ⟨some 106, some ((some 103), true), .mov (.tmp 105)⟩,
  ⟨some 107, some ((some 106), false), .mov (.tmp 15)⟩,
  ⟨some 108, some ((some 106), false), .bin .neq (.tmp 107) (.cst (I 0))⟩,
  ⟨some 109, some ((some 103), true), .pick (.tmp 106) (.cst (.bool true)) (.tmp 108)⟩,
  ⟨some 110, some ((some 100), false), .pick (.tmp 103) (.tmp 109) (.cst (.bool false))⟩,
  ⟨some 111, none, .pick (.tmp 100) (.cst (.bool true)) (.tmp 110)⟩])
 (.cond (.tmp 111) (.seq (.ops false [
  ⟨some 4, none, .mov (.cst (.bool false))⟩])
 .ret) .skip))
 (.seq (.ops false [
  ⟨some 112, none, .mov (.tmp 11)⟩,
  ⟨some 113, none, .mov (.tmp 15)⟩,
  ⟨some 114, none, .bin .add (.tmp 112) (.tmp 113)⟩,
  ⟨some 11, none, .mov (.tmp 114)⟩])
 (.seq (.ops false [
  ⟨some 115, none, .mov (.tmp 15)⟩,
  ⟨some 116, none, .bin .gtr (.tmp 115) (.cst (I 0))⟩])
 (.cond (.tmp 116) (.ops false [
  ⟨some 117, none, .mov (.tmp 10)⟩,
  ⟨some 118, none, .bin .add (.tmp 117) (.cst (I 1))⟩,
  ⟨some 119, none, .mov (.tmp 12)⟩,
  ⟨some 120, none, .mov (.tmp 9)⟩,
  ⟨some 121, none, .mov (.tmp 14)⟩,
  ⟨some 122, none, .ixs 1 (.tmp 120) (.tmp 121)⟩,
  ⟨some 123, none, .load none (.tmp 122)⟩,
  ⟨some 124, none, .mov (.tmp 6)⟩,
  ⟨some 125, none, .ixs 1 (.tmp 123) (.tmp 124)⟩,
  ⟨some 126, none, .load none (.tmp 125)⟩,
  ⟨some 127, none, .bin .shl (.cst (I 1)) (.tmp 126)⟩,
  ⟨some 128, none, .bin .or (.tmp 119) (.tmp 127)⟩,
  ⟨some 129, none, .mov (.tmp 9)⟩,
  ⟨some 130, none, .mov (.tmp 14)⟩,
  ⟨some 131, none, .ixs 1 (.tmp 129) (.tmp 130)⟩,
  ⟨some 132, none, .load none (.tmp 131)⟩,
  ⟨some 10, none, .mov (.tmp 118)⟩,
  ⟨some 12, none, .mov (.tmp 128)⟩,
  ⟨some 13, none, .mov (.tmp 132)⟩]) .skip)))))))
 (.ops false [
  ⟨some 59, none, .mov (.tmp 14)⟩,
  ⟨some 60, none, .bin .add (.tmp 59) (.cst (I 1))⟩,
  ⟨some 14, none, .mov (.tmp 60)⟩])))
def keep7_0 : Option (List Nat) := some [2, 5, 6, 7, 9, 10, 11, 12, 13, 14]
def code7 : MF := ⟨200, [(4, none)], (.seq (.ops false [
  ⟨some 2, none, .box (.tmp 0)⟩,
  ⟨some 3, none, .box (.tmp 1)⟩,
  ⟨some 4, none, .mov (.cst (.bool false))⟩])
 (.seq (.seq (.ops false [
  ⟨some 23, none, .load (some 6) (.tmp 2)⟩,
  ⟨some 24, none, .call (.cst (.fn (.func 37) [] [])) [(.tmp 23)]⟩,
  ⟨some 25, none, .lnot (.tmp 24)⟩,
  ⟨some 26, none, .mov (.tmp 25)⟩,
  ⟨some 27, some ((some 26), false), .fad (.tmp 2) 5⟩,
  ⟨some 28, some ((some 26), false), .load none (.tmp 27)⟩,
  ⟨some 29, some ((some 26), false), .len (.tmp 28)⟩,
  ⟨some 30, some ((some 26), false), .bin .eql (.tmp 29) (.cst (I 4))⟩,
  ⟨some 31, none, .pick (.tmp 26) (.cst (.bool true)) (.tmp 30)⟩])
 (.cond (.tmp 31) (.seq (.ops false [
  ⟨some 32, none, .call (.cst (.fn (.func 26) [] [])) []⟩,
  ⟨some 4, none, .mov (.tmp 32)⟩])
 .ret) .skip))
 (.seq (.ops true [
  ⟨some 33, none, .ixa 2 1 (.tmp 3) (.cst (I 0))⟩,
  ⟨some 34, none, .load none (.tmp 33)⟩,
  ⟨some 35, none, .fad (.tmp 2) 1⟩,
  ⟨some 36, none, .load none (.tmp 35)⟩,
  ⟨some 37, none, .len (.tmp 36)⟩,
  ⟨some 38, none, .call (.cst (.fn (.func 43) [] [])) [(.tmp 34), (.tmp 37)]⟩,
  ⟨some 39, none, .ixa 2 1 (.tmp 3) (.cst (I 1))⟩,
  ⟨some 40, none, .load none (.tmp 39)⟩,
  ⟨some 41, none, .fad (.tmp 2) 0⟩,
  ⟨some 42, none, .load none (.tmp 41)⟩,
  ⟨some 43, none, .call (.cst (.fn (.func 43) [] [])) [(.tmp 40), (.tmp 42)]⟩,
  ⟨some 5, none, .mov (.tmp 38)⟩,
  ⟨some 6, none, .mov (.tmp 43)⟩])
 (.seq (.ops false [
  ⟨some 45, none, .load (some 6) (.tmp 2)⟩,
  ⟨some 46, none, .call (.cst (.fn (.func 19) [] [])) [(.tmp 45)]⟩,
  ⟨some 44, none, .mov (.tmp 46)⟩,
  ⟨some 47, none, .ext (.tmp 44) 0⟩,
  ⟨some 48, none, .ext (.tmp 44) 1⟩,
  ⟨some 7, none, .mov (.tmp 47)⟩,
  ⟨some 8, none, .mov (.tmp 48)⟩])
 (.seq (.ops false [
  ⟨some 49, none, .load (some 6) (.tmp 2)⟩,
  ⟨some 50, none, .mov (.tmp 5)⟩,
  ⟨some 51, none, .call (.cst (.fn (.func 44) [] [])) [(.tmp 49), (.tmp 50)]⟩,
  ⟨some 9, none, .mov (.tmp 51)⟩,
  ⟨some 10, none, .mov (.cst (I 0))⟩,
  ⟨some 11, none, .mov (.cst (I 0))⟩,
  ⟨some 12, none, .mov (.cst (I 0))⟩])
 (.seq (.seq (.ops false [
  ⟨some 52, none, .mov (.tmp 8)⟩,
  ⟨some 53, none, .bin .neq (.tmp 52) (.cst (I 0))⟩])
 (.cond (.tmp 53) (.seq (.ops false [
  ⟨some 4, none, .mov (.cst (.bool false))⟩])
 .ret) .skip))
 (.seq (.ops false [
  ⟨some 54, none, .bsl 1 false (I 0) 0 []⟩,
  ⟨some 13, none, .mov (.tmp 54)⟩])
 (.seq (.seq (.ops false [
  ⟨some 14, none, .mov (.cst (I 0))⟩])
 (.block 0 (.loop keep7_0 body7_0)))
 (.seq (.ops false [
  ⟨some 134, none, .load (some 6) (.tmp 2)⟩,
  ⟨some 135, none, .mov (.tmp 5)⟩,
  ⟨some 136, none, .call (.cst (.fn (.func 24) [] [])) [(.tmp 134), (.tmp 135)]⟩,
  ⟨some 133, none, .mov (.tmp 136)⟩,
  ⟨some 137, none, .ext (.tmp 133) 0⟩,
  ⟨some 138, none, .ext (.tmp 133) 1⟩,
  ⟨some 19, none, .mov (.tmp 137)⟩,
  ⟨some 20, none, .mov (.tmp 138)⟩])
 (.seq (.ops false [
  ⟨some 140, none, .load (some 6) (.tmp 2)⟩,
  ⟨some 141, none, .mov (.tmp 5)⟩,
  ⟨some 142, none, .mov (.tmp 6)⟩,
  ⟨some 143, none, .call (.cst (.fn (.func 21) [] [])) [(.tmp 140), (.tmp 141), (.tmp 142)]⟩,
  ⟨some 139, none, .mov (.tmp 143)⟩,
  ⟨some 144, none, .ext (.tmp 139) 0⟩,
  ⟨some 145, none, .ext (.tmp 139) 1⟩,
  ⟨some 21, none, .mov (.tmp 144)⟩,
  ⟨some 22, none, .mov (.tmp 145)⟩])
 (.seq (.seq (.ops false [
  ⟨some 146, none, .mov (.tmp 11)⟩,
  ⟨some 147, none, .mov (.tmp 7)⟩,
  ⟨some 148, none, .bin .neq (.tmp 146) (.tmp 147)⟩])
 (.cond (.tmp 148) (.seq (.ops false [
  ⟨some 4, none, .mov (.cst (.bool false))⟩])
 .ret) .skip))
 (.seq (.seq (.ops false [
  ⟨some 149, none, .mov (.tmp 7)⟩,
  ⟨some 150, none, .bin .eql (.tmp 149) (.cst (I 0))⟩])
 (.cond (.tmp 150) (.seq (.ops false [
  ⟨some 151, none, .mov (.tmp 20)⟩,
  ⟨some 152, none, .bin .eql (.tmp 151) (.cst (I 52))⟩,
  ⟨some 153, none, .mov (.tmp 152)⟩,
  ⟨some 154, some ((some 153), true), .mov (.tmp 22)⟩,
  ⟨some 155, some ((some 153), true), .mov (.tmp 20)⟩,
  ⟨some 156, some ((some 153), true), .bin .eql (.tmp 154) (.tmp 155)⟩,
  ⟨some 157, none, .pick (.tmp 153) (.tmp 156) (.cst (.bool false))⟩,
  ⟨some 158, none, .mov (.tmp 157)⟩,
  ⟨some 159, some ((some 158), true), .call (.cst (.fn (.func 26) [] [])) []⟩,
  ⟨some 160, none, .pick (.tmp 158) (.tmp 159) (.cst (.bool false))⟩,
  ⟨some 4, none, .mov (.tmp 160)⟩])
 .ret) .skip))
 (.seq (.seq (.ops false [
  ⟨some 161, none, .mov (.tmp 22)⟩,
  ⟨some 162, none, .bin .neq (.tmp 161) (.cst (I 0))⟩,
  ⟨some 163, none, .mov (.tmp 162)⟩,
  ⟨some 164, some ((some 163), false), .mov (.tmp 21)⟩,
  ⟨some 165, some ((some 163), false), .call (.cst (.fn (.func 41) [] [])) [(.tmp 164), (.cst (I 13))]⟩,
  ⟨some 166, some ((some 163), false), .lnot (.tmp 165)⟩,
  ⟨some 167, none, .pick (.tmp 163) (.cst (.bool true)) (.tmp 166)⟩,
  ⟨some 168, none, .mov (.tmp 167)⟩,
  ⟨some 169, some ((some 168), false), .mov (.tmp 21)⟩,
  ⟨some 170, some ((some 168), false), .call (.cst (.fn (.func 47) [] [])) [(.tmp 169)]⟩,
  ⟨some 171, some ((some 168), false), .mov (.tmp 12)⟩,
  ⟨some 172, some ((some 168), false), .bin .neq (.tmp 170) (.tmp 171)⟩,
  ⟨some 173, none, .pick (.tmp 168) (.cst (.bool true)) (.tmp 172)⟩,
  ⟨some 174, none, .mov (.tmp 173)⟩,
  ⟨some 175, some ((some 174), false), .mov (.tmp 10)⟩,
  ⟨some 176, some ((some 174), false), .bin .eql (.tmp 175) (.cst (I 1))⟩,
  ⟨some 177, some ((some 174), false), .mov (.tmp 20)⟩,
  ⟨some 178, some ((some 174), false), .bin .eql (.tmp 177) (.cst (I 0))⟩,
  ⟨some 179, some ((some 174), false), .beq true (.tmp 176) (.tmp 178)⟩,
  ⟨some 180, none, .pick (.tmp 174) (.cst (.bool true)) (.tmp 179)⟩])
 (.cond (.tmp 180) (.seq (.ops false [
  ⟨some 4, none, .mov (.cst (.bool false))⟩])
 .ret) .skip))
 (.seq (.ops false [
  ⟨some 181, none, .mov (.tmp 20)⟩,
  ⟨some 182, none, .bin .eql (.tmp 181) (.cst (I 0))⟩,
  ⟨some 183, none, .mov (.tmp 182)⟩,
  ⟨some 184, some ((some 183), true), .mov (.tmp 19)⟩,
  ⟨some 185, some ((some 183), true), .mov (.tmp 13)⟩,
  ⟨some 186, some ((some 183), true), .call (.cst (.fn (.func 23) [] [])) [(.tmp 184), (.tmp 185)]⟩,
  ⟨some 187, none, .pick (.tmp 183) (.tmp 186) (.cst (.bool false))⟩,
  ⟨some 188, none, .mov (.tmp 187)⟩,
  ⟨some 189, some ((some 188), false), .mov (.tmp 20)⟩,
  ⟨some 190, some ((some 188), false), .bin .eql (.tmp 189) (.cst (I 4))⟩,
  ⟨some 191, some ((some 188), false), .mov (.tmp 190)⟩,
  ⟨some 192, some ((some 191), true), .mov (.tmp 19)⟩,
  ⟨some 193, some ((some 191), true), .len (.tmp 192)⟩,
  ⟨some 194, some ((some 191), true), .bin .eql (.tmp 193) (.cst (I 0))⟩,
  ⟨some 195, some ((some 188), false), .pick (.tmp 191) (.tmp 194) (.cst (.bool false))⟩,
  ⟨some 196, none, .pick (.tmp 188) (.cst (.bool true)) (.tmp 195)⟩,
  ⟨some 197, none, .mov (.tmp 196)⟩,
  ⟨some 198, some ((some 197), true), .call (.cst (.fn (.func 26) [] [])) []⟩,
  ⟨some 199, none, .pick (.tmp 197) (.tmp 198) (.cst (.bool false))⟩,
  ⟨some 4, none, .mov (.tmp 199)⟩])
 .ret))))))))))))))⟩
theorem comp7 : compF Cv 7 = some code7 := by kernel_rfl

def code8 : MF := ⟨167, [(6, none)], (.seq (.ops false [
  ⟨some 3, none, .box (.tmp 0)⟩,
  ⟨some 4, none, .box (.tmp 1)⟩,
  ⟨some 5, none, .box (.tmp 2)⟩,
  ⟨some 6, none, .mov (.cst (.bool false))⟩])
 (.seq (.seq (.ops false [
  ⟨some 20, none, .load (some 6) (.tmp 3)⟩,
  ⟨some 21, none, .call (.cst (.fn (.func 37) [] [])) [(.tmp 20)]⟩,
  ⟨some 22, none, .lnot (.tmp 21)⟩,
  ⟨some 23, none, .mov (.tmp 22)⟩,
  ⟨some 24, some ((some 23), false), .fad (.tmp 3) 5⟩,
  ⟨some 25, some ((some 23), false), .load none (.tmp 24)⟩,
  ⟨some 26, some ((some 23), false), .len (.tmp 25)⟩,
  ⟨some 27, some ((some 23), false), .bin .eql (.tmp 26) (.cst (I 4))⟩,
  ⟨some 28, none, .pick (.tmp 23) (.cst (.bool true)) (.tmp 27)⟩])
 (.cond (.tmp 28) (.seq (.ops false [
  ⟨some 29, none, .call (.cst (.fn (.func 26) [] [])) []⟩,
  ⟨some 6, none, .mov (.tmp 29)⟩])
 .ret) .skip))
 (.seq (.ops true [
  ⟨some 30, none, .load (some 6) (.tmp 3)⟩,
  ⟨some 31, none, .load (some 2) (.tmp 4)⟩,
  ⟨some 32, none, .call (.cst (.fn (.func 45) [] [])) [(.tmp 30), (.tmp 31)]⟩,
  ⟨some 33, none, .ixa 2 1 (.tmp 5) (.cst (I 0))⟩,
  ⟨some 34, none, .load none (.tmp 33)⟩,
  ⟨some 35, none, .fad (.tmp 3) 1⟩,
  ⟨some 36, none, .load none (.tmp 35)⟩,
  ⟨some 37, none, .len (.tmp 36)⟩,
  ⟨some 38, none, .call (.cst (.fn (.func 43) [] [])) [(.tmp 34), (.tmp 37)]⟩,
  ⟨some 39, none, .ixa 2 1 (.tmp 5) (.cst (I 1))⟩,
  ⟨some 40, none, .load none (.tmp 39)⟩,
  ⟨some 41, none, .fad (.tmp 3) 0⟩,
  ⟨some 42, none, .load none (.tmp 41)⟩,
  ⟨some 43, none, .call (.cst (.fn (.func 43) [] [])) [(.tmp 40), (.tmp 42)]⟩,
  ⟨some 7, none, .alloc [(I 0), .nils, (I 0), (I 0), (I 0), .nils]⟩,
  ⟨none, none, .store 6 (.tmp 7) (.tmp 32)⟩,
  ⟨some 8, none, .mov (.tmp 38)⟩,
  ⟨some 9, none, .mov (.tmp 43)⟩])
 (.seq (.ops false [
  ⟨some 45, none, .load (some 6) (.tmp 3)⟩,
  ⟨some 46, none, .load (some 2) (.tmp 4)⟩,
  ⟨some 47, none, .call (.cst (.fn (.func 31) [] [])) [(.tmp 45), (.tmp 46)]⟩,
  ⟨some 44, none, .mov (.tmp 47)⟩,
  ⟨some 48, none, .ext (.tmp 44) 0⟩,
  ⟨some 49, none, .ext (.tmp 44) 1⟩,
  ⟨some 10, none, .mov (.tmp 48)⟩,
  ⟨some 11, none, .mov (.tmp 49)⟩])
 (.seq (.ops false [
  ⟨some 51, none, .load (some 6) (.tmp 7)⟩,
  ⟨some 52, none, .call (.cst (.fn (.func 19) [] [])) [(.tmp 51)]⟩,
  ⟨some 50, none, .mov (.tmp 52)⟩,
  ⟨some 53, none, .ext (.tmp 50) 0⟩,
  ⟨some 54, none, .ext (.tmp 50) 1⟩,
  ⟨some 12, none, .mov (.tmp 53)⟩,
  ⟨some 13, none, .mov (.tmp 54)⟩])
 (.seq (.ops false [
  ⟨some 56, none, .load (some 6) (.tmp 3)⟩,
  ⟨some 57, none, .call (.cst (.fn (.func 19) [] [])) [(.tmp 56)]⟩,
  ⟨some 55, none, .mov (.tmp 57)⟩,
  ⟨some 58, none, .ext (.tmp 55) 0⟩,
  ⟨some 59, none, .ext (.tmp 55) 1⟩,
  ⟨some 14, none, .mov (.tmp 58)⟩,
  ⟨some 15, none, .mov (.tmp 59)⟩])
 (.seq (.seq (.ops false [
  ⟨some 60, none, .mov (.tmp 13)⟩,
  ⟨some 61, none, .bin .neq (.tmp 60) (.cst (I 0))⟩])
 (.cond (.tmp 61) (.seq (.ops false [
  ⟨some 62, none, .mov (.tmp 13)⟩,
  ⟨some 63, none, .bin .eql (.tmp 62) (.cst (I 50))⟩,
  ⟨some 64, none, .mov (.tmp 63)⟩,
  ⟨some 65, some ((some 64), true), .mov (.tmp 11)⟩,
  ⟨some 66, some ((some 64), true), .bin .eql (.tmp 65) (.cst (I 51))⟩,
  ⟨some 67, none, .pick (.tmp 64) (.tmp 66) (.cst (.bool false))⟩,
  ⟨some 68, none, .mov (.tmp 67)⟩,
  ⟨some 69, some ((some 68), true), .mov (.tmp 10)⟩,
  ⟨some 70, some ((some 68), true), .lnot (.tmp 69)⟩,
  ⟨some 71, none, .pick (.tmp 68) (.tmp 70) (.cst (.bool false))⟩,
  ⟨some 72, none, .mov (.tmp 71)⟩,
  ⟨some 73, some ((some 72), true), .call (.cst (.fn (.func 26) [] [])) []⟩,
  ⟨some 74, none, .pick (.tmp 72) (.tmp 73) (.cst (.bool false))⟩,
  ⟨some 6, none, .mov (.tmp 74)⟩])
 .ret) .skip))
 (.seq (.seq (.ops false [
  ⟨some 75, none, .mov (.tmp 15)⟩,
  ⟨some 76, none, .bin .neq (.tmp 75) (.cst (I 0))⟩,
  ⟨some 77, none, .mov (.tmp 76)⟩,
  ⟨some 78, some ((some 77), false), .mov (.tmp 11)⟩,
  ⟨some 79, some ((some 77), false), .bin .neq (.tmp 78) (.cst (I 0))⟩,
  ⟨some 80, some ((some 77), false), .mov (.tmp 79)⟩,
  ⟨some 81, some ((some 80), true), .mov (.tmp 11)⟩,
  ⟨some 82, some ((some 80), true), .bin .neq (.tmp 81) (.cst (I 52))⟩,
  ⟨some 83, some ((some 77), false), .pick (.tmp 80) (.tmp 82) (.cst (.bool false))⟩,
  ⟨some 84, none, .pick (.tmp 77) (.cst (.bool true)) (.tmp 83)⟩,
  ⟨some 85, none, .mov (.tmp 84)⟩,
  ⟨some 86, some ((some 85), false), .mov (.tmp 12)⟩,
  ⟨some 87, some ((some 85), false), .bin .gtr (.tmp 86) (.cst (I 0))⟩,
  ⟨some 88, some ((some 85), false), .mov (.tmp 11)⟩,
  ⟨some 89, some ((some 85), false), .bin .eql (.tmp 88) (.cst (I 0))⟩,
  ⟨some 90, some ((some 85), false), .mov (.tmp 89)⟩,
  ⟨some 91, some ((some 90), true), .mov (.tmp 10)⟩,
  ⟨some 92, some ((some 85), false), .pick (.tmp 90) (.tmp 91) (.cst (.bool false))⟩,
  ⟨some 93, some ((some 85), false), .beq true (.tmp 87) (.tmp 92)⟩,
  ⟨some 94, none, .pick (.tmp 85) (.cst (.bool true)) (.tmp 93)⟩,
  ⟨some 95, none, .mov (.tmp 94)⟩,
  ⟨some 96, some ((some 95), false), .mov (.tmp 12)⟩,
  ⟨some 97, some ((some 95), false), .mov (.tmp 14)⟩,
  ⟨some 98, some ((some 95), false), .bin .gtr (.tmp 96) (.tmp 97)⟩,
  ⟨some 99, none, .pick (.tmp 95) (.cst (.bool true)) (.tmp 98)⟩])
 (.cond (.tmp 99) (.seq (.ops false [
  ⟨some 6, none, .mov (.cst (.bool false))⟩])
 .ret) .skip))
 (.seq (.ops false [
  ⟨some 101, none, .load (some 6) (.tmp 3)⟩,
  ⟨some 102, none, .call (.cst (.fn (.func 33) [] [])) [(.tmp 101)]⟩,
  ⟨some 100, none, .mov (.tmp 102)⟩,
  ⟨some 103, none, .ext (.tmp 100) 0⟩,
  ⟨some 104, none, .ext (.tmp 100) 1⟩,
  ⟨some 16, none, .mov (.tmp 103)⟩,
  ⟨some 11, none, .mov (.tmp 104)⟩])
 (.seq (.ops false [
  ⟨some 106, none, .load (some 6) (.tmp 7)⟩,
  ⟨some 107, none, .call (.cst (.fn (.func 33) [] [])) [(.tmp 106)]⟩,
  ⟨some 105, none, .mov (.tmp 107)⟩,
  ⟨some 108, none, .ext (.tmp 105) 0⟩,
  ⟨some 109, none, .ext (.tmp 105) 1⟩,
  ⟨some 17, none, .mov (.tmp 108)⟩,
  ⟨some 13, none, .mov (.tmp 109)⟩])
 (.seq (.seq (.ops false [
  ⟨some 110, none, .mov (.tmp 11)⟩,
  ⟨some 111, none, .mov (.tmp 13)⟩,
  ⟨some 112, none, .bin .neq (.tmp 110) (.tmp 111)⟩,
  ⟨some 113, none, .mov (.tmp 112)⟩,
  ⟨some 114, some ((some 113), false), .mov (.tmp 11)⟩,
  ⟨some 115, some ((some 113), false), .bin .neq (.tmp 114) (.cst (I 0))⟩,
  ⟨some 116, some ((some 113), false), .mov (.tmp 115)⟩,
  ⟨some 117, some ((some 116), true), .mov (.tmp 11)⟩,
  ⟨some 118, some ((some 116), true), .bin .neq (.tmp 117) (.cst (I 52))⟩,
  ⟨some 119, some ((some 113), false), .pick (.tmp 116) (.tmp 118) (.cst (.bool false))⟩,
  ⟨some 120, none, .pick (.tmp 113) (.cst (.bool true)) (.tmp 119)⟩,
  ⟨some 121, none, .mov (.tmp 120)⟩,
  ⟨some 122, some ((some 121), false), .mov (.tmp 17)⟩,
  ⟨some 123, some ((some 121), false), .len (.tmp 122)⟩,
  ⟨some 124, some ((some 121), false), .mov (.tmp 16)⟩,
  ⟨some 125, some ((some 121), false), .len (.tmp 124)⟩,
  ⟨some 126, some ((some 121), false), .bin .lss (.tmp 123) (.tmp 125)⟩,
  ⟨some 127, none, .pick (.tmp 121) (.cst (.bool true)) (.tmp 126)⟩])
 (.cond (.tmp 127) (.seq (.ops false [
  ⟨some 6, none, .mov (.cst (.bool false))⟩])
 .ret) .skip))
 (.seq (.seq (.ops false [
  ⟨some 128, none, .mov (.tmp 12)⟩,
  ⟨some 129, none, .bin .eql (.tmp 128) (.cst (I 0))⟩])
 (.cond (.tmp 129) (.seq (.ops false [
  ⟨some 130, none, .call (.cst (.fn (.func 26) [] [])) []⟩,
  ⟨some 6, none, .mov (.tmp 130)⟩])
 .ret) .skip))
 (.seq (.ops false [
  ⟨some 132, none, .load (some 6) (.tmp 3)⟩,
  ⟨some 133, none, .mov (.tmp 8)⟩,
  ⟨some 134, none, .mov (.tmp 9)⟩,
  ⟨some 135, none, .call (.cst (.fn (.func 21) [] [])) [(.tmp 132), (.tmp 133), (.tmp 134)]⟩,
  ⟨some 131, none, .mov (.tmp 135)⟩,
  ⟨some 136, none, .ext (.tmp 131) 0⟩,
  ⟨some 137, none, .ext (.tmp 131) 1⟩,
  ⟨some 18, none, .mov (.tmp 136)⟩,
  ⟨some 11, none, .mov (.tmp 137)⟩])
 (.seq (.ops false [
  ⟨some 139, none, .load (some 6) (.tmp 7)⟩,
  ⟨some 140, none, .mov (.tmp 8)⟩,
  ⟨some 141, none, .mov (.tmp 9)⟩,
  ⟨some 142, none, .call (.cst (.fn (.func 21) [] [])) [(.tmp 139), (.tmp 140), (.tmp 141)]⟩,
  ⟨some 138, none, .mov (.tmp 142)⟩,
  ⟨some 143, none, .ext (.tmp 138) 0⟩,
  ⟨some 144, none, .ext (.tmp 138) 1⟩,
  ⟨some 19, none, .mov (.tmp 143)⟩,
  ⟨some 13, none, .mov (.tmp 144)⟩])
 (.seq (.ops false [
  ⟨some 145, none, .mov (.tmp 11)⟩,
  ⟨some 146, none, .bin .eql (.tmp 145) (.cst (I 0))⟩,
  ⟨some 147, none, .mov (.tmp 146)⟩,
  ⟨some 148, some ((some 147), true), .mov (.tmp 13)⟩,
  ⟨some 149, some ((some 147), true), .bin .eql (.tmp 148) (.cst (I 0))⟩,
  ⟨some 150, none, .pick (.tmp 147) (.tmp 149) (.cst (.bool false))⟩,
  ⟨some 151, none, .mov (.tmp 150)⟩,
  ⟨some 152, some ((some 151), true), .mov (.tmp 19)⟩,
  ⟨some 153, some ((some 151), true), .call (.cst (.fn (.func 47) [] [])) [(.tmp 152)]⟩,
  ⟨some 154, some ((some 151), true), .mov (.tmp 18)⟩,
  ⟨some 155, some ((some 151), true), .call (.cst (.fn (.func 47) [] [])) [(.tmp 154)]⟩,
  ⟨some 156, some ((some 151), true), .bin .andNot (.tmp 153) (.tmp 155)⟩,
  ⟨some 157, some ((some 151), true), .bin .eql (.tmp 156) (.cst (I 0))⟩,
  ⟨some 158, none, .pick (.tmp 151) (.tmp 157) (.cst (.bool false))⟩,
  ⟨some 159, none, .mov (.tmp 158)⟩,
  ⟨some 160, some ((some 159), true), .mov (.tmp 19)⟩,
  ⟨some 161, some ((some 159), true), .len (.tmp 160)⟩,
  ⟨some 162, some ((some 159), true), .bin .gtr (.tmp 161) (.cst (I 0))⟩,
  ⟨some 163, none, .pick (.tmp 159) (.tmp 162) (.cst (.bool false))⟩,
  ⟨some 164, none, .mov (.tmp 163)⟩,
  ⟨some 165, some ((some 164), true), .call (.cst (.fn (.func 26) [] [])) []⟩,
  ⟨some 166, none, .pick (.tmp 164) (.tmp 165) (.cst (.bool false))⟩,
  ⟨some 6, none, .mov (.tmp 166)⟩])
 .ret)))))))))))))))⟩
theorem comp8 : compF Cv 8 = some code8 := by kernel_rfl

def code9 : MF := ⟨137, [(4, none)], (.seq (.ops false [
  ⟨some 2, none, .box (.tmp 0)⟩,
  ⟨some 3, none, .box (.tmp 1)⟩,
  ⟨some 4, none, .mov (.cst (.bool false))⟩])
 (.seq (.seq (.ops false [
  ⟨some 17, none, .load (some 6) (.tmp 2)⟩,
  ⟨some 18, none, .call (.cst (.fn (.func 37) [] [])) [(.tmp 17)]⟩,
  ⟨some 19, none, .lnot (.tmp 18)⟩])
 (.cond (.tmp 19) (.seq (.ops false [
  ⟨some 20, none, .call (.cst (.fn (.func 26) [] [])) []⟩,
  ⟨some 4, none, .mov (.tmp 20)⟩])
 .ret) .skip))
 (.seq (.ops true [
  ⟨some 21, none, .load (some 6) (.tmp 2)⟩,
  ⟨some 22, none, .ixa 4 1 (.tmp 3) (.cst (I 2))⟩,
  ⟨some 23, none, .load none (.tmp 22)⟩,
  ⟨some 24, none, .fad (.tmp 2) 1⟩,
  ⟨some 25, none, .load none (.tmp 24)⟩,
  ⟨some 26, none, .len (.tmp 25)⟩,
  ⟨some 27, none, .call (.cst (.fn (.func 43) [] [])) [(.tmp 23), (.tmp 26)]⟩,
  ⟨some 28, none, .ixa 4 1 (.tmp 3) (.cst (I 3))⟩,
  ⟨some 29, none, .load none (.tmp 28)⟩,
  ⟨some 30, none, .fad (.tmp 2) 0⟩,
  ⟨some 31, none, .load none (.tmp 30)⟩,
  ⟨some 32, none, .call (.cst (.fn (.func 43) [] [])) [(.tmp 29), (.tmp 31)]⟩,
  ⟨some 5, none, .alloc [(I 0), .nils, (I 0), (I 0), (I 0), .nils]⟩,
  ⟨none, none, .store 6 (.tmp 5) (.tmp 21)⟩,
  ⟨some 6, none, .mov (.tmp 27)⟩,
  ⟨some 7, none, .mov (.tmp 32)⟩])
 (.seq (.ops false [
  ⟨some 33, none, .ixa 4 1 (.tmp 3) (.cst (I 1))⟩,
  ⟨some 34, none, .load none (.tmp 33)⟩,
  ⟨some 35, none, .call (.cst (.fn (.func 43) [] [])) [(.tmp 34), (.cst (I 8))]⟩,
  ⟨some 36, none, .bin .shl (.cst (I 1)) (.tmp 35)⟩,
  ⟨some 8, none, .mov (.tmp 36)⟩])
 (.seq (.seq (.ops false [
  ⟨some 37, none, .ixa 4 1 (.tmp 3) (.cst (I 0))⟩,
  ⟨some 38, none, .load none (.tmp 37)⟩,
  ⟨some 39, none, .call (.cst (.fn (.func 43) [] [])) [(.tmp 38), (.cst (I 3))]⟩])
 (.block 0 (.seq (.ops false [
  ⟨some 46, none, .bin .eql (.tmp 39) (.cst (I 0))⟩,
  ⟨some 45, none, .mov (.tmp 46)⟩])
 (.cond (.tmp 45) (.ops false [
  ⟨some 47, none, .fad (.tmp 2) 2⟩,
  ⟨some 48, none, .load none (.tmp 47)⟩,
  ⟨some 49, none, .bin .add (.tmp 48) (.cst (I 1))⟩,
  ⟨some 50, none, .mn (.cst (I 7)) [(.tmp 49)]⟩,
  ⟨some 51, none, .fad (.tmp 5) 2⟩,
  ⟨none, none, .store 1 (.tmp 51) (.tmp 50)⟩]) (.seq (.ops false [
  ⟨some 53, none, .bin .eql (.tmp 39) (.cst (I 1))⟩,
  ⟨some 52, none, .mov (.tmp 53)⟩])
 (.cond (.tmp 52) (.ops false [
  ⟨some 54, none, .fad (.tmp 2) 3⟩,
  ⟨some 55, none, .load none (.tmp 54)⟩,
  ⟨some 56, none, .mov (.tmp 8)⟩,
  ⟨some 57, none, .bin .or (.tmp 55) (.tmp 56)⟩,
  ⟨some 58, none, .fad (.tmp 5) 3⟩,
  ⟨none, none, .store 1 (.tmp 58) (.tmp 57)⟩]) (.ops false [
  ⟨some 40, none, .fad (.tmp 2) 4⟩,
  ⟨some 41, none, .load none (.tmp 40)⟩,
  ⟨some 42, none, .mov (.tmp 8)⟩,
  ⟨some 43, none, .bin .andNot (.tmp 41) (.tmp 42)⟩,
  ⟨some 44, none, .fad (.tmp 5) 4⟩,
  ⟨none, none, .store 1 (.tmp 44) (.tmp 43)⟩])))))))
 (.seq (.ops false [
  ⟨some 60, none, .load (some 6) (.tmp 2)⟩,
  ⟨some 61, none, .call (.cst (.fn (.func 19) [] [])) [(.tmp 60)]⟩,
  ⟨some 59, none, .mov (.tmp 61)⟩,
  ⟨some 62, none, .ext (.tmp 59) 0⟩,
  ⟨some 63, none, .ext (.tmp 59) 1⟩,
  ⟨some 9, none, .mov (.tmp 62)⟩,
  ⟨some 10, none, .mov (.tmp 63)⟩])
 (.seq (.ops false [
  ⟨some 65, none, .load (some 6) (.tmp 5)⟩,
  ⟨some 66, none, .call (.cst (.fn (.func 19) [] [])) [(.tmp 65)]⟩,
  ⟨some 64, none, .mov (.tmp 66)⟩,
  ⟨some 67, none, .ext (.tmp 64) 0⟩,
  ⟨some 68, none, .ext (.tmp 64) 1⟩,
  ⟨some 11, none, .mov (.tmp 67)⟩,
  ⟨some 12, none, .mov (.tmp 68)⟩])
 (.seq (.seq (.ops false [
  ⟨some 69, none, .mov (.tmp 10)⟩,
  ⟨some 70, none, .bin .neq (.tmp 69) (.cst (I 0))⟩,
  ⟨some 71, none, .mov (.tmp 70)⟩,
  ⟨some 72, some ((some 71), false), .mov (.tmp 12)⟩,
  ⟨some 73, some ((some 71), false), .bin .neq (.tmp 72) (.cst (I 0))⟩,
  ⟨some 74, none, .pick (.tmp 71) (.cst (.bool true)) (.tmp 73)⟩,
  ⟨some 75, none, .mov (.tmp 74)⟩,
  ⟨some 76, some ((some 75), false), .mov (.tmp 11)⟩,
  ⟨some 77, some ((some 75), false), .mov (.tmp 9)⟩,
  ⟨some 78, some ((some 75), false), .bin .lss (.tmp 76) (.tmp 77)⟩,
  ⟨some 79, none, .pick (.tmp 75) (.cst (.bool true)) (.tmp 78)⟩])
 (.cond (.tmp 79) (.seq (.ops false [
  ⟨some 4, none, .mov (.cst (.bool false))⟩])
 .ret) .skip))
 (.seq (.ops false [
  ⟨some 81, none, .load (some 6) (.tmp 2)⟩,
  ⟨some 82, none, .call (.cst (.fn (.func 33) [] [])) [(.tmp 81)]⟩,
  ⟨some 80, none, .mov (.tmp 82)⟩,
  ⟨some 83, none, .ext (.tmp 80) 0⟩,
  ⟨some 84, none, .ext (.tmp 80) 1⟩,
  ⟨some 13, none, .mov (.tmp 83)⟩,
  ⟨some 10, none, .mov (.tmp 84)⟩])
 (.seq (.ops false [
  ⟨some 86, none, .load (some 6) (.tmp 5)⟩,
  ⟨some 87, none, .call (.cst (.fn (.func 33) [] [])) [(.tmp 86)]⟩,
  ⟨some 85, none, .mov (.tmp 87)⟩,
  ⟨some 88, none, .ext (.tmp 85) 0⟩,
  ⟨some 89, none, .ext (.tmp 85) 1⟩,
  ⟨some 14, none, .mov (.tmp 88)⟩,
  ⟨some 12, none, .mov (.tmp 89)⟩])
 (.seq (.seq (.ops false [
  ⟨some 90, none, .mov (.tmp 10)⟩,
  ⟨some 91, none, .bin .eql (.tmp 90) (.cst (I 0))⟩,
  ⟨some 92, none, .mov (.tmp 91)⟩,
  ⟨some 93, some ((some 92), true), .mov (.tmp 12)⟩,
  ⟨some 94, some ((some 92), true), .bin .neq (.tmp 93) (.cst (I 0))⟩,
  ⟨some 95, some ((some 92), true), .mov (.tmp 94)⟩,
  ⟨some 96, some ((some 95), false), .mov (.tmp 14)⟩,
  ⟨some 97, some ((some 95), false), .len (.tmp 96)⟩,
  ⟨some 98, some ((some 95), false), .mov (.tmp 13)⟩,
  ⟨some 99, some ((some 95), false), .len (.tmp 98)⟩,
  ⟨some 100, some ((some 95), false), .bin .gtr (.tmp 97) (.tmp 99)⟩,
  ⟨some 101, some ((some 92), true), .pick (.tmp 95) (.cst (.bool true)) (.tmp 100)⟩,
  ⟨some 102, none, .pick (.tmp 92) (.tmp 101) (.cst (.bool false))⟩])
 (.cond (.tmp 102) (.seq (.ops false [
  ⟨some 4, none, .mov (.cst (.bool false))⟩])
 .ret) .skip))
 (.seq (.seq (.ops false [
  ⟨some 103, none, .mov (.tmp 9)⟩,
  ⟨some 104, none, .bin .eql (.tmp 103) (.cst (I 0))⟩])
 (.cond (.tmp 104) (.seq (.ops false [
  ⟨some 105, none, .call (.cst (.fn (.func 26) [] [])) []⟩,
  ⟨some 4, none, .mov (.tmp 105)⟩])
 .ret) .skip))
 (.seq (.ops false [
  ⟨some 107, none, .load (some 6) (.tmp 2)⟩,
  ⟨some 108, none, .mov (.tmp 6)⟩,
  ⟨some 109, none, .mov (.tmp 7)⟩,
  ⟨some 110, none, .call (.cst (.fn (.func 21) [] [])) [(.tmp 107), (.tmp 108), (.tmp 109)]⟩,
  ⟨some 106, none, .mov (.tmp 110)⟩,
  ⟨some 111, none, .ext (.tmp 106) 0⟩,
  ⟨some 112, none, .ext (.tmp 106) 1⟩,
  ⟨some 15, none, .mov (.tmp 111)⟩,
  ⟨some 10, none, .mov (.tmp 112)⟩])
 (.seq (.ops false [
  ⟨some 114, none, .load (some 6) (.tmp 5)⟩,
  ⟨some 115, none, .mov (.tmp 6)⟩,
  ⟨some 116, none, .mov (.tmp 7)⟩,
  ⟨some 117, none, .call (.cst (.fn (.func 21) [] [])) [(.tmp 114), (.tmp 115), (.tmp 116)]⟩,
  ⟨some 113, none, .mov (.tmp 117)⟩,
  ⟨some 118, none, .ext (.tmp 113) 0⟩,
  ⟨some 119, none, .ext (.tmp 113) 1⟩,
  ⟨some 16, none, .mov (.tmp 118)⟩,
  ⟨some 12, none, .mov (.tmp 119)⟩])
 (.seq (.ops false [
  ⟨some 120, none, .mov (.tmp 10)⟩,
  ⟨some 121, none, .bin .eql (.tmp 120) (.cst (I 0))⟩,
  ⟨some 122, none, .mov (.tmp 121)⟩,
  ⟨some 123, some ((some 122), true), .mov (.tmp 12)⟩,
  ⟨some 124, some ((some 122), true), .bin .eql (.tmp 123) (.cst (I 0))⟩,
  ⟨some 125, none, .pick (.tmp 122) (.tmp 124) (.cst (.bool false))⟩,
  ⟨some 126, none, .mov (.tmp 125)⟩,
  ⟨some 127, some ((some 126), true), .mov (.tmp 15)⟩,
  ⟨some 128, some ((some 126), true), .call (.cst (.fn (.func 47) [] [])) [(.tmp 127)]⟩,
  ⟨some 129, some ((some 126), true), .mov (.tmp 16)⟩,
  ⟨some 130, some ((some 126), true), .call (.cst (.fn (.func 47) [] [])) [(.tmp 129)]⟩,
  ⟨some 131, some ((some 126), true), .bin .andNot (.tmp 128) (.tmp 130)⟩,
  ⟨some 132, some ((some 126), true), .bin .eql (.tmp 131) (.cst (I 0))⟩,
  ⟨some 133, none, .pick (.tmp 126) (.tmp 132) (.cst (.bool false))⟩,
  ⟨some 134, none, .mov (.tmp 133)⟩,
  ⟨some 135, some ((some 134), true), .call (.cst (.fn (.func 26) [] [])) []⟩,
  ⟨some 136, none, .pick (.tmp 134) (.tmp 135) (.cst (.bool false))⟩,
  ⟨some 4, none, .mov (.tmp 136)⟩])
 .ret)))))))))))))))⟩
theorem comp9 : compF Cv 9 = some code9 := by kernel_rfl

def code10 : MF := ⟨181, [(4, none)], (.seq (.ops false [
  ⟨some 2, none, .box (.tmp 0)⟩,
  ⟨some 4, none, .mov (.cst (.bool false))⟩])
 (.seq (.seq (.ops false [
  ⟨some 21, none, .load (some 6) (.tmp 2)⟩,
  ⟨some 22, none, .call (.cst (.fn (.func 37) [] [])) [(.tmp 21)]⟩,
  ⟨some 23, none, .lnot (.tmp 22)⟩])
 (.cond (.tmp 23) (.seq (.ops false [
  ⟨some 24, none, .call (.cst (.fn (.func 26) [] [])) []⟩,
  ⟨some 4, none, .mov (.tmp 24)⟩])
 .ret) .skip))
 (.seq (.ops false [
  ⟨some 25, none, .load (some 6) (.tmp 2)⟩,
  ⟨some 26, none, .call (.cst (.fn (.func 48) [] [])) [(.tmp 25)]⟩,
  ⟨some 5, none, .alloc [(I 0), .nils, (I 0), (I 0), (I 0), .nils]⟩,
  ⟨none, none, .store 6 (.tmp 5) (.tmp 26)⟩])
 (.seq (.seq (.ops false [
  ⟨some 27, none, .load (some 6) (.tmp 5)⟩,
  ⟨some 28, none, .call (.cst (.fn (.func 17) [] [])) [(.tmp 27)]⟩,
  ⟨some 6, none, .mov (.tmp 28)⟩])
 (.seq (.ops false [
  ⟨some 29, none, .mov (.tmp 6)⟩,
  ⟨some 30, none, .bin .neq (.tmp 29) (.cst (I 0))⟩])
 (.cond (.tmp 30) (.seq (.ops false [
  ⟨some 31, none, .mov (.tmp 6)⟩,
  ⟨some 32, none, .bin .eql (.tmp 31) (.cst (I 50))⟩,
  ⟨some 33, none, .mov (.tmp 32)⟩,
  ⟨some 34, some ((some 33), true), .call (.cst (.fn (.func 26) [] [])) []⟩,
  ⟨some 35, none, .pick (.tmp 33) (.tmp 34) (.cst (.bool false))⟩,
  ⟨some 4, none, .mov (.tmp 35)⟩])
 .ret) .skip)))
 (.seq (.ops false [
  ⟨some 37, none, .load (some 6) (.tmp 2)⟩,
  ⟨some 38, none, .call (.cst (.fn (.func 19) [] [])) [(.tmp 37)]⟩,
  ⟨some 36, none, .mov (.tmp 38)⟩,
  ⟨some 39, none, .ext (.tmp 36) 0⟩,
  ⟨some 40, none, .ext (.tmp 36) 1⟩,
  ⟨some 7, none, .mov (.tmp 39)⟩,
  ⟨some 8, none, .mov (.tmp 40)⟩])
 (.seq (.ops false [
  ⟨some 42, none, .load (some 6) (.tmp 5)⟩,
  ⟨some 43, none, .call (.cst (.fn (.func 19) [] [])) [(.tmp 42)]⟩,
  ⟨some 41, none, .mov (.tmp 43)⟩,
  ⟨some 44, none, .ext (.tmp 41) 0⟩,
  ⟨some 45, none, .ext (.tmp 41) 1⟩,
  ⟨some 9, none, .mov (.tmp 44)⟩,
  ⟨some 10, none, .mov (.tmp 45)⟩])
 (.seq (.ops false [
  ⟨some 47, none, .load (some 6) (.tmp 2)⟩,
  ⟨some 48, none, .call (.cst (.fn (.func 33) [] [])) [(.tmp 47)]⟩,
  ⟨some 46, none, .mov (.tmp 48)⟩,
  ⟨some 49, none, .ext (.tmp 46) 0⟩,
  ⟨some 50, none, .ext (.tmp 46) 1⟩,
  ⟨some 11, none, .mov (.tmp 49)⟩,
  ⟨some 12, none, .mov (.tmp 50)⟩])
 (.seq (.ops false [
  ⟨some 52, none, .load (some 6) (.tmp 5)⟩,
  ⟨some 53, none, .call (.cst (.fn (.func 33) [] [])) [(.tmp 52)]⟩,
  ⟨some 51, none, .mov (.tmp 53)⟩,
  ⟨some 54, none, .ext (.tmp 51) 0⟩,
  ⟨some 55, none, .ext (.tmp 51) 1⟩,
  ⟨some 13, none, .mov (.tmp 54)⟩,
  ⟨some 14, none, .mov (.tmp 55)⟩])
 (.seq (.seq (.ops false [
  ⟨some 56, none, .mov (.tmp 8)⟩,
  ⟨some 57, none, .bin .neq (.tmp 56) (.cst (I 0))⟩,
  ⟨some 58, none, .mov (.tmp 57)⟩,
  ⟨some 59, some ((some 58), false), .mov (.tmp 10)⟩,
  ⟨some 60, some ((some 58), false), .bin .neq (.tmp 59) (.cst (I 0))⟩,
  ⟨some 61, none, .pick (.tmp 58) (.cst (.bool true)) (.tmp 60)⟩,
  ⟨some 62, none, .mov (.tmp 61)⟩,
  ⟨some 63, some ((some 62), false), .mov (.tmp 7)⟩,
  ⟨some 64, some ((some 62), false), .mov (.tmp 9)⟩,
  ⟨some 65, some ((some 62), false), .bin .neq (.tmp 63) (.tmp 64)⟩,
  ⟨some 66, none, .pick (.tmp 62) (.cst (.bool true)) (.tmp 65)⟩,
  ⟨some 67, none, .mov (.tmp 66)⟩,
  ⟨some 68, some ((some 67), false), .mov (.tmp 12)⟩,
  ⟨some 69, some ((some 67), false), .mov (.tmp 14)⟩,
  ⟨some 70, some ((some 67), false), .bin .neq (.tmp 68) (.tmp 69)⟩,
  ⟨some 71, none, .pick (.tmp 67) (.cst (.bool true)) (.tmp 70)⟩,
  ⟨some 72, none, .mov (.tmp 71)⟩,
  ⟨some 73, some ((some 72), false), .mov (.tmp 11)⟩,
  ⟨some 74, some ((some 72), false), .mov (.tmp 13)⟩,
  ⟨some 75, some ((some 72), false), .call (.cst (.fn (.func 23) [] [])) [(.tmp 73), (.tmp 74)]⟩,
  ⟨some 76, some ((some 72), false), .lnot (.tmp 75)⟩,
  ⟨some 77, none, .pick (.tmp 72) (.cst (.bool true)) (.tmp 76)⟩])
 (.cond (.tmp 77) (.seq (.ops false [
  ⟨some 4, none, .mov (.cst (.bool false))⟩])
 .ret) .skip))
 (.seq (.ops false [
  ⟨some 79, none, .load (some 6) (.tmp 2)⟩,
  ⟨some 80, none, .call (.cst (.fn (.func 27) [] [])) [(.tmp 79)]⟩,
  ⟨some 78, none, .mov (.tmp 80)⟩,
  ⟨some 81, none, .ext (.tmp 78) 0⟩,
  ⟨some 82, none, .ext (.tmp 78) 1⟩,
  ⟨some 83, none, .ext (.tmp 78) 2⟩,
  ⟨some 15, none, .mov (.tmp 81)⟩,
  ⟨some 16, none, .mov (.tmp 82)⟩,
  ⟨some 8, none, .mov (.tmp 83)⟩])
 (.seq (.ops false [
  ⟨some 85, none, .load (some 6) (.tmp 5)⟩,
  ⟨some 86, none, .call (.cst (.fn (.func 27) [] [])) [(.tmp 85)]⟩,
  ⟨some 84, none, .mov (.tmp 86)⟩,
  ⟨some 87, none, .ext (.tmp 84) 0⟩,
  ⟨some 88, none, .ext (.tmp 84) 1⟩,
  ⟨some 89, none, .ext (.tmp 84) 2⟩,
  ⟨some 17, none, .mov (.tmp 87)⟩,
  ⟨some 18, none, .mov (.tmp 88)⟩,
  ⟨some 10, none, .mov (.tmp 89)⟩])
 (.seq (.seq (.ops false [
  ⟨some 90, none, .mov (.tmp 15)⟩,
  ⟨some 91, none, .mov (.tmp 17)⟩,
  ⟨some 92, none, .bin .neq (.tmp 90) (.tmp 91)⟩,
  ⟨some 93, none, .mov (.tmp 92)⟩,
  ⟨some 94, some ((some 93), false), .mov (.tmp 16)⟩,
  ⟨some 95, some ((some 93), false), .mov (.tmp 18)⟩,
  ⟨some 96, some ((some 93), false), .bin .neq (.tmp 94) (.tmp 95)⟩,
  ⟨some 97, none, .pick (.tmp 93) (.cst (.bool true)) (.tmp 96)⟩,
  ⟨some 98, none, .mov (.tmp 97)⟩,
  ⟨some 99, some ((some 98), false), .mov (.tmp 8)⟩,
  ⟨some 100, some ((some 98), false), .mov (.tmp 10)⟩,
  ⟨some 101, some ((some 98), false), .bin .neq (.tmp 99) (.tmp 100)⟩,
  ⟨some 102, none, .pick (.tmp 98) (.cst (.bool true)) (.tmp 101)⟩])
 (.cond (.tmp 102) (.seq (.ops false [
  ⟨some 4, none, .mov (.cst (.bool false))⟩])
 .ret) .skip))
 (.seq (.ops false [
  ⟨some 104, none, .load (some 6) (.tmp 2)⟩,
  ⟨some 105, none, .call (.cst (.fn (.func 29) [] [])) [(.tmp 104)]⟩,
  ⟨some 103, none, .mov (.tmp 105)⟩,
  ⟨some 106, none, .ext (.tmp 103) 0⟩,
  ⟨some 107, none, .ext (.tmp 103) 1⟩,
  ⟨some 108, none, .ext (.tmp 103) 2⟩,
  ⟨some 15, none, .mov (.tmp 106)⟩,
  ⟨some 16, none, .mov (.tmp 107)⟩,
  ⟨some 8, none, .mov (.tmp 108)⟩])
 (.seq (.ops false [
  ⟨some 110, none, .load (some 6) (.tmp 5)⟩,
  ⟨some 111, none, .call (.cst (.fn (.func 29) [] [])) [(.tmp 110)]⟩,
  ⟨some 109, none, .mov (.tmp 111)⟩,
  ⟨some 112, none, .ext (.tmp 109) 0⟩,
  ⟨some 113, none, .ext (.tmp 109) 1⟩,
  ⟨some 114, none, .ext (.tmp 109) 2⟩,
  ⟨some 17, none, .mov (.tmp 112)⟩,
  ⟨some 18, none, .mov (.tmp 113)⟩,
  ⟨some 10, none, .mov (.tmp 114)⟩])
 (.seq (.seq (.ops false [
  ⟨some 115, none, .mov (.tmp 15)⟩,
  ⟨some 116, none, .mov (.tmp 17)⟩,
  ⟨some 117, none, .bin .neq (.tmp 115) (.tmp 116)⟩,
  ⟨some 118, none, .mov (.tmp 117)⟩,
  ⟨some 119, some ((some 118), false), .mov (.tmp 16)⟩,
  ⟨some 120, some ((some 118), false), .mov (.tmp 18)⟩,
  ⟨some 121, some ((some 118), false), .bin .neq (.tmp 119) (.tmp 120)⟩,
  ⟨some 122, none, .pick (.tmp 118) (.cst (.bool true)) (.tmp 121)⟩,
  ⟨some 123, none, .mov (.tmp 122)⟩,
  ⟨some 124, some ((some 123), false), .mov (.tmp 8)⟩,
  ⟨some 125, some ((some 123), false), .mov (.tmp 10)⟩,
  ⟨some 126, some ((some 123), false), .bin .neq (.tmp 124) (.tmp 125)⟩,
  ⟨some 127, none, .pick (.tmp 123) (.cst (.bool true)) (.tmp 126)⟩,
  ⟨some 128, none, .mov (.tmp 127)⟩,
  ⟨some 129, some ((some 128), false), .fad (.tmp 2) 5⟩,
  ⟨some 130, some ((some 128), false), .load none (.tmp 129)⟩,
  ⟨some 131, some ((some 128), false), .len (.tmp 130)⟩,
  ⟨some 132, some ((some 128), false), .bin .eql (.tmp 131) (.cst (I 0))⟩,
  ⟨some 133, none, .pick (.tmp 128) (.cst (.bool true)) (.tmp 132)⟩])
 (.cond (.tmp 133) (.seq (.ops false [
  ⟨some 134, none, .mov (.tmp 15)⟩,
  ⟨some 135, none, .mov (.tmp 17)⟩,
  ⟨some 136, none, .bin .eql (.tmp 134) (.tmp 135)⟩,
  ⟨some 137, none, .mov (.tmp 136)⟩,
  ⟨some 138, some ((some 137), true), .mov (.tmp 16)⟩,
  ⟨some 139, some ((some 137), true), .mov (.tmp 18)⟩,
  ⟨some 140, some ((some 137), true), .bin .eql (.tmp 138) (.tmp 139)⟩,
  ⟨some 141, none, .pick (.tmp 137) (.tmp 140) (.cst (.bool false))⟩,
  ⟨some 142, none, .mov (.tmp 141)⟩,
  ⟨some 143, some ((some 142), true), .mov (.tmp 8)⟩,
  ⟨some 144, some ((some 142), true), .mov (.tmp 10)⟩,
  ⟨some 145, some ((some 142), true), .bin .eql (.tmp 143) (.tmp 144)⟩,
  ⟨some 146, none, .pick (.tmp 142) (.tmp 145) (.cst (.bool false))⟩,
  ⟨some 147, none, .mov (.tmp 146)⟩,
  ⟨some 148, some ((some 147), true), .call (.cst (.fn (.func 26) [] [])) []⟩,
  ⟨some 149, none, .pick (.tmp 147) (.tmp 148) (.cst (.bool false))⟩,
  ⟨some 4, none, .mov (.tmp 149)⟩])
 .ret) .skip))
 (.seq (.ops true [
  ⟨some 151, none, .load (some 6) (.tmp 2)⟩,
  ⟨some 152, none, .mov (.tmp 1)⟩,
  ⟨some 153, none, .fad (.tmp 2) 5⟩,
  ⟨some 154, none, .load none (.tmp 153)⟩,
  ⟨some 155, none, .len (.tmp 154)⟩,
  ⟨some 156, none, .call (.cst (.fn (.func 43) [] [])) [(.tmp 152), (.tmp 155)]⟩,
  ⟨some 157, none, .call (.cst (.fn (.func 35) [] [])) [(.tmp 151), (.tmp 156)]⟩,
  ⟨some 150, none, .mov (.tmp 157)⟩,
  ⟨some 158, none, .ext (.tmp 150) 0⟩,
  ⟨some 159, none, .ext (.tmp 150) 1⟩,
  ⟨some 19, none, .mov (.tmp 158)⟩,
  ⟨some 8, none, .mov (.tmp 159)⟩])
 (.seq (.ops true [
  ⟨some 161, none, .load (some 6) (.tmp 5)⟩,
  ⟨some 162, none, .mov (.tmp 1)⟩,
  ⟨some 163, none, .fad (.tmp 2) 5⟩,
  ⟨some 164, none, .load none (.tmp 163)⟩,
  ⟨some 165, none, .len (.tmp 164)⟩,
  ⟨some 166, none, .call (.cst (.fn (.func 43) [] [])) [(.tmp 162), (.tmp 165)]⟩,
  ⟨some 167, none, .call (.cst (.fn (.func 35) [] [])) [(.tmp 161), (.tmp 166)]⟩,
  ⟨some 160, none, .mov (.tmp 167)⟩,
  ⟨some 168, none, .ext (.tmp 160) 0⟩,
  ⟨some 169, none, .ext (.tmp 160) 1⟩,
  ⟨some 20, none, .mov (.tmp 168)⟩,
  ⟨some 10, none, .mov (.tmp 169)⟩])
 (.seq (.ops false [
  ⟨some 170, none, .mov (.tmp 19)⟩,
  ⟨some 171, none, .mov (.tmp 20)⟩,
  ⟨some 172, none, .bin .eql (.tmp 170) (.tmp 171)⟩,
  ⟨some 173, none, .mov (.tmp 172)⟩,
  ⟨some 174, some ((some 173), true), .mov (.tmp 8)⟩,
  ⟨some 175, some ((some 173), true), .mov (.tmp 10)⟩,
  ⟨some 176, some ((some 173), true), .bin .eql (.tmp 174) (.tmp 175)⟩,
  ⟨some 177, none, .pick (.tmp 173) (.tmp 176) (.cst (.bool false))⟩,
  ⟨some 178, none, .mov (.tmp 177)⟩,
  ⟨some 179, some ((some 178), true), .call (.cst (.fn (.func 26) [] [])) []⟩,
  ⟨some 180, none, .pick (.tmp 178) (.tmp 179) (.cst (.bool false))⟩,
  ⟨some 4, none, .mov (.tmp 180)⟩])
 .ret))))))))))))))))))⟩
theorem comp10 : compF Cv 10 = some code10 := by kernel_rfl

def code11 : MF := ⟨202, [(4, none)], (.seq (.ops false [
  ⟨some 2, none, .box (.tmp 0)⟩,
  ⟨some 3, none, .box (.tmp 1)⟩,
  ⟨some 4, none, .mov (.cst (.bool false))⟩])
 (.seq (.ops false [
  ⟨some 21, none, .load (some 6) (.tmp 2)⟩,
  ⟨some 22, none, .call (.cst (.fn (.func 29) [] [])) [(.tmp 21)]⟩,
  ⟨some 20, none, .mov (.tmp 22)⟩,
  ⟨some 23, none, .ext (.tmp 20) 0⟩,
  ⟨some 24, none, .ext (.tmp 20) 1⟩,
  ⟨some 25, none, .ext (.tmp 20) 2⟩,
  ⟨some 5, none, .mov (.tmp 23)⟩,
  ⟨some 6, none, .mov (.tmp 24)⟩,
  ⟨some 7, none, .mov (.tmp 25)⟩])
 (.seq (.ops false [
  ⟨some 27, none, .load (some 6) (.tmp 2)⟩,
  ⟨some 28, none, .call (.cst (.fn (.func 27) [] [])) [(.tmp 27)]⟩,
  ⟨some 26, none, .mov (.tmp 28)⟩,
  ⟨some 29, none, .ext (.tmp 26) 0⟩,
  ⟨some 30, none, .ext (.tmp 26) 1⟩,
  ⟨some 31, none, .ext (.tmp 26) 2⟩,
  ⟨some 8, none, .mov (.tmp 29)⟩,
  ⟨some 9, none, .mov (.tmp 30)⟩,
  ⟨some 10, none, .mov (.tmp 31)⟩])
 (.seq (.seq (.ops false [
  ⟨some 32, none, .load (some 6) (.tmp 2)⟩,
  ⟨some 33, none, .call (.cst (.fn (.func 37) [] [])) [(.tmp 32)]⟩,
  ⟨some 34, none, .lnot (.tmp 33)⟩,
  ⟨some 35, none, .mov (.tmp 34)⟩,
  ⟨some 36, some ((some 35), false), .fad (.tmp 2) 5⟩,
  ⟨some 37, some ((some 35), false), .load none (.tmp 36)⟩,
  ⟨some 38, some ((some 35), false), .len (.tmp 37)⟩,
  ⟨some 39, some ((some 35), false), .bin .eql (.tmp 38) (.cst (I 4))⟩,
  ⟨some 40, none, .pick (.tmp 35) (.cst (.bool true)) (.tmp 39)⟩])
 (.cond (.tmp 40) (.seq (.ops false [
  ⟨some 41, none, .mov (.tmp 7)⟩,
  ⟨some 42, none, .mov (.tmp 10)⟩,
  ⟨some 43, none, .bin .eql (.tmp 41) (.tmp 42)⟩,
  ⟨some 44, none, .mov (.tmp 43)⟩,
  ⟨some 45, some ((some 44), true), .call (.cst (.fn (.func 26) [] [])) []⟩,
  ⟨some 46, none, .pick (.tmp 44) (.tmp 45) (.cst (.bool false))⟩,
  ⟨some 4, none, .mov (.tmp 46)⟩])
 .ret) .skip))
 (.seq (.ops false [
  ⟨some 48, none, .load (some 6) (.tmp 2)⟩,
  ⟨some 49, none, .call (.cst (.fn (.func 19) [] [])) [(.tmp 48)]⟩,
  ⟨some 47, none, .mov (.tmp 49)⟩,
  ⟨some 50, none, .ext (.tmp 47) 0⟩,
  ⟨some 51, none, .ext (.tmp 47) 1⟩,
  ⟨some 11, none, .mov (.tmp 50)⟩,
  ⟨some 12, none, .mov (.tmp 51)⟩])
 (.seq (.seq (.ops false [
  ⟨some 52, none, .mov (.tmp 12)⟩,
  ⟨some 53, none, .bin .neq (.tmp 52) (.cst (I 0))⟩,
  ⟨some 54, none, .mov (.tmp 53)⟩,
  ⟨some 55, some ((some 54), false), .mov (.tmp 7)⟩,
  ⟨some 56, some ((some 54), false), .mov (.tmp 10)⟩,
  ⟨some 57, some ((some 54), false), .bin .neq (.tmp 55) (.tmp 56)⟩,
  ⟨some 58, none, .pick (.tmp 54) (.cst (.bool true)) (.tmp 57)⟩,
  ⟨some 59, none, .mov (.tmp 58)⟩,
  ⟨some 60, some ((some 59), false), .mov (.tmp 7)⟩,
  ⟨some 61, some ((some 59), false), .bin .eql (.tmp 60) (.cst (I 52))⟩,
  ⟨some 62, some ((some 59), false), .mov (.tmp 11)⟩,
  ⟨some 63, some ((some 59), false), .bin .eql (.tmp 62) (.cst (I 0))⟩,
  ⟨some 64, some ((some 59), false), .beq true (.tmp 61) (.tmp 63)⟩,
  ⟨some 65, none, .pick (.tmp 59) (.cst (.bool true)) (.tmp 64)⟩,
  ⟨some 66, none, .mov (.tmp 65)⟩,
  ⟨some 67, some ((some 66), false), .mov (.tmp 7)⟩,
  ⟨some 68, some ((some 66), false), .bin .eql (.tmp 67) (.cst (I 4))⟩,
  ⟨some 69, some ((some 66), false), .mov (.tmp 11)⟩,
  ⟨some 70, some ((some 66), false), .bin .eql (.tmp 69) (.cst (I 1))⟩,
  ⟨some 71, some ((some 66), false), .beq true (.tmp 68) (.tmp 70)⟩,
  ⟨some 72, none, .pick (.tmp 66) (.cst (.bool true)) (.tmp 71)⟩])
 (.cond (.tmp 72) (.seq (.ops false [
  ⟨some 4, none, .mov (.cst (.bool false))⟩])
 .ret) .skip))
 (.seq (.seq (.ops false [
  ⟨some 73, none, .mov (.tmp 7)⟩,
  ⟨some 74, none, .bin .neq (.tmp 73) (.cst (I 0))⟩])
 (.cond (.tmp 74) (.seq (.ops false [
  ⟨some 75, none, .mov (.tmp 5)⟩,
  ⟨some 76, none, .mov (.tmp 6)⟩,
  ⟨some 77, none, .bin .add (.tmp 75) (.tmp 76)⟩,
  ⟨some 78, none, .mov (.tmp 8)⟩,
  ⟨some 79, none, .bin .add (.tmp 77) (.tmp 78)⟩,
  ⟨some 80, none, .mov (.tmp 9)⟩,
  ⟨some 81, none, .bin .add (.tmp 79) (.tmp 80)⟩,
  ⟨some 82, none, .bin .eql (.tmp 81) (.cst (I 0))⟩,
  ⟨some 83, none, .mov (.tmp 82)⟩,
  ⟨some 84, some ((some 83), true), .call (.cst (.fn (.func 26) [] [])) []⟩,
  ⟨some 85, none, .pick (.tmp 83) (.tmp 84) (.cst (.bool false))⟩,
  ⟨some 4, none, .mov (.tmp 85)⟩])
 .ret) .skip))
 (.seq (.seq (.ops false [
  ⟨some 86, none, .mov (.tmp 5)⟩,
  ⟨some 87, none, .fad (.tmp 2) 1⟩,
  ⟨some 88, none, .load none (.tmp 87)⟩,
  ⟨some 89, none, .len (.tmp 88)⟩,
  ⟨some 90, none, .bin .sub (.tmp 89) (.cst (I 1))⟩,
  ⟨some 91, none, .call (.cst (.fn (.func 49) [] [])) [(.tmp 86), (.cst (I 0)), (.tmp 90)]⟩,
  ⟨some 92, none, .lnot (.tmp 91)⟩,
  ⟨some 93, none, .mov (.tmp 92)⟩,
  ⟨some 94, some ((some 93), false), .mov (.tmp 6)⟩,
  ⟨some 95, some ((some 93), false), .fad (.tmp 2) 0⟩,
  ⟨some 96, some ((some 93), false), .load none (.tmp 95)⟩,
  ⟨some 97, some ((some 93), false), .bin .sub (.tmp 96) (.cst (I 1))⟩,
  ⟨some 98, some ((some 93), false), .call (.cst (.fn (.func 49) [] [])) [(.tmp 94), (.cst (I 0)), (.tmp 97)]⟩,
  ⟨some 99, some ((some 93), false), .lnot (.tmp 98)⟩,
  ⟨some 100, none, .pick (.tmp 93) (.cst (.bool true)) (.tmp 99)⟩,
  ⟨some 101, none, .mov (.tmp 100)⟩,
  ⟨some 102, some ((some 101), false), .mov (.tmp 8)⟩,
  ⟨some 103, some ((some 101), false), .fad (.tmp 2) 1⟩,
  ⟨some 104, some ((some 101), false), .load none (.tmp 103)⟩,
  ⟨some 105, some ((some 101), false), .len (.tmp 104)⟩,
  ⟨some 106, some ((some 101), false), .bin .sub (.tmp 105) (.cst (I 1))⟩,
  ⟨some 107, some ((some 101), false), .call (.cst (.fn (.func 49) [] [])) [(.tmp 102), (.cst (I 0)), (.tmp 106)]⟩,
  ⟨some 108, some ((some 101), false), .lnot (.tmp 107)⟩,
  ⟨some 109, none, .pick (.tmp 101) (.cst (.bool true)) (.tmp 108)⟩,
  ⟨some 110, none, .mov (.tmp 109)⟩,
  ⟨some 111, some ((some 110), false), .mov (.tmp 9)⟩,
  ⟨some 112, some ((some 110), false), .fad (.tmp 2) 0⟩,
  ⟨some 113, some ((some 110), false), .load none (.tmp 112)⟩,
  ⟨some 114, some ((some 110), false), .bin .sub (.tmp 113) (.cst (I 1))⟩,
  ⟨some 115, some ((some 110), false), .call (.cst (.fn (.func 49) [] [])) [(.tmp 111), (.cst (I 0)), (.tmp 114)]⟩,
  ⟨some 116, some ((some 110), false), .lnot (.tmp 115)⟩,
  ⟨some 117, none, .pick (.tmp 110) (.cst (.bool true)) (.tmp 116)⟩])
 (.cond (.tmp 117) (.seq (.ops false [
  ⟨some 4, none, .mov (.cst (.bool false))⟩])
 .ret) .skip))
 (.seq (.ops true [
  ⟨some 118, none, .ixa 2 1 (.tmp 3) (.cst (I 0))⟩,
  ⟨some 119, none, .load none (.tmp 118)⟩,
  ⟨some 120, none, .fad (.tmp 2) 1⟩,
  ⟨some 121, none, .load none (.tmp 120)⟩,
  ⟨some 122, none, .len (.tmp 121)⟩,
  ⟨some 123, none, .call (.cst (.fn (.func 43) [] [])) [(.tmp 119), (.tmp 122)]⟩,
  ⟨some 124, none, .ixa 2 1 (.tmp 3) (.cst (I 1))⟩,
  ⟨some 125, none, .load none (.tmp 124)⟩,
  ⟨some 126, none, .fad (.tmp 2) 0⟩,
  ⟨some 127, none, .load none (.tmp 126)⟩,
  ⟨some 128, none, .call (.cst (.fn (.func 43) [] [])) [(.tmp 125), (.tmp 127)]⟩,
  ⟨some 13, none, .mov (.tmp 123)⟩,
  ⟨some 14, none, .mov (.tmp 128)⟩])
 (.seq (.ops false [
  ⟨some 130, none, .load (some 6) (.tmp 2)⟩,
  ⟨some 131, none, .mov (.tmp 8)⟩,
  ⟨some 132, none, .mov (.tmp 9)⟩,
  ⟨some 133, none, .call (.cst (.fn (.func 21) [] [])) [(.tmp 130), (.tmp 131), (.tmp 132)]⟩,
  ⟨some 129, none, .mov (.tmp 133)⟩,
  ⟨some 134, none, .ext (.tmp 129) 0⟩,
  ⟨some 135, none, .ext (.tmp 129) 1⟩,
  ⟨some 15, none, .mov (.tmp 134)⟩,
  ⟨some 12, none, .mov (.tmp 135)⟩])
 (.seq (.ops false [
  ⟨some 137, none, .load (some 6) (.tmp 2)⟩,
  ⟨some 138, none, .mov (.tmp 13)⟩,
  ⟨some 139, none, .mov (.tmp 14)⟩,
  ⟨some 140, none, .call (.cst (.fn (.func 21) [] [])) [(.tmp 137), (.tmp 138), (.tmp 139)]⟩,
  ⟨some 136, none, .mov (.tmp 140)⟩,
  ⟨some 141, none, .ext (.tmp 136) 0⟩,
  ⟨some 142, none, .ext (.tmp 136) 1⟩,
  ⟨some 16, none, .mov (.tmp 141)⟩,
  ⟨some 17, none, .mov (.tmp 142)⟩])
 (.seq (.seq (.ops false [
  ⟨some 143, none, .mov (.tmp 12)⟩,
  ⟨some 144, none, .bin .neq (.tmp 143) (.cst (I 0))⟩,
  ⟨some 145, none, .mov (.tmp 144)⟩,
  ⟨some 146, some ((some 145), false), .mov (.tmp 17)⟩,
  ⟨some 147, some ((some 145), false), .bin .neq (.tmp 146) (.cst (I 0))⟩,
  ⟨some 148, none, .pick (.tmp 145) (.cst (.bool true)) (.tmp 147)⟩,
  ⟨some 149, none, .mov (.tmp 148)⟩,
  ⟨some 150, some ((some 149), false), .mov (.tmp 15)⟩,
  ⟨some 151, some ((some 149), false), .len (.tmp 150)⟩,
  ⟨some 152, some ((some 149), false), .bin .lss (.tmp 151) (.cst (I 2))⟩,
  ⟨some 153, none, .pick (.tmp 149) (.cst (.bool true)) (.tmp 152)⟩,
  ⟨some 154, none, .mov (.tmp 153)⟩,
  ⟨some 155, some ((some 154), false), .mov (.tmp 13)⟩,
  ⟨some 156, some ((some 154), false), .mov (.tmp 14)⟩,
  ⟨some 157, some ((some 154), false), .bsl 1 false (I 0) 2 [(0, (.tmp 155)), (1, (.tmp 156))]⟩,
  ⟨some 158, some ((some 154), false), .mov (.tmp 8)⟩,
  ⟨some 159, some ((some 154), false), .mov (.tmp 9)⟩,
  ⟨some 160, some ((some 154), false), .bsl 1 false (I 0) 2 [(0, (.tmp 158)), (1, (.tmp 159))]⟩,
  ⟨some 161, some ((some 154), false), .call (.cst (.fn (.func 50) [] [])) [(.tmp 157), (.tmp 160)]⟩,
  ⟨some 162, some ((some 154), false), .mov (.tmp 161)⟩,
  ⟨some 163, some ((some 162), true), .mov (.tmp 16)⟩,
  ⟨some 164, some ((some 162), true), .len (.tmp 163)⟩,
  ⟨some 165, some ((some 162), true), .bin .neq (.tmp 164) (.cst (I 1))⟩,
  ⟨some 166, some ((some 154), false), .pick (.tmp 162) (.tmp 165) (.cst (.bool false))⟩,
  ⟨some 167, none, .pick (.tmp 154) (.cst (.bool true)) (.tmp 166)⟩])
 (.cond (.tmp 167) (.seq (.ops false [
  ⟨some 4, none, .mov (.cst (.bool false))⟩])
 .ret) .skip))
 (.seq (.ops true [
  ⟨some 168, none, .load (some 6) (.tmp 2)⟩,
  ⟨some 169, none, .mov (.tmp 5)⟩,
  ⟨some 170, none, .mov (.tmp 6)⟩,
  ⟨some 171, none, .call (.cst (.fn (.func 51) [] [])) [(.tmp 168), (.tmp 169), (.tmp 170)]⟩,
  ⟨some 172, none, .load (some 6) (.tmp 2)⟩,
  ⟨some 173, none, .mov (.tmp 13)⟩,
  ⟨some 174, none, .mov (.tmp 14)⟩,
  ⟨some 175, none, .call (.cst (.fn (.func 51) [] [])) [(.tmp 172), (.tmp 173), (.tmp 174)]⟩,
  ⟨some 18, none, .mov (.tmp 171)⟩,
  ⟨some 19, none, .mov (.tmp 175)⟩])
 (.seq (.ops false [
  ⟨some 176, none, .mov (.tmp 18)⟩,
  ⟨some 177, none, .mov (.tmp 11)⟩,
  ⟨some 178, none, .bin .lss (.tmp 176) (.tmp 177)⟩,
  ⟨some 179, none, .mov (.tmp 178)⟩,
  ⟨some 180, some ((some 179), true), .mov (.tmp 18)⟩,
  ⟨some 181, some ((some 179), true), .mov (.tmp 19)⟩,
  ⟨some 182, some ((some 179), true), .bin .lss (.tmp 180) (.tmp 181)⟩,
  ⟨some 183, some ((some 179), true), .mov (.tmp 182)⟩,
  ⟨some 184, some ((some 183), false), .mov (.tmp 18)⟩,
  ⟨some 185, some ((some 183), false), .mov (.tmp 19)⟩,
  ⟨some 186, some ((some 183), false), .bin .eql (.tmp 184) (.tmp 185)⟩,
  ⟨some 187, some ((some 183), false), .mov (.tmp 186)⟩,
  ⟨some 188, some ((some 187), true), .mov (.tmp 13)⟩,
  ⟨some 189, some ((some 187), true), .mov (.tmp 14)⟩,
  ⟨some 190, some ((some 187), true), .bsl 1 false (I 0) 2 [(0, (.tmp 188)), (1, (.tmp 189))]⟩,
  ⟨some 191, some ((some 187), true), .mov (.tmp 5)⟩,
  ⟨some 192, some ((some 187), true), .mov (.tmp 6)⟩,
  ⟨some 193, some ((some 187), true), .bsl 1 false (I 0) 2 [(0, (.tmp 191)), (1, (.tmp 192))]⟩,
  ⟨some 194, some ((some 187), true), .call (.cst (.fn (.func 50) [] [])) [(.tmp 190), (.tmp 193)]⟩,
  ⟨some 195, some ((some 187), true), .lnot (.tmp 194)⟩,
  ⟨some 196, some ((some 183), false), .pick (.tmp 187) (.tmp 195) (.cst (.bool false))⟩,
  ⟨some 197, some ((some 179), true), .pick (.tmp 183) (.cst (.bool true)) (.tmp 196)⟩,
  ⟨some 198, none, .pick (.tmp 179) (.tmp 197) (.cst (.bool false))⟩,
  ⟨some 199, none, .mov (.tmp 198)⟩,
  ⟨some 200, some ((some 199), true), .call (.cst (.fn (.func 26) [] [])) []⟩,
  ⟨some 201, none, .pick (.tmp 199) (.tmp 200) (.cst (.bool false))⟩,
  ⟨some 4, none, .mov (.tmp 201)⟩])
 .ret))))))))))))))⟩
theorem comp11 : compF Cv 11 = some code11 := by kernel_rfl

def code12 : MF := ⟨119, [(4, none)], (.seq (.ops false [
  ⟨some 2, none, .box (.tmp 0)⟩,
  ⟨some 4, none, .mov (.cst (.bool false))⟩])
 (.seq (.ops false [
  ⟨some 15, none, .load (some 6) (.tmp 2)⟩,
  ⟨some 16, none, .call (.cst (.fn (.func 33) [] [])) [(.tmp 15)]⟩,
  ⟨some 14, none, .mov (.tmp 16)⟩,
  ⟨some 17, none, .ext (.tmp 14) 0⟩,
  ⟨some 18, none, .ext (.tmp 14) 1⟩,
  ⟨some 5, none, .mov (.tmp 17)⟩,
  ⟨some 6, none, .mov (.tmp 18)⟩])
 (.seq (.seq (.ops false [
  ⟨some 19, none, .load (some 6) (.tmp 2)⟩,
  ⟨some 20, none, .call (.cst (.fn (.func 37) [] [])) [(.tmp 19)]⟩,
  ⟨some 21, none, .lnot (.tmp 20)⟩])
 (.cond (.tmp 21) (.seq (.ops false [
  ⟨some 22, none, .mov (.tmp 6)⟩,
  ⟨some 23, none, .bin .eql (.tmp 22) (.cst (I 50))⟩,
  ⟨some 24, none, .mov (.tmp 23)⟩,
  ⟨some 25, some ((some 24), true), .mov (.tmp 5)⟩,
  ⟨some 26, some ((some 24), true), .len (.tmp 25)⟩,
  ⟨some 27, some ((some 24), true), .bin .eql (.tmp 26) (.cst (I 0))⟩,
  ⟨some 28, none, .pick (.tmp 24) (.tmp 27) (.cst (.bool false))⟩,
  ⟨some 29, none, .mov (.tmp 28)⟩,
  ⟨some 30, some ((some 29), true), .call (.cst (.fn (.func 26) [] [])) []⟩,
  ⟨some 31, none, .pick (.tmp 29) (.tmp 30) (.cst (.bool false))⟩,
  ⟨some 4, none, .mov (.tmp 31)⟩])
 .ret) .skip))
 (.seq (.ops false [
  ⟨some 33, none, .load (some 6) (.tmp 2)⟩,
  ⟨some 34, none, .call (.cst (.fn (.func 15) [] [])) [(.tmp 33)]⟩,
  ⟨some 32, none, .mov (.tmp 34)⟩,
  ⟨some 35, none, .ext (.tmp 32) 0⟩,
  ⟨some 36, none, .ext (.tmp 32) 1⟩,
  ⟨some 7, none, .mov (.tmp 35)⟩,
  ⟨some 8, none, .mov (.tmp 36)⟩])
 (.seq (.ops true [
  ⟨some 37, none, .mov (.tmp 1)⟩,
  ⟨some 38, none, .fad (.tmp 2) 5⟩,
  ⟨some 39, none, .load none (.tmp 38)⟩,
  ⟨some 40, none, .len (.tmp 39)⟩,
  ⟨some 41, none, .bin .shl (.cst (I 1)) (.tmp 40)⟩,
  ⟨some 42, none, .call (.cst (.fn (.func 43) [] [])) [(.tmp 37), (.tmp 41)]⟩,
  ⟨some 43, none, .fad (.tmp 2) 5⟩,
  ⟨some 44, none, .load none (.tmp 43)⟩,
  ⟨some 45, none, .len (.tmp 44)⟩,
  ⟨some 46, none, .call (.cst (.fn (.func 52) [] [])) [(.tmp 42), (.tmp 45)]⟩,
  ⟨some 9, none, .mov (.tmp 46)⟩])
 (.seq (.ops false [
  ⟨some 48, none, .load (some 6) (.tmp 2)⟩,
  ⟨some 49, none, .mov (.tmp 9)⟩,
  ⟨some 50, none, .call (.cst (.fn (.func 53) [] [])) [(.tmp 48), (.tmp 49)]⟩,
  ⟨some 51, none, .call (.cst (.fn (.func 15) [] [])) [(.tmp 50)]⟩,
  ⟨some 47, none, .mov (.tmp 51)⟩,
  ⟨some 52, none, .ext (.tmp 47) 0⟩,
  ⟨some 53, none, .ext (.tmp 47) 1⟩,
  ⟨some 10, none, .mov (.tmp 52)⟩,
  ⟨some 11, none, .mov (.tmp 53)⟩])
 (.seq (.seq (.ops false [
  ⟨some 54, none, .mov (.tmp 8)⟩,
  ⟨some 55, none, .bin .neq (.tmp 54) (.cst (I 0))⟩,
  ⟨some 56, none, .mov (.tmp 55)⟩,
  ⟨some 57, some ((some 56), false), .mov (.tmp 11)⟩,
  ⟨some 58, some ((some 56), false), .bin .neq (.tmp 57) (.cst (I 0))⟩,
  ⟨some 59, none, .pick (.tmp 56) (.cst (.bool true)) (.tmp 58)⟩])
 (.cond (.tmp 59) (.seq (.ops false [
  ⟨some 4, none, .mov (.cst (.bool false))⟩])
 .ret) .skip))
 (.seq (.seq (.ops false [
  ⟨some 60, none, .mov (.tmp 6)⟩,
  ⟨some 61, none, .bin .neq (.tmp 60) (.cst (I 0))⟩])
 (.cond (.tmp 61) (.seq (.ops false [
  ⟨some 62, none, .mov (.tmp 6)⟩,
  ⟨some 63, none, .bin .eql (.tmp 62) (.cst (I 52))⟩,
  ⟨some 64, none, .mov (.tmp 63)⟩,
  ⟨some 65, some ((some 64), true), .mov (.tmp 5)⟩,
  ⟨some 66, some ((some 64), true), .len (.tmp 65)⟩,
  ⟨some 67, some ((some 64), true), .bin .eql (.tmp 66) (.cst (I 0))⟩,
  ⟨some 68, none, .pick (.tmp 64) (.tmp 67) (.cst (.bool false))⟩,
  ⟨some 69, none, .mov (.tmp 68)⟩,
  ⟨some 70, some ((some 69), true), .mov (.tmp 7)⟩,
  ⟨some 71, some ((some 69), true), .lnot (.tmp 70)⟩,
  ⟨some 72, none, .pick (.tmp 69) (.tmp 71) (.cst (.bool false))⟩,
  ⟨some 73, none, .mov (.tmp 72)⟩,
  ⟨some 74, some ((some 73), true), .mov (.tmp 10)⟩,
  ⟨some 75, some ((some 73), true), .lnot (.tmp 74)⟩,
  ⟨some 76, none, .pick (.tmp 73) (.tmp 75) (.cst (.bool false))⟩,
  ⟨some 77, none, .mov (.tmp 76)⟩,
  ⟨some 78, some ((some 77), true), .call (.cst (.fn (.func 26) [] [])) []⟩,
  ⟨some 79, none, .pick (.tmp 77) (.tmp 78) (.cst (.bool false))⟩,
  ⟨some 4, none, .mov (.tmp 79)⟩])
 .ret) .skip))
 (.seq (.ops false [
  ⟨some 81, none, .load (some 6) (.tmp 2)⟩,
  ⟨some 82, none, .mov (.tmp 5)⟩,
  ⟨some 83, none, .call (.cst (.fn (.func 53) [] [])) [(.tmp 81), (.tmp 82)]⟩,
  ⟨some 84, none, .call (.cst (.fn (.func 15) [] [])) [(.tmp 83)]⟩,
  ⟨some 80, none, .mov (.tmp 84)⟩,
  ⟨some 85, none, .ext (.tmp 80) 0⟩,
  ⟨some 86, none, .ext (.tmp 80) 1⟩,
  ⟨some 12, none, .mov (.tmp 85)⟩,
  ⟨some 13, none, .mov (.tmp 86)⟩])
 (.seq (.ops false [
  ⟨some 87, none, .mov (.tmp 13)⟩,
  ⟨some 88, none, .bin .eql (.tmp 87) (.cst (I 0))⟩,
  ⟨some 89, none, .mov (.tmp 88)⟩,
  ⟨some 90, some ((some 89), true), .mov (.tmp 12)⟩,
  ⟨some 91, none, .pick (.tmp 89) (.tmp 90) (.cst (.bool false))⟩,
  ⟨some 92, none, .mov (.tmp 91)⟩,
  ⟨some 93, some ((some 92), true), .mov (.tmp 5)⟩,
  ⟨some 94, some ((some 92), true), .fad (.tmp 2) 5⟩,
  ⟨some 95, some ((some 92), true), .load none (.tmp 94)⟩,
  ⟨some 96, some ((some 92), true), .len (.tmp 95)⟩,
  ⟨some 97, some ((some 92), true), .call (.cst (.fn (.func 41) [] [])) [(.tmp 93), (.tmp 96)]⟩,
  ⟨some 98, none, .pick (.tmp 92) (.tmp 97) (.cst (.bool false))⟩,
  ⟨some 99, none, .mov (.tmp 98)⟩,
  ⟨some 100, some ((some 99), true), .mov (.tmp 5)⟩,
  ⟨some 101, some ((some 99), true), .len (.tmp 100)⟩,
  ⟨some 102, some ((some 99), true), .bin .eql (.tmp 101) (.cst (I 0))⟩,
  ⟨some 103, some ((some 99), true), .mov (.tmp 7)⟩,
  ⟨some 104, some ((some 99), true), .beq false (.tmp 102) (.tmp 103)⟩,
  ⟨some 105, none, .pick (.tmp 99) (.tmp 104) (.cst (.bool false))⟩,
  ⟨some 106, none, .mov (.tmp 105)⟩,
  ⟨some 107, some ((some 106), true), .mov (.tmp 9)⟩,
  ⟨some 108, some ((some 106), true), .mov (.tmp 5)⟩,
  ⟨some 109, some ((some 106), true), .call (.cst (.fn (.func 54) [] [])) [(.tmp 107), (.tmp 108)]⟩,
  ⟨some 110, some ((some 106), true), .lnot (.tmp 109)⟩,
  ⟨some 111, some ((some 106), true), .mov (.tmp 110)⟩,
  ⟨some 112, some ((some 111), false), .mov (.tmp 10)⟩,
  ⟨some 113, some ((some 111), false), .lnot (.tmp 112)⟩,
  ⟨some 114, some ((some 106), true), .pick (.tmp 111) (.cst (.bool true)) (.tmp 113)⟩,
  ⟨some 115, none, .pick (.tmp 106) (.tmp 114) (.cst (.bool false))⟩,
  ⟨some 116, none, .mov (.tmp 115)⟩,
  ⟨some 117, some ((some 116), true), .call (.cst (.fn (.func 26) [] [])) []⟩,
  ⟨some 118, none, .pick (.tmp 116) (.tmp 117) (.cst (.bool false))⟩,
  ⟨some 4, none, .mov (.tmp 118)⟩])
 .ret))))))))))⟩
theorem comp12 : compF Cv 12 = some code12 := by kernel_rfl

def body13_0 : MC := (.seq (.seq (.ops false [
  ⟨some 91, none, .mov (.tmp 13)⟩,
  ⟨some 92, none, .mov (.tmp 12)⟩,
  ⟨some 93, none, .bin .lss (.tmp 91) (.tmp 92)⟩])
 (.cond (.tmp 93) .skip (.exit 0)))
 (.seq (.block 1 (.seq (.ops false [
  ⟨some 97, none, .load (some 6) (.tmp 11)⟩,
  ⟨some 98, none, .fad (.tmp 6) 0⟩,
  ⟨some 99, none, .load none (.tmp 98)⟩,
  ⟨some 100, none, .mov (.tmp 13)⟩,
  ⟨some 101, none, .call (.cst (.fn (.func 21) [] [])) [(.tmp 97), (.tmp 99), (.tmp 100)]⟩,
  ⟨some 96, none, .mov (.tmp 101)⟩,
  ⟨some 102, none, .ext (.tmp 96) 0⟩,
  ⟨some 103, none, .ext (.tmp 96) 1⟩,
  ⟨some 14, none, .mov (.tmp 102)⟩,
  ⟨some 15, none, .mov (.tmp 103)⟩])
 (.seq (.ops false [
  ⟨some 104, none, .mov (.tmp 15)⟩,
  ⟨some 105, none, .bin .neq (.tmp 104) (.cst (I 0))⟩,
  ⟨some 106, none, .mov (.tmp 105)⟩,
  ⟨some 107, some ((some 106), false), .mov (.tmp 14)⟩,
  ⟨some 108, some ((some 106), false), .fad (.tmp 6) 1⟩,
  ⟨some 109, some ((some 106), false), .load none (.tmp 108)⟩,
  ⟨some 110, some ((some 106), false), .mov (.tmp 13)⟩,
  ⟨some 111, some ((some 106), false), .ixs 1 (.tmp 109) (.tmp 110)⟩,
  ⟨some 112, some ((some 106), false), .load none (.tmp 111)⟩,
  ⟨some 113, some ((some 106), false), .call (.cst (.fn (.func 42) [] [])) [(.tmp 107), (.tmp 112)]⟩,
  ⟨some 114, some ((some 106), false), .bin .lss (.tmp 113) (.cst (I 0))⟩,
  ⟨some 115, none, .pick (.tmp 106) (.cst (.bool true)) (.tmp 114)⟩])
 (.cond (.tmp 115) (.seq (.ops false [
  ⟨some 4, none, .mov (.cst (.bool false))⟩])
 .ret) .skip))))
 (.ops false [
  ⟨some 94, none, .mov (.tmp 13)⟩,
  ⟨some 95, none, .bin .add (.tmp 94) (.cst (I 1))⟩,
  ⟨some 13, none, .mov (.tmp 95)⟩])))
def keep13_0 : Option (List Nat) := some [6, 7, 8, 11, 12, 13]
def code13 : MF := ⟨142, [(4, none)], (.seq (.ops false [
  ⟨some 2, none, .box (.tmp 0)⟩,
  ⟨some 4, none, .mov (.cst (.bool false))⟩])
 (.seq (.seq (.ops false [
  ⟨some 18, none, .load (some 6) (.tmp 2)⟩,
  ⟨some 19, none, .call (.cst (.fn (.func 37) [] [])) [(.tmp 18)]⟩,
  ⟨some 20, none, .lnot (.tmp 19)⟩,
  ⟨some 21, none, .mov (.tmp 20)⟩,
  ⟨some 22, some ((some 21), false), .fad (.tmp 2) 5⟩,
  ⟨some 23, some ((some 21), false), .load none (.tmp 22)⟩,
  ⟨some 24, some ((some 21), false), .len (.tmp 23)⟩,
  ⟨some 25, some ((some 21), false), .bin .eql (.tmp 24) (.cst (I 0))⟩,
  ⟨some 26, none, .pick (.tmp 21) (.cst (.bool true)) (.tmp 25)⟩])
 (.cond (.tmp 26) (.seq (.ops false [
  ⟨some 27, none, .call (.cst (.fn (.func 26) [] [])) []⟩,
  ⟨some 4, none, .mov (.tmp 27)⟩])
 .ret) .skip))
 (.seq (.ops false [
  ⟨some 28, none, .mov (.tmp 1)⟩,
  ⟨some 29, none, .fad (.tmp 2) 5⟩,
  ⟨some 30, none, .load none (.tmp 29)⟩,
  ⟨some 31, none, .len (.tmp 30)⟩,
  ⟨some 32, none, .call (.cst (.fn (.func 43) [] [])) [(.tmp 28), (.tmp 31)]⟩,
  ⟨some 5, none, .mov (.tmp 32)⟩])
 (.seq (.ops false [
  ⟨some 33, none, .fad (.tmp 2) 5⟩,
  ⟨some 34, none, .load none (.tmp 33)⟩,
  ⟨some 35, none, .mov (.tmp 5)⟩,
  ⟨some 36, none, .ixs 2 (.tmp 34) (.tmp 35)⟩,
  ⟨some 37, none, .load (some 2) (.tmp 36)⟩,
  ⟨some 6, none, .alloc [(I 0), .nils]⟩,
  ⟨none, none, .store 2 (.tmp 6) (.tmp 37)⟩])
 (.seq (.ops false [
  ⟨some 39, none, .load (some 6) (.tmp 2)⟩,
  ⟨some 40, none, .mov (.tmp 5)⟩,
  ⟨some 41, none, .call (.cst (.fn (.func 35) [] [])) [(.tmp 39), (.tmp 40)]⟩,
  ⟨some 38, none, .mov (.tmp 41)⟩,
  ⟨some 42, none, .ext (.tmp 38) 0⟩,
  ⟨some 43, none, .ext (.tmp 38) 1⟩,
  ⟨some 7, none, .mov (.tmp 42)⟩,
  ⟨some 8, none, .mov (.tmp 43)⟩])
 (.seq (.ops false [
  ⟨some 45, none, .load (some 6) (.tmp 2)⟩,
  ⟨some 46, none, .call (.cst (.fn (.func 33) [] [])) [(.tmp 45)]⟩,
  ⟨some 44, none, .mov (.tmp 46)⟩,
  ⟨some 47, none, .ext (.tmp 44) 0⟩,
  ⟨some 48, none, .ext (.tmp 44) 1⟩,
  ⟨some 9, none, .mov (.tmp 47)⟩,
  ⟨some 10, none, .mov (.tmp 48)⟩])
 (.seq (.seq (.ops false [
  ⟨some 49, none, .mov (.tmp 10)⟩,
  ⟨some 50, none, .bin .neq (.tmp 49) (.cst (I 0))⟩])
 (.cond (.tmp 50) (.seq (.ops false [
  ⟨some 51, none, .mov (.tmp 10)⟩,
  ⟨some 52, none, .bin .eql (.tmp 51) (.cst (I 52))⟩,
  ⟨some 53, none, .mov (.tmp 52)⟩,
  ⟨some 54, some ((some 53), true), .mov (.tmp 8)⟩,
  ⟨some 55, some ((some 53), true), .mov (.tmp 10)⟩,
  ⟨some 56, some ((some 53), true), .bin .eql (.tmp 54) (.tmp 55)⟩,
  ⟨some 57, none, .pick (.tmp 53) (.tmp 56) (.cst (.bool false))⟩,
  ⟨some 58, none, .mov (.tmp 57)⟩,
  ⟨some 59, some ((some 58), true), .mov (.tmp 7)⟩,
  ⟨some 60, some ((some 58), true), .bin .eql (.tmp 59) (.cst (I 0))⟩,
  ⟨some 61, none, .pick (.tmp 58) (.tmp 60) (.cst (.bool false))⟩,
  ⟨some 62, none, .mov (.tmp 61)⟩,
  ⟨some 63, some ((some 62), true), .call (.cst (.fn (.func 26) [] [])) []⟩,
  ⟨some 64, none, .pick (.tmp 62) (.tmp 63) (.cst (.bool false))⟩,
  ⟨some 4, none, .mov (.tmp 64)⟩])
 .ret) .skip))
 (.seq (.ops true [
  ⟨some 11, none, .mov (.cst .any)⟩,
  ⟨some 65, none, .load (some 6) (.tmp 2)⟩,
  ⟨some 66, none, .mov (.tmp 9)⟩,
  ⟨some 67, none, .call (.cst (.fn (.func 53) [] [])) [(.tmp 65), (.tmp 66)]⟩,
  ⟨some 68, none, .fad (.tmp 2) 0⟩,
  ⟨some 69, none, .load none (.tmp 68)⟩,
  ⟨some 12, none, .mov (.tmp 69)⟩,
  ⟨some 11, none, .alloc [(I 0), .nils, (I 0), (I 0), (I 0), .nils]⟩,
  ⟨none, none, .store 6 (.tmp 11) (.tmp 67)⟩])
 (.seq (.seq (.ops false [
  ⟨some 70, none, .mov (.tmp 8)⟩,
  ⟨some 71, none, .bin .eql (.tmp 70) (.cst (I 0))⟩])
 (.cond (.tmp 71) (.seq (.seq (.ops false [
  ⟨some 72, none, .mov (.tmp 7)⟩,
  ⟨some 73, none, .fad (.tmp 2) 0⟩,
  ⟨some 74, none, .load none (.tmp 73)⟩,
  ⟨some 75, none, .bin .sub (.tmp 74) (.cst (I 1))⟩,
  ⟨some 76, none, .call (.cst (.fn (.func 49) [] [])) [(.tmp 72), (.cst (I 0)), (.tmp 75)]⟩,
  ⟨some 77, none, .lnot (.tmp 76)⟩,
  ⟨some 78, none, .mov (.tmp 77)⟩,
  ⟨some 79, some ((some 78), false), .mov (.tmp 9)⟩,
  ⟨some 80, some ((some 78), false), .mov (.tmp 5)⟩,
  ⟨some 81, some ((some 78), false), .call (.cst (.fn (.func 42) [] [])) [(.tmp 79), (.tmp 80)]⟩,
  ⟨some 82, some ((some 78), false), .bin .lss (.tmp 81) (.cst (I 0))⟩,
  ⟨some 83, none, .pick (.tmp 78) (.cst (.bool true)) (.tmp 82)⟩])
 (.cond (.tmp 83) (.seq (.ops false [
  ⟨some 4, none, .mov (.cst (.bool false))⟩])
 .ret) .skip))
 (.ops false [
  ⟨some 84, none, .mov (.tmp 7)⟩,
  ⟨some 12, none, .mov (.tmp 84)⟩])) (.seq (.ops false [
  ⟨some 85, none, .mov (.tmp 8)⟩,
  ⟨some 86, none, .bin .neq (.tmp 85) (.cst (I 4))⟩,
  ⟨some 87, none, .mov (.tmp 86)⟩,
  ⟨some 88, some ((some 87), false), .mov (.tmp 7)⟩,
  ⟨some 89, some ((some 87), false), .bin .neq (.tmp 88) (.cst (I 0))⟩,
  ⟨some 90, none, .pick (.tmp 87) (.cst (.bool true)) (.tmp 89)⟩])
 (.cond (.tmp 90) (.seq (.ops false [
  ⟨some 4, none, .mov (.cst (.bool false))⟩])
 .ret) .skip))))
 (.seq (.seq (.ops false [
  ⟨some 13, none, .mov (.cst (I 0))⟩])
 (.block 0 (.loop keep13_0 body13_0)))
 (.seq (.seq (.ops false [
  ⟨some 116, none, .mov (.tmp 8)⟩,
  ⟨some 117, none, .bin .neq (.tmp 116) (.cst (I 0))⟩])
 (.cond (.tmp 117) (.seq (.ops false [
  ⟨some 118, none, .call (.cst (.fn (.func 26) [] [])) []⟩,
  ⟨some 4, none, .mov (.tmp 118)⟩])
 .ret) .skip))
 (.seq (.ops false [
  ⟨some 120, none, .load (some 6) (.tmp 11)⟩,
  ⟨some 121, none, .fad (.tmp 6) 0⟩,
  ⟨some 122, none, .load none (.tmp 121)⟩,
  ⟨some 123, none, .mov (.tmp 7)⟩,
  ⟨some 124, none, .call (.cst (.fn (.func 21) [] [])) [(.tmp 120), (.tmp 122), (.tmp 123)]⟩,
  ⟨some 119, none, .mov (.tmp 124)⟩,
  ⟨some 125, none, .ext (.tmp 119) 0⟩,
  ⟨some 126, none, .ext (.tmp 119) 1⟩,
  ⟨some 16, none, .mov (.tmp 125)⟩,
  ⟨some 17, none, .mov (.tmp 126)⟩])
 (.seq (.ops false [
  ⟨some 127, none, .mov (.tmp 17)⟩,
  ⟨some 128, none, .bin .eql (.tmp 127) (.cst (I 0))⟩,
  ⟨some 129, none, .mov (.tmp 128)⟩,
  ⟨some 130, some ((some 129), true), .mov (.tmp 16)⟩,
  ⟨some 131, some ((some 129), true), .fad (.tmp 6) 1⟩,
  ⟨some 132, some ((some 129), true), .load none (.tmp 131)⟩,
  ⟨some 133, some ((some 129), true), .mov (.tmp 7)⟩,
  ⟨some 134, some ((some 129), true), .ixs 1 (.tmp 132) (.tmp 133)⟩,
  ⟨some 135, some ((some 129), true), .load none (.tmp 134)⟩,
  ⟨some 136, some ((some 129), true), .call (.cst (.fn (.func 42) [] [])) [(.tmp 130), (.tmp 135)]⟩,
  ⟨some 137, some ((some 129), true), .bin .lss (.tmp 136) (.cst (I 0))⟩,
  ⟨some 138, none, .pick (.tmp 129) (.tmp 137) (.cst (.bool false))⟩,
  ⟨some 139, none, .mov (.tmp 138)⟩,
  ⟨some 140, some ((some 139), true), .call (.cst (.fn (.func 26) [] [])) []⟩,
  ⟨some 141, none, .pick (.tmp 139) (.tmp 140) (.cst (.bool false))⟩,
  ⟨some 4, none, .mov (.tmp 141)⟩])
 .ret)))))))))))))⟩
theorem comp13 : compF Cv 13 = some code13 := by kernel_rfl
end Go.Ai
