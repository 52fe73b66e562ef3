/- This text shows the code of a law, by the kernel. No conditions of its own. -/
import Derived.Test.YtbjdaefdifofkaaDoorCodes
set_option linter.unusedSimpArgs false
set_option linter.unusedVariables false
set_option maxRecDepth 100000
namespace Go.Ai

def code13 : MF := ⟨134, [(4, none)], (.seq (.ops false [
  ⟨some 2, none, .box (.tmp 0)⟩,
  ⟨some 4, none, .mov (.cst (.bool false))⟩])
 (.seq (.ops false [
  ⟨some 18, none, .load (some 6) (.tmp 2)⟩,
  ⟨some 19, none, .call (.cst (.fn (.func 33) [] [])) [(.tmp 18)]⟩,
  ⟨some 17, none, .mov (.tmp 19)⟩,
  ⟨some 20, none, .ext (.tmp 17) 0⟩,
  ⟨some 21, none, .ext (.tmp 17) 1⟩,
  ⟨some 5, none, .mov (.tmp 20)⟩,
  ⟨some 6, none, .mov (.tmp 21)⟩])
 (.seq (.seq (.ops false [
  ⟨some 22, none, .load (some 6) (.tmp 2)⟩,
  ⟨some 23, none, .call (.cst (.fn (.func 35) [] [])) [(.tmp 22)]⟩,
  ⟨some 24, none, .lnot (.tmp 23)⟩])
 (.cond (.tmp 24) (.seq (.ops false [
  ⟨some 25, none, .mov (.tmp 6)⟩,
  ⟨some 26, none, .bin .eql (.tmp 25) (.cst (I 80))⟩,
  ⟨some 27, none, .mov (.tmp 26)⟩,
  ⟨some 28, some ((some 27), true), .mov (.tmp 5)⟩,
  ⟨some 29, some ((some 27), true), .len (.tmp 28)⟩,
  ⟨some 30, some ((some 27), true), .bin .eql (.tmp 29) (.cst (I 0))⟩,
  ⟨some 31, none, .pick (.tmp 27) (.tmp 30) (.cst (.bool false))⟩,
  ⟨some 32, none, .mov (.tmp 31)⟩,
  ⟨some 33, some ((some 32), true), .call (.cst (.fn (.func 25) [] [])) []⟩,
  ⟨some 34, none, .pick (.tmp 32) (.tmp 33) (.cst (.bool false))⟩,
  ⟨some 4, none, .mov (.tmp 34)⟩])
 .ret) .skip))
 (.seq (.ops false [
  ⟨some 35, none, .load (some 6) (.tmp 2)⟩,
  ⟨some 7, none, .alloc [(I 0), .nils, .nils, .nils, (I 0), .nils]⟩,
  ⟨none, none, .store 6 (.tmp 7) (.tmp 35)⟩])
 (.seq (.ops false [
  ⟨some 36, none, .fad (.tmp 7) 1⟩,
  ⟨none, none, .store 1 (.tmp 36) (.cst .nils)⟩])
 (.seq (.ops false [
  ⟨some 38, none, .load (some 6) (.tmp 2)⟩,
  ⟨some 39, none, .call (.cst (.fn (.func 15) [] [])) [(.tmp 38)]⟩,
  ⟨some 37, none, .mov (.tmp 39)⟩,
  ⟨some 40, none, .ext (.tmp 37) 0⟩,
  ⟨some 41, none, .ext (.tmp 37) 1⟩,
  ⟨some 8, none, .mov (.tmp 40)⟩,
  ⟨some 9, none, .mov (.tmp 41)⟩])
 (.seq (.ops false [
  ⟨some 43, none, .load (some 6) (.tmp 7)⟩,
  ⟨some 44, none, .call (.cst (.fn (.func 15) [] [])) [(.tmp 43)]⟩,
  ⟨some 42, none, .mov (.tmp 44)⟩,
  ⟨some 45, none, .ext (.tmp 42) 0⟩,
  ⟨some 46, none, .ext (.tmp 42) 1⟩,
  ⟨some 10, none, .mov (.tmp 45)⟩,
  ⟨some 11, none, .mov (.tmp 46)⟩])
 (.seq (.seq (.ops false [
  ⟨some 47, none, .mov (.tmp 9)⟩,
  ⟨some 48, none, .bin .neq (.tmp 47) (.cst (I 0))⟩,
  ⟨some 49, none, .mov (.tmp 48)⟩,
  ⟨some 50, some ((some 49), false), .mov (.tmp 11)⟩,
  ⟨some 51, some ((some 49), false), .bin .neq (.tmp 50) (.cst (I 0))⟩,
  ⟨some 52, none, .pick (.tmp 49) (.cst (.bool true)) (.tmp 51)⟩,
  ⟨some 53, none, .mov (.tmp 52)⟩,
  ⟨some 54, some ((some 53), false), .mov (.tmp 10)⟩,
  ⟨some 55, some ((some 53), false), .mov (.tmp 6)⟩,
  ⟨some 56, some ((some 53), false), .bin .eql (.tmp 55) (.cst (I 0))⟩,
  ⟨some 57, some ((some 53), false), .beq true (.tmp 54) (.tmp 56)⟩,
  ⟨some 58, none, .pick (.tmp 53) (.cst (.bool true)) (.tmp 57)⟩])
 (.cond (.tmp 58) (.seq (.ops false [
  ⟨some 4, none, .mov (.cst (.bool false))⟩])
 .ret) .skip))
 (.seq (.seq (.ops false [
  ⟨some 59, none, .mov (.tmp 6)⟩,
  ⟨some 60, none, .bin .neq (.tmp 59) (.cst (I 0))⟩])
 (.cond (.tmp 60) (.seq (.ops false [
  ⟨some 61, none, .mov (.tmp 6)⟩,
  ⟨some 62, none, .bin .eql (.tmp 61) (.cst (I 82))⟩,
  ⟨some 63, none, .mov (.tmp 62)⟩,
  ⟨some 64, some ((some 63), true), .mov (.tmp 5)⟩,
  ⟨some 65, some ((some 63), true), .len (.tmp 64)⟩,
  ⟨some 66, some ((some 63), true), .bin .eql (.tmp 65) (.cst (I 0))⟩,
  ⟨some 67, none, .pick (.tmp 63) (.tmp 66) (.cst (.bool false))⟩,
  ⟨some 68, none, .mov (.tmp 67)⟩,
  ⟨some 69, some ((some 68), true), .mov (.tmp 8)⟩,
  ⟨some 70, some ((some 68), true), .lnot (.tmp 69)⟩,
  ⟨some 71, none, .pick (.tmp 68) (.tmp 70) (.cst (.bool false))⟩,
  ⟨some 72, none, .mov (.tmp 71)⟩,
  ⟨some 73, some ((some 72), true), .call (.cst (.fn (.func 25) [] [])) []⟩,
  ⟨some 74, none, .pick (.tmp 72) (.tmp 73) (.cst (.bool false))⟩,
  ⟨some 4, none, .mov (.tmp 74)⟩])
 .ret) .skip))
 (.seq (.seq (.ops false [
  ⟨some 75, none, .mov (.tmp 5)⟩,
  ⟨some 76, none, .fad (.tmp 2) 1⟩,
  ⟨some 77, none, .load none (.tmp 76)⟩,
  ⟨some 78, none, .len (.tmp 77)⟩,
  ⟨some 79, none, .call (.cst (.fn (.func 51) [] [])) [(.tmp 75), (.tmp 78)]⟩,
  ⟨some 80, none, .lnot (.tmp 79)⟩,
  ⟨some 81, none, .mov (.tmp 80)⟩,
  ⟨some 82, some ((some 81), false), .mov (.tmp 5)⟩,
  ⟨some 83, some ((some 81), false), .len (.tmp 82)⟩,
  ⟨some 84, some ((some 81), false), .bin .eql (.tmp 83) (.cst (I 0))⟩,
  ⟨some 85, some ((some 81), false), .mov (.tmp 8)⟩,
  ⟨some 86, some ((some 81), false), .beq true (.tmp 84) (.tmp 85)⟩,
  ⟨some 87, none, .pick (.tmp 81) (.cst (.bool true)) (.tmp 86)⟩])
 (.cond (.tmp 87) (.seq (.ops false [
  ⟨some 4, none, .mov (.cst (.bool false))⟩])
 .ret) .skip))
 (.seq (.ops true [
  ⟨some 88, none, .mov (.tmp 1)⟩,
  ⟨some 89, none, .fad (.tmp 2) 1⟩,
  ⟨some 90, none, .load none (.tmp 89)⟩,
  ⟨some 91, none, .len (.tmp 90)⟩,
  ⟨some 92, none, .bin .shl (.cst (I 1)) (.tmp 91)⟩,
  ⟨some 93, none, .call (.cst (.fn (.func 38) [] [])) [(.tmp 88), (.tmp 92)]⟩,
  ⟨some 94, none, .fad (.tmp 2) 1⟩,
  ⟨some 95, none, .load none (.tmp 94)⟩,
  ⟨some 96, none, .len (.tmp 95)⟩,
  ⟨some 97, none, .call (.cst (.fn (.func 52) [] [])) [(.tmp 93), (.tmp 96)]⟩,
  ⟨some 12, none, .mov (.tmp 97)⟩])
 (.seq (.ops false [
  ⟨some 99, none, .load (some 6) (.tmp 2)⟩,
  ⟨some 100, none, .mov (.tmp 5)⟩,
  ⟨some 101, none, .call (.cst (.fn (.func 53) [] [])) [(.tmp 99), (.tmp 100)]⟩,
  ⟨some 102, none, .call (.cst (.fn (.func 15) [] [])) [(.tmp 101)]⟩,
  ⟨some 98, none, .mov (.tmp 102)⟩,
  ⟨some 103, none, .ext (.tmp 98) 0⟩,
  ⟨some 104, none, .ext (.tmp 98) 1⟩,
  ⟨some 13, none, .mov (.tmp 103)⟩,
  ⟨some 14, none, .mov (.tmp 104)⟩])
 (.seq (.ops false [
  ⟨some 106, none, .load (some 6) (.tmp 2)⟩,
  ⟨some 107, none, .mov (.tmp 12)⟩,
  ⟨some 108, none, .call (.cst (.fn (.func 53) [] [])) [(.tmp 106), (.tmp 107)]⟩,
  ⟨some 109, none, .call (.cst (.fn (.func 15) [] [])) [(.tmp 108)]⟩,
  ⟨some 105, none, .mov (.tmp 109)⟩,
  ⟨some 110, none, .ext (.tmp 105) 0⟩,
  ⟨some 111, none, .ext (.tmp 105) 1⟩,
  ⟨some 15, none, .mov (.tmp 110)⟩,
  ⟨some 16, none, .mov (.tmp 111)⟩])
 (.seq (.ops false [
  ⟨some 112, none, .mov (.tmp 14)⟩,
  ⟨some 113, none, .bin .eql (.tmp 112) (.cst (I 0))⟩,
  ⟨some 114, none, .mov (.tmp 113)⟩,
  ⟨some 115, some ((some 114), true), .mov (.tmp 16)⟩,
  ⟨some 116, some ((some 114), true), .bin .eql (.tmp 115) (.cst (I 0))⟩,
  ⟨some 117, none, .pick (.tmp 114) (.tmp 116) (.cst (.bool false))⟩,
  ⟨some 118, none, .mov (.tmp 117)⟩,
  ⟨some 119, some ((some 118), true), .mov (.tmp 13)⟩,
  ⟨some 120, none, .pick (.tmp 118) (.tmp 119) (.cst (.bool false))⟩,
  ⟨some 121, none, .mov (.tmp 120)⟩,
  ⟨some 122, some ((some 121), true), .mov (.tmp 12)⟩,
  ⟨some 123, some ((some 121), true), .mov (.tmp 5)⟩,
  ⟨some 124, some ((some 121), true), .call (.cst (.fn (.func 54) [] [])) [(.tmp 122), (.tmp 123)]⟩,
  ⟨some 125, some ((some 121), true), .lnot (.tmp 124)⟩,
  ⟨some 126, some ((some 121), true), .mov (.tmp 125)⟩,
  ⟨some 127, some ((some 126), false), .mov (.tmp 15)⟩,
  ⟨some 128, some ((some 126), false), .lnot (.tmp 127)⟩,
  ⟨some 129, some ((some 121), true), .pick (.tmp 126) (.cst (.bool true)) (.tmp 128)⟩,
  ⟨some 130, none, .pick (.tmp 121) (.tmp 129) (.cst (.bool false))⟩,
  ⟨some 131, none, .mov (.tmp 130)⟩,
  ⟨some 132, some ((some 131), true), .call (.cst (.fn (.func 25) [] [])) []⟩,
  ⟨some 133, none, .pick (.tmp 131) (.tmp 132) (.cst (.bool false))⟩,
  ⟨some 4, none, .mov (.tmp 133)⟩])
 .ret))))))))))))))⟩
theorem comp13 : compF Cv 13 = some code13 := by kernel_rfl
end Go.Ai
