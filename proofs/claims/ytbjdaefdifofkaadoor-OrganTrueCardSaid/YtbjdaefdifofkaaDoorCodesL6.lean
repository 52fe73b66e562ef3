/- This text shows the code of a law, by the kernel. No conditions of its own. -/
import Derived.Test.YtbjdaefdifofkaaDoorCodes
set_option linter.unusedSimpArgs false
set_option linter.unusedVariables false
set_option maxRecDepth 100000
namespace Go.Ai

def code6 : MF := ⟨139, [(6, none)], (.seq (.ops false [
  ⟨some 3, none, .box (.tmp 0)⟩,
  ⟨some 5, none, .box (.tmp 2)⟩,
  ⟨some 6, none, .mov (.cst (.bool false))⟩])
 (.seq (.seq (.ops false [
  ⟨some 21, none, .load (some 6) (.tmp 3)⟩,
  ⟨some 22, none, .call (.cst (.fn (.func 35) [] [])) [(.tmp 21)]⟩,
  ⟨some 23, none, .lnot (.tmp 22)⟩])
 (.cond (.tmp 23) (.seq (.ops false [
  ⟨some 24, none, .call (.cst (.fn (.func 25) [] [])) []⟩,
  ⟨some 6, none, .mov (.tmp 24)⟩])
 .ret) .skip))
 (.seq (.ops false [
  ⟨some 25, none, .load (some 6) (.tmp 3)⟩,
  ⟨some 26, none, .mov (.tmp 1)⟩,
  ⟨some 27, none, .call (.cst (.fn (.func 36) [] [])) [(.tmp 25), (.tmp 26)]⟩,
  ⟨some 7, none, .mov (.tmp 27)⟩])
 (.seq (.ops false [
  ⟨some 28, none, .load (some 6) (.tmp 3)⟩,
  ⟨some 29, none, .mov (.tmp 7)⟩,
  ⟨some 30, none, .mov (.tmp 1)⟩,
  ⟨some 31, none, .call (.cst (.fn (.func 37) [] [])) [(.tmp 28), (.tmp 29), (.tmp 30)]⟩,
  ⟨some 8, none, .alloc [(I 0), .nils, .nils, .nils, (I 0), .nils]⟩,
  ⟨none, none, .store 6 (.tmp 8) (.tmp 31)⟩])
 (.seq (.ops true [
  ⟨some 32, none, .ixa 2 1 (.tmp 5) (.cst (I 0))⟩,
  ⟨some 33, none, .load none (.tmp 32)⟩,
  ⟨some 34, none, .fad (.tmp 3) 0⟩,
  ⟨some 35, none, .load none (.tmp 34)⟩,
  ⟨some 36, none, .call (.cst (.fn (.func 38) [] [])) [(.tmp 33), (.tmp 35)]⟩,
  ⟨some 37, none, .ixa 2 1 (.tmp 5) (.cst (I 1))⟩,
  ⟨some 38, none, .load none (.tmp 37)⟩,
  ⟨some 39, none, .fad (.tmp 3) 0⟩,
  ⟨some 40, none, .load none (.tmp 39)⟩,
  ⟨some 41, none, .call (.cst (.fn (.func 38) [] [])) [(.tmp 38), (.tmp 40)]⟩,
  ⟨some 9, none, .mov (.tmp 36)⟩,
  ⟨some 10, none, .mov (.tmp 41)⟩])
 (.seq (.ops false [
  ⟨some 43, none, .load (some 6) (.tmp 8)⟩,
  ⟨some 44, none, .call (.cst (.fn (.func 15) [] [])) [(.tmp 43)]⟩,
  ⟨some 42, none, .mov (.tmp 44)⟩,
  ⟨some 45, none, .ext (.tmp 42) 0⟩,
  ⟨some 46, none, .ext (.tmp 42) 1⟩,
  ⟨some 11, none, .mov (.tmp 45)⟩,
  ⟨some 12, none, .mov (.tmp 46)⟩])
 (.seq (.ops false [
  ⟨some 48, none, .load (some 6) (.tmp 8)⟩,
  ⟨some 49, none, .call (.cst (.fn (.func 33) [] [])) [(.tmp 48)]⟩,
  ⟨some 47, none, .mov (.tmp 49)⟩,
  ⟨some 50, none, .ext (.tmp 47) 0⟩,
  ⟨some 51, none, .ext (.tmp 47) 1⟩,
  ⟨some 13, none, .mov (.tmp 50)⟩,
  ⟨some 14, none, .mov (.tmp 51)⟩])
 (.seq (.ops false [
  ⟨some 53, none, .load (some 6) (.tmp 8)⟩,
  ⟨some 54, none, .mov (.tmp 9)⟩,
  ⟨some 55, none, .call (.cst (.fn (.func 19) [] [])) [(.tmp 53), (.tmp 54)]⟩,
  ⟨some 52, none, .mov (.tmp 55)⟩,
  ⟨some 56, none, .ext (.tmp 52) 0⟩,
  ⟨some 57, none, .ext (.tmp 52) 1⟩,
  ⟨some 15, none, .alloc [(I 0), (I 0)]⟩,
  ⟨none, none, .store 2 (.tmp 15) (.tmp 56)⟩,
  ⟨some 16, none, .mov (.tmp 57)⟩])
 (.seq (.ops false [
  ⟨some 59, none, .load (some 6) (.tmp 8)⟩,
  ⟨some 60, none, .mov (.tmp 9)⟩,
  ⟨some 61, none, .mov (.tmp 10)⟩,
  ⟨some 62, none, .call (.cst (.fn (.func 21) [] [])) [(.tmp 59), (.tmp 60), (.tmp 61)]⟩,
  ⟨some 58, none, .mov (.tmp 62)⟩,
  ⟨some 63, none, .ext (.tmp 58) 0⟩,
  ⟨some 64, none, .ext (.tmp 58) 1⟩,
  ⟨some 17, none, .alloc [(I 0), (I 0)]⟩,
  ⟨none, none, .store 2 (.tmp 17) (.tmp 63)⟩,
  ⟨some 18, none, .mov (.tmp 64)⟩])
 (.seq (.ops false [
  ⟨some 66, none, .load (some 6) (.tmp 8)⟩,
  ⟨some 67, none, .call (.cst (.fn (.func 23) [] [])) [(.tmp 66)]⟩,
  ⟨some 65, none, .mov (.tmp 67)⟩,
  ⟨some 68, none, .ext (.tmp 65) 0⟩,
  ⟨some 69, none, .ext (.tmp 65) 1⟩,
  ⟨some 19, none, .alloc [(I 0), (I 0)]⟩,
  ⟨none, none, .store 2 (.tmp 19) (.tmp 68)⟩,
  ⟨some 20, none, .mov (.tmp 69)⟩])
 (.seq (.seq (.ops false [
  ⟨some 70, none, .mov (.tmp 12)⟩,
  ⟨some 71, none, .bin .neq (.tmp 70) (.cst (I 0))⟩,
  ⟨some 72, none, .mov (.tmp 71)⟩,
  ⟨some 73, some ((some 72), false), .mov (.tmp 14)⟩,
  ⟨some 74, some ((some 72), false), .bin .neq (.tmp 73) (.cst (I 0))⟩,
  ⟨some 75, none, .pick (.tmp 72) (.cst (.bool true)) (.tmp 74)⟩,
  ⟨some 76, none, .mov (.tmp 75)⟩,
  ⟨some 77, some ((some 76), false), .mov (.tmp 16)⟩,
  ⟨some 78, some ((some 76), false), .bin .neq (.tmp 77) (.cst (I 0))⟩,
  ⟨some 79, none, .pick (.tmp 76) (.cst (.bool true)) (.tmp 78)⟩,
  ⟨some 80, none, .mov (.tmp 79)⟩,
  ⟨some 81, some ((some 80), false), .mov (.tmp 18)⟩,
  ⟨some 82, some ((some 80), false), .bin .neq (.tmp 81) (.cst (I 0))⟩,
  ⟨some 83, none, .pick (.tmp 80) (.cst (.bool true)) (.tmp 82)⟩,
  ⟨some 84, none, .mov (.tmp 83)⟩,
  ⟨some 85, some ((some 84), false), .mov (.tmp 20)⟩,
  ⟨some 86, some ((some 84), false), .bin .neq (.tmp 85) (.cst (I 0))⟩,
  ⟨some 87, none, .pick (.tmp 84) (.cst (.bool true)) (.tmp 86)⟩,
  ⟨some 88, none, .mov (.tmp 87)⟩,
  ⟨some 89, some ((some 88), false), .mov (.tmp 11)⟩,
  ⟨some 90, some ((some 88), false), .lnot (.tmp 89)⟩,
  ⟨some 91, none, .pick (.tmp 88) (.cst (.bool true)) (.tmp 90)⟩,
  ⟨some 92, none, .mov (.tmp 91)⟩,
  ⟨some 93, some ((some 92), false), .mov (.tmp 13)⟩,
  ⟨some 94, some ((some 92), false), .len (.tmp 93)⟩,
  ⟨some 95, some ((some 92), false), .bin .neq (.tmp 94) (.cst (I 0))⟩,
  ⟨some 96, none, .pick (.tmp 92) (.cst (.bool true)) (.tmp 95)⟩])
 (.cond (.tmp 96) (.seq (.ops false [
  ⟨some 6, none, .mov (.cst (.bool false))⟩])
 .ret) .skip))
 (.seq (.ops false [
  ⟨some 97, none, .load (some 2) (.tmp 15)⟩,
  ⟨some 98, none, .mov (.tmp 7)⟩,
  ⟨some 99, none, .mov (.tmp 9)⟩,
  ⟨some 100, none, .ixs 1 (.tmp 98) (.tmp 99)⟩,
  ⟨some 101, none, .load none (.tmp 100)⟩,
  ⟨some 102, none, .call (.cst (.fn (.func 39) [] [])) [(.tmp 97), (.tmp 101)]⟩,
  ⟨some 103, none, .mov (.tmp 102)⟩,
  ⟨some 104, some ((some 103), true), .load (some 2) (.tmp 17)⟩,
  ⟨some 105, some ((some 103), true), .mov (.tmp 7)⟩,
  ⟨some 106, some ((some 103), true), .mov (.tmp 10)⟩,
  ⟨some 107, some ((some 103), true), .ixs 1 (.tmp 105) (.tmp 106)⟩,
  ⟨some 108, some ((some 103), true), .load none (.tmp 107)⟩,
  ⟨some 109, some ((some 103), true), .mov (.tmp 7)⟩,
  ⟨some 110, some ((some 103), true), .mov (.tmp 9)⟩,
  ⟨some 111, some ((some 103), true), .ixs 1 (.tmp 109) (.tmp 110)⟩,
  ⟨some 112, some ((some 103), true), .load none (.tmp 111)⟩,
  ⟨some 113, some ((some 103), true), .bin .sub (.tmp 108) (.tmp 112)⟩,
  ⟨some 114, some ((some 103), true), .call (.cst (.fn (.func 39) [] [])) [(.tmp 104), (.tmp 113)]⟩,
  ⟨some 115, none, .pick (.tmp 103) (.tmp 114) (.cst (.bool false))⟩,
  ⟨some 116, none, .mov (.tmp 115)⟩,
  ⟨some 117, some ((some 116), true), .fad (.tmp 19) 0⟩,
  ⟨some 118, some ((some 116), true), .load none (.tmp 117)⟩,
  ⟨some 119, some ((some 116), true), .bin .mul (.cst (I 10)) (.tmp 118)⟩,
  ⟨some 120, some ((some 116), true), .mov (.tmp 7)⟩,
  ⟨some 121, some ((some 116), true), .mov (.tmp 9)⟩,
  ⟨some 122, some ((some 116), true), .ixs 1 (.tmp 120) (.tmp 121)⟩,
  ⟨some 123, some ((some 116), true), .load none (.tmp 122)⟩,
  ⟨some 124, some ((some 116), true), .bin .leq (.tmp 119) (.tmp 123)⟩,
  ⟨some 125, none, .pick (.tmp 116) (.tmp 124) (.cst (.bool false))⟩,
  ⟨some 126, none, .mov (.tmp 125)⟩,
  ⟨some 127, some ((some 126), true), .fad (.tmp 19) 1⟩,
  ⟨some 128, some ((some 126), true), .load none (.tmp 127)⟩,
  ⟨some 129, some ((some 126), true), .bin .mul (.cst (I 10)) (.tmp 128)⟩,
  ⟨some 130, some ((some 126), true), .mov (.tmp 7)⟩,
  ⟨some 131, some ((some 126), true), .mov (.tmp 9)⟩,
  ⟨some 132, some ((some 126), true), .ixs 1 (.tmp 130) (.tmp 131)⟩,
  ⟨some 133, some ((some 126), true), .load none (.tmp 132)⟩,
  ⟨some 134, some ((some 126), true), .bin .geq (.tmp 129) (.tmp 133)⟩,
  ⟨some 135, none, .pick (.tmp 126) (.tmp 134) (.cst (.bool false))⟩,
  ⟨some 136, none, .mov (.tmp 135)⟩,
  ⟨some 137, some ((some 136), true), .call (.cst (.fn (.func 25) [] [])) []⟩,
  ⟨some 138, none, .pick (.tmp 136) (.tmp 137) (.cst (.bool false))⟩,
  ⟨some 6, none, .mov (.tmp 138)⟩])
 .ret))))))))))))⟩
theorem comp6 : compF Cv 6 = some code6 := by kernel_rfl
end Go.Ai
