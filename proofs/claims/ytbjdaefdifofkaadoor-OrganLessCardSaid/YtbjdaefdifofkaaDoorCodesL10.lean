/- This text shows the code of a law, by the kernel. No conditions of its own. -/
import Derived.Test.YtbjdaefdifofkaaDoorCodes
set_option linter.unusedSimpArgs false
set_option linter.unusedVariables false
set_option maxRecDepth 100000
namespace Go.Ai

def code10 : MF := ⟨163, [(4, none)], (.seq (.ops false [
  ⟨some 2, none, .box (.tmp 0)⟩,
  ⟨some 3, none, .box (.tmp 1)⟩,
  ⟨some 4, none, .mov (.cst (.bool false))⟩])
 (.seq (.seq (.ops false [
  ⟨some 20, none, .load (some 6) (.tmp 2)⟩,
  ⟨some 21, none, .call (.cst (.fn (.func 35) [] [])) [(.tmp 20)]⟩,
  ⟨some 22, none, .lnot (.tmp 21)⟩])
 (.cond (.tmp 22) (.seq (.ops false [
  ⟨some 23, none, .call (.cst (.fn (.func 25) [] [])) []⟩,
  ⟨some 4, none, .mov (.tmp 23)⟩])
 .ret) .skip))
 (.seq (.ops true [
  ⟨some 24, none, .ixa 3 1 (.tmp 3) (.cst (I 0))⟩,
  ⟨some 25, none, .load none (.tmp 24)⟩,
  ⟨some 26, none, .fad (.tmp 2) 0⟩,
  ⟨some 27, none, .load none (.tmp 26)⟩,
  ⟨some 28, none, .call (.cst (.fn (.func 38) [] [])) [(.tmp 25), (.tmp 27)]⟩,
  ⟨some 29, none, .ixa 3 1 (.tmp 3) (.cst (I 1))⟩,
  ⟨some 30, none, .load none (.tmp 29)⟩,
  ⟨some 31, none, .fad (.tmp 2) 0⟩,
  ⟨some 32, none, .load none (.tmp 31)⟩,
  ⟨some 33, none, .call (.cst (.fn (.func 38) [] [])) [(.tmp 30), (.tmp 32)]⟩,
  ⟨some 34, none, .ixa 3 1 (.tmp 3) (.cst (I 2))⟩,
  ⟨some 35, none, .load none (.tmp 34)⟩,
  ⟨some 36, none, .fad (.tmp 2) 0⟩,
  ⟨some 37, none, .load none (.tmp 36)⟩,
  ⟨some 38, none, .call (.cst (.fn (.func 38) [] [])) [(.tmp 35), (.tmp 37)]⟩,
  ⟨some 5, none, .mov (.tmp 28)⟩,
  ⟨some 6, none, .mov (.tmp 33)⟩,
  ⟨some 7, none, .mov (.tmp 38)⟩])
 (.seq (.ops false [
  ⟨some 40, none, .load (some 6) (.tmp 2)⟩,
  ⟨some 41, none, .mov (.tmp 5)⟩,
  ⟨some 42, none, .mov (.tmp 6)⟩,
  ⟨some 43, none, .call (.cst (.fn (.func 21) [] [])) [(.tmp 40), (.tmp 41), (.tmp 42)]⟩,
  ⟨some 39, none, .mov (.tmp 43)⟩,
  ⟨some 44, none, .ext (.tmp 39) 0⟩,
  ⟨some 45, none, .ext (.tmp 39) 1⟩,
  ⟨some 8, none, .alloc [(I 0), (I 0)]⟩,
  ⟨none, none, .store 2 (.tmp 8) (.tmp 44)⟩,
  ⟨some 9, none, .mov (.tmp 45)⟩])
 (.seq (.ops false [
  ⟨some 47, none, .load (some 6) (.tmp 2)⟩,
  ⟨some 48, none, .mov (.tmp 6)⟩,
  ⟨some 49, none, .mov (.tmp 5)⟩,
  ⟨some 50, none, .call (.cst (.fn (.func 21) [] [])) [(.tmp 47), (.tmp 48), (.tmp 49)]⟩,
  ⟨some 46, none, .mov (.tmp 50)⟩,
  ⟨some 51, none, .ext (.tmp 46) 0⟩,
  ⟨some 52, none, .ext (.tmp 46) 1⟩,
  ⟨some 10, none, .alloc [(I 0), (I 0)]⟩,
  ⟨none, none, .store 2 (.tmp 10) (.tmp 51)⟩,
  ⟨some 11, none, .mov (.tmp 52)⟩])
 (.seq (.ops false [
  ⟨some 54, none, .load (some 6) (.tmp 2)⟩,
  ⟨some 55, none, .mov (.tmp 5)⟩,
  ⟨some 56, none, .mov (.tmp 7)⟩,
  ⟨some 57, none, .call (.cst (.fn (.func 21) [] [])) [(.tmp 54), (.tmp 55), (.tmp 56)]⟩,
  ⟨some 53, none, .mov (.tmp 57)⟩,
  ⟨some 58, none, .ext (.tmp 53) 0⟩,
  ⟨some 59, none, .ext (.tmp 53) 1⟩,
  ⟨some 12, none, .alloc [(I 0), (I 0)]⟩,
  ⟨none, none, .store 2 (.tmp 12) (.tmp 58)⟩,
  ⟨some 13, none, .mov (.tmp 59)⟩])
 (.seq (.ops false [
  ⟨some 61, none, .load (some 6) (.tmp 2)⟩,
  ⟨some 62, none, .mov (.tmp 7)⟩,
  ⟨some 63, none, .mov (.tmp 6)⟩,
  ⟨some 64, none, .call (.cst (.fn (.func 21) [] [])) [(.tmp 61), (.tmp 62), (.tmp 63)]⟩,
  ⟨some 60, none, .mov (.tmp 64)⟩,
  ⟨some 65, none, .ext (.tmp 60) 0⟩,
  ⟨some 66, none, .ext (.tmp 60) 1⟩,
  ⟨some 14, none, .alloc [(I 0), (I 0)]⟩,
  ⟨none, none, .store 2 (.tmp 14) (.tmp 65)⟩,
  ⟨some 15, none, .mov (.tmp 66)⟩])
 (.seq (.ops false [
  ⟨some 68, none, .load (some 6) (.tmp 2)⟩,
  ⟨some 69, none, .mov (.tmp 5)⟩,
  ⟨some 70, none, .call (.cst (.fn (.func 19) [] [])) [(.tmp 68), (.tmp 69)]⟩,
  ⟨some 67, none, .mov (.tmp 70)⟩,
  ⟨some 71, none, .ext (.tmp 67) 0⟩,
  ⟨some 72, none, .ext (.tmp 67) 1⟩,
  ⟨some 16, none, .alloc [(I 0), (I 0)]⟩,
  ⟨none, none, .store 2 (.tmp 16) (.tmp 71)⟩,
  ⟨some 17, none, .mov (.tmp 72)⟩])
 (.seq (.ops false [
  ⟨some 74, none, .load (some 6) (.tmp 2)⟩,
  ⟨some 75, none, .mov (.tmp 6)⟩,
  ⟨some 76, none, .call (.cst (.fn (.func 19) [] [])) [(.tmp 74), (.tmp 75)]⟩,
  ⟨some 73, none, .mov (.tmp 76)⟩,
  ⟨some 77, none, .ext (.tmp 73) 0⟩,
  ⟨some 78, none, .ext (.tmp 73) 1⟩,
  ⟨some 18, none, .alloc [(I 0), (I 0)]⟩,
  ⟨none, none, .store 2 (.tmp 18) (.tmp 77)⟩,
  ⟨some 19, none, .mov (.tmp 78)⟩])
 (.seq (.seq (.ops false [
  ⟨some 79, none, .mov (.tmp 9)⟩,
  ⟨some 80, none, .bin .neq (.tmp 79) (.cst (I 0))⟩])
 (.cond (.tmp 80) (.seq (.ops false [
  ⟨some 81, none, .mov (.tmp 9)⟩,
  ⟨some 82, none, .bin .eql (.tmp 81) (.cst (I 82))⟩,
  ⟨some 83, none, .mov (.tmp 82)⟩,
  ⟨some 84, some ((some 83), true), .mov (.tmp 11)⟩,
  ⟨some 85, some ((some 83), true), .mov (.tmp 9)⟩,
  ⟨some 86, some ((some 83), true), .bin .eql (.tmp 84) (.tmp 85)⟩,
  ⟨some 87, none, .pick (.tmp 83) (.tmp 86) (.cst (.bool false))⟩,
  ⟨some 88, none, .mov (.tmp 87)⟩,
  ⟨some 89, some ((some 88), true), .mov (.tmp 13)⟩,
  ⟨some 90, some ((some 88), true), .mov (.tmp 9)⟩,
  ⟨some 91, some ((some 88), true), .bin .eql (.tmp 89) (.tmp 90)⟩,
  ⟨some 92, none, .pick (.tmp 88) (.tmp 91) (.cst (.bool false))⟩,
  ⟨some 93, none, .mov (.tmp 92)⟩,
  ⟨some 94, some ((some 93), true), .mov (.tmp 15)⟩,
  ⟨some 95, some ((some 93), true), .mov (.tmp 9)⟩,
  ⟨some 96, some ((some 93), true), .bin .eql (.tmp 94) (.tmp 95)⟩,
  ⟨some 97, none, .pick (.tmp 93) (.tmp 96) (.cst (.bool false))⟩,
  ⟨some 98, none, .mov (.tmp 97)⟩,
  ⟨some 99, some ((some 98), true), .mov (.tmp 17)⟩,
  ⟨some 100, some ((some 98), true), .mov (.tmp 9)⟩,
  ⟨some 101, some ((some 98), true), .bin .eql (.tmp 99) (.tmp 100)⟩,
  ⟨some 102, none, .pick (.tmp 98) (.tmp 101) (.cst (.bool false))⟩,
  ⟨some 103, none, .mov (.tmp 102)⟩,
  ⟨some 104, some ((some 103), true), .mov (.tmp 19)⟩,
  ⟨some 105, some ((some 103), true), .mov (.tmp 9)⟩,
  ⟨some 106, some ((some 103), true), .bin .eql (.tmp 104) (.tmp 105)⟩,
  ⟨some 107, none, .pick (.tmp 103) (.tmp 106) (.cst (.bool false))⟩,
  ⟨some 108, none, .mov (.tmp 107)⟩,
  ⟨some 109, some ((some 108), true), .call (.cst (.fn (.func 25) [] [])) []⟩,
  ⟨some 110, none, .pick (.tmp 108) (.tmp 109) (.cst (.bool false))⟩,
  ⟨some 4, none, .mov (.tmp 110)⟩])
 .ret) .skip))
 (.seq (.seq (.ops true [
  ⟨some 111, none, .mov (.tmp 11)⟩,
  ⟨some 112, none, .bin .neq (.tmp 111) (.cst (I 0))⟩,
  ⟨some 113, none, .mov (.tmp 112)⟩,
  ⟨some 114, some ((some 113), false), .mov (.tmp 13)⟩,
  ⟨some 115, some ((some 113), false), .bin .neq (.tmp 114) (.cst (I 0))⟩,
  ⟨some 116, none, .pick (.tmp 113) (.cst (.bool true)) (.tmp 115)⟩,
  ⟨some 117, none, .mov (.tmp 116)⟩,
  ⟨some 118, some ((some 117), false), .mov (.tmp 15)⟩,
  ⟨some 119, some ((some 117), false), .bin .neq (.tmp 118) (.cst (I 0))⟩,
  ⟨some 120, none, .pick (.tmp 117) (.cst (.bool true)) (.tmp 119)⟩,
  ⟨some 121, none, .mov (.tmp 120)⟩,
  ⟨some 122, some ((some 121), false), .mov (.tmp 17)⟩,
  ⟨some 123, some ((some 121), false), .bin .neq (.tmp 122) (.cst (I 0))⟩,
  ⟨some 124, none, .pick (.tmp 121) (.cst (.bool true)) (.tmp 123)⟩,
  ⟨some 125, none, .mov (.tmp 124)⟩,
  ⟨some 126, some ((some 125), false), .mov (.tmp 19)⟩,
  ⟨some 127, some ((some 125), false), .bin .neq (.tmp 126) (.cst (I 0))⟩,
  ⟨some 128, none, .pick (.tmp 125) (.cst (.bool true)) (.tmp 127)⟩,
  ⟨some 129, none, .mov (.tmp 128)⟩,
  ⟨some 130, some ((some 129), false), .load (some 2) (.tmp 10)⟩,
  ⟨some 131, some ((some 129), false), .fad (.tmp 8) 1⟩,
  ⟨some 132, some ((some 129), false), .load none (.tmp 131)⟩,
  ⟨some 133, some ((some 129), false), .neg (.tmp 132)⟩,
  ⟨some 134, some ((some 129), false), .fad (.tmp 8) 0⟩,
  ⟨some 135, some ((some 129), false), .load none (.tmp 134)⟩,
  ⟨some 136, some ((some 129), false), .neg (.tmp 135)⟩,
  ⟨some 137, some ((some 129), false), .call (.cst (.fn (.func 49) [] [])) [(.tmp 133), (.tmp 136)]⟩,
  ⟨some 138, some ((some 129), false), .eqa 2 true (.tmp 130) (.tmp 137)⟩,
  ⟨some 139, none, .pick (.tmp 129) (.cst (.bool true)) (.tmp 138)⟩])
 (.cond (.tmp 139) (.seq (.ops false [
  ⟨some 4, none, .mov (.cst (.bool false))⟩])
 .ret) .skip))
 (.seq (.ops true [
  ⟨some 140, none, .load (some 2) (.tmp 8)⟩,
  ⟨some 141, none, .load (some 2) (.tmp 12)⟩,
  ⟨some 142, none, .load (some 2) (.tmp 14)⟩,
  ⟨some 143, none, .call (.cst (.fn (.func 50) [] [])) [(.tmp 141), (.tmp 142)]⟩,
  ⟨some 144, none, .call (.cst (.fn (.func 48) [] [])) [(.tmp 140), (.tmp 143)]⟩,
  ⟨some 145, none, .mov (.tmp 144)⟩,
  ⟨some 146, some ((some 145), true), .load (some 2) (.tmp 8)⟩,
  ⟨some 147, some ((some 145), true), .fad (.tmp 18) 0⟩,
  ⟨some 148, some ((some 145), true), .load none (.tmp 147)⟩,
  ⟨some 149, some ((some 145), true), .fad (.tmp 16) 1⟩,
  ⟨some 150, some ((some 145), true), .load none (.tmp 149)⟩,
  ⟨some 151, some ((some 145), true), .bin .sub (.tmp 148) (.tmp 150)⟩,
  ⟨some 152, some ((some 145), true), .fad (.tmp 18) 1⟩,
  ⟨some 153, some ((some 145), true), .load none (.tmp 152)⟩,
  ⟨some 154, some ((some 145), true), .fad (.tmp 16) 0⟩,
  ⟨some 155, some ((some 145), true), .load none (.tmp 154)⟩,
  ⟨some 156, some ((some 145), true), .bin .sub (.tmp 153) (.tmp 155)⟩,
  ⟨some 157, some ((some 145), true), .call (.cst (.fn (.func 49) [] [])) [(.tmp 151), (.tmp 156)]⟩,
  ⟨some 158, some ((some 145), true), .call (.cst (.fn (.func 48) [] [])) [(.tmp 146), (.tmp 157)]⟩,
  ⟨some 159, none, .pick (.tmp 145) (.tmp 158) (.cst (.bool false))⟩,
  ⟨some 160, none, .mov (.tmp 159)⟩,
  ⟨some 161, some ((some 160), true), .call (.cst (.fn (.func 25) [] [])) []⟩,
  ⟨some 162, none, .pick (.tmp 160) (.tmp 161) (.cst (.bool false))⟩,
  ⟨some 4, none, .mov (.tmp 162)⟩])
 .ret))))))))))))⟩
theorem comp10 : compF Cv 10 = some code10 := by kernel_rfl
end Go.Ai
