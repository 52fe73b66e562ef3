/- This text shows the code of a law, by the kernel. No conditions of its own. -/
import Derived.Test.YtbjdaefdifofkaaDoorCodes
set_option linter.unusedSimpArgs false
set_option linter.unusedVariables false
set_option maxRecDepth 100000
namespace Go.Ai

def body8_0 : MC := (.seq (.seq (.ops false [
  ⟨some 122, none, .mov (.tmp 5)⟩,
  ⟨some 123, none, .mov (.tmp 6)⟩,
  ⟨some 124, none, .bin .neq (.tmp 122) (.tmp 123)⟩,
  ⟨some 125, none, .mov (.tmp 124)⟩,
  ⟨some 126, some ((some 125), true), .mov (.tmp 12)⟩,
  ⟨some 127, some ((some 125), true), .mov (.tmp 11)⟩,
  ⟨some 128, some ((some 125), true), .len (.tmp 127)⟩,
  ⟨some 129, some ((some 125), true), .bin .lss (.tmp 126) (.tmp 128)⟩,
  ⟨some 130, none, .pick (.tmp 125) (.tmp 129) (.cst (.bool false))⟩])
 (.cond (.tmp 130) .skip (.exit 0)))
 (.seq (.block 1 (.seq (.seq (.ops false [
  ⟨some 133, none, .mov (.tmp 11)⟩,
  ⟨some 134, none, .mov (.tmp 12)⟩,
  ⟨some 135, none, .ixs 1 (.tmp 133) (.tmp 134)⟩,
  ⟨some 136, none, .load none (.tmp 135)⟩,
  ⟨some 137, none, .call (.cst (.fn (.func 43) [] [])) [(.tmp 136), (.cst (I (-30))), (.cst (I 30))]⟩,
  ⟨some 138, none, .lnot (.tmp 137)⟩])
 (.cond (.tmp 138) (.exit 1) .skip))
 (.seq (.ops true [
  ⟨some 140, none, .load (some 6) (.tmp 2)⟩,
  ⟨some 141, none, .mov (.tmp 5)⟩,
  ⟨some 142, none, .mov (.tmp 6)⟩,
  ⟨some 143, none, .mov (.tmp 11)⟩,
  ⟨some 144, none, .mov (.tmp 12)⟩,
  ⟨some 145, none, .ixs 1 (.tmp 143) (.tmp 144)⟩,
  ⟨some 146, none, .load none (.tmp 145)⟩,
  ⟨some 147, none, .call (.cst (.fn (.func 46) [] [])) [(.tmp 141), (.tmp 142), (.tmp 146), (.cst (I 0))]⟩,
  ⟨some 148, none, .call (.cst (.fn (.func 31) [] [])) [(.tmp 140), (.tmp 147)]⟩,
  ⟨some 139, none, .mov (.tmp 148)⟩,
  ⟨some 149, none, .ext (.tmp 139) 0⟩,
  ⟨some 150, none, .ext (.tmp 139) 1⟩,
  ⟨some 13, none, .mov (.tmp 149)⟩,
  ⟨some 14, none, .mov (.tmp 150)⟩])
 (.seq (.ops true [
  ⟨some 152, none, .load (some 6) (.tmp 2)⟩,
  ⟨some 153, none, .mov (.tmp 5)⟩,
  ⟨some 154, none, .mov (.tmp 6)⟩,
  ⟨some 155, none, .mov (.tmp 11)⟩,
  ⟨some 156, none, .mov (.tmp 12)⟩,
  ⟨some 157, none, .ixs 1 (.tmp 155) (.tmp 156)⟩,
  ⟨some 158, none, .load none (.tmp 157)⟩,
  ⟨some 159, none, .call (.cst (.fn (.func 46) [] [])) [(.tmp 153), (.tmp 154), (.tmp 158), (.cst (I 0))]⟩,
  ⟨some 160, none, .call (.cst (.fn (.func 47) [] [])) [(.tmp 152), (.tmp 159)]⟩,
  ⟨some 161, none, .call (.cst (.fn (.func 15) [] [])) [(.tmp 160)]⟩,
  ⟨some 151, none, .mov (.tmp 161)⟩,
  ⟨some 162, none, .ext (.tmp 151) 0⟩,
  ⟨some 163, none, .ext (.tmp 151) 1⟩,
  ⟨some 15, none, .mov (.tmp 162)⟩,
  ⟨some 16, none, .mov (.tmp 163)⟩])
 (.seq (.ops false [
  ⟨some 164, none, .mov (.tmp 14)⟩,
  ⟨some 165, none, .bin .neq (.tmp 164) (.cst (I 0))⟩,
  ⟨some 166, none, .mov (.tmp 165)⟩,
  ⟨some 167, some ((some 166), false), .mov (.tmp 16)⟩,
  ⟨some 168, some ((some 166), false), .bin .neq (.tmp 167) (.cst (I 0))⟩,
  ⟨some 169, none, .pick (.tmp 166) (.cst (.bool true)) (.tmp 168)⟩,
  ⟨some 170, none, .mov (.tmp 169)⟩,
  ⟨some 171, some ((some 170), false), .mov (.tmp 13)⟩,
  ⟨some 172, some ((some 170), false), .load (some 2) (.tmp 7)⟩,
  ⟨some 173, some ((some 170), false), .mov (.tmp 11)⟩,
  ⟨some 174, some ((some 170), false), .mov (.tmp 12)⟩,
  ⟨some 175, some ((some 170), false), .ixs 1 (.tmp 173) (.tmp 174)⟩,
  ⟨some 176, some ((some 170), false), .load none (.tmp 175)⟩,
  ⟨some 177, some ((some 170), false), .call (.cst (.fn (.func 39) [] [])) [(.tmp 172), (.tmp 176)]⟩,
  ⟨some 178, some ((some 170), false), .beq true (.tmp 171) (.tmp 177)⟩,
  ⟨some 179, none, .pick (.tmp 170) (.cst (.bool true)) (.tmp 178)⟩,
  ⟨some 180, none, .mov (.tmp 179)⟩,
  ⟨some 181, some ((some 180), false), .mov (.tmp 15)⟩,
  ⟨some 182, some ((some 180), false), .mov (.tmp 13)⟩,
  ⟨some 183, some ((some 180), false), .beq true (.tmp 181) (.tmp 182)⟩,
  ⟨some 184, none, .pick (.tmp 180) (.cst (.bool true)) (.tmp 183)⟩])
 (.cond (.tmp 184) (.seq (.ops false [
  ⟨some 4, none, .mov (.cst (.bool false))⟩])
 .ret) .skip))))))
 (.ops false [
  ⟨some 131, none, .mov (.tmp 12)⟩,
  ⟨some 132, none, .bin .add (.tmp 131) (.cst (I 1))⟩,
  ⟨some 12, none, .mov (.tmp 132)⟩])))
def keep8_0 : Option (List Nat) := some [2, 5, 6, 7, 9, 11, 12]
def body8_1 : MC := (.seq (.seq (.ops false [
  ⟨some 196, none, .mov (.tmp 18)⟩,
  ⟨some 197, none, .mov (.tmp 17)⟩,
  ⟨some 198, none, .len (.tmp 197)⟩,
  ⟨some 199, none, .bin .lss (.tmp 196) (.tmp 198)⟩])
 (.cond (.tmp 199) .skip (.exit 2)))
 (.seq (.block 3 (.seq (.seq (.ops false [
  ⟨some 202, none, .mov (.tmp 17)⟩,
  ⟨some 203, none, .mov (.tmp 18)⟩,
  ⟨some 204, none, .ixs 1 (.tmp 202) (.tmp 203)⟩,
  ⟨some 205, none, .load none (.tmp 204)⟩,
  ⟨some 206, none, .call (.cst (.fn (.func 43) [] [])) [(.tmp 205), (.cst (I (-60))), (.cst (I 60))]⟩,
  ⟨some 207, none, .lnot (.tmp 206)⟩])
 (.cond (.tmp 207) (.exit 3) .skip))
 (.seq (.ops false [
  ⟨some 208, none, .load (some 6) (.tmp 2)⟩,
  ⟨some 19, none, .alloc [(I 0), .nils, .nils, .nils, (I 0), .nils]⟩,
  ⟨none, none, .store 6 (.tmp 19) (.tmp 208)⟩])
 (.seq (.ops false [
  ⟨some 209, none, .bsl 3 true (.agg [(I 0), (I 0), (I 0)]) 0 []⟩,
  ⟨some 210, none, .fad (.tmp 2) 2⟩,
  ⟨some 211, none, .load none (.tmp 210)⟩,
  ⟨some 212, none, .app false 3 24 true (.tmp 209) (.tmp 211)⟩,
  ⟨some 213, none, .mov (.tmp 5)⟩,
  ⟨some 214, none, .mov (.tmp 17)⟩,
  ⟨some 215, none, .mov (.tmp 18)⟩,
  ⟨some 216, none, .ixs 1 (.tmp 214) (.tmp 215)⟩,
  ⟨some 217, none, .load none (.tmp 216)⟩,
  ⟨some 218, none, .bld [(I 0), (I 0), (I 0)] [(0, 1, (.tmp 213)), (1, 1, (.tmp 217))]⟩,
  ⟨some 219, none, .bsl 3 true (.agg [(I 0), (I 0), (I 0)]) 1 [(0, (.tmp 218))]⟩,
  ⟨some 220, none, .app false 3 24 true (.tmp 212) (.tmp 219)⟩,
  ⟨some 221, none, .fad (.tmp 19) 2⟩,
  ⟨none, none, .store 1 (.tmp 221) (.tmp 220)⟩])
 (.seq (.ops false [
  ⟨some 223, none, .load (some 6) (.tmp 19)⟩,
  ⟨some 224, none, .call (.cst (.fn (.func 15) [] [])) [(.tmp 223)]⟩,
  ⟨some 222, none, .mov (.tmp 224)⟩,
  ⟨some 225, none, .ext (.tmp 222) 0⟩,
  ⟨some 226, none, .ext (.tmp 222) 1⟩,
  ⟨some 20, none, .mov (.tmp 225)⟩,
  ⟨some 21, none, .mov (.tmp 226)⟩])
 (.seq (.ops false [
  ⟨some 227, none, .mov (.tmp 21)⟩,
  ⟨some 228, none, .bin .neq (.tmp 227) (.cst (I 0))⟩,
  ⟨some 229, none, .mov (.tmp 228)⟩,
  ⟨some 230, some ((some 229), false), .mov (.tmp 20)⟩,
  ⟨some 231, some ((some 229), false), .mov (.tmp 18)⟩,
  ⟨some 232, some ((some 229), false), .bin .lss (.tmp 231) (.cst (I 2))⟩,
  ⟨some 233, some ((some 229), false), .beq true (.tmp 230) (.tmp 232)⟩,
  ⟨some 234, none, .pick (.tmp 229) (.cst (.bool true)) (.tmp 233)⟩])
 (.cond (.tmp 234) (.seq (.ops false [
  ⟨some 4, none, .mov (.cst (.bool false))⟩])
 .ret) .skip)))))))
 (.ops false [
  ⟨some 200, none, .mov (.tmp 18)⟩,
  ⟨some 201, none, .bin .add (.tmp 200) (.cst (I 1))⟩,
  ⟨some 18, none, .mov (.tmp 201)⟩])))
def keep8_1 : Option (List Nat) := some [2, 5, 17, 18]
def code8 : MF := ⟨236, [(4, none)], (.seq (.ops false [
  ⟨some 2, none, .box (.tmp 0)⟩,
  ⟨some 3, none, .box (.tmp 1)⟩,
  ⟨some 4, none, .mov (.cst (.bool false))⟩])
 (.seq (.seq (.ops false [
  ⟨some 22, none, .load (some 6) (.tmp 2)⟩,
  ⟨some 23, none, .call (.cst (.fn (.func 35) [] [])) [(.tmp 22)]⟩,
  ⟨some 24, none, .lnot (.tmp 23)⟩,
  ⟨some 25, none, .mov (.tmp 24)⟩,
  ⟨some 26, some ((some 25), false), .fad (.tmp 2) 1⟩,
  ⟨some 27, some ((some 25), false), .load none (.tmp 26)⟩,
  ⟨some 28, some ((some 25), false), .len (.tmp 27)⟩,
  ⟨some 29, some ((some 25), false), .bin .eql (.tmp 28) (.cst (I 6))⟩,
  ⟨some 30, none, .pick (.tmp 25) (.cst (.bool true)) (.tmp 29)⟩,
  ⟨some 31, none, .mov (.tmp 30)⟩,
  ⟨some 32, some ((some 31), false), .fad (.tmp 2) 2⟩,
  ⟨some 33, some ((some 31), false), .load none (.tmp 32)⟩,
  ⟨some 34, some ((some 31), false), .len (.tmp 33)⟩,
  ⟨some 35, some ((some 31), false), .bin .eql (.tmp 34) (.cst (I 3))⟩,
  ⟨some 36, none, .pick (.tmp 31) (.cst (.bool true)) (.tmp 35)⟩])
 (.cond (.tmp 36) (.seq (.ops false [
  ⟨some 37, none, .call (.cst (.fn (.func 25) [] [])) []⟩,
  ⟨some 4, none, .mov (.tmp 37)⟩])
 .ret) .skip))
 (.seq (.ops true [
  ⟨some 38, none, .ixa 3 1 (.tmp 3) (.cst (I 0))⟩,
  ⟨some 39, none, .load none (.tmp 38)⟩,
  ⟨some 40, none, .fad (.tmp 2) 0⟩,
  ⟨some 41, none, .load none (.tmp 40)⟩,
  ⟨some 42, none, .call (.cst (.fn (.func 38) [] [])) [(.tmp 39), (.tmp 41)]⟩,
  ⟨some 43, none, .ixa 3 1 (.tmp 3) (.cst (I 1))⟩,
  ⟨some 44, none, .load none (.tmp 43)⟩,
  ⟨some 45, none, .fad (.tmp 2) 0⟩,
  ⟨some 46, none, .load none (.tmp 45)⟩,
  ⟨some 47, none, .call (.cst (.fn (.func 38) [] [])) [(.tmp 44), (.tmp 46)]⟩,
  ⟨some 5, none, .mov (.tmp 42)⟩,
  ⟨some 6, none, .mov (.tmp 47)⟩])
 (.seq (.ops false [
  ⟨some 49, none, .load (some 6) (.tmp 2)⟩,
  ⟨some 50, none, .mov (.tmp 5)⟩,
  ⟨some 51, none, .mov (.tmp 6)⟩,
  ⟨some 52, none, .call (.cst (.fn (.func 21) [] [])) [(.tmp 49), (.tmp 50), (.tmp 51)]⟩,
  ⟨some 48, none, .mov (.tmp 52)⟩,
  ⟨some 53, none, .ext (.tmp 48) 0⟩,
  ⟨some 54, none, .ext (.tmp 48) 1⟩,
  ⟨some 7, none, .alloc [(I 0), (I 0)]⟩,
  ⟨none, none, .store 2 (.tmp 7) (.tmp 53)⟩,
  ⟨some 8, none, .mov (.tmp 54)⟩])
 (.seq (.ops false [
  ⟨some 56, none, .load (some 6) (.tmp 2)⟩,
  ⟨some 57, none, .mov (.tmp 5)⟩,
  ⟨some 58, none, .call (.cst (.fn (.func 19) [] [])) [(.tmp 56), (.tmp 57)]⟩,
  ⟨some 55, none, .mov (.tmp 58)⟩,
  ⟨some 59, none, .ext (.tmp 55) 0⟩,
  ⟨some 60, none, .ext (.tmp 55) 1⟩,
  ⟨some 9, none, .alloc [(I 0), (I 0)]⟩,
  ⟨none, none, .store 2 (.tmp 9) (.tmp 59)⟩,
  ⟨some 10, none, .mov (.tmp 60)⟩])
 (.seq (.seq (.ops false [
  ⟨some 61, none, .mov (.tmp 8)⟩,
  ⟨some 62, none, .bin .neq (.tmp 61) (.cst (I 0))⟩])
 (.cond (.tmp 62) (.seq (.ops true [
  ⟨some 63, none, .mov (.tmp 8)⟩,
  ⟨some 64, none, .bin .eql (.tmp 63) (.cst (I 82))⟩,
  ⟨some 65, none, .mov (.tmp 64)⟩,
  ⟨some 66, some ((some 65), true), .mov (.tmp 10)⟩,
  ⟨some 67, some ((some 65), true), .mov (.tmp 8)⟩,
  ⟨some 68, some ((some 65), true), .bin .eql (.tmp 66) (.tmp 67)⟩,
  ⟨some 69, none, .pick (.tmp 65) (.tmp 68) (.cst (.bool false))⟩,
  ⟨some 70, none, .mov (.tmp 69)⟩,
  ⟨some 71, some ((some 70), true), .load (some 2) (.tmp 7)⟩,
  ⟨some 72, some ((some 70), true), .call (.cst (.fn (.func 44) [] [])) [(.cst (I 0))]⟩,
  ⟨some 73, some ((some 70), true), .eqa 2 false (.tmp 71) (.tmp 72)⟩,
  ⟨some 74, none, .pick (.tmp 70) (.tmp 73) (.cst (.bool false))⟩,
  ⟨some 75, none, .mov (.tmp 74)⟩,
  ⟨some 76, some ((some 75), true), .load (some 2) (.tmp 9)⟩,
  ⟨some 77, some ((some 75), true), .load (some 2) (.tmp 7)⟩,
  ⟨some 78, some ((some 75), true), .eqa 2 false (.tmp 76) (.tmp 77)⟩,
  ⟨some 79, none, .pick (.tmp 75) (.tmp 78) (.cst (.bool false))⟩,
  ⟨some 80, none, .mov (.tmp 79)⟩,
  ⟨some 81, some ((some 80), true), .call (.cst (.fn (.func 25) [] [])) []⟩,
  ⟨some 82, none, .pick (.tmp 80) (.tmp 81) (.cst (.bool false))⟩,
  ⟨some 4, none, .mov (.tmp 82)⟩])
 .ret) .skip))
 (.seq (.seq (.ops true [
  ⟨some 83, none, .mov (.tmp 10)⟩,
  ⟨some 84, none, .bin .neq (.tmp 83) (.cst (I 0))⟩,
  ⟨some 85, none, .mov (.tmp 84)⟩,
  ⟨some 86, some ((some 85), false), .fad (.tmp 7) 0⟩,
  ⟨some 87, some ((some 85), false), .load none (.tmp 86)⟩,
  ⟨some 88, some ((some 85), false), .fad (.tmp 7) 1⟩,
  ⟨some 89, some ((some 85), false), .load none (.tmp 88)⟩,
  ⟨some 90, some ((some 85), false), .bin .gtr (.tmp 87) (.tmp 89)⟩,
  ⟨some 91, none, .pick (.tmp 85) (.cst (.bool true)) (.tmp 90)⟩,
  ⟨some 92, none, .mov (.tmp 91)⟩,
  ⟨some 93, some ((some 92), false), .load (some 2) (.tmp 9)⟩,
  ⟨some 94, some ((some 92), false), .call (.cst (.fn (.func 45) [] [])) [(.tmp 93), (.cst (I (-60))), (.cst (I 60)), (.cst (I 120))]⟩,
  ⟨some 95, some ((some 92), false), .lnot (.tmp 94)⟩,
  ⟨some 96, none, .pick (.tmp 92) (.cst (.bool true)) (.tmp 95)⟩,
  ⟨some 97, none, .mov (.tmp 96)⟩,
  ⟨some 98, some ((some 97), false), .mov (.tmp 5)⟩,
  ⟨some 99, some ((some 97), false), .mov (.tmp 6)⟩,
  ⟨some 100, some ((some 97), false), .bin .eql (.tmp 98) (.tmp 99)⟩,
  ⟨some 101, some ((some 97), false), .mov (.tmp 100)⟩,
  ⟨some 102, some ((some 101), true), .load (some 2) (.tmp 7)⟩,
  ⟨some 103, some ((some 101), true), .call (.cst (.fn (.func 44) [] [])) [(.cst (I 0))]⟩,
  ⟨some 104, some ((some 101), true), .eqa 2 true (.tmp 102) (.tmp 103)⟩,
  ⟨some 105, some ((some 97), false), .pick (.tmp 101) (.tmp 104) (.cst (.bool false))⟩,
  ⟨some 106, none, .pick (.tmp 97) (.cst (.bool true)) (.tmp 105)⟩])
 (.cond (.tmp 106) (.seq (.ops false [
  ⟨some 4, none, .mov (.cst (.bool false))⟩])
 .ret) .skip))
 (.seq (.ops true [
  ⟨some 107, none, .fad (.tmp 7) 0⟩,
  ⟨some 108, none, .load none (.tmp 107)⟩,
  ⟨some 109, none, .fad (.tmp 7) 1⟩,
  ⟨some 110, none, .load none (.tmp 109)⟩,
  ⟨some 111, none, .fad (.tmp 7) 0⟩,
  ⟨some 112, none, .load none (.tmp 111)⟩,
  ⟨some 113, none, .bin .sub (.tmp 112) (.cst (I 1))⟩,
  ⟨some 114, none, .fad (.tmp 7) 1⟩,
  ⟨some 115, none, .load none (.tmp 114)⟩,
  ⟨some 116, none, .bin .add (.tmp 115) (.cst (I 1))⟩,
  ⟨some 117, none, .ixa 3 1 (.tmp 3) (.cst (I 2))⟩,
  ⟨some 118, none, .load none (.tmp 117)⟩,
  ⟨some 119, none, .call (.cst (.fn (.func 38) [] [])) [(.tmp 118), (.cst (I 61))]⟩,
  ⟨some 120, none, .bin .sub (.tmp 119) (.cst (I 30))⟩,
  ⟨some 121, none, .bsl 1 false (I 0) 5 [(0, (.tmp 108)), (1, (.tmp 110)), (2, (.tmp 113)), (3, (.tmp 116)), (4, (.tmp 120))]⟩,
  ⟨some 11, none, .mov (.tmp 121)⟩])
 (.seq (.seq (.ops false [
  ⟨some 12, none, .mov (.cst (I 0))⟩])
 (.block 0 (.loop keep8_0 body8_0)))
 (.seq (.ops false [
  ⟨some 185, none, .fad (.tmp 9) 0⟩,
  ⟨some 186, none, .load none (.tmp 185)⟩,
  ⟨some 187, none, .fad (.tmp 9) 1⟩,
  ⟨some 188, none, .load none (.tmp 187)⟩,
  ⟨some 189, none, .fad (.tmp 9) 0⟩,
  ⟨some 190, none, .load none (.tmp 189)⟩,
  ⟨some 191, none, .bin .sub (.tmp 190) (.cst (I 1))⟩,
  ⟨some 192, none, .fad (.tmp 9) 1⟩,
  ⟨some 193, none, .load none (.tmp 192)⟩,
  ⟨some 194, none, .bin .add (.tmp 193) (.cst (I 1))⟩,
  ⟨some 195, none, .bsl 1 false (I 0) 4 [(0, (.tmp 186)), (1, (.tmp 188)), (2, (.tmp 191)), (3, (.tmp 194))]⟩,
  ⟨some 17, none, .mov (.tmp 195)⟩])
 (.seq (.seq (.ops false [
  ⟨some 18, none, .mov (.cst (I 0))⟩])
 (.block 2 (.loop keep8_1 body8_1)))
 (.seq (.ops false [
  ⟨some 235, none, .call (.cst (.fn (.func 25) [] [])) []⟩,
  ⟨some 4, none, .mov (.tmp 235)⟩])
 .ret))))))))))))⟩
theorem comp8 : compF Cv 8 = some code8 := by kernel_rfl
end Go.Ai
