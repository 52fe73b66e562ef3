/- This text shows the code of a law, by the kernel. No conditions of its own. -/
import Derived.Test.YtbjdaefdifofkaaDoorCodes
set_option linter.unusedSimpArgs false
set_option linter.unusedVariables false
set_option maxRecDepth 100000
namespace Go.Ai

def body7_0 : MC := (.seq (.seq (.ops false [
  ⟨some 133, none, .mov (.tmp 16)⟩,
  ⟨some 134, none, .fad (.tmp 8) 1⟩,
  ⟨some 135, none, .fad (.tmp 134) 1⟩,
  ⟨some 136, none, .load none (.tmp 135)⟩,
  ⟨some 137, none, .mov (.tmp 6)⟩,
  ⟨some 138, none, .bin .add (.tmp 136) (.tmp 137)⟩,
  ⟨some 139, none, .fad (.tmp 13) 1⟩,
  ⟨some 140, none, .load none (.tmp 139)⟩,
  ⟨some 141, none, .bin .add (.tmp 138) (.tmp 140)⟩,
  ⟨some 142, none, .bin .leq (.tmp 133) (.tmp 141)⟩])
 (.cond (.tmp 142) .skip (.exit 0)))
 (.seq (.block 1 (.seq (.ops false [
  ⟨some 146, none, .fad (.tmp 2) 3⟩,
  ⟨some 147, none, .load (some 3) (.tmp 146)⟩,
  ⟨some 148, none, .fad (.tmp 8) 0⟩,
  ⟨some 149, none, .load none (.tmp 148)⟩,
  ⟨some 150, none, .mov (.tmp 5)⟩,
  ⟨some 151, none, .mov (.tmp 16)⟩,
  ⟨some 152, none, .call (.cst (.fn (.func 41) [] [])) [(.tmp 147), (.tmp 149), (.tmp 150), (.tmp 151)]⟩,
  ⟨some 145, none, .mov (.tmp 152)⟩,
  ⟨some 153, none, .ext (.tmp 145) 0⟩,
  ⟨some 154, none, .ext (.tmp 145) 1⟩,
  ⟨some 17, none, .mov (.tmp 153)⟩,
  ⟨some 18, none, .mov (.tmp 154)⟩])
 (.ops false [
  ⟨some 155, none, .mov (.tmp 15)⟩,
  ⟨some 156, none, .mov (.tmp 155)⟩,
  ⟨some 157, some ((some 156), true), .mov (.tmp 18)⟩,
  ⟨some 158, some ((some 156), true), .bin .eql (.tmp 157) (.cst (I 0))⟩,
  ⟨some 159, none, .pick (.tmp 156) (.tmp 158) (.cst (.bool false))⟩,
  ⟨some 160, none, .mov (.tmp 159)⟩,
  ⟨some 161, some ((some 160), true), .mov (.tmp 17)⟩,
  ⟨some 162, some ((some 160), true), .bin .eql (.tmp 161) (.cst (I 2))⟩,
  ⟨some 163, none, .pick (.tmp 160) (.tmp 162) (.cst (.bool false))⟩,
  ⟨some 15, none, .mov (.tmp 163)⟩])))
 (.ops false [
  ⟨some 143, none, .mov (.tmp 16)⟩,
  ⟨some 144, none, .bin .add (.tmp 143) (.cst (I 1))⟩,
  ⟨some 16, none, .mov (.tmp 144)⟩])))
def keep7_0 : Option (List Nat) := some [2, 5, 6, 8, 9, 11, 12, 13, 15, 16]
def body7_1 : MC := (.seq (.seq (.ops false [
  ⟨some 170, none, .mov (.tmp 21)⟩,
  ⟨some 171, none, .mov (.tmp 9)⟩,
  ⟨some 172, none, .len (.tmp 171)⟩,
  ⟨some 173, none, .bin .lss (.tmp 170) (.tmp 172)⟩])
 (.cond (.tmp 173) .skip (.exit 2)))
 (.seq (.block 3 (.seq (.seq (.ops false [
  ⟨some 176, none, .mov (.tmp 9)⟩,
  ⟨some 177, none, .mov (.tmp 21)⟩,
  ⟨some 178, none, .ixs 1 (.tmp 176) (.tmp 177)⟩,
  ⟨some 179, none, .load none (.tmp 178)⟩,
  ⟨some 180, none, .call (.cst (.fn (.func 43) [] [])) [(.tmp 179), (.cst (I (-6))), (.cst (I 6))]⟩,
  ⟨some 181, none, .lnot (.tmp 180)⟩,
  ⟨some 182, none, .mov (.tmp 181)⟩,
  ⟨some 183, some ((some 182), false), .mov (.tmp 21)⟩,
  ⟨some 184, some ((some 182), false), .bin .gtr (.tmp 183) (.cst (I 0))⟩,
  ⟨some 185, some ((some 182), false), .mov (.tmp 184)⟩,
  ⟨some 186, some ((some 185), true), .mov (.tmp 9)⟩,
  ⟨some 187, some ((some 185), true), .mov (.tmp 21)⟩,
  ⟨some 188, some ((some 185), true), .ixs 1 (.tmp 186) (.tmp 187)⟩,
  ⟨some 189, some ((some 185), true), .load none (.tmp 188)⟩,
  ⟨some 190, some ((some 185), true), .mov (.tmp 9)⟩,
  ⟨some 191, some ((some 185), true), .mov (.tmp 21)⟩,
  ⟨some 192, some ((some 185), true), .bin .sub (.tmp 191) (.cst (I 1))⟩,
  ⟨some 193, some ((some 185), true), .ixs 1 (.tmp 190) (.tmp 192)⟩,
  ⟨some 194, some ((some 185), true), .load none (.tmp 193)⟩,
  ⟨some 195, some ((some 185), true), .bin .leq (.tmp 189) (.tmp 194)⟩,
  ⟨some 196, some ((some 182), false), .pick (.tmp 185) (.tmp 195) (.cst (.bool false))⟩,
  ⟨some 197, none, .pick (.tmp 182) (.cst (.bool true)) (.tmp 196)⟩])
 (.cond (.tmp 197) (.seq (.ops false [
  ⟨some 4, none, .mov (.cst (.bool false))⟩])
 .ret) .skip))
 (.seq (.ops false [
  ⟨some 198, none, .mov (.tmp 20)⟩,
  ⟨some 199, none, .lnot (.tmp 198)⟩,
  ⟨some 200, none, .mov (.tmp 199)⟩,
  ⟨some 201, some ((some 200), false), .mov (.tmp 9)⟩,
  ⟨some 202, some ((some 200), false), .mov (.tmp 21)⟩,
  ⟨some 203, some ((some 200), false), .ixs 1 (.tmp 201) (.tmp 202)⟩,
  ⟨some 204, some ((some 200), false), .load none (.tmp 203)⟩,
  ⟨some 205, some ((some 200), false), .mov (.tmp 9)⟩,
  ⟨some 206, some ((some 200), false), .mov (.tmp 21)⟩,
  ⟨some 207, some ((some 200), false), .ixs 1 (.tmp 205) (.tmp 206)⟩,
  ⟨some 208, some ((some 200), false), .load none (.tmp 207)⟩,
  ⟨some 209, some ((some 200), false), .neg (.tmp 208)⟩,
  ⟨some 210, some ((some 200), false), .mx (.tmp 204) [(.tmp 209)]⟩,
  ⟨some 211, some ((some 200), false), .mov (.tmp 19)⟩,
  ⟨some 212, some ((some 200), false), .mov (.tmp 19)⟩,
  ⟨some 213, some ((some 200), false), .neg (.tmp 212)⟩,
  ⟨some 214, some ((some 200), false), .mx (.tmp 211) [(.tmp 213)]⟩,
  ⟨some 215, some ((some 200), false), .bin .lss (.tmp 210) (.tmp 214)⟩,
  ⟨some 216, none, .pick (.tmp 200) (.cst (.bool true)) (.tmp 215)⟩])
 (.cond (.tmp 216) (.ops false [
  ⟨some 217, none, .mov (.tmp 9)⟩,
  ⟨some 218, none, .mov (.tmp 21)⟩,
  ⟨some 219, none, .ixs 1 (.tmp 217) (.tmp 218)⟩,
  ⟨some 220, none, .load none (.tmp 219)⟩,
  ⟨some 19, none, .mov (.tmp 220)⟩,
  ⟨some 20, none, .mov (.cst (.bool true))⟩]) .skip))))
 (.ops false [
  ⟨some 174, none, .mov (.tmp 21)⟩,
  ⟨some 175, none, .bin .add (.tmp 174) (.cst (I 1))⟩,
  ⟨some 21, none, .mov (.tmp 175)⟩])))
def keep7_1 : Option (List Nat) := some [9, 11, 12, 19, 20, 21]
def code7 : MF := ⟨242, [(4, none)], (.seq (.ops false [
  ⟨some 2, none, .box (.tmp 0)⟩,
  ⟨some 3, none, .box (.tmp 1)⟩,
  ⟨some 4, none, .mov (.cst (.bool false))⟩])
 (.seq (.seq (.ops false [
  ⟨some 22, none, .load (some 6) (.tmp 2)⟩,
  ⟨some 23, none, .call (.cst (.fn (.func 35) [] [])) [(.tmp 22)]⟩,
  ⟨some 24, none, .lnot (.tmp 23)⟩])
 (.cond (.tmp 24) (.seq (.ops false [
  ⟨some 25, none, .call (.cst (.fn (.func 25) [] [])) []⟩,
  ⟨some 4, none, .mov (.tmp 25)⟩])
 .ret) .skip))
 (.seq (.ops true [
  ⟨some 26, none, .ixa 5 1 (.tmp 3) (.cst (I 0))⟩,
  ⟨some 27, none, .load none (.tmp 26)⟩,
  ⟨some 28, none, .fad (.tmp 2) 3⟩,
  ⟨some 29, none, .fad (.tmp 28) 1⟩,
  ⟨some 30, none, .load none (.tmp 29)⟩,
  ⟨some 31, none, .call (.cst (.fn (.func 38) [] [])) [(.tmp 27), (.tmp 30)]⟩,
  ⟨some 32, none, .ixa 5 1 (.tmp 3) (.cst (I 1))⟩,
  ⟨some 33, none, .load none (.tmp 32)⟩,
  ⟨some 34, none, .call (.cst (.fn (.func 38) [] [])) [(.tmp 33), (.cst (I 13))]⟩,
  ⟨some 35, none, .bin .sub (.tmp 34) (.cst (I 6))⟩,
  ⟨some 36, none, .ixa 5 1 (.tmp 3) (.cst (I 3))⟩,
  ⟨some 37, none, .load none (.tmp 36)⟩,
  ⟨some 38, none, .call (.cst (.fn (.func 38) [] [])) [(.tmp 37), (.cst (I 41))]⟩,
  ⟨some 5, none, .mov (.tmp 31)⟩,
  ⟨some 6, none, .mov (.tmp 35)⟩,
  ⟨some 7, none, .mov (.tmp 38)⟩])
 (.seq (.ops true [
  ⟨some 39, none, .ixa 5 1 (.tmp 3) (.cst (I 2))⟩,
  ⟨some 40, none, .load none (.tmp 39)⟩,
  ⟨some 41, none, .fad (.tmp 2) 3⟩,
  ⟨some 42, none, .fad (.tmp 41) 0⟩,
  ⟨some 43, none, .load none (.tmp 42)⟩,
  ⟨some 44, none, .len (.tmp 43)⟩,
  ⟨some 45, none, .call (.cst (.fn (.func 38) [] [])) [(.tmp 40), (.tmp 44)]⟩,
  ⟨some 46, none, .mov (.tmp 7)⟩,
  ⟨some 47, none, .mov (.tmp 7)⟩,
  ⟨some 48, none, .ixa 5 1 (.tmp 3) (.cst (I 4))⟩,
  ⟨some 49, none, .load none (.tmp 48)⟩,
  ⟨some 50, none, .call (.cst (.fn (.func 38) [] [])) [(.tmp 49), (.cst (I 8))]⟩,
  ⟨some 51, none, .bin .add (.tmp 47) (.tmp 50)⟩,
  ⟨some 52, none, .mn (.cst (I 40)) [(.tmp 51)]⟩,
  ⟨some 53, none, .call (.cst (.fn (.func 40) [] [])) [(.tmp 45), (.tmp 46), (.tmp 52)]⟩,
  ⟨some 8, none, .alloc [(I 0), (I 0), (I 0)]⟩,
  ⟨none, none, .store 3 (.tmp 8) (.tmp 53)⟩])
 (.seq (.ops false [
  ⟨some 55, none, .load (some 6) (.tmp 2)⟩,
  ⟨some 56, none, .mov (.tmp 5)⟩,
  ⟨some 57, none, .load (some 3) (.tmp 8)⟩,
  ⟨some 58, none, .bsl 3 true (.agg [(I 0), (I 0), (I 0)]) 1 [(0, (.tmp 57))]⟩,
  ⟨some 59, none, .call (.cst (.fn (.func 26) [] [])) [(.tmp 55), (.tmp 56), (.tmp 58)]⟩,
  ⟨some 54, none, .mov (.tmp 59)⟩,
  ⟨some 60, none, .ext (.tmp 54) 0⟩,
  ⟨some 61, none, .ext (.tmp 54) 1⟩,
  ⟨some 9, none, .mov (.tmp 60)⟩,
  ⟨some 10, none, .mov (.tmp 61)⟩])
 (.seq (.ops false [
  ⟨some 63, none, .load (some 6) (.tmp 2)⟩,
  ⟨some 64, none, .mov (.tmp 5)⟩,
  ⟨some 65, none, .load (some 3) (.tmp 8)⟩,
  ⟨some 66, none, .bsl 3 true (.agg [(I 0), (I 0), (I 0)]) 1 [(0, (.tmp 65))]⟩,
  ⟨some 67, none, .call (.cst (.fn (.func 29) [] [])) [(.tmp 63), (.tmp 64), (.tmp 66)]⟩,
  ⟨some 62, none, .mov (.tmp 67)⟩,
  ⟨some 68, none, .ext (.tmp 62) 0⟩,
  ⟨some 69, none, .ext (.tmp 62) 1⟩,
  ⟨some 11, none, .mov (.tmp 68)⟩,
  ⟨some 12, none, .mov (.tmp 69)⟩])
 (.seq (.ops false [
  ⟨some 71, none, .load (some 6) (.tmp 2)⟩,
  ⟨some 72, none, .call (.cst (.fn (.func 23) [] [])) [(.tmp 71)]⟩,
  ⟨some 70, none, .mov (.tmp 72)⟩,
  ⟨some 73, none, .ext (.tmp 70) 0⟩,
  ⟨some 74, none, .ext (.tmp 70) 1⟩,
  ⟨some 13, none, .alloc [(I 0), (I 0)]⟩,
  ⟨none, none, .store 2 (.tmp 13) (.tmp 73)⟩,
  ⟨some 14, none, .mov (.tmp 74)⟩])
 (.seq (.seq (.ops false [
  ⟨some 75, none, .mov (.tmp 10)⟩,
  ⟨some 76, none, .bin .neq (.tmp 75) (.cst (I 0))⟩])
 (.cond (.tmp 76) (.seq (.ops false [
  ⟨some 77, none, .mov (.tmp 10)⟩,
  ⟨some 78, none, .bin .eql (.tmp 77) (.cst (I 82))⟩,
  ⟨some 79, none, .mov (.tmp 78)⟩,
  ⟨some 80, some ((some 79), true), .mov (.tmp 12)⟩,
  ⟨some 81, some ((some 79), true), .mov (.tmp 10)⟩,
  ⟨some 82, some ((some 79), true), .bin .eql (.tmp 80) (.tmp 81)⟩,
  ⟨some 83, none, .pick (.tmp 79) (.tmp 82) (.cst (.bool false))⟩,
  ⟨some 84, none, .mov (.tmp 83)⟩,
  ⟨some 85, some ((some 84), true), .mov (.tmp 14)⟩,
  ⟨some 86, some ((some 84), true), .mov (.tmp 10)⟩,
  ⟨some 87, some ((some 84), true), .bin .eql (.tmp 85) (.tmp 86)⟩,
  ⟨some 88, none, .pick (.tmp 84) (.tmp 87) (.cst (.bool false))⟩,
  ⟨some 89, none, .mov (.tmp 88)⟩,
  ⟨some 90, some ((some 89), true), .mov (.tmp 11)⟩,
  ⟨some 91, some ((some 89), true), .bin .eql (.tmp 90) (.cst (I 0))⟩,
  ⟨some 92, none, .pick (.tmp 89) (.tmp 91) (.cst (.bool false))⟩,
  ⟨some 93, none, .mov (.tmp 92)⟩,
  ⟨some 94, some ((some 93), true), .mov (.tmp 9)⟩,
  ⟨some 95, some ((some 93), true), .len (.tmp 94)⟩,
  ⟨some 96, some ((some 93), true), .bin .eql (.tmp 95) (.cst (I 0))⟩,
  ⟨some 97, none, .pick (.tmp 93) (.tmp 96) (.cst (.bool false))⟩,
  ⟨some 98, none, .mov (.tmp 97)⟩,
  ⟨some 99, some ((some 98), true), .call (.cst (.fn (.func 25) [] [])) []⟩,
  ⟨some 100, none, .pick (.tmp 98) (.tmp 99) (.cst (.bool false))⟩,
  ⟨some 4, none, .mov (.tmp 100)⟩])
 .ret) .skip))
 (.seq (.seq (.ops false [
  ⟨some 101, none, .mov (.tmp 14)⟩,
  ⟨some 102, none, .bin .neq (.tmp 101) (.cst (I 0))⟩,
  ⟨some 103, none, .mov (.tmp 102)⟩,
  ⟨some 104, some ((some 103), false), .fad (.tmp 13) 0⟩,
  ⟨some 105, some ((some 103), false), .load none (.tmp 104)⟩,
  ⟨some 106, some ((some 103), false), .bin .lss (.tmp 105) (.cst (I (-6)))⟩,
  ⟨some 107, none, .pick (.tmp 103) (.cst (.bool true)) (.tmp 106)⟩,
  ⟨some 108, none, .mov (.tmp 107)⟩,
  ⟨some 109, some ((some 108), false), .fad (.tmp 13) 1⟩,
  ⟨some 110, some ((some 108), false), .load none (.tmp 109)⟩,
  ⟨some 111, some ((some 108), false), .bin .gtr (.tmp 110) (.cst (I 6))⟩,
  ⟨some 112, none, .pick (.tmp 108) (.cst (.bool true)) (.tmp 111)⟩,
  ⟨some 113, none, .mov (.tmp 112)⟩,
  ⟨some 114, some ((some 113), false), .fad (.tmp 13) 0⟩,
  ⟨some 115, some ((some 113), false), .load none (.tmp 114)⟩,
  ⟨some 116, some ((some 113), false), .fad (.tmp 13) 1⟩,
  ⟨some 117, some ((some 113), false), .load none (.tmp 116)⟩,
  ⟨some 118, some ((some 113), false), .bin .gtr (.tmp 115) (.tmp 117)⟩,
  ⟨some 119, none, .pick (.tmp 113) (.cst (.bool true)) (.tmp 118)⟩,
  ⟨some 120, none, .mov (.tmp 119)⟩,
  ⟨some 121, some ((some 120), false), .mov (.tmp 9)⟩,
  ⟨some 122, some ((some 120), false), .len (.tmp 121)⟩,
  ⟨some 123, some ((some 120), false), .bin .gtr (.tmp 122) (.cst (I 13))⟩,
  ⟨some 124, none, .pick (.tmp 120) (.cst (.bool true)) (.tmp 123)⟩])
 (.cond (.tmp 124) (.seq (.ops false [
  ⟨some 4, none, .mov (.cst (.bool false))⟩])
 .ret) .skip))
 (.seq (.ops false [
  ⟨some 15, none, .mov (.cst (.bool true))⟩])
 (.seq (.seq (.ops false [
  ⟨some 125, none, .fad (.tmp 8) 1⟩,
  ⟨some 126, none, .fad (.tmp 125) 0⟩,
  ⟨some 127, none, .load none (.tmp 126)⟩,
  ⟨some 128, none, .mov (.tmp 6)⟩,
  ⟨some 129, none, .bin .add (.tmp 127) (.tmp 128)⟩,
  ⟨some 130, none, .fad (.tmp 13) 0⟩,
  ⟨some 131, none, .load none (.tmp 130)⟩,
  ⟨some 132, none, .bin .add (.tmp 129) (.tmp 131)⟩,
  ⟨some 16, none, .mov (.tmp 132)⟩])
 (.block 0 (.loop keep7_0 body7_0)))
 (.seq (.seq (.ops false [
  ⟨some 164, none, .mov (.tmp 15)⟩,
  ⟨some 165, none, .mov (.tmp 9)⟩,
  ⟨some 166, none, .mov (.tmp 6)⟩,
  ⟨some 167, none, .call (.cst (.fn (.func 42) [] [])) [(.tmp 165), (.tmp 166)]⟩,
  ⟨some 168, none, .bin .geq (.tmp 167) (.cst (I 0))⟩,
  ⟨some 169, none, .beq true (.tmp 164) (.tmp 168)⟩])
 (.cond (.tmp 169) (.seq (.ops false [
  ⟨some 4, none, .mov (.cst (.bool false))⟩])
 .ret) .skip))
 (.seq (.ops false [
  ⟨some 19, none, .mov (.cst (I 0))⟩,
  ⟨some 20, none, .mov (.cst (.bool false))⟩])
 (.seq (.seq (.ops false [
  ⟨some 21, none, .mov (.cst (I 0))⟩])
 (.block 2 (.loop keep7_1 body7_1)))
 (.seq (.seq (.ops false [
  ⟨some 221, none, .mov (.tmp 20)⟩,
  ⟨some 222, none, .lnot (.tmp 221)⟩])
 (.cond (.tmp 222) (.seq (.ops false [
  ⟨some 223, none, .mov (.tmp 12)⟩,
  ⟨some 224, none, .bin .eql (.tmp 223) (.cst (I 4))⟩,
  ⟨some 225, none, .mov (.tmp 224)⟩,
  ⟨some 226, some ((some 225), true), .mov (.tmp 11)⟩,
  ⟨some 227, some ((some 225), true), .bin .eql (.tmp 226) (.cst (I 0))⟩,
  ⟨some 228, none, .pick (.tmp 225) (.tmp 227) (.cst (.bool false))⟩,
  ⟨some 229, none, .mov (.tmp 228)⟩,
  ⟨some 230, some ((some 229), true), .call (.cst (.fn (.func 25) [] [])) []⟩,
  ⟨some 231, none, .pick (.tmp 229) (.tmp 230) (.cst (.bool false))⟩,
  ⟨some 4, none, .mov (.tmp 231)⟩])
 .ret) .skip))
 (.seq (.ops false [
  ⟨some 232, none, .mov (.tmp 12)⟩,
  ⟨some 233, none, .bin .eql (.tmp 232) (.cst (I 0))⟩,
  ⟨some 234, none, .mov (.tmp 233)⟩,
  ⟨some 235, some ((some 234), true), .mov (.tmp 11)⟩,
  ⟨some 236, some ((some 234), true), .mov (.tmp 19)⟩,
  ⟨some 237, some ((some 234), true), .bin .eql (.tmp 235) (.tmp 236)⟩,
  ⟨some 238, none, .pick (.tmp 234) (.tmp 237) (.cst (.bool false))⟩,
  ⟨some 239, none, .mov (.tmp 238)⟩,
  ⟨some 240, some ((some 239), true), .call (.cst (.fn (.func 25) [] [])) []⟩,
  ⟨some 241, none, .pick (.tmp 239) (.tmp 240) (.cst (.bool false))⟩,
  ⟨some 4, none, .mov (.tmp 241)⟩])
 .ret))))))))))))))))⟩
theorem comp7 : compF Cv 7 = some code7 := by kernel_rfl
end Go.Ai
