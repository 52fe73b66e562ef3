/- This text shows the code of a law, by the kernel. No conditions of its own. -/
import Derived.Test.YtbjdaefdifofkaaDoorCodes
set_option linter.unusedSimpArgs false
set_option linter.unusedVariables false
set_option maxRecDepth 100000
namespace Go.Ai

def body9_0 : MC := (.seq (.seq (.ops false [
  ⟨some 218, none, .mov (.tmp 25)⟩,
  ⟨some 219, none, .mov (.tmp 23)⟩,
  ⟨some 220, none, .len (.tmp 219)⟩,
  ⟨some 221, none, .bin .lss (.tmp 218) (.tmp 220)⟩])
 (.cond (.tmp 221) .skip (.exit 0)))
 (.seq (.block 1 (.seq (.ops false [
  ⟨some 224, none, .mov (.tmp 24)⟩,
  ⟨some 225, none, .mov (.tmp 23)⟩,
  ⟨some 226, none, .mov (.tmp 25)⟩,
  ⟨some 227, none, .ixs 1 (.tmp 225) (.tmp 226)⟩,
  ⟨some 228, none, .load none (.tmp 227)⟩,
  ⟨some 229, none, .call (.cst (.fn (.func 42) [] [])) [(.tmp 224), (.tmp 228)]⟩,
  ⟨some 230, none, .bin .lss (.tmp 229) (.cst (I 0))⟩])
 (.cond (.tmp 230) (.seq (.ops false [
  ⟨some 6, none, .mov (.cst (.bool false))⟩])
 .ret) .skip)))
 (.ops false [
  ⟨some 222, none, .mov (.tmp 25)⟩,
  ⟨some 223, none, .bin .add (.tmp 222) (.cst (I 1))⟩,
  ⟨some 25, none, .mov (.tmp 223)⟩])))
def keep9_0 : Option (List Nat) := some [23, 24, 25]
def code9 : MF := ⟨232, [(6, none)], (.seq (.ops false [
  ⟨some 3, none, .box (.tmp 0)⟩,
  ⟨some 4, none, .box (.tmp 1)⟩,
  ⟨some 5, none, .box (.tmp 2)⟩,
  ⟨some 6, none, .mov (.cst (.bool false))⟩])
 (.seq (.seq (.ops false [
  ⟨some 26, none, .load (some 6) (.tmp 3)⟩,
  ⟨some 27, none, .call (.cst (.fn (.func 35) [] [])) [(.tmp 26)]⟩,
  ⟨some 28, none, .lnot (.tmp 27)⟩,
  ⟨some 29, none, .mov (.tmp 28)⟩,
  ⟨some 30, some ((some 29), false), .fad (.tmp 3) 1⟩,
  ⟨some 31, some ((some 29), false), .load none (.tmp 30)⟩,
  ⟨some 32, some ((some 29), false), .len (.tmp 31)⟩,
  ⟨some 33, some ((some 29), false), .bin .eql (.tmp 32) (.cst (I 6))⟩,
  ⟨some 34, none, .pick (.tmp 29) (.cst (.bool true)) (.tmp 33)⟩])
 (.cond (.tmp 34) (.seq (.ops false [
  ⟨some 35, none, .call (.cst (.fn (.func 25) [] [])) []⟩,
  ⟨some 6, none, .mov (.tmp 35)⟩])
 .ret) .skip))
 (.seq (.ops false [
  ⟨some 36, none, .load (some 6) (.tmp 3)⟩,
  ⟨some 37, none, .load (some 4) (.tmp 4)⟩,
  ⟨some 38, none, .call (.cst (.fn (.func 47) [] [])) [(.tmp 36), (.tmp 37)]⟩,
  ⟨some 7, none, .alloc [(I 0), .nils, .nils, .nils, (I 0), .nils]⟩,
  ⟨none, none, .store 6 (.tmp 7) (.tmp 38)⟩])
 (.seq (.ops false [
  ⟨some 40, none, .load (some 6) (.tmp 3)⟩,
  ⟨some 41, none, .load (some 4) (.tmp 4)⟩,
  ⟨some 42, none, .call (.cst (.fn (.func 31) [] [])) [(.tmp 40), (.tmp 41)]⟩,
  ⟨some 39, none, .mov (.tmp 42)⟩,
  ⟨some 43, none, .ext (.tmp 39) 0⟩,
  ⟨some 44, none, .ext (.tmp 39) 1⟩,
  ⟨some 8, none, .mov (.tmp 43)⟩,
  ⟨some 9, none, .mov (.tmp 44)⟩])
 (.seq (.ops false [
  ⟨some 46, none, .load (some 6) (.tmp 7)⟩,
  ⟨some 47, none, .call (.cst (.fn (.func 15) [] [])) [(.tmp 46)]⟩,
  ⟨some 45, none, .mov (.tmp 47)⟩,
  ⟨some 48, none, .ext (.tmp 45) 0⟩,
  ⟨some 49, none, .ext (.tmp 45) 1⟩,
  ⟨some 10, none, .mov (.tmp 48)⟩,
  ⟨some 11, none, .mov (.tmp 49)⟩])
 (.seq (.seq (.ops false [
  ⟨some 50, none, .mov (.tmp 11)⟩,
  ⟨some 51, none, .bin .neq (.tmp 50) (.cst (I 0))⟩])
 (.cond (.tmp 51) (.seq (.ops false [
  ⟨some 52, none, .mov (.tmp 11)⟩,
  ⟨some 53, none, .bin .eql (.tmp 52) (.cst (I 80))⟩,
  ⟨some 54, none, .mov (.tmp 53)⟩,
  ⟨some 55, some ((some 54), true), .mov (.tmp 9)⟩,
  ⟨some 56, some ((some 54), true), .bin .eql (.tmp 55) (.cst (I 81))⟩,
  ⟨some 57, none, .pick (.tmp 54) (.tmp 56) (.cst (.bool false))⟩,
  ⟨some 58, none, .mov (.tmp 57)⟩,
  ⟨some 59, some ((some 58), true), .mov (.tmp 8)⟩,
  ⟨some 60, some ((some 58), true), .lnot (.tmp 59)⟩,
  ⟨some 61, none, .pick (.tmp 58) (.tmp 60) (.cst (.bool false))⟩,
  ⟨some 62, none, .mov (.tmp 61)⟩,
  ⟨some 63, some ((some 62), true), .call (.cst (.fn (.func 25) [] [])) []⟩,
  ⟨some 64, none, .pick (.tmp 62) (.tmp 63) (.cst (.bool false))⟩,
  ⟨some 6, none, .mov (.tmp 64)⟩])
 .ret) .skip))
 (.seq (.seq (.ops false [
  ⟨some 65, none, .mov (.tmp 9)⟩,
  ⟨some 66, none, .bin .neq (.tmp 65) (.cst (I 0))⟩,
  ⟨some 67, none, .mov (.tmp 66)⟩,
  ⟨some 68, some ((some 67), true), .mov (.tmp 9)⟩,
  ⟨some 69, some ((some 67), true), .bin .neq (.tmp 68) (.cst (I 82))⟩,
  ⟨some 70, none, .pick (.tmp 67) (.tmp 69) (.cst (.bool false))⟩,
  ⟨some 71, none, .mov (.tmp 70)⟩,
  ⟨some 72, some ((some 71), false), .mov (.tmp 10)⟩,
  ⟨some 73, some ((some 71), false), .mov (.tmp 9)⟩,
  ⟨some 74, some ((some 71), false), .bin .eql (.tmp 73) (.cst (I 0))⟩,
  ⟨some 75, some ((some 71), false), .mov (.tmp 74)⟩,
  ⟨some 76, some ((some 75), true), .mov (.tmp 8)⟩,
  ⟨some 77, some ((some 71), false), .pick (.tmp 75) (.tmp 76) (.cst (.bool false))⟩,
  ⟨some 78, some ((some 71), false), .beq true (.tmp 72) (.tmp 77)⟩,
  ⟨some 79, none, .pick (.tmp 71) (.cst (.bool true)) (.tmp 78)⟩])
 (.cond (.tmp 79) (.seq (.ops false [
  ⟨some 6, none, .mov (.cst (.bool false))⟩])
 .ret) .skip))
 (.seq (.seq (.ops false [
  ⟨some 80, none, .mov (.tmp 10)⟩,
  ⟨some 81, none, .lnot (.tmp 80)⟩])
 (.cond (.tmp 81) (.seq (.ops false [
  ⟨some 82, none, .call (.cst (.fn (.func 25) [] [])) []⟩,
  ⟨some 6, none, .mov (.tmp 82)⟩])
 .ret) .skip))
 (.seq (.ops true [
  ⟨some 83, none, .ixa 5 1 (.tmp 5) (.cst (I 0))⟩,
  ⟨some 84, none, .load none (.tmp 83)⟩,
  ⟨some 85, none, .fad (.tmp 3) 0⟩,
  ⟨some 86, none, .load none (.tmp 85)⟩,
  ⟨some 87, none, .call (.cst (.fn (.func 38) [] [])) [(.tmp 84), (.tmp 86)]⟩,
  ⟨some 88, none, .ixa 5 1 (.tmp 5) (.cst (I 1))⟩,
  ⟨some 89, none, .load none (.tmp 88)⟩,
  ⟨some 90, none, .fad (.tmp 3) 0⟩,
  ⟨some 91, none, .load none (.tmp 90)⟩,
  ⟨some 92, none, .call (.cst (.fn (.func 38) [] [])) [(.tmp 89), (.tmp 91)]⟩,
  ⟨some 93, none, .ixa 5 1 (.tmp 5) (.cst (I 2))⟩,
  ⟨some 94, none, .load none (.tmp 93)⟩,
  ⟨some 95, none, .fad (.tmp 3) 3⟩,
  ⟨some 96, none, .fad (.tmp 95) 1⟩,
  ⟨some 97, none, .load none (.tmp 96)⟩,
  ⟨some 98, none, .call (.cst (.fn (.func 38) [] [])) [(.tmp 94), (.tmp 97)]⟩,
  ⟨some 99, none, .ixa 5 1 (.tmp 5) (.cst (I 4))⟩,
  ⟨some 100, none, .load none (.tmp 99)⟩,
  ⟨some 101, none, .call (.cst (.fn (.func 38) [] [])) [(.tmp 100), (.cst (I 41))]⟩,
  ⟨some 12, none, .mov (.tmp 87)⟩,
  ⟨some 13, none, .mov (.tmp 92)⟩,
  ⟨some 14, none, .mov (.tmp 98)⟩,
  ⟨some 15, none, .mov (.tmp 101)⟩])
 (.seq (.ops false [
  ⟨some 103, none, .load (some 6) (.tmp 3)⟩,
  ⟨some 104, none, .mov (.tmp 12)⟩,
  ⟨some 105, none, .call (.cst (.fn (.func 19) [] [])) [(.tmp 103), (.tmp 104)]⟩,
  ⟨some 102, none, .mov (.tmp 105)⟩,
  ⟨some 106, none, .ext (.tmp 102) 0⟩,
  ⟨some 107, none, .ext (.tmp 102) 1⟩,
  ⟨some 16, none, .alloc [(I 0), (I 0)]⟩,
  ⟨none, none, .store 2 (.tmp 16) (.tmp 106)⟩,
  ⟨some 9, none, .mov (.tmp 107)⟩])
 (.seq (.ops false [
  ⟨some 109, none, .load (some 6) (.tmp 7)⟩,
  ⟨some 110, none, .mov (.tmp 12)⟩,
  ⟨some 111, none, .call (.cst (.fn (.func 19) [] [])) [(.tmp 109), (.tmp 110)]⟩,
  ⟨some 108, none, .mov (.tmp 111)⟩,
  ⟨some 112, none, .ext (.tmp 108) 0⟩,
  ⟨some 113, none, .ext (.tmp 108) 1⟩,
  ⟨some 17, none, .alloc [(I 0), (I 0)]⟩,
  ⟨none, none, .store 2 (.tmp 17) (.tmp 112)⟩,
  ⟨some 11, none, .mov (.tmp 113)⟩])
 (.seq (.ops false [
  ⟨some 115, none, .load (some 6) (.tmp 3)⟩,
  ⟨some 116, none, .mov (.tmp 12)⟩,
  ⟨some 117, none, .mov (.tmp 13)⟩,
  ⟨some 118, none, .call (.cst (.fn (.func 21) [] [])) [(.tmp 115), (.tmp 116), (.tmp 117)]⟩,
  ⟨some 114, none, .mov (.tmp 118)⟩,
  ⟨some 119, none, .ext (.tmp 114) 0⟩,
  ⟨some 120, none, .ext (.tmp 114) 1⟩,
  ⟨some 18, none, .alloc [(I 0), (I 0)]⟩,
  ⟨none, none, .store 2 (.tmp 18) (.tmp 119)⟩,
  ⟨some 19, none, .mov (.tmp 120)⟩])
 (.seq (.ops false [
  ⟨some 122, none, .load (some 6) (.tmp 7)⟩,
  ⟨some 123, none, .mov (.tmp 12)⟩,
  ⟨some 124, none, .mov (.tmp 13)⟩,
  ⟨some 125, none, .call (.cst (.fn (.func 21) [] [])) [(.tmp 122), (.tmp 123), (.tmp 124)]⟩,
  ⟨some 121, none, .mov (.tmp 125)⟩,
  ⟨some 126, none, .ext (.tmp 121) 0⟩,
  ⟨some 127, none, .ext (.tmp 121) 1⟩,
  ⟨some 20, none, .alloc [(I 0), (I 0)]⟩,
  ⟨none, none, .store 2 (.tmp 20) (.tmp 126)⟩,
  ⟨some 21, none, .mov (.tmp 127)⟩])
 (.seq (.seq (.ops false [
  ⟨some 128, none, .mov (.tmp 9)⟩,
  ⟨some 129, none, .bin .neq (.tmp 128) (.cst (I 0))⟩,
  ⟨some 130, none, .mov (.tmp 129)⟩,
  ⟨some 131, some ((some 130), false), .mov (.tmp 11)⟩,
  ⟨some 132, some ((some 130), false), .bin .neq (.tmp 131) (.cst (I 0))⟩,
  ⟨some 133, none, .pick (.tmp 130) (.cst (.bool true)) (.tmp 132)⟩,
  ⟨some 134, none, .mov (.tmp 133)⟩,
  ⟨some 135, some ((some 134), false), .mov (.tmp 19)⟩,
  ⟨some 136, some ((some 134), false), .bin .neq (.tmp 135) (.cst (I 0))⟩,
  ⟨some 137, none, .pick (.tmp 134) (.cst (.bool true)) (.tmp 136)⟩,
  ⟨some 138, none, .mov (.tmp 137)⟩,
  ⟨some 139, some ((some 138), false), .mov (.tmp 21)⟩,
  ⟨some 140, some ((some 138), false), .bin .neq (.tmp 139) (.cst (I 0))⟩,
  ⟨some 141, none, .pick (.tmp 138) (.cst (.bool true)) (.tmp 140)⟩,
  ⟨some 142, none, .mov (.tmp 141)⟩,
  ⟨some 143, some ((some 142), false), .load (some 2) (.tmp 17)⟩,
  ⟨some 144, some ((some 142), false), .load (some 2) (.tmp 16)⟩,
  ⟨some 145, some ((some 142), false), .call (.cst (.fn (.func 48) [] [])) [(.tmp 143), (.tmp 144)]⟩,
  ⟨some 146, some ((some 142), false), .lnot (.tmp 145)⟩,
  ⟨some 147, none, .pick (.tmp 142) (.cst (.bool true)) (.tmp 146)⟩,
  ⟨some 148, none, .mov (.tmp 147)⟩,
  ⟨some 149, some ((some 148), false), .load (some 2) (.tmp 20)⟩,
  ⟨some 150, some ((some 148), false), .load (some 2) (.tmp 18)⟩,
  ⟨some 151, some ((some 148), false), .call (.cst (.fn (.func 48) [] [])) [(.tmp 149), (.tmp 150)]⟩,
  ⟨some 152, some ((some 148), false), .lnot (.tmp 151)⟩,
  ⟨some 153, none, .pick (.tmp 148) (.cst (.bool true)) (.tmp 152)⟩,
  ⟨some 154, none, .mov (.tmp 153)⟩,
  ⟨some 155, some ((some 154), false), .fad (.tmp 17) 0⟩,
  ⟨some 156, some ((some 154), false), .load none (.tmp 155)⟩,
  ⟨some 157, some ((some 154), false), .fad (.tmp 17) 1⟩,
  ⟨some 158, some ((some 154), false), .load none (.tmp 157)⟩,
  ⟨some 159, some ((some 154), false), .bin .gtr (.tmp 156) (.tmp 158)⟩,
  ⟨some 160, none, .pick (.tmp 154) (.cst (.bool true)) (.tmp 159)⟩])
 (.cond (.tmp 160) (.seq (.ops false [
  ⟨some 6, none, .mov (.cst (.bool false))⟩])
 .ret) .skip))
 (.seq (.ops false [
  ⟨some 162, none, .load (some 6) (.tmp 3)⟩,
  ⟨some 163, none, .call (.cst (.fn (.func 23) [] [])) [(.tmp 162)]⟩,
  ⟨some 161, none, .mov (.tmp 163)⟩,
  ⟨some 164, none, .ext (.tmp 161) 0⟩,
  ⟨some 165, none, .ext (.tmp 161) 1⟩,
  ⟨none, none, .store 2 (.tmp 16) (.tmp 164)⟩,
  ⟨some 9, none, .mov (.tmp 165)⟩])
 (.seq (.ops false [
  ⟨some 167, none, .load (some 6) (.tmp 7)⟩,
  ⟨some 168, none, .call (.cst (.fn (.func 23) [] [])) [(.tmp 167)]⟩,
  ⟨some 166, none, .mov (.tmp 168)⟩,
  ⟨some 169, none, .ext (.tmp 166) 0⟩,
  ⟨some 170, none, .ext (.tmp 166) 1⟩,
  ⟨none, none, .store 2 (.tmp 17) (.tmp 169)⟩,
  ⟨some 11, none, .mov (.tmp 170)⟩])
 (.seq (.ops false [
  ⟨some 171, none, .ixa 5 1 (.tmp 5) (.cst (I 3))⟩,
  ⟨some 172, none, .load none (.tmp 171)⟩,
  ⟨some 173, none, .fad (.tmp 3) 3⟩,
  ⟨some 174, none, .fad (.tmp 173) 0⟩,
  ⟨some 175, none, .load none (.tmp 174)⟩,
  ⟨some 176, none, .len (.tmp 175)⟩,
  ⟨some 177, none, .call (.cst (.fn (.func 38) [] [])) [(.tmp 172), (.tmp 176)]⟩,
  ⟨some 178, none, .mov (.tmp 15)⟩,
  ⟨some 179, none, .mov (.tmp 15)⟩,
  ⟨some 180, none, .bin .add (.tmp 179) (.cst (I 5))⟩,
  ⟨some 181, none, .mn (.cst (I 40)) [(.tmp 180)]⟩,
  ⟨some 182, none, .call (.cst (.fn (.func 40) [] [])) [(.tmp 177), (.tmp 178), (.tmp 181)]⟩,
  ⟨some 183, none, .bsl 3 true (.agg [(I 0), (I 0), (I 0)]) 1 [(0, (.tmp 182))]⟩,
  ⟨some 22, none, .mov (.tmp 183)⟩])
 (.seq (.ops false [
  ⟨some 185, none, .load (some 6) (.tmp 3)⟩,
  ⟨some 186, none, .mov (.tmp 14)⟩,
  ⟨some 187, none, .mov (.tmp 22)⟩,
  ⟨some 188, none, .call (.cst (.fn (.func 26) [] [])) [(.tmp 185), (.tmp 186), (.tmp 187)]⟩,
  ⟨some 184, none, .mov (.tmp 188)⟩,
  ⟨some 189, none, .ext (.tmp 184) 0⟩,
  ⟨some 190, none, .ext (.tmp 184) 1⟩,
  ⟨some 23, none, .mov (.tmp 189)⟩,
  ⟨some 19, none, .mov (.tmp 190)⟩])
 (.seq (.ops false [
  ⟨some 192, none, .load (some 6) (.tmp 7)⟩,
  ⟨some 193, none, .mov (.tmp 14)⟩,
  ⟨some 194, none, .mov (.tmp 22)⟩,
  ⟨some 195, none, .call (.cst (.fn (.func 26) [] [])) [(.tmp 192), (.tmp 193), (.tmp 194)]⟩,
  ⟨some 191, none, .mov (.tmp 195)⟩,
  ⟨some 196, none, .ext (.tmp 191) 0⟩,
  ⟨some 197, none, .ext (.tmp 191) 1⟩,
  ⟨some 24, none, .mov (.tmp 196)⟩,
  ⟨some 21, none, .mov (.tmp 197)⟩])
 (.seq (.seq (.ops false [
  ⟨some 198, none, .mov (.tmp 9)⟩,
  ⟨some 199, none, .bin .neq (.tmp 198) (.cst (I 0))⟩,
  ⟨some 200, none, .mov (.tmp 199)⟩,
  ⟨some 201, some ((some 200), false), .mov (.tmp 11)⟩,
  ⟨some 202, some ((some 200), false), .bin .neq (.tmp 201) (.cst (I 0))⟩,
  ⟨some 203, none, .pick (.tmp 200) (.cst (.bool true)) (.tmp 202)⟩,
  ⟨some 204, none, .mov (.tmp 203)⟩,
  ⟨some 205, some ((some 204), false), .mov (.tmp 19)⟩,
  ⟨some 206, some ((some 204), false), .bin .neq (.tmp 205) (.cst (I 0))⟩,
  ⟨some 207, none, .pick (.tmp 204) (.cst (.bool true)) (.tmp 206)⟩,
  ⟨some 208, none, .mov (.tmp 207)⟩,
  ⟨some 209, some ((some 208), false), .mov (.tmp 21)⟩,
  ⟨some 210, some ((some 208), false), .bin .neq (.tmp 209) (.cst (I 0))⟩,
  ⟨some 211, none, .pick (.tmp 208) (.cst (.bool true)) (.tmp 210)⟩,
  ⟨some 212, none, .mov (.tmp 211)⟩,
  ⟨some 213, some ((some 212), false), .load (some 2) (.tmp 17)⟩,
  ⟨some 214, some ((some 212), false), .load (some 2) (.tmp 16)⟩,
  ⟨some 215, some ((some 212), false), .call (.cst (.fn (.func 48) [] [])) [(.tmp 213), (.tmp 214)]⟩,
  ⟨some 216, some ((some 212), false), .lnot (.tmp 215)⟩,
  ⟨some 217, none, .pick (.tmp 212) (.cst (.bool true)) (.tmp 216)⟩])
 (.cond (.tmp 217) (.seq (.ops false [
  ⟨some 6, none, .mov (.cst (.bool false))⟩])
 .ret) .skip))
 (.seq (.seq (.ops false [
  ⟨some 25, none, .mov (.cst (I 0))⟩])
 (.block 0 (.loop keep9_0 body9_0)))
 (.seq (.ops false [
  ⟨some 231, none, .call (.cst (.fn (.func 25) [] [])) []⟩,
  ⟨some 6, none, .mov (.tmp 231)⟩])
 .ret))))))))))))))))))))))⟩
theorem comp9 : compF Cv 9 = some code9 := by kernel_rfl
end Go.Ai
