/- This text shows the code of a law, by the kernel. No conditions of its own. -/
import Derived.Test.YtbjdaefdifofkaaDoorCodes
set_option linter.unusedSimpArgs false
set_option linter.unusedVariables false
set_option maxRecDepth 100000
namespace Go.Ai

def body11_0 : MC := (.seq (.seq (.ops false [
  ⟨some 166, none, .mov (.tmp 20)⟩,
  ⟨some 167, none, .mov (.tmp 9)⟩,
  ⟨some 168, none, .len (.tmp 167)⟩,
  ⟨some 169, none, .bin .lss (.tmp 166) (.tmp 168)⟩])
 (.cond (.tmp 169) .skip (.exit 0)))
 (.seq (.block 1 (.seq (.ops false [
  ⟨some 172, none, .mov (.tmp 16)⟩,
  ⟨some 173, none, .mov (.tmp 9)⟩,
  ⟨some 174, none, .mov (.tmp 20)⟩,
  ⟨some 175, none, .ixs 1 (.tmp 173) (.tmp 174)⟩,
  ⟨some 176, none, .load none (.tmp 175)⟩,
  ⟨some 177, none, .call (.cst (.fn (.func 42) [] [])) [(.tmp 172), (.tmp 176)]⟩,
  ⟨some 178, none, .bin .lss (.tmp 177) (.cst (I 0))⟩,
  ⟨some 179, none, .mov (.tmp 178)⟩,
  ⟨some 180, some ((some 179), false), .mov (.tmp 18)⟩,
  ⟨some 181, some ((some 179), false), .mov (.tmp 9)⟩,
  ⟨some 182, some ((some 179), false), .mov (.tmp 20)⟩,
  ⟨some 183, some ((some 179), false), .ixs 1 (.tmp 181) (.tmp 182)⟩,
  ⟨some 184, some ((some 179), false), .load none (.tmp 183)⟩,
  ⟨some 185, some ((some 179), false), .call (.cst (.fn (.func 42) [] [])) [(.tmp 180), (.tmp 184)]⟩,
  ⟨some 186, some ((some 179), false), .bin .lss (.tmp 185) (.cst (I 0))⟩,
  ⟨some 187, none, .pick (.tmp 179) (.cst (.bool true)) (.tmp 186)⟩])
 (.cond (.tmp 187) (.seq (.ops false [
  ⟨some 6, none, .mov (.cst (.bool false))⟩])
 .ret) .skip)))
 (.ops false [
  ⟨some 170, none, .mov (.tmp 20)⟩,
  ⟨some 171, none, .bin .add (.tmp 170) (.cst (I 1))⟩,
  ⟨some 20, none, .mov (.tmp 171)⟩])))
def keep11_0 : Option (List Nat) := some [9, 16, 18, 20]
def code11 : MF := ⟨189, [(6, none)], (.seq (.ops false [
  ⟨some 3, none, .box (.tmp 0)⟩,
  ⟨some 5, none, .box (.tmp 2)⟩,
  ⟨some 6, none, .mov (.cst (.bool false))⟩])
 (.seq (.seq (.ops false [
  ⟨some 21, none, .load (some 6) (.tmp 3)⟩,
  ⟨some 22, none, .call (.cst (.fn (.func 35) [] [])) [(.tmp 21)]⟩,
  ⟨some 23, none, .lnot (.tmp 22)⟩,
  ⟨some 24, none, .mov (.tmp 23)⟩,
  ⟨some 25, some ((some 24), false), .mov (.tmp 1)⟩,
  ⟨some 26, some ((some 24), false), .len (.tmp 25)⟩,
  ⟨some 27, some ((some 24), false), .call (.cst (.fn (.func 43) [] [])) [(.tmp 26), (.cst (I 2)), (.cst (I 2))]⟩,
  ⟨some 28, some ((some 24), false), .lnot (.tmp 27)⟩,
  ⟨some 29, none, .pick (.tmp 24) (.cst (.bool true)) (.tmp 28)⟩])
 (.cond (.tmp 29) (.seq (.ops false [
  ⟨some 30, none, .call (.cst (.fn (.func 25) [] [])) []⟩,
  ⟨some 6, none, .mov (.tmp 30)⟩])
 .ret) .skip))
 (.seq (.ops true [
  ⟨some 31, none, .ixa 3 1 (.tmp 5) (.cst (I 0))⟩,
  ⟨some 32, none, .load none (.tmp 31)⟩,
  ⟨some 33, none, .fad (.tmp 3) 3⟩,
  ⟨some 34, none, .fad (.tmp 33) 1⟩,
  ⟨some 35, none, .load none (.tmp 34)⟩,
  ⟨some 36, none, .call (.cst (.fn (.func 38) [] [])) [(.tmp 32), (.tmp 35)]⟩,
  ⟨some 37, none, .ixa 3 1 (.tmp 5) (.cst (I 1))⟩,
  ⟨some 38, none, .load none (.tmp 37)⟩,
  ⟨some 39, none, .mov (.tmp 1)⟩,
  ⟨some 40, none, .len (.tmp 39)⟩,
  ⟨some 41, none, .call (.cst (.fn (.func 38) [] [])) [(.tmp 38), (.tmp 40)]⟩,
  ⟨some 7, none, .mov (.tmp 36)⟩,
  ⟨some 8, none, .mov (.tmp 41)⟩])
 (.seq (.ops false [
  ⟨some 43, none, .load (some 6) (.tmp 3)⟩,
  ⟨some 44, none, .mov (.tmp 7)⟩,
  ⟨some 45, none, .mov (.tmp 1)⟩,
  ⟨some 46, none, .call (.cst (.fn (.func 26) [] [])) [(.tmp 43), (.tmp 44), (.tmp 45)]⟩,
  ⟨some 42, none, .mov (.tmp 46)⟩,
  ⟨some 47, none, .ext (.tmp 42) 0⟩,
  ⟨some 48, none, .ext (.tmp 42) 1⟩,
  ⟨some 9, none, .mov (.tmp 47)⟩,
  ⟨some 10, none, .mov (.tmp 48)⟩])
 (.seq (.ops false [
  ⟨some 50, none, .load (some 6) (.tmp 3)⟩,
  ⟨some 51, none, .mov (.tmp 7)⟩,
  ⟨some 52, none, .bsl 3 true (.agg [(I 0), (I 0), (I 0)]) 0 []⟩,
  ⟨some 53, none, .mov (.tmp 1)⟩,
  ⟨some 54, none, .app false 3 24 true (.tmp 52) (.tmp 53)⟩,
  ⟨some 55, none, .mov (.tmp 1)⟩,
  ⟨some 56, none, .app false 3 24 true (.tmp 54) (.tmp 55)⟩,
  ⟨some 57, none, .call (.cst (.fn (.func 26) [] [])) [(.tmp 50), (.tmp 51), (.tmp 56)]⟩,
  ⟨some 49, none, .mov (.tmp 57)⟩,
  ⟨some 58, none, .ext (.tmp 49) 0⟩,
  ⟨some 59, none, .ext (.tmp 49) 1⟩,
  ⟨some 11, none, .mov (.tmp 58)⟩,
  ⟨some 12, none, .mov (.tmp 59)⟩])
 (.seq (.seq (.ops false [
  ⟨some 60, none, .mov (.tmp 10)⟩,
  ⟨some 61, none, .bin .neq (.tmp 60) (.cst (I 0))⟩])
 (.cond (.tmp 61) (.seq (.ops false [
  ⟨some 62, none, .mov (.tmp 12)⟩,
  ⟨some 63, none, .mov (.tmp 10)⟩,
  ⟨some 64, none, .bin .eql (.tmp 62) (.tmp 63)⟩,
  ⟨some 65, none, .mov (.tmp 64)⟩,
  ⟨some 66, some ((some 65), true), .mov (.tmp 9)⟩,
  ⟨some 67, some ((some 65), true), .len (.tmp 66)⟩,
  ⟨some 68, some ((some 65), true), .mov (.tmp 11)⟩,
  ⟨some 69, some ((some 65), true), .len (.tmp 68)⟩,
  ⟨some 70, some ((some 65), true), .bin .add (.tmp 67) (.tmp 69)⟩,
  ⟨some 71, some ((some 65), true), .bin .eql (.tmp 70) (.cst (I 0))⟩,
  ⟨some 72, none, .pick (.tmp 65) (.tmp 71) (.cst (.bool false))⟩,
  ⟨some 73, none, .mov (.tmp 72)⟩,
  ⟨some 74, some ((some 73), true), .call (.cst (.fn (.func 25) [] [])) []⟩,
  ⟨some 75, none, .pick (.tmp 73) (.tmp 74) (.cst (.bool false))⟩,
  ⟨some 6, none, .mov (.tmp 75)⟩])
 .ret) .skip))
 (.seq (.ops false [
  ⟨some 76, none, .bsl 3 true (.agg [(I 0), (I 0), (I 0)]) 0 []⟩,
  ⟨some 77, none, .mov (.tmp 1)⟩,
  ⟨some 78, none, .mov (.tmp 8)⟩,
  ⟨some 79, none, .slc 3 (.tmp 77) none (some (.tmp 78)) none⟩,
  ⟨some 80, none, .app false 3 24 true (.tmp 76) (.tmp 79)⟩,
  ⟨some 81, none, .mov (.tmp 1)⟩,
  ⟨some 82, none, .mov (.tmp 8)⟩,
  ⟨some 83, none, .bin .add (.tmp 82) (.cst (I 1))⟩,
  ⟨some 84, none, .slc 3 (.tmp 81) (some (.tmp 83)) none none⟩,
  ⟨some 85, none, .app false 3 24 true (.tmp 80) (.tmp 84)⟩,
  ⟨some 13, none, .mov (.tmp 85)⟩])
 (.seq (.ops false [
  ⟨some 86, none, .bsl 3 true (.agg [(I 0), (I 0), (I 0)]) 0 []⟩,
  ⟨some 87, none, .mov (.tmp 1)⟩,
  ⟨some 88, none, .app true 3 24 true (.tmp 86) (.tmp 87)⟩,
  ⟨some 14, none, .mov (.tmp 88)⟩])
 (.seq (.seq (.ops false [
  ⟨some 89, none, .mov (.tmp 14)⟩,
  ⟨some 90, none, .mov (.tmp 8)⟩,
  ⟨some 91, none, .ixs 3 (.tmp 89) (.tmp 90)⟩,
  ⟨some 92, none, .fad (.tmp 91) 1⟩,
  ⟨some 15, none, .mov (.tmp 92)⟩])
 (.seq (.ops false [
  ⟨some 93, none, .mov (.tmp 15)⟩,
  ⟨some 94, none, .nck (.tmp 93)⟩,
  ⟨some 95, none, .fad (.tmp 94) 0⟩,
  ⟨some 96, none, .load none (.tmp 95)⟩,
  ⟨some 97, none, .mov (.tmp 15)⟩,
  ⟨some 98, none, .nck (.tmp 97)⟩,
  ⟨some 99, none, .fad (.tmp 98) 1⟩,
  ⟨some 100, none, .load none (.tmp 99)⟩,
  ⟨some 101, none, .bin .lss (.tmp 96) (.tmp 100)⟩,
  ⟨some 102, none, .mov (.tmp 101)⟩,
  ⟨some 103, some ((some 102), true), .ixa 3 1 (.tmp 5) (.cst (I 2))⟩,
  ⟨some 104, some ((some 102), true), .load none (.tmp 103)⟩,
  ⟨some 105, some ((some 102), true), .call (.cst (.fn (.func 38) [] [])) [(.tmp 104), (.cst (I 2))]⟩,
  ⟨some 106, some ((some 102), true), .bin .eql (.tmp 105) (.cst (I 0))⟩,
  ⟨some 107, none, .pick (.tmp 102) (.tmp 106) (.cst (.bool false))⟩])
 (.cond (.tmp 107) (.ops false [
  ⟨some 108, none, .mov (.tmp 15)⟩,
  ⟨some 109, none, .nck (.tmp 108)⟩,
  ⟨some 110, none, .fad (.tmp 109) 0⟩,
  ⟨some 111, none, .load none (.tmp 110)⟩,
  ⟨some 112, none, .bin .add (.tmp 111) (.cst (I 1))⟩,
  ⟨some 113, none, .nck (.tmp 108)⟩,
  ⟨some 114, none, .fad (.tmp 113) 0⟩,
  ⟨none, none, .store 1 (.tmp 114) (.tmp 112)⟩]) (.seq (.ops false [
  ⟨some 115, none, .mov (.tmp 15)⟩,
  ⟨some 116, none, .nck (.tmp 115)⟩,
  ⟨some 117, none, .fad (.tmp 116) 0⟩,
  ⟨some 118, none, .load none (.tmp 117)⟩,
  ⟨some 119, none, .mov (.tmp 15)⟩,
  ⟨some 120, none, .nck (.tmp 119)⟩,
  ⟨some 121, none, .fad (.tmp 120) 1⟩,
  ⟨some 122, none, .load none (.tmp 121)⟩,
  ⟨some 123, none, .bin .lss (.tmp 118) (.tmp 122)⟩])
 (.cond (.tmp 123) (.ops false [
  ⟨some 124, none, .mov (.tmp 15)⟩,
  ⟨some 125, none, .nck (.tmp 124)⟩,
  ⟨some 126, none, .fad (.tmp 125) 1⟩,
  ⟨some 127, none, .load none (.tmp 126)⟩,
  ⟨some 128, none, .bin .sub (.tmp 127) (.cst (I 1))⟩,
  ⟨some 129, none, .nck (.tmp 124)⟩,
  ⟨some 130, none, .fad (.tmp 129) 1⟩,
  ⟨none, none, .store 1 (.tmp 130) (.tmp 128)⟩]) .skip)))))
 (.seq (.ops false [
  ⟨some 132, none, .load (some 6) (.tmp 3)⟩,
  ⟨some 133, none, .mov (.tmp 7)⟩,
  ⟨some 134, none, .mov (.tmp 13)⟩,
  ⟨some 135, none, .call (.cst (.fn (.func 26) [] [])) [(.tmp 132), (.tmp 133), (.tmp 134)]⟩,
  ⟨some 131, none, .mov (.tmp 135)⟩,
  ⟨some 136, none, .ext (.tmp 131) 0⟩,
  ⟨some 137, none, .ext (.tmp 131) 1⟩,
  ⟨some 16, none, .mov (.tmp 136)⟩,
  ⟨some 17, none, .mov (.tmp 137)⟩])
 (.seq (.ops false [
  ⟨some 139, none, .load (some 6) (.tmp 3)⟩,
  ⟨some 140, none, .mov (.tmp 7)⟩,
  ⟨some 141, none, .mov (.tmp 14)⟩,
  ⟨some 142, none, .call (.cst (.fn (.func 26) [] [])) [(.tmp 139), (.tmp 140), (.tmp 141)]⟩,
  ⟨some 138, none, .mov (.tmp 142)⟩,
  ⟨some 143, none, .ext (.tmp 138) 0⟩,
  ⟨some 144, none, .ext (.tmp 138) 1⟩,
  ⟨some 18, none, .mov (.tmp 143)⟩,
  ⟨some 19, none, .mov (.tmp 144)⟩])
 (.seq (.seq (.ops false [
  ⟨some 145, none, .mov (.tmp 12)⟩,
  ⟨some 146, none, .bin .neq (.tmp 145) (.cst (I 0))⟩,
  ⟨some 147, none, .mov (.tmp 146)⟩,
  ⟨some 148, some ((some 147), false), .mov (.tmp 17)⟩,
  ⟨some 149, some ((some 147), false), .bin .neq (.tmp 148) (.cst (I 0))⟩,
  ⟨some 150, none, .pick (.tmp 147) (.cst (.bool true)) (.tmp 149)⟩,
  ⟨some 151, none, .mov (.tmp 150)⟩,
  ⟨some 152, some ((some 151), false), .mov (.tmp 19)⟩,
  ⟨some 153, some ((some 151), false), .bin .neq (.tmp 152) (.cst (I 0))⟩,
  ⟨some 154, none, .pick (.tmp 151) (.cst (.bool true)) (.tmp 153)⟩,
  ⟨some 155, none, .mov (.tmp 154)⟩,
  ⟨some 156, some ((some 155), false), .mov (.tmp 9)⟩,
  ⟨some 157, some ((some 155), false), .mov (.tmp 11)⟩,
  ⟨some 158, some ((some 155), false), .call (.cst (.fn (.func 28) [] [])) [(.tmp 156), (.tmp 157)]⟩,
  ⟨some 159, some ((some 155), false), .lnot (.tmp 158)⟩,
  ⟨some 160, none, .pick (.tmp 155) (.cst (.bool true)) (.tmp 159)⟩,
  ⟨some 161, none, .mov (.tmp 160)⟩,
  ⟨some 162, some ((some 161), false), .mov (.tmp 9)⟩,
  ⟨some 163, some ((some 161), false), .len (.tmp 162)⟩,
  ⟨some 164, some ((some 161), false), .bin .gtr (.tmp 163) (.cst (I 13))⟩,
  ⟨some 165, none, .pick (.tmp 161) (.cst (.bool true)) (.tmp 164)⟩])
 (.cond (.tmp 165) (.seq (.ops false [
  ⟨some 6, none, .mov (.cst (.bool false))⟩])
 .ret) .skip))
 (.seq (.seq (.ops false [
  ⟨some 20, none, .mov (.cst (I 0))⟩])
 (.block 0 (.loop keep11_0 body11_0)))
 (.seq (.ops false [
  ⟨some 188, none, .call (.cst (.fn (.func 25) [] [])) []⟩,
  ⟨some 6, none, .mov (.tmp 188)⟩])
 .ret))))))))))))))⟩
theorem comp11 : compF Cv 11 = some code11 := by kernel_rfl
end Go.Ai
