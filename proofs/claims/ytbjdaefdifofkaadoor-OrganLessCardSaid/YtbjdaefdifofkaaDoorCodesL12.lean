/- This text shows the code of a law, by the kernel. No conditions of its own. -/
import Derived.Test.YtbjdaefdifofkaaDoorCodes
set_option linter.unusedSimpArgs false
set_option linter.unusedVariables false
set_option maxRecDepth 100000
namespace Go.Ai

def body12_0 : MC := (.seq (.seq (.ops false [
  ⟨some 42, none, .mov (.tmp 9)⟩,
  ⟨some 43, none, .fad (.tmp 2) 2⟩,
  ⟨some 44, none, .load none (.tmp 43)⟩,
  ⟨some 45, none, .len (.tmp 44)⟩,
  ⟨some 46, none, .bin .lss (.tmp 42) (.tmp 45)⟩])
 (.cond (.tmp 46) .skip (.exit 0)))
 (.seq (.block 1 (.seq (.ops false [
  ⟨some 49, none, .fad (.tmp 2) 2⟩,
  ⟨some 50, none, .load none (.tmp 49)⟩,
  ⟨some 51, none, .mov (.tmp 9)⟩,
  ⟨some 52, none, .ixs 3 (.tmp 50) (.tmp 51)⟩,
  ⟨some 53, none, .load (some 3) (.tmp 52)⟩,
  ⟨some 10, none, .alloc [(I 0), (I 0), (I 0)]⟩,
  ⟨none, none, .store 3 (.tmp 10) (.tmp 53)⟩])
 (.seq (.ops false [
  ⟨some 54, none, .fad (.tmp 10) 1⟩,
  ⟨some 55, none, .load none (.tmp 54)⟩,
  ⟨some 56, none, .mov (.tmp 5)⟩,
  ⟨some 57, none, .bin .add (.tmp 55) (.tmp 56)⟩,
  ⟨some 58, none, .fad (.tmp 10) 1⟩,
  ⟨none, none, .store 1 (.tmp 58) (.tmp 57)⟩])
 (.seq (.seq (.ops false [
  ⟨some 59, none, .fad (.tmp 10) 1⟩,
  ⟨some 60, none, .load none (.tmp 59)⟩,
  ⟨some 61, none, .call (.cst (.fn (.func 43) [] [])) [(.tmp 60), (.cst (I (-60))), (.cst (I 60))]⟩,
  ⟨some 62, none, .lnot (.tmp 61)⟩])
 (.cond (.tmp 62) (.seq (.ops false [
  ⟨some 63, none, .call (.cst (.fn (.func 25) [] [])) []⟩,
  ⟨some 4, none, .mov (.tmp 63)⟩])
 .ret) .skip))
 (.ops false [
  ⟨some 64, none, .fad (.tmp 8) 2⟩,
  ⟨some 65, none, .load none (.tmp 64)⟩,
  ⟨some 66, none, .load (some 3) (.tmp 10)⟩,
  ⟨some 67, none, .bsl 3 true (.agg [(I 0), (I 0), (I 0)]) 1 [(0, (.tmp 66))]⟩,
  ⟨some 68, none, .app false 3 24 true (.tmp 65) (.tmp 67)⟩,
  ⟨some 69, none, .fad (.tmp 8) 2⟩,
  ⟨none, none, .store 1 (.tmp 69) (.tmp 68)⟩])))))
 (.ops false [
  ⟨some 47, none, .mov (.tmp 9)⟩,
  ⟨some 48, none, .bin .add (.tmp 47) (.cst (I 1))⟩,
  ⟨some 9, none, .mov (.tmp 48)⟩])))
def keep12_0 : Option (List Nat) := some [2, 5, 6, 7, 8, 9]
def body12_1 : MC := (.seq (.seq (.ops false [
  ⟨some 70, none, .mov (.tmp 11)⟩,
  ⟨some 71, none, .fad (.tmp 2) 0⟩,
  ⟨some 72, none, .load none (.tmp 71)⟩,
  ⟨some 73, none, .bin .lss (.tmp 70) (.tmp 72)⟩])
 (.cond (.tmp 73) .skip (.exit 2)))
 (.seq (.block 3 (.seq (.ops false [
  ⟨some 77, none, .load (some 6) (.tmp 2)⟩,
  ⟨some 78, none, .mov (.tmp 11)⟩,
  ⟨some 79, none, .call (.cst (.fn (.func 19) [] [])) [(.tmp 77), (.tmp 78)]⟩,
  ⟨some 76, none, .mov (.tmp 79)⟩,
  ⟨some 80, none, .ext (.tmp 76) 0⟩,
  ⟨some 81, none, .ext (.tmp 76) 1⟩,
  ⟨some 12, none, .alloc [(I 0), (I 0)]⟩,
  ⟨none, none, .store 2 (.tmp 12) (.tmp 80)⟩,
  ⟨some 13, none, .mov (.tmp 81)⟩])
 (.seq (.seq (.ops false [
  ⟨some 82, none, .mov (.tmp 13)⟩,
  ⟨some 83, none, .bin .neq (.tmp 82) (.cst (I 0))⟩])
 (.cond (.tmp 83) (.seq (.ops false [
  ⟨some 84, none, .mov (.tmp 13)⟩,
  ⟨some 85, none, .bin .eql (.tmp 84) (.cst (I 82))⟩,
  ⟨some 86, none, .mov (.tmp 85)⟩,
  ⟨some 87, some ((some 86), true), .call (.cst (.fn (.func 25) [] [])) []⟩,
  ⟨some 88, none, .pick (.tmp 86) (.tmp 87) (.cst (.bool false))⟩,
  ⟨some 4, none, .mov (.tmp 88)⟩])
 .ret) .skip))
 (.seq (.ops true [
  ⟨some 89, none, .load (some 2) (.tmp 12)⟩,
  ⟨some 90, none, .call (.cst (.fn (.func 49) [] [])) [(.cst (I (-59))), (.cst (I 59))]⟩,
  ⟨some 91, none, .call (.cst (.fn (.func 48) [] [])) [(.tmp 89), (.tmp 90)]⟩,
  ⟨some 92, none, .lnot (.tmp 91)⟩,
  ⟨some 93, none, .mov (.tmp 92)⟩,
  ⟨some 94, some ((some 93), false), .fad (.tmp 12) 0⟩,
  ⟨some 95, some ((some 93), false), .load none (.tmp 94)⟩,
  ⟨some 96, some ((some 93), false), .mov (.tmp 5)⟩,
  ⟨some 97, some ((some 93), false), .bin .add (.tmp 95) (.tmp 96)⟩,
  ⟨some 98, some ((some 93), false), .fad (.tmp 12) 1⟩,
  ⟨some 99, some ((some 93), false), .load none (.tmp 98)⟩,
  ⟨some 100, some ((some 93), false), .mov (.tmp 5)⟩,
  ⟨some 101, some ((some 93), false), .bin .add (.tmp 99) (.tmp 100)⟩,
  ⟨some 102, some ((some 93), false), .call (.cst (.fn (.func 49) [] [])) [(.tmp 97), (.tmp 101)]⟩,
  ⟨some 103, some ((some 93), false), .call (.cst (.fn (.func 49) [] [])) [(.cst (I (-59))), (.cst (I 59))]⟩,
  ⟨some 104, some ((some 93), false), .call (.cst (.fn (.func 48) [] [])) [(.tmp 102), (.tmp 103)]⟩,
  ⟨some 105, some ((some 93), false), .lnot (.tmp 104)⟩,
  ⟨some 106, none, .pick (.tmp 93) (.cst (.bool true)) (.tmp 105)⟩])
 (.cond (.tmp 106) (.seq (.ops false [
  ⟨some 107, none, .call (.cst (.fn (.func 25) [] [])) []⟩,
  ⟨some 4, none, .mov (.tmp 107)⟩])
 .ret) .skip)))))
 (.ops false [
  ⟨some 74, none, .mov (.tmp 11)⟩,
  ⟨some 75, none, .bin .add (.tmp 74) (.cst (I 1))⟩,
  ⟨some 11, none, .mov (.tmp 75)⟩])))
def keep12_1 : Option (List Nat) := some [2, 5, 6, 7, 8, 11]
def code12 : MF := ⟨169, [(4, none)], (.seq (.ops false [
  ⟨some 2, none, .box (.tmp 0)⟩,
  ⟨some 3, none, .box (.tmp 1)⟩,
  ⟨some 4, none, .mov (.cst (.bool false))⟩])
 (.seq (.seq (.ops false [
  ⟨some 22, none, .load (some 6) (.tmp 2)⟩,
  ⟨some 23, none, .call (.cst (.fn (.func 35) [] [])) [(.tmp 22)]⟩,
  ⟨some 24, none, .lnot (.tmp 23)⟩])
 (.cond (.tmp 24) (.seq (.ops false [
  ⟨some 25, none, .call (.cst (.fn (.func 25) [] [])) []⟩,
  ⟨some 4, none, .mov (.tmp 25)⟩])
 .ret) .skip))
 (.seq (.ops true [
  ⟨some 26, none, .ixa 3 1 (.tmp 3) (.cst (I 0))⟩,
  ⟨some 27, none, .load none (.tmp 26)⟩,
  ⟨some 28, none, .call (.cst (.fn (.func 38) [] [])) [(.tmp 27), (.cst (I 41))]⟩,
  ⟨some 29, none, .bin .sub (.tmp 28) (.cst (I 20))⟩,
  ⟨some 30, none, .ixa 3 1 (.tmp 3) (.cst (I 1))⟩,
  ⟨some 31, none, .load none (.tmp 30)⟩,
  ⟨some 32, none, .fad (.tmp 2) 0⟩,
  ⟨some 33, none, .load none (.tmp 32)⟩,
  ⟨some 34, none, .call (.cst (.fn (.func 38) [] [])) [(.tmp 31), (.tmp 33)]⟩,
  ⟨some 35, none, .ixa 3 1 (.tmp 3) (.cst (I 2))⟩,
  ⟨some 36, none, .load none (.tmp 35)⟩,
  ⟨some 37, none, .fad (.tmp 2) 0⟩,
  ⟨some 38, none, .load none (.tmp 37)⟩,
  ⟨some 39, none, .call (.cst (.fn (.func 38) [] [])) [(.tmp 36), (.tmp 38)]⟩,
  ⟨some 5, none, .mov (.tmp 29)⟩,
  ⟨some 6, none, .mov (.tmp 34)⟩,
  ⟨some 7, none, .mov (.tmp 39)⟩])
 (.seq (.ops false [
  ⟨some 40, none, .load (some 6) (.tmp 2)⟩,
  ⟨some 8, none, .alloc [(I 0), .nils, .nils, .nils, (I 0), .nils]⟩,
  ⟨none, none, .store 6 (.tmp 8) (.tmp 40)⟩])
 (.seq (.ops false [
  ⟨some 41, none, .fad (.tmp 8) 2⟩,
  ⟨none, none, .store 1 (.tmp 41) (.cst .nils)⟩])
 (.seq (.seq (.ops false [
  ⟨some 9, none, .mov (.cst (I 0))⟩])
 (.block 0 (.loop keep12_0 body12_0)))
 (.seq (.seq (.ops false [
  ⟨some 11, none, .mov (.cst (I 0))⟩])
 (.block 2 (.loop keep12_1 body12_1)))
 (.seq (.ops false [
  ⟨some 109, none, .load (some 6) (.tmp 2)⟩,
  ⟨some 110, none, .mov (.tmp 6)⟩,
  ⟨some 111, none, .call (.cst (.fn (.func 19) [] [])) [(.tmp 109), (.tmp 110)]⟩,
  ⟨some 108, none, .mov (.tmp 111)⟩,
  ⟨some 112, none, .ext (.tmp 108) 0⟩,
  ⟨some 113, none, .ext (.tmp 108) 1⟩,
  ⟨some 14, none, .alloc [(I 0), (I 0)]⟩,
  ⟨none, none, .store 2 (.tmp 14) (.tmp 112)⟩,
  ⟨some 15, none, .mov (.tmp 113)⟩])
 (.seq (.ops false [
  ⟨some 115, none, .load (some 6) (.tmp 8)⟩,
  ⟨some 116, none, .mov (.tmp 6)⟩,
  ⟨some 117, none, .call (.cst (.fn (.func 19) [] [])) [(.tmp 115), (.tmp 116)]⟩,
  ⟨some 114, none, .mov (.tmp 117)⟩,
  ⟨some 118, none, .ext (.tmp 114) 0⟩,
  ⟨some 119, none, .ext (.tmp 114) 1⟩,
  ⟨some 16, none, .alloc [(I 0), (I 0)]⟩,
  ⟨none, none, .store 2 (.tmp 16) (.tmp 118)⟩,
  ⟨some 17, none, .mov (.tmp 119)⟩])
 (.seq (.ops false [
  ⟨some 121, none, .load (some 6) (.tmp 2)⟩,
  ⟨some 122, none, .mov (.tmp 6)⟩,
  ⟨some 123, none, .mov (.tmp 7)⟩,
  ⟨some 124, none, .call (.cst (.fn (.func 21) [] [])) [(.tmp 121), (.tmp 122), (.tmp 123)]⟩,
  ⟨some 120, none, .mov (.tmp 124)⟩,
  ⟨some 125, none, .ext (.tmp 120) 0⟩,
  ⟨some 126, none, .ext (.tmp 120) 1⟩,
  ⟨some 18, none, .alloc [(I 0), (I 0)]⟩,
  ⟨none, none, .store 2 (.tmp 18) (.tmp 125)⟩,
  ⟨some 19, none, .mov (.tmp 126)⟩])
 (.seq (.ops false [
  ⟨some 128, none, .load (some 6) (.tmp 8)⟩,
  ⟨some 129, none, .mov (.tmp 6)⟩,
  ⟨some 130, none, .mov (.tmp 7)⟩,
  ⟨some 131, none, .call (.cst (.fn (.func 21) [] [])) [(.tmp 128), (.tmp 129), (.tmp 130)]⟩,
  ⟨some 127, none, .mov (.tmp 131)⟩,
  ⟨some 132, none, .ext (.tmp 127) 0⟩,
  ⟨some 133, none, .ext (.tmp 127) 1⟩,
  ⟨some 20, none, .alloc [(I 0), (I 0)]⟩,
  ⟨none, none, .store 2 (.tmp 20) (.tmp 132)⟩,
  ⟨some 21, none, .mov (.tmp 133)⟩])
 (.seq (.ops true [
  ⟨some 134, none, .mov (.tmp 15)⟩,
  ⟨some 135, none, .bin .eql (.tmp 134) (.cst (I 0))⟩,
  ⟨some 136, none, .mov (.tmp 135)⟩,
  ⟨some 137, some ((some 136), true), .mov (.tmp 17)⟩,
  ⟨some 138, some ((some 136), true), .bin .eql (.tmp 137) (.cst (I 0))⟩,
  ⟨some 139, none, .pick (.tmp 136) (.tmp 138) (.cst (.bool false))⟩,
  ⟨some 140, none, .mov (.tmp 139)⟩,
  ⟨some 141, some ((some 140), true), .mov (.tmp 19)⟩,
  ⟨some 142, some ((some 140), true), .bin .eql (.tmp 141) (.cst (I 0))⟩,
  ⟨some 143, none, .pick (.tmp 140) (.tmp 142) (.cst (.bool false))⟩,
  ⟨some 144, none, .mov (.tmp 143)⟩,
  ⟨some 145, some ((some 144), true), .mov (.tmp 21)⟩,
  ⟨some 146, some ((some 144), true), .bin .eql (.tmp 145) (.cst (I 0))⟩,
  ⟨some 147, none, .pick (.tmp 144) (.tmp 146) (.cst (.bool false))⟩,
  ⟨some 148, none, .mov (.tmp 147)⟩,
  ⟨some 149, some ((some 148), true), .load (some 2) (.tmp 16)⟩,
  ⟨some 150, some ((some 148), true), .fad (.tmp 14) 0⟩,
  ⟨some 151, some ((some 148), true), .load none (.tmp 150)⟩,
  ⟨some 152, some ((some 148), true), .mov (.tmp 5)⟩,
  ⟨some 153, some ((some 148), true), .bin .add (.tmp 151) (.tmp 152)⟩,
  ⟨some 154, some ((some 148), true), .fad (.tmp 14) 1⟩,
  ⟨some 155, some ((some 148), true), .load none (.tmp 154)⟩,
  ⟨some 156, some ((some 148), true), .mov (.tmp 5)⟩,
  ⟨some 157, some ((some 148), true), .bin .add (.tmp 155) (.tmp 156)⟩,
  ⟨some 158, some ((some 148), true), .call (.cst (.fn (.func 49) [] [])) [(.tmp 153), (.tmp 157)]⟩,
  ⟨some 159, some ((some 148), true), .eqa 2 false (.tmp 149) (.tmp 158)⟩,
  ⟨some 160, none, .pick (.tmp 148) (.tmp 159) (.cst (.bool false))⟩,
  ⟨some 161, none, .mov (.tmp 160)⟩,
  ⟨some 162, some ((some 161), true), .load (some 2) (.tmp 18)⟩,
  ⟨some 163, some ((some 161), true), .load (some 2) (.tmp 20)⟩,
  ⟨some 164, some ((some 161), true), .eqa 2 false (.tmp 162) (.tmp 163)⟩,
  ⟨some 165, none, .pick (.tmp 161) (.tmp 164) (.cst (.bool false))⟩,
  ⟨some 166, none, .mov (.tmp 165)⟩,
  ⟨some 167, some ((some 166), true), .call (.cst (.fn (.func 25) [] [])) []⟩,
  ⟨some 168, none, .pick (.tmp 166) (.tmp 167) (.cst (.bool false))⟩,
  ⟨some 4, none, .mov (.tmp 168)⟩])
 .ret))))))))))))⟩
theorem comp12 : compF Cv 12 = some code12 := by kernel_rfl
end Go.Ai
