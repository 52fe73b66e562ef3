/- This text shows the codes of the program's functions, each by the kernel. No conditions of its own. -/
import Derived.Test.YtcndfpjjcbjhpaaDoorSimp
import Derived.Test.YtcndfpjjcbjhpaaDoorProg
import Derived.KernelRfl
set_option linter.unusedSimpArgs false
set_option linter.unusedVariables false
set_option maxRecDepth 100000
namespace Go.Ai
def keeps : List ((Nat × Nat) × List Nat) := [((6, 24), [7, 10, 11, 24, 25, 26]),
  ((6, 29), [7, 10, 25, 27]),
  ((9, 7), [2, 5, 6, 7, 8, 9]),
  ((10, 8), [2, 5, 6, 8, 9, 10, 11, 12]),
  ((17, 3), [1, 3, 24, 25, 26]),
  ((17, 10), [1, 3, 65, 66, 67]),
  ((18, 3), [1, 3, 4]),
  ((18, 8), [1, 3, 6]),
  ((20, 7), [4, 7, 8, 9]),
  ((22, 7), [4, 7, 8, 9]),
  ((24, 7), [2, 6, 9, 10, 11]),
  ((29, 6), [1, 2, 3, 9, 10]),
  ((30, 3), [0, 1, 5, 6]),
  ((32, 6), [1, 2, 7, 8]),
  ((33, 5), [1, 2, 7, 10, 36, 37]),
  ((33, 9), [1, 2, 7, 10, 12, 13, 36, 37]),
  ((34, 5), [1, 2, 4, 7, 11]),
  ((34, 9), [1, 2, 4, 7, 11, 12, 13]),
  ((37, 7), [5, 18, 19]),
  ((38, 7), [1, 5, 6, 7]),
  ((39, 3), [1, 3, 4]),
  ((39, 8), [1, 3, 6]),
  ((40, 3), [1, 2, 5, 6]),
  ((40, 9), [1, 2, 5, 6, 7, 8, 9, 10, 11, 12]),
  ((41, 4), [1, 2, 4, 5, 6]),
  ((46, 2), [0, 1, 5]),
  ((50, 3), [0, 3, 4]),
  ((52, 3), [0, 1, 5, 6]),
  ((53, 2), [0, 1, 5]),
  ((54, 4), [1, 2, 4, 5, 6]),
  ((60, 3), [1, 2, 4, 5, 16, 17]),
  ((60, 10), [5, 6, 8, 34, 35]),
  ((62, 2), [1, 2, 5]),
  ((71, 5), [1, 2, 3, 7, 8, 9]),
  ((71, 8), [1, 2, 3, 7, 8, 9]),
  ((71, 11), [1, 2, 3, 7, 8, 9]),
  ((71, 14), [1, 2, 3, 7, 8, 9]),
  ((71, 17), [1, 2, 3, 7, 8, 9]),
  ((72, 3), [0, 2, 3, 4]),
  ((78, 4), [2, 4, 6, 18, 19, 20]),
  ((82, 3), [1, 2, 3, 4, 8, 9, 24, 25, 26]),
  ((83, 3), [1, 3, 6, 7]),
  ((85, 3), [2, 3, 9, 10, 11]),
  ((86, 3), [1, 5, 10, 11]),
  ((89, 8), [0, 1, 2, 3, 8, 10]),
  ((93, 2), [0, 1, 5]),
  ((95, 2), [0, 7, 8, 9]),
  ((99, 2), [1, 3, 4, 6, 9]),
  ((104, 2), [1, 3, 4, 6, 13, 14, 15]),
  ((105, 3), [1, 3, 4, 5, 6, 7, 8, 11, 21, 22]),
  ((106, 2), [0, 1, 7, 8]),
  ((109, 2), [0, 1, 7, 8])]
def keepOf (f i : Nat) : Option (List Nat) := keeps.lookup (f, i)

noncomputable def Cv : Cfg := { P := Go.Proofs.Tryd.prog, glob := fun g => if g = 0 then some [.fn (.func 126) [] [], .fn (.func 127) [] []] else if g = 1 then some [I (-1), I (-1)] else if g = 2 then some [I (-1), I (-1), I (-1), I (-1), I (-1)] else none, wsite := fun f t => f == 12 && t == 43, imp := fun f => f == 89 || f == 94 || f == 103 || f == 105, keep := keepOf }
def code3 : MF := ⟨109, [(4, none)], (.seq (.ops false [
  ⟨some 2, none, .box (.tmp 0)⟩,
  ⟨some 3, none, .box (.tmp 1)⟩,
  ⟨some 4, none, .mov (.cst (.bool false))⟩])
 (.seq (.ops false [
  ⟨some 12, none, .load (some 3) (.tmp 2)⟩,
  ⟨some 13, none, .call (.cst (.fn (.func 15) [] [])) [(.tmp 12)]⟩,
  ⟨some 11, none, .mov (.tmp 13)⟩,
  ⟨some 14, none, .ext (.tmp 11) 0⟩,
  ⟨some 15, none, .ext (.tmp 11) 1⟩,
  ⟨some 5, none, .mov (.tmp 14)⟩,
  ⟨some 6, none, .mov (.tmp 15)⟩])
 (.seq (.ops false [
  ⟨some 17, none, .load (some 3) (.tmp 2)⟩,
  ⟨some 18, none, .call (.cst (.fn (.func 16) [] [])) [(.tmp 17)]⟩,
  ⟨some 16, none, .mov (.tmp 18)⟩,
  ⟨some 19, none, .ext (.tmp 16) 0⟩,
  ⟨some 20, none, .ext (.tmp 16) 1⟩,
  ⟨some 7, none, .mov (.tmp 19)⟩,
  ⟨some 8, none, .mov (.tmp 20)⟩])
 (.seq (.seq (.ops true [
  ⟨some 21, none, .mov (.tmp 5)⟩,
  ⟨some 22, none, .mov (.tmp 7)⟩,
  ⟨some 23, none, .beq true (.tmp 21) (.tmp 22)⟩,
  ⟨some 24, none, .mov (.tmp 23)⟩,
  ⟨some 25, some ((some 24), false), .mov (.tmp 6)⟩,
  ⟨some 26, some ((some 24), false), .mov (.tmp 8)⟩,
  ⟨some 27, some ((some 24), false), .bin .neq (.tmp 25) (.tmp 26)⟩,
  ⟨some 28, none, .pick (.tmp 24) (.cst (.bool true)) (.tmp 27)⟩,
  ⟨some 29, none, .mov (.tmp 28)⟩,
  ⟨some 30, some ((some 29), false), .load (some 3) (.tmp 2)⟩,
  ⟨some 31, some ((some 29), false), .call (.cst (.fn (.func 17) [] [])) [(.tmp 30)]⟩,
  ⟨some 32, some ((some 29), false), .load (some 3) (.tmp 2)⟩,
  ⟨some 33, some ((some 29), false), .call (.cst (.fn (.func 18) [] [])) [(.tmp 32)]⟩,
  ⟨some 34, some ((some 29), false), .bin .neq (.tmp 31) (.tmp 33)⟩,
  ⟨some 35, none, .pick (.tmp 29) (.cst (.bool true)) (.tmp 34)⟩])
 (.cond (.tmp 35) (.seq (.ops false [
  ⟨some 4, none, .mov (.cst (.bool false))⟩])
 .ret) .skip))
 (.seq (.ops false [
  ⟨some 37, none, .load (some 3) (.tmp 2)⟩,
  ⟨some 38, none, .ixa 2 1 (.tmp 3) (.cst (I 0))⟩,
  ⟨some 39, none, .load none (.tmp 38)⟩,
  ⟨some 40, none, .call (.cst (.fn (.func 19) [] [])) [(.tmp 37), (.tmp 39)]⟩,
  ⟨some 36, none, .mov (.tmp 40)⟩,
  ⟨some 41, none, .ext (.tmp 36) 0⟩,
  ⟨some 42, none, .ext (.tmp 36) 1⟩,
  ⟨some 9, none, .alloc [(I 0), (I 0)]⟩,
  ⟨none, none, .store 2 (.tmp 9) (.tmp 41)⟩,
  ⟨some 6, none, .mov (.tmp 42)⟩])
 (.seq (.ops false [
  ⟨some 44, none, .load (some 3) (.tmp 2)⟩,
  ⟨some 45, none, .ixa 2 1 (.tmp 3) (.cst (I 0))⟩,
  ⟨some 46, none, .load none (.tmp 45)⟩,
  ⟨some 47, none, .call (.cst (.fn (.func 20) [] [])) [(.tmp 44), (.tmp 46)]⟩,
  ⟨some 43, none, .mov (.tmp 47)⟩,
  ⟨some 48, none, .ext (.tmp 43) 0⟩,
  ⟨some 49, none, .ext (.tmp 43) 1⟩,
  ⟨some 10, none, .alloc [(I 0), (I 0)]⟩,
  ⟨none, none, .store 2 (.tmp 10) (.tmp 48)⟩,
  ⟨some 8, none, .mov (.tmp 49)⟩])
 (.seq (.seq (.ops false [
  ⟨some 50, none, .load (some 2) (.tmp 9)⟩,
  ⟨some 51, none, .load (some 2) (.tmp 10)⟩,
  ⟨some 52, none, .eqa 2 true (.tmp 50) (.tmp 51)⟩,
  ⟨some 53, none, .mov (.tmp 52)⟩,
  ⟨some 54, some ((some 53), false), .mov (.tmp 6)⟩,
  ⟨some 55, some ((some 53), false), .mov (.tmp 8)⟩,
  ⟨some 56, some ((some 53), false), .bin .neq (.tmp 54) (.tmp 55)⟩,
  ⟨some 57, none, .pick (.tmp 53) (.cst (.bool true)) (.tmp 56)⟩])
 (.cond (.tmp 57) (.seq (.ops false [
  ⟨some 4, none, .mov (.cst (.bool false))⟩])
 .ret) .skip))
 (.seq (.ops false [
  ⟨some 59, none, .load (some 3) (.tmp 2)⟩,
  ⟨some 60, none, .ixa 2 1 (.tmp 3) (.cst (I 0))⟩,
  ⟨some 61, none, .load none (.tmp 60)⟩,
  ⟨some 62, none, .call (.cst (.fn (.func 21) [] [])) [(.tmp 59), (.tmp 61)]⟩,
  ⟨some 58, none, .mov (.tmp 62)⟩,
  ⟨some 63, none, .ext (.tmp 58) 0⟩,
  ⟨some 64, none, .ext (.tmp 58) 1⟩,
  ⟨none, none, .store 2 (.tmp 9) (.tmp 63)⟩,
  ⟨some 6, none, .mov (.tmp 64)⟩])
 (.seq (.ops false [
  ⟨some 66, none, .load (some 3) (.tmp 2)⟩,
  ⟨some 67, none, .ixa 2 1 (.tmp 3) (.cst (I 0))⟩,
  ⟨some 68, none, .load none (.tmp 67)⟩,
  ⟨some 69, none, .call (.cst (.fn (.func 22) [] [])) [(.tmp 66), (.tmp 68)]⟩,
  ⟨some 65, none, .mov (.tmp 69)⟩,
  ⟨some 70, none, .ext (.tmp 65) 0⟩,
  ⟨some 71, none, .ext (.tmp 65) 1⟩,
  ⟨none, none, .store 2 (.tmp 10) (.tmp 70)⟩,
  ⟨some 8, none, .mov (.tmp 71)⟩])
 (.seq (.seq (.ops false [
  ⟨some 72, none, .load (some 2) (.tmp 9)⟩,
  ⟨some 73, none, .load (some 2) (.tmp 10)⟩,
  ⟨some 74, none, .eqa 2 true (.tmp 72) (.tmp 73)⟩,
  ⟨some 75, none, .mov (.tmp 74)⟩,
  ⟨some 76, some ((some 75), false), .mov (.tmp 6)⟩,
  ⟨some 77, some ((some 75), false), .mov (.tmp 8)⟩,
  ⟨some 78, some ((some 75), false), .bin .neq (.tmp 76) (.tmp 77)⟩,
  ⟨some 79, none, .pick (.tmp 75) (.cst (.bool true)) (.tmp 78)⟩])
 (.cond (.tmp 79) (.seq (.ops false [
  ⟨some 4, none, .mov (.cst (.bool false))⟩])
 .ret) .skip))
 (.seq (.ops false [
  ⟨some 81, none, .load (some 3) (.tmp 2)⟩,
  ⟨some 82, none, .ixa 2 1 (.tmp 3) (.cst (I 0))⟩,
  ⟨some 83, none, .load none (.tmp 82)⟩,
  ⟨some 84, none, .ixa 2 1 (.tmp 3) (.cst (I 1))⟩,
  ⟨some 85, none, .load none (.tmp 84)⟩,
  ⟨some 86, none, .call (.cst (.fn (.func 23) [] [])) [(.tmp 81), (.tmp 83), (.tmp 85)]⟩,
  ⟨some 80, none, .mov (.tmp 86)⟩,
  ⟨some 87, none, .ext (.tmp 80) 0⟩,
  ⟨some 88, none, .ext (.tmp 80) 1⟩,
  ⟨none, none, .store 2 (.tmp 9) (.tmp 87)⟩,
  ⟨some 6, none, .mov (.tmp 88)⟩])
 (.seq (.ops false [
  ⟨some 90, none, .load (some 3) (.tmp 2)⟩,
  ⟨some 91, none, .ixa 2 1 (.tmp 3) (.cst (I 0))⟩,
  ⟨some 92, none, .load none (.tmp 91)⟩,
  ⟨some 93, none, .ixa 2 1 (.tmp 3) (.cst (I 1))⟩,
  ⟨some 94, none, .load none (.tmp 93)⟩,
  ⟨some 95, none, .call (.cst (.fn (.func 24) [] [])) [(.tmp 90), (.tmp 92), (.tmp 94)]⟩,
  ⟨some 89, none, .mov (.tmp 95)⟩,
  ⟨some 96, none, .ext (.tmp 89) 0⟩,
  ⟨some 97, none, .ext (.tmp 89) 1⟩,
  ⟨none, none, .store 2 (.tmp 10) (.tmp 96)⟩,
  ⟨some 8, none, .mov (.tmp 97)⟩])
 (.seq (.ops false [
  ⟨some 98, none, .load (some 2) (.tmp 9)⟩,
  ⟨some 99, none, .load (some 2) (.tmp 10)⟩,
  ⟨some 100, none, .eqa 2 false (.tmp 98) (.tmp 99)⟩,
  ⟨some 101, none, .mov (.tmp 100)⟩,
  ⟨some 102, some ((some 101), true), .mov (.tmp 6)⟩,
  ⟨some 103, some ((some 101), true), .mov (.tmp 8)⟩,
  ⟨some 104, some ((some 101), true), .bin .eql (.tmp 102) (.tmp 103)⟩,
  ⟨some 105, none, .pick (.tmp 101) (.tmp 104) (.cst (.bool false))⟩,
  ⟨some 106, none, .mov (.tmp 105)⟩,
  ⟨some 107, some ((some 106), true), .call (.cst (.fn (.func 25) [] [])) []⟩,
  ⟨some 108, none, .pick (.tmp 106) (.tmp 107) (.cst (.bool false))⟩,
  ⟨some 4, none, .mov (.tmp 108)⟩])
 .ret)))))))))))))⟩
theorem comp3 : compF Cv 3 = some code3 := by kernel_rfl

def code4 : MF := ⟨124, [(6, none)], (.seq (.ops false [
  ⟨some 3, none, .box (.tmp 0)⟩,
  ⟨some 4, none, .box (.tmp 1)⟩,
  ⟨some 5, none, .box (.tmp 2)⟩,
  ⟨some 6, none, .mov (.cst (.bool false))⟩])
 (.seq (.ops false [
  ⟨some 14, none, .load (some 3) (.tmp 3)⟩,
  ⟨some 15, none, .ixa 3 1 (.tmp 4) (.cst (I 0))⟩,
  ⟨some 16, none, .load none (.tmp 15)⟩,
  ⟨some 17, none, .ixa 3 1 (.tmp 4) (.cst (I 1))⟩,
  ⟨some 18, none, .load none (.tmp 17)⟩,
  ⟨some 19, none, .ixa 3 1 (.tmp 4) (.cst (I 2))⟩,
  ⟨some 20, none, .load none (.tmp 19)⟩,
  ⟨some 21, none, .call (.cst (.fn (.func 26) [] [])) [(.tmp 14), (.tmp 16), (.tmp 18), (.tmp 20)]⟩,
  ⟨some 13, none, .mov (.tmp 21)⟩,
  ⟨some 22, none, .ext (.tmp 13) 0⟩,
  ⟨some 23, none, .ext (.tmp 13) 1⟩,
  ⟨some 7, none, .mov (.tmp 22)⟩,
  ⟨some 8, none, .mov (.tmp 23)⟩])
 (.seq (.ops false [
  ⟨some 25, none, .load (some 3) (.tmp 3)⟩,
  ⟨some 26, none, .ixa 3 1 (.tmp 4) (.cst (I 0))⟩,
  ⟨some 27, none, .load none (.tmp 26)⟩,
  ⟨some 28, none, .ixa 3 1 (.tmp 4) (.cst (I 1))⟩,
  ⟨some 29, none, .load none (.tmp 28)⟩,
  ⟨some 30, none, .ixa 3 1 (.tmp 4) (.cst (I 2))⟩,
  ⟨some 31, none, .load none (.tmp 30)⟩,
  ⟨some 32, none, .call (.cst (.fn (.func 27) [] [])) [(.tmp 25), (.tmp 27), (.tmp 29), (.tmp 31)]⟩,
  ⟨some 24, none, .mov (.tmp 32)⟩,
  ⟨some 33, none, .ext (.tmp 24) 0⟩,
  ⟨some 34, none, .ext (.tmp 24) 1⟩,
  ⟨some 9, none, .mov (.tmp 33)⟩,
  ⟨some 10, none, .mov (.tmp 34)⟩])
 (.seq (.seq (.ops false [
  ⟨some 35, none, .mov (.tmp 7)⟩,
  ⟨some 36, none, .mov (.tmp 9)⟩,
  ⟨some 37, none, .bin .neq (.tmp 35) (.tmp 36)⟩,
  ⟨some 38, none, .mov (.tmp 37)⟩,
  ⟨some 39, some ((some 38), false), .mov (.tmp 8)⟩,
  ⟨some 40, some ((some 38), false), .mov (.tmp 10)⟩,
  ⟨some 41, some ((some 38), false), .bin .neq (.tmp 39) (.tmp 40)⟩,
  ⟨some 42, none, .pick (.tmp 38) (.cst (.bool true)) (.tmp 41)⟩])
 (.cond (.tmp 42) (.seq (.ops false [
  ⟨some 6, none, .mov (.cst (.bool false))⟩])
 .ret) .skip))
 (.seq (.ops false [
  ⟨some 44, none, .load (some 3) (.tmp 3)⟩,
  ⟨some 45, none, .ixa 3 1 (.tmp 4) (.cst (I 1))⟩,
  ⟨some 46, none, .load none (.tmp 45)⟩,
  ⟨some 47, none, .ixa 3 1 (.tmp 4) (.cst (I 2))⟩,
  ⟨some 48, none, .load none (.tmp 47)⟩,
  ⟨some 49, none, .call (.cst (.fn (.func 28) [] [])) [(.tmp 44), (.tmp 46), (.tmp 48)]⟩,
  ⟨some 43, none, .mov (.tmp 49)⟩,
  ⟨some 50, none, .ext (.tmp 43) 0⟩,
  ⟨some 51, none, .ext (.tmp 43) 1⟩,
  ⟨some 11, none, .mov (.tmp 50)⟩,
  ⟨some 8, none, .mov (.tmp 51)⟩])
 (.seq (.ops false [
  ⟨some 53, none, .load (some 3) (.tmp 3)⟩,
  ⟨some 54, none, .ixa 3 1 (.tmp 4) (.cst (I 1))⟩,
  ⟨some 55, none, .load none (.tmp 54)⟩,
  ⟨some 56, none, .ixa 3 1 (.tmp 4) (.cst (I 2))⟩,
  ⟨some 57, none, .load none (.tmp 56)⟩,
  ⟨some 58, none, .call (.cst (.fn (.func 29) [] [])) [(.tmp 53), (.tmp 55), (.tmp 57)]⟩,
  ⟨some 52, none, .mov (.tmp 58)⟩,
  ⟨some 59, none, .ext (.tmp 52) 0⟩,
  ⟨some 60, none, .ext (.tmp 52) 1⟩,
  ⟨some 12, none, .mov (.tmp 59)⟩,
  ⟨some 10, none, .mov (.tmp 60)⟩])
 (.seq (.seq (.ops false [
  ⟨some 61, none, .mov (.tmp 11)⟩,
  ⟨some 62, none, .mov (.tmp 12)⟩,
  ⟨some 63, none, .call (.cst (.fn (.func 30) [] [])) [(.tmp 61), (.tmp 62)]⟩,
  ⟨some 64, none, .lnot (.tmp 63)⟩,
  ⟨some 65, none, .mov (.tmp 64)⟩,
  ⟨some 66, some ((some 65), false), .mov (.tmp 8)⟩,
  ⟨some 67, some ((some 65), false), .mov (.tmp 10)⟩,
  ⟨some 68, some ((some 65), false), .bin .neq (.tmp 66) (.tmp 67)⟩,
  ⟨some 69, none, .pick (.tmp 65) (.cst (.bool true)) (.tmp 68)⟩])
 (.cond (.tmp 69) (.seq (.ops false [
  ⟨some 6, none, .mov (.cst (.bool false))⟩])
 .ret) .skip))
 (.seq (.ops false [
  ⟨some 71, none, .load (some 3) (.tmp 3)⟩,
  ⟨some 72, none, .ixa 3 1 (.tmp 4) (.cst (I 1))⟩,
  ⟨some 73, none, .load none (.tmp 72)⟩,
  ⟨some 74, none, .call (.cst (.fn (.func 31) [] [])) [(.tmp 71), (.tmp 73)]⟩,
  ⟨some 70, none, .mov (.tmp 74)⟩,
  ⟨some 75, none, .ext (.tmp 70) 0⟩,
  ⟨some 76, none, .ext (.tmp 70) 1⟩,
  ⟨some 11, none, .mov (.tmp 75)⟩,
  ⟨some 8, none, .mov (.tmp 76)⟩])
 (.seq (.ops false [
  ⟨some 78, none, .load (some 3) (.tmp 3)⟩,
  ⟨some 79, none, .ixa 3 1 (.tmp 4) (.cst (I 1))⟩,
  ⟨some 80, none, .load none (.tmp 79)⟩,
  ⟨some 81, none, .call (.cst (.fn (.func 32) [] [])) [(.tmp 78), (.tmp 80)]⟩,
  ⟨some 77, none, .mov (.tmp 81)⟩,
  ⟨some 82, none, .ext (.tmp 77) 0⟩,
  ⟨some 83, none, .ext (.tmp 77) 1⟩,
  ⟨some 12, none, .mov (.tmp 82)⟩,
  ⟨some 10, none, .mov (.tmp 83)⟩])
 (.seq (.seq (.ops false [
  ⟨some 84, none, .mov (.tmp 11)⟩,
  ⟨some 85, none, .mov (.tmp 12)⟩,
  ⟨some 86, none, .call (.cst (.fn (.func 30) [] [])) [(.tmp 84), (.tmp 85)]⟩,
  ⟨some 87, none, .lnot (.tmp 86)⟩,
  ⟨some 88, none, .mov (.tmp 87)⟩,
  ⟨some 89, some ((some 88), false), .mov (.tmp 8)⟩,
  ⟨some 90, some ((some 88), false), .mov (.tmp 10)⟩,
  ⟨some 91, some ((some 88), false), .bin .neq (.tmp 89) (.tmp 90)⟩,
  ⟨some 92, none, .pick (.tmp 88) (.cst (.bool true)) (.tmp 91)⟩])
 (.cond (.tmp 92) (.seq (.ops false [
  ⟨some 6, none, .mov (.cst (.bool false))⟩])
 .ret) .skip))
 (.seq (.ops false [
  ⟨some 94, none, .load (some 3) (.tmp 3)⟩,
  ⟨some 95, none, .ixa 3 1 (.tmp 4) (.cst (I 0))⟩,
  ⟨some 96, none, .load none (.tmp 95)⟩,
  ⟨some 97, none, .ixa 3 1 (.tmp 4) (.cst (I 1))⟩,
  ⟨some 98, none, .load none (.tmp 97)⟩,
  ⟨some 99, none, .load (some 2) (.tmp 5)⟩,
  ⟨some 100, none, .call (.cst (.fn (.func 33) [] [])) [(.tmp 94), (.tmp 96), (.tmp 98), (.tmp 99)]⟩,
  ⟨some 93, none, .mov (.tmp 100)⟩,
  ⟨some 101, none, .ext (.tmp 93) 0⟩,
  ⟨some 102, none, .ext (.tmp 93) 1⟩,
  ⟨some 7, none, .mov (.tmp 101)⟩,
  ⟨some 8, none, .mov (.tmp 102)⟩])
 (.seq (.ops false [
  ⟨some 104, none, .load (some 3) (.tmp 3)⟩,
  ⟨some 105, none, .ixa 3 1 (.tmp 4) (.cst (I 0))⟩,
  ⟨some 106, none, .load none (.tmp 105)⟩,
  ⟨some 107, none, .ixa 3 1 (.tmp 4) (.cst (I 1))⟩,
  ⟨some 108, none, .load none (.tmp 107)⟩,
  ⟨some 109, none, .load (some 2) (.tmp 5)⟩,
  ⟨some 110, none, .call (.cst (.fn (.func 34) [] [])) [(.tmp 104), (.tmp 106), (.tmp 108), (.tmp 109)]⟩,
  ⟨some 103, none, .mov (.tmp 110)⟩,
  ⟨some 111, none, .ext (.tmp 103) 0⟩,
  ⟨some 112, none, .ext (.tmp 103) 1⟩,
  ⟨some 9, none, .mov (.tmp 111)⟩,
  ⟨some 10, none, .mov (.tmp 112)⟩])
 (.seq (.ops false [
  ⟨some 113, none, .mov (.tmp 7)⟩,
  ⟨some 114, none, .mov (.tmp 9)⟩,
  ⟨some 115, none, .bin .eql (.tmp 113) (.tmp 114)⟩,
  ⟨some 116, none, .mov (.tmp 115)⟩,
  ⟨some 117, some ((some 116), true), .mov (.tmp 8)⟩,
  ⟨some 118, some ((some 116), true), .mov (.tmp 10)⟩,
  ⟨some 119, some ((some 116), true), .bin .eql (.tmp 117) (.tmp 118)⟩,
  ⟨some 120, none, .pick (.tmp 116) (.tmp 119) (.cst (.bool false))⟩,
  ⟨some 121, none, .mov (.tmp 120)⟩,
  ⟨some 122, some ((some 121), true), .call (.cst (.fn (.func 25) [] [])) []⟩,
  ⟨some 123, none, .pick (.tmp 121) (.tmp 122) (.cst (.bool false))⟩,
  ⟨some 6, none, .mov (.tmp 123)⟩])
 .ret)))))))))))))⟩
theorem comp4 : compF Cv 4 = some code4 := by kernel_rfl

def code5 : MF := ⟨52, [(4, none)], (.seq (.ops false [
  ⟨some 2, none, .box (.tmp 0)⟩,
  ⟨some 3, none, .box (.tmp 1)⟩,
  ⟨some 4, none, .mov (.cst (.bool false))⟩])
 (.seq (.ops false [
  ⟨some 12, none, .load (some 3) (.tmp 2)⟩,
  ⟨some 13, none, .load (some 4) (.tmp 3)⟩,
  ⟨some 14, none, .call (.cst (.fn (.func 35) [] [])) [(.tmp 12), (.tmp 13)]⟩,
  ⟨some 11, none, .mov (.tmp 14)⟩,
  ⟨some 15, none, .ext (.tmp 11) 0⟩,
  ⟨some 16, none, .ext (.tmp 11) 1⟩,
  ⟨some 5, none, .mov (.tmp 15)⟩,
  ⟨some 6, none, .mov (.tmp 16)⟩])
 (.seq (.ops false [
  ⟨some 18, none, .load (some 3) (.tmp 2)⟩,
  ⟨some 19, none, .load (some 4) (.tmp 3)⟩,
  ⟨some 20, none, .call (.cst (.fn (.func 36) [] [])) [(.tmp 18), (.tmp 19)]⟩,
  ⟨some 17, none, .mov (.tmp 20)⟩,
  ⟨some 21, none, .ext (.tmp 17) 0⟩,
  ⟨some 22, none, .ext (.tmp 17) 1⟩,
  ⟨some 7, none, .mov (.tmp 21)⟩,
  ⟨some 8, none, .mov (.tmp 22)⟩])
 (.seq (.seq (.ops false [
  ⟨some 23, none, .mov (.tmp 5)⟩,
  ⟨some 24, none, .mov (.tmp 7)⟩,
  ⟨some 25, none, .beq true (.tmp 23) (.tmp 24)⟩,
  ⟨some 26, none, .mov (.tmp 25)⟩,
  ⟨some 27, some ((some 26), false), .mov (.tmp 6)⟩,
  ⟨some 28, some ((some 26), false), .mov (.tmp 8)⟩,
  ⟨some 29, some ((some 26), false), .bin .neq (.tmp 27) (.tmp 28)⟩,
  ⟨some 30, none, .pick (.tmp 26) (.cst (.bool true)) (.tmp 29)⟩])
 (.cond (.tmp 30) (.seq (.ops false [
  ⟨some 4, none, .mov (.cst (.bool false))⟩])
 .ret) .skip))
 (.seq (.ops false [
  ⟨some 32, none, .load (some 3) (.tmp 2)⟩,
  ⟨some 33, none, .call (.cst (.fn (.func 37) [] [])) [(.tmp 32)]⟩,
  ⟨some 31, none, .mov (.tmp 33)⟩,
  ⟨some 34, none, .ext (.tmp 31) 0⟩,
  ⟨some 35, none, .ext (.tmp 31) 1⟩,
  ⟨some 9, none, .mov (.tmp 34)⟩,
  ⟨some 6, none, .mov (.tmp 35)⟩])
 (.seq (.ops false [
  ⟨some 37, none, .load (some 3) (.tmp 2)⟩,
  ⟨some 38, none, .call (.cst (.fn (.func 38) [] [])) [(.tmp 37)]⟩,
  ⟨some 36, none, .mov (.tmp 38)⟩,
  ⟨some 39, none, .ext (.tmp 36) 0⟩,
  ⟨some 40, none, .ext (.tmp 36) 1⟩,
  ⟨some 10, none, .mov (.tmp 39)⟩,
  ⟨some 8, none, .mov (.tmp 40)⟩])
 (.seq (.ops false [
  ⟨some 41, none, .mov (.tmp 9)⟩,
  ⟨some 42, none, .mov (.tmp 10)⟩,
  ⟨some 43, none, .call (.cst (.fn (.func 30) [] [])) [(.tmp 41), (.tmp 42)]⟩,
  ⟨some 44, none, .mov (.tmp 43)⟩,
  ⟨some 45, some ((some 44), true), .mov (.tmp 6)⟩,
  ⟨some 46, some ((some 44), true), .mov (.tmp 8)⟩,
  ⟨some 47, some ((some 44), true), .bin .eql (.tmp 45) (.tmp 46)⟩,
  ⟨some 48, none, .pick (.tmp 44) (.tmp 47) (.cst (.bool false))⟩,
  ⟨some 49, none, .mov (.tmp 48)⟩,
  ⟨some 50, some ((some 49), true), .call (.cst (.fn (.func 25) [] [])) []⟩,
  ⟨some 51, none, .pick (.tmp 49) (.tmp 50) (.cst (.bool false))⟩,
  ⟨some 4, none, .mov (.tmp 51)⟩])
 .ret)))))))⟩
theorem comp5 : compF Cv 5 = some code5 := by kernel_rfl

def body6_0 : MC := (.seq (.seq (.ops false [
  ⟨some 219, none, .mov (.tmp 26)⟩,
  ⟨some 220, none, .mov (.tmp 24)⟩,
  ⟨some 221, none, .len (.tmp 220)⟩,
  ⟨some 222, none, .bin .lss (.tmp 219) (.tmp 221)⟩])
 (.cond (.tmp 222) .skip (.exit 0)))
 (.seq (.block 1 (.seq (.ops false [
  ⟨some 225, none, .mov (.tmp 7)⟩,
  ⟨some 226, none, .mov (.tmp 24)⟩,
  ⟨some 227, none, .mov (.tmp 26)⟩,
  ⟨some 228, none, .ixs 1 (.tmp 226) (.tmp 227)⟩,
  ⟨some 229, none, .load none (.tmp 228)⟩,
  ⟨some 230, none, .ixs 3 (.tmp 225) (.tmp 229)⟩,
  ⟨some 231, none, .load (some 3) (.tmp 230)⟩,
  ⟨some 232, none, .mov (.tmp 10)⟩,
  ⟨some 233, none, .mov (.tmp 11)⟩,
  ⟨some 234, none, .call (.cst (.fn (.func 45) [] [])) [(.tmp 231), (.tmp 232), (.tmp 233)]⟩,
  ⟨some 235, none, .lnot (.tmp 234)⟩])
 (.cond (.tmp 235) (.seq (.ops false [
  ⟨some 6, none, .mov (.cst (.bool false))⟩])
 .ret) .skip)))
 (.ops false [
  ⟨some 223, none, .mov (.tmp 26)⟩,
  ⟨some 224, none, .bin .add (.tmp 223) (.cst (I 1))⟩,
  ⟨some 26, none, .mov (.tmp 224)⟩])))
def keep6_0 : Option (List Nat) := some [7, 10, 11, 24, 25, 26]
def body6_1 : MC := (.seq (.seq (.ops false [
  ⟨some 236, none, .mov (.tmp 27)⟩,
  ⟨some 237, none, .mov (.tmp 25)⟩,
  ⟨some 238, none, .len (.tmp 237)⟩,
  ⟨some 239, none, .bin .lss (.tmp 236) (.tmp 238)⟩])
 (.cond (.tmp 239) .skip (.exit 2)))
 (.seq (.block 3 (.seq (.ops false [
  ⟨some 242, none, .mov (.tmp 7)⟩,
  ⟨some 243, none, .mov (.tmp 25)⟩,
  ⟨some 244, none, .mov (.tmp 27)⟩,
  ⟨some 245, none, .ixs 1 (.tmp 243) (.tmp 244)⟩,
  ⟨some 246, none, .load none (.tmp 245)⟩,
  ⟨some 247, none, .ixs 3 (.tmp 242) (.tmp 246)⟩,
  ⟨some 248, none, .fad (.tmp 247) 1⟩,
  ⟨some 249, none, .load none (.tmp 248)⟩,
  ⟨some 250, none, .mov (.tmp 10)⟩,
  ⟨some 251, none, .bin .gtr (.tmp 249) (.tmp 250)⟩])
 (.cond (.tmp 251) (.seq (.ops false [
  ⟨some 6, none, .mov (.cst (.bool false))⟩])
 .ret) .skip)))
 (.ops false [
  ⟨some 240, none, .mov (.tmp 27)⟩,
  ⟨some 241, none, .bin .add (.tmp 240) (.cst (I 1))⟩,
  ⟨some 27, none, .mov (.tmp 241)⟩])))
def keep6_1 : Option (List Nat) := some [7, 10, 25, 27]
def code6 : MF := ⟨253, [(6, none)], (.seq (.ops false [
  ⟨some 3, none, .box (.tmp 0)⟩,
  ⟨some 5, none, .box (.tmp 2)⟩,
  ⟨some 6, none, .mov (.cst (.bool false))⟩])
 (.seq (.seq (.ops false [
  ⟨some 28, none, .load (some 3) (.tmp 3)⟩,
  ⟨some 29, none, .call (.cst (.fn (.func 39) [] [])) [(.tmp 28)]⟩,
  ⟨some 30, none, .lnot (.tmp 29)⟩])
 (.cond (.tmp 30) (.seq (.ops false [
  ⟨some 31, none, .call (.cst (.fn (.func 25) [] [])) []⟩,
  ⟨some 6, none, .mov (.tmp 31)⟩])
 .ret) .skip))
 (.seq (.ops false [
  ⟨some 32, none, .load (some 3) (.tmp 3)⟩,
  ⟨some 33, none, .mov (.tmp 1)⟩,
  ⟨some 34, none, .call (.cst (.fn (.func 40) [] [])) [(.tmp 32), (.tmp 33)]⟩,
  ⟨some 7, none, .mov (.tmp 34)⟩])
 (.seq (.ops false [
  ⟨some 35, none, .load (some 3) (.tmp 3)⟩,
  ⟨some 36, none, .mov (.tmp 7)⟩,
  ⟨some 37, none, .call (.cst (.fn (.func 41) [] [])) [(.tmp 35), (.tmp 36)]⟩,
  ⟨some 8, none, .alloc [.nils, (I 0), .nils]⟩,
  ⟨none, none, .store 3 (.tmp 8) (.tmp 37)⟩])
 (.seq (.ops true [
  ⟨some 38, none, .ixa 3 1 (.tmp 5) (.cst (I 0))⟩,
  ⟨some 39, none, .load none (.tmp 38)⟩,
  ⟨some 40, none, .fad (.tmp 3) 0⟩,
  ⟨some 41, none, .load none (.tmp 40)⟩,
  ⟨some 42, none, .len (.tmp 41)⟩,
  ⟨some 43, none, .call (.cst (.fn (.func 42) [] [])) [(.tmp 39), (.tmp 42)]⟩,
  ⟨some 44, none, .ixa 3 1 (.tmp 5) (.cst (I 1))⟩,
  ⟨some 45, none, .load none (.tmp 44)⟩,
  ⟨some 46, none, .fad (.tmp 3) 1⟩,
  ⟨some 47, none, .load none (.tmp 46)⟩,
  ⟨some 48, none, .call (.cst (.fn (.func 42) [] [])) [(.tmp 45), (.tmp 47)]⟩,
  ⟨some 49, none, .ixa 3 1 (.tmp 5) (.cst (I 2))⟩,
  ⟨some 50, none, .load none (.tmp 49)⟩,
  ⟨some 51, none, .call (.cst (.fn (.func 42) [] [])) [(.tmp 50), (.cst (I 41))]⟩,
  ⟨some 9, none, .mov (.tmp 43)⟩,
  ⟨some 10, none, .mov (.tmp 48)⟩,
  ⟨some 11, none, .mov (.tmp 51)⟩])
 (.seq (.ops false [
  ⟨some 52, none, .mov (.tmp 7)⟩,
  ⟨some 53, none, .mov (.tmp 9)⟩,
  ⟨some 54, none, .ixs 3 (.tmp 52) (.tmp 53)⟩,
  ⟨some 55, none, .load (some 3) (.tmp 54)⟩,
  ⟨some 12, none, .alloc [(I 0), (I 0), .nils]⟩,
  ⟨none, none, .store 3 (.tmp 12) (.tmp 55)⟩])
 (.seq (.ops false [
  ⟨some 57, none, .load (some 3) (.tmp 8)⟩,
  ⟨some 58, none, .call (.cst (.fn (.func 15) [] [])) [(.tmp 57)]⟩,
  ⟨some 56, none, .mov (.tmp 58)⟩,
  ⟨some 59, none, .ext (.tmp 56) 0⟩,
  ⟨some 60, none, .ext (.tmp 56) 1⟩,
  ⟨some 13, none, .mov (.tmp 59)⟩,
  ⟨some 14, none, .mov (.tmp 60)⟩])
 (.seq (.ops false [
  ⟨some 62, none, .load (some 3) (.tmp 8)⟩,
  ⟨some 63, none, .call (.cst (.fn (.func 37) [] [])) [(.tmp 62)]⟩,
  ⟨some 61, none, .mov (.tmp 63)⟩,
  ⟨some 64, none, .ext (.tmp 61) 0⟩,
  ⟨some 65, none, .ext (.tmp 61) 1⟩,
  ⟨some 15, none, .mov (.tmp 64)⟩,
  ⟨some 16, none, .mov (.tmp 65)⟩])
 (.seq (.ops false [
  ⟨some 67, none, .load (some 3) (.tmp 8)⟩,
  ⟨some 68, none, .mov (.tmp 9)⟩,
  ⟨some 69, none, .call (.cst (.fn (.func 19) [] [])) [(.tmp 67), (.tmp 68)]⟩,
  ⟨some 66, none, .mov (.tmp 69)⟩,
  ⟨some 70, none, .ext (.tmp 66) 0⟩,
  ⟨some 71, none, .ext (.tmp 66) 1⟩,
  ⟨some 17, none, .alloc [(I 0), (I 0)]⟩,
  ⟨none, none, .store 2 (.tmp 17) (.tmp 70)⟩,
  ⟨some 18, none, .mov (.tmp 71)⟩])
 (.seq (.ops false [
  ⟨some 73, none, .load (some 3) (.tmp 8)⟩,
  ⟨some 74, none, .mov (.tmp 9)⟩,
  ⟨some 75, none, .call (.cst (.fn (.func 21) [] [])) [(.tmp 73), (.tmp 74)]⟩,
  ⟨some 72, none, .mov (.tmp 75)⟩,
  ⟨some 76, none, .ext (.tmp 72) 0⟩,
  ⟨some 77, none, .ext (.tmp 72) 1⟩,
  ⟨some 19, none, .alloc [(I 0), (I 0)]⟩,
  ⟨none, none, .store 2 (.tmp 19) (.tmp 76)⟩,
  ⟨some 20, none, .mov (.tmp 77)⟩])
 (.seq (.ops false [
  ⟨some 79, none, .load (some 3) (.tmp 8)⟩,
  ⟨some 80, none, .mov (.tmp 9)⟩,
  ⟨some 81, none, .mov (.tmp 10)⟩,
  ⟨some 82, none, .mov (.tmp 11)⟩,
  ⟨some 83, none, .call (.cst (.fn (.func 26) [] [])) [(.tmp 79), (.tmp 80), (.tmp 81), (.tmp 82)]⟩,
  ⟨some 78, none, .mov (.tmp 83)⟩,
  ⟨some 84, none, .ext (.tmp 78) 0⟩,
  ⟨some 85, none, .ext (.tmp 78) 1⟩,
  ⟨some 21, none, .mov (.tmp 84)⟩,
  ⟨some 22, none, .mov (.tmp 85)⟩])
 (.seq (.seq (.ops false [
  ⟨some 86, none, .mov (.tmp 14)⟩,
  ⟨some 87, none, .bin .neq (.tmp 86) (.cst (I 0))⟩,
  ⟨some 88, none, .mov (.tmp 87)⟩,
  ⟨some 89, some ((some 88), false), .mov (.tmp 16)⟩,
  ⟨some 90, some ((some 88), false), .bin .neq (.tmp 89) (.cst (I 0))⟩,
  ⟨some 91, none, .pick (.tmp 88) (.cst (.bool true)) (.tmp 90)⟩,
  ⟨some 92, none, .mov (.tmp 91)⟩,
  ⟨some 93, some ((some 92), false), .mov (.tmp 18)⟩,
  ⟨some 94, some ((some 92), false), .bin .neq (.tmp 93) (.cst (I 0))⟩,
  ⟨some 95, none, .pick (.tmp 92) (.cst (.bool true)) (.tmp 94)⟩,
  ⟨some 96, none, .mov (.tmp 95)⟩,
  ⟨some 97, some ((some 96), false), .mov (.tmp 20)⟩,
  ⟨some 98, some ((some 96), false), .bin .neq (.tmp 97) (.cst (I 0))⟩,
  ⟨some 99, none, .pick (.tmp 96) (.cst (.bool true)) (.tmp 98)⟩,
  ⟨some 100, none, .mov (.tmp 99)⟩,
  ⟨some 101, some ((some 100), false), .mov (.tmp 22)⟩,
  ⟨some 102, some ((some 100), false), .bin .neq (.tmp 101) (.cst (I 0))⟩,
  ⟨some 103, none, .pick (.tmp 100) (.cst (.bool true)) (.tmp 102)⟩,
  ⟨some 104, none, .mov (.tmp 103)⟩,
  ⟨some 105, some ((some 104), false), .mov (.tmp 13)⟩,
  ⟨some 106, some ((some 104), false), .lnot (.tmp 105)⟩,
  ⟨some 107, none, .pick (.tmp 104) (.cst (.bool true)) (.tmp 106)⟩,
  ⟨some 108, none, .mov (.tmp 107)⟩,
  ⟨some 109, some ((some 108), false), .mov (.tmp 15)⟩,
  ⟨some 110, some ((some 108), false), .len (.tmp 109)⟩,
  ⟨some 111, some ((some 108), false), .bin .neq (.tmp 110) (.cst (I 0))⟩,
  ⟨some 112, none, .pick (.tmp 108) (.cst (.bool true)) (.tmp 111)⟩,
  ⟨some 113, none, .mov (.tmp 112)⟩,
  ⟨some 114, some ((some 113), false), .load (some 2) (.tmp 17)⟩,
  ⟨some 115, some ((some 113), false), .fad (.tmp 12) 0⟩,
  ⟨some 116, some ((some 113), false), .load none (.tmp 115)⟩,
  ⟨some 117, some ((some 113), false), .call (.cst (.fn (.func 43) [] [])) [(.tmp 114), (.tmp 116)]⟩,
  ⟨some 118, some ((some 113), false), .lnot (.tmp 117)⟩,
  ⟨some 119, none, .pick (.tmp 113) (.cst (.bool true)) (.tmp 118)⟩,
  ⟨some 120, none, .mov (.tmp 119)⟩,
  ⟨some 121, some ((some 120), false), .load (some 2) (.tmp 19)⟩,
  ⟨some 122, some ((some 120), false), .fad (.tmp 12) 1⟩,
  ⟨some 123, some ((some 120), false), .load none (.tmp 122)⟩,
  ⟨some 124, some ((some 120), false), .call (.cst (.fn (.func 43) [] [])) [(.tmp 121), (.tmp 123)]⟩,
  ⟨some 125, some ((some 120), false), .lnot (.tmp 124)⟩,
  ⟨some 126, none, .pick (.tmp 120) (.cst (.bool true)) (.tmp 125)⟩,
  ⟨some 127, none, .mov (.tmp 126)⟩,
  ⟨some 128, some ((some 127), false), .mov (.tmp 21)⟩,
  ⟨some 129, some ((some 127), false), .call (.cst (.fn (.func 44) [] [])) [(.tmp 128), (.cst (I 0)), (.cst (I 2))]⟩,
  ⟨some 130, some ((some 127), false), .lnot (.tmp 129)⟩,
  ⟨some 131, none, .pick (.tmp 127) (.cst (.bool true)) (.tmp 130)⟩])
 (.cond (.tmp 131) (.seq (.ops false [
  ⟨some 6, none, .mov (.cst (.bool false))⟩])
 .ret) .skip))
 (.seq (.seq (.ops false [
  ⟨some 132, none, .mov (.tmp 21)⟩,
  ⟨some 133, none, .bin .eql (.tmp 132) (.cst (I 2))⟩,
  ⟨some 134, none, .mov (.tmp 133)⟩,
  ⟨some 135, some ((some 134), true), .load (some 3) (.tmp 12)⟩,
  ⟨some 136, some ((some 134), true), .mov (.tmp 10)⟩,
  ⟨some 137, some ((some 134), true), .mov (.tmp 11)⟩,
  ⟨some 138, some ((some 134), true), .call (.cst (.fn (.func 45) [] [])) [(.tmp 135), (.tmp 136), (.tmp 137)]⟩,
  ⟨some 139, some ((some 134), true), .lnot (.tmp 138)⟩,
  ⟨some 140, none, .pick (.tmp 134) (.tmp 139) (.cst (.bool false))⟩,
  ⟨some 141, none, .mov (.tmp 140)⟩,
  ⟨some 142, some ((some 141), false), .mov (.tmp 21)⟩,
  ⟨some 143, some ((some 141), false), .bin .eql (.tmp 142) (.cst (I 0))⟩,
  ⟨some 144, some ((some 141), false), .mov (.tmp 143)⟩,
  ⟨some 145, some ((some 144), true), .load (some 3) (.tmp 12)⟩,
  ⟨some 146, some ((some 144), true), .mov (.tmp 10)⟩,
  ⟨some 147, some ((some 144), true), .mov (.tmp 11)⟩,
  ⟨some 148, some ((some 144), true), .call (.cst (.fn (.func 45) [] [])) [(.tmp 145), (.tmp 146), (.tmp 147)]⟩,
  ⟨some 149, some ((some 141), false), .pick (.tmp 144) (.tmp 148) (.cst (.bool false))⟩,
  ⟨some 150, none, .pick (.tmp 141) (.cst (.bool true)) (.tmp 149)⟩])
 (.cond (.tmp 150) (.seq (.ops false [
  ⟨some 6, none, .mov (.cst (.bool false))⟩])
 .ret) .skip))
 (.seq (.ops false [
  ⟨some 152, none, .load (some 3) (.tmp 8)⟩,
  ⟨some 153, none, .mov (.tmp 9)⟩,
  ⟨some 154, none, .mov (.tmp 10)⟩,
  ⟨some 155, none, .call (.cst (.fn (.func 23) [] [])) [(.tmp 152), (.tmp 153), (.tmp 154)]⟩,
  ⟨some 151, none, .mov (.tmp 155)⟩,
  ⟨some 156, none, .ext (.tmp 151) 0⟩,
  ⟨some 157, none, .ext (.tmp 151) 1⟩,
  ⟨some 23, none, .alloc [(I 0), (I 0)]⟩,
  ⟨none, none, .store 2 (.tmp 23) (.tmp 156)⟩,
  ⟨some 14, none, .mov (.tmp 157)⟩])
 (.seq (.seq (.ops false [
  ⟨some 158, none, .mov (.tmp 10)⟩,
  ⟨some 159, none, .fad (.tmp 12) 1⟩,
  ⟨some 160, none, .load none (.tmp 159)⟩,
  ⟨some 161, none, .bin .lss (.tmp 158) (.tmp 160)⟩,
  ⟨some 162, none, .mov (.tmp 161)⟩,
  ⟨some 163, some ((some 162), true), .mov (.tmp 14)⟩,
  ⟨some 164, some ((some 162), true), .bin .neq (.tmp 163) (.cst (I 0))⟩,
  ⟨some 165, some ((some 162), true), .mov (.tmp 164)⟩,
  ⟨some 166, some ((some 165), false), .load (some 2) (.tmp 23)⟩,
  ⟨some 167, some ((some 165), false), .fad (.tmp 12) 2⟩,
  ⟨some 168, some ((some 165), false), .load none (.tmp 167)⟩,
  ⟨some 169, some ((some 165), false), .mov (.tmp 10)⟩,
  ⟨some 170, some ((some 165), false), .ixs 1 (.tmp 168) (.tmp 169)⟩,
  ⟨some 171, some ((some 165), false), .load none (.tmp 170)⟩,
  ⟨some 172, some ((some 165), false), .call (.cst (.fn (.func 43) [] [])) [(.tmp 166), (.tmp 171)]⟩,
  ⟨some 173, some ((some 165), false), .lnot (.tmp 172)⟩,
  ⟨some 174, some ((some 162), true), .pick (.tmp 165) (.cst (.bool true)) (.tmp 173)⟩,
  ⟨some 175, none, .pick (.tmp 162) (.tmp 174) (.cst (.bool false))⟩,
  ⟨some 176, none, .mov (.tmp 175)⟩,
  ⟨some 177, some ((some 176), false), .mov (.tmp 14)⟩,
  ⟨some 178, some ((some 176), false), .bin .neq (.tmp 177) (.cst (I 0))⟩,
  ⟨some 179, some ((some 176), false), .mov (.tmp 178)⟩,
  ⟨some 180, some ((some 179), true), .mov (.tmp 14)⟩,
  ⟨some 181, some ((some 179), true), .bin .neq (.tmp 180) (.cst (I 4))⟩,
  ⟨some 182, some ((some 176), false), .pick (.tmp 179) (.tmp 181) (.cst (.bool false))⟩,
  ⟨some 183, none, .pick (.tmp 176) (.cst (.bool true)) (.tmp 182)⟩])
 (.cond (.tmp 183) (.seq (.ops false [
  ⟨some 6, none, .mov (.cst (.bool false))⟩])
 .ret) .skip))
 (.seq (.ops false [
  ⟨some 185, none, .load (some 3) (.tmp 8)⟩,
  ⟨some 186, none, .mov (.tmp 10)⟩,
  ⟨some 187, none, .mov (.tmp 11)⟩,
  ⟨some 188, none, .call (.cst (.fn (.func 28) [] [])) [(.tmp 185), (.tmp 186), (.tmp 187)]⟩,
  ⟨some 184, none, .mov (.tmp 188)⟩,
  ⟨some 189, none, .ext (.tmp 184) 0⟩,
  ⟨some 190, none, .ext (.tmp 184) 1⟩,
  ⟨some 24, none, .mov (.tmp 189)⟩,
  ⟨some 14, none, .mov (.tmp 190)⟩])
 (.seq (.ops false [
  ⟨some 192, none, .load (some 3) (.tmp 8)⟩,
  ⟨some 193, none, .mov (.tmp 10)⟩,
  ⟨some 194, none, .call (.cst (.fn (.func 31) [] [])) [(.tmp 192), (.tmp 193)]⟩,
  ⟨some 191, none, .mov (.tmp 194)⟩,
  ⟨some 195, none, .ext (.tmp 191) 0⟩,
  ⟨some 196, none, .ext (.tmp 191) 1⟩,
  ⟨some 25, none, .mov (.tmp 195)⟩,
  ⟨some 16, none, .mov (.tmp 196)⟩])
 (.seq (.seq (.ops false [
  ⟨some 197, none, .mov (.tmp 14)⟩,
  ⟨some 198, none, .bin .neq (.tmp 197) (.cst (I 0))⟩,
  ⟨some 199, none, .mov (.tmp 198)⟩,
  ⟨some 200, some ((some 199), false), .mov (.tmp 16)⟩,
  ⟨some 201, some ((some 199), false), .bin .neq (.tmp 200) (.cst (I 0))⟩,
  ⟨some 202, none, .pick (.tmp 199) (.cst (.bool true)) (.tmp 201)⟩,
  ⟨some 203, none, .mov (.tmp 202)⟩,
  ⟨some 204, some ((some 203), false), .mov (.tmp 24)⟩,
  ⟨some 205, some ((some 203), false), .fad (.tmp 3) 0⟩,
  ⟨some 206, some ((some 203), false), .load none (.tmp 205)⟩,
  ⟨some 207, some ((some 203), false), .len (.tmp 206)⟩,
  ⟨some 208, some ((some 203), false), .call (.cst (.fn (.func 46) [] [])) [(.tmp 204), (.tmp 207)]⟩,
  ⟨some 209, some ((some 203), false), .lnot (.tmp 208)⟩,
  ⟨some 210, none, .pick (.tmp 203) (.cst (.bool true)) (.tmp 209)⟩,
  ⟨some 211, none, .mov (.tmp 210)⟩,
  ⟨some 212, some ((some 211), false), .mov (.tmp 25)⟩,
  ⟨some 213, some ((some 211), false), .fad (.tmp 3) 0⟩,
  ⟨some 214, some ((some 211), false), .load none (.tmp 213)⟩,
  ⟨some 215, some ((some 211), false), .len (.tmp 214)⟩,
  ⟨some 216, some ((some 211), false), .call (.cst (.fn (.func 46) [] [])) [(.tmp 212), (.tmp 215)]⟩,
  ⟨some 217, some ((some 211), false), .lnot (.tmp 216)⟩,
  ⟨some 218, none, .pick (.tmp 211) (.cst (.bool true)) (.tmp 217)⟩])
 (.cond (.tmp 218) (.seq (.ops false [
  ⟨some 6, none, .mov (.cst (.bool false))⟩])
 .ret) .skip))
 (.seq (.seq (.ops false [
  ⟨some 26, none, .mov (.cst (I 0))⟩])
 (.block 0 (.loop keep6_0 body6_0)))
 (.seq (.seq (.ops false [
  ⟨some 27, none, .mov (.cst (I 0))⟩])
 (.block 2 (.loop keep6_1 body6_1)))
 (.seq (.ops false [
  ⟨some 252, none, .call (.cst (.fn (.func 25) [] [])) []⟩,
  ⟨some 6, none, .mov (.tmp 252)⟩])
 .ret)))))))))))))))))))))⟩
theorem comp6 : compF Cv 6 = some code6 := by kernel_rfl

def code7 : MF := ⟨230, [(4, none)], (.seq (.ops false [
  ⟨some 2, none, .box (.tmp 0)⟩,
  ⟨some 3, none, .box (.tmp 1)⟩,
  ⟨some 4, none, .mov (.cst (.bool false))⟩])
 (.seq (.seq (.ops false [
  ⟨some 17, none, .load (some 3) (.tmp 2)⟩,
  ⟨some 18, none, .call (.cst (.fn (.func 39) [] [])) [(.tmp 17)]⟩,
  ⟨some 19, none, .lnot (.tmp 18)⟩])
 (.cond (.tmp 19) (.seq (.ops false [
  ⟨some 20, none, .call (.cst (.fn (.func 25) [] [])) []⟩,
  ⟨some 4, none, .mov (.tmp 20)⟩])
 .ret) .skip))
 (.seq (.ops true [
  ⟨some 21, none, .ixa 3 1 (.tmp 3) (.cst (I 0))⟩,
  ⟨some 22, none, .load none (.tmp 21)⟩,
  ⟨some 23, none, .fad (.tmp 2) 0⟩,
  ⟨some 24, none, .load none (.tmp 23)⟩,
  ⟨some 25, none, .len (.tmp 24)⟩,
  ⟨some 26, none, .call (.cst (.fn (.func 42) [] [])) [(.tmp 22), (.tmp 25)]⟩,
  ⟨some 27, none, .ixa 3 1 (.tmp 3) (.cst (I 1))⟩,
  ⟨some 28, none, .load none (.tmp 27)⟩,
  ⟨some 29, none, .fad (.tmp 2) 1⟩,
  ⟨some 30, none, .load none (.tmp 29)⟩,
  ⟨some 31, none, .call (.cst (.fn (.func 42) [] [])) [(.tmp 28), (.tmp 30)]⟩,
  ⟨some 32, none, .ixa 3 1 (.tmp 3) (.cst (I 2))⟩,
  ⟨some 33, none, .load none (.tmp 32)⟩,
  ⟨some 34, none, .call (.cst (.fn (.func 42) [] [])) [(.tmp 33), (.cst (I 41))]⟩,
  ⟨some 5, none, .mov (.tmp 26)⟩,
  ⟨some 6, none, .mov (.tmp 31)⟩,
  ⟨some 7, none, .mov (.tmp 34)⟩])
 (.seq (.ops false [
  ⟨some 36, none, .load (some 3) (.tmp 2)⟩,
  ⟨some 37, none, .mov (.tmp 5)⟩,
  ⟨some 38, none, .call (.cst (.fn (.func 19) [] [])) [(.tmp 36), (.tmp 37)]⟩,
  ⟨some 35, none, .mov (.tmp 38)⟩,
  ⟨some 39, none, .ext (.tmp 35) 0⟩,
  ⟨some 40, none, .ext (.tmp 35) 1⟩,
  ⟨some 8, none, .alloc [(I 0), (I 0)]⟩,
  ⟨none, none, .store 2 (.tmp 8) (.tmp 39)⟩,
  ⟨some 9, none, .mov (.tmp 40)⟩])
 (.seq (.ops false [
  ⟨some 42, none, .load (some 3) (.tmp 2)⟩,
  ⟨some 43, none, .mov (.tmp 5)⟩,
  ⟨some 44, none, .call (.cst (.fn (.func 21) [] [])) [(.tmp 42), (.tmp 43)]⟩,
  ⟨some 41, none, .mov (.tmp 44)⟩,
  ⟨some 45, none, .ext (.tmp 41) 0⟩,
  ⟨some 46, none, .ext (.tmp 41) 1⟩,
  ⟨some 10, none, .alloc [(I 0), (I 0)]⟩,
  ⟨none, none, .store 2 (.tmp 10) (.tmp 45)⟩,
  ⟨some 11, none, .mov (.tmp 46)⟩])
 (.seq (.ops false [
  ⟨some 48, none, .load (some 3) (.tmp 2)⟩,
  ⟨some 49, none, .mov (.tmp 5)⟩,
  ⟨some 50, none, .mov (.tmp 6)⟩,
  ⟨some 51, none, .call (.cst (.fn (.func 23) [] [])) [(.tmp 48), (.tmp 49), (.tmp 50)]⟩,
  ⟨some 47, none, .mov (.tmp 51)⟩,
  ⟨some 52, none, .ext (.tmp 47) 0⟩,
  ⟨some 53, none, .ext (.tmp 47) 1⟩,
  ⟨some 12, none, .alloc [(I 0), (I 0)]⟩,
  ⟨none, none, .store 2 (.tmp 12) (.tmp 52)⟩,
  ⟨some 13, none, .mov (.tmp 53)⟩])
 (.seq (.ops false [
  ⟨some 55, none, .load (some 3) (.tmp 2)⟩,
  ⟨some 56, none, .mov (.tmp 5)⟩,
  ⟨some 57, none, .mov (.tmp 6)⟩,
  ⟨some 58, none, .mov (.tmp 7)⟩,
  ⟨some 59, none, .call (.cst (.fn (.func 26) [] [])) [(.tmp 55), (.tmp 56), (.tmp 57), (.tmp 58)]⟩,
  ⟨some 54, none, .mov (.tmp 59)⟩,
  ⟨some 60, none, .ext (.tmp 54) 0⟩,
  ⟨some 61, none, .ext (.tmp 54) 1⟩,
  ⟨some 14, none, .mov (.tmp 60)⟩,
  ⟨some 15, none, .mov (.tmp 61)⟩])
 (.seq (.seq (.ops false [
  ⟨some 62, none, .mov (.tmp 9)⟩,
  ⟨some 63, none, .bin .neq (.tmp 62) (.cst (I 0))⟩])
 (.cond (.tmp 63) (.seq (.ops true [
  ⟨some 64, none, .mov (.tmp 9)⟩,
  ⟨some 65, none, .bin .eql (.tmp 64) (.cst (I 22))⟩,
  ⟨some 66, none, .mov (.tmp 65)⟩,
  ⟨some 67, some ((some 66), true), .mov (.tmp 11)⟩,
  ⟨some 68, some ((some 66), true), .mov (.tmp 9)⟩,
  ⟨some 69, some ((some 66), true), .bin .eql (.tmp 67) (.tmp 68)⟩,
  ⟨some 70, none, .pick (.tmp 66) (.tmp 69) (.cst (.bool false))⟩,
  ⟨some 71, none, .mov (.tmp 70)⟩,
  ⟨some 72, some ((some 71), true), .mov (.tmp 13)⟩,
  ⟨some 73, some ((some 71), true), .mov (.tmp 9)⟩,
  ⟨some 74, some ((some 71), true), .bin .eql (.tmp 72) (.tmp 73)⟩,
  ⟨some 75, none, .pick (.tmp 71) (.tmp 74) (.cst (.bool false))⟩,
  ⟨some 76, none, .mov (.tmp 75)⟩,
  ⟨some 77, some ((some 76), true), .mov (.tmp 15)⟩,
  ⟨some 78, some ((some 76), true), .mov (.tmp 9)⟩,
  ⟨some 79, some ((some 76), true), .bin .eql (.tmp 77) (.tmp 78)⟩,
  ⟨some 80, none, .pick (.tmp 76) (.tmp 79) (.cst (.bool false))⟩,
  ⟨some 81, none, .mov (.tmp 80)⟩,
  ⟨some 82, some ((some 81), true), .load (some 2) (.tmp 8)⟩,
  ⟨some 83, some ((some 81), true), .call (.cst (.fn (.func 47) [] [])) [(.cst (I 0))]⟩,
  ⟨some 84, some ((some 81), true), .eqa 2 false (.tmp 82) (.tmp 83)⟩,
  ⟨some 85, none, .pick (.tmp 81) (.tmp 84) (.cst (.bool false))⟩,
  ⟨some 86, none, .mov (.tmp 85)⟩,
  ⟨some 87, some ((some 86), true), .load (some 2) (.tmp 10)⟩,
  ⟨some 88, some ((some 86), true), .load (some 2) (.tmp 8)⟩,
  ⟨some 89, some ((some 86), true), .eqa 2 false (.tmp 87) (.tmp 88)⟩,
  ⟨some 90, none, .pick (.tmp 86) (.tmp 89) (.cst (.bool false))⟩,
  ⟨some 91, none, .mov (.tmp 90)⟩,
  ⟨some 92, some ((some 91), true), .mov (.tmp 14)⟩,
  ⟨some 93, some ((some 91), true), .bin .eql (.tmp 92) (.cst (I 0))⟩,
  ⟨some 94, none, .pick (.tmp 91) (.tmp 93) (.cst (.bool false))⟩,
  ⟨some 95, none, .mov (.tmp 94)⟩,
  ⟨some 96, some ((some 95), true), .call (.cst (.fn (.func 25) [] [])) []⟩,
  ⟨some 97, none, .pick (.tmp 95) (.tmp 96) (.cst (.bool false))⟩,
  ⟨some 4, none, .mov (.tmp 97)⟩])
 .ret) .skip))
 (.seq (.ops false [
  ⟨some 98, none, .fad (.tmp 2) 0⟩,
  ⟨some 99, none, .load none (.tmp 98)⟩,
  ⟨some 100, none, .mov (.tmp 5)⟩,
  ⟨some 101, none, .ixs 11 (.tmp 99) (.tmp 100)⟩,
  ⟨some 102, none, .load (some 11) (.tmp 101)⟩,
  ⟨some 16, none, .alloc [(I 0), (I 0), (I 0), (I 0), (I 0), (I 0), (I 0), (I 0), (I 0), (I 0), (I 0)]⟩,
  ⟨none, none, .store 11 (.tmp 16) (.tmp 102)⟩])
 (.seq (.seq (.ops false [
  ⟨some 103, none, .mov (.tmp 11)⟩,
  ⟨some 104, none, .bin .neq (.tmp 103) (.cst (I 0))⟩,
  ⟨some 105, none, .mov (.tmp 104)⟩,
  ⟨some 106, some ((some 105), false), .mov (.tmp 15)⟩,
  ⟨some 107, some ((some 105), false), .bin .neq (.tmp 106) (.cst (I 0))⟩,
  ⟨some 108, none, .pick (.tmp 105) (.cst (.bool true)) (.tmp 107)⟩,
  ⟨some 109, none, .mov (.tmp 108)⟩,
  ⟨some 110, some ((some 109), false), .load (some 2) (.tmp 8)⟩,
  ⟨some 111, some ((some 109), false), .fad (.tmp 16) 0⟩,
  ⟨some 112, some ((some 109), false), .load (some 2) (.tmp 111)⟩,
  ⟨some 113, some ((some 109), false), .call (.cst (.fn (.func 48) [] [])) [(.tmp 110), (.tmp 112)]⟩,
  ⟨some 114, some ((some 109), false), .lnot (.tmp 113)⟩,
  ⟨some 115, none, .pick (.tmp 109) (.cst (.bool true)) (.tmp 114)⟩,
  ⟨some 116, none, .mov (.tmp 115)⟩,
  ⟨some 117, some ((some 116), false), .load (some 2) (.tmp 10)⟩,
  ⟨some 118, some ((some 116), false), .fad (.tmp 16) 9⟩,
  ⟨some 119, some ((some 116), false), .load (some 2) (.tmp 118)⟩,
  ⟨some 120, some ((some 116), false), .call (.cst (.fn (.func 48) [] [])) [(.tmp 117), (.tmp 119)]⟩,
  ⟨some 121, some ((some 116), false), .lnot (.tmp 120)⟩,
  ⟨some 122, none, .pick (.tmp 116) (.cst (.bool true)) (.tmp 121)⟩,
  ⟨some 123, none, .mov (.tmp 122)⟩,
  ⟨some 124, some ((some 123), false), .fad (.tmp 8) 0⟩,
  ⟨some 125, some ((some 123), false), .load none (.tmp 124)⟩,
  ⟨some 126, some ((some 123), false), .fad (.tmp 8) 1⟩,
  ⟨some 127, some ((some 123), false), .load none (.tmp 126)⟩,
  ⟨some 128, some ((some 123), false), .bin .gtr (.tmp 125) (.tmp 127)⟩,
  ⟨some 129, none, .pick (.tmp 123) (.cst (.bool true)) (.tmp 128)⟩,
  ⟨some 130, none, .mov (.tmp 129)⟩,
  ⟨some 131, some ((some 130), false), .fad (.tmp 10) 0⟩,
  ⟨some 132, some ((some 130), false), .load none (.tmp 131)⟩,
  ⟨some 133, some ((some 130), false), .fad (.tmp 10) 1⟩,
  ⟨some 134, some ((some 130), false), .load none (.tmp 133)⟩,
  ⟨some 135, some ((some 130), false), .bin .gtr (.tmp 132) (.tmp 134)⟩,
  ⟨some 136, none, .pick (.tmp 130) (.cst (.bool true)) (.tmp 135)⟩,
  ⟨some 137, none, .mov (.tmp 136)⟩,
  ⟨some 138, some ((some 137), false), .mov (.tmp 14)⟩,
  ⟨some 139, some ((some 137), false), .call (.cst (.fn (.func 44) [] [])) [(.tmp 138), (.cst (I 0)), (.cst (I 2))]⟩,
  ⟨some 140, some ((some 137), false), .lnot (.tmp 139)⟩,
  ⟨some 141, none, .pick (.tmp 137) (.cst (.bool true)) (.tmp 140)⟩])
 (.cond (.tmp 141) (.seq (.ops false [
  ⟨some 4, none, .mov (.cst (.bool false))⟩])
 .ret) .skip))
 (.seq (.seq (.ops false [
  ⟨some 142, none, .mov (.tmp 13)⟩,
  ⟨some 143, none, .bin .eql (.tmp 142) (.cst (I 4))⟩,
  ⟨some 144, none, .fad (.tmp 10) 1⟩,
  ⟨some 145, none, .load none (.tmp 144)⟩,
  ⟨some 146, none, .mov (.tmp 6)⟩,
  ⟨some 147, none, .bin .leq (.tmp 145) (.tmp 146)⟩,
  ⟨some 148, none, .beq true (.tmp 143) (.tmp 147)⟩,
  ⟨some 149, none, .mov (.tmp 148)⟩,
  ⟨some 150, some ((some 149), false), .mov (.tmp 13)⟩,
  ⟨some 151, some ((some 149), false), .bin .neq (.tmp 150) (.cst (I 0))⟩,
  ⟨some 152, some ((some 149), false), .mov (.tmp 151)⟩,
  ⟨some 153, some ((some 152), true), .mov (.tmp 13)⟩,
  ⟨some 154, some ((some 152), true), .bin .neq (.tmp 153) (.cst (I 4))⟩,
  ⟨some 155, some ((some 149), false), .pick (.tmp 152) (.tmp 154) (.cst (.bool false))⟩,
  ⟨some 156, none, .pick (.tmp 149) (.cst (.bool true)) (.tmp 155)⟩])
 (.cond (.tmp 156) (.seq (.ops false [
  ⟨some 4, none, .mov (.cst (.bool false))⟩])
 .ret) .skip))
 (.seq (.seq (.ops false [
  ⟨some 157, none, .mov (.tmp 13)⟩,
  ⟨some 158, none, .bin .neq (.tmp 157) (.cst (I 0))⟩])
 (.cond (.tmp 158) (.seq (.ops true [
  ⟨some 159, none, .mov (.tmp 14)⟩,
  ⟨some 160, none, .bin .eql (.tmp 159) (.cst (I 0))⟩,
  ⟨some 161, none, .mov (.tmp 160)⟩,
  ⟨some 162, some ((some 161), true), .load (some 2) (.tmp 12)⟩,
  ⟨some 163, some ((some 161), true), .call (.cst (.fn (.func 47) [] [])) [(.cst (I 0))]⟩,
  ⟨some 164, some ((some 161), true), .eqa 2 false (.tmp 162) (.tmp 163)⟩,
  ⟨some 165, none, .pick (.tmp 161) (.tmp 164) (.cst (.bool false))⟩,
  ⟨some 166, none, .mov (.tmp 165)⟩,
  ⟨some 167, some ((some 166), true), .call (.cst (.fn (.func 25) [] [])) []⟩,
  ⟨some 168, none, .pick (.tmp 166) (.tmp 167) (.cst (.bool false))⟩,
  ⟨some 4, none, .mov (.tmp 168)⟩])
 .ret) .skip))
 (.seq (.seq (.ops false [
  ⟨some 169, none, .fad (.tmp 12) 0⟩,
  ⟨some 170, none, .load none (.tmp 169)⟩,
  ⟨some 171, none, .fad (.tmp 12) 1⟩,
  ⟨some 172, none, .load none (.tmp 171)⟩,
  ⟨some 173, none, .bin .gtr (.tmp 170) (.tmp 172)⟩,
  ⟨some 174, none, .mov (.tmp 173)⟩,
  ⟨some 175, some ((some 174), false), .mov (.tmp 7)⟩,
  ⟨some 176, some ((some 174), false), .fad (.tmp 12) 1⟩,
  ⟨some 177, some ((some 174), false), .load none (.tmp 176)⟩,
  ⟨some 178, some ((some 174), false), .bin .gtr (.tmp 175) (.tmp 177)⟩,
  ⟨some 179, some ((some 174), false), .mov (.tmp 178)⟩,
  ⟨some 180, some ((some 179), true), .mov (.tmp 14)⟩,
  ⟨some 181, some ((some 179), true), .bin .neq (.tmp 180) (.cst (I 0))⟩,
  ⟨some 182, some ((some 174), false), .pick (.tmp 179) (.tmp 181) (.cst (.bool false))⟩,
  ⟨some 183, none, .pick (.tmp 174) (.cst (.bool true)) (.tmp 182)⟩,
  ⟨some 184, none, .mov (.tmp 183)⟩,
  ⟨some 185, some ((some 184), false), .mov (.tmp 7)⟩,
  ⟨some 186, some ((some 184), false), .fad (.tmp 8) 0⟩,
  ⟨some 187, some ((some 184), false), .load none (.tmp 186)⟩,
  ⟨some 188, some ((some 184), false), .bin .lss (.tmp 185) (.tmp 187)⟩,
  ⟨some 189, some ((some 184), false), .mov (.tmp 188)⟩,
  ⟨some 190, some ((some 189), true), .mov (.tmp 14)⟩,
  ⟨some 191, some ((some 189), true), .bin .neq (.tmp 190) (.cst (I 0))⟩,
  ⟨some 192, some ((some 184), false), .pick (.tmp 189) (.tmp 191) (.cst (.bool false))⟩,
  ⟨some 193, none, .pick (.tmp 184) (.cst (.bool true)) (.tmp 192)⟩,
  ⟨some 194, none, .mov (.tmp 193)⟩,
  ⟨some 195, some ((some 194), false), .mov (.tmp 7)⟩,
  ⟨some 196, some ((some 194), false), .fad (.tmp 12) 1⟩,
  ⟨some 197, some ((some 194), false), .load none (.tmp 196)⟩,
  ⟨some 198, some ((some 194), false), .bin .eql (.tmp 195) (.tmp 197)⟩,
  ⟨some 199, some ((some 194), false), .mov (.tmp 198)⟩,
  ⟨some 200, some ((some 199), true), .mov (.tmp 7)⟩,
  ⟨some 201, some ((some 199), true), .fad (.tmp 8) 1⟩,
  ⟨some 202, some ((some 199), true), .load none (.tmp 201)⟩,
  ⟨some 203, some ((some 199), true), .bin .geq (.tmp 200) (.tmp 202)⟩,
  ⟨some 204, some ((some 194), false), .pick (.tmp 199) (.tmp 203) (.cst (.bool false))⟩,
  ⟨some 205, some ((some 194), false), .mov (.tmp 204)⟩,
  ⟨some 206, some ((some 205), true), .mov (.tmp 14)⟩,
  ⟨some 207, some ((some 205), true), .bin .eql (.tmp 206) (.cst (I 0))⟩,
  ⟨some 208, some ((some 194), false), .pick (.tmp 205) (.tmp 207) (.cst (.bool false))⟩,
  ⟨some 209, none, .pick (.tmp 194) (.cst (.bool true)) (.tmp 208)⟩])
 (.cond (.tmp 209) (.seq (.ops false [
  ⟨some 4, none, .mov (.cst (.bool false))⟩])
 .ret) .skip))
 (.seq (.ops false [
  ⟨some 210, none, .fad (.tmp 10) 0⟩,
  ⟨some 211, none, .load none (.tmp 210)⟩,
  ⟨some 212, none, .mov (.tmp 6)⟩,
  ⟨some 213, none, .bin .leq (.tmp 211) (.tmp 212)⟩,
  ⟨some 214, none, .mov (.tmp 213)⟩,
  ⟨some 215, some ((some 214), false), .mov (.tmp 7)⟩,
  ⟨some 216, some ((some 214), false), .fad (.tmp 8) 1⟩,
  ⟨some 217, some ((some 214), false), .load none (.tmp 216)⟩,
  ⟨some 218, some ((some 214), false), .fad (.tmp 12) 0⟩,
  ⟨some 219, some ((some 214), false), .load none (.tmp 218)⟩,
  ⟨some 220, some ((some 214), false), .call (.cst (.fn (.func 44) [] [])) [(.tmp 215), (.tmp 217), (.tmp 219)]⟩,
  ⟨some 221, some ((some 214), false), .lnot (.tmp 220)⟩,
  ⟨some 222, none, .pick (.tmp 214) (.cst (.bool true)) (.tmp 221)⟩,
  ⟨some 223, none, .mov (.tmp 222)⟩,
  ⟨some 224, some ((some 223), false), .mov (.tmp 14)⟩,
  ⟨some 225, some ((some 223), false), .bin .eql (.tmp 224) (.cst (I 2))⟩,
  ⟨some 226, none, .pick (.tmp 223) (.cst (.bool true)) (.tmp 225)⟩,
  ⟨some 227, none, .mov (.tmp 226)⟩,
  ⟨some 228, some ((some 227), true), .call (.cst (.fn (.func 25) [] [])) []⟩,
  ⟨some 229, none, .pick (.tmp 227) (.tmp 228) (.cst (.bool false))⟩,
  ⟨some 4, none, .mov (.tmp 229)⟩])
 .ret))))))))))))))⟩
theorem comp7 : compF Cv 7 = some code7 := by kernel_rfl

def code8 : MF := ⟨244, [(6, none)], (.seq (.ops false [
  ⟨some 3, none, .box (.tmp 0)⟩,
  ⟨some 4, none, .box (.tmp 1)⟩,
  ⟨some 5, none, .box (.tmp 2)⟩,
  ⟨some 6, none, .mov (.cst (.bool false))⟩])
 (.seq (.seq (.ops false [
  ⟨some 27, none, .load (some 3) (.tmp 3)⟩,
  ⟨some 28, none, .call (.cst (.fn (.func 39) [] [])) [(.tmp 27)]⟩,
  ⟨some 29, none, .lnot (.tmp 28)⟩,
  ⟨some 30, none, .mov (.tmp 29)⟩,
  ⟨some 31, some ((some 30), false), .fad (.tmp 3) 2⟩,
  ⟨some 32, some ((some 30), false), .load none (.tmp 31)⟩,
  ⟨some 33, some ((some 30), false), .len (.tmp 32)⟩,
  ⟨some 34, some ((some 30), false), .bin .eql (.tmp 33) (.cst (I 6))⟩,
  ⟨some 35, none, .pick (.tmp 30) (.cst (.bool true)) (.tmp 34)⟩])
 (.cond (.tmp 35) (.seq (.ops false [
  ⟨some 36, none, .call (.cst (.fn (.func 25) [] [])) []⟩,
  ⟨some 6, none, .mov (.tmp 36)⟩])
 .ret) .skip))
 (.seq (.ops false [
  ⟨some 37, none, .load (some 3) (.tmp 3)⟩,
  ⟨some 38, none, .load (some 4) (.tmp 4)⟩,
  ⟨some 39, none, .call (.cst (.fn (.func 49) [] [])) [(.tmp 37), (.tmp 38)]⟩,
  ⟨some 7, none, .alloc [.nils, (I 0), .nils]⟩,
  ⟨none, none, .store 3 (.tmp 7) (.tmp 39)⟩])
 (.seq (.ops false [
  ⟨some 41, none, .load (some 3) (.tmp 3)⟩,
  ⟨some 42, none, .load (some 4) (.tmp 4)⟩,
  ⟨some 43, none, .call (.cst (.fn (.func 35) [] [])) [(.tmp 41), (.tmp 42)]⟩,
  ⟨some 40, none, .mov (.tmp 43)⟩,
  ⟨some 44, none, .ext (.tmp 40) 0⟩,
  ⟨some 45, none, .ext (.tmp 40) 1⟩,
  ⟨some 8, none, .mov (.tmp 44)⟩,
  ⟨some 9, none, .mov (.tmp 45)⟩])
 (.seq (.ops false [
  ⟨some 47, none, .load (some 3) (.tmp 7)⟩,
  ⟨some 48, none, .call (.cst (.fn (.func 15) [] [])) [(.tmp 47)]⟩,
  ⟨some 46, none, .mov (.tmp 48)⟩,
  ⟨some 49, none, .ext (.tmp 46) 0⟩,
  ⟨some 50, none, .ext (.tmp 46) 1⟩,
  ⟨some 10, none, .mov (.tmp 49)⟩,
  ⟨some 11, none, .mov (.tmp 50)⟩])
 (.seq (.seq (.ops false [
  ⟨some 51, none, .mov (.tmp 11)⟩,
  ⟨some 52, none, .bin .neq (.tmp 51) (.cst (I 0))⟩])
 (.cond (.tmp 52) (.seq (.ops false [
  ⟨some 53, none, .mov (.tmp 11)⟩,
  ⟨some 54, none, .bin .eql (.tmp 53) (.cst (I 20))⟩,
  ⟨some 55, none, .mov (.tmp 54)⟩,
  ⟨some 56, some ((some 55), true), .mov (.tmp 9)⟩,
  ⟨some 57, some ((some 55), true), .bin .eql (.tmp 56) (.cst (I 21))⟩,
  ⟨some 58, none, .pick (.tmp 55) (.tmp 57) (.cst (.bool false))⟩,
  ⟨some 59, none, .mov (.tmp 58)⟩,
  ⟨some 60, some ((some 59), true), .mov (.tmp 8)⟩,
  ⟨some 61, some ((some 59), true), .lnot (.tmp 60)⟩,
  ⟨some 62, none, .pick (.tmp 59) (.tmp 61) (.cst (.bool false))⟩,
  ⟨some 63, none, .mov (.tmp 62)⟩,
  ⟨some 64, some ((some 63), true), .call (.cst (.fn (.func 25) [] [])) []⟩,
  ⟨some 65, none, .pick (.tmp 63) (.tmp 64) (.cst (.bool false))⟩,
  ⟨some 6, none, .mov (.tmp 65)⟩])
 .ret) .skip))
 (.seq (.seq (.ops false [
  ⟨some 66, none, .mov (.tmp 9)⟩,
  ⟨some 67, none, .bin .neq (.tmp 66) (.cst (I 0))⟩,
  ⟨some 68, none, .mov (.tmp 67)⟩,
  ⟨some 69, some ((some 68), true), .mov (.tmp 9)⟩,
  ⟨some 70, some ((some 68), true), .bin .neq (.tmp 69) (.cst (I 22))⟩,
  ⟨some 71, none, .pick (.tmp 68) (.tmp 70) (.cst (.bool false))⟩,
  ⟨some 72, none, .mov (.tmp 71)⟩,
  ⟨some 73, some ((some 72), false), .mov (.tmp 10)⟩,
  ⟨some 74, some ((some 72), false), .mov (.tmp 9)⟩,
  ⟨some 75, some ((some 72), false), .bin .eql (.tmp 74) (.cst (I 0))⟩,
  ⟨some 76, some ((some 72), false), .mov (.tmp 75)⟩,
  ⟨some 77, some ((some 76), true), .mov (.tmp 8)⟩,
  ⟨some 78, some ((some 72), false), .pick (.tmp 76) (.tmp 77) (.cst (.bool false))⟩,
  ⟨some 79, some ((some 72), false), .beq true (.tmp 73) (.tmp 78)⟩,
  ⟨some 80, none, .pick (.tmp 72) (.cst (.bool true)) (.tmp 79)⟩])
 (.cond (.tmp 80) (.seq (.ops false [
  ⟨some 6, none, .mov (.cst (.bool false))⟩])
 .ret) .skip))
 (.seq (.seq (.ops false [
  ⟨some 81, none, .mov (.tmp 10)⟩,
  ⟨some 82, none, .lnot (.tmp 81)⟩])
 (.cond (.tmp 82) (.seq (.ops false [
  ⟨some 83, none, .call (.cst (.fn (.func 25) [] [])) []⟩,
  ⟨some 6, none, .mov (.tmp 83)⟩])
 .ret) .skip))
 (.seq (.ops true [
  ⟨some 84, none, .ixa 3 1 (.tmp 5) (.cst (I 0))⟩,
  ⟨some 85, none, .load none (.tmp 84)⟩,
  ⟨some 86, none, .fad (.tmp 3) 0⟩,
  ⟨some 87, none, .load none (.tmp 86)⟩,
  ⟨some 88, none, .len (.tmp 87)⟩,
  ⟨some 89, none, .call (.cst (.fn (.func 42) [] [])) [(.tmp 85), (.tmp 88)]⟩,
  ⟨some 90, none, .ixa 3 1 (.tmp 5) (.cst (I 1))⟩,
  ⟨some 91, none, .load none (.tmp 90)⟩,
  ⟨some 92, none, .fad (.tmp 3) 1⟩,
  ⟨some 93, none, .load none (.tmp 92)⟩,
  ⟨some 94, none, .call (.cst (.fn (.func 42) [] [])) [(.tmp 91), (.tmp 93)]⟩,
  ⟨some 95, none, .ixa 3 1 (.tmp 5) (.cst (I 2))⟩,
  ⟨some 96, none, .load none (.tmp 95)⟩,
  ⟨some 97, none, .call (.cst (.fn (.func 42) [] [])) [(.tmp 96), (.cst (I 41))]⟩,
  ⟨some 12, none, .mov (.tmp 89)⟩,
  ⟨some 13, none, .mov (.tmp 94)⟩,
  ⟨some 14, none, .mov (.tmp 97)⟩])
 (.seq (.ops false [
  ⟨some 99, none, .load (some 3) (.tmp 3)⟩,
  ⟨some 100, none, .mov (.tmp 12)⟩,
  ⟨some 101, none, .call (.cst (.fn (.func 19) [] [])) [(.tmp 99), (.tmp 100)]⟩,
  ⟨some 98, none, .mov (.tmp 101)⟩,
  ⟨some 102, none, .ext (.tmp 98) 0⟩,
  ⟨some 103, none, .ext (.tmp 98) 1⟩,
  ⟨some 15, none, .alloc [(I 0), (I 0)]⟩,
  ⟨none, none, .store 2 (.tmp 15) (.tmp 102)⟩,
  ⟨some 9, none, .mov (.tmp 103)⟩])
 (.seq (.ops false [
  ⟨some 105, none, .load (some 3) (.tmp 7)⟩,
  ⟨some 106, none, .mov (.tmp 12)⟩,
  ⟨some 107, none, .call (.cst (.fn (.func 19) [] [])) [(.tmp 105), (.tmp 106)]⟩,
  ⟨some 104, none, .mov (.tmp 107)⟩,
  ⟨some 108, none, .ext (.tmp 104) 0⟩,
  ⟨some 109, none, .ext (.tmp 104) 1⟩,
  ⟨some 16, none, .alloc [(I 0), (I 0)]⟩,
  ⟨none, none, .store 2 (.tmp 16) (.tmp 108)⟩,
  ⟨some 11, none, .mov (.tmp 109)⟩])
 (.seq (.ops false [
  ⟨some 111, none, .load (some 3) (.tmp 3)⟩,
  ⟨some 112, none, .mov (.tmp 12)⟩,
  ⟨some 113, none, .call (.cst (.fn (.func 21) [] [])) [(.tmp 111), (.tmp 112)]⟩,
  ⟨some 110, none, .mov (.tmp 113)⟩,
  ⟨some 114, none, .ext (.tmp 110) 0⟩,
  ⟨some 115, none, .ext (.tmp 110) 1⟩,
  ⟨some 17, none, .alloc [(I 0), (I 0)]⟩,
  ⟨none, none, .store 2 (.tmp 17) (.tmp 114)⟩,
  ⟨some 18, none, .mov (.tmp 115)⟩])
 (.seq (.ops false [
  ⟨some 117, none, .load (some 3) (.tmp 7)⟩,
  ⟨some 118, none, .mov (.tmp 12)⟩,
  ⟨some 119, none, .call (.cst (.fn (.func 21) [] [])) [(.tmp 117), (.tmp 118)]⟩,
  ⟨some 116, none, .mov (.tmp 119)⟩,
  ⟨some 120, none, .ext (.tmp 116) 0⟩,
  ⟨some 121, none, .ext (.tmp 116) 1⟩,
  ⟨some 19, none, .alloc [(I 0), (I 0)]⟩,
  ⟨none, none, .store 2 (.tmp 19) (.tmp 120)⟩,
  ⟨some 20, none, .mov (.tmp 121)⟩])
 (.seq (.ops false [
  ⟨some 123, none, .load (some 3) (.tmp 3)⟩,
  ⟨some 124, none, .mov (.tmp 12)⟩,
  ⟨some 125, none, .mov (.tmp 13)⟩,
  ⟨some 126, none, .mov (.tmp 14)⟩,
  ⟨some 127, none, .call (.cst (.fn (.func 26) [] [])) [(.tmp 123), (.tmp 124), (.tmp 125), (.tmp 126)]⟩,
  ⟨some 122, none, .mov (.tmp 127)⟩,
  ⟨some 128, none, .ext (.tmp 122) 0⟩,
  ⟨some 129, none, .ext (.tmp 122) 1⟩,
  ⟨some 21, none, .mov (.tmp 128)⟩,
  ⟨some 22, none, .mov (.tmp 129)⟩])
 (.seq (.ops false [
  ⟨some 131, none, .load (some 3) (.tmp 7)⟩,
  ⟨some 132, none, .mov (.tmp 12)⟩,
  ⟨some 133, none, .mov (.tmp 13)⟩,
  ⟨some 134, none, .mov (.tmp 14)⟩,
  ⟨some 135, none, .call (.cst (.fn (.func 26) [] [])) [(.tmp 131), (.tmp 132), (.tmp 133), (.tmp 134)]⟩,
  ⟨some 130, none, .mov (.tmp 135)⟩,
  ⟨some 136, none, .ext (.tmp 130) 0⟩,
  ⟨some 137, none, .ext (.tmp 130) 1⟩,
  ⟨some 23, none, .mov (.tmp 136)⟩,
  ⟨some 24, none, .mov (.tmp 137)⟩])
 (.seq (.seq (.ops false [
  ⟨some 138, none, .mov (.tmp 9)⟩,
  ⟨some 139, none, .bin .neq (.tmp 138) (.cst (I 0))⟩,
  ⟨some 140, none, .mov (.tmp 139)⟩,
  ⟨some 141, some ((some 140), false), .mov (.tmp 11)⟩,
  ⟨some 142, some ((some 140), false), .bin .neq (.tmp 141) (.cst (I 0))⟩,
  ⟨some 143, none, .pick (.tmp 140) (.cst (.bool true)) (.tmp 142)⟩,
  ⟨some 144, none, .mov (.tmp 143)⟩,
  ⟨some 145, some ((some 144), false), .mov (.tmp 18)⟩,
  ⟨some 146, some ((some 144), false), .bin .neq (.tmp 145) (.cst (I 0))⟩,
  ⟨some 147, none, .pick (.tmp 144) (.cst (.bool true)) (.tmp 146)⟩,
  ⟨some 148, none, .mov (.tmp 147)⟩,
  ⟨some 149, some ((some 148), false), .mov (.tmp 20)⟩,
  ⟨some 150, some ((some 148), false), .bin .neq (.tmp 149) (.cst (I 0))⟩,
  ⟨some 151, none, .pick (.tmp 148) (.cst (.bool true)) (.tmp 150)⟩,
  ⟨some 152, none, .mov (.tmp 151)⟩,
  ⟨some 153, some ((some 152), false), .mov (.tmp 22)⟩,
  ⟨some 154, some ((some 152), false), .bin .neq (.tmp 153) (.cst (I 0))⟩,
  ⟨some 155, none, .pick (.tmp 152) (.cst (.bool true)) (.tmp 154)⟩,
  ⟨some 156, none, .mov (.tmp 155)⟩,
  ⟨some 157, some ((some 156), false), .mov (.tmp 24)⟩,
  ⟨some 158, some ((some 156), false), .bin .neq (.tmp 157) (.cst (I 0))⟩,
  ⟨some 159, none, .pick (.tmp 156) (.cst (.bool true)) (.tmp 158)⟩,
  ⟨some 160, none, .mov (.tmp 159)⟩,
  ⟨some 161, some ((some 160), false), .load (some 2) (.tmp 16)⟩,
  ⟨some 162, some ((some 160), false), .load (some 2) (.tmp 15)⟩,
  ⟨some 163, some ((some 160), false), .call (.cst (.fn (.func 48) [] [])) [(.tmp 161), (.tmp 162)]⟩,
  ⟨some 164, some ((some 160), false), .lnot (.tmp 163)⟩,
  ⟨some 165, none, .pick (.tmp 160) (.cst (.bool true)) (.tmp 164)⟩,
  ⟨some 166, none, .mov (.tmp 165)⟩,
  ⟨some 167, some ((some 166), false), .load (some 2) (.tmp 19)⟩,
  ⟨some 168, some ((some 166), false), .load (some 2) (.tmp 17)⟩,
  ⟨some 169, some ((some 166), false), .call (.cst (.fn (.func 48) [] [])) [(.tmp 167), (.tmp 168)]⟩,
  ⟨some 170, some ((some 166), false), .lnot (.tmp 169)⟩,
  ⟨some 171, none, .pick (.tmp 166) (.cst (.bool true)) (.tmp 170)⟩,
  ⟨some 172, none, .mov (.tmp 171)⟩,
  ⟨some 173, some ((some 172), false), .mov (.tmp 21)⟩,
  ⟨some 174, some ((some 172), false), .bin .neq (.tmp 173) (.cst (I 1))⟩,
  ⟨some 175, some ((some 172), false), .mov (.tmp 174)⟩,
  ⟨some 176, some ((some 175), true), .mov (.tmp 23)⟩,
  ⟨some 177, some ((some 175), true), .mov (.tmp 21)⟩,
  ⟨some 178, some ((some 175), true), .bin .neq (.tmp 176) (.tmp 177)⟩,
  ⟨some 179, some ((some 172), false), .pick (.tmp 175) (.tmp 178) (.cst (.bool false))⟩,
  ⟨some 180, none, .pick (.tmp 172) (.cst (.bool true)) (.tmp 179)⟩])
 (.cond (.tmp 180) (.seq (.ops false [
  ⟨some 6, none, .mov (.cst (.bool false))⟩])
 .ret) .skip))
 (.seq (.ops false [
  ⟨some 182, none, .load (some 3) (.tmp 3)⟩,
  ⟨some 183, none, .mov (.tmp 12)⟩,
  ⟨some 184, none, .mov (.tmp 13)⟩,
  ⟨some 185, none, .call (.cst (.fn (.func 23) [] [])) [(.tmp 182), (.tmp 183), (.tmp 184)]⟩,
  ⟨some 181, none, .mov (.tmp 185)⟩,
  ⟨some 186, none, .ext (.tmp 181) 0⟩,
  ⟨some 187, none, .ext (.tmp 181) 1⟩,
  ⟨none, none, .store 2 (.tmp 15) (.tmp 186)⟩,
  ⟨some 9, none, .mov (.tmp 187)⟩])
 (.seq (.ops false [
  ⟨some 189, none, .load (some 3) (.tmp 7)⟩,
  ⟨some 190, none, .mov (.tmp 12)⟩,
  ⟨some 191, none, .mov (.tmp 13)⟩,
  ⟨some 192, none, .call (.cst (.fn (.func 23) [] [])) [(.tmp 189), (.tmp 190), (.tmp 191)]⟩,
  ⟨some 188, none, .mov (.tmp 192)⟩,
  ⟨some 193, none, .ext (.tmp 188) 0⟩,
  ⟨some 194, none, .ext (.tmp 188) 1⟩,
  ⟨none, none, .store 2 (.tmp 16) (.tmp 193)⟩,
  ⟨some 11, none, .mov (.tmp 194)⟩])
 (.seq (.ops false [
  ⟨some 196, none, .load (some 3) (.tmp 3)⟩,
  ⟨some 197, none, .mov (.tmp 13)⟩,
  ⟨some 198, none, .call (.cst (.fn (.func 31) [] [])) [(.tmp 196), (.tmp 197)]⟩,
  ⟨some 195, none, .mov (.tmp 198)⟩,
  ⟨some 199, none, .ext (.tmp 195) 0⟩,
  ⟨some 200, none, .ext (.tmp 195) 1⟩,
  ⟨some 25, none, .mov (.tmp 199)⟩,
  ⟨some 18, none, .mov (.tmp 200)⟩])
 (.seq (.ops false [
  ⟨some 202, none, .load (some 3) (.tmp 7)⟩,
  ⟨some 203, none, .mov (.tmp 13)⟩,
  ⟨some 204, none, .call (.cst (.fn (.func 31) [] [])) [(.tmp 202), (.tmp 203)]⟩,
  ⟨some 201, none, .mov (.tmp 204)⟩,
  ⟨some 205, none, .ext (.tmp 201) 0⟩,
  ⟨some 206, none, .ext (.tmp 201) 1⟩,
  ⟨some 26, none, .mov (.tmp 205)⟩,
  ⟨some 20, none, .mov (.tmp 206)⟩])
 (.seq (.seq (.ops false [
  ⟨some 207, none, .mov (.tmp 11)⟩,
  ⟨some 208, none, .bin .neq (.tmp 207) (.cst (I 0))⟩,
  ⟨some 209, none, .mov (.tmp 208)⟩,
  ⟨some 210, some ((some 209), true), .mov (.tmp 11)⟩,
  ⟨some 211, some ((some 209), true), .bin .neq (.tmp 210) (.cst (I 4))⟩,
  ⟨some 212, none, .pick (.tmp 209) (.tmp 211) (.cst (.bool false))⟩,
  ⟨some 213, none, .mov (.tmp 212)⟩,
  ⟨some 214, some ((some 213), false), .mov (.tmp 11)⟩,
  ⟨some 215, some ((some 213), false), .bin .eql (.tmp 214) (.cst (I 0))⟩,
  ⟨some 216, some ((some 213), false), .mov (.tmp 215)⟩,
  ⟨some 217, some ((some 216), true), .mov (.tmp 9)⟩,
  ⟨some 218, some ((some 216), true), .bin .neq (.tmp 217) (.cst (I 0))⟩,
  ⟨some 219, some ((some 216), true), .mov (.tmp 218)⟩,
  ⟨some 220, some ((some 219), false), .load (some 2) (.tmp 16)⟩,
  ⟨some 221, some ((some 219), false), .load (some 2) (.tmp 15)⟩,
  ⟨some 222, some ((some 219), false), .call (.cst (.fn (.func 48) [] [])) [(.tmp 220), (.tmp 221)]⟩,
  ⟨some 223, some ((some 219), false), .lnot (.tmp 222)⟩,
  ⟨some 224, some ((some 216), true), .pick (.tmp 219) (.cst (.bool true)) (.tmp 223)⟩,
  ⟨some 225, some ((some 213), false), .pick (.tmp 216) (.tmp 224) (.cst (.bool false))⟩,
  ⟨some 226, none, .pick (.tmp 213) (.cst (.bool true)) (.tmp 225)⟩])
 (.cond (.tmp 226) (.seq (.ops false [
  ⟨some 6, none, .mov (.cst (.bool false))⟩])
 .ret) .skip))
 (.seq (.ops false [
  ⟨some 227, none, .mov (.tmp 18)⟩,
  ⟨some 228, none, .bin .eql (.tmp 227) (.cst (I 0))⟩,
  ⟨some 229, none, .mov (.tmp 228)⟩,
  ⟨some 230, some ((some 229), true), .mov (.tmp 20)⟩,
  ⟨some 231, some ((some 229), true), .bin .eql (.tmp 230) (.cst (I 0))⟩,
  ⟨some 232, none, .pick (.tmp 229) (.tmp 231) (.cst (.bool false))⟩,
  ⟨some 233, none, .mov (.tmp 232)⟩,
  ⟨some 234, some ((some 233), true), .mov (.tmp 25)⟩,
  ⟨some 235, some ((some 233), true), .call (.cst (.fn (.func 50) [] [])) [(.tmp 234)]⟩,
  ⟨some 236, some ((some 233), true), .mov (.tmp 26)⟩,
  ⟨some 237, some ((some 233), true), .call (.cst (.fn (.func 50) [] [])) [(.tmp 236)]⟩,
  ⟨some 238, some ((some 233), true), .bin .andNot (.tmp 235) (.tmp 237)⟩,
  ⟨some 239, some ((some 233), true), .bin .eql (.tmp 238) (.cst (I 0))⟩,
  ⟨some 240, none, .pick (.tmp 233) (.tmp 239) (.cst (.bool false))⟩,
  ⟨some 241, none, .mov (.tmp 240)⟩,
  ⟨some 242, some ((some 241), true), .call (.cst (.fn (.func 25) [] [])) []⟩,
  ⟨some 243, none, .pick (.tmp 241) (.tmp 242) (.cst (.bool false))⟩,
  ⟨some 6, none, .mov (.tmp 243)⟩])
 .ret))))))))))))))))))))))⟩
theorem comp8 : compF Cv 8 = some code8 := by kernel_rfl

def body9_0 : MC := (.seq (.seq (.ops false [
  ⟨some 42, none, .mov (.tmp 9)⟩,
  ⟨some 43, none, .fad (.tmp 2) 2⟩,
  ⟨some 44, none, .load none (.tmp 43)⟩,
  ⟨some 45, none, .len (.tmp 44)⟩,
  ⟨some 46, none, .bin .lss (.tmp 42) (.tmp 45)⟩])
 (.cond (.tmp 46) .skip (.exit 0)))
 (.seq (.block 1 (.seq (.ops false [
  ⟨some 49, none, .fad (.tmp 2) 2⟩,
  ⟨some 50, none, .load none (.tmp 49)⟩,
  ⟨some 51, none, .mov (.tmp 9)⟩,
  ⟨some 52, none, .ixs 4 (.tmp 50) (.tmp 51)⟩,
  ⟨some 53, none, .fad (.tmp 52) 0⟩,
  ⟨some 54, none, .load none (.tmp 53)⟩,
  ⟨some 55, none, .mov (.tmp 5)⟩,
  ⟨some 56, none, .bin .eql (.tmp 54) (.tmp 55)⟩])
 (.cond (.tmp 56) (.ops false [
  ⟨some 57, none, .fad (.tmp 8) 2⟩,
  ⟨some 58, none, .load none (.tmp 57)⟩,
  ⟨some 59, none, .fad (.tmp 2) 2⟩,
  ⟨some 60, none, .load none (.tmp 59)⟩,
  ⟨some 61, none, .mov (.tmp 9)⟩,
  ⟨some 62, none, .ixs 4 (.tmp 60) (.tmp 61)⟩,
  ⟨some 63, none, .load (some 4) (.tmp 62)⟩,
  ⟨some 64, none, .bsl 4 true (.agg [(I 0), (I 0), (I 0), (I 0)]) 1 [(0, (.tmp 63))]⟩,
  ⟨some 65, none, .app false 4 32 true (.tmp 58) (.tmp 64)⟩,
  ⟨some 66, none, .fad (.tmp 8) 2⟩,
  ⟨none, none, .store 1 (.tmp 66) (.tmp 65)⟩]) .skip)))
 (.ops false [
  ⟨some 47, none, .mov (.tmp 9)⟩,
  ⟨some 48, none, .bin .add (.tmp 47) (.cst (I 1))⟩,
  ⟨some 9, none, .mov (.tmp 48)⟩])))
def keep9_0 : Option (List Nat) := some [2, 5, 6, 7, 8, 9]
def code9 : MF := ⟨186, [(4, none)], (.seq (.ops false [
  ⟨some 2, none, .box (.tmp 0)⟩,
  ⟨some 3, none, .box (.tmp 1)⟩,
  ⟨some 4, none, .mov (.cst (.bool false))⟩])
 (.seq (.seq (.ops false [
  ⟨some 22, none, .load (some 3) (.tmp 2)⟩,
  ⟨some 23, none, .call (.cst (.fn (.func 39) [] [])) [(.tmp 22)]⟩,
  ⟨some 24, none, .lnot (.tmp 23)⟩])
 (.cond (.tmp 24) (.seq (.ops false [
  ⟨some 25, none, .call (.cst (.fn (.func 25) [] [])) []⟩,
  ⟨some 4, none, .mov (.tmp 25)⟩])
 .ret) .skip))
 (.seq (.ops true [
  ⟨some 26, none, .ixa 3 1 (.tmp 3) (.cst (I 0))⟩,
  ⟨some 27, none, .load none (.tmp 26)⟩,
  ⟨some 28, none, .fad (.tmp 2) 0⟩,
  ⟨some 29, none, .load none (.tmp 28)⟩,
  ⟨some 30, none, .len (.tmp 29)⟩,
  ⟨some 31, none, .call (.cst (.fn (.func 42) [] [])) [(.tmp 27), (.tmp 30)]⟩,
  ⟨some 32, none, .ixa 3 1 (.tmp 3) (.cst (I 1))⟩,
  ⟨some 33, none, .load none (.tmp 32)⟩,
  ⟨some 34, none, .fad (.tmp 2) 1⟩,
  ⟨some 35, none, .load none (.tmp 34)⟩,
  ⟨some 36, none, .call (.cst (.fn (.func 42) [] [])) [(.tmp 33), (.tmp 35)]⟩,
  ⟨some 37, none, .ixa 3 1 (.tmp 3) (.cst (I 2))⟩,
  ⟨some 38, none, .load none (.tmp 37)⟩,
  ⟨some 39, none, .call (.cst (.fn (.func 42) [] [])) [(.tmp 38), (.cst (I 41))]⟩,
  ⟨some 5, none, .mov (.tmp 31)⟩,
  ⟨some 6, none, .mov (.tmp 36)⟩,
  ⟨some 7, none, .mov (.tmp 39)⟩])
 (.seq (.ops false [
  ⟨some 40, none, .load (some 3) (.tmp 2)⟩,
  ⟨some 8, none, .alloc [.nils, (I 0), .nils]⟩,
  ⟨none, none, .store 3 (.tmp 8) (.tmp 40)⟩])
 (.seq (.ops false [
  ⟨some 41, none, .fad (.tmp 8) 2⟩,
  ⟨none, none, .store 1 (.tmp 41) (.cst .nils)⟩])
 (.seq (.seq (.ops false [
  ⟨some 9, none, .mov (.cst (I 0))⟩])
 (.block 0 (.loop keep9_0 body9_0)))
 (.seq (.ops false [
  ⟨some 68, none, .load (some 3) (.tmp 2)⟩,
  ⟨some 69, none, .call (.cst (.fn (.func 15) [] [])) [(.tmp 68)]⟩,
  ⟨some 67, none, .mov (.tmp 69)⟩,
  ⟨some 70, none, .ext (.tmp 67) 0⟩,
  ⟨some 71, none, .ext (.tmp 67) 1⟩,
  ⟨some 10, none, .mov (.tmp 70)⟩,
  ⟨some 11, none, .mov (.tmp 71)⟩])
 (.seq (.ops false [
  ⟨some 73, none, .load (some 3) (.tmp 8)⟩,
  ⟨some 74, none, .call (.cst (.fn (.func 15) [] [])) [(.tmp 73)]⟩,
  ⟨some 72, none, .mov (.tmp 74)⟩,
  ⟨some 75, none, .ext (.tmp 72) 0⟩,
  ⟨some 76, none, .ext (.tmp 72) 1⟩,
  ⟨some 12, none, .mov (.tmp 75)⟩,
  ⟨some 13, none, .mov (.tmp 76)⟩])
 (.seq (.seq (.ops false [
  ⟨some 77, none, .mov (.tmp 11)⟩,
  ⟨some 78, none, .bin .neq (.tmp 77) (.cst (I 0))⟩,
  ⟨some 79, none, .mov (.tmp 78)⟩,
  ⟨some 80, some ((some 79), false), .mov (.tmp 13)⟩,
  ⟨some 81, some ((some 79), false), .bin .neq (.tmp 80) (.cst (I 0))⟩,
  ⟨some 82, none, .pick (.tmp 79) (.cst (.bool true)) (.tmp 81)⟩,
  ⟨some 83, none, .mov (.tmp 82)⟩,
  ⟨some 84, some ((some 83), false), .mov (.tmp 10)⟩,
  ⟨some 85, some ((some 83), false), .mov (.tmp 84)⟩,
  ⟨some 86, some ((some 85), true), .mov (.tmp 12)⟩,
  ⟨some 87, some ((some 85), true), .lnot (.tmp 86)⟩,
  ⟨some 88, some ((some 83), false), .pick (.tmp 85) (.tmp 87) (.cst (.bool false))⟩,
  ⟨some 89, none, .pick (.tmp 83) (.cst (.bool true)) (.tmp 88)⟩])
 (.cond (.tmp 89) (.seq (.ops false [
  ⟨some 4, none, .mov (.cst (.bool false))⟩])
 .ret) .skip))
 (.seq (.seq (.ops false [
  ⟨some 90, none, .mov (.tmp 10)⟩,
  ⟨some 91, none, .lnot (.tmp 90)⟩])
 (.cond (.tmp 91) (.seq (.ops false [
  ⟨some 92, none, .call (.cst (.fn (.func 25) [] [])) []⟩,
  ⟨some 4, none, .mov (.tmp 92)⟩])
 .ret) .skip))
 (.seq (.ops false [
  ⟨some 94, none, .load (some 3) (.tmp 2)⟩,
  ⟨some 95, none, .mov (.tmp 5)⟩,
  ⟨some 96, none, .call (.cst (.fn (.func 19) [] [])) [(.tmp 94), (.tmp 95)]⟩,
  ⟨some 93, none, .mov (.tmp 96)⟩,
  ⟨some 97, none, .ext (.tmp 93) 0⟩,
  ⟨some 98, none, .ext (.tmp 93) 1⟩,
  ⟨some 14, none, .alloc [(I 0), (I 0)]⟩,
  ⟨none, none, .store 2 (.tmp 14) (.tmp 97)⟩,
  ⟨some 11, none, .mov (.tmp 98)⟩])
 (.seq (.ops false [
  ⟨some 100, none, .load (some 3) (.tmp 8)⟩,
  ⟨some 101, none, .mov (.tmp 5)⟩,
  ⟨some 102, none, .call (.cst (.fn (.func 19) [] [])) [(.tmp 100), (.tmp 101)]⟩,
  ⟨some 99, none, .mov (.tmp 102)⟩,
  ⟨some 103, none, .ext (.tmp 99) 0⟩,
  ⟨some 104, none, .ext (.tmp 99) 1⟩,
  ⟨some 15, none, .alloc [(I 0), (I 0)]⟩,
  ⟨none, none, .store 2 (.tmp 15) (.tmp 103)⟩,
  ⟨some 13, none, .mov (.tmp 104)⟩])
 (.seq (.ops false [
  ⟨some 106, none, .load (some 3) (.tmp 2)⟩,
  ⟨some 107, none, .mov (.tmp 5)⟩,
  ⟨some 108, none, .call (.cst (.fn (.func 21) [] [])) [(.tmp 106), (.tmp 107)]⟩,
  ⟨some 105, none, .mov (.tmp 108)⟩,
  ⟨some 109, none, .ext (.tmp 105) 0⟩,
  ⟨some 110, none, .ext (.tmp 105) 1⟩,
  ⟨some 16, none, .alloc [(I 0), (I 0)]⟩,
  ⟨none, none, .store 2 (.tmp 16) (.tmp 109)⟩,
  ⟨some 17, none, .mov (.tmp 110)⟩])
 (.seq (.ops false [
  ⟨some 112, none, .load (some 3) (.tmp 8)⟩,
  ⟨some 113, none, .mov (.tmp 5)⟩,
  ⟨some 114, none, .call (.cst (.fn (.func 21) [] [])) [(.tmp 112), (.tmp 113)]⟩,
  ⟨some 111, none, .mov (.tmp 114)⟩,
  ⟨some 115, none, .ext (.tmp 111) 0⟩,
  ⟨some 116, none, .ext (.tmp 111) 1⟩,
  ⟨some 18, none, .alloc [(I 0), (I 0)]⟩,
  ⟨none, none, .store 2 (.tmp 18) (.tmp 115)⟩,
  ⟨some 19, none, .mov (.tmp 116)⟩])
 (.seq (.seq (.ops false [
  ⟨some 117, none, .load (some 2) (.tmp 14)⟩,
  ⟨some 118, none, .load (some 2) (.tmp 15)⟩,
  ⟨some 119, none, .eqa 2 true (.tmp 117) (.tmp 118)⟩,
  ⟨some 120, none, .mov (.tmp 119)⟩,
  ⟨some 121, some ((some 120), false), .mov (.tmp 11)⟩,
  ⟨some 122, some ((some 120), false), .mov (.tmp 13)⟩,
  ⟨some 123, some ((some 120), false), .bin .neq (.tmp 121) (.tmp 122)⟩,
  ⟨some 124, none, .pick (.tmp 120) (.cst (.bool true)) (.tmp 123)⟩,
  ⟨some 125, none, .mov (.tmp 124)⟩,
  ⟨some 126, some ((some 125), false), .load (some 2) (.tmp 16)⟩,
  ⟨some 127, some ((some 125), false), .load (some 2) (.tmp 18)⟩,
  ⟨some 128, some ((some 125), false), .eqa 2 true (.tmp 126) (.tmp 127)⟩,
  ⟨some 129, none, .pick (.tmp 125) (.cst (.bool true)) (.tmp 128)⟩,
  ⟨some 130, none, .mov (.tmp 129)⟩,
  ⟨some 131, some ((some 130), false), .mov (.tmp 17)⟩,
  ⟨some 132, some ((some 130), false), .mov (.tmp 19)⟩,
  ⟨some 133, some ((some 130), false), .bin .neq (.tmp 131) (.tmp 132)⟩,
  ⟨some 134, none, .pick (.tmp 130) (.cst (.bool true)) (.tmp 133)⟩])
 (.cond (.tmp 134) (.seq (.ops false [
  ⟨some 4, none, .mov (.cst (.bool false))⟩])
 .ret) .skip))
 (.seq (.ops false [
  ⟨some 136, none, .load (some 3) (.tmp 2)⟩,
  ⟨some 137, none, .mov (.tmp 5)⟩,
  ⟨some 138, none, .mov (.tmp 6)⟩,
  ⟨some 139, none, .call (.cst (.fn (.func 23) [] [])) [(.tmp 136), (.tmp 137), (.tmp 138)]⟩,
  ⟨some 135, none, .mov (.tmp 139)⟩,
  ⟨some 140, none, .ext (.tmp 135) 0⟩,
  ⟨some 141, none, .ext (.tmp 135) 1⟩,
  ⟨none, none, .store 2 (.tmp 14) (.tmp 140)⟩,
  ⟨some 11, none, .mov (.tmp 141)⟩])
 (.seq (.ops false [
  ⟨some 143, none, .load (some 3) (.tmp 8)⟩,
  ⟨some 144, none, .mov (.tmp 5)⟩,
  ⟨some 145, none, .mov (.tmp 6)⟩,
  ⟨some 146, none, .call (.cst (.fn (.func 23) [] [])) [(.tmp 143), (.tmp 144), (.tmp 145)]⟩,
  ⟨some 142, none, .mov (.tmp 146)⟩,
  ⟨some 147, none, .ext (.tmp 142) 0⟩,
  ⟨some 148, none, .ext (.tmp 142) 1⟩,
  ⟨none, none, .store 2 (.tmp 15) (.tmp 147)⟩,
  ⟨some 13, none, .mov (.tmp 148)⟩])
 (.seq (.ops false [
  ⟨some 150, none, .load (some 3) (.tmp 2)⟩,
  ⟨some 151, none, .mov (.tmp 5)⟩,
  ⟨some 152, none, .mov (.tmp 6)⟩,
  ⟨some 153, none, .mov (.tmp 7)⟩,
  ⟨some 154, none, .call (.cst (.fn (.func 26) [] [])) [(.tmp 150), (.tmp 151), (.tmp 152), (.tmp 153)]⟩,
  ⟨some 149, none, .mov (.tmp 154)⟩,
  ⟨some 155, none, .ext (.tmp 149) 0⟩,
  ⟨some 156, none, .ext (.tmp 149) 1⟩,
  ⟨some 20, none, .mov (.tmp 155)⟩,
  ⟨some 17, none, .mov (.tmp 156)⟩])
 (.seq (.ops false [
  ⟨some 158, none, .load (some 3) (.tmp 8)⟩,
  ⟨some 159, none, .mov (.tmp 5)⟩,
  ⟨some 160, none, .mov (.tmp 6)⟩,
  ⟨some 161, none, .mov (.tmp 7)⟩,
  ⟨some 162, none, .call (.cst (.fn (.func 26) [] [])) [(.tmp 158), (.tmp 159), (.tmp 160), (.tmp 161)]⟩,
  ⟨some 157, none, .mov (.tmp 162)⟩,
  ⟨some 163, none, .ext (.tmp 157) 0⟩,
  ⟨some 164, none, .ext (.tmp 157) 1⟩,
  ⟨some 21, none, .mov (.tmp 163)⟩,
  ⟨some 19, none, .mov (.tmp 164)⟩])
 (.seq (.ops false [
  ⟨some 165, none, .load (some 2) (.tmp 14)⟩,
  ⟨some 166, none, .load (some 2) (.tmp 15)⟩,
  ⟨some 167, none, .eqa 2 false (.tmp 165) (.tmp 166)⟩,
  ⟨some 168, none, .mov (.tmp 167)⟩,
  ⟨some 169, some ((some 168), true), .mov (.tmp 11)⟩,
  ⟨some 170, some ((some 168), true), .mov (.tmp 13)⟩,
  ⟨some 171, some ((some 168), true), .bin .eql (.tmp 169) (.tmp 170)⟩,
  ⟨some 172, none, .pick (.tmp 168) (.tmp 171) (.cst (.bool false))⟩,
  ⟨some 173, none, .mov (.tmp 172)⟩,
  ⟨some 174, some ((some 173), true), .mov (.tmp 20)⟩,
  ⟨some 175, some ((some 173), true), .mov (.tmp 21)⟩,
  ⟨some 176, some ((some 173), true), .bin .eql (.tmp 174) (.tmp 175)⟩,
  ⟨some 177, none, .pick (.tmp 173) (.tmp 176) (.cst (.bool false))⟩,
  ⟨some 178, none, .mov (.tmp 177)⟩,
  ⟨some 179, some ((some 178), true), .mov (.tmp 17)⟩,
  ⟨some 180, some ((some 178), true), .mov (.tmp 19)⟩,
  ⟨some 181, some ((some 178), true), .bin .eql (.tmp 179) (.tmp 180)⟩,
  ⟨some 182, none, .pick (.tmp 178) (.tmp 181) (.cst (.bool false))⟩,
  ⟨some 183, none, .mov (.tmp 182)⟩,
  ⟨some 184, some ((some 183), true), .call (.cst (.fn (.func 25) [] [])) []⟩,
  ⟨some 185, none, .pick (.tmp 183) (.tmp 184) (.cst (.bool false))⟩,
  ⟨some 4, none, .mov (.tmp 185)⟩])
 .ret))))))))))))))))))))⟩
theorem comp9 : compF Cv 9 = some code9 := by kernel_rfl

def body10_0 : MC := (.seq (.seq (.ops false [
  ⟨some 57, none, .mov (.tmp 12)⟩,
  ⟨some 58, none, .fad (.tmp 8) 1⟩,
  ⟨some 59, none, .load none (.tmp 58)⟩,
  ⟨some 60, none, .bin .leq (.tmp 57) (.tmp 59)⟩])
 (.cond (.tmp 60) .skip (.exit 0)))
 (.seq (.block 1 (.seq (.ops false [
  ⟨some 64, none, .load (some 3) (.tmp 2)⟩,
  ⟨some 65, none, .mov (.tmp 6)⟩,
  ⟨some 66, none, .mov (.tmp 12)⟩,
  ⟨some 67, none, .call (.cst (.fn (.func 28) [] [])) [(.tmp 64), (.tmp 65), (.tmp 66)]⟩,
  ⟨some 63, none, .mov (.tmp 67)⟩,
  ⟨some 68, none, .ext (.tmp 63) 0⟩,
  ⟨some 69, none, .ext (.tmp 63) 1⟩,
  ⟨some 13, none, .mov (.tmp 68)⟩,
  ⟨some 14, none, .mov (.tmp 69)⟩])
 (.seq (.seq (.ops false [
  ⟨some 70, none, .mov (.tmp 14)⟩,
  ⟨some 71, none, .bin .neq (.tmp 70) (.cst (I 0))⟩])
 (.cond (.tmp 71) (.seq (.ops false [
  ⟨some 72, none, .mov (.tmp 14)⟩,
  ⟨some 73, none, .bin .eql (.tmp 72) (.cst (I 22))⟩,
  ⟨some 74, none, .mov (.tmp 73)⟩,
  ⟨some 75, some ((some 74), true), .mov (.tmp 10)⟩,
  ⟨some 76, some ((some 74), true), .mov (.tmp 14)⟩,
  ⟨some 77, some ((some 74), true), .bin .eql (.tmp 75) (.tmp 76)⟩,
  ⟨some 78, none, .pick (.tmp 74) (.tmp 77) (.cst (.bool false))⟩,
  ⟨some 79, none, .mov (.tmp 78)⟩,
  ⟨some 80, some ((some 79), true), .mov (.tmp 9)⟩,
  ⟨some 81, some ((some 79), true), .bin .eql (.tmp 80) (.cst (I 0))⟩,
  ⟨some 82, none, .pick (.tmp 79) (.tmp 81) (.cst (.bool false))⟩,
  ⟨some 83, none, .mov (.tmp 82)⟩,
  ⟨some 84, some ((some 83), true), .call (.cst (.fn (.func 25) [] [])) []⟩,
  ⟨some 85, none, .pick (.tmp 83) (.tmp 84) (.cst (.bool false))⟩,
  ⟨some 4, none, .mov (.tmp 85)⟩])
 .ret) .skip))
 (.seq (.seq (.ops false [
  ⟨some 86, none, .mov (.tmp 13)⟩,
  ⟨some 87, none, .fad (.tmp 2) 0⟩,
  ⟨some 88, none, .load none (.tmp 87)⟩,
  ⟨some 89, none, .len (.tmp 88)⟩,
  ⟨some 90, none, .call (.cst (.fn (.func 46) [] [])) [(.tmp 86), (.tmp 89)]⟩,
  ⟨some 91, none, .lnot (.tmp 90)⟩])
 (.cond (.tmp 91) (.seq (.ops false [
  ⟨some 4, none, .mov (.cst (.bool false))⟩])
 .ret) .skip))
 (.ops false [
  ⟨some 92, none, .mov (.tmp 11)⟩,
  ⟨some 93, none, .mov (.tmp 13)⟩,
  ⟨some 94, none, .call (.cst (.fn (.func 50) [] [])) [(.tmp 93)]⟩,
  ⟨some 95, none, .bin .and (.tmp 92) (.tmp 94)⟩,
  ⟨some 11, none, .mov (.tmp 95)⟩])))))
 (.ops false [
  ⟨some 61, none, .mov (.tmp 12)⟩,
  ⟨some 62, none, .bin .add (.tmp 61) (.cst (I 1))⟩,
  ⟨some 12, none, .mov (.tmp 62)⟩])))
def keep10_0 : Option (List Nat) := some [2, 5, 6, 8, 9, 10, 11, 12]
def code10 : MF := ⟨128, [(4, none)], (.seq (.ops false [
  ⟨some 2, none, .box (.tmp 0)⟩,
  ⟨some 3, none, .box (.tmp 1)⟩,
  ⟨some 4, none, .mov (.cst (.bool false))⟩])
 (.seq (.seq (.ops false [
  ⟨some 16, none, .load (some 3) (.tmp 2)⟩,
  ⟨some 17, none, .call (.cst (.fn (.func 39) [] [])) [(.tmp 16)]⟩,
  ⟨some 18, none, .lnot (.tmp 17)⟩])
 (.cond (.tmp 18) (.seq (.ops false [
  ⟨some 19, none, .call (.cst (.fn (.func 25) [] [])) []⟩,
  ⟨some 4, none, .mov (.tmp 19)⟩])
 .ret) .skip))
 (.seq (.ops true [
  ⟨some 20, none, .ixa 4 1 (.tmp 3) (.cst (I 0))⟩,
  ⟨some 21, none, .load none (.tmp 20)⟩,
  ⟨some 22, none, .fad (.tmp 2) 0⟩,
  ⟨some 23, none, .load none (.tmp 22)⟩,
  ⟨some 24, none, .len (.tmp 23)⟩,
  ⟨some 25, none, .call (.cst (.fn (.func 42) [] [])) [(.tmp 21), (.tmp 24)]⟩,
  ⟨some 26, none, .ixa 4 1 (.tmp 3) (.cst (I 1))⟩,
  ⟨some 27, none, .load none (.tmp 26)⟩,
  ⟨some 28, none, .fad (.tmp 2) 1⟩,
  ⟨some 29, none, .load none (.tmp 28)⟩,
  ⟨some 30, none, .call (.cst (.fn (.func 42) [] [])) [(.tmp 27), (.tmp 29)]⟩,
  ⟨some 31, none, .ixa 4 1 (.tmp 3) (.cst (I 2))⟩,
  ⟨some 32, none, .load none (.tmp 31)⟩,
  ⟨some 33, none, .call (.cst (.fn (.func 42) [] [])) [(.tmp 32), (.cst (I 41))]⟩,
  ⟨some 5, none, .mov (.tmp 25)⟩,
  ⟨some 6, none, .mov (.tmp 30)⟩,
  ⟨some 7, none, .mov (.tmp 33)⟩])
 (.seq (.ops false [
  ⟨some 34, none, .mov (.tmp 7)⟩,
  ⟨some 35, none, .mov (.tmp 7)⟩,
  ⟨some 36, none, .ixa 4 1 (.tmp 3) (.cst (I 3))⟩,
  ⟨some 37, none, .load none (.tmp 36)⟩,
  ⟨some 38, none, .call (.cst (.fn (.func 42) [] [])) [(.tmp 37), (.cst (I 8))]⟩,
  ⟨some 39, none, .bin .add (.tmp 35) (.tmp 38)⟩,
  ⟨some 40, none, .mn (.cst (I 40)) [(.tmp 39)]⟩,
  ⟨some 41, none, .call (.cst (.fn (.func 51) [] [])) [(.tmp 34), (.tmp 40)]⟩,
  ⟨some 8, none, .alloc [(I 0), (I 0)]⟩,
  ⟨none, none, .store 2 (.tmp 8) (.tmp 41)⟩])
 (.seq (.ops false [
  ⟨some 43, none, .load (some 3) (.tmp 2)⟩,
  ⟨some 44, none, .mov (.tmp 5)⟩,
  ⟨some 45, none, .mov (.tmp 6)⟩,
  ⟨some 46, none, .load (some 2) (.tmp 8)⟩,
  ⟨some 47, none, .call (.cst (.fn (.func 33) [] [])) [(.tmp 43), (.tmp 44), (.tmp 45), (.tmp 46)]⟩,
  ⟨some 42, none, .mov (.tmp 47)⟩,
  ⟨some 48, none, .ext (.tmp 42) 0⟩,
  ⟨some 49, none, .ext (.tmp 42) 1⟩,
  ⟨some 9, none, .mov (.tmp 48)⟩,
  ⟨some 10, none, .mov (.tmp 49)⟩])
 (.seq (.ops false [
  ⟨some 50, none, .fad (.tmp 2) 0⟩,
  ⟨some 51, none, .load none (.tmp 50)⟩,
  ⟨some 52, none, .len (.tmp 51)⟩,
  ⟨some 53, none, .bin .shl (.cst (I 1)) (.tmp 52)⟩,
  ⟨some 54, none, .bin .sub (.tmp 53) (.cst (I 1))⟩,
  ⟨some 11, none, .mov (.tmp 54)⟩])
 (.seq (.seq (.ops false [
  ⟨some 55, none, .fad (.tmp 8) 0⟩,
  ⟨some 56, none, .load none (.tmp 55)⟩,
  ⟨some 12, none, .mov (.tmp 56)⟩])
 (.block 0 (.loop keep10_0 body10_0)))
 (.seq (.ops false [
  ⟨some 96, none, .mov (.tmp 11)⟩,
  ⟨some 97, none, .mov (.tmp 5)⟩,
  ⟨some 98, none, .bin .shl (.cst (I 1)) (.tmp 97)⟩,
  ⟨some 99, none, .bin .andNot (.tmp 96) (.tmp 98)⟩,
  ⟨some 100, none, .fad (.tmp 2) 0⟩,
  ⟨some 101, none, .load none (.tmp 100)⟩,
  ⟨some 102, none, .len (.tmp 101)⟩,
  ⟨some 103, none, .call (.cst (.fn (.func 52) [] [])) [(.tmp 99), (.tmp 102)]⟩,
  ⟨some 15, none, .mov (.tmp 103)⟩])
 (.seq (.seq (.ops false [
  ⟨some 104, none, .mov (.tmp 15)⟩,
  ⟨some 105, none, .len (.tmp 104)⟩,
  ⟨some 106, none, .bin .eql (.tmp 105) (.cst (I 0))⟩])
 (.cond (.tmp 106) (.seq (.ops false [
  ⟨some 107, none, .mov (.tmp 10)⟩,
  ⟨some 108, none, .bin .eql (.tmp 107) (.cst (I 4))⟩,
  ⟨some 109, none, .mov (.tmp 108)⟩,
  ⟨some 110, some ((some 109), true), .mov (.tmp 9)⟩,
  ⟨some 111, some ((some 109), true), .bin .eql (.tmp 110) (.cst (I 0))⟩,
  ⟨some 112, none, .pick (.tmp 109) (.tmp 111) (.cst (.bool false))⟩,
  ⟨some 113, none, .mov (.tmp 112)⟩,
  ⟨some 114, some ((some 113), true), .call (.cst (.fn (.func 25) [] [])) []⟩,
  ⟨some 115, none, .pick (.tmp 113) (.tmp 114) (.cst (.bool false))⟩,
  ⟨some 4, none, .mov (.tmp 115)⟩])
 .ret) .skip))
 (.seq (.ops false [
  ⟨some 116, none, .mov (.tmp 10)⟩,
  ⟨some 117, none, .bin .eql (.tmp 116) (.cst (I 0))⟩,
  ⟨some 118, none, .mov (.tmp 117)⟩,
  ⟨some 119, some ((some 118), true), .mov (.tmp 9)⟩,
  ⟨some 120, some ((some 118), true), .mov (.tmp 15)⟩,
  ⟨some 121, some ((some 118), true), .ixs 1 (.tmp 120) (.cst (I 0))⟩,
  ⟨some 122, some ((some 118), true), .load none (.tmp 121)⟩,
  ⟨some 123, some ((some 118), true), .bin .eql (.tmp 119) (.tmp 122)⟩,
  ⟨some 124, none, .pick (.tmp 118) (.tmp 123) (.cst (.bool false))⟩,
  ⟨some 125, none, .mov (.tmp 124)⟩,
  ⟨some 126, some ((some 125), true), .call (.cst (.fn (.func 25) [] [])) []⟩,
  ⟨some 127, none, .pick (.tmp 125) (.tmp 126) (.cst (.bool false))⟩,
  ⟨some 4, none, .mov (.tmp 127)⟩])
 .ret))))))))))⟩
theorem comp10 : compF Cv 10 = some code10 := by kernel_rfl

def code11 : MF := ⟨145, [(4, none)], (.seq (.ops false [
  ⟨some 2, none, .box (.tmp 0)⟩,
  ⟨some 3, none, .box (.tmp 1)⟩,
  ⟨some 4, none, .mov (.cst (.bool false))⟩])
 (.seq (.seq (.ops false [
  ⟨some 16, none, .load (some 3) (.tmp 2)⟩,
  ⟨some 17, none, .call (.cst (.fn (.func 39) [] [])) [(.tmp 16)]⟩,
  ⟨some 18, none, .lnot (.tmp 17)⟩])
 (.cond (.tmp 18) (.seq (.ops false [
  ⟨some 19, none, .call (.cst (.fn (.func 25) [] [])) []⟩,
  ⟨some 4, none, .mov (.tmp 19)⟩])
 .ret) .skip))
 (.seq (.ops true [
  ⟨some 20, none, .ixa 3 1 (.tmp 3) (.cst (I 0))⟩,
  ⟨some 21, none, .load none (.tmp 20)⟩,
  ⟨some 22, none, .fad (.tmp 2) 1⟩,
  ⟨some 23, none, .load none (.tmp 22)⟩,
  ⟨some 24, none, .call (.cst (.fn (.func 42) [] [])) [(.tmp 21), (.tmp 23)]⟩,
  ⟨some 25, none, .ixa 3 1 (.tmp 3) (.cst (I 1))⟩,
  ⟨some 26, none, .load none (.tmp 25)⟩,
  ⟨some 27, none, .fad (.tmp 2) 0⟩,
  ⟨some 28, none, .load none (.tmp 27)⟩,
  ⟨some 29, none, .len (.tmp 28)⟩,
  ⟨some 30, none, .call (.cst (.fn (.func 42) [] [])) [(.tmp 26), (.tmp 29)]⟩,
  ⟨some 31, none, .ixa 3 1 (.tmp 3) (.cst (I 2))⟩,
  ⟨some 32, none, .load none (.tmp 31)⟩,
  ⟨some 33, none, .call (.cst (.fn (.func 42) [] [])) [(.tmp 32), (.cst (I 41))]⟩,
  ⟨some 5, none, .mov (.tmp 24)⟩,
  ⟨some 6, none, .mov (.tmp 30)⟩,
  ⟨some 7, none, .mov (.tmp 33)⟩])
 (.seq (.ops false [
  ⟨some 35, none, .load (some 3) (.tmp 2)⟩,
  ⟨some 36, none, .mov (.tmp 5)⟩,
  ⟨some 37, none, .call (.cst (.fn (.func 31) [] [])) [(.tmp 35), (.tmp 36)]⟩,
  ⟨some 34, none, .mov (.tmp 37)⟩,
  ⟨some 38, none, .ext (.tmp 34) 0⟩,
  ⟨some 39, none, .ext (.tmp 34) 1⟩,
  ⟨some 8, none, .mov (.tmp 38)⟩,
  ⟨some 9, none, .mov (.tmp 39)⟩])
 (.seq (.ops false [
  ⟨some 41, none, .load (some 3) (.tmp 2)⟩,
  ⟨some 42, none, .mov (.tmp 6)⟩,
  ⟨some 43, none, .call (.cst (.fn (.func 21) [] [])) [(.tmp 41), (.tmp 42)]⟩,
  ⟨some 40, none, .mov (.tmp 43)⟩,
  ⟨some 44, none, .ext (.tmp 40) 0⟩,
  ⟨some 45, none, .ext (.tmp 40) 1⟩,
  ⟨some 10, none, .alloc [(I 0), (I 0)]⟩,
  ⟨none, none, .store 2 (.tmp 10) (.tmp 44)⟩,
  ⟨some 11, none, .mov (.tmp 45)⟩])
 (.seq (.ops false [
  ⟨some 47, none, .load (some 3) (.tmp 2)⟩,
  ⟨some 48, none, .mov (.tmp 5)⟩,
  ⟨some 49, none, .mov (.tmp 7)⟩,
  ⟨some 50, none, .call (.cst (.fn (.func 28) [] [])) [(.tmp 47), (.tmp 48), (.tmp 49)]⟩,
  ⟨some 46, none, .mov (.tmp 50)⟩,
  ⟨some 51, none, .ext (.tmp 46) 0⟩,
  ⟨some 52, none, .ext (.tmp 46) 1⟩,
  ⟨some 12, none, .mov (.tmp 51)⟩,
  ⟨some 13, none, .mov (.tmp 52)⟩])
 (.seq (.seq (.ops false [
  ⟨some 53, none, .mov (.tmp 9)⟩,
  ⟨some 54, none, .bin .neq (.tmp 53) (.cst (I 0))⟩])
 (.cond (.tmp 54) (.seq (.ops false [
  ⟨some 55, none, .mov (.tmp 9)⟩,
  ⟨some 56, none, .bin .eql (.tmp 55) (.cst (I 22))⟩,
  ⟨some 57, none, .mov (.tmp 56)⟩,
  ⟨some 58, some ((some 57), true), .mov (.tmp 11)⟩,
  ⟨some 59, some ((some 57), true), .mov (.tmp 9)⟩,
  ⟨some 60, some ((some 57), true), .bin .eql (.tmp 58) (.tmp 59)⟩,
  ⟨some 61, none, .pick (.tmp 57) (.tmp 60) (.cst (.bool false))⟩,
  ⟨some 62, none, .mov (.tmp 61)⟩,
  ⟨some 63, some ((some 62), true), .mov (.tmp 13)⟩,
  ⟨some 64, some ((some 62), true), .mov (.tmp 9)⟩,
  ⟨some 65, some ((some 62), true), .bin .eql (.tmp 63) (.tmp 64)⟩,
  ⟨some 66, none, .pick (.tmp 62) (.tmp 65) (.cst (.bool false))⟩,
  ⟨some 67, none, .mov (.tmp 66)⟩,
  ⟨some 68, some ((some 67), true), .mov (.tmp 8)⟩,
  ⟨some 69, some ((some 67), true), .len (.tmp 68)⟩,
  ⟨some 70, some ((some 67), true), .mov (.tmp 12)⟩,
  ⟨some 71, some ((some 67), true), .len (.tmp 70)⟩,
  ⟨some 72, some ((some 67), true), .bin .add (.tmp 69) (.tmp 71)⟩,
  ⟨some 73, some ((some 67), true), .bin .eql (.tmp 72) (.cst (I 0))⟩,
  ⟨some 74, none, .pick (.tmp 67) (.tmp 73) (.cst (.bool false))⟩,
  ⟨some 75, none, .mov (.tmp 74)⟩,
  ⟨some 76, some ((some 75), true), .call (.cst (.fn (.func 25) [] [])) []⟩,
  ⟨some 77, none, .pick (.tmp 75) (.tmp 76) (.cst (.bool false))⟩,
  ⟨some 4, none, .mov (.tmp 77)⟩])
 .ret) .skip))
 (.seq (.seq (.ops true [
  ⟨some 78, none, .mov (.tmp 11)⟩,
  ⟨some 79, none, .bin .neq (.tmp 78) (.cst (I 0))⟩,
  ⟨some 80, none, .mov (.tmp 79)⟩,
  ⟨some 81, some ((some 80), false), .mov (.tmp 13)⟩,
  ⟨some 82, some ((some 80), false), .bin .neq (.tmp 81) (.cst (I 0))⟩,
  ⟨some 83, none, .pick (.tmp 80) (.cst (.bool true)) (.tmp 82)⟩,
  ⟨some 84, none, .mov (.tmp 83)⟩,
  ⟨some 85, some ((some 84), false), .mov (.tmp 8)⟩,
  ⟨some 86, some ((some 84), false), .fad (.tmp 2) 0⟩,
  ⟨some 87, some ((some 84), false), .load none (.tmp 86)⟩,
  ⟨some 88, some ((some 84), false), .len (.tmp 87)⟩,
  ⟨some 89, some ((some 84), false), .call (.cst (.fn (.func 46) [] [])) [(.tmp 85), (.tmp 88)]⟩,
  ⟨some 90, some ((some 84), false), .lnot (.tmp 89)⟩,
  ⟨some 91, none, .pick (.tmp 84) (.cst (.bool true)) (.tmp 90)⟩,
  ⟨some 92, none, .mov (.tmp 91)⟩,
  ⟨some 93, some ((some 92), false), .mov (.tmp 12)⟩,
  ⟨some 94, some ((some 92), false), .fad (.tmp 2) 0⟩,
  ⟨some 95, some ((some 92), false), .load none (.tmp 94)⟩,
  ⟨some 96, some ((some 92), false), .len (.tmp 95)⟩,
  ⟨some 97, some ((some 92), false), .call (.cst (.fn (.func 46) [] [])) [(.tmp 93), (.tmp 96)]⟩,
  ⟨some 98, some ((some 92), false), .lnot (.tmp 97)⟩,
  ⟨some 99, none, .pick (.tmp 92) (.cst (.bool true)) (.tmp 98)⟩,
  ⟨some 100, none, .mov (.tmp 99)⟩,
  ⟨some 101, some ((some 100), false), .mov (.tmp 8)⟩,
  ⟨some 102, some ((some 100), false), .mov (.tmp 6)⟩,
  ⟨some 103, some ((some 100), false), .call (.cst (.fn (.func 53) [] [])) [(.tmp 101), (.tmp 102)]⟩,
  ⟨some 104, some ((some 100), false), .bin .geq (.tmp 103) (.cst (I 0))⟩,
  ⟨some 105, some ((some 100), false), .fad (.tmp 10) 1⟩,
  ⟨some 106, some ((some 100), false), .load none (.tmp 105)⟩,
  ⟨some 107, some ((some 100), false), .mov (.tmp 5)⟩,
  ⟨some 108, some ((some 100), false), .bin .leq (.tmp 106) (.tmp 107)⟩,
  ⟨some 109, some ((some 100), false), .beq true (.tmp 104) (.tmp 108)⟩,
  ⟨some 110, none, .pick (.tmp 100) (.cst (.bool true)) (.tmp 109)⟩,
  ⟨some 111, none, .mov (.tmp 110)⟩,
  ⟨some 112, some ((some 111), false), .mov (.tmp 8)⟩,
  ⟨some 113, some ((some 111), false), .call (.cst (.fn (.func 50) [] [])) [(.tmp 112)]⟩,
  ⟨some 114, some ((some 111), false), .mov (.tmp 12)⟩,
  ⟨some 115, some ((some 111), false), .call (.cst (.fn (.func 50) [] [])) [(.tmp 114)]⟩,
  ⟨some 116, some ((some 111), false), .bin .and (.tmp 113) (.tmp 115)⟩,
  ⟨some 117, some ((some 111), false), .bin .neq (.tmp 116) (.cst (I 0))⟩,
  ⟨some 118, none, .pick (.tmp 111) (.cst (.bool true)) (.tmp 117)⟩])
 (.cond (.tmp 118) (.seq (.ops false [
  ⟨some 4, none, .mov (.cst (.bool false))⟩])
 .ret) .skip))
 (.seq (.seq (.ops false [
  ⟨some 119, none, .mov (.tmp 5)⟩,
  ⟨some 120, none, .bin .add (.tmp 119) (.cst (I 1))⟩,
  ⟨some 121, none, .fad (.tmp 2) 1⟩,
  ⟨some 122, none, .load none (.tmp 121)⟩,
  ⟨some 123, none, .bin .eql (.tmp 120) (.tmp 122)⟩])
 (.cond (.tmp 123) (.seq (.ops false [
  ⟨some 124, none, .call (.cst (.fn (.func 25) [] [])) []⟩,
  ⟨some 4, none, .mov (.tmp 124)⟩])
 .ret) .skip))
 (.seq (.ops false [
  ⟨some 126, none, .load (some 3) (.tmp 2)⟩,
  ⟨some 127, none, .mov (.tmp 5)⟩,
  ⟨some 128, none, .bin .add (.tmp 127) (.cst (I 1))⟩,
  ⟨some 129, none, .call (.cst (.fn (.func 31) [] [])) [(.tmp 126), (.tmp 128)]⟩,
  ⟨some 125, none, .mov (.tmp 129)⟩,
  ⟨some 130, none, .ext (.tmp 125) 0⟩,
  ⟨some 131, none, .ext (.tmp 125) 1⟩,
  ⟨some 14, none, .mov (.tmp 130)⟩,
  ⟨some 15, none, .mov (.tmp 131)⟩])
 (.seq (.ops false [
  ⟨some 132, none, .mov (.tmp 15)⟩,
  ⟨some 133, none, .bin .eql (.tmp 132) (.cst (I 0))⟩,
  ⟨some 134, none, .mov (.tmp 133)⟩,
  ⟨some 135, some ((some 134), true), .mov (.tmp 8)⟩,
  ⟨some 136, some ((some 134), true), .call (.cst (.fn (.func 50) [] [])) [(.tmp 135)]⟩,
  ⟨some 137, some ((some 134), true), .mov (.tmp 14)⟩,
  ⟨some 138, some ((some 134), true), .call (.cst (.fn (.func 50) [] [])) [(.tmp 137)]⟩,
  ⟨some 139, some ((some 134), true), .bin .andNot (.tmp 136) (.tmp 138)⟩,
  ⟨some 140, some ((some 134), true), .bin .eql (.tmp 139) (.cst (I 0))⟩,
  ⟨some 141, none, .pick (.tmp 134) (.tmp 140) (.cst (.bool false))⟩,
  ⟨some 142, none, .mov (.tmp 141)⟩,
  ⟨some 143, some ((some 142), true), .call (.cst (.fn (.func 25) [] [])) []⟩,
  ⟨some 144, none, .pick (.tmp 142) (.tmp 143) (.cst (.bool false))⟩,
  ⟨some 4, none, .mov (.tmp 144)⟩])
 .ret)))))))))))⟩
theorem comp11 : compF Cv 11 = some code11 := by kernel_rfl

def code12 : MF := ⟨199, [(4, none)], (.seq (.ops false [
  ⟨some 2, none, .box (.tmp 0)⟩,
  ⟨some 3, none, .box (.tmp 1)⟩,
  ⟨some 4, none, .mov (.cst (.bool false))⟩])
 (.seq (.seq (.ops false [
  ⟨some 19, none, .load (some 3) (.tmp 2)⟩,
  ⟨some 20, none, .call (.cst (.fn (.func 39) [] [])) [(.tmp 19)]⟩,
  ⟨some 21, none, .lnot (.tmp 20)⟩])
 (.cond (.tmp 21) (.seq (.ops false [
  ⟨some 22, none, .call (.cst (.fn (.func 25) [] [])) []⟩,
  ⟨some 4, none, .mov (.tmp 22)⟩])
 .ret) .skip))
 (.seq (.ops true [
  ⟨some 23, none, .ixa 4 1 (.tmp 3) (.cst (I 1))⟩,
  ⟨some 24, none, .load none (.tmp 23)⟩,
  ⟨some 25, none, .fad (.tmp 2) 0⟩,
  ⟨some 26, none, .load none (.tmp 25)⟩,
  ⟨some 27, none, .len (.tmp 26)⟩,
  ⟨some 28, none, .call (.cst (.fn (.func 42) [] [])) [(.tmp 24), (.tmp 27)]⟩,
  ⟨some 29, none, .ixa 4 1 (.tmp 3) (.cst (I 2))⟩,
  ⟨some 30, none, .load none (.tmp 29)⟩,
  ⟨some 31, none, .fad (.tmp 2) 1⟩,
  ⟨some 32, none, .load none (.tmp 31)⟩,
  ⟨some 33, none, .call (.cst (.fn (.func 42) [] [])) [(.tmp 30), (.tmp 32)]⟩,
  ⟨some 34, none, .ixa 4 1 (.tmp 3) (.cst (I 3))⟩,
  ⟨some 35, none, .load none (.tmp 34)⟩,
  ⟨some 36, none, .call (.cst (.fn (.func 42) [] [])) [(.tmp 35), (.cst (I 41))]⟩,
  ⟨some 5, none, .mov (.tmp 28)⟩,
  ⟨some 6, none, .mov (.tmp 33)⟩,
  ⟨some 7, none, .mov (.tmp 36)⟩])
 (.seq (.ops false [
  ⟨some 37, none, .load (some 3) (.tmp 2)⟩,
  ⟨some 8, none, .alloc [.nils, (I 0), .nils]⟩,
  ⟨none, none, .store 3 (.tmp 8) (.tmp 37)⟩])
 (.seq (.ops false [
  ⟨some 38, none, .fad (.tmp 8) 2⟩,
  ⟨none, none, .store 1 (.tmp 38) (.cst .nils)⟩])
 (.seq (.ops false [
  ⟨some 39, none, .load (some 3) (.tmp 8)⟩,
  ⟨some 9, none, .alloc [.nils, (I 0), .nils]⟩,
  ⟨none, none, .store 3 (.tmp 9) (.tmp 39)⟩])
 (.seq (.ops false [
  ⟨some 40, none, .bsl 11 true (.agg [(I 0), (I 0), (I 0), (I 0), (I 0), (I 0), (I 0), (I 0), (I 0), (I 0), (I 0)]) 0 []⟩,
  ⟨some 41, none, .fad (.tmp 2) 0⟩,
  ⟨some 42, none, .load none (.tmp 41)⟩,
  ⟨some 43, none, .app true 11 88 true (.tmp 40) (.tmp 42)⟩,
  ⟨some 44, none, .fad (.tmp 9) 0⟩,
  ⟨none, none, .store 1 (.tmp 44) (.tmp 43)⟩])
 (.seq (.ops false [
  ⟨some 45, none, .fad (.tmp 9) 0⟩,
  ⟨some 46, none, .load none (.tmp 45)⟩,
  ⟨some 47, none, .mov (.tmp 5)⟩,
  ⟨some 48, none, .ixs 11 (.tmp 46) (.tmp 47)⟩,
  ⟨some 10, none, .mov (.tmp 48)⟩])
 (.seq (.seq (.ops false [
  ⟨some 49, none, .ixa 4 1 (.tmp 3) (.cst (I 0))⟩,
  ⟨some 50, none, .load none (.tmp 49)⟩,
  ⟨some 51, none, .call (.cst (.fn (.func 42) [] [])) [(.tmp 50), (.cst (I 3))]⟩])
 (.block 0 (.seq (.ops false [
  ⟨some 80, none, .bin .eql (.tmp 51) (.cst (I 0))⟩,
  ⟨some 79, none, .mov (.tmp 80)⟩])
 (.cond (.tmp 79) (.seq (.ops false [
  ⟨some 81, none, .mov (.tmp 10)⟩,
  ⟨some 82, none, .mov (.tmp 10)⟩,
  ⟨some 83, none, .nck (.tmp 82)⟩,
  ⟨some 84, none, .fad (.tmp 83) 4⟩,
  ⟨some 85, none, .fad (.tmp 84) 1⟩,
  ⟨some 86, none, .load none (.tmp 85)⟩,
  ⟨some 87, none, .bin .add (.tmp 86) (.cst (I 1))⟩,
  ⟨some 88, none, .mn (.cst (I 2)) [(.tmp 87)]⟩,
  ⟨some 89, none, .nck (.tmp 81)⟩,
  ⟨some 90, none, .fad (.tmp 89) 4⟩,
  ⟨some 91, none, .fad (.tmp 90) 1⟩,
  ⟨none, none, .store 1 (.tmp 91) (.tmp 88)⟩])
 (.ops false [
  ⟨some 92, none, .mov (.tmp 10)⟩,
  ⟨some 93, none, .mov (.tmp 10)⟩,
  ⟨some 94, none, .nck (.tmp 93)⟩,
  ⟨some 95, none, .fad (.tmp 94) 4⟩,
  ⟨some 96, none, .fad (.tmp 95) 1⟩,
  ⟨some 97, none, .load none (.tmp 96)⟩,
  ⟨some 98, none, .mov (.tmp 10)⟩,
  ⟨some 99, none, .nck (.tmp 98)⟩,
  ⟨some 100, none, .fad (.tmp 99) 4⟩,
  ⟨some 101, none, .fad (.tmp 100) 0⟩,
  ⟨some 102, none, .load none (.tmp 101)⟩,
  ⟨some 103, none, .bin .add (.tmp 102) (.cst (I 1))⟩,
  ⟨some 104, none, .mn (.tmp 97) [(.tmp 103)]⟩,
  ⟨some 105, none, .nck (.tmp 92)⟩,
  ⟨some 106, none, .fad (.tmp 105) 4⟩,
  ⟨some 107, none, .fad (.tmp 106) 0⟩,
  ⟨none, none, .store 1 (.tmp 107) (.tmp 104)⟩])) (.seq (.ops false [
  ⟨some 109, none, .bin .eql (.tmp 51) (.cst (I 1))⟩,
  ⟨some 108, none, .mov (.tmp 109)⟩])
 (.cond (.tmp 108) (.ops false [
  ⟨some 110, none, .mov (.tmp 10)⟩,
  ⟨some 111, none, .mov (.tmp 10)⟩,
  ⟨some 112, none, .nck (.tmp 111)⟩,
  ⟨some 113, none, .fad (.tmp 112) 8⟩,
  ⟨some 114, none, .load none (.tmp 113)⟩,
  ⟨some 115, none, .bin .sub (.tmp 114) (.cst (I 1))⟩,
  ⟨some 116, none, .mx (.cst (I 0)) [(.tmp 115)]⟩,
  ⟨some 117, none, .nck (.tmp 110)⟩,
  ⟨some 118, none, .fad (.tmp 117) 8⟩,
  ⟨none, none, .store 1 (.tmp 118) (.tmp 116)⟩]) (.seq (.ops false [
  ⟨some 52, none, .mov (.tmp 10)⟩,
  ⟨some 53, none, .mov (.tmp 10)⟩,
  ⟨some 54, none, .nck (.tmp 53)⟩,
  ⟨some 55, none, .fad (.tmp 54) 2⟩,
  ⟨some 56, none, .fad (.tmp 55) 1⟩,
  ⟨some 57, none, .load none (.tmp 56)⟩,
  ⟨some 58, none, .bin .add (.tmp 57) (.cst (I 1))⟩,
  ⟨some 59, none, .mn (.cst (I 40)) [(.tmp 58)]⟩,
  ⟨some 60, none, .nck (.tmp 52)⟩,
  ⟨some 61, none, .fad (.tmp 60) 2⟩,
  ⟨some 62, none, .fad (.tmp 61) 1⟩,
  ⟨none, none, .store 1 (.tmp 62) (.tmp 59)⟩])
 (.ops false [
  ⟨some 63, none, .mov (.tmp 10)⟩,
  ⟨some 64, none, .mov (.tmp 10)⟩,
  ⟨some 65, none, .nck (.tmp 64)⟩,
  ⟨some 66, none, .fad (.tmp 65) 2⟩,
  ⟨some 67, none, .fad (.tmp 66) 1⟩,
  ⟨some 68, none, .load none (.tmp 67)⟩,
  ⟨some 69, none, .mov (.tmp 10)⟩,
  ⟨some 70, none, .nck (.tmp 69)⟩,
  ⟨some 71, none, .fad (.tmp 70) 2⟩,
  ⟨some 72, none, .fad (.tmp 71) 0⟩,
  ⟨some 73, none, .load none (.tmp 72)⟩,
  ⟨some 74, none, .bin .add (.tmp 73) (.cst (I 1))⟩,
  ⟨some 75, none, .mn (.tmp 68) [(.tmp 74)]⟩,
  ⟨some 76, none, .nck (.tmp 63)⟩,
  ⟨some 77, none, .fad (.tmp 76) 2⟩,
  ⟨some 78, none, .fad (.tmp 77) 0⟩,
  ⟨none, none, .store 1 (.tmp 78) (.tmp 75)⟩]))))))))
 (.seq (.ops false [
  ⟨some 120, none, .load (some 3) (.tmp 8)⟩,
  ⟨some 121, none, .mov (.tmp 5)⟩,
  ⟨some 122, none, .mov (.tmp 6)⟩,
  ⟨some 123, none, .call (.cst (.fn (.func 23) [] [])) [(.tmp 120), (.tmp 121), (.tmp 122)]⟩,
  ⟨some 119, none, .mov (.tmp 123)⟩,
  ⟨some 124, none, .ext (.tmp 119) 0⟩,
  ⟨some 125, none, .ext (.tmp 119) 1⟩,
  ⟨some 11, none, .alloc [(I 0), (I 0)]⟩,
  ⟨none, none, .store 2 (.tmp 11) (.tmp 124)⟩,
  ⟨some 12, none, .mov (.tmp 125)⟩])
 (.seq (.ops false [
  ⟨some 127, none, .load (some 3) (.tmp 9)⟩,
  ⟨some 128, none, .mov (.tmp 5)⟩,
  ⟨some 129, none, .mov (.tmp 6)⟩,
  ⟨some 130, none, .call (.cst (.fn (.func 23) [] [])) [(.tmp 127), (.tmp 128), (.tmp 129)]⟩,
  ⟨some 126, none, .mov (.tmp 130)⟩,
  ⟨some 131, none, .ext (.tmp 126) 0⟩,
  ⟨some 132, none, .ext (.tmp 126) 1⟩,
  ⟨some 13, none, .alloc [(I 0), (I 0)]⟩,
  ⟨none, none, .store 2 (.tmp 13) (.tmp 131)⟩,
  ⟨some 14, none, .mov (.tmp 132)⟩])
 (.seq (.ops false [
  ⟨some 134, none, .load (some 3) (.tmp 8)⟩,
  ⟨some 135, none, .mov (.tmp 5)⟩,
  ⟨some 136, none, .mov (.tmp 6)⟩,
  ⟨some 137, none, .mov (.tmp 7)⟩,
  ⟨some 138, none, .call (.cst (.fn (.func 26) [] [])) [(.tmp 134), (.tmp 135), (.tmp 136), (.tmp 137)]⟩,
  ⟨some 133, none, .mov (.tmp 138)⟩,
  ⟨some 139, none, .ext (.tmp 133) 0⟩,
  ⟨some 140, none, .ext (.tmp 133) 1⟩,
  ⟨some 15, none, .mov (.tmp 139)⟩,
  ⟨some 16, none, .mov (.tmp 140)⟩])
 (.seq (.ops false [
  ⟨some 142, none, .load (some 3) (.tmp 9)⟩,
  ⟨some 143, none, .mov (.tmp 5)⟩,
  ⟨some 144, none, .mov (.tmp 6)⟩,
  ⟨some 145, none, .mov (.tmp 7)⟩,
  ⟨some 146, none, .call (.cst (.fn (.func 26) [] [])) [(.tmp 142), (.tmp 143), (.tmp 144), (.tmp 145)]⟩,
  ⟨some 141, none, .mov (.tmp 146)⟩,
  ⟨some 147, none, .ext (.tmp 141) 0⟩,
  ⟨some 148, none, .ext (.tmp 141) 1⟩,
  ⟨some 17, none, .mov (.tmp 147)⟩,
  ⟨some 18, none, .mov (.tmp 148)⟩])
 (.seq (.seq (.ops false [
  ⟨some 149, none, .mov (.tmp 12)⟩,
  ⟨some 150, none, .mov (.tmp 14)⟩,
  ⟨some 151, none, .bin .neq (.tmp 149) (.tmp 150)⟩,
  ⟨some 152, none, .mov (.tmp 151)⟩,
  ⟨some 153, some ((some 152), false), .mov (.tmp 16)⟩,
  ⟨some 154, some ((some 152), false), .bin .neq (.tmp 153) (.cst (I 0))⟩,
  ⟨some 155, none, .pick (.tmp 152) (.cst (.bool true)) (.tmp 154)⟩,
  ⟨some 156, none, .mov (.tmp 155)⟩,
  ⟨some 157, some ((some 156), false), .mov (.tmp 18)⟩,
  ⟨some 158, some ((some 156), false), .bin .neq (.tmp 157) (.cst (I 0))⟩,
  ⟨some 159, none, .pick (.tmp 156) (.cst (.bool true)) (.tmp 158)⟩,
  ⟨some 160, none, .mov (.tmp 159)⟩,
  ⟨some 161, some ((some 160), false), .mov (.tmp 12)⟩,
  ⟨some 162, some ((some 160), false), .bin .neq (.tmp 161) (.cst (I 0))⟩,
  ⟨some 163, some ((some 160), false), .mov (.tmp 162)⟩,
  ⟨some 164, some ((some 163), true), .mov (.tmp 12)⟩,
  ⟨some 165, some ((some 163), true), .bin .neq (.tmp 164) (.cst (I 4))⟩,
  ⟨some 166, some ((some 160), false), .pick (.tmp 163) (.tmp 165) (.cst (.bool false))⟩,
  ⟨some 167, none, .pick (.tmp 160) (.cst (.bool true)) (.tmp 166)⟩])
 (.cond (.tmp 167) (.seq (.ops false [
  ⟨some 4, none, .mov (.cst (.bool false))⟩])
 .ret) .skip))
 (.seq (.ops false [
  ⟨some 168, none, .fad (.tmp 11) 0⟩,
  ⟨some 169, none, .load none (.tmp 168)⟩,
  ⟨some 170, none, .fad (.tmp 13) 0⟩,
  ⟨some 171, none, .load none (.tmp 170)⟩,
  ⟨some 172, none, .bin .leq (.tmp 169) (.tmp 171)⟩,
  ⟨some 173, none, .mov (.tmp 172)⟩,
  ⟨some 174, some ((some 173), true), .fad (.tmp 11) 1⟩,
  ⟨some 175, some ((some 173), true), .load none (.tmp 174)⟩,
  ⟨some 176, some ((some 173), true), .fad (.tmp 13) 1⟩,
  ⟨some 177, some ((some 173), true), .load none (.tmp 176)⟩,
  ⟨some 178, some ((some 173), true), .bin .leq (.tmp 175) (.tmp 177)⟩,
  ⟨some 179, none, .pick (.tmp 173) (.tmp 178) (.cst (.bool false))⟩,
  ⟨some 180, none, .mov (.tmp 179)⟩,
  ⟨some 181, some ((some 180), true), .mov (.tmp 15)⟩,
  ⟨some 182, some ((some 180), true), .bin .lss (.tmp 181) (.cst (I 2))⟩,
  ⟨some 183, some ((some 180), true), .mov (.tmp 182)⟩,
  ⟨some 184, some ((some 183), false), .mov (.tmp 17)⟩,
  ⟨some 185, some ((some 183), false), .bin .eql (.tmp 184) (.cst (I 2))⟩,
  ⟨some 186, some ((some 180), true), .pick (.tmp 183) (.cst (.bool true)) (.tmp 185)⟩,
  ⟨some 187, none, .pick (.tmp 180) (.tmp 186) (.cst (.bool false))⟩,
  ⟨some 188, none, .mov (.tmp 187)⟩,
  ⟨some 189, some ((some 188), true), .mov (.tmp 15)⟩,
  ⟨some 190, some ((some 188), true), .bin .eql (.tmp 189) (.cst (I 0))⟩,
  ⟨some 191, some ((some 188), true), .mov (.tmp 190)⟩,
  ⟨some 192, some ((some 191), false), .mov (.tmp 17)⟩,
  ⟨some 193, some ((some 191), false), .bin .gtr (.tmp 192) (.cst (I 0))⟩,
  ⟨some 194, some ((some 188), true), .pick (.tmp 191) (.cst (.bool true)) (.tmp 193)⟩,
  ⟨some 195, none, .pick (.tmp 188) (.tmp 194) (.cst (.bool false))⟩,
  ⟨some 196, none, .mov (.tmp 195)⟩,
  ⟨some 197, some ((some 196), true), .call (.cst (.fn (.func 25) [] [])) []⟩,
  ⟨some 198, none, .pick (.tmp 196) (.tmp 197) (.cst (.bool false))⟩,
  ⟨some 4, none, .mov (.tmp 198)⟩])
 .ret)))))))))))))))⟩
theorem comp12 : compF Cv 12 = some code12 := by kernel_rfl

def code13 : MF := ⟨104, [(4, none)], (.seq (.ops false [
  ⟨some 2, none, .box (.tmp 0)⟩,
  ⟨some 4, none, .mov (.cst (.bool false))⟩])
 (.seq (.ops false [
  ⟨some 15, none, .load (some 3) (.tmp 2)⟩,
  ⟨some 16, none, .call (.cst (.fn (.func 37) [] [])) [(.tmp 15)]⟩,
  ⟨some 14, none, .mov (.tmp 16)⟩,
  ⟨some 17, none, .ext (.tmp 14) 0⟩,
  ⟨some 18, none, .ext (.tmp 14) 1⟩,
  ⟨some 5, none, .mov (.tmp 17)⟩,
  ⟨some 6, none, .mov (.tmp 18)⟩])
 (.seq (.seq (.ops false [
  ⟨some 19, none, .load (some 3) (.tmp 2)⟩,
  ⟨some 20, none, .call (.cst (.fn (.func 39) [] [])) [(.tmp 19)]⟩,
  ⟨some 21, none, .lnot (.tmp 20)⟩])
 (.cond (.tmp 21) (.seq (.ops false [
  ⟨some 22, none, .mov (.tmp 6)⟩,
  ⟨some 23, none, .bin .eql (.tmp 22) (.cst (I 20))⟩,
  ⟨some 24, none, .mov (.tmp 23)⟩,
  ⟨some 25, some ((some 24), true), .mov (.tmp 5)⟩,
  ⟨some 26, some ((some 24), true), .len (.tmp 25)⟩,
  ⟨some 27, some ((some 24), true), .bin .eql (.tmp 26) (.cst (I 0))⟩,
  ⟨some 28, none, .pick (.tmp 24) (.tmp 27) (.cst (.bool false))⟩,
  ⟨some 29, none, .mov (.tmp 28)⟩,
  ⟨some 30, some ((some 29), true), .call (.cst (.fn (.func 25) [] [])) []⟩,
  ⟨some 31, none, .pick (.tmp 29) (.tmp 30) (.cst (.bool false))⟩,
  ⟨some 4, none, .mov (.tmp 31)⟩])
 .ret) .skip))
 (.seq (.ops false [
  ⟨some 33, none, .load (some 3) (.tmp 2)⟩,
  ⟨some 34, none, .call (.cst (.fn (.func 15) [] [])) [(.tmp 33)]⟩,
  ⟨some 32, none, .mov (.tmp 34)⟩,
  ⟨some 35, none, .ext (.tmp 32) 0⟩,
  ⟨some 36, none, .ext (.tmp 32) 1⟩,
  ⟨some 7, none, .mov (.tmp 35)⟩,
  ⟨some 8, none, .mov (.tmp 36)⟩])
 (.seq (.seq (.ops false [
  ⟨some 37, none, .mov (.tmp 6)⟩,
  ⟨some 38, none, .bin .neq (.tmp 37) (.cst (I 0))⟩,
  ⟨some 39, none, .mov (.tmp 38)⟩,
  ⟨some 40, some ((some 39), false), .mov (.tmp 8)⟩,
  ⟨some 41, some ((some 39), false), .bin .neq (.tmp 40) (.cst (I 0))⟩,
  ⟨some 42, none, .pick (.tmp 39) (.cst (.bool true)) (.tmp 41)⟩,
  ⟨some 43, none, .mov (.tmp 42)⟩,
  ⟨some 44, some ((some 43), false), .mov (.tmp 5)⟩,
  ⟨some 45, some ((some 43), false), .fad (.tmp 2) 2⟩,
  ⟨some 46, some ((some 43), false), .load none (.tmp 45)⟩,
  ⟨some 47, some ((some 43), false), .len (.tmp 46)⟩,
  ⟨some 48, some ((some 43), false), .call (.cst (.fn (.func 46) [] [])) [(.tmp 44), (.tmp 47)]⟩,
  ⟨some 49, some ((some 43), false), .lnot (.tmp 48)⟩,
  ⟨some 50, none, .pick (.tmp 43) (.cst (.bool true)) (.tmp 49)⟩,
  ⟨some 51, none, .mov (.tmp 50)⟩,
  ⟨some 52, some ((some 51), false), .mov (.tmp 5)⟩,
  ⟨some 53, some ((some 51), false), .len (.tmp 52)⟩,
  ⟨some 54, some ((some 51), false), .bin .eql (.tmp 53) (.cst (I 0))⟩,
  ⟨some 55, some ((some 51), false), .mov (.tmp 7)⟩,
  ⟨some 56, some ((some 51), false), .beq true (.tmp 54) (.tmp 55)⟩,
  ⟨some 57, none, .pick (.tmp 51) (.cst (.bool true)) (.tmp 56)⟩])
 (.cond (.tmp 57) (.seq (.ops false [
  ⟨some 4, none, .mov (.cst (.bool false))⟩])
 .ret) .skip))
 (.seq (.ops true [
  ⟨some 58, none, .mov (.tmp 1)⟩,
  ⟨some 59, none, .fad (.tmp 2) 2⟩,
  ⟨some 60, none, .load none (.tmp 59)⟩,
  ⟨some 61, none, .len (.tmp 60)⟩,
  ⟨some 62, none, .bin .shl (.cst (I 1)) (.tmp 61)⟩,
  ⟨some 63, none, .call (.cst (.fn (.func 42) [] [])) [(.tmp 58), (.tmp 62)]⟩,
  ⟨some 64, none, .fad (.tmp 2) 2⟩,
  ⟨some 65, none, .load none (.tmp 64)⟩,
  ⟨some 66, none, .len (.tmp 65)⟩,
  ⟨some 67, none, .call (.cst (.fn (.func 52) [] [])) [(.tmp 63), (.tmp 66)]⟩,
  ⟨some 9, none, .mov (.tmp 67)⟩])
 (.seq (.ops false [
  ⟨some 69, none, .load (some 3) (.tmp 2)⟩,
  ⟨some 70, none, .mov (.tmp 5)⟩,
  ⟨some 71, none, .call (.cst (.fn (.func 54) [] [])) [(.tmp 69), (.tmp 70)]⟩,
  ⟨some 72, none, .call (.cst (.fn (.func 15) [] [])) [(.tmp 71)]⟩,
  ⟨some 68, none, .mov (.tmp 72)⟩,
  ⟨some 73, none, .ext (.tmp 68) 0⟩,
  ⟨some 74, none, .ext (.tmp 68) 1⟩,
  ⟨some 10, none, .mov (.tmp 73)⟩,
  ⟨some 11, none, .mov (.tmp 74)⟩])
 (.seq (.ops false [
  ⟨some 76, none, .load (some 3) (.tmp 2)⟩,
  ⟨some 77, none, .mov (.tmp 9)⟩,
  ⟨some 78, none, .call (.cst (.fn (.func 54) [] [])) [(.tmp 76), (.tmp 77)]⟩,
  ⟨some 79, none, .call (.cst (.fn (.func 15) [] [])) [(.tmp 78)]⟩,
  ⟨some 75, none, .mov (.tmp 79)⟩,
  ⟨some 80, none, .ext (.tmp 75) 0⟩,
  ⟨some 81, none, .ext (.tmp 75) 1⟩,
  ⟨some 12, none, .mov (.tmp 80)⟩,
  ⟨some 13, none, .mov (.tmp 81)⟩])
 (.seq (.ops false [
  ⟨some 82, none, .mov (.tmp 11)⟩,
  ⟨some 83, none, .bin .eql (.tmp 82) (.cst (I 0))⟩,
  ⟨some 84, none, .mov (.tmp 83)⟩,
  ⟨some 85, some ((some 84), true), .mov (.tmp 13)⟩,
  ⟨some 86, some ((some 84), true), .bin .eql (.tmp 85) (.cst (I 0))⟩,
  ⟨some 87, none, .pick (.tmp 84) (.tmp 86) (.cst (.bool false))⟩,
  ⟨some 88, none, .mov (.tmp 87)⟩,
  ⟨some 89, some ((some 88), true), .mov (.tmp 10)⟩,
  ⟨some 90, none, .pick (.tmp 88) (.tmp 89) (.cst (.bool false))⟩,
  ⟨some 91, none, .mov (.tmp 90)⟩,
  ⟨some 92, some ((some 91), true), .mov (.tmp 9)⟩,
  ⟨some 93, some ((some 91), true), .mov (.tmp 5)⟩,
  ⟨some 94, some ((some 91), true), .call (.cst (.fn (.func 55) [] [])) [(.tmp 92), (.tmp 93)]⟩,
  ⟨some 95, some ((some 91), true), .lnot (.tmp 94)⟩,
  ⟨some 96, some ((some 91), true), .mov (.tmp 95)⟩,
  ⟨some 97, some ((some 96), false), .mov (.tmp 12)⟩,
  ⟨some 98, some ((some 96), false), .lnot (.tmp 97)⟩,
  ⟨some 99, some ((some 91), true), .pick (.tmp 96) (.cst (.bool true)) (.tmp 98)⟩,
  ⟨some 100, none, .pick (.tmp 91) (.tmp 99) (.cst (.bool false))⟩,
  ⟨some 101, none, .mov (.tmp 100)⟩,
  ⟨some 102, some ((some 101), true), .call (.cst (.fn (.func 25) [] [])) []⟩,
  ⟨some 103, none, .pick (.tmp 101) (.tmp 102) (.cst (.bool false))⟩,
  ⟨some 4, none, .mov (.tmp 103)⟩])
 .ret)))))))))⟩
theorem comp13 : compF Cv 13 = some code13 := by kernel_rfl

def code15 : MF := ⟨13, [(2, none), (3, none)], (.seq (.ops false [
  ⟨some 1, none, .box (.tmp 0)⟩,
  ⟨some 2, none, .mov (.cst (.bool false))⟩,
  ⟨some 3, none, .mov (.cst (I 0))⟩])
 (.seq (.seq (.ops false [
  ⟨some 5, none, .load (some 3) (.tmp 1)⟩,
  ⟨some 6, none, .call (.cst (.fn (.func 17) [] [])) [(.tmp 5)]⟩,
  ⟨some 4, none, .mov (.tmp 6)⟩])
 (.seq (.ops false [
  ⟨some 7, none, .mov (.tmp 4)⟩,
  ⟨some 8, none, .bin .neq (.tmp 7) (.cst (I 0))⟩])
 (.cond (.tmp 8) (.seq (.ops false [
  ⟨some 9, none, .mov (.tmp 4)⟩,
  ⟨some 2, none, .mov (.cst (.bool false))⟩,
  ⟨some 3, none, .mov (.tmp 9)⟩])
 .ret) .skip)))
 (.seq (.ops false [
  ⟨some 10, none, .load (some 3) (.tmp 1)⟩,
  ⟨some 11, none, .call (.cst (.fn (.func 60) [] [])) [(.tmp 10), (.cst .nils)]⟩,
  ⟨some 12, none, .call (.cst (.fn (.func 61) [] [])) [(.tmp 11)]⟩,
  ⟨some 2, none, .mov (.tmp 12)⟩,
  ⟨some 3, none, .mov (.cst (I 0))⟩])
 .ret)))⟩
theorem comp15 : compF Cv 15 = some code15 := by kernel_rfl

def code16 : MF := ⟨12, [(2, none), (3, none)], (.seq (.ops false [
  ⟨some 1, none, .box (.tmp 0)⟩,
  ⟨some 2, none, .mov (.cst (.bool false))⟩,
  ⟨some 3, none, .mov (.cst (I 0))⟩])
 (.seq (.seq (.ops false [
  ⟨some 5, none, .load (some 3) (.tmp 1)⟩,
  ⟨some 6, none, .call (.cst (.fn (.func 18) [] [])) [(.tmp 5)]⟩,
  ⟨some 4, none, .mov (.tmp 6)⟩])
 (.seq (.ops false [
  ⟨some 7, none, .mov (.tmp 4)⟩,
  ⟨some 8, none, .bin .neq (.tmp 7) (.cst (I 0))⟩])
 (.cond (.tmp 8) (.seq (.ops false [
  ⟨some 9, none, .mov (.tmp 4)⟩,
  ⟨some 2, none, .mov (.cst (.bool false))⟩,
  ⟨some 3, none, .mov (.tmp 9)⟩])
 .ret) .skip)))
 (.seq (.ops false [
  ⟨some 10, none, .load (some 3) (.tmp 1)⟩,
  ⟨some 11, none, .call (.cst (.fn (.func 62) [] [])) [(.tmp 10), (.cst (I 0))]⟩,
  ⟨some 2, none, .mov (.tmp 11)⟩,
  ⟨some 3, none, .mov (.cst (I 0))⟩])
 .ret)))⟩
theorem comp16 : compF Cv 16 = some code16 := by kernel_rfl

def body17_0 : MC := (.seq (.ops false [
  ⟨some 27, none, .bin .lss (.tmp 26) (.tmp 25)⟩])
 (.seq (.cond (.tmp 27) .skip (.exit 0))
 (.seq (.block 1 (.seq (.ops false [
  ⟨some 28, none, .ixs 11 (.tmp 24) (.tmp 26)⟩,
  ⟨some 29, none, .load (some 11) (.tmp 28)⟩,
  ⟨some 5, none, .alloc [(I 0), (I 0), (I 0), (I 0), (I 0), (I 0), (I 0), (I 0), (I 0), (I 0), (I 0)]⟩,
  ⟨none, none, .store 11 (.tmp 5) (.tmp 29)⟩])
 (.seq (.ops false [
  ⟨some 30, none, .mov (.tmp 3)⟩,
  ⟨some 31, none, .mov (.tmp 30)⟩,
  ⟨some 32, some ((some 31), true), .fad (.tmp 5) 0⟩,
  ⟨some 33, some ((some 31), true), .load (some 2) (.tmp 32)⟩,
  ⟨some 34, some ((some 31), true), .call (.cst (.fn (.func 64) [] [])) [(.tmp 33), (.cst (I 40)), (.cst (I 2))]⟩,
  ⟨some 35, none, .pick (.tmp 31) (.tmp 34) (.cst (.bool false))⟩,
  ⟨some 36, none, .mov (.tmp 35)⟩,
  ⟨some 37, some ((some 36), true), .fad (.tmp 5) 2⟩,
  ⟨some 38, some ((some 36), true), .load (some 2) (.tmp 37)⟩,
  ⟨some 39, some ((some 36), true), .call (.cst (.fn (.func 64) [] [])) [(.tmp 38), (.cst (I 40)), (.cst (I 2))]⟩,
  ⟨some 40, none, .pick (.tmp 36) (.tmp 39) (.cst (.bool false))⟩,
  ⟨some 3, none, .mov (.tmp 40)⟩])
 (.seq (.ops false [
  ⟨some 41, none, .mov (.tmp 3)⟩,
  ⟨some 42, none, .mov (.tmp 41)⟩,
  ⟨some 43, some ((some 42), true), .fad (.tmp 5) 4⟩,
  ⟨some 44, some ((some 42), true), .load (some 2) (.tmp 43)⟩,
  ⟨some 45, some ((some 42), true), .call (.cst (.fn (.func 64) [] [])) [(.tmp 44), (.cst (I 2)), (.cst (I 1))]⟩,
  ⟨some 46, none, .pick (.tmp 42) (.tmp 45) (.cst (.bool false))⟩,
  ⟨some 47, none, .mov (.tmp 46)⟩,
  ⟨some 48, some ((some 47), true), .fad (.tmp 5) 8⟩,
  ⟨some 49, some ((some 47), true), .load none (.tmp 48)⟩,
  ⟨some 50, some ((some 47), true), .call (.cst (.fn (.func 63) [] [])) [(.tmp 49), (.cst (I 0)), (.cst (I 2))]⟩,
  ⟨some 51, none, .pick (.tmp 47) (.tmp 50) (.cst (.bool false))⟩,
  ⟨some 3, none, .mov (.tmp 51)⟩])
 (.ops false [
  ⟨some 52, none, .mov (.tmp 3)⟩,
  ⟨some 53, none, .mov (.tmp 52)⟩,
  ⟨some 54, some ((some 53), true), .fad (.tmp 5) 6⟩,
  ⟨some 55, some ((some 53), true), .load (some 2) (.tmp 54)⟩,
  ⟨some 56, some ((some 53), true), .call (.cst (.fn (.func 64) [] [])) [(.tmp 55), (.cst (I 6)), (.cst (I 2))]⟩,
  ⟨some 57, none, .pick (.tmp 53) (.tmp 56) (.cst (.bool false))⟩,
  ⟨some 58, none, .mov (.tmp 57)⟩,
  ⟨some 59, some ((some 58), true), .fad (.tmp 5) 9⟩,
  ⟨some 60, some ((some 58), true), .load (some 2) (.tmp 59)⟩,
  ⟨some 61, some ((some 58), true), .call (.cst (.fn (.func 64) [] [])) [(.tmp 60), (.cst (I 9)), (.cst (I 3))]⟩,
  ⟨some 62, none, .pick (.tmp 58) (.tmp 61) (.cst (.bool false))⟩,
  ⟨some 3, none, .mov (.tmp 62)⟩])))))
 (.ops false [
  ⟨some 63, none, .bin .add (.tmp 26) (.cst (I 1))⟩,
  ⟨some 26, none, .mov (.tmp 63)⟩]))))
def keep17_0 : Option (List Nat) := some [1, 3, 24, 25, 26]
def body17_1 : MC := (.seq (.ops false [
  ⟨some 68, none, .bin .lss (.tmp 67) (.tmp 66)⟩])
 (.seq (.cond (.tmp 68) .skip (.exit 2))
 (.seq (.block 3 (.seq (.ops false [
  ⟨some 69, none, .ixs 4 (.tmp 65) (.tmp 67)⟩,
  ⟨some 70, none, .load (some 4) (.tmp 69)⟩,
  ⟨some 7, none, .alloc [(I 0), (I 0), (I 0), (I 0)]⟩,
  ⟨none, none, .store 4 (.tmp 7) (.tmp 70)⟩])
 (.ops false [
  ⟨some 71, none, .mov (.tmp 3)⟩,
  ⟨some 72, none, .mov (.tmp 71)⟩,
  ⟨some 73, some ((some 72), true), .load (some 3) (.tmp 1)⟩,
  ⟨some 74, some ((some 72), true), .load (some 4) (.tmp 7)⟩,
  ⟨some 75, some ((some 72), true), .call (.cst (.fn (.func 65) [] [])) [(.tmp 73), (.tmp 74)]⟩,
  ⟨some 76, none, .pick (.tmp 72) (.tmp 75) (.cst (.bool false))⟩,
  ⟨some 3, none, .mov (.tmp 76)⟩])))
 (.ops false [
  ⟨some 77, none, .bin .add (.tmp 67) (.cst (I 1))⟩,
  ⟨some 67, none, .mov (.tmp 77)⟩]))))
def keep17_1 : Option (List Nat) := some [1, 3, 65, 66, 67]
def code17 : MF := ⟨80, [(2, none)], (.seq (.ops false [
  ⟨some 1, none, .box (.tmp 0)⟩,
  ⟨some 2, none, .mov (.cst (I 0))⟩])
 (.seq (.ops false [
  ⟨some 8, none, .fad (.tmp 1) 0⟩,
  ⟨some 9, none, .load none (.tmp 8)⟩,
  ⟨some 10, none, .len (.tmp 9)⟩,
  ⟨some 11, none, .call (.cst (.fn (.func 63) [] [])) [(.tmp 10), (.cst (I 1)), (.cst (I 4))]⟩,
  ⟨some 12, none, .mov (.tmp 11)⟩,
  ⟨some 13, some ((some 12), true), .fad (.tmp 1) 1⟩,
  ⟨some 14, some ((some 12), true), .load none (.tmp 13)⟩,
  ⟨some 15, some ((some 12), true), .call (.cst (.fn (.func 63) [] [])) [(.tmp 14), (.cst (I 1)), (.cst (I 6))]⟩,
  ⟨some 16, none, .pick (.tmp 12) (.tmp 15) (.cst (.bool false))⟩,
  ⟨some 17, none, .mov (.tmp 16)⟩,
  ⟨some 18, some ((some 17), true), .fad (.tmp 1) 2⟩,
  ⟨some 19, some ((some 17), true), .load none (.tmp 18)⟩,
  ⟨some 20, some ((some 17), true), .len (.tmp 19)⟩,
  ⟨some 21, some ((some 17), true), .bin .leq (.tmp 20) (.cst (I 6))⟩,
  ⟨some 22, none, .pick (.tmp 17) (.tmp 21) (.cst (.bool false))⟩,
  ⟨some 3, none, .mov (.tmp 22)⟩])
 (.seq (.seq (.ops false [
  ⟨some 23, none, .fad (.tmp 1) 0⟩,
  ⟨some 24, none, .load none (.tmp 23)⟩,
  ⟨some 25, none, .len (.tmp 24)⟩,
  ⟨some 26, none, .mov (.cst (I 0))⟩])
 (.block 0 (.loop keep17_0 body17_0)))
 (.seq (.seq (.ops false [
  ⟨some 64, none, .fad (.tmp 1) 2⟩,
  ⟨some 65, none, .load none (.tmp 64)⟩,
  ⟨some 66, none, .len (.tmp 65)⟩,
  ⟨some 67, none, .mov (.cst (I 0))⟩])
 (.block 2 (.loop keep17_1 body17_1)))
 (.seq (.seq (.ops false [
  ⟨some 78, none, .mov (.tmp 3)⟩,
  ⟨some 79, none, .lnot (.tmp 78)⟩])
 (.cond (.tmp 79) (.seq (.ops false [
  ⟨some 2, none, .mov (.cst (I 20))⟩])
 .ret) .skip))
 (.seq (.ops false [
  ⟨some 2, none, .mov (.cst (I 0))⟩])
 .ret))))))⟩
theorem comp17 : compF Cv 17 = some code17 := by kernel_rfl

def body18_0 : MC := (.seq (.seq (.ops false [
  ⟨some 22, none, .mov (.tmp 3)⟩,
  ⟨some 23, none, .mov (.tmp 22)⟩,
  ⟨some 24, some ((some 23), true), .mov (.tmp 4)⟩,
  ⟨some 25, some ((some 23), true), .fad (.tmp 1) 0⟩,
  ⟨some 26, some ((some 23), true), .load none (.tmp 25)⟩,
  ⟨some 27, some ((some 23), true), .len (.tmp 26)⟩,
  ⟨some 28, some ((some 23), true), .bin .lss (.tmp 24) (.tmp 27)⟩,
  ⟨some 29, none, .pick (.tmp 23) (.tmp 28) (.cst (.bool false))⟩])
 (.cond (.tmp 29) .skip (.exit 0)))
 (.seq (.block 1 (.seq (.ops false [
  ⟨some 32, none, .fad (.tmp 1) 0⟩,
  ⟨some 33, none, .load none (.tmp 32)⟩,
  ⟨some 34, none, .mov (.tmp 4)⟩,
  ⟨some 35, none, .ixs 11 (.tmp 33) (.tmp 34)⟩,
  ⟨some 36, none, .load (some 11) (.tmp 35)⟩,
  ⟨some 5, none, .alloc [(I 0), (I 0), (I 0), (I 0), (I 0), (I 0), (I 0), (I 0), (I 0), (I 0), (I 0)]⟩,
  ⟨none, none, .store 11 (.tmp 5) (.tmp 36)⟩])
 (.ops false [
  ⟨some 37, none, .fad (.tmp 5) 0⟩,
  ⟨some 38, none, .load (some 2) (.tmp 37)⟩,
  ⟨some 39, none, .call (.cst (.fn (.func 66) [] [])) [(.tmp 38), (.cst (I 0)), (.cst (I 40)), (.cst (I 2))]⟩,
  ⟨some 40, none, .mov (.tmp 39)⟩,
  ⟨some 41, some ((some 40), true), .fad (.tmp 5) 2⟩,
  ⟨some 42, some ((some 40), true), .load (some 2) (.tmp 41)⟩,
  ⟨some 43, some ((some 40), true), .call (.cst (.fn (.func 66) [] [])) [(.tmp 42), (.cst (I 0)), (.cst (I 40)), (.cst (I 2))]⟩,
  ⟨some 44, none, .pick (.tmp 40) (.tmp 43) (.cst (.bool false))⟩,
  ⟨some 45, none, .mov (.tmp 44)⟩,
  ⟨some 46, some ((some 45), true), .fad (.tmp 5) 4⟩,
  ⟨some 47, some ((some 45), true), .load (some 2) (.tmp 46)⟩,
  ⟨some 48, some ((some 45), true), .call (.cst (.fn (.func 66) [] [])) [(.tmp 47), (.cst (I 0)), (.cst (I 2)), (.cst (I 1))]⟩,
  ⟨some 49, none, .pick (.tmp 45) (.tmp 48) (.cst (.bool false))⟩,
  ⟨some 50, none, .mov (.tmp 49)⟩,
  ⟨some 51, some ((some 50), true), .fad (.tmp 5) 6⟩,
  ⟨some 52, some ((some 50), true), .load (some 2) (.tmp 51)⟩,
  ⟨some 53, some ((some 50), true), .call (.cst (.fn (.func 66) [] [])) [(.tmp 52), (.cst (I 0)), (.cst (I 6)), (.cst (I 2))]⟩,
  ⟨some 54, none, .pick (.tmp 50) (.tmp 53) (.cst (.bool false))⟩,
  ⟨some 55, none, .mov (.tmp 54)⟩,
  ⟨some 56, some ((some 55), true), .fad (.tmp 5) 8⟩,
  ⟨some 57, some ((some 55), true), .load none (.tmp 56)⟩,
  ⟨some 58, some ((some 55), true), .call (.cst (.fn (.func 44) [] [])) [(.tmp 57), (.cst (I 0)), (.cst (I 2))]⟩,
  ⟨some 59, none, .pick (.tmp 55) (.tmp 58) (.cst (.bool false))⟩,
  ⟨some 60, none, .mov (.tmp 59)⟩,
  ⟨some 61, some ((some 60), true), .fad (.tmp 5) 9⟩,
  ⟨some 62, some ((some 60), true), .load (some 2) (.tmp 61)⟩,
  ⟨some 63, some ((some 60), true), .call (.cst (.fn (.func 66) [] [])) [(.tmp 62), (.cst (I 0)), (.cst (I 9)), (.cst (I 3))]⟩,
  ⟨some 64, none, .pick (.tmp 60) (.tmp 63) (.cst (.bool false))⟩,
  ⟨some 3, none, .mov (.tmp 64)⟩])))
 (.ops false [
  ⟨some 30, none, .mov (.tmp 4)⟩,
  ⟨some 31, none, .bin .add (.tmp 30) (.cst (I 1))⟩,
  ⟨some 4, none, .mov (.tmp 31)⟩])))
def keep18_0 : Option (List Nat) := some [1, 3, 4]
def body18_1 : MC := (.seq (.seq (.ops false [
  ⟨some 65, none, .mov (.tmp 3)⟩,
  ⟨some 66, none, .mov (.tmp 65)⟩,
  ⟨some 67, some ((some 66), true), .mov (.tmp 6)⟩,
  ⟨some 68, some ((some 66), true), .fad (.tmp 1) 2⟩,
  ⟨some 69, some ((some 66), true), .load none (.tmp 68)⟩,
  ⟨some 70, some ((some 66), true), .len (.tmp 69)⟩,
  ⟨some 71, some ((some 66), true), .bin .lss (.tmp 67) (.tmp 70)⟩,
  ⟨some 72, none, .pick (.tmp 66) (.tmp 71) (.cst (.bool false))⟩])
 (.cond (.tmp 72) .skip (.exit 2)))
 (.seq (.block 3 (.ops false [
  ⟨some 75, none, .load (some 3) (.tmp 1)⟩,
  ⟨some 76, none, .fad (.tmp 1) 2⟩,
  ⟨some 77, none, .load none (.tmp 76)⟩,
  ⟨some 78, none, .mov (.tmp 6)⟩,
  ⟨some 79, none, .ixs 4 (.tmp 77) (.tmp 78)⟩,
  ⟨some 80, none, .load (some 4) (.tmp 79)⟩,
  ⟨some 81, none, .call (.cst (.fn (.func 67) [] [])) [(.tmp 75), (.tmp 80)]⟩,
  ⟨some 3, none, .mov (.tmp 81)⟩]))
 (.ops false [
  ⟨some 73, none, .mov (.tmp 6)⟩,
  ⟨some 74, none, .bin .add (.tmp 73) (.cst (I 1))⟩,
  ⟨some 6, none, .mov (.tmp 74)⟩])))
def keep18_1 : Option (List Nat) := some [1, 3, 6]
def code18 : MF := ⟨84, [(2, none)], (.seq (.ops false [
  ⟨some 1, none, .box (.tmp 0)⟩,
  ⟨some 2, none, .mov (.cst (I 0))⟩])
 (.seq (.ops false [
  ⟨some 7, none, .fad (.tmp 1) 0⟩,
  ⟨some 8, none, .load none (.tmp 7)⟩,
  ⟨some 9, none, .len (.tmp 8)⟩,
  ⟨some 10, none, .call (.cst (.fn (.func 44) [] [])) [(.tmp 9), (.cst (I 1)), (.cst (I 4))]⟩,
  ⟨some 11, none, .mov (.tmp 10)⟩,
  ⟨some 12, some ((some 11), true), .fad (.tmp 1) 1⟩,
  ⟨some 13, some ((some 11), true), .load none (.tmp 12)⟩,
  ⟨some 14, some ((some 11), true), .call (.cst (.fn (.func 44) [] [])) [(.tmp 13), (.cst (I 1)), (.cst (I 6))]⟩,
  ⟨some 15, none, .pick (.tmp 11) (.tmp 14) (.cst (.bool false))⟩,
  ⟨some 16, none, .mov (.tmp 15)⟩,
  ⟨some 17, some ((some 16), true), .fad (.tmp 1) 2⟩,
  ⟨some 18, some ((some 16), true), .load none (.tmp 17)⟩,
  ⟨some 19, some ((some 16), true), .len (.tmp 18)⟩,
  ⟨some 20, some ((some 16), true), .bin .leq (.tmp 19) (.cst (I 6))⟩,
  ⟨some 21, none, .pick (.tmp 16) (.tmp 20) (.cst (.bool false))⟩,
  ⟨some 3, none, .mov (.tmp 21)⟩])
 (.seq (.seq (.ops false [
  ⟨some 4, none, .mov (.cst (I 0))⟩])
 (.block 0 (.loop keep18_0 body18_0)))
 (.seq (.seq (.ops false [
  ⟨some 6, none, .mov (.cst (I 0))⟩])
 (.block 2 (.loop keep18_1 body18_1)))
 (.seq (.seq (.ops false [
  ⟨some 82, none, .mov (.tmp 3)⟩,
  ⟨some 83, none, .lnot (.tmp 82)⟩])
 (.cond (.tmp 83) (.seq (.ops false [
  ⟨some 2, none, .mov (.cst (I 20))⟩])
 .ret) .skip))
 (.seq (.ops false [
  ⟨some 2, none, .mov (.cst (I 0))⟩])
 .ret))))))⟩
theorem comp18 : compF Cv 18 = some code18 := by kernel_rfl

def code19 : MF := ⟨11, [(4, some (some 2)), (5, none)], (.seq (.ops false [
  ⟨some 2, none, .box (.tmp 0)⟩,
  ⟨some 4, none, .alloc [(I 0), (I 0)]⟩,
  ⟨some 5, none, .mov (.cst (I 0))⟩])
 (.seq (.ops false [
  ⟨some 6, none, .load (some 3) (.tmp 2)⟩,
  ⟨some 7, none, .mov (.tmp 1)⟩,
  ⟨some 8, none, .call (.cst (.fn (.func 68) [] [])) [(.tmp 6), (.tmp 7), (.cst (I 0))]⟩,
  ⟨some 9, none, .ext (.tmp 8) 0⟩,
  ⟨some 10, none, .ext (.tmp 8) 1⟩,
  ⟨none, none, .store 2 (.tmp 4) (.tmp 9)⟩,
  ⟨some 5, none, .mov (.tmp 10)⟩])
 .ret))⟩
theorem comp19 : compF Cv 19 = some code19 := by kernel_rfl

def body20_0 : MC := (.seq (.seq (.ops false [
  ⟨some 22, none, .mov (.tmp 9)⟩,
  ⟨some 23, none, .mov (.tmp 8)⟩,
  ⟨some 24, none, .len (.tmp 23)⟩,
  ⟨some 25, none, .bin .lss (.tmp 22) (.tmp 24)⟩])
 (.cond (.tmp 25) .skip (.exit 0)))
 (.seq (.block 1 (.ops false [
  ⟨some 28, none, .mov (.tmp 7)⟩,
  ⟨some 29, none, .mov (.tmp 8)⟩,
  ⟨some 30, none, .mov (.tmp 9)⟩,
  ⟨some 31, none, .ixs 6 (.tmp 29) (.tmp 30)⟩,
  ⟨some 32, none, .fad (.tmp 31) 0⟩,
  ⟨some 33, none, .load none (.tmp 32)⟩,
  ⟨some 34, none, .bsl 1 false (I 0) 1 [(0, (.tmp 33))]⟩,
  ⟨some 35, none, .app false 1 8 false (.tmp 28) (.tmp 34)⟩,
  ⟨some 7, none, .mov (.tmp 35)⟩]))
 (.ops false [
  ⟨some 26, none, .mov (.tmp 9)⟩,
  ⟨some 27, none, .bin .add (.tmp 26) (.cst (I 1))⟩,
  ⟨some 9, none, .mov (.tmp 27)⟩])))
def keep20_0 : Option (List Nat) := some [4, 7, 8, 9]
def code20 : MF := ⟨38, [(4, some (some 2)), (5, none)], (.seq (.ops false [
  ⟨some 2, none, .box (.tmp 0)⟩,
  ⟨some 4, none, .alloc [(I 0), (I 0)]⟩,
  ⟨some 5, none, .mov (.cst (I 0))⟩])
 (.seq (.seq (.ops true [
  ⟨some 10, none, .load (some 3) (.tmp 2)⟩,
  ⟨some 11, none, .load (some 3) (.tmp 2)⟩,
  ⟨some 12, none, .mov (.tmp 1)⟩,
  ⟨some 13, none, .call (.cst (.fn (.func 70) [] [])) [(.tmp 11), (.tmp 12)]⟩,
  ⟨some 14, none, .call (.cst (.fn (.func 69) [] [])) [(.tmp 10), (.tmp 13)]⟩,
  ⟨some 6, none, .mov (.tmp 14)⟩])
 (.seq (.ops false [
  ⟨some 15, none, .mov (.tmp 6)⟩,
  ⟨some 16, none, .bin .neq (.tmp 15) (.cst (I 0))⟩])
 (.cond (.tmp 16) (.seq (.ops false [
  ⟨some 17, none, .bld [(I 0), (I 0)] []⟩,
  ⟨some 18, none, .mov (.tmp 6)⟩,
  ⟨none, none, .store 2 (.tmp 4) (.tmp 17)⟩,
  ⟨some 5, none, .mov (.tmp 18)⟩])
 .ret) .skip)))
 (.seq (.ops false [
  ⟨some 7, none, .mov (.cst .nils)⟩])
 (.seq (.ops false [
  ⟨some 19, none, .load (some 3) (.tmp 2)⟩,
  ⟨some 20, none, .mov (.tmp 1)⟩,
  ⟨some 21, none, .call (.cst (.fn (.func 71) [] [])) [(.tmp 19), (.tmp 20), (.cst (I 0))]⟩,
  ⟨some 8, none, .mov (.tmp 21)⟩])
 (.seq (.seq (.ops false [
  ⟨some 9, none, .mov (.cst (I 0))⟩])
 (.block 0 (.loop keep20_0 body20_0)))
 (.seq (.ops false [
  ⟨some 36, none, .mov (.tmp 7)⟩,
  ⟨some 37, none, .call (.cst (.fn (.func 72) [] [])) [(.tmp 36)]⟩,
  ⟨none, none, .store 2 (.tmp 4) (.tmp 37)⟩,
  ⟨some 5, none, .mov (.cst (I 0))⟩])
 .ret))))))⟩
theorem comp20 : compF Cv 20 = some code20 := by kernel_rfl

def code21 : MF := ⟨11, [(4, some (some 2)), (5, none)], (.seq (.ops false [
  ⟨some 2, none, .box (.tmp 0)⟩,
  ⟨some 4, none, .alloc [(I 0), (I 0)]⟩,
  ⟨some 5, none, .mov (.cst (I 0))⟩])
 (.seq (.ops false [
  ⟨some 6, none, .load (some 3) (.tmp 2)⟩,
  ⟨some 7, none, .mov (.tmp 1)⟩,
  ⟨some 8, none, .call (.cst (.fn (.func 68) [] [])) [(.tmp 6), (.tmp 7), (.cst (I 4))]⟩,
  ⟨some 9, none, .ext (.tmp 8) 0⟩,
  ⟨some 10, none, .ext (.tmp 8) 1⟩,
  ⟨none, none, .store 2 (.tmp 4) (.tmp 9)⟩,
  ⟨some 5, none, .mov (.tmp 10)⟩])
 .ret))⟩
theorem comp21 : compF Cv 21 = some code21 := by kernel_rfl

def body22_0 : MC := (.seq (.seq (.ops false [
  ⟨some 22, none, .mov (.tmp 9)⟩,
  ⟨some 23, none, .mov (.tmp 8)⟩,
  ⟨some 24, none, .len (.tmp 23)⟩,
  ⟨some 25, none, .bin .lss (.tmp 22) (.tmp 24)⟩])
 (.cond (.tmp 25) .skip (.exit 0)))
 (.seq (.block 1 (.ops false [
  ⟨some 28, none, .mov (.tmp 7)⟩,
  ⟨some 29, none, .mov (.tmp 8)⟩,
  ⟨some 30, none, .mov (.tmp 9)⟩,
  ⟨some 31, none, .ixs 6 (.tmp 29) (.tmp 30)⟩,
  ⟨some 32, none, .fad (.tmp 31) 5⟩,
  ⟨some 33, none, .load none (.tmp 32)⟩,
  ⟨some 34, none, .bsl 1 false (I 0) 1 [(0, (.tmp 33))]⟩,
  ⟨some 35, none, .app false 1 8 false (.tmp 28) (.tmp 34)⟩,
  ⟨some 7, none, .mov (.tmp 35)⟩]))
 (.ops false [
  ⟨some 26, none, .mov (.tmp 9)⟩,
  ⟨some 27, none, .bin .add (.tmp 26) (.cst (I 1))⟩,
  ⟨some 9, none, .mov (.tmp 27)⟩])))
def keep22_0 : Option (List Nat) := some [4, 7, 8, 9]
def code22 : MF := ⟨38, [(4, some (some 2)), (5, none)], (.seq (.ops false [
  ⟨some 2, none, .box (.tmp 0)⟩,
  ⟨some 4, none, .alloc [(I 0), (I 0)]⟩,
  ⟨some 5, none, .mov (.cst (I 0))⟩])
 (.seq (.seq (.ops true [
  ⟨some 10, none, .load (some 3) (.tmp 2)⟩,
  ⟨some 11, none, .load (some 3) (.tmp 2)⟩,
  ⟨some 12, none, .mov (.tmp 1)⟩,
  ⟨some 13, none, .call (.cst (.fn (.func 70) [] [])) [(.tmp 11), (.tmp 12)]⟩,
  ⟨some 14, none, .call (.cst (.fn (.func 69) [] [])) [(.tmp 10), (.tmp 13)]⟩,
  ⟨some 6, none, .mov (.tmp 14)⟩])
 (.seq (.ops false [
  ⟨some 15, none, .mov (.tmp 6)⟩,
  ⟨some 16, none, .bin .neq (.tmp 15) (.cst (I 0))⟩])
 (.cond (.tmp 16) (.seq (.ops false [
  ⟨some 17, none, .bld [(I 0), (I 0)] []⟩,
  ⟨some 18, none, .mov (.tmp 6)⟩,
  ⟨none, none, .store 2 (.tmp 4) (.tmp 17)⟩,
  ⟨some 5, none, .mov (.tmp 18)⟩])
 .ret) .skip)))
 (.seq (.ops false [
  ⟨some 7, none, .mov (.cst .nils)⟩])
 (.seq (.ops false [
  ⟨some 19, none, .load (some 3) (.tmp 2)⟩,
  ⟨some 20, none, .mov (.tmp 1)⟩,
  ⟨some 21, none, .call (.cst (.fn (.func 71) [] [])) [(.tmp 19), (.tmp 20), (.cst (I 0))]⟩,
  ⟨some 8, none, .mov (.tmp 21)⟩])
 (.seq (.seq (.ops false [
  ⟨some 9, none, .mov (.cst (I 0))⟩])
 (.block 0 (.loop keep22_0 body22_0)))
 (.seq (.ops false [
  ⟨some 36, none, .mov (.tmp 7)⟩,
  ⟨some 37, none, .call (.cst (.fn (.func 72) [] [])) [(.tmp 36)]⟩,
  ⟨none, none, .store 2 (.tmp 4) (.tmp 37)⟩,
  ⟨some 5, none, .mov (.cst (I 0))⟩])
 .ret))))))⟩
theorem comp22 : compF Cv 22 = some code22 := by kernel_rfl

def code23 : MF := ⟨42, [(6, some (some 2)), (7, none)], (.seq (.ops false [
  ⟨some 3, none, .box (.tmp 0)⟩,
  ⟨some 4, none, .box (.tmp 1)⟩,
  ⟨some 5, none, .box (.tmp 2)⟩,
  ⟨some 6, none, .alloc [(I 0), (I 0)]⟩,
  ⟨some 7, none, .mov (.cst (I 0))⟩])
 (.seq (.ops true [
  ⟨some 12, none, .load (some 3) (.tmp 3)⟩,
  ⟨some 13, none, .load (some 3) (.tmp 3)⟩,
  ⟨some 14, none, .load none (.tmp 4)⟩,
  ⟨some 15, none, .call (.cst (.fn (.func 74) [] [])) [(.tmp 13), (.tmp 14)]⟩,
  ⟨some 16, none, .mov (.tmp 15)⟩,
  ⟨some 17, some ((some 16), true), .load (some 3) (.tmp 3)⟩,
  ⟨some 18, some ((some 16), true), .load none (.tmp 5)⟩,
  ⟨some 19, some ((some 16), true), .call (.cst (.fn (.func 75) [] [])) [(.tmp 17), (.tmp 18)]⟩,
  ⟨some 20, none, .pick (.tmp 16) (.tmp 19) (.cst (.bool false))⟩,
  ⟨some 21, none, .call (.cst (.fn (.func 73) [] [])) [(.tmp 12), (.tmp 20)]⟩,
  ⟨some 11, none, .mov (.tmp 21)⟩,
  ⟨some 22, none, .ext (.tmp 11) 0⟩,
  ⟨some 23, none, .ext (.tmp 11) 1⟩,
  ⟨some 8, none, .alloc [.nils, (I 0), .nils, .nils, .nilm]⟩,
  ⟨none, none, .store 5 (.tmp 8) (.tmp 22)⟩,
  ⟨some 9, none, .mov (.tmp 23)⟩])
 (.seq (.seq (.ops false [
  ⟨some 24, none, .mov (.tmp 9)⟩,
  ⟨some 25, none, .bin .neq (.tmp 24) (.cst (I 0))⟩])
 (.cond (.tmp 25) (.seq (.ops false [
  ⟨some 26, none, .bld [(I 0), (I 0)] []⟩,
  ⟨some 27, none, .mov (.tmp 9)⟩,
  ⟨none, none, .store 2 (.tmp 6) (.tmp 26)⟩,
  ⟨some 7, none, .mov (.tmp 27)⟩])
 .ret) .skip))
 (.seq (.ops false [
  ⟨some 28, none, .fad (.tmp 8) 4⟩,
  ⟨some 29, none, .load none (.tmp 28)⟩,
  ⟨some 30, none, .load none (.tmp 4)⟩,
  ⟨some 31, none, .load none (.tmp 5)⟩,
  ⟨some 32, none, .bld [(I 0), (I 0)] [(0, 1, (.tmp 30)), (1, 1, (.tmp 31))]⟩,
  ⟨some 33, none, .lkp (some 2) .nils (.tmp 29) (.tmp 32) false⟩,
  ⟨some 10, none, .mov (.tmp 33)⟩])
 (.seq (.seq (.ops false [
  ⟨some 34, none, .mov (.tmp 10)⟩,
  ⟨some 35, none, .len (.tmp 34)⟩,
  ⟨some 36, none, .bin .eql (.tmp 35) (.cst (I 0))⟩])
 (.cond (.tmp 36) (.seq (.ops false [
  ⟨some 37, none, .bld [(I 0), (I 0)] []⟩,
  ⟨none, none, .store 2 (.tmp 6) (.tmp 37)⟩,
  ⟨some 7, none, .mov (.cst (I 4))⟩])
 .ret) .skip))
 (.seq (.ops false [
  ⟨some 38, none, .mkf (.func 76) [] [(.tmp 8), (.tmp 4), (.tmp 5)]⟩,
  ⟨some 39, none, .bld [.nilf] [(0, 1, (.tmp 38))]⟩,
  ⟨some 40, none, .mov (.tmp 10)⟩,
  ⟨some 41, none, .call (.cst (.fn (.func 78) [] [])) [(.tmp 39), (.tmp 40)]⟩,
  ⟨none, none, .store 2 (.tmp 6) (.tmp 41)⟩,
  ⟨some 7, none, .mov (.cst (I 0))⟩])
 .ret))))))⟩
theorem comp23 : compF Cv 23 = some code23 := by kernel_rfl

def body24_0 : MC := (.seq (.seq (.ops false [
  ⟨some 29, none, .mov (.tmp 11)⟩,
  ⟨some 30, none, .mov (.tmp 10)⟩,
  ⟨some 31, none, .len (.tmp 30)⟩,
  ⟨some 32, none, .bin .lss (.tmp 29) (.tmp 31)⟩])
 (.cond (.tmp 32) .skip (.exit 0)))
 (.seq (.block 1 (.seq (.ops false [
  ⟨some 35, none, .mov (.tmp 2)⟩,
  ⟨some 36, none, .mov (.tmp 10)⟩,
  ⟨some 37, none, .mov (.tmp 11)⟩,
  ⟨some 38, none, .ixs 6 (.tmp 36) (.tmp 37)⟩,
  ⟨some 39, none, .fad (.tmp 38) 5⟩,
  ⟨some 40, none, .load none (.tmp 39)⟩,
  ⟨some 41, none, .bin .lss (.tmp 35) (.tmp 40)⟩])
 (.cond (.tmp 41) (.ops false [
  ⟨some 42, none, .mov (.tmp 9)⟩,
  ⟨some 43, none, .mov (.tmp 10)⟩,
  ⟨some 44, none, .mov (.tmp 11)⟩,
  ⟨some 45, none, .ixs 6 (.tmp 43) (.tmp 44)⟩,
  ⟨some 46, none, .load (some 6) (.tmp 45)⟩,
  ⟨some 47, none, .mov (.tmp 2)⟩,
  ⟨some 48, none, .call (.cst (.fn (.func 80) [] [])) [(.tmp 46), (.tmp 47)]⟩,
  ⟨some 49, none, .bsl 1 false (I 0) 1 [(0, (.tmp 48))]⟩,
  ⟨some 50, none, .app false 1 8 false (.tmp 42) (.tmp 49)⟩,
  ⟨some 9, none, .mov (.tmp 50)⟩]) .skip)))
 (.ops false [
  ⟨some 33, none, .mov (.tmp 11)⟩,
  ⟨some 34, none, .bin .add (.tmp 33) (.cst (I 1))⟩,
  ⟨some 11, none, .mov (.tmp 34)⟩])))
def keep24_0 : Option (List Nat) := some [2, 6, 9, 10, 11]
def code24 : MF := ⟨57, [(6, some (some 2)), (7, none)], (.seq (.ops false [
  ⟨some 3, none, .box (.tmp 0)⟩,
  ⟨some 6, none, .alloc [(I 0), (I 0)]⟩,
  ⟨some 7, none, .mov (.cst (I 0))⟩])
 (.seq (.seq (.ops true [
  ⟨some 12, none, .load (some 3) (.tmp 3)⟩,
  ⟨some 13, none, .load (some 3) (.tmp 3)⟩,
  ⟨some 14, none, .mov (.tmp 1)⟩,
  ⟨some 15, none, .call (.cst (.fn (.func 70) [] [])) [(.tmp 13), (.tmp 14)]⟩,
  ⟨some 16, none, .mov (.tmp 15)⟩,
  ⟨some 17, some ((some 16), true), .load (some 3) (.tmp 3)⟩,
  ⟨some 18, some ((some 16), true), .mov (.tmp 2)⟩,
  ⟨some 19, some ((some 16), true), .call (.cst (.fn (.func 79) [] [])) [(.tmp 17), (.tmp 18)]⟩,
  ⟨some 20, none, .pick (.tmp 16) (.tmp 19) (.cst (.bool false))⟩,
  ⟨some 21, none, .call (.cst (.fn (.func 69) [] [])) [(.tmp 12), (.tmp 20)]⟩,
  ⟨some 8, none, .mov (.tmp 21)⟩])
 (.seq (.ops false [
  ⟨some 22, none, .mov (.tmp 8)⟩,
  ⟨some 23, none, .bin .neq (.tmp 22) (.cst (I 0))⟩])
 (.cond (.tmp 23) (.seq (.ops false [
  ⟨some 24, none, .bld [(I 0), (I 0)] []⟩,
  ⟨some 25, none, .mov (.tmp 8)⟩,
  ⟨none, none, .store 2 (.tmp 6) (.tmp 24)⟩,
  ⟨some 7, none, .mov (.tmp 25)⟩])
 .ret) .skip)))
 (.seq (.ops false [
  ⟨some 9, none, .mov (.cst .nils)⟩])
 (.seq (.ops false [
  ⟨some 26, none, .load (some 3) (.tmp 3)⟩,
  ⟨some 27, none, .mov (.tmp 1)⟩,
  ⟨some 28, none, .call (.cst (.fn (.func 71) [] [])) [(.tmp 26), (.tmp 27), (.cst (I 0))]⟩,
  ⟨some 10, none, .mov (.tmp 28)⟩])
 (.seq (.seq (.ops false [
  ⟨some 11, none, .mov (.cst (I 0))⟩])
 (.block 0 (.loop keep24_0 body24_0)))
 (.seq (.seq (.ops false [
  ⟨some 51, none, .mov (.tmp 9)⟩,
  ⟨some 52, none, .len (.tmp 51)⟩,
  ⟨some 53, none, .bin .eql (.tmp 52) (.cst (I 0))⟩])
 (.cond (.tmp 53) (.seq (.ops false [
  ⟨some 54, none, .bld [(I 0), (I 0)] []⟩,
  ⟨none, none, .store 2 (.tmp 6) (.tmp 54)⟩,
  ⟨some 7, none, .mov (.cst (I 4))⟩])
 .ret) .skip))
 (.seq (.ops false [
  ⟨some 55, none, .mov (.tmp 9)⟩,
  ⟨some 56, none, .call (.cst (.fn (.func 72) [] [])) [(.tmp 55)]⟩,
  ⟨none, none, .store 2 (.tmp 6) (.tmp 56)⟩,
  ⟨some 7, none, .mov (.cst (I 0))⟩])
 .ret)))))))⟩
theorem comp24 : compF Cv 24 = some code24 := by kernel_rfl

def code25 : MF := ⟨149, [(0, none)], (.seq (.ops false [
  ⟨some 0, none, .mov (.cst (.bool false))⟩])
 (.seq (.ops false [
  ⟨some 17, none, .call (.cst (.fn (.func 56) [] [])) []⟩,
  ⟨some 18, none, .call (.cst (.fn (.func 19) [] [])) [(.tmp 17), (.cst (I 0))]⟩,
  ⟨some 16, none, .mov (.tmp 18)⟩,
  ⟨some 19, none, .ext (.tmp 16) 0⟩,
  ⟨some 20, none, .ext (.tmp 16) 1⟩,
  ⟨some 1, none, .alloc [(I 0), (I 0)]⟩,
  ⟨none, none, .store 2 (.tmp 1) (.tmp 19)⟩,
  ⟨some 2, none, .mov (.tmp 20)⟩])
 (.seq (.ops false [
  ⟨some 22, none, .call (.cst (.fn (.func 56) [] [])) []⟩,
  ⟨some 23, none, .call (.cst (.fn (.func 23) [] [])) [(.tmp 22), (.cst (I 0)), (.cst (I 3))]⟩,
  ⟨some 21, none, .mov (.tmp 23)⟩,
  ⟨some 24, none, .ext (.tmp 21) 0⟩,
  ⟨some 25, none, .ext (.tmp 21) 1⟩,
  ⟨some 3, none, .alloc [(I 0), (I 0)]⟩,
  ⟨none, none, .store 2 (.tmp 3) (.tmp 24)⟩,
  ⟨some 4, none, .mov (.tmp 25)⟩])
 (.seq (.ops false [
  ⟨some 27, none, .call (.cst (.fn (.func 59) [] [])) []⟩,
  ⟨some 28, none, .call (.cst (.fn (.func 21) [] [])) [(.tmp 27), (.cst (I 0))]⟩,
  ⟨some 26, none, .mov (.tmp 28)⟩,
  ⟨some 29, none, .ext (.tmp 26) 0⟩,
  ⟨some 30, none, .ext (.tmp 26) 1⟩,
  ⟨some 5, none, .alloc [(I 0), (I 0)]⟩,
  ⟨none, none, .store 2 (.tmp 5) (.tmp 29)⟩,
  ⟨some 6, none, .mov (.tmp 30)⟩])
 (.seq (.ops false [
  ⟨some 32, none, .call (.cst (.fn (.func 56) [] [])) []⟩,
  ⟨some 33, none, .call (.cst (.fn (.func 26) [] [])) [(.tmp 32), (.cst (I 0)), (.cst (I 0)), (.cst (I 20))]⟩,
  ⟨some 31, none, .mov (.tmp 33)⟩,
  ⟨some 34, none, .ext (.tmp 31) 0⟩,
  ⟨some 35, none, .ext (.tmp 31) 1⟩,
  ⟨some 7, none, .mov (.tmp 34)⟩,
  ⟨some 8, none, .mov (.tmp 35)⟩])
 (.seq (.ops false [
  ⟨some 37, none, .call (.cst (.fn (.func 56) [] [])) []⟩,
  ⟨some 38, none, .call (.cst (.fn (.func 28) [] [])) [(.tmp 37), (.cst (I 3)), (.cst (I 18))]⟩,
  ⟨some 36, none, .mov (.tmp 38)⟩,
  ⟨some 39, none, .ext (.tmp 36) 0⟩,
  ⟨some 40, none, .ext (.tmp 36) 1⟩,
  ⟨some 9, none, .mov (.tmp 39)⟩,
  ⟨some 10, none, .mov (.tmp 40)⟩])
 (.seq (.seq (.ops true [
  ⟨some 41, none, .mov (.tmp 2)⟩,
  ⟨some 42, none, .bin .neq (.tmp 41) (.cst (I 0))⟩,
  ⟨some 43, none, .mov (.tmp 42)⟩,
  ⟨some 44, some ((some 43), false), .mov (.tmp 4)⟩,
  ⟨some 45, some ((some 43), false), .bin .neq (.tmp 44) (.cst (I 0))⟩,
  ⟨some 46, none, .pick (.tmp 43) (.cst (.bool true)) (.tmp 45)⟩,
  ⟨some 47, none, .mov (.tmp 46)⟩,
  ⟨some 48, some ((some 47), false), .mov (.tmp 6)⟩,
  ⟨some 49, some ((some 47), false), .bin .neq (.tmp 48) (.cst (I 0))⟩,
  ⟨some 50, none, .pick (.tmp 47) (.cst (.bool true)) (.tmp 49)⟩,
  ⟨some 51, none, .mov (.tmp 50)⟩,
  ⟨some 52, some ((some 51), false), .mov (.tmp 8)⟩,
  ⟨some 53, some ((some 51), false), .bin .neq (.tmp 52) (.cst (I 0))⟩,
  ⟨some 54, none, .pick (.tmp 51) (.cst (.bool true)) (.tmp 53)⟩,
  ⟨some 55, none, .mov (.tmp 54)⟩,
  ⟨some 56, some ((some 55), false), .mov (.tmp 10)⟩,
  ⟨some 57, some ((some 55), false), .bin .neq (.tmp 56) (.cst (I 0))⟩,
  ⟨some 58, none, .pick (.tmp 55) (.cst (.bool true)) (.tmp 57)⟩,
  ⟨some 59, none, .mov (.tmp 58)⟩,
  ⟨some 60, some ((some 59), false), .load (some 2) (.tmp 1)⟩,
  ⟨some 61, some ((some 59), false), .call (.cst (.fn (.func 51) [] [])) [(.cst (I 5)), (.cst (I 6))]⟩,
  ⟨some 62, some ((some 59), false), .eqa 2 true (.tmp 60) (.tmp 61)⟩,
  ⟨some 63, none, .pick (.tmp 59) (.cst (.bool true)) (.tmp 62)⟩,
  ⟨some 64, none, .mov (.tmp 63)⟩,
  ⟨some 65, some ((some 64), false), .load (some 2) (.tmp 3)⟩,
  ⟨some 66, some ((some 64), false), .call (.cst (.fn (.func 51) [] [])) [(.cst (I 21)), (.cst (I 27))]⟩,
  ⟨some 67, some ((some 64), false), .eqa 2 true (.tmp 65) (.tmp 66)⟩,
  ⟨some 68, none, .pick (.tmp 64) (.cst (.bool true)) (.tmp 67)⟩,
  ⟨some 69, none, .mov (.tmp 68)⟩,
  ⟨some 70, some ((some 69), false), .load (some 2) (.tmp 5)⟩,
  ⟨some 71, some ((some 69), false), .call (.cst (.fn (.func 47) [] [])) [(.cst (I 3))]⟩,
  ⟨some 72, some ((some 69), false), .eqa 2 true (.tmp 70) (.tmp 71)⟩,
  ⟨some 73, none, .pick (.tmp 69) (.cst (.bool true)) (.tmp 72)⟩,
  ⟨some 74, none, .mov (.tmp 73)⟩,
  ⟨some 75, some ((some 74), false), .mov (.tmp 7)⟩,
  ⟨some 76, some ((some 74), false), .bin .neq (.tmp 75) (.cst (I 2))⟩,
  ⟨some 77, none, .pick (.tmp 74) (.cst (.bool true)) (.tmp 76)⟩,
  ⟨some 78, none, .mov (.tmp 77)⟩,
  ⟨some 79, some ((some 78), false), .mov (.tmp 9)⟩,
  ⟨some 80, some ((some 78), false), .bsl 1 false (I 0) 1 [(0, (.cst (I 1)))]⟩,
  ⟨some 81, some ((some 78), false), .call (.cst (.fn (.func 30) [] [])) [(.tmp 79), (.tmp 80)]⟩,
  ⟨some 82, some ((some 78), false), .lnot (.tmp 81)⟩,
  ⟨some 83, none, .pick (.tmp 78) (.cst (.bool true)) (.tmp 82)⟩])
 (.cond (.tmp 83) (.seq (.ops false [
  ⟨some 0, none, .mov (.cst (.bool false))⟩])
 .ret) .skip))
 (.seq (.ops false [
  ⟨some 85, none, .call (.cst (.fn (.func 59) [] [])) []⟩,
  ⟨some 86, none, .call (.cst (.fn (.func 31) [] [])) [(.tmp 85), (.cst (I 3))]⟩,
  ⟨some 84, none, .mov (.tmp 86)⟩,
  ⟨some 87, none, .ext (.tmp 84) 0⟩,
  ⟨some 88, none, .ext (.tmp 84) 1⟩,
  ⟨some 11, none, .mov (.tmp 87)⟩,
  ⟨some 2, none, .mov (.tmp 88)⟩])
 (.seq (.ops false [
  ⟨some 90, none, .call (.cst (.fn (.func 59) [] [])) []⟩,
  ⟨some 91, none, .call (.cst (.fn (.func 51) [] [])) [(.cst (I 10)), (.cst (I 18))]⟩,
  ⟨some 92, none, .call (.cst (.fn (.func 33) [] [])) [(.tmp 90), (.cst (I 0)), (.cst (I 3)), (.tmp 91)]⟩,
  ⟨some 89, none, .mov (.tmp 92)⟩,
  ⟨some 93, none, .ext (.tmp 89) 0⟩,
  ⟨some 94, none, .ext (.tmp 89) 1⟩,
  ⟨some 12, none, .mov (.tmp 93)⟩,
  ⟨some 4, none, .mov (.tmp 94)⟩])
 (.seq (.ops false [
  ⟨some 96, none, .call (.cst (.fn (.func 56) [] [])) []⟩,
  ⟨some 97, none, .bld [(I 0), (I 0), (I 0), (I 0)] [(1, 1, (.cst (I 1))), (2, 1, (.cst (I 23))), (3, 1, (.cst (I 1)))]⟩,
  ⟨some 98, none, .call (.cst (.fn (.func 35) [] [])) [(.tmp 96), (.tmp 97)]⟩,
  ⟨some 95, none, .mov (.tmp 98)⟩,
  ⟨some 99, none, .ext (.tmp 95) 0⟩,
  ⟨some 100, none, .ext (.tmp 95) 1⟩,
  ⟨some 13, none, .mov (.tmp 99)⟩,
  ⟨some 6, none, .mov (.tmp 100)⟩])
 (.seq (.ops false [
  ⟨some 102, none, .call (.cst (.fn (.func 58) [] [])) []⟩,
  ⟨some 103, none, .call (.cst (.fn (.func 37) [] [])) [(.tmp 102)]⟩,
  ⟨some 101, none, .mov (.tmp 103)⟩,
  ⟨some 104, none, .ext (.tmp 101) 0⟩,
  ⟨some 105, none, .ext (.tmp 101) 1⟩,
  ⟨some 14, none, .mov (.tmp 104)⟩,
  ⟨some 8, none, .mov (.tmp 105)⟩])
 (.seq (.ops false [
  ⟨some 107, none, .call (.cst (.fn (.func 56) [] [])) []⟩,
  ⟨some 108, none, .call (.cst (.fn (.func 15) [] [])) [(.tmp 107)]⟩,
  ⟨some 106, none, .mov (.tmp 108)⟩,
  ⟨some 109, none, .ext (.tmp 106) 0⟩,
  ⟨some 110, none, .ext (.tmp 106) 1⟩,
  ⟨some 15, none, .mov (.tmp 109)⟩,
  ⟨some 10, none, .mov (.tmp 110)⟩])
 (.seq (.ops false [
  ⟨some 111, none, .mov (.tmp 2)⟩,
  ⟨some 112, none, .bin .eql (.tmp 111) (.cst (I 0))⟩,
  ⟨some 113, none, .mov (.tmp 112)⟩,
  ⟨some 114, some ((some 113), true), .mov (.tmp 4)⟩,
  ⟨some 115, some ((some 113), true), .bin .eql (.tmp 114) (.cst (I 0))⟩,
  ⟨some 116, none, .pick (.tmp 113) (.tmp 115) (.cst (.bool false))⟩,
  ⟨some 117, none, .mov (.tmp 116)⟩,
  ⟨some 118, some ((some 117), true), .mov (.tmp 6)⟩,
  ⟨some 119, some ((some 117), true), .bin .eql (.tmp 118) (.cst (I 0))⟩,
  ⟨some 120, none, .pick (.tmp 117) (.tmp 119) (.cst (.bool false))⟩,
  ⟨some 121, none, .mov (.tmp 120)⟩,
  ⟨some 122, some ((some 121), true), .mov (.tmp 8)⟩,
  ⟨some 123, some ((some 121), true), .bin .eql (.tmp 122) (.cst (I 0))⟩,
  ⟨some 124, none, .pick (.tmp 121) (.tmp 123) (.cst (.bool false))⟩,
  ⟨some 125, none, .mov (.tmp 124)⟩,
  ⟨some 126, some ((some 125), true), .mov (.tmp 10)⟩,
  ⟨some 127, some ((some 125), true), .bin .eql (.tmp 126) (.cst (I 0))⟩,
  ⟨some 128, none, .pick (.tmp 125) (.tmp 127) (.cst (.bool false))⟩,
  ⟨some 129, none, .mov (.tmp 128)⟩,
  ⟨some 130, some ((some 129), true), .mov (.tmp 11)⟩,
  ⟨some 131, some ((some 129), true), .bsl 1 false (I 0) 1 [(0, (.cst (I 0)))]⟩,
  ⟨some 132, some ((some 129), true), .call (.cst (.fn (.func 30) [] [])) [(.tmp 130), (.tmp 131)]⟩,
  ⟨some 133, none, .pick (.tmp 129) (.tmp 132) (.cst (.bool false))⟩,
  ⟨some 134, none, .mov (.tmp 133)⟩,
  ⟨some 135, some ((some 134), true), .mov (.tmp 12)⟩,
  ⟨some 136, some ((some 134), true), .bin .eql (.tmp 135) (.cst (I 1))⟩,
  ⟨some 137, none, .pick (.tmp 134) (.tmp 136) (.cst (.bool false))⟩,
  ⟨some 138, none, .mov (.tmp 137)⟩,
  ⟨some 139, some ((some 138), true), .mov (.tmp 13)⟩,
  ⟨some 140, none, .pick (.tmp 138) (.tmp 139) (.cst (.bool false))⟩,
  ⟨some 141, none, .mov (.tmp 140)⟩,
  ⟨some 142, some ((some 141), true), .mov (.tmp 14)⟩,
  ⟨some 143, some ((some 141), true), .bsl 1 false (I 0) 1 [(0, (.cst (I 0)))]⟩,
  ⟨some 144, some ((some 141), true), .call (.cst (.fn (.func 30) [] [])) [(.tmp 142), (.tmp 143)]⟩,
  ⟨some 145, none, .pick (.tmp 141) (.tmp 144) (.cst (.bool false))⟩,
  ⟨some 146, none, .mov (.tmp 145)⟩,
  ⟨some 147, some ((some 146), true), .mov (.tmp 15)⟩,
  ⟨some 148, none, .pick (.tmp 146) (.tmp 147) (.cst (.bool false))⟩,
  ⟨some 0, none, .mov (.tmp 148)⟩])
 .ret)))))))))))))⟩
theorem comp25 : compF Cv 25 = some code25 := by kernel_rfl

def code26 : MF := ⟨38, [(8, none), (9, none)], (.seq (.ops false [
  ⟨some 4, none, .box (.tmp 0)⟩,
  ⟨some 8, none, .mov (.cst (I 0))⟩,
  ⟨some 9, none, .mov (.cst (I 0))⟩])
 (.seq (.ops true [
  ⟨some 13, none, .load (some 3) (.tmp 4)⟩,
  ⟨some 14, none, .load (some 3) (.tmp 4)⟩,
  ⟨some 15, none, .mov (.tmp 1)⟩,
  ⟨some 16, none, .call (.cst (.fn (.func 74) [] [])) [(.tmp 14), (.tmp 15)]⟩,
  ⟨some 17, none, .mov (.tmp 16)⟩,
  ⟨some 18, some ((some 17), true), .load (some 3) (.tmp 4)⟩,
  ⟨some 19, some ((some 17), true), .mov (.tmp 2)⟩,
  ⟨some 20, some ((some 17), true), .call (.cst (.fn (.func 75) [] [])) [(.tmp 18), (.tmp 19)]⟩,
  ⟨some 21, none, .pick (.tmp 17) (.tmp 20) (.cst (.bool false))⟩,
  ⟨some 22, none, .mov (.tmp 21)⟩,
  ⟨some 23, some ((some 22), true), .mov (.tmp 3)⟩,
  ⟨some 24, some ((some 22), true), .call (.cst (.fn (.func 81) [] [])) [(.tmp 23)]⟩,
  ⟨some 25, none, .pick (.tmp 22) (.tmp 24) (.cst (.bool false))⟩,
  ⟨some 26, none, .call (.cst (.fn (.func 73) [] [])) [(.tmp 13), (.tmp 25)]⟩,
  ⟨some 12, none, .mov (.tmp 26)⟩,
  ⟨some 27, none, .ext (.tmp 12) 0⟩,
  ⟨some 28, none, .ext (.tmp 12) 1⟩,
  ⟨some 10, none, .alloc [.nils, (I 0), .nils, .nils, .nilm]⟩,
  ⟨none, none, .store 5 (.tmp 10) (.tmp 27)⟩,
  ⟨some 11, none, .mov (.tmp 28)⟩])
 (.seq (.seq (.ops false [
  ⟨some 29, none, .mov (.tmp 11)⟩,
  ⟨some 30, none, .bin .neq (.tmp 29) (.cst (I 0))⟩])
 (.cond (.tmp 30) (.seq (.ops false [
  ⟨some 31, none, .mov (.tmp 11)⟩,
  ⟨some 8, none, .mov (.cst (I 0))⟩,
  ⟨some 9, none, .mov (.tmp 31)⟩])
 .ret) .skip))
 (.seq (.ops false [
  ⟨some 32, none, .load (some 5) (.tmp 10)⟩,
  ⟨some 33, none, .mov (.tmp 1)⟩,
  ⟨some 34, none, .mov (.tmp 2)⟩,
  ⟨some 35, none, .mov (.tmp 3)⟩,
  ⟨some 36, none, .call (.cst (.fn (.func 82) [] [])) [(.tmp 32), (.tmp 33), (.tmp 34), (.tmp 35)]⟩,
  ⟨some 37, none, .call (.cst (.fn (.func 83) [] [])) [(.tmp 36)]⟩,
  ⟨some 8, none, .mov (.tmp 37)⟩,
  ⟨some 9, none, .mov (.cst (I 0))⟩])
 .ret))))⟩
theorem comp26 : compF Cv 26 = some code26 := by kernel_rfl

def code27 : MF := ⟨33, [(8, none), (9, none)], (.seq (.ops false [
  ⟨some 4, none, .box (.tmp 0)⟩,
  ⟨some 8, none, .mov (.cst (I 0))⟩,
  ⟨some 9, none, .mov (.cst (I 0))⟩])
 (.seq (.seq (.ops true [
  ⟨some 11, none, .load (some 3) (.tmp 4)⟩,
  ⟨some 12, none, .load (some 3) (.tmp 4)⟩,
  ⟨some 13, none, .mov (.tmp 1)⟩,
  ⟨some 14, none, .call (.cst (.fn (.func 70) [] [])) [(.tmp 12), (.tmp 13)]⟩,
  ⟨some 15, none, .mov (.tmp 14)⟩,
  ⟨some 16, some ((some 15), true), .load (some 3) (.tmp 4)⟩,
  ⟨some 17, some ((some 15), true), .mov (.tmp 2)⟩,
  ⟨some 18, some ((some 15), true), .call (.cst (.fn (.func 79) [] [])) [(.tmp 16), (.tmp 17)]⟩,
  ⟨some 19, none, .pick (.tmp 15) (.tmp 18) (.cst (.bool false))⟩,
  ⟨some 20, none, .mov (.tmp 19)⟩,
  ⟨some 21, some ((some 20), true), .mov (.tmp 3)⟩,
  ⟨some 22, some ((some 20), true), .call (.cst (.fn (.func 84) [] [])) [(.tmp 21)]⟩,
  ⟨some 23, none, .pick (.tmp 20) (.tmp 22) (.cst (.bool false))⟩,
  ⟨some 24, none, .call (.cst (.fn (.func 69) [] [])) [(.tmp 11), (.tmp 23)]⟩,
  ⟨some 10, none, .mov (.tmp 24)⟩])
 (.seq (.ops false [
  ⟨some 25, none, .mov (.tmp 10)⟩,
  ⟨some 26, none, .bin .neq (.tmp 25) (.cst (I 0))⟩])
 (.cond (.tmp 26) (.seq (.ops false [
  ⟨some 27, none, .mov (.tmp 10)⟩,
  ⟨some 8, none, .mov (.cst (I 0))⟩,
  ⟨some 9, none, .mov (.tmp 27)⟩])
 .ret) .skip)))
 (.seq (.ops false [
  ⟨some 28, none, .load (some 3) (.tmp 4)⟩,
  ⟨some 29, none, .mov (.tmp 1)⟩,
  ⟨some 30, none, .mov (.tmp 2)⟩,
  ⟨some 31, none, .mov (.tmp 3)⟩,
  ⟨some 32, none, .call (.cst (.fn (.func 85) [] [])) [(.tmp 28), (.tmp 29), (.tmp 30), (.tmp 31)]⟩,
  ⟨some 8, none, .mov (.tmp 32)⟩,
  ⟨some 9, none, .mov (.cst (I 0))⟩])
 .ret)))⟩
theorem comp27 : compF Cv 27 = some code27 := by kernel_rfl

def code28 : MF := ⟨28, [(6, none), (7, none)], (.seq (.ops false [
  ⟨some 3, none, .box (.tmp 0)⟩,
  ⟨some 4, none, .box (.tmp 1)⟩,
  ⟨some 5, none, .box (.tmp 2)⟩,
  ⟨some 6, none, .mov (.cst .nils)⟩,
  ⟨some 7, none, .mov (.cst (I 0))⟩])
 (.seq (.ops true [
  ⟨some 11, none, .load (some 3) (.tmp 3)⟩,
  ⟨some 12, none, .load (some 3) (.tmp 3)⟩,
  ⟨some 13, none, .load none (.tmp 4)⟩,
  ⟨some 14, none, .call (.cst (.fn (.func 75) [] [])) [(.tmp 12), (.tmp 13)]⟩,
  ⟨some 15, none, .mov (.tmp 14)⟩,
  ⟨some 16, some ((some 15), true), .load none (.tmp 5)⟩,
  ⟨some 17, some ((some 15), true), .call (.cst (.fn (.func 81) [] [])) [(.tmp 16)]⟩,
  ⟨some 18, none, .pick (.tmp 15) (.tmp 17) (.cst (.bool false))⟩,
  ⟨some 19, none, .call (.cst (.fn (.func 73) [] [])) [(.tmp 11), (.tmp 18)]⟩,
  ⟨some 10, none, .mov (.tmp 19)⟩,
  ⟨some 20, none, .ext (.tmp 10) 0⟩,
  ⟨some 21, none, .ext (.tmp 10) 1⟩,
  ⟨some 8, none, .alloc [.nils, (I 0), .nils, .nils, .nilm]⟩,
  ⟨none, none, .store 5 (.tmp 8) (.tmp 20)⟩,
  ⟨some 9, none, .mov (.tmp 21)⟩])
 (.seq (.seq (.ops false [
  ⟨some 22, none, .mov (.tmp 9)⟩,
  ⟨some 23, none, .bin .neq (.tmp 22) (.cst (I 0))⟩])
 (.cond (.tmp 23) (.seq (.ops false [
  ⟨some 24, none, .mov (.tmp 9)⟩,
  ⟨some 6, none, .mov (.cst .nils)⟩,
  ⟨some 7, none, .mov (.tmp 24)⟩])
 .ret) .skip))
 (.seq (.ops false [
  ⟨some 25, none, .load (some 5) (.tmp 8)⟩,
  ⟨some 26, none, .mkf (.func 87) [] [(.tmp 8), (.tmp 4), (.tmp 5)]⟩,
  ⟨some 27, none, .call (.cst (.fn (.func 86) [] [])) [(.tmp 25), (.tmp 26)]⟩,
  ⟨some 6, none, .mov (.tmp 27)⟩,
  ⟨some 7, none, .mov (.cst (I 0))⟩])
 .ret))))⟩
theorem comp28 : compF Cv 28 = some code28 := by kernel_rfl

def body29_0 : MC := (.seq (.seq (.ops false [
  ⟨some 24, none, .mov (.tmp 10)⟩,
  ⟨some 25, none, .fad (.tmp 3) 0⟩,
  ⟨some 26, none, .load none (.tmp 25)⟩,
  ⟨some 27, none, .len (.tmp 26)⟩,
  ⟨some 28, none, .bin .lss (.tmp 24) (.tmp 27)⟩])
 (.cond (.tmp 28) .skip (.exit 0)))
 (.seq (.block 1 (.seq (.ops false [
  ⟨some 31, none, .load (some 3) (.tmp 3)⟩,
  ⟨some 32, none, .mov (.tmp 10)⟩,
  ⟨some 33, none, .mov (.tmp 1)⟩,
  ⟨some 34, none, .mov (.tmp 2)⟩,
  ⟨some 35, none, .call (.cst (.fn (.func 85) [] [])) [(.tmp 31), (.tmp 32), (.tmp 33), (.tmp 34)]⟩,
  ⟨some 36, none, .bin .eql (.tmp 35) (.cst (I 2))⟩])
 (.cond (.tmp 36) (.ops false [
  ⟨some 37, none, .mov (.tmp 9)⟩,
  ⟨some 38, none, .mov (.tmp 10)⟩,
  ⟨some 39, none, .bsl 1 false (I 0) 1 [(0, (.tmp 38))]⟩,
  ⟨some 40, none, .app false 1 8 false (.tmp 37) (.tmp 39)⟩,
  ⟨some 9, none, .mov (.tmp 40)⟩]) .skip)))
 (.ops false [
  ⟨some 29, none, .mov (.tmp 10)⟩,
  ⟨some 30, none, .bin .add (.tmp 29) (.cst (I 1))⟩,
  ⟨some 10, none, .mov (.tmp 30)⟩])))
def keep29_0 : Option (List Nat) := some [1, 2, 3, 9, 10]
def code29 : MF := ⟨42, [(6, none), (7, none)], (.seq (.ops false [
  ⟨some 3, none, .box (.tmp 0)⟩,
  ⟨some 6, none, .mov (.cst .nils)⟩,
  ⟨some 7, none, .mov (.cst (I 0))⟩])
 (.seq (.seq (.ops true [
  ⟨some 11, none, .load (some 3) (.tmp 3)⟩,
  ⟨some 12, none, .load (some 3) (.tmp 3)⟩,
  ⟨some 13, none, .mov (.tmp 1)⟩,
  ⟨some 14, none, .call (.cst (.fn (.func 79) [] [])) [(.tmp 12), (.tmp 13)]⟩,
  ⟨some 15, none, .mov (.tmp 14)⟩,
  ⟨some 16, some ((some 15), true), .mov (.tmp 2)⟩,
  ⟨some 17, some ((some 15), true), .call (.cst (.fn (.func 84) [] [])) [(.tmp 16)]⟩,
  ⟨some 18, none, .pick (.tmp 15) (.tmp 17) (.cst (.bool false))⟩,
  ⟨some 19, none, .call (.cst (.fn (.func 69) [] [])) [(.tmp 11), (.tmp 18)]⟩,
  ⟨some 8, none, .mov (.tmp 19)⟩])
 (.seq (.ops false [
  ⟨some 20, none, .mov (.tmp 8)⟩,
  ⟨some 21, none, .bin .neq (.tmp 20) (.cst (I 0))⟩])
 (.cond (.tmp 21) (.seq (.ops false [
  ⟨some 22, none, .mov (.tmp 8)⟩,
  ⟨some 6, none, .mov (.cst .nils)⟩,
  ⟨some 7, none, .mov (.tmp 22)⟩])
 .ret) .skip)))
 (.seq (.ops false [
  ⟨some 23, none, .bsl 1 false (I 0) 0 []⟩,
  ⟨some 9, none, .mov (.tmp 23)⟩])
 (.seq (.seq (.ops false [
  ⟨some 10, none, .mov (.cst (I 0))⟩])
 (.block 0 (.loop keep29_0 body29_0)))
 (.seq (.ops false [
  ⟨some 41, none, .mov (.tmp 9)⟩,
  ⟨some 6, none, .mov (.tmp 41)⟩,
  ⟨some 7, none, .mov (.cst (I 0))⟩])
 .ret)))))⟩
theorem comp29 : compF Cv 29 = some code29 := by kernel_rfl

def body30_0 : MC := (.seq (.seq (.ops false [
  ⟨some 12, none, .mov (.tmp 5)⟩,
  ⟨some 13, none, .mov (.tmp 12)⟩,
  ⟨some 14, some ((some 13), true), .mov (.tmp 6)⟩,
  ⟨some 15, some ((some 13), true), .mov (.tmp 0)⟩,
  ⟨some 16, some ((some 13), true), .len (.tmp 15)⟩,
  ⟨some 17, some ((some 13), true), .bin .lss (.tmp 14) (.tmp 16)⟩,
  ⟨some 18, none, .pick (.tmp 13) (.tmp 17) (.cst (.bool false))⟩])
 (.cond (.tmp 18) .skip (.exit 0)))
 (.seq (.block 1 (.ops false [
  ⟨some 21, none, .mov (.tmp 0)⟩,
  ⟨some 22, none, .mov (.tmp 6)⟩,
  ⟨some 23, none, .ixs 1 (.tmp 21) (.tmp 22)⟩,
  ⟨some 24, none, .load none (.tmp 23)⟩,
  ⟨some 25, none, .mov (.tmp 1)⟩,
  ⟨some 26, none, .mov (.tmp 6)⟩,
  ⟨some 27, none, .ixs 1 (.tmp 25) (.tmp 26)⟩,
  ⟨some 28, none, .load none (.tmp 27)⟩,
  ⟨some 29, none, .bin .eql (.tmp 24) (.tmp 28)⟩,
  ⟨some 5, none, .mov (.tmp 29)⟩]))
 (.ops false [
  ⟨some 19, none, .mov (.tmp 6)⟩,
  ⟨some 20, none, .bin .add (.tmp 19) (.cst (I 1))⟩,
  ⟨some 6, none, .mov (.tmp 20)⟩])))
def keep30_0 : Option (List Nat) := some [0, 1, 5, 6]
def code30 : MF := ⟨31, [(4, none)], (.seq (.ops false [
  ⟨some 4, none, .mov (.cst (.bool false))⟩])
 (.seq (.ops false [
  ⟨some 7, none, .mov (.tmp 0)⟩,
  ⟨some 8, none, .len (.tmp 7)⟩,
  ⟨some 9, none, .mov (.tmp 1)⟩,
  ⟨some 10, none, .len (.tmp 9)⟩,
  ⟨some 11, none, .bin .eql (.tmp 8) (.tmp 10)⟩,
  ⟨some 5, none, .mov (.tmp 11)⟩])
 (.seq (.seq (.ops false [
  ⟨some 6, none, .mov (.cst (I 0))⟩])
 (.block 0 (.loop keep30_0 body30_0)))
 (.seq (.ops false [
  ⟨some 30, none, .mov (.tmp 5)⟩,
  ⟨some 4, none, .mov (.tmp 30)⟩])
 .ret))))⟩
theorem comp30 : compF Cv 30 = some code30 := by kernel_rfl

def code31 : MF := ⟨22, [(4, none), (5, none)], (.seq (.ops false [
  ⟨some 2, none, .box (.tmp 0)⟩,
  ⟨some 3, none, .box (.tmp 1)⟩,
  ⟨some 4, none, .mov (.cst .nils)⟩,
  ⟨some 5, none, .mov (.cst (I 0))⟩])
 (.seq (.ops true [
  ⟨some 9, none, .load (some 3) (.tmp 2)⟩,
  ⟨some 10, none, .load (some 3) (.tmp 2)⟩,
  ⟨some 11, none, .load none (.tmp 3)⟩,
  ⟨some 12, none, .call (.cst (.fn (.func 75) [] [])) [(.tmp 10), (.tmp 11)]⟩,
  ⟨some 13, none, .call (.cst (.fn (.func 73) [] [])) [(.tmp 9), (.tmp 12)]⟩,
  ⟨some 8, none, .mov (.tmp 13)⟩,
  ⟨some 14, none, .ext (.tmp 8) 0⟩,
  ⟨some 15, none, .ext (.tmp 8) 1⟩,
  ⟨some 6, none, .alloc [.nils, (I 0), .nils, .nils, .nilm]⟩,
  ⟨none, none, .store 5 (.tmp 6) (.tmp 14)⟩,
  ⟨some 7, none, .mov (.tmp 15)⟩])
 (.seq (.seq (.ops false [
  ⟨some 16, none, .mov (.tmp 7)⟩,
  ⟨some 17, none, .bin .neq (.tmp 16) (.cst (I 0))⟩])
 (.cond (.tmp 17) (.seq (.ops false [
  ⟨some 18, none, .mov (.tmp 7)⟩,
  ⟨some 4, none, .mov (.cst .nils)⟩,
  ⟨some 5, none, .mov (.tmp 18)⟩])
 .ret) .skip))
 (.seq (.ops false [
  ⟨some 19, none, .load (some 5) (.tmp 6)⟩,
  ⟨some 20, none, .mkf (.func 88) [] [(.tmp 6), (.tmp 3)]⟩,
  ⟨some 21, none, .call (.cst (.fn (.func 86) [] [])) [(.tmp 19), (.tmp 20)]⟩,
  ⟨some 4, none, .mov (.tmp 21)⟩,
  ⟨some 5, none, .mov (.cst (I 0))⟩])
 .ret))))⟩
theorem comp31 : compF Cv 31 = some code31 := by kernel_rfl

def body32_0 : MC := (.seq (.seq (.ops false [
  ⟨some 20, none, .mov (.tmp 8)⟩,
  ⟨some 21, none, .fad (.tmp 2) 0⟩,
  ⟨some 22, none, .load none (.tmp 21)⟩,
  ⟨some 23, none, .len (.tmp 22)⟩,
  ⟨some 24, none, .bin .lss (.tmp 20) (.tmp 23)⟩])
 (.cond (.tmp 24) .skip (.exit 0)))
 (.seq (.block 1 (.seq (.ops false [
  ⟨some 28, none, .load (some 3) (.tmp 2)⟩,
  ⟨some 29, none, .mov (.tmp 8)⟩,
  ⟨some 30, none, .call (.cst (.fn (.func 22) [] [])) [(.tmp 28), (.tmp 29)]⟩,
  ⟨some 27, none, .mov (.tmp 30)⟩,
  ⟨some 31, none, .ext (.tmp 27) 0⟩,
  ⟨some 32, none, .ext (.tmp 27) 1⟩,
  ⟨some 9, none, .alloc [(I 0), (I 0)]⟩,
  ⟨none, none, .store 2 (.tmp 9) (.tmp 31)⟩,
  ⟨some 10, none, .mov (.tmp 32)⟩])
 (.seq (.ops false [
  ⟨some 33, none, .fad (.tmp 9) 1⟩,
  ⟨some 34, none, .load none (.tmp 33)⟩,
  ⟨some 35, none, .mov (.tmp 1)⟩,
  ⟨some 36, none, .bin .leq (.tmp 34) (.tmp 35)⟩])
 (.cond (.tmp 36) (.ops false [
  ⟨some 37, none, .mov (.tmp 7)⟩,
  ⟨some 38, none, .mov (.tmp 8)⟩,
  ⟨some 39, none, .bsl 1 false (I 0) 1 [(0, (.tmp 38))]⟩,
  ⟨some 40, none, .app false 1 8 false (.tmp 37) (.tmp 39)⟩,
  ⟨some 7, none, .mov (.tmp 40)⟩]) .skip))))
 (.ops false [
  ⟨some 25, none, .mov (.tmp 8)⟩,
  ⟨some 26, none, .bin .add (.tmp 25) (.cst (I 1))⟩,
  ⟨some 8, none, .mov (.tmp 26)⟩])))
def keep32_0 : Option (List Nat) := some [1, 2, 7, 8]
def code32 : MF := ⟨42, [(4, none), (5, none)], (.seq (.ops false [
  ⟨some 2, none, .box (.tmp 0)⟩,
  ⟨some 4, none, .mov (.cst .nils)⟩,
  ⟨some 5, none, .mov (.cst (I 0))⟩])
 (.seq (.seq (.ops true [
  ⟨some 11, none, .load (some 3) (.tmp 2)⟩,
  ⟨some 12, none, .load (some 3) (.tmp 2)⟩,
  ⟨some 13, none, .mov (.tmp 1)⟩,
  ⟨some 14, none, .call (.cst (.fn (.func 79) [] [])) [(.tmp 12), (.tmp 13)]⟩,
  ⟨some 15, none, .call (.cst (.fn (.func 69) [] [])) [(.tmp 11), (.tmp 14)]⟩,
  ⟨some 6, none, .mov (.tmp 15)⟩])
 (.seq (.ops false [
  ⟨some 16, none, .mov (.tmp 6)⟩,
  ⟨some 17, none, .bin .neq (.tmp 16) (.cst (I 0))⟩])
 (.cond (.tmp 17) (.seq (.ops false [
  ⟨some 18, none, .mov (.tmp 6)⟩,
  ⟨some 4, none, .mov (.cst .nils)⟩,
  ⟨some 5, none, .mov (.tmp 18)⟩])
 .ret) .skip)))
 (.seq (.ops false [
  ⟨some 19, none, .bsl 1 false (I 0) 0 []⟩,
  ⟨some 7, none, .mov (.tmp 19)⟩])
 (.seq (.seq (.ops false [
  ⟨some 8, none, .mov (.cst (I 0))⟩])
 (.block 0 (.loop keep32_0 body32_0)))
 (.seq (.ops false [
  ⟨some 41, none, .mov (.tmp 7)⟩,
  ⟨some 4, none, .mov (.tmp 41)⟩,
  ⟨some 5, none, .mov (.cst (I 0))⟩])
 .ret)))))⟩
theorem comp32 : compF Cv 32 = some code32 := by kernel_rfl

def body33_0 : MC := (.seq (.seq (.ops false [
  ⟨some 45, none, .mov (.tmp 13)⟩,
  ⟨some 46, none, .fad (.tmp 7) 1⟩,
  ⟨some 47, none, .load none (.tmp 46)⟩,
  ⟨some 48, none, .bin .leq (.tmp 45) (.tmp 47)⟩])
 (.cond (.tmp 48) .skip (.exit 2)))
 (.seq (.block 3 (.seq (.ops true [
  ⟨some 51, none, .ixa 2 1 (.cst (.rp [(.fn (.func 126) [] []), (.fn (.func 127) [] [])] 0)) (.cst (I 1))⟩,
  ⟨some 52, none, .load none (.tmp 51)⟩,
  ⟨some 53, none, .load (some 5) (.tmp 10)⟩,
  ⟨some 54, none, .mov (.tmp 12)⟩,
  ⟨some 55, none, .mov (.tmp 2)⟩,
  ⟨some 56, none, .mov (.tmp 13)⟩,
  ⟨some 57, none, .call (.cst (.fn (.func 82) [] [])) [(.tmp 53), (.tmp 54), (.tmp 55), (.tmp 56)]⟩,
  ⟨some 58, none, .call (.tmp 52) [(.tmp 57)]⟩,
  ⟨some 59, none, .lnot (.tmp 58)⟩])
 (.cond (.tmp 59) (.exit 1) .skip)))
 (.ops false [
  ⟨some 49, none, .mov (.tmp 13)⟩,
  ⟨some 50, none, .bin .add (.tmp 49) (.cst (I 1))⟩,
  ⟨some 13, none, .mov (.tmp 50)⟩])))
def keep33_0 : Option (List Nat) := some [1, 2, 7, 10, 12, 13, 36, 37]
def body33_1 : MC := (.seq (.ops false [
  ⟨some 38, none, .bin .lss (.tmp 37) (.tmp 36)⟩])
 (.seq (.cond (.tmp 38) .skip (.exit 0))
 (.seq (.block 1 (.seq (.ops false [
  ⟨some 39, none, .mov (.tmp 37)⟩,
  ⟨some 12, none, .mov (.tmp 39)⟩])
 (.seq (.seq (.ops false [
  ⟨some 40, none, .mov (.tmp 12)⟩,
  ⟨some 41, none, .mov (.tmp 1)⟩,
  ⟨some 42, none, .bin .eql (.tmp 40) (.tmp 41)⟩])
 (.cond (.tmp 42) (.exit 1) .skip))
 (.seq (.seq (.ops false [
  ⟨some 43, none, .fad (.tmp 7) 0⟩,
  ⟨some 44, none, .load none (.tmp 43)⟩,
  ⟨some 13, none, .mov (.tmp 44)⟩])
 (.block 2 (.loop keep33_0 body33_0)))
 (.seq (.ops false [
  ⟨some 60, none, .mov (.tmp 12)⟩,
  ⟨some 8, none, .mov (.tmp 60)⟩,
  ⟨some 9, none, .mov (.cst (I 0))⟩])
 .ret)))))
 (.ops false [
  ⟨some 61, none, .bin .add (.tmp 37) (.cst (I 1))⟩,
  ⟨some 37, none, .mov (.tmp 61)⟩]))))
def keep33_1 : Option (List Nat) := some [1, 2, 7, 10, 36, 37]
def code33 : MF := ⟨62, [(8, none), (9, none)], (.seq (.ops false [
  ⟨some 4, none, .box (.tmp 0)⟩,
  ⟨some 7, none, .box (.tmp 3)⟩,
  ⟨some 8, none, .mov (.cst (I 0))⟩,
  ⟨some 9, none, .mov (.cst (I 0))⟩])
 (.scope (.seq (.ops true [
  ⟨some 15, none, .load (some 3) (.tmp 4)⟩,
  ⟨some 16, none, .load (some 3) (.tmp 4)⟩,
  ⟨some 17, none, .mov (.tmp 1)⟩,
  ⟨some 18, none, .call (.cst (.fn (.func 74) [] [])) [(.tmp 16), (.tmp 17)]⟩,
  ⟨some 19, none, .mov (.tmp 18)⟩,
  ⟨some 20, some ((some 19), true), .load (some 3) (.tmp 4)⟩,
  ⟨some 21, some ((some 19), true), .mov (.tmp 2)⟩,
  ⟨some 22, some ((some 19), true), .call (.cst (.fn (.func 75) [] [])) [(.tmp 20), (.tmp 21)]⟩,
  ⟨some 23, none, .pick (.tmp 19) (.tmp 22) (.cst (.bool false))⟩,
  ⟨some 24, none, .mov (.tmp 23)⟩,
  ⟨some 25, some ((some 24), true), .load (some 2) (.tmp 7)⟩,
  ⟨some 26, some ((some 24), true), .call (.cst (.fn (.func 64) [] [])) [(.tmp 25), (.cst (I 40)), (.cst (I 40))]⟩,
  ⟨some 27, none, .pick (.tmp 24) (.tmp 26) (.cst (.bool false))⟩,
  ⟨some 28, none, .call (.cst (.fn (.func 73) [] [])) [(.tmp 15), (.tmp 27)]⟩,
  ⟨some 14, none, .mov (.tmp 28)⟩,
  ⟨some 29, none, .ext (.tmp 14) 0⟩,
  ⟨some 30, none, .ext (.tmp 14) 1⟩,
  ⟨some 10, none, .alloc [.nils, (I 0), .nils, .nils, .nilm]⟩,
  ⟨none, none, .store 5 (.tmp 10) (.tmp 29)⟩,
  ⟨some 11, none, .mov (.tmp 30)⟩])
 (.seq (.seq (.ops false [
  ⟨some 31, none, .mov (.tmp 11)⟩,
  ⟨some 32, none, .bin .neq (.tmp 31) (.cst (I 0))⟩])
 (.cond (.tmp 32) (.seq (.ops false [
  ⟨some 33, none, .mov (.tmp 11)⟩,
  ⟨some 8, none, .mov (.cst (I 0))⟩,
  ⟨some 9, none, .mov (.tmp 33)⟩])
 .ret) .skip))
 (.seq .skip
 (.seq (.seq (.ops false [
  ⟨some 34, none, .fad (.tmp 4) 0⟩,
  ⟨some 35, none, .load none (.tmp 34)⟩,
  ⟨some 36, none, .len (.tmp 35)⟩,
  ⟨some 37, none, .mov (.cst (I 0))⟩])
 (.block 0 (.loop keep33_1 body33_1)))
 (.seq (.ops false [
  ⟨some 8, none, .mov (.cst (I 0))⟩,
  ⟨some 9, none, .mov (.cst (I 4))⟩])
 .ret)))))))⟩
theorem comp33 : compF Cv 33 = some code33 := by kernel_rfl

def body34_0 : MC := (.seq (.seq (.ops false [
  ⟨some 43, none, .mov (.tmp 12)⟩,
  ⟨some 44, none, .mov (.tmp 43)⟩,
  ⟨some 45, some ((some 44), true), .mov (.tmp 13)⟩,
  ⟨some 46, some ((some 44), true), .fad (.tmp 7) 1⟩,
  ⟨some 47, some ((some 44), true), .load none (.tmp 46)⟩,
  ⟨some 48, some ((some 44), true), .bin .leq (.tmp 45) (.tmp 47)⟩,
  ⟨some 49, none, .pick (.tmp 44) (.tmp 48) (.cst (.bool false))⟩])
 (.cond (.tmp 49) .skip (.exit 2)))
 (.seq (.block 3 (.ops false [
  ⟨some 52, none, .load (some 3) (.tmp 4)⟩,
  ⟨some 53, none, .mov (.tmp 11)⟩,
  ⟨some 54, none, .mov (.tmp 2)⟩,
  ⟨some 55, none, .mov (.tmp 13)⟩,
  ⟨some 56, none, .call (.cst (.fn (.func 85) [] [])) [(.tmp 52), (.tmp 53), (.tmp 54), (.tmp 55)]⟩,
  ⟨some 57, none, .bin .eql (.tmp 56) (.cst (I 2))⟩,
  ⟨some 12, none, .mov (.tmp 57)⟩]))
 (.ops false [
  ⟨some 50, none, .mov (.tmp 13)⟩,
  ⟨some 51, none, .bin .add (.tmp 50) (.cst (I 1))⟩,
  ⟨some 13, none, .mov (.tmp 51)⟩])))
def keep34_0 : Option (List Nat) := some [1, 2, 4, 7, 11, 12, 13]
def body34_1 : MC := (.seq (.seq (.ops false [
  ⟨some 31, none, .mov (.tmp 11)⟩,
  ⟨some 32, none, .fad (.tmp 4) 0⟩,
  ⟨some 33, none, .load none (.tmp 32)⟩,
  ⟨some 34, none, .len (.tmp 33)⟩,
  ⟨some 35, none, .bin .lss (.tmp 31) (.tmp 34)⟩])
 (.cond (.tmp 35) .skip (.exit 0)))
 (.seq (.block 1 (.seq (.ops false [
  ⟨some 38, none, .mov (.tmp 11)⟩,
  ⟨some 39, none, .mov (.tmp 1)⟩,
  ⟨some 40, none, .bin .neq (.tmp 38) (.tmp 39)⟩,
  ⟨some 12, none, .mov (.tmp 40)⟩])
 (.seq (.seq (.ops false [
  ⟨some 41, none, .fad (.tmp 7) 0⟩,
  ⟨some 42, none, .load none (.tmp 41)⟩,
  ⟨some 13, none, .mov (.tmp 42)⟩])
 (.block 2 (.loop keep34_0 body34_0)))
 (.seq (.ops false [
  ⟨some 58, none, .mov (.tmp 12)⟩])
 (.cond (.tmp 58) (.seq (.ops false [
  ⟨some 59, none, .mov (.tmp 11)⟩,
  ⟨some 8, none, .mov (.tmp 59)⟩,
  ⟨some 9, none, .mov (.cst (I 0))⟩])
 .ret) .skip)))))
 (.ops false [
  ⟨some 36, none, .mov (.tmp 11)⟩,
  ⟨some 37, none, .bin .add (.tmp 36) (.cst (I 1))⟩,
  ⟨some 11, none, .mov (.tmp 37)⟩])))
def keep34_1 : Option (List Nat) := some [1, 2, 4, 7, 11]
def code34 : MF := ⟨60, [(8, none), (9, none)], (.seq (.ops false [
  ⟨some 4, none, .box (.tmp 0)⟩,
  ⟨some 7, none, .box (.tmp 3)⟩,
  ⟨some 8, none, .mov (.cst (I 0))⟩,
  ⟨some 9, none, .mov (.cst (I 0))⟩])
 (.seq (.seq (.ops true [
  ⟨some 14, none, .load (some 3) (.tmp 4)⟩,
  ⟨some 15, none, .load (some 3) (.tmp 4)⟩,
  ⟨some 16, none, .mov (.tmp 1)⟩,
  ⟨some 17, none, .call (.cst (.fn (.func 70) [] [])) [(.tmp 15), (.tmp 16)]⟩,
  ⟨some 18, none, .mov (.tmp 17)⟩,
  ⟨some 19, some ((some 18), true), .load (some 3) (.tmp 4)⟩,
  ⟨some 20, some ((some 18), true), .mov (.tmp 2)⟩,
  ⟨some 21, some ((some 18), true), .call (.cst (.fn (.func 79) [] [])) [(.tmp 19), (.tmp 20)]⟩,
  ⟨some 22, none, .pick (.tmp 18) (.tmp 21) (.cst (.bool false))⟩,
  ⟨some 23, none, .mov (.tmp 22)⟩,
  ⟨some 24, some ((some 23), true), .load (some 2) (.tmp 7)⟩,
  ⟨some 25, some ((some 23), true), .call (.cst (.fn (.func 66) [] [])) [(.tmp 24), (.cst (I 0)), (.cst (I 40)), (.cst (I 40))]⟩,
  ⟨some 26, none, .pick (.tmp 23) (.tmp 25) (.cst (.bool false))⟩,
  ⟨some 27, none, .call (.cst (.fn (.func 69) [] [])) [(.tmp 14), (.tmp 26)]⟩,
  ⟨some 10, none, .mov (.tmp 27)⟩])
 (.seq (.ops false [
  ⟨some 28, none, .mov (.tmp 10)⟩,
  ⟨some 29, none, .bin .neq (.tmp 28) (.cst (I 0))⟩])
 (.cond (.tmp 29) (.seq (.ops false [
  ⟨some 30, none, .mov (.tmp 10)⟩,
  ⟨some 8, none, .mov (.cst (I 0))⟩,
  ⟨some 9, none, .mov (.tmp 30)⟩])
 .ret) .skip)))
 (.seq (.seq (.ops false [
  ⟨some 11, none, .mov (.cst (I 0))⟩])
 (.block 0 (.loop keep34_1 body34_1)))
 (.seq (.ops false [
  ⟨some 8, none, .mov (.cst (I 0))⟩,
  ⟨some 9, none, .mov (.cst (I 4))⟩])
 .ret))))⟩
theorem comp34 : compF Cv 34 = some code34 := by kernel_rfl

def code35 : MF := ⟨35, [(4, none), (5, none)], (.seq (.ops false [
  ⟨some 2, none, .box (.tmp 0)⟩,
  ⟨some 3, none, .box (.tmp 1)⟩,
  ⟨some 4, none, .mov (.cst (.bool false))⟩,
  ⟨some 5, none, .mov (.cst (I 0))⟩])
 (.seq (.seq (.ops true [
  ⟨some 9, none, .load (some 3) (.tmp 2)⟩,
  ⟨some 10, none, .load (some 3) (.tmp 2)⟩,
  ⟨some 11, none, .load (some 4) (.tmp 3)⟩,
  ⟨some 12, none, .call (.cst (.fn (.func 65) [] [])) [(.tmp 10), (.tmp 11)]⟩,
  ⟨some 13, none, .call (.cst (.fn (.func 73) [] [])) [(.tmp 9), (.tmp 12)]⟩,
  ⟨some 8, none, .mov (.tmp 13)⟩,
  ⟨some 14, none, .ext (.tmp 8) 0⟩,
  ⟨some 15, none, .ext (.tmp 8) 1⟩,
  ⟨some 6, none, .alloc [.nils, (I 0), .nils, .nils, .nilm]⟩,
  ⟨none, none, .store 5 (.tmp 6) (.tmp 14)⟩,
  ⟨some 7, none, .mov (.tmp 15)⟩])
 (.seq (.ops false [
  ⟨some 16, none, .mov (.tmp 7)⟩,
  ⟨some 17, none, .bin .neq (.tmp 16) (.cst (I 0))⟩])
 (.cond (.tmp 17) (.seq (.ops false [
  ⟨some 18, none, .mov (.tmp 7)⟩,
  ⟨some 4, none, .mov (.cst (.bool false))⟩,
  ⟨some 5, none, .mov (.tmp 18)⟩])
 .ret) .skip)))
 (.seq (.ops false [
  ⟨some 19, none, .fad (.tmp 2) 2⟩,
  ⟨some 20, none, .load none (.tmp 19)⟩,
  ⟨some 21, none, .fad (.tmp 2) 2⟩,
  ⟨some 22, none, .load none (.tmp 21)⟩,
  ⟨some 23, none, .len (.tmp 22)⟩,
  ⟨some 24, none, .fad (.tmp 2) 2⟩,
  ⟨some 25, none, .load none (.tmp 24)⟩,
  ⟨some 26, none, .len (.tmp 25)⟩,
  ⟨some 27, none, .slc 4 (.tmp 20) none (some (.tmp 23)) (some (.tmp 26))⟩,
  ⟨some 28, none, .load (some 4) (.tmp 3)⟩,
  ⟨some 29, none, .bsl 4 true (.agg [(I 0), (I 0), (I 0), (I 0)]) 1 [(0, (.tmp 28))]⟩,
  ⟨some 30, none, .app false 4 32 true (.tmp 27) (.tmp 29)⟩,
  ⟨some 31, none, .fad (.tmp 2) 2⟩,
  ⟨none, none, .store 1 (.tmp 31) (.tmp 30)⟩])
 (.seq (.ops false [
  ⟨some 32, none, .load (some 3) (.tmp 2)⟩,
  ⟨some 33, none, .call (.cst (.fn (.func 60) [] [])) [(.tmp 32), (.cst .nils)]⟩,
  ⟨some 34, none, .call (.cst (.fn (.func 61) [] [])) [(.tmp 33)]⟩,
  ⟨some 4, none, .mov (.tmp 34)⟩,
  ⟨some 5, none, .mov (.cst (I 0))⟩])
 .ret))))⟩
theorem comp35 : compF Cv 35 = some code35 := by kernel_rfl

def code36 : MF := ⟨27, [(4, none), (5, none)], (.seq (.ops false [
  ⟨some 2, none, .box (.tmp 0)⟩,
  ⟨some 3, none, .box (.tmp 1)⟩,
  ⟨some 4, none, .mov (.cst (.bool false))⟩,
  ⟨some 5, none, .mov (.cst (I 0))⟩])
 (.seq (.seq (.ops true [
  ⟨some 8, none, .load (some 3) (.tmp 2)⟩,
  ⟨some 9, none, .load (some 3) (.tmp 2)⟩,
  ⟨some 10, none, .load (some 4) (.tmp 3)⟩,
  ⟨some 11, none, .call (.cst (.fn (.func 67) [] [])) [(.tmp 9), (.tmp 10)]⟩,
  ⟨some 12, none, .call (.cst (.fn (.func 69) [] [])) [(.tmp 8), (.tmp 11)]⟩,
  ⟨some 6, none, .mov (.tmp 12)⟩])
 (.seq (.ops false [
  ⟨some 13, none, .mov (.tmp 6)⟩,
  ⟨some 14, none, .bin .neq (.tmp 13) (.cst (I 0))⟩])
 (.cond (.tmp 14) (.seq (.ops false [
  ⟨some 15, none, .mov (.tmp 6)⟩,
  ⟨some 4, none, .mov (.cst (.bool false))⟩,
  ⟨some 5, none, .mov (.tmp 15)⟩])
 .ret) .skip)))
 (.seq (.ops false [
  ⟨some 16, none, .load (some 3) (.tmp 2)⟩,
  ⟨some 7, none, .alloc [.nils, (I 0), .nils]⟩,
  ⟨none, none, .store 3 (.tmp 7) (.tmp 16)⟩])
 (.seq (.ops false [
  ⟨some 17, none, .bsl 4 true (.agg [(I 0), (I 0), (I 0), (I 0)]) 0 []⟩,
  ⟨some 18, none, .fad (.tmp 2) 2⟩,
  ⟨some 19, none, .load none (.tmp 18)⟩,
  ⟨some 20, none, .app false 4 32 true (.tmp 17) (.tmp 19)⟩,
  ⟨some 21, none, .load (some 4) (.tmp 3)⟩,
  ⟨some 22, none, .bsl 4 true (.agg [(I 0), (I 0), (I 0), (I 0)]) 1 [(0, (.tmp 21))]⟩,
  ⟨some 23, none, .app false 4 32 true (.tmp 20) (.tmp 22)⟩,
  ⟨some 24, none, .fad (.tmp 7) 2⟩,
  ⟨none, none, .store 1 (.tmp 24) (.tmp 23)⟩])
 (.seq (.ops false [
  ⟨some 25, none, .load (some 3) (.tmp 7)⟩,
  ⟨some 26, none, .call (.cst (.fn (.func 62) [] [])) [(.tmp 25), (.cst (I 0))]⟩,
  ⟨some 4, none, .mov (.tmp 26)⟩,
  ⟨some 5, none, .mov (.cst (I 0))⟩])
 .ret)))))⟩
theorem comp36 : compF Cv 36 = some code36 := by kernel_rfl

def body37_0 : MC := (.seq (.ops false [
  ⟨some 20, none, .bin .lss (.tmp 19) (.tmp 18)⟩])
 (.seq (.cond (.tmp 20) .skip (.exit 0))
 (.seq (.block 1 (.seq (.ops false [
  ⟨some 21, none, .mov (.tmp 19)⟩,
  ⟨some 6, none, .mov (.tmp 21)⟩])
 (.seq (.ops false [
  ⟨some 23, none, .load none (.tmp 5)⟩,
  ⟨some 24, none, .mov (.tmp 6)⟩,
  ⟨some 25, none, .call (.tmp 23) [(.cst .nils), (.tmp 24)]⟩,
  ⟨some 22, none, .mov (.tmp 25)⟩,
  ⟨some 26, none, .ext (.tmp 22) 0⟩,
  ⟨some 27, none, .ext (.tmp 22) 1⟩,
  ⟨some 7, none, .mov (.tmp 26)⟩,
  ⟨some 8, none, .mov (.tmp 27)⟩])
 (.seq (.ops false [
  ⟨some 28, none, .mov (.tmp 8)⟩])
 (.cond (.tmp 28) (.seq (.ops false [
  ⟨some 29, none, .mov (.tmp 7)⟩,
  ⟨some 30, none, .mov (.tmp 7)⟩,
  ⟨some 31, none, .len (.tmp 30)⟩,
  ⟨some 32, none, .mov (.tmp 7)⟩,
  ⟨some 33, none, .len (.tmp 32)⟩,
  ⟨some 34, none, .slc 1 (.tmp 29) none (some (.tmp 31)) (some (.tmp 33))⟩,
  ⟨some 2, none, .mov (.tmp 34)⟩,
  ⟨some 3, none, .mov (.cst (I 0))⟩])
 .ret) .skip)))))
 (.ops false [
  ⟨some 35, none, .bin .add (.tmp 19) (.cst (I 1))⟩,
  ⟨some 19, none, .mov (.tmp 35)⟩]))))
def keep37_0 : Option (List Nat) := some [5, 18, 19]
def code37 : MF := ⟨36, [(2, none), (3, none)], (.seq (.ops false [
  ⟨some 1, none, .box (.tmp 0)⟩,
  ⟨some 2, none, .mov (.cst .nils)⟩,
  ⟨some 3, none, .mov (.cst (I 0))⟩])
 (.seq (.seq (.ops false [
  ⟨some 9, none, .load (some 3) (.tmp 1)⟩,
  ⟨some 10, none, .call (.cst (.fn (.func 17) [] [])) [(.tmp 9)]⟩,
  ⟨some 4, none, .mov (.tmp 10)⟩])
 (.seq (.ops false [
  ⟨some 11, none, .mov (.tmp 4)⟩,
  ⟨some 12, none, .bin .neq (.tmp 11) (.cst (I 0))⟩])
 (.cond (.tmp 12) (.seq (.ops false [
  ⟨some 13, none, .mov (.tmp 4)⟩,
  ⟨some 2, none, .mov (.cst .nils)⟩,
  ⟨some 3, none, .mov (.tmp 13)⟩])
 .ret) .skip)))
 (.seq (.ops false [
  ⟨some 5, none, .alloc [.nilf]⟩])
 (.seq (.ops false [
  ⟨some 14, none, .mkf (.func 89) [] [(.tmp 1), (.tmp 5)]⟩,
  ⟨none, none, .store 1 (.tmp 5) (.tmp 14)⟩])
 (.seq (.seq (.ops false [
  ⟨some 15, none, .fad (.tmp 1) 2⟩,
  ⟨some 16, none, .load none (.tmp 15)⟩,
  ⟨some 17, none, .len (.tmp 16)⟩,
  ⟨some 18, none, .bin .add (.tmp 17) (.cst (I 1))⟩,
  ⟨some 19, none, .mov (.cst (I 0))⟩])
 (.block 0 (.loop keep37_0 body37_0)))
 (.seq (.ops false [
  ⟨some 2, none, .mov (.cst .nils)⟩,
  ⟨some 3, none, .mov (.cst (I 0))⟩])
 .ret))))))⟩
theorem comp37 : compF Cv 37 = some code37 := by kernel_rfl

def body38_0 : MC := (.seq (.seq (.ops false [
  ⟨some 22, none, .mov (.tmp 7)⟩,
  ⟨some 23, none, .mov (.tmp 5)⟩,
  ⟨some 24, none, .bin .shl (.cst (I 1)) (.tmp 23)⟩,
  ⟨some 25, none, .bin .lss (.tmp 22) (.tmp 24)⟩])
 (.cond (.tmp 25) .skip (.exit 0)))
 (.seq (.block 1 (.seq (.ops false [
  ⟨some 28, none, .mov (.tmp 7)⟩,
  ⟨some 29, none, .mov (.tmp 5)⟩,
  ⟨some 30, none, .call (.cst (.fn (.func 52) [] [])) [(.tmp 28), (.tmp 29)]⟩,
  ⟨some 8, none, .mov (.tmp 30)⟩])
 (.seq (.ops false [
  ⟨some 31, none, .mov (.tmp 8)⟩,
  ⟨some 32, none, .mov (.tmp 6)⟩,
  ⟨some 33, none, .call (.cst (.fn (.func 55) [] [])) [(.tmp 31), (.tmp 32)]⟩,
  ⟨some 34, none, .mov (.tmp 33)⟩,
  ⟨some 35, some ((some 34), true), .load (some 3) (.tmp 1)⟩,
  ⟨some 36, some ((some 34), true), .mov (.tmp 7)⟩,
  ⟨some 37, some ((some 34), true), .call (.cst (.fn (.func 62) [] [])) [(.tmp 35), (.tmp 36)]⟩,
  ⟨some 38, none, .pick (.tmp 34) (.tmp 37) (.cst (.bool false))⟩])
 (.cond (.tmp 38) (.ops false [
  ⟨some 39, none, .mov (.tmp 8)⟩,
  ⟨some 6, none, .mov (.tmp 39)⟩]) .skip))))
 (.ops false [
  ⟨some 26, none, .mov (.tmp 7)⟩,
  ⟨some 27, none, .bin .add (.tmp 26) (.cst (I 1))⟩,
  ⟨some 7, none, .mov (.tmp 27)⟩])))
def keep38_0 : Option (List Nat) := some [1, 5, 6, 7]
def code38 : MF := ⟨41, [(2, none), (3, none)], (.seq (.ops false [
  ⟨some 1, none, .box (.tmp 0)⟩,
  ⟨some 2, none, .mov (.cst .nils)⟩,
  ⟨some 3, none, .mov (.cst (I 0))⟩])
 (.seq (.seq (.ops false [
  ⟨some 9, none, .load (some 3) (.tmp 1)⟩,
  ⟨some 10, none, .call (.cst (.fn (.func 18) [] [])) [(.tmp 9)]⟩,
  ⟨some 4, none, .mov (.tmp 10)⟩])
 (.seq (.ops false [
  ⟨some 11, none, .mov (.tmp 4)⟩,
  ⟨some 12, none, .bin .neq (.tmp 11) (.cst (I 0))⟩])
 (.cond (.tmp 12) (.seq (.ops false [
  ⟨some 13, none, .mov (.tmp 4)⟩,
  ⟨some 2, none, .mov (.cst .nils)⟩,
  ⟨some 3, none, .mov (.tmp 13)⟩])
 .ret) .skip)))
 (.seq (.ops false [
  ⟨some 14, none, .fad (.tmp 1) 2⟩,
  ⟨some 15, none, .load none (.tmp 14)⟩,
  ⟨some 16, none, .len (.tmp 15)⟩,
  ⟨some 5, none, .mov (.tmp 16)⟩])
 (.seq (.ops false [
  ⟨some 17, none, .mov (.tmp 5)⟩,
  ⟨some 18, none, .bin .shl (.cst (I 1)) (.tmp 17)⟩,
  ⟨some 19, none, .bin .sub (.tmp 18) (.cst (I 1))⟩,
  ⟨some 20, none, .mov (.tmp 5)⟩,
  ⟨some 21, none, .call (.cst (.fn (.func 52) [] [])) [(.tmp 19), (.tmp 20)]⟩,
  ⟨some 6, none, .mov (.tmp 21)⟩])
 (.seq (.seq (.ops false [
  ⟨some 7, none, .mov (.cst (I 0))⟩])
 (.block 0 (.loop keep38_0 body38_0)))
 (.seq (.ops false [
  ⟨some 40, none, .mov (.tmp 6)⟩,
  ⟨some 2, none, .mov (.tmp 40)⟩,
  ⟨some 3, none, .mov (.cst (I 0))⟩])
 .ret))))))⟩
theorem comp38 : compF Cv 38 = some code38 := by kernel_rfl

def body39_0 : MC := (.seq (.seq (.ops false [
  ⟨some 28, none, .mov (.tmp 3)⟩,
  ⟨some 29, none, .mov (.tmp 28)⟩,
  ⟨some 30, some ((some 29), true), .mov (.tmp 4)⟩,
  ⟨some 31, some ((some 29), true), .fad (.tmp 1) 0⟩,
  ⟨some 32, some ((some 29), true), .load none (.tmp 31)⟩,
  ⟨some 33, some ((some 29), true), .len (.tmp 32)⟩,
  ⟨some 34, some ((some 29), true), .bin .lss (.tmp 30) (.tmp 33)⟩,
  ⟨some 35, none, .pick (.tmp 29) (.tmp 34) (.cst (.bool false))⟩])
 (.cond (.tmp 35) .skip (.exit 0)))
 (.seq (.block 1 (.seq (.ops false [
  ⟨some 38, none, .fad (.tmp 1) 0⟩,
  ⟨some 39, none, .load none (.tmp 38)⟩,
  ⟨some 40, none, .mov (.tmp 4)⟩,
  ⟨some 41, none, .ixs 11 (.tmp 39) (.tmp 40)⟩,
  ⟨some 42, none, .load (some 11) (.tmp 41)⟩,
  ⟨some 5, none, .alloc [(I 0), (I 0), (I 0), (I 0), (I 0), (I 0), (I 0), (I 0), (I 0), (I 0), (I 0)]⟩,
  ⟨none, none, .store 11 (.tmp 5) (.tmp 42)⟩])
 (.ops false [
  ⟨some 43, none, .fad (.tmp 5) 0⟩,
  ⟨some 44, none, .load (some 2) (.tmp 43)⟩,
  ⟨some 45, none, .call (.cst (.fn (.func 66) [] [])) [(.tmp 44), (.cst (I 0)), (.cst (I 40)), (.cst (I 2))]⟩,
  ⟨some 46, none, .mov (.tmp 45)⟩,
  ⟨some 47, some ((some 46), true), .fad (.tmp 5) 2⟩,
  ⟨some 48, some ((some 46), true), .load (some 2) (.tmp 47)⟩,
  ⟨some 49, some ((some 46), true), .call (.cst (.fn (.func 66) [] [])) [(.tmp 48), (.cst (I 0)), (.cst (I 40)), (.cst (I 2))]⟩,
  ⟨some 50, none, .pick (.tmp 46) (.tmp 49) (.cst (.bool false))⟩,
  ⟨some 51, none, .mov (.tmp 50)⟩,
  ⟨some 52, some ((some 51), true), .fad (.tmp 5) 4⟩,
  ⟨some 53, some ((some 51), true), .load (some 2) (.tmp 52)⟩,
  ⟨some 54, some ((some 51), true), .call (.cst (.fn (.func 66) [] [])) [(.tmp 53), (.cst (I 0)), (.cst (I 2)), (.cst (I 1))]⟩,
  ⟨some 55, none, .pick (.tmp 51) (.tmp 54) (.cst (.bool false))⟩,
  ⟨some 56, none, .mov (.tmp 55)⟩,
  ⟨some 57, some ((some 56), true), .fad (.tmp 5) 6⟩,
  ⟨some 58, some ((some 56), true), .load (some 2) (.tmp 57)⟩,
  ⟨some 59, some ((some 56), true), .call (.cst (.fn (.func 66) [] [])) [(.tmp 58), (.cst (I 0)), (.cst (I 6)), (.cst (I 2))]⟩,
  ⟨some 60, none, .pick (.tmp 56) (.tmp 59) (.cst (.bool false))⟩,
  ⟨some 61, none, .mov (.tmp 60)⟩,
  ⟨some 62, some ((some 61), true), .fad (.tmp 5) 9⟩,
  ⟨some 63, some ((some 61), true), .load (some 2) (.tmp 62)⟩,
  ⟨some 64, some ((some 61), true), .call (.cst (.fn (.func 66) [] [])) [(.tmp 63), (.cst (I 0)), (.cst (I 9)), (.cst (I 3))]⟩,
  ⟨some 65, none, .pick (.tmp 61) (.tmp 64) (.cst (.bool false))⟩,
  ⟨some 66, none, .mov (.tmp 65)⟩,
  ⟨some 67, some ((some 66), true), .fad (.tmp 5) 8⟩,
  ⟨some 68, some ((some 66), true), .load none (.tmp 67)⟩,
  ⟨some 69, some ((some 66), true), .call (.cst (.fn (.func 44) [] [])) [(.tmp 68), (.cst (I 0)), (.cst (I 2))]⟩,
  ⟨some 70, none, .pick (.tmp 66) (.tmp 69) (.cst (.bool false))⟩,
  ⟨some 3, none, .mov (.tmp 70)⟩])))
 (.ops false [
  ⟨some 36, none, .mov (.tmp 4)⟩,
  ⟨some 37, none, .bin .add (.tmp 36) (.cst (I 1))⟩,
  ⟨some 4, none, .mov (.tmp 37)⟩])))
def keep39_0 : Option (List Nat) := some [1, 3, 4]
def body39_1 : MC := (.seq (.seq (.ops false [
  ⟨some 71, none, .mov (.tmp 3)⟩,
  ⟨some 72, none, .mov (.tmp 71)⟩,
  ⟨some 73, some ((some 72), true), .mov (.tmp 6)⟩,
  ⟨some 74, some ((some 72), true), .fad (.tmp 1) 2⟩,
  ⟨some 75, some ((some 72), true), .load none (.tmp 74)⟩,
  ⟨some 76, some ((some 72), true), .len (.tmp 75)⟩,
  ⟨some 77, some ((some 72), true), .bin .lss (.tmp 73) (.tmp 76)⟩,
  ⟨some 78, none, .pick (.tmp 72) (.tmp 77) (.cst (.bool false))⟩])
 (.cond (.tmp 78) .skip (.exit 2)))
 (.seq (.block 3 (.seq (.ops false [
  ⟨some 81, none, .fad (.tmp 1) 2⟩,
  ⟨some 82, none, .load none (.tmp 81)⟩,
  ⟨some 83, none, .mov (.tmp 6)⟩,
  ⟨some 84, none, .ixs 4 (.tmp 82) (.tmp 83)⟩,
  ⟨some 85, none, .load (some 4) (.tmp 84)⟩,
  ⟨some 7, none, .alloc [(I 0), (I 0), (I 0), (I 0)]⟩,
  ⟨none, none, .store 4 (.tmp 7) (.tmp 85)⟩])
 (.ops false [
  ⟨some 86, none, .fad (.tmp 7) 0⟩,
  ⟨some 87, none, .load none (.tmp 86)⟩,
  ⟨some 88, none, .fad (.tmp 1) 0⟩,
  ⟨some 89, none, .load none (.tmp 88)⟩,
  ⟨some 90, none, .len (.tmp 89)⟩,
  ⟨some 91, none, .bin .sub (.tmp 90) (.cst (I 1))⟩,
  ⟨some 92, none, .call (.cst (.fn (.func 44) [] [])) [(.tmp 87), (.cst (I 0)), (.tmp 91)]⟩,
  ⟨some 93, none, .mov (.tmp 92)⟩,
  ⟨some 94, some ((some 93), true), .fad (.tmp 7) 1⟩,
  ⟨some 95, some ((some 93), true), .load none (.tmp 94)⟩,
  ⟨some 96, some ((some 93), true), .fad (.tmp 1) 1⟩,
  ⟨some 97, some ((some 93), true), .load none (.tmp 96)⟩,
  ⟨some 98, some ((some 93), true), .bin .sub (.tmp 97) (.cst (I 1))⟩,
  ⟨some 99, some ((some 93), true), .call (.cst (.fn (.func 44) [] [])) [(.tmp 95), (.cst (I 0)), (.tmp 98)]⟩,
  ⟨some 100, none, .pick (.tmp 93) (.tmp 99) (.cst (.bool false))⟩,
  ⟨some 101, none, .mov (.tmp 100)⟩,
  ⟨some 102, some ((some 101), true), .fad (.tmp 7) 2⟩,
  ⟨some 103, some ((some 101), true), .load none (.tmp 102)⟩,
  ⟨some 104, some ((some 101), true), .call (.cst (.fn (.func 44) [] [])) [(.tmp 103), (.cst (I 0)), (.cst (I 40))]⟩,
  ⟨some 105, none, .pick (.tmp 101) (.tmp 104) (.cst (.bool false))⟩,
  ⟨some 3, none, .mov (.tmp 105)⟩])))
 (.ops false [
  ⟨some 79, none, .mov (.tmp 6)⟩,
  ⟨some 80, none, .bin .add (.tmp 79) (.cst (I 1))⟩,
  ⟨some 6, none, .mov (.tmp 80)⟩])))
def keep39_1 : Option (List Nat) := some [1, 3, 6]
def code39 : MF := ⟨107, [(2, none)], (.seq (.ops false [
  ⟨some 1, none, .box (.tmp 0)⟩,
  ⟨some 2, none, .mov (.cst (.bool false))⟩])
 (.seq (.ops false [
  ⟨some 8, none, .load (some 3) (.tmp 1)⟩,
  ⟨some 9, none, .call (.cst (.fn (.func 17) [] [])) [(.tmp 8)]⟩,
  ⟨some 10, none, .bin .eql (.tmp 9) (.cst (I 0))⟩,
  ⟨some 11, none, .mov (.tmp 10)⟩,
  ⟨some 12, some ((some 11), true), .fad (.tmp 1) 0⟩,
  ⟨some 13, some ((some 11), true), .load none (.tmp 12)⟩,
  ⟨some 14, some ((some 11), true), .len (.tmp 13)⟩,
  ⟨some 15, some ((some 11), true), .call (.cst (.fn (.func 44) [] [])) [(.tmp 14), (.cst (I 1)), (.cst (I 4))]⟩,
  ⟨some 16, none, .pick (.tmp 11) (.tmp 15) (.cst (.bool false))⟩,
  ⟨some 17, none, .mov (.tmp 16)⟩,
  ⟨some 18, some ((some 17), true), .fad (.tmp 1) 1⟩,
  ⟨some 19, some ((some 17), true), .load none (.tmp 18)⟩,
  ⟨some 20, some ((some 17), true), .call (.cst (.fn (.func 44) [] [])) [(.tmp 19), (.cst (I 1)), (.cst (I 6))]⟩,
  ⟨some 21, none, .pick (.tmp 17) (.tmp 20) (.cst (.bool false))⟩,
  ⟨some 22, none, .mov (.tmp 21)⟩,
  ⟨some 23, some ((some 22), true), .fad (.tmp 1) 2⟩,
  ⟨some 24, some ((some 22), true), .load none (.tmp 23)⟩,
  ⟨some 25, some ((some 22), true), .len (.tmp 24)⟩,
  ⟨some 26, some ((some 22), true), .bin .leq (.tmp 25) (.cst (I 6))⟩,
  ⟨some 27, none, .pick (.tmp 22) (.tmp 26) (.cst (.bool false))⟩,
  ⟨some 3, none, .mov (.tmp 27)⟩])
 (.seq (.seq (.ops false [
  ⟨some 4, none, .mov (.cst (I 0))⟩])
 (.block 0 (.loop keep39_0 body39_0)))
 (.seq (.seq (.ops false [
  ⟨some 6, none, .mov (.cst (I 0))⟩])
 (.block 2 (.loop keep39_1 body39_1)))
 (.seq (.ops false [
  ⟨some 106, none, .mov (.tmp 3)⟩,
  ⟨some 2, none, .mov (.tmp 106)⟩])
 .ret)))))⟩
theorem comp39 : compF Cv 39 = some code39 := by kernel_rfl

def body40_0 : MC := (.seq (.seq (.ops false [
  ⟨some 60, none, .mov (.tmp 12)⟩,
  ⟨some 61, none, .fad (.tmp 2) 1⟩,
  ⟨some 62, none, .load none (.tmp 61)⟩,
  ⟨some 63, none, .bin .lss (.tmp 60) (.tmp 62)⟩])
 (.cond (.tmp 63) .skip (.exit 2)))
 (.seq (.block 3 (.seq (.ops false [
  ⟨some 66, none, .fad (.tmp 8) 2⟩,
  ⟨some 67, none, .load none (.tmp 66)⟩,
  ⟨some 68, none, .mov (.tmp 9)⟩,
  ⟨some 69, none, .bsl 1 false (I 0) 1 [(0, (.tmp 68))]⟩,
  ⟨some 70, none, .app false 1 8 false (.tmp 67) (.tmp 69)⟩,
  ⟨some 71, none, .fad (.tmp 8) 2⟩,
  ⟨none, none, .store 1 (.tmp 71) (.tmp 70)⟩])
 (.seq (.ops false [
  ⟨some 72, none, .mov (.tmp 12)⟩,
  ⟨some 73, none, .mov (.tmp 11)⟩,
  ⟨some 74, none, .bin .lss (.tmp 72) (.tmp 73)⟩])
 (.cond (.tmp 74) (.ops false [
  ⟨some 75, none, .mov (.tmp 9)⟩,
  ⟨some 76, none, .mov (.tmp 10)⟩,
  ⟨some 77, none, .bin .add (.tmp 75) (.tmp 76)⟩,
  ⟨some 9, none, .mov (.tmp 77)⟩]) (.ops false [
  ⟨some 78, none, .mov (.tmp 9)⟩,
  ⟨some 79, none, .fad (.tmp 7) 8⟩,
  ⟨some 80, none, .load none (.tmp 79)⟩,
  ⟨some 81, none, .bin .sub (.tmp 78) (.tmp 80)⟩,
  ⟨some 9, none, .mov (.tmp 81)⟩])))))
 (.ops false [
  ⟨some 64, none, .mov (.tmp 12)⟩,
  ⟨some 65, none, .bin .add (.tmp 64) (.cst (I 1))⟩,
  ⟨some 12, none, .mov (.tmp 65)⟩])))
def keep40_0 : Option (List Nat) := some [1, 2, 5, 6, 7, 8, 9, 10, 11, 12]
def body40_1 : MC := (.seq (.seq (.ops false [
  ⟨some 13, none, .mov (.tmp 6)⟩,
  ⟨some 14, none, .fad (.tmp 2) 0⟩,
  ⟨some 15, none, .load none (.tmp 14)⟩,
  ⟨some 16, none, .len (.tmp 15)⟩,
  ⟨some 17, none, .bin .lss (.tmp 13) (.tmp 16)⟩])
 (.cond (.tmp 17) .skip (.exit 0)))
 (.seq (.block 1 (.seq (.ops false [
  ⟨some 20, none, .fad (.tmp 2) 0⟩,
  ⟨some 21, none, .load none (.tmp 20)⟩,
  ⟨some 22, none, .mov (.tmp 6)⟩,
  ⟨some 23, none, .ixs 11 (.tmp 21) (.tmp 22)⟩,
  ⟨some 24, none, .load (some 11) (.tmp 23)⟩,
  ⟨some 7, none, .alloc [(I 0), (I 0), (I 0), (I 0), (I 0), (I 0), (I 0), (I 0), (I 0), (I 0), (I 0)]⟩,
  ⟨none, none, .store 11 (.tmp 7) (.tmp 24)⟩])
 (.seq (.ops true [
  ⟨some 25, none, .fad (.tmp 7) 0⟩,
  ⟨some 26, none, .load (some 2) (.tmp 25)⟩,
  ⟨some 27, none, .mov (.tmp 1)⟩,
  ⟨some 28, none, .mov (.tmp 6)⟩,
  ⟨some 29, none, .call (.cst (.fn (.func 91) [] [])) [(.tmp 27), (.tmp 28)]⟩,
  ⟨some 30, none, .call (.cst (.fn (.func 90) [] [])) [(.tmp 26), (.tmp 29)]⟩,
  ⟨some 31, none, .fad (.tmp 7) 9⟩,
  ⟨some 32, none, .load (some 2) (.tmp 31)⟩,
  ⟨some 33, none, .mov (.tmp 1)⟩,
  ⟨some 34, none, .mov (.tmp 6)⟩,
  ⟨some 35, none, .bin .add (.tmp 34) (.cst (I 1))⟩,
  ⟨some 36, none, .call (.cst (.fn (.func 91) [] [])) [(.tmp 33), (.tmp 35)]⟩,
  ⟨some 37, none, .call (.cst (.fn (.func 90) [] [])) [(.tmp 32), (.tmp 36)]⟩,
  ⟨some 38, none, .bld [(I 0), (I 0), .nils] [(0, 1, (.tmp 30)), (1, 1, (.tmp 37))]⟩,
  ⟨some 8, none, .alloc [(I 0), (I 0), .nils]⟩,
  ⟨none, none, .store 3 (.tmp 8) (.tmp 38)⟩])
 (.seq (.ops true [
  ⟨some 39, none, .fad (.tmp 7) 2⟩,
  ⟨some 40, none, .load (some 2) (.tmp 39)⟩,
  ⟨some 41, none, .mov (.tmp 1)⟩,
  ⟨some 42, none, .mov (.tmp 6)⟩,
  ⟨some 43, none, .bin .add (.tmp 42) (.cst (I 2))⟩,
  ⟨some 44, none, .call (.cst (.fn (.func 91) [] [])) [(.tmp 41), (.tmp 43)]⟩,
  ⟨some 45, none, .call (.cst (.fn (.func 90) [] [])) [(.tmp 40), (.tmp 44)]⟩,
  ⟨some 46, none, .fad (.tmp 7) 4⟩,
  ⟨some 47, none, .load (some 2) (.tmp 46)⟩,
  ⟨some 48, none, .mov (.tmp 1)⟩,
  ⟨some 49, none, .mov (.tmp 6)⟩,
  ⟨some 50, none, .bin .add (.tmp 49) (.cst (I 3))⟩,
  ⟨some 51, none, .call (.cst (.fn (.func 91) [] [])) [(.tmp 48), (.tmp 50)]⟩,
  ⟨some 52, none, .call (.cst (.fn (.func 90) [] [])) [(.tmp 47), (.tmp 51)]⟩,
  ⟨some 53, none, .fad (.tmp 7) 6⟩,
  ⟨some 54, none, .load (some 2) (.tmp 53)⟩,
  ⟨some 55, none, .mov (.tmp 1)⟩,
  ⟨some 56, none, .mov (.tmp 6)⟩,
  ⟨some 57, none, .bin .add (.tmp 56) (.cst (I 4))⟩,
  ⟨some 58, none, .call (.cst (.fn (.func 91) [] [])) [(.tmp 55), (.tmp 57)]⟩,
  ⟨some 59, none, .call (.cst (.fn (.func 90) [] [])) [(.tmp 54), (.tmp 58)]⟩,
  ⟨some 9, none, .mov (.tmp 45)⟩,
  ⟨some 10, none, .mov (.tmp 52)⟩,
  ⟨some 11, none, .mov (.tmp 59)⟩])
 (.seq (.seq (.ops false [
  ⟨some 12, none, .mov (.cst (I 0))⟩])
 (.block 2 (.loop keep40_0 body40_0)))
 (.ops false [
  ⟨some 82, none, .mov (.tmp 5)⟩,
  ⟨some 83, none, .load (some 3) (.tmp 8)⟩,
  ⟨some 84, none, .bsl 3 true (.agg [(I 0), (I 0), .nils]) 1 [(0, (.tmp 83))]⟩,
  ⟨some 85, none, .app false 3 40 true (.tmp 82) (.tmp 84)⟩,
  ⟨some 5, none, .mov (.tmp 85)⟩]))))))
 (.ops false [
  ⟨some 18, none, .mov (.tmp 6)⟩,
  ⟨some 19, none, .bin .add (.tmp 18) (.cst (I 1))⟩,
  ⟨some 6, none, .mov (.tmp 19)⟩])))
def keep40_1 : Option (List Nat) := some [1, 2, 5, 6]
def code40 : MF := ⟨87, [(4, none)], (.seq (.ops false [
  ⟨some 2, none, .box (.tmp 0)⟩,
  ⟨some 4, none, .mov (.cst .nils)⟩])
 (.seq (.ops false [
  ⟨some 5, none, .mov (.cst .nils)⟩])
 (.seq (.seq (.ops false [
  ⟨some 6, none, .mov (.cst (I 0))⟩])
 (.block 0 (.loop keep40_1 body40_1)))
 (.seq (.ops false [
  ⟨some 86, none, .mov (.tmp 5)⟩,
  ⟨some 4, none, .mov (.tmp 86)⟩])
 .ret))))⟩
theorem comp40 : compF Cv 40 = some code40 := by kernel_rfl

def body41_0 : MC := (.seq (.seq (.ops false [
  ⟨some 10, none, .mov (.tmp 6)⟩,
  ⟨some 11, none, .fad (.tmp 2) 2⟩,
  ⟨some 12, none, .load none (.tmp 11)⟩,
  ⟨some 13, none, .len (.tmp 12)⟩,
  ⟨some 14, none, .bin .lss (.tmp 10) (.tmp 13)⟩])
 (.cond (.tmp 14) .skip (.exit 0)))
 (.seq (.block 1 (.seq (.ops false [
  ⟨some 17, none, .fad (.tmp 2) 2⟩,
  ⟨some 18, none, .load none (.tmp 17)⟩,
  ⟨some 19, none, .mov (.tmp 6)⟩,
  ⟨some 20, none, .ixs 4 (.tmp 18) (.tmp 19)⟩,
  ⟨some 21, none, .load (some 4) (.tmp 20)⟩,
  ⟨some 7, none, .alloc [(I 0), (I 0), (I 0), (I 0)]⟩,
  ⟨none, none, .store 4 (.tmp 7) (.tmp 21)⟩])
 (.seq (.ops false [
  ⟨some 22, none, .fad (.tmp 7) 3⟩,
  ⟨none, none, .store 1 (.tmp 22) (.cst (I 0))⟩])
 (.seq (.seq (.ops false [
  ⟨some 23, none, .mov (.tmp 1)⟩,
  ⟨some 24, none, .fad (.tmp 7) 0⟩,
  ⟨some 25, none, .load none (.tmp 24)⟩,
  ⟨some 26, none, .ixs 3 (.tmp 23) (.tmp 25)⟩,
  ⟨some 27, none, .load (some 3) (.tmp 26)⟩,
  ⟨some 28, none, .fad (.tmp 7) 1⟩,
  ⟨some 29, none, .load none (.tmp 28)⟩,
  ⟨some 30, none, .fad (.tmp 7) 2⟩,
  ⟨some 31, none, .load none (.tmp 30)⟩,
  ⟨some 32, none, .call (.cst (.fn (.func 45) [] [])) [(.tmp 27), (.tmp 29), (.tmp 31)]⟩])
 (.cond (.tmp 32) (.ops false [
  ⟨some 33, none, .fad (.tmp 7) 3⟩,
  ⟨none, none, .store 1 (.tmp 33) (.cst (I 1))⟩]) .skip))
 (.ops false [
  ⟨some 34, none, .fad (.tmp 5) 2⟩,
  ⟨some 35, none, .load none (.tmp 34)⟩,
  ⟨some 36, none, .load (some 4) (.tmp 7)⟩,
  ⟨some 37, none, .bsl 4 true (.agg [(I 0), (I 0), (I 0), (I 0)]) 1 [(0, (.tmp 36))]⟩,
  ⟨some 38, none, .app false 4 32 true (.tmp 35) (.tmp 37)⟩,
  ⟨some 39, none, .fad (.tmp 5) 2⟩,
  ⟨none, none, .store 1 (.tmp 39) (.tmp 38)⟩])))))
 (.ops false [
  ⟨some 15, none, .mov (.tmp 6)⟩,
  ⟨some 16, none, .bin .add (.tmp 15) (.cst (I 1))⟩,
  ⟨some 6, none, .mov (.tmp 16)⟩])))
def keep41_0 : Option (List Nat) := some [1, 2, 4, 5, 6]
def code41 : MF := ⟨41, [(4, some (some 3))], (.seq (.ops false [
  ⟨some 2, none, .box (.tmp 0)⟩,
  ⟨some 4, none, .alloc [.nils, (I 0), .nils]⟩])
 (.seq (.ops false [
  ⟨some 8, none, .load (some 3) (.tmp 2)⟩,
  ⟨some 5, none, .alloc [.nils, (I 0), .nils]⟩,
  ⟨none, none, .store 3 (.tmp 5) (.tmp 8)⟩])
 (.seq (.ops false [
  ⟨some 9, none, .fad (.tmp 5) 2⟩,
  ⟨none, none, .store 1 (.tmp 9) (.cst .nils)⟩])
 (.seq (.seq (.ops false [
  ⟨some 6, none, .mov (.cst (I 0))⟩])
 (.block 0 (.loop keep41_0 body41_0)))
 (.seq (.ops false [
  ⟨some 40, none, .load (some 3) (.tmp 5)⟩,
  ⟨none, none, .store 3 (.tmp 4) (.tmp 40)⟩])
 .ret)))))⟩
theorem comp41 : compF Cv 41 = some code41 := by kernel_rfl

def code42 : MF := ⟨17, [(4, none)], (.seq (.ops false [
  ⟨some 4, none, .mov (.cst (I 0))⟩])
 (.seq (.seq (.ops false [
  ⟨some 6, none, .mov (.tmp 1)⟩,
  ⟨some 7, none, .bin .lss (.tmp 6) (.cst (I 1))⟩])
 (.cond (.tmp 7) (.seq (.ops false [
  ⟨some 4, none, .mov (.cst (I 0))⟩])
 .ret) .skip))
 (.seq (.ops false [
  ⟨some 8, none, .mov (.tmp 0)⟩,
  ⟨some 9, none, .mov (.tmp 1)⟩,
  ⟨some 10, none, .bin .rem (.tmp 8) (.tmp 9)⟩,
  ⟨some 5, none, .mov (.tmp 10)⟩])
 (.seq (.seq (.ops false [
  ⟨some 11, none, .mov (.tmp 5)⟩,
  ⟨some 12, none, .bin .lss (.tmp 11) (.cst (I 0))⟩])
 (.cond (.tmp 12) (.ops false [
  ⟨some 13, none, .mov (.tmp 5)⟩,
  ⟨some 14, none, .mov (.tmp 1)⟩,
  ⟨some 15, none, .bin .add (.tmp 13) (.tmp 14)⟩,
  ⟨some 5, none, .mov (.tmp 15)⟩]) .skip))
 (.seq (.ops false [
  ⟨some 16, none, .mov (.tmp 5)⟩,
  ⟨some 4, none, .mov (.tmp 16)⟩])
 .ret)))))⟩
theorem comp42 : compF Cv 42 = some code42 := by kernel_rfl

def code43 : MF := ⟨11, [(4, none)], (.seq (.ops false [
  ⟨some 2, none, .box (.tmp 0)⟩,
  ⟨some 4, none, .mov (.cst (.bool false))⟩])
 (.seq (.ops false [
  ⟨some 5, none, .mov (.tmp 1)⟩,
  ⟨some 6, none, .fad (.tmp 2) 0⟩,
  ⟨some 7, none, .load none (.tmp 6)⟩,
  ⟨some 8, none, .fad (.tmp 2) 1⟩,
  ⟨some 9, none, .load none (.tmp 8)⟩,
  ⟨some 10, none, .call (.cst (.fn (.func 44) [] [])) [(.tmp 5), (.tmp 7), (.tmp 9)]⟩,
  ⟨some 4, none, .mov (.tmp 10)⟩])
 .ret))⟩
theorem comp43 : compF Cv 43 = some code43 := by kernel_rfl

def code44 : MF := ⟨15, [(6, none)], (.seq (.ops false [
  ⟨some 6, none, .mov (.cst (.bool false))⟩])
 (.seq (.ops false [
  ⟨some 7, none, .mov (.tmp 1)⟩,
  ⟨some 8, none, .mov (.tmp 0)⟩,
  ⟨some 9, none, .bin .leq (.tmp 7) (.tmp 8)⟩,
  ⟨some 10, none, .mov (.tmp 9)⟩,
  ⟨some 11, some ((some 10), true), .mov (.tmp 0)⟩,
  ⟨some 12, some ((some 10), true), .mov (.tmp 2)⟩,
  ⟨some 13, some ((some 10), true), .bin .leq (.tmp 11) (.tmp 12)⟩,
  ⟨some 14, none, .pick (.tmp 10) (.tmp 13) (.cst (.bool false))⟩,
  ⟨some 6, none, .mov (.tmp 14)⟩])
 .ret))⟩
theorem comp44 : compF Cv 44 = some code44 := by kernel_rfl

def code45 : MF := ⟨22, [(6, none)], (.seq (.ops false [
  ⟨some 3, none, .box (.tmp 0)⟩,
  ⟨some 6, none, .mov (.cst (.bool false))⟩])
 (.seq (.ops false [
  ⟨some 7, none, .mov (.tmp 1)⟩,
  ⟨some 8, none, .fad (.tmp 3) 1⟩,
  ⟨some 9, none, .load none (.tmp 8)⟩,
  ⟨some 10, none, .bin .lss (.tmp 7) (.tmp 9)⟩,
  ⟨some 11, none, .mov (.tmp 10)⟩,
  ⟨some 12, some ((some 11), true), .mov (.tmp 2)⟩,
  ⟨some 13, some ((some 11), true), .fad (.tmp 3) 0⟩,
  ⟨some 14, some ((some 11), true), .load none (.tmp 13)⟩,
  ⟨some 15, some ((some 11), true), .fad (.tmp 3) 2⟩,
  ⟨some 16, some ((some 11), true), .load none (.tmp 15)⟩,
  ⟨some 17, some ((some 11), true), .mov (.tmp 1)⟩,
  ⟨some 18, some ((some 11), true), .ixs 1 (.tmp 16) (.tmp 17)⟩,
  ⟨some 19, some ((some 11), true), .load none (.tmp 18)⟩,
  ⟨some 20, some ((some 11), true), .call (.cst (.fn (.func 44) [] [])) [(.tmp 12), (.tmp 14), (.tmp 19)]⟩,
  ⟨some 21, none, .pick (.tmp 11) (.tmp 20) (.cst (.bool false))⟩,
  ⟨some 6, none, .mov (.tmp 21)⟩])
 .ret))⟩
theorem comp45 : compF Cv 45 = some code45 := by kernel_rfl

def body46_0 : MC := (.seq (.seq (.ops false [
  ⟨some 6, none, .mov (.tmp 5)⟩,
  ⟨some 7, none, .mov (.tmp 0)⟩,
  ⟨some 8, none, .len (.tmp 7)⟩,
  ⟨some 9, none, .bin .lss (.tmp 6) (.tmp 8)⟩])
 (.cond (.tmp 9) .skip (.exit 0)))
 (.seq (.block 1 (.seq (.ops false [
  ⟨some 12, none, .mov (.tmp 0)⟩,
  ⟨some 13, none, .mov (.tmp 5)⟩,
  ⟨some 14, none, .ixs 1 (.tmp 12) (.tmp 13)⟩,
  ⟨some 15, none, .load none (.tmp 14)⟩,
  ⟨some 16, none, .mov (.tmp 1)⟩,
  ⟨some 17, none, .bin .sub (.tmp 16) (.cst (I 1))⟩,
  ⟨some 18, none, .call (.cst (.fn (.func 44) [] [])) [(.tmp 15), (.cst (I 0)), (.tmp 17)]⟩,
  ⟨some 19, none, .lnot (.tmp 18)⟩,
  ⟨some 20, none, .mov (.tmp 19)⟩,
  ⟨some 21, some ((some 20), false), .mov (.tmp 5)⟩,
  ⟨some 22, some ((some 20), false), .bin .gtr (.tmp 21) (.cst (I 0))⟩,
  ⟨some 23, some ((some 20), false), .mov (.tmp 22)⟩,
  ⟨some 24, some ((some 23), true), .mov (.tmp 0)⟩,
  ⟨some 25, some ((some 23), true), .mov (.tmp 5)⟩,
  ⟨some 26, some ((some 23), true), .ixs 1 (.tmp 24) (.tmp 25)⟩,
  ⟨some 27, some ((some 23), true), .load none (.tmp 26)⟩,
  ⟨some 28, some ((some 23), true), .mov (.tmp 0)⟩,
  ⟨some 29, some ((some 23), true), .mov (.tmp 5)⟩,
  ⟨some 30, some ((some 23), true), .bin .sub (.tmp 29) (.cst (I 1))⟩,
  ⟨some 31, some ((some 23), true), .ixs 1 (.tmp 28) (.tmp 30)⟩,
  ⟨some 32, some ((some 23), true), .load none (.tmp 31)⟩,
  ⟨some 33, some ((some 23), true), .bin .leq (.tmp 27) (.tmp 32)⟩,
  ⟨some 34, some ((some 20), false), .pick (.tmp 23) (.tmp 33) (.cst (.bool false))⟩,
  ⟨some 35, none, .pick (.tmp 20) (.cst (.bool true)) (.tmp 34)⟩])
 (.cond (.tmp 35) (.seq (.ops false [
  ⟨some 4, none, .mov (.cst (.bool false))⟩])
 .ret) .skip)))
 (.ops false [
  ⟨some 10, none, .mov (.tmp 5)⟩,
  ⟨some 11, none, .bin .add (.tmp 10) (.cst (I 1))⟩,
  ⟨some 5, none, .mov (.tmp 11)⟩])))
def keep46_0 : Option (List Nat) := some [0, 1, 5]
def code46 : MF := ⟨36, [(4, none)], (.seq (.ops false [
  ⟨some 4, none, .mov (.cst (.bool false))⟩])
 (.seq (.seq (.ops false [
  ⟨some 5, none, .mov (.cst (I 0))⟩])
 (.block 0 (.loop keep46_0 body46_0)))
 (.seq (.ops false [
  ⟨some 4, none, .mov (.cst (.bool true))⟩])
 .ret)))⟩
theorem comp46 : compF Cv 46 = some code46 := by kernel_rfl

def code47 : MF := ⟨6, [(2, some (some 2))], (.seq (.ops false [
  ⟨some 2, none, .alloc [(I 0), (I 0)]⟩])
 (.seq (.ops false [
  ⟨some 3, none, .mov (.tmp 0)⟩,
  ⟨some 4, none, .mov (.tmp 0)⟩,
  ⟨some 5, none, .bld [(I 0), (I 0)] [(0, 1, (.tmp 3)), (1, 1, (.tmp 4))]⟩,
  ⟨none, none, .store 2 (.tmp 2) (.tmp 5)⟩])
 .ret))⟩
theorem comp47 : compF Cv 47 = some code47 := by kernel_rfl

def code48 : MF := ⟨17, [(4, none)], (.seq (.ops false [
  ⟨some 2, none, .box (.tmp 0)⟩,
  ⟨some 3, none, .box (.tmp 1)⟩,
  ⟨some 4, none, .mov (.cst (.bool false))⟩])
 (.seq (.ops false [
  ⟨some 5, none, .fad (.tmp 3) 0⟩,
  ⟨some 6, none, .load none (.tmp 5)⟩,
  ⟨some 7, none, .fad (.tmp 2) 0⟩,
  ⟨some 8, none, .load none (.tmp 7)⟩,
  ⟨some 9, none, .bin .leq (.tmp 6) (.tmp 8)⟩,
  ⟨some 10, none, .mov (.tmp 9)⟩,
  ⟨some 11, some ((some 10), true), .fad (.tmp 2) 1⟩,
  ⟨some 12, some ((some 10), true), .load none (.tmp 11)⟩,
  ⟨some 13, some ((some 10), true), .fad (.tmp 3) 1⟩,
  ⟨some 14, some ((some 10), true), .load none (.tmp 13)⟩,
  ⟨some 15, some ((some 10), true), .bin .leq (.tmp 12) (.tmp 14)⟩,
  ⟨some 16, none, .pick (.tmp 10) (.tmp 15) (.cst (.bool false))⟩,
  ⟨some 4, none, .mov (.tmp 16)⟩])
 .ret))⟩
theorem comp48 : compF Cv 48 = some code48 := by kernel_rfl

def code49 : MF := ⟨16, [(4, some (some 3))], (.seq (.ops false [
  ⟨some 2, none, .box (.tmp 0)⟩,
  ⟨some 3, none, .box (.tmp 1)⟩,
  ⟨some 4, none, .alloc [.nils, (I 0), .nils]⟩])
 (.seq (.ops false [
  ⟨some 6, none, .load (some 3) (.tmp 2)⟩,
  ⟨some 5, none, .alloc [.nils, (I 0), .nils]⟩,
  ⟨none, none, .store 3 (.tmp 5) (.tmp 6)⟩])
 (.seq (.ops false [
  ⟨some 7, none, .bsl 4 true (.agg [(I 0), (I 0), (I 0), (I 0)]) 0 []⟩,
  ⟨some 8, none, .fad (.tmp 2) 2⟩,
  ⟨some 9, none, .load none (.tmp 8)⟩,
  ⟨some 10, none, .app false 4 32 true (.tmp 7) (.tmp 9)⟩,
  ⟨some 11, none, .load (some 4) (.tmp 3)⟩,
  ⟨some 12, none, .bsl 4 true (.agg [(I 0), (I 0), (I 0), (I 0)]) 1 [(0, (.tmp 11))]⟩,
  ⟨some 13, none, .app false 4 32 true (.tmp 10) (.tmp 12)⟩,
  ⟨some 14, none, .fad (.tmp 5) 2⟩,
  ⟨none, none, .store 1 (.tmp 14) (.tmp 13)⟩])
 (.seq (.ops false [
  ⟨some 15, none, .load (some 3) (.tmp 5)⟩,
  ⟨none, none, .store 3 (.tmp 4) (.tmp 15)⟩])
 .ret))))⟩
theorem comp49 : compF Cv 49 = some code49 := by kernel_rfl

def body50_0 : MC := (.seq (.seq (.ops false [
  ⟨some 5, none, .mov (.tmp 4)⟩,
  ⟨some 6, none, .mov (.tmp 0)⟩,
  ⟨some 7, none, .len (.tmp 6)⟩,
  ⟨some 8, none, .bin .lss (.tmp 5) (.tmp 7)⟩])
 (.cond (.tmp 8) .skip (.exit 0)))
 (.seq (.block 1 (.seq (.ops false [
  ⟨some 11, none, .mov (.tmp 0)⟩,
  ⟨some 12, none, .mov (.tmp 4)⟩,
  ⟨some 13, none, .ixs 1 (.tmp 11) (.tmp 12)⟩,
  ⟨some 14, none, .load none (.tmp 13)⟩,
  ⟨some 15, none, .call (.cst (.fn (.func 44) [] [])) [(.tmp 14), (.cst (I 0)), (.cst (I 61))]⟩])
 (.cond (.tmp 15) (.ops false [
  ⟨some 16, none, .mov (.tmp 3)⟩,
  ⟨some 17, none, .mov (.tmp 0)⟩,
  ⟨some 18, none, .mov (.tmp 4)⟩,
  ⟨some 19, none, .ixs 1 (.tmp 17) (.tmp 18)⟩,
  ⟨some 20, none, .load none (.tmp 19)⟩,
  ⟨some 21, none, .bin .shl (.cst (I 1)) (.tmp 20)⟩,
  ⟨some 22, none, .bin .or (.tmp 16) (.tmp 21)⟩,
  ⟨some 3, none, .mov (.tmp 22)⟩]) .skip)))
 (.ops false [
  ⟨some 9, none, .mov (.tmp 4)⟩,
  ⟨some 10, none, .bin .add (.tmp 9) (.cst (I 1))⟩,
  ⟨some 4, none, .mov (.tmp 10)⟩])))
def keep50_0 : Option (List Nat) := some [0, 3, 4]
def code50 : MF := ⟨24, [(2, none)], (.seq (.ops false [
  ⟨some 2, none, .mov (.cst (I 0))⟩])
 (.seq (.ops false [
  ⟨some 3, none, .mov (.cst (I 0))⟩])
 (.seq (.seq (.ops false [
  ⟨some 4, none, .mov (.cst (I 0))⟩])
 (.block 0 (.loop keep50_0 body50_0)))
 (.seq (.ops false [
  ⟨some 23, none, .mov (.tmp 3)⟩,
  ⟨some 2, none, .mov (.tmp 23)⟩])
 .ret))))⟩
theorem comp50 : compF Cv 50 = some code50 := by kernel_rfl

def code51 : MF := ⟨8, [(4, some (some 2))], (.seq (.ops false [
  ⟨some 4, none, .alloc [(I 0), (I 0)]⟩])
 (.seq (.ops false [
  ⟨some 5, none, .mov (.tmp 0)⟩,
  ⟨some 6, none, .mov (.tmp 1)⟩,
  ⟨some 7, none, .bld [(I 0), (I 0)] [(0, 1, (.tmp 5)), (1, 1, (.tmp 6))]⟩,
  ⟨none, none, .store 2 (.tmp 4) (.tmp 7)⟩])
 .ret))⟩
theorem comp51 : compF Cv 51 = some code51 := by kernel_rfl

def body52_0 : MC := (.seq (.seq (.ops false [
  ⟨some 8, none, .mov (.tmp 6)⟩,
  ⟨some 9, none, .mov (.tmp 1)⟩,
  ⟨some 10, none, .bin .lss (.tmp 8) (.tmp 9)⟩])
 (.cond (.tmp 10) .skip (.exit 0)))
 (.seq (.block 1 (.seq (.ops false [
  ⟨some 13, none, .mov (.tmp 0)⟩,
  ⟨some 14, none, .mov (.tmp 6)⟩,
  ⟨some 15, none, .call (.cst (.fn (.func 92) [] [])) [(.tmp 13), (.tmp 14)]⟩])
 (.cond (.tmp 15) (.ops false [
  ⟨some 16, none, .mov (.tmp 5)⟩,
  ⟨some 17, none, .mov (.tmp 6)⟩,
  ⟨some 18, none, .bsl 1 false (I 0) 1 [(0, (.tmp 17))]⟩,
  ⟨some 19, none, .app false 1 8 false (.tmp 16) (.tmp 18)⟩,
  ⟨some 5, none, .mov (.tmp 19)⟩]) .skip)))
 (.ops false [
  ⟨some 11, none, .mov (.tmp 6)⟩,
  ⟨some 12, none, .bin .add (.tmp 11) (.cst (I 1))⟩,
  ⟨some 6, none, .mov (.tmp 12)⟩])))
def keep52_0 : Option (List Nat) := some [0, 1, 5, 6]
def code52 : MF := ⟨21, [(4, none)], (.seq (.ops false [
  ⟨some 4, none, .mov (.cst .nils)⟩])
 (.seq (.ops false [
  ⟨some 7, none, .bsl 1 false (I 0) 0 []⟩,
  ⟨some 5, none, .mov (.tmp 7)⟩])
 (.seq (.seq (.ops false [
  ⟨some 6, none, .mov (.cst (I 0))⟩])
 (.block 0 (.loop keep52_0 body52_0)))
 (.seq (.ops false [
  ⟨some 20, none, .mov (.tmp 5)⟩,
  ⟨some 4, none, .mov (.tmp 20)⟩])
 .ret))))⟩
theorem comp52 : compF Cv 52 = some code52 := by kernel_rfl

def body53_0 : MC := (.seq (.seq (.ops false [
  ⟨some 6, none, .mov (.tmp 5)⟩,
  ⟨some 7, none, .mov (.tmp 0)⟩,
  ⟨some 8, none, .len (.tmp 7)⟩,
  ⟨some 9, none, .bin .lss (.tmp 6) (.tmp 8)⟩])
 (.cond (.tmp 9) .skip (.exit 0)))
 (.seq (.block 1 (.seq (.ops false [
  ⟨some 12, none, .mov (.tmp 0)⟩,
  ⟨some 13, none, .mov (.tmp 5)⟩,
  ⟨some 14, none, .ixs 1 (.tmp 12) (.tmp 13)⟩,
  ⟨some 15, none, .load none (.tmp 14)⟩,
  ⟨some 16, none, .mov (.tmp 1)⟩,
  ⟨some 17, none, .bin .eql (.tmp 15) (.tmp 16)⟩])
 (.cond (.tmp 17) (.seq (.ops false [
  ⟨some 18, none, .mov (.tmp 5)⟩,
  ⟨some 4, none, .mov (.tmp 18)⟩])
 .ret) .skip)))
 (.ops false [
  ⟨some 10, none, .mov (.tmp 5)⟩,
  ⟨some 11, none, .bin .add (.tmp 10) (.cst (I 1))⟩,
  ⟨some 5, none, .mov (.tmp 11)⟩])))
def keep53_0 : Option (List Nat) := some [0, 1, 5]
def code53 : MF := ⟨19, [(4, none)], (.seq (.ops false [
  ⟨some 4, none, .mov (.cst (I 0))⟩])
 (.seq (.seq (.ops false [
  ⟨some 5, none, .mov (.cst (I 0))⟩])
 (.block 0 (.loop keep53_0 body53_0)))
 (.seq (.ops false [
  ⟨some 4, none, .mov (.cst (I (-1)))⟩])
 .ret)))⟩
theorem comp53 : compF Cv 53 = some code53 := by kernel_rfl

def body54_0 : MC := (.seq (.seq (.ops false [
  ⟨some 9, none, .mov (.tmp 6)⟩,
  ⟨some 10, none, .fad (.tmp 2) 2⟩,
  ⟨some 11, none, .load none (.tmp 10)⟩,
  ⟨some 12, none, .len (.tmp 11)⟩,
  ⟨some 13, none, .bin .lss (.tmp 9) (.tmp 12)⟩])
 (.cond (.tmp 13) .skip (.exit 0)))
 (.seq (.block 1 (.seq (.ops false [
  ⟨some 16, none, .mov (.tmp 1)⟩,
  ⟨some 17, none, .mov (.tmp 6)⟩,
  ⟨some 18, none, .call (.cst (.fn (.func 53) [] [])) [(.tmp 16), (.tmp 17)]⟩,
  ⟨some 19, none, .bin .lss (.tmp 18) (.cst (I 0))⟩])
 (.cond (.tmp 19) (.ops false [
  ⟨some 20, none, .fad (.tmp 5) 2⟩,
  ⟨some 21, none, .load none (.tmp 20)⟩,
  ⟨some 22, none, .fad (.tmp 2) 2⟩,
  ⟨some 23, none, .load none (.tmp 22)⟩,
  ⟨some 24, none, .mov (.tmp 6)⟩,
  ⟨some 25, none, .ixs 4 (.tmp 23) (.tmp 24)⟩,
  ⟨some 26, none, .load (some 4) (.tmp 25)⟩,
  ⟨some 27, none, .bsl 4 true (.agg [(I 0), (I 0), (I 0), (I 0)]) 1 [(0, (.tmp 26))]⟩,
  ⟨some 28, none, .app false 4 32 true (.tmp 21) (.tmp 27)⟩,
  ⟨some 29, none, .fad (.tmp 5) 2⟩,
  ⟨none, none, .store 1 (.tmp 29) (.tmp 28)⟩]) .skip)))
 (.ops false [
  ⟨some 14, none, .mov (.tmp 6)⟩,
  ⟨some 15, none, .bin .add (.tmp 14) (.cst (I 1))⟩,
  ⟨some 6, none, .mov (.tmp 15)⟩])))
def keep54_0 : Option (List Nat) := some [1, 2, 4, 5, 6]
def code54 : MF := ⟨31, [(4, some (some 3))], (.seq (.ops false [
  ⟨some 2, none, .box (.tmp 0)⟩,
  ⟨some 4, none, .alloc [.nils, (I 0), .nils]⟩])
 (.seq (.ops false [
  ⟨some 7, none, .load (some 3) (.tmp 2)⟩,
  ⟨some 5, none, .alloc [.nils, (I 0), .nils]⟩,
  ⟨none, none, .store 3 (.tmp 5) (.tmp 7)⟩])
 (.seq (.ops false [
  ⟨some 8, none, .fad (.tmp 5) 2⟩,
  ⟨none, none, .store 1 (.tmp 8) (.cst .nils)⟩])
 (.seq (.seq (.ops false [
  ⟨some 6, none, .mov (.cst (I 0))⟩])
 (.block 0 (.loop keep54_0 body54_0)))
 (.seq (.ops false [
  ⟨some 30, none, .load (some 3) (.tmp 5)⟩,
  ⟨none, none, .store 3 (.tmp 4) (.tmp 30)⟩])
 .ret)))))⟩
theorem comp54 : compF Cv 54 = some code54 := by kernel_rfl

def code55 : MF := ⟨22, [(4, none)], (.seq (.ops false [
  ⟨some 4, none, .mov (.cst (.bool false))⟩])
 (.seq (.ops false [
  ⟨some 5, none, .mov (.tmp 0)⟩,
  ⟨some 6, none, .len (.tmp 5)⟩,
  ⟨some 7, none, .mov (.tmp 1)⟩,
  ⟨some 8, none, .len (.tmp 7)⟩,
  ⟨some 9, none, .bin .lss (.tmp 6) (.tmp 8)⟩,
  ⟨some 10, none, .mov (.tmp 9)⟩,
  ⟨some 11, some ((some 10), false), .mov (.tmp 0)⟩,
  ⟨some 12, some ((some 10), false), .len (.tmp 11)⟩,
  ⟨some 13, some ((some 10), false), .mov (.tmp 1)⟩,
  ⟨some 14, some ((some 10), false), .len (.tmp 13)⟩,
  ⟨some 15, some ((some 10), false), .bin .eql (.tmp 12) (.tmp 14)⟩,
  ⟨some 16, some ((some 10), false), .mov (.tmp 15)⟩,
  ⟨some 17, some ((some 16), true), .mov (.tmp 0)⟩,
  ⟨some 18, some ((some 16), true), .mov (.tmp 1)⟩,
  ⟨some 19, some ((some 16), true), .call (.cst (.fn (.func 93) [] [])) [(.tmp 17), (.tmp 18)]⟩,
  ⟨some 20, some ((some 10), false), .pick (.tmp 16) (.tmp 19) (.cst (.bool false))⟩,
  ⟨some 21, none, .pick (.tmp 10) (.cst (.bool true)) (.tmp 20)⟩,
  ⟨some 4, none, .mov (.tmp 21)⟩])
 .ret))⟩
theorem comp55 : compF Cv 55 = some code55 := by kernel_rfl

def code56 : MF := ⟨2, [(0, some (some 3))], (.seq (.ops false [
  ⟨some 0, none, .alloc [.nils, (I 0), .nils]⟩])
 (.seq (.ops false [
  ⟨some 1, none, .call (.cst (.fn (.func 57) [] [])) [(.cst .nils)]⟩,
  ⟨none, none, .store 3 (.tmp 0) (.tmp 1)⟩])
 .ret))⟩
theorem comp56 : compF Cv 56 = some code56 := by kernel_rfl

def code57 : MF := ⟨18, [(2, some (some 3))], (.seq (.ops false [
  ⟨some 2, none, .alloc [.nils, (I 0), .nils]⟩])
 (.seq (.ops false [
  ⟨some 3, none, .call (.cst (.fn (.func 51) [] [])) [(.cst (I 5)), (.cst (I 6))]⟩,
  ⟨some 4, none, .call (.cst (.fn (.func 51) [] [])) [(.cst (I 20)), (.cst (I 21))]⟩,
  ⟨some 5, none, .call (.cst (.fn (.func 51) [] [])) [(.cst (I 1)), (.cst (I 2))]⟩,
  ⟨some 6, none, .call (.cst (.fn (.func 51) [] [])) [(.cst (I 2)), (.cst (I 3))]⟩,
  ⟨some 7, none, .call (.cst (.fn (.func 51) [] [])) [(.cst (I 3)), (.cst (I 5))]⟩,
  ⟨some 8, none, .bld [(I 0), (I 0), (I 0), (I 0), (I 0), (I 0), (I 0), (I 0), (I 0), (I 0), (I 0)] [(0, 2, (.tmp 3)), (2, 2, (.tmp 4)), (4, 2, (.tmp 5)), (6, 2, (.tmp 6)), (8, 1, (.cst (I 1))), (9, 2, (.tmp 7))]⟩,
  ⟨some 9, none, .call (.cst (.fn (.func 47) [] [])) [(.cst (I 8))]⟩,
  ⟨some 10, none, .call (.cst (.fn (.func 47) [] [])) [(.cst (I 18))]⟩,
  ⟨some 11, none, .call (.cst (.fn (.func 51) [] [])) [(.cst (I 0)), (.cst (I 1))]⟩,
  ⟨some 12, none, .call (.cst (.fn (.func 47) [] [])) [(.cst (I 1))]⟩,
  ⟨some 13, none, .call (.cst (.fn (.func 51) [] [])) [(.cst (I 6)), (.cst (I 7))]⟩,
  ⟨some 14, none, .bld [(I 0), (I 0), (I 0), (I 0), (I 0), (I 0), (I 0), (I 0), (I 0), (I 0), (I 0)] [(0, 2, (.tmp 9)), (2, 2, (.tmp 10)), (4, 2, (.tmp 11)), (6, 2, (.tmp 12)), (9, 2, (.tmp 13))]⟩,
  ⟨some 15, none, .bsl 11 true (.agg [(I 0), (I 0), (I 0), (I 0), (I 0), (I 0), (I 0), (I 0), (I 0), (I 0), (I 0)]) 2 [(0, (.tmp 8)), (1, (.tmp 14))]⟩,
  ⟨some 16, none, .mov (.tmp 0)⟩,
  ⟨some 17, none, .bld [.nils, (I 0), .nils] [(0, 1, (.tmp 15)), (1, 1, (.cst (I 4))), (2, 1, (.tmp 16))]⟩,
  ⟨none, none, .store 3 (.tmp 2) (.tmp 17)⟩])
 .ret))⟩
theorem comp57 : compF Cv 57 = some code57 := by kernel_rfl

def code58 : MF := ⟨5, [(0, some (some 3))], (.seq (.ops false [
  ⟨some 0, none, .alloc [.nils, (I 0), .nils]⟩])
 (.seq (.ops false [
  ⟨some 1, none, .bld [(I 0), (I 0), (I 0), (I 0)] [(1, 1, (.cst (I 3))), (2, 1, (.cst (I 15)))]⟩,
  ⟨some 2, none, .bld [(I 0), (I 0), (I 0), (I 0)] [(1, 1, (.cst (I 3))), (2, 1, (.cst (I 20))), (3, 1, (.cst (I 1)))]⟩,
  ⟨some 3, none, .bsl 4 true (.agg [(I 0), (I 0), (I 0), (I 0)]) 2 [(0, (.tmp 1)), (1, (.tmp 2))]⟩,
  ⟨some 4, none, .call (.cst (.fn (.func 57) [] [])) [(.tmp 3)]⟩,
  ⟨none, none, .store 3 (.tmp 0) (.tmp 4)⟩])
 .ret))⟩
theorem comp58 : compF Cv 58 = some code58 := by kernel_rfl

def code59 : MF := ⟨4, [(0, some (some 3))], (.seq (.ops false [
  ⟨some 0, none, .alloc [.nils, (I 0), .nils]⟩])
 (.seq (.ops false [
  ⟨some 1, none, .bld [(I 0), (I 0), (I 0), (I 0)] [(1, 1, (.cst (I 3))), (2, 1, (.cst (I 15)))]⟩,
  ⟨some 2, none, .bsl 4 true (.agg [(I 0), (I 0), (I 0), (I 0)]) 1 [(0, (.tmp 1))]⟩,
  ⟨some 3, none, .call (.cst (.fn (.func 57) [] [])) [(.tmp 2)]⟩,
  ⟨none, none, .store 3 (.tmp 0) (.tmp 3)⟩])
 .ret))⟩
theorem comp59 : compF Cv 59 = some code59 := by kernel_rfl

def body60_0 : MC := (.seq (.ops false [
  ⟨some 36, none, .bin .lss (.tmp 35) (.tmp 34)⟩])
 (.seq (.cond (.tmp 36) .skip (.exit 4))
 (.seq (.block 5 (.seq (.ops false [
  ⟨some 37, none, .mov (.tmp 35)⟩,
  ⟨some 9, none, .mov (.tmp 37)⟩])
 (.seq (.ops false [
  ⟨some 38, none, .load none (.tmp 6)⟩,
  ⟨some 39, none, .mov (.tmp 9)⟩,
  ⟨some 40, none, .bld [(I 0), (I 0)] [(0, 1, (.tmp 38)), (1, 1, (.tmp 39))]⟩,
  ⟨some 10, none, .alloc [(I 0), (I 0)]⟩,
  ⟨none, none, .store 2 (.tmp 10) (.tmp 40)⟩])
 (.seq (.ops false [
  ⟨some 41, none, .load (some 2) (.tmp 10)⟩,
  ⟨some 42, none, .load (some 2) (.cst (.rp [(I (-1)), (I (-1))] 0))⟩,
  ⟨some 43, none, .eqa 2 true (.tmp 41) (.tmp 42)⟩])
 (.cond (.tmp 43) (.ops false [
  ⟨some 44, none, .fad (.tmp 5) 4⟩,
  ⟨some 45, none, .load none (.tmp 44)⟩,
  ⟨some 46, none, .load (some 2) (.tmp 10)⟩,
  ⟨some 48, none, .load (some 5) (.tmp 8)⟩,
  ⟨some 49, none, .bsl 5 true (.agg [(I 0), (I 0), (I 0), (I 0), (I 0)]) 1 [(0, (.tmp 48))]⟩,
  ⟨some 50, none, .ment (some 2) .nils (.tmp 45) (.tmp 46)⟩,
  ⟨some 47, none, .ext (.tmp 50) 0⟩,
  ⟨some 51, none, .app false 5 40 true (.tmp 47) (.tmp 49)⟩,
  ⟨some 52, none, .ext (.tmp 50) 1⟩,
  ⟨none, none, .esto (.tmp 45) (.tmp 52) (.tmp 51)⟩]) .skip)))))
 (.ops false [
  ⟨some 53, none, .bin .add (.tmp 35) (.cst (I 1))⟩,
  ⟨some 35, none, .mov (.tmp 53)⟩]))))
def keep60_0 : Option (List Nat) := some [5, 6, 8, 34, 35]
def asg60_1 : MC := (.ops false [
  ⟨some 8, none, .alloc [(I 0), (I 0), (I 0), (I 0), (I 0)]⟩,
  ⟨none, none, .store 5 (.tmp 8) (.tmp 24)⟩])
def body60_1 : MC := (.block 3 (.seq (.ops false [
  ⟨some 25, none, .load none (.tmp 7)⟩,
  ⟨some 26, none, .load (some 5) (.tmp 8)⟩,
  ⟨some 27, none, .bsl 5 true (.agg [(I 0), (I 0), (I 0), (I 0), (I 0)]) 1 [(0, (.tmp 26))]⟩,
  ⟨some 28, none, .app false 5 40 true (.tmp 25) (.tmp 27)⟩,
  ⟨none, none, .store 1 (.tmp 7) (.tmp 28)⟩])
 (.seq (.ops false [
  ⟨some 29, none, .fad (.tmp 2) 1⟩,
  ⟨some 30, none, .load none (.tmp 29)⟩,
  ⟨some 31, none, .ixa 5 1 (.tmp 8) (.cst (I 4))⟩,
  ⟨some 32, none, .load none (.tmp 31)⟩,
  ⟨some 33, none, .bsl 1 false (I 0) 1 [(0, (.tmp 32))]⟩,
  ⟨some 34, none, .call (.cst (.fn (.func 95) [] [])) [(.tmp 30), (.tmp 33)]⟩,
  ⟨some 35, none, .mov (.cst (I 0))⟩])
 (.block 4 (.loop keep60_0 body60_0)))))
def body60_2 : MC := (.seq (.ops false [
  ⟨some 18, none, .bin .lss (.tmp 17) (.tmp 16)⟩])
 (.seq (.cond (.tmp 18) .skip (.exit 0))
 (.seq (.block 1 (.seq (.ops false [
  ⟨some 19, none, .mov (.tmp 17)⟩,
  ⟨some 6, none, .alloc [(I 0)]⟩,
  ⟨none, none, .store 1 (.tmp 6) (.tmp 19)⟩])
 (.seq (.ops false [
  ⟨some 7, none, .alloc [.nils]⟩])
 (.seq (.seq (.ops false [
  ⟨some 20, none, .load (some 5) (.tmp 5)⟩,
  ⟨some 21, none, .load none (.tmp 6)⟩,
  ⟨some 22, none, .mov (.tmp 1)⟩,
  ⟨some 23, none, .call (.cst (.fn (.func 94) [] [])) [(.tmp 20), (.tmp 21), (.tmp 22)]⟩])
 (.block 2 (.range (.tmp 23) [24] asg60_1 body60_1)))
 (.ops false [
  ⟨some 54, none, .fad (.tmp 5) 3⟩,
  ⟨some 55, none, .load none (.tmp 54)⟩,
  ⟨some 56, none, .load none (.tmp 7)⟩,
  ⟨some 57, none, .bsl 1 false .nils 1 [(0, (.tmp 56))]⟩,
  ⟨some 58, none, .app false 1 24 false (.tmp 55) (.tmp 57)⟩,
  ⟨some 59, none, .fad (.tmp 5) 3⟩,
  ⟨none, none, .store 1 (.tmp 59) (.tmp 58)⟩])))))
 (.ops false [
  ⟨some 60, none, .bin .add (.tmp 17) (.cst (I 1))⟩,
  ⟨some 17, none, .mov (.tmp 60)⟩]))))
def keep60_2 : Option (List Nat) := some [1, 2, 4, 5, 16, 17]
def code60 : MF := ⟨62, [(4, some (some 5))], (.seq (.ops false [
  ⟨some 2, none, .box (.tmp 0)⟩,
  ⟨some 4, none, .alloc [.nils, (I 0), .nils, .nils, .nilm]⟩])
 (.seq (.ops false [
  ⟨some 11, none, .load (some 3) (.tmp 2)⟩,
  ⟨some 12, none, .mkm⟩,
  ⟨some 13, none, .bld [.nils, (I 0), .nils, .nils, .nilm] [(0, 3, (.tmp 11)), (4, 1, (.tmp 12))]⟩,
  ⟨some 5, none, .alloc [.nils, (I 0), .nils, .nils, .nilm]⟩,
  ⟨none, none, .store 5 (.tmp 5) (.tmp 13)⟩])
 (.seq (.seq (.ops false [
  ⟨some 14, none, .fad (.tmp 2) 0⟩,
  ⟨some 15, none, .load none (.tmp 14)⟩,
  ⟨some 16, none, .len (.tmp 15)⟩,
  ⟨some 17, none, .mov (.cst (I 0))⟩])
 (.block 0 (.loop keep60_2 body60_2)))
 (.seq (.ops false [
  ⟨some 61, none, .load (some 5) (.tmp 5)⟩,
  ⟨none, none, .store 5 (.tmp 4) (.tmp 61)⟩])
 .ret))))⟩
theorem comp60 : compF Cv 60 = some code60 := by kernel_rfl

def code61 : MF := ⟨7, [(2, none)], (.seq (.ops false [
  ⟨some 1, none, .box (.tmp 0)⟩,
  ⟨some 2, none, .mov (.cst (.bool false))⟩])
 (.seq (.ops false [
  ⟨some 3, none, .fad (.tmp 1) 3⟩,
  ⟨some 4, none, .load none (.tmp 3)⟩,
  ⟨some 5, none, .call (.cst (.fn (.func 96) [] [])) [(.tmp 4), (.cst (.fn (.func 97) [] []))]⟩,
  ⟨some 6, none, .lnot (.tmp 5)⟩,
  ⟨some 2, none, .mov (.tmp 6)⟩])
 .ret))⟩
theorem comp61 : compF Cv 61 = some code61 := by kernel_rfl

def body62_0 : MC := (.seq (.seq (.ops false [
  ⟨some 6, none, .mov (.tmp 5)⟩,
  ⟨some 7, none, .fad (.tmp 2) 0⟩,
  ⟨some 8, none, .load none (.tmp 7)⟩,
  ⟨some 9, none, .len (.tmp 8)⟩,
  ⟨some 10, none, .bin .lss (.tmp 6) (.tmp 9)⟩])
 (.cond (.tmp 10) .skip (.exit 0)))
 (.seq (.block 1 (.seq (.ops false [
  ⟨some 13, none, .load (some 3) (.tmp 2)⟩,
  ⟨some 14, none, .mov (.tmp 5)⟩,
  ⟨some 15, none, .mov (.tmp 1)⟩,
  ⟨some 16, none, .call (.cst (.fn (.func 71) [] [])) [(.tmp 13), (.tmp 14), (.tmp 15)]⟩,
  ⟨some 17, none, .len (.tmp 16)⟩,
  ⟨some 18, none, .bin .eql (.tmp 17) (.cst (I 0))⟩])
 (.cond (.tmp 18) (.seq (.ops false [
  ⟨some 4, none, .mov (.cst (.bool false))⟩])
 .ret) .skip)))
 (.ops false [
  ⟨some 11, none, .mov (.tmp 5)⟩,
  ⟨some 12, none, .bin .add (.tmp 11) (.cst (I 1))⟩,
  ⟨some 5, none, .mov (.tmp 12)⟩])))
def keep62_0 : Option (List Nat) := some [1, 2, 5]
def code62 : MF := ⟨19, [(4, none)], (.seq (.ops false [
  ⟨some 2, none, .box (.tmp 0)⟩,
  ⟨some 4, none, .mov (.cst (.bool false))⟩])
 (.seq (.seq (.ops false [
  ⟨some 5, none, .mov (.cst (I 0))⟩])
 (.block 0 (.loop keep62_0 body62_0)))
 (.seq (.ops false [
  ⟨some 4, none, .mov (.cst (.bool true))⟩])
 .ret)))⟩
theorem comp62 : compF Cv 62 = some code62 := by kernel_rfl

def code63 : MF := ⟨15, [(6, none)], (.seq (.ops false [
  ⟨some 6, none, .mov (.cst (.bool false))⟩])
 (.seq (.ops false [
  ⟨some 7, none, .mov (.tmp 1)⟩,
  ⟨some 8, none, .mov (.tmp 0)⟩,
  ⟨some 9, none, .bin .leq (.tmp 7) (.tmp 8)⟩,
  ⟨some 10, none, .mov (.tmp 9)⟩,
  ⟨some 11, some ((some 10), true), .mov (.tmp 0)⟩,
  ⟨some 12, some ((some 10), true), .mov (.tmp 2)⟩,
  ⟨some 13, some ((some 10), true), .bin .leq (.tmp 11) (.tmp 12)⟩,
  ⟨some 14, none, .pick (.tmp 10) (.tmp 13) (.cst (.bool false))⟩,
  ⟨some 6, none, .mov (.tmp 14)⟩])
 .ret))⟩
theorem comp63 : compF Cv 63 = some code63 := by kernel_rfl

def code64 : MF := ⟨32, [(6, none)], (.seq (.ops false [
  ⟨some 3, none, .box (.tmp 0)⟩,
  ⟨some 6, none, .mov (.cst (.bool false))⟩])
 (.seq (.ops false [
  ⟨some 7, none, .fad (.tmp 3) 0⟩,
  ⟨some 8, none, .load none (.tmp 7)⟩,
  ⟨some 9, none, .bin .leq (.cst (I 0)) (.tmp 8)⟩,
  ⟨some 10, none, .mov (.tmp 9)⟩,
  ⟨some 11, some ((some 10), true), .fad (.tmp 3) 0⟩,
  ⟨some 12, some ((some 10), true), .load none (.tmp 11)⟩,
  ⟨some 13, some ((some 10), true), .fad (.tmp 3) 1⟩,
  ⟨some 14, some ((some 10), true), .load none (.tmp 13)⟩,
  ⟨some 15, some ((some 10), true), .bin .leq (.tmp 12) (.tmp 14)⟩,
  ⟨some 16, none, .pick (.tmp 10) (.tmp 15) (.cst (.bool false))⟩,
  ⟨some 17, none, .mov (.tmp 16)⟩,
  ⟨some 18, some ((some 17), true), .fad (.tmp 3) 1⟩,
  ⟨some 19, some ((some 17), true), .load none (.tmp 18)⟩,
  ⟨some 20, some ((some 17), true), .mov (.tmp 1)⟩,
  ⟨some 21, some ((some 17), true), .bin .leq (.tmp 19) (.tmp 20)⟩,
  ⟨some 22, none, .pick (.tmp 17) (.tmp 21) (.cst (.bool false))⟩,
  ⟨some 23, none, .mov (.tmp 22)⟩,
  ⟨some 24, some ((some 23), true), .fad (.tmp 3) 1⟩,
  ⟨some 25, some ((some 23), true), .load none (.tmp 24)⟩,
  ⟨some 26, some ((some 23), true), .fad (.tmp 3) 0⟩,
  ⟨some 27, some ((some 23), true), .load none (.tmp 26)⟩,
  ⟨some 28, some ((some 23), true), .bin .sub (.tmp 25) (.tmp 27)⟩,
  ⟨some 29, some ((some 23), true), .mov (.tmp 2)⟩,
  ⟨some 30, some ((some 23), true), .bin .leq (.tmp 28) (.tmp 29)⟩,
  ⟨some 31, none, .pick (.tmp 23) (.tmp 30) (.cst (.bool false))⟩,
  ⟨some 6, none, .mov (.tmp 31)⟩])
 .ret))⟩
theorem comp64 : compF Cv 64 = some code64 := by kernel_rfl

def code65 : MF := ⟨25, [(4, none)], (.seq (.ops false [
  ⟨some 2, none, .box (.tmp 0)⟩,
  ⟨some 3, none, .box (.tmp 1)⟩,
  ⟨some 4, none, .mov (.cst (.bool false))⟩])
 (.seq (.ops false [
  ⟨some 5, none, .load (some 3) (.tmp 2)⟩,
  ⟨some 6, none, .fad (.tmp 3) 0⟩,
  ⟨some 7, none, .load none (.tmp 6)⟩,
  ⟨some 8, none, .call (.cst (.fn (.func 74) [] [])) [(.tmp 5), (.tmp 7)]⟩,
  ⟨some 9, none, .mov (.tmp 8)⟩,
  ⟨some 10, some ((some 9), true), .load (some 3) (.tmp 2)⟩,
  ⟨some 11, some ((some 9), true), .fad (.tmp 3) 1⟩,
  ⟨some 12, some ((some 9), true), .load none (.tmp 11)⟩,
  ⟨some 13, some ((some 9), true), .call (.cst (.fn (.func 75) [] [])) [(.tmp 10), (.tmp 12)]⟩,
  ⟨some 14, none, .pick (.tmp 9) (.tmp 13) (.cst (.bool false))⟩,
  ⟨some 15, none, .mov (.tmp 14)⟩,
  ⟨some 16, some ((some 15), true), .fad (.tmp 3) 2⟩,
  ⟨some 17, some ((some 15), true), .load none (.tmp 16)⟩,
  ⟨some 18, some ((some 15), true), .call (.cst (.fn (.func 81) [] [])) [(.tmp 17)]⟩,
  ⟨some 19, none, .pick (.tmp 15) (.tmp 18) (.cst (.bool false))⟩,
  ⟨some 20, none, .mov (.tmp 19)⟩,
  ⟨some 21, some ((some 20), true), .fad (.tmp 3) 3⟩,
  ⟨some 22, some ((some 20), true), .load none (.tmp 21)⟩,
  ⟨some 23, some ((some 20), true), .call (.cst (.fn (.func 63) [] [])) [(.tmp 22), (.cst (I 0)), (.cst (I 1))]⟩,
  ⟨some 24, none, .pick (.tmp 20) (.tmp 23) (.cst (.bool false))⟩,
  ⟨some 4, none, .mov (.tmp 24)⟩])
 .ret))⟩
theorem comp65 : compF Cv 65 = some code65 := by kernel_rfl

def code66 : MF := ⟨35, [(8, none)], (.seq (.ops false [
  ⟨some 4, none, .box (.tmp 0)⟩,
  ⟨some 8, none, .mov (.cst (.bool false))⟩])
 (.seq (.ops false [
  ⟨some 9, none, .mov (.tmp 1)⟩,
  ⟨some 10, none, .fad (.tmp 4) 0⟩,
  ⟨some 11, none, .load none (.tmp 10)⟩,
  ⟨some 12, none, .bin .leq (.tmp 9) (.tmp 11)⟩,
  ⟨some 13, none, .mov (.tmp 12)⟩,
  ⟨some 14, some ((some 13), true), .fad (.tmp 4) 0⟩,
  ⟨some 15, some ((some 13), true), .load none (.tmp 14)⟩,
  ⟨some 16, some ((some 13), true), .fad (.tmp 4) 1⟩,
  ⟨some 17, some ((some 13), true), .load none (.tmp 16)⟩,
  ⟨some 18, some ((some 13), true), .bin .leq (.tmp 15) (.tmp 17)⟩,
  ⟨some 19, none, .pick (.tmp 13) (.tmp 18) (.cst (.bool false))⟩,
  ⟨some 20, none, .mov (.tmp 19)⟩,
  ⟨some 21, some ((some 20), true), .fad (.tmp 4) 1⟩,
  ⟨some 22, some ((some 20), true), .load none (.tmp 21)⟩,
  ⟨some 23, some ((some 20), true), .mov (.tmp 2)⟩,
  ⟨some 24, some ((some 20), true), .bin .leq (.tmp 22) (.tmp 23)⟩,
  ⟨some 25, none, .pick (.tmp 20) (.tmp 24) (.cst (.bool false))⟩,
  ⟨some 26, none, .mov (.tmp 25)⟩,
  ⟨some 27, some ((some 26), true), .fad (.tmp 4) 1⟩,
  ⟨some 28, some ((some 26), true), .load none (.tmp 27)⟩,
  ⟨some 29, some ((some 26), true), .fad (.tmp 4) 0⟩,
  ⟨some 30, some ((some 26), true), .load none (.tmp 29)⟩,
  ⟨some 31, some ((some 26), true), .bin .sub (.tmp 28) (.tmp 30)⟩,
  ⟨some 32, some ((some 26), true), .mov (.tmp 3)⟩,
  ⟨some 33, some ((some 26), true), .bin .leq (.tmp 31) (.tmp 32)⟩,
  ⟨some 34, none, .pick (.tmp 26) (.tmp 33) (.cst (.bool false))⟩,
  ⟨some 8, none, .mov (.tmp 34)⟩])
 .ret))⟩
theorem comp66 : compF Cv 66 = some code66 := by kernel_rfl

def code67 : MF := ⟨25, [(4, none)], (.seq (.ops false [
  ⟨some 2, none, .box (.tmp 0)⟩,
  ⟨some 3, none, .box (.tmp 1)⟩,
  ⟨some 4, none, .mov (.cst (.bool false))⟩])
 (.seq (.ops false [
  ⟨some 5, none, .load (some 3) (.tmp 2)⟩,
  ⟨some 6, none, .fad (.tmp 3) 0⟩,
  ⟨some 7, none, .load none (.tmp 6)⟩,
  ⟨some 8, none, .call (.cst (.fn (.func 70) [] [])) [(.tmp 5), (.tmp 7)]⟩,
  ⟨some 9, none, .mov (.tmp 8)⟩,
  ⟨some 10, some ((some 9), true), .load (some 3) (.tmp 2)⟩,
  ⟨some 11, some ((some 9), true), .fad (.tmp 3) 1⟩,
  ⟨some 12, some ((some 9), true), .load none (.tmp 11)⟩,
  ⟨some 13, some ((some 9), true), .call (.cst (.fn (.func 79) [] [])) [(.tmp 10), (.tmp 12)]⟩,
  ⟨some 14, none, .pick (.tmp 9) (.tmp 13) (.cst (.bool false))⟩,
  ⟨some 15, none, .mov (.tmp 14)⟩,
  ⟨some 16, some ((some 15), true), .fad (.tmp 3) 2⟩,
  ⟨some 17, some ((some 15), true), .load none (.tmp 16)⟩,
  ⟨some 18, some ((some 15), true), .call (.cst (.fn (.func 84) [] [])) [(.tmp 17)]⟩,
  ⟨some 19, none, .pick (.tmp 15) (.tmp 18) (.cst (.bool false))⟩,
  ⟨some 20, none, .mov (.tmp 19)⟩,
  ⟨some 21, some ((some 20), true), .fad (.tmp 3) 3⟩,
  ⟨some 22, some ((some 20), true), .load none (.tmp 21)⟩,
  ⟨some 23, some ((some 20), true), .call (.cst (.fn (.func 44) [] [])) [(.tmp 22), (.cst (I 0)), (.cst (I 1))]⟩,
  ⟨some 24, none, .pick (.tmp 20) (.tmp 23) (.cst (.bool false))⟩,
  ⟨some 4, none, .mov (.tmp 24)⟩])
 .ret))⟩
theorem comp67 : compF Cv 67 = some code67 := by kernel_rfl

def code68 : MF := ⟨30, [(6, some (some 2)), (7, none)], (.seq (.ops false [
  ⟨some 3, none, .box (.tmp 0)⟩,
  ⟨some 6, none, .alloc [(I 0), (I 0)]⟩,
  ⟨some 7, none, .mov (.cst (I 0))⟩])
 (.seq (.ops true [
  ⟨some 11, none, .load (some 3) (.tmp 3)⟩,
  ⟨some 12, none, .load (some 3) (.tmp 3)⟩,
  ⟨some 13, none, .mov (.tmp 1)⟩,
  ⟨some 14, none, .call (.cst (.fn (.func 74) [] [])) [(.tmp 12), (.tmp 13)]⟩,
  ⟨some 15, none, .call (.cst (.fn (.func 73) [] [])) [(.tmp 11), (.tmp 14)]⟩,
  ⟨some 10, none, .mov (.tmp 15)⟩,
  ⟨some 16, none, .ext (.tmp 10) 0⟩,
  ⟨some 17, none, .ext (.tmp 10) 1⟩,
  ⟨some 8, none, .alloc [.nils, (I 0), .nils, .nils, .nilm]⟩,
  ⟨none, none, .store 5 (.tmp 8) (.tmp 16)⟩,
  ⟨some 9, none, .mov (.tmp 17)⟩])
 (.seq (.seq (.ops false [
  ⟨some 18, none, .mov (.tmp 9)⟩,
  ⟨some 19, none, .bin .neq (.tmp 18) (.cst (I 0))⟩])
 (.cond (.tmp 19) (.seq (.ops false [
  ⟨some 20, none, .bld [(I 0), (I 0)] []⟩,
  ⟨some 21, none, .mov (.tmp 9)⟩,
  ⟨none, none, .store 2 (.tmp 6) (.tmp 20)⟩,
  ⟨some 7, none, .mov (.tmp 21)⟩])
 .ret) .skip))
 (.seq (.ops true [
  ⟨some 22, none, .mov (.tmp 2)⟩,
  ⟨some 23, none, .call (.cst (.fn (.func 98) [] [])) [(.tmp 22)]⟩,
  ⟨some 24, none, .fad (.tmp 8) 3⟩,
  ⟨some 25, none, .load none (.tmp 24)⟩,
  ⟨some 26, none, .mov (.tmp 1)⟩,
  ⟨some 27, none, .ixs 1 (.tmp 25) (.tmp 26)⟩,
  ⟨some 28, none, .load none (.tmp 27)⟩,
  ⟨some 29, none, .call (.cst (.fn (.func 78) [] [])) [(.tmp 23), (.tmp 28)]⟩,
  ⟨none, none, .store 2 (.tmp 6) (.tmp 29)⟩,
  ⟨some 7, none, .mov (.cst (I 0))⟩])
 .ret))))⟩
theorem comp68 : compF Cv 68 = some code68 := by kernel_rfl

def code69 : MF := ⟨16, [(4, none)], (.seq (.ops false [
  ⟨some 2, none, .box (.tmp 0)⟩,
  ⟨some 4, none, .mov (.cst (I 0))⟩])
 (.seq (.seq (.ops false [
  ⟨some 6, none, .load (some 3) (.tmp 2)⟩,
  ⟨some 7, none, .call (.cst (.fn (.func 18) [] [])) [(.tmp 6)]⟩,
  ⟨some 5, none, .mov (.tmp 7)⟩])
 (.seq (.ops false [
  ⟨some 8, none, .mov (.tmp 5)⟩,
  ⟨some 9, none, .bin .neq (.tmp 8) (.cst (I 0))⟩])
 (.cond (.tmp 9) (.seq (.ops false [
  ⟨some 10, none, .mov (.tmp 5)⟩,
  ⟨some 4, none, .mov (.tmp 10)⟩])
 .ret) .skip)))
 (.seq (.seq (.ops false [
  ⟨some 11, none, .mov (.tmp 1)⟩,
  ⟨some 12, none, .lnot (.tmp 11)⟩])
 (.cond (.tmp 12) (.seq (.ops false [
  ⟨some 4, none, .mov (.cst (I 21))⟩])
 .ret) .skip))
 (.seq (.seq (.ops false [
  ⟨some 13, none, .load (some 3) (.tmp 2)⟩,
  ⟨some 14, none, .call (.cst (.fn (.func 62) [] [])) [(.tmp 13), (.cst (I 0))]⟩,
  ⟨some 15, none, .lnot (.tmp 14)⟩])
 (.cond (.tmp 15) (.seq (.ops false [
  ⟨some 4, none, .mov (.cst (I 22))⟩])
 .ret) .skip))
 (.seq (.ops false [
  ⟨some 4, none, .mov (.cst (I 0))⟩])
 .ret)))))⟩
theorem comp69 : compF Cv 69 = some code69 := by kernel_rfl

def code70 : MF := ⟨11, [(4, none)], (.seq (.ops false [
  ⟨some 2, none, .box (.tmp 0)⟩,
  ⟨some 4, none, .mov (.cst (.bool false))⟩])
 (.seq (.ops false [
  ⟨some 5, none, .mov (.tmp 1)⟩,
  ⟨some 6, none, .fad (.tmp 2) 0⟩,
  ⟨some 7, none, .load none (.tmp 6)⟩,
  ⟨some 8, none, .len (.tmp 7)⟩,
  ⟨some 9, none, .bin .sub (.tmp 8) (.cst (I 1))⟩,
  ⟨some 10, none, .call (.cst (.fn (.func 44) [] [])) [(.tmp 5), (.cst (I 0)), (.tmp 9)]⟩,
  ⟨some 4, none, .mov (.tmp 10)⟩])
 .ret))⟩
theorem comp70 : compF Cv 70 = some code70 := by kernel_rfl

def body71_0 : MC := (.seq (.seq (.ops false [
  ⟨some 78, none, .fad (.tmp 9) 5⟩,
  ⟨some 79, none, .load none (.tmp 78)⟩,
  ⟨some 80, none, .fad (.tmp 8) 9⟩,
  ⟨some 81, none, .fad (.tmp 80) 1⟩,
  ⟨some 82, none, .load none (.tmp 81)⟩,
  ⟨some 83, none, .bin .leq (.tmp 79) (.tmp 82)⟩])
 (.cond (.tmp 83) .skip (.exit 8)))
 (.seq (.block 9 (.seq (.ops false [
  ⟨some 88, none, .load (some 3) (.tmp 3)⟩,
  ⟨some 89, none, .mov (.tmp 1)⟩,
  ⟨some 90, none, .load (some 6) (.tmp 9)⟩,
  ⟨some 91, none, .mov (.tmp 2)⟩,
  ⟨some 92, none, .call (.cst (.fn (.func 99) [] [])) [(.tmp 88), (.tmp 89), (.tmp 90), (.tmp 91)]⟩])
 (.cond (.tmp 92) (.ops false [
  ⟨some 93, none, .mov (.tmp 7)⟩,
  ⟨some 94, none, .load (some 6) (.tmp 9)⟩,
  ⟨some 95, none, .bsl 6 true (.agg [(I 0), (I 0), (I 0), (I 0), (I 0), (I 0)]) 1 [(0, (.tmp 94))]⟩,
  ⟨some 96, none, .app false 6 48 true (.tmp 93) (.tmp 95)⟩,
  ⟨some 7, none, .mov (.tmp 96)⟩]) .skip)))
 (.ops false [
  ⟨some 84, none, .fad (.tmp 9) 5⟩,
  ⟨some 85, none, .load none (.tmp 84)⟩,
  ⟨some 86, none, .bin .add (.tmp 85) (.cst (I 1))⟩,
  ⟨some 87, none, .fad (.tmp 9) 5⟩,
  ⟨none, none, .store 1 (.tmp 87) (.tmp 86)⟩])))
def keep71_0 : Option (List Nat) := some [1, 2, 3, 7, 8, 9]
def body71_1 : MC := (.seq (.seq (.ops false [
  ⟨some 64, none, .fad (.tmp 9) 3⟩,
  ⟨some 65, none, .load none (.tmp 64)⟩,
  ⟨some 66, none, .fad (.tmp 8) 6⟩,
  ⟨some 67, none, .fad (.tmp 66) 1⟩,
  ⟨some 68, none, .load none (.tmp 67)⟩,
  ⟨some 69, none, .bin .leq (.tmp 65) (.tmp 68)⟩])
 (.cond (.tmp 69) .skip (.exit 6)))
 (.seq (.block 7 (.seq (.ops false [
  ⟨some 74, none, .fad (.tmp 8) 9⟩,
  ⟨some 75, none, .fad (.tmp 74) 0⟩,
  ⟨some 76, none, .load none (.tmp 75)⟩,
  ⟨some 77, none, .fad (.tmp 9) 5⟩,
  ⟨none, none, .store 1 (.tmp 77) (.tmp 76)⟩])
 (.block 8 (.loop keep71_0 body71_0))))
 (.ops false [
  ⟨some 70, none, .fad (.tmp 9) 3⟩,
  ⟨some 71, none, .load none (.tmp 70)⟩,
  ⟨some 72, none, .bin .add (.tmp 71) (.cst (I 1))⟩,
  ⟨some 73, none, .fad (.tmp 9) 3⟩,
  ⟨none, none, .store 1 (.tmp 73) (.tmp 72)⟩])))
def keep71_1 : Option (List Nat) := some [1, 2, 3, 7, 8, 9]
def body71_2 : MC := (.seq (.seq (.ops false [
  ⟨some 50, none, .fad (.tmp 9) 2⟩,
  ⟨some 51, none, .load none (.tmp 50)⟩,
  ⟨some 52, none, .fad (.tmp 8) 4⟩,
  ⟨some 53, none, .fad (.tmp 52) 1⟩,
  ⟨some 54, none, .load none (.tmp 53)⟩,
  ⟨some 55, none, .bin .leq (.tmp 51) (.tmp 54)⟩])
 (.cond (.tmp 55) .skip (.exit 4)))
 (.seq (.block 5 (.seq (.ops false [
  ⟨some 60, none, .fad (.tmp 8) 6⟩,
  ⟨some 61, none, .fad (.tmp 60) 0⟩,
  ⟨some 62, none, .load none (.tmp 61)⟩,
  ⟨some 63, none, .fad (.tmp 9) 3⟩,
  ⟨none, none, .store 1 (.tmp 63) (.tmp 62)⟩])
 (.block 6 (.loop keep71_1 body71_1))))
 (.ops false [
  ⟨some 56, none, .fad (.tmp 9) 2⟩,
  ⟨some 57, none, .load none (.tmp 56)⟩,
  ⟨some 58, none, .bin .add (.tmp 57) (.cst (I 1))⟩,
  ⟨some 59, none, .fad (.tmp 9) 2⟩,
  ⟨none, none, .store 1 (.tmp 59) (.tmp 58)⟩])))
def keep71_2 : Option (List Nat) := some [1, 2, 3, 7, 8, 9]
def body71_3 : MC := (.seq (.seq (.ops false [
  ⟨some 36, none, .fad (.tmp 9) 1⟩,
  ⟨some 37, none, .load none (.tmp 36)⟩,
  ⟨some 38, none, .fad (.tmp 8) 2⟩,
  ⟨some 39, none, .fad (.tmp 38) 1⟩,
  ⟨some 40, none, .load none (.tmp 39)⟩,
  ⟨some 41, none, .bin .leq (.tmp 37) (.tmp 40)⟩])
 (.cond (.tmp 41) .skip (.exit 2)))
 (.seq (.block 3 (.seq (.ops false [
  ⟨some 46, none, .fad (.tmp 8) 4⟩,
  ⟨some 47, none, .fad (.tmp 46) 0⟩,
  ⟨some 48, none, .load none (.tmp 47)⟩,
  ⟨some 49, none, .fad (.tmp 9) 2⟩,
  ⟨none, none, .store 1 (.tmp 49) (.tmp 48)⟩])
 (.block 4 (.loop keep71_2 body71_2))))
 (.ops false [
  ⟨some 42, none, .fad (.tmp 9) 1⟩,
  ⟨some 43, none, .load none (.tmp 42)⟩,
  ⟨some 44, none, .bin .add (.tmp 43) (.cst (I 1))⟩,
  ⟨some 45, none, .fad (.tmp 9) 1⟩,
  ⟨none, none, .store 1 (.tmp 45) (.tmp 44)⟩])))
def keep71_3 : Option (List Nat) := some [1, 2, 3, 7, 8, 9]
def body71_4 : MC := (.seq (.seq (.ops false [
  ⟨some 22, none, .fad (.tmp 9) 0⟩,
  ⟨some 23, none, .load none (.tmp 22)⟩,
  ⟨some 24, none, .fad (.tmp 8) 0⟩,
  ⟨some 25, none, .fad (.tmp 24) 1⟩,
  ⟨some 26, none, .load none (.tmp 25)⟩,
  ⟨some 27, none, .bin .leq (.tmp 23) (.tmp 26)⟩])
 (.cond (.tmp 27) .skip (.exit 0)))
 (.seq (.block 1 (.seq (.ops false [
  ⟨some 32, none, .fad (.tmp 8) 2⟩,
  ⟨some 33, none, .fad (.tmp 32) 0⟩,
  ⟨some 34, none, .load none (.tmp 33)⟩,
  ⟨some 35, none, .fad (.tmp 9) 1⟩,
  ⟨none, none, .store 1 (.tmp 35) (.tmp 34)⟩])
 (.block 2 (.loop keep71_3 body71_3))))
 (.ops false [
  ⟨some 28, none, .fad (.tmp 9) 0⟩,
  ⟨some 29, none, .load none (.tmp 28)⟩,
  ⟨some 30, none, .bin .add (.tmp 29) (.cst (I 1))⟩,
  ⟨some 31, none, .fad (.tmp 9) 0⟩,
  ⟨none, none, .store 1 (.tmp 31) (.tmp 30)⟩])))
def keep71_4 : Option (List Nat) := some [1, 2, 3, 7, 8, 9]
def code71 : MF := ⟨98, [(6, none)], (.seq (.ops false [
  ⟨some 3, none, .box (.tmp 0)⟩,
  ⟨some 6, none, .mov (.cst .nils)⟩])
 (.seq (.ops false [
  ⟨some 7, none, .mov (.cst .nils)⟩])
 (.seq (.ops false [
  ⟨some 10, none, .fad (.tmp 3) 0⟩,
  ⟨some 11, none, .load none (.tmp 10)⟩,
  ⟨some 12, none, .mov (.tmp 1)⟩,
  ⟨some 13, none, .ixs 11 (.tmp 11) (.tmp 12)⟩,
  ⟨some 14, none, .load (some 11) (.tmp 13)⟩,
  ⟨some 8, none, .alloc [(I 0), (I 0), (I 0), (I 0), (I 0), (I 0), (I 0), (I 0), (I 0), (I 0), (I 0)]⟩,
  ⟨none, none, .store 11 (.tmp 8) (.tmp 14)⟩])
 (.seq (.ops false [
  ⟨some 15, none, .fad (.tmp 8) 8⟩,
  ⟨some 16, none, .load none (.tmp 15)⟩,
  ⟨some 17, none, .bld [(I 0), (I 0), (I 0), (I 0), (I 0), (I 0)] [(4, 1, (.tmp 16))]⟩,
  ⟨some 9, none, .alloc [(I 0), (I 0), (I 0), (I 0), (I 0), (I 0)]⟩,
  ⟨none, none, .store 6 (.tmp 9) (.tmp 17)⟩])
 (.seq (.seq (.ops false [
  ⟨some 18, none, .fad (.tmp 8) 0⟩,
  ⟨some 19, none, .fad (.tmp 18) 0⟩,
  ⟨some 20, none, .load none (.tmp 19)⟩,
  ⟨some 21, none, .fad (.tmp 9) 0⟩,
  ⟨none, none, .store 1 (.tmp 21) (.tmp 20)⟩])
 (.block 0 (.loop keep71_4 body71_4)))
 (.seq (.ops false [
  ⟨some 97, none, .mov (.tmp 7)⟩,
  ⟨some 6, none, .mov (.tmp 97)⟩])
 .ret))))))⟩
theorem comp71 : compF Cv 71 = some code71 := by kernel_rfl

def body72_0 : MC := (.seq (.seq (.ops false [
  ⟨some 9, none, .mov (.tmp 4)⟩,
  ⟨some 10, none, .mov (.tmp 0)⟩,
  ⟨some 11, none, .len (.tmp 10)⟩,
  ⟨some 12, none, .bin .lss (.tmp 9) (.tmp 11)⟩])
 (.cond (.tmp 12) .skip (.exit 0)))
 (.seq (.block 1 (.ops true [
  ⟨some 15, none, .load (some 2) (.tmp 3)⟩,
  ⟨some 16, none, .mov (.tmp 0)⟩,
  ⟨some 17, none, .mov (.tmp 4)⟩,
  ⟨some 18, none, .ixs 1 (.tmp 16) (.tmp 17)⟩,
  ⟨some 19, none, .load none (.tmp 18)⟩,
  ⟨some 20, none, .call (.cst (.fn (.func 47) [] [])) [(.tmp 19)]⟩,
  ⟨some 21, none, .call (.cst (.fn (.func 100) [] [])) [(.tmp 15), (.tmp 20)]⟩,
  ⟨none, none, .store 2 (.tmp 3) (.tmp 21)⟩]))
 (.ops false [
  ⟨some 13, none, .mov (.tmp 4)⟩,
  ⟨some 14, none, .bin .add (.tmp 13) (.cst (I 1))⟩,
  ⟨some 4, none, .mov (.tmp 14)⟩])))
def keep72_0 : Option (List Nat) := some [0, 2, 3, 4]
def code72 : MF := ⟨23, [(2, some (some 2))], (.seq (.ops false [
  ⟨some 2, none, .alloc [(I 0), (I 0)]⟩])
 (.seq (.ops false [
  ⟨some 5, none, .mov (.tmp 0)⟩,
  ⟨some 6, none, .ixs 1 (.tmp 5) (.cst (I 0))⟩,
  ⟨some 7, none, .load none (.tmp 6)⟩,
  ⟨some 8, none, .call (.cst (.fn (.func 47) [] [])) [(.tmp 7)]⟩,
  ⟨some 3, none, .alloc [(I 0), (I 0)]⟩,
  ⟨none, none, .store 2 (.tmp 3) (.tmp 8)⟩])
 (.seq (.seq (.ops false [
  ⟨some 4, none, .mov (.cst (I 0))⟩])
 (.block 0 (.loop keep72_0 body72_0)))
 (.seq (.ops false [
  ⟨some 22, none, .load (some 2) (.tmp 3)⟩,
  ⟨none, none, .store 2 (.tmp 2) (.tmp 22)⟩])
 .ret))))⟩
theorem comp72 : compF Cv 72 = some code72 := by kernel_rfl

def code73 : MF := ⟨24, [(4, some (some 5)), (5, none)], (.seq (.ops false [
  ⟨some 2, none, .box (.tmp 0)⟩,
  ⟨some 4, none, .alloc [.nils, (I 0), .nils, .nils, .nilm]⟩,
  ⟨some 5, none, .mov (.cst (I 0))⟩])
 (.seq (.seq (.ops false [
  ⟨some 8, none, .load (some 3) (.tmp 2)⟩,
  ⟨some 9, none, .call (.cst (.fn (.func 17) [] [])) [(.tmp 8)]⟩,
  ⟨some 6, none, .mov (.tmp 9)⟩])
 (.seq (.ops false [
  ⟨some 10, none, .mov (.tmp 6)⟩,
  ⟨some 11, none, .bin .neq (.tmp 10) (.cst (I 0))⟩])
 (.cond (.tmp 11) (.seq (.ops false [
  ⟨some 12, none, .bld [.nils, (I 0), .nils, .nils, .nilm] []⟩,
  ⟨some 13, none, .mov (.tmp 6)⟩,
  ⟨none, none, .store 5 (.tmp 4) (.tmp 12)⟩,
  ⟨some 5, none, .mov (.tmp 13)⟩])
 .ret) .skip)))
 (.seq (.seq (.ops false [
  ⟨some 14, none, .mov (.tmp 1)⟩,
  ⟨some 15, none, .lnot (.tmp 14)⟩])
 (.cond (.tmp 15) (.seq (.ops false [
  ⟨some 16, none, .bld [.nils, (I 0), .nils, .nils, .nilm] []⟩,
  ⟨none, none, .store 5 (.tmp 4) (.tmp 16)⟩,
  ⟨some 5, none, .mov (.cst (I 21))⟩])
 .ret) .skip))
 (.seq (.ops false [
  ⟨some 17, none, .load (some 3) (.tmp 2)⟩,
  ⟨some 18, none, .call (.cst (.fn (.func 60) [] [])) [(.tmp 17), (.cst .nils)]⟩,
  ⟨some 7, none, .alloc [.nils, (I 0), .nils, .nils, .nilm]⟩,
  ⟨none, none, .store 5 (.tmp 7) (.tmp 18)⟩])
 (.seq (.seq (.ops false [
  ⟨some 19, none, .load (some 5) (.tmp 7)⟩,
  ⟨some 20, none, .call (.cst (.fn (.func 61) [] [])) [(.tmp 19)]⟩,
  ⟨some 21, none, .lnot (.tmp 20)⟩])
 (.cond (.tmp 21) (.seq (.ops false [
  ⟨some 22, none, .load (some 5) (.tmp 7)⟩,
  ⟨none, none, .store 5 (.tmp 4) (.tmp 22)⟩,
  ⟨some 5, none, .mov (.cst (I 22))⟩])
 .ret) .skip))
 (.seq (.ops false [
  ⟨some 23, none, .load (some 5) (.tmp 7)⟩,
  ⟨none, none, .store 5 (.tmp 4) (.tmp 23)⟩,
  ⟨some 5, none, .mov (.cst (I 0))⟩])
 .ret))))))⟩
theorem comp73 : compF Cv 73 = some code73 := by kernel_rfl

def code74 : MF := ⟨11, [(4, none)], (.seq (.ops false [
  ⟨some 2, none, .box (.tmp 0)⟩,
  ⟨some 4, none, .mov (.cst (.bool false))⟩])
 (.seq (.ops false [
  ⟨some 5, none, .mov (.tmp 1)⟩,
  ⟨some 6, none, .fad (.tmp 2) 0⟩,
  ⟨some 7, none, .load none (.tmp 6)⟩,
  ⟨some 8, none, .len (.tmp 7)⟩,
  ⟨some 9, none, .bin .sub (.tmp 8) (.cst (I 1))⟩,
  ⟨some 10, none, .call (.cst (.fn (.func 63) [] [])) [(.tmp 5), (.cst (I 0)), (.tmp 9)]⟩,
  ⟨some 4, none, .mov (.tmp 10)⟩])
 .ret))⟩
theorem comp74 : compF Cv 74 = some code74 := by kernel_rfl

def code75 : MF := ⟨10, [(4, none)], (.seq (.ops false [
  ⟨some 2, none, .box (.tmp 0)⟩,
  ⟨some 4, none, .mov (.cst (.bool false))⟩])
 (.seq (.ops false [
  ⟨some 5, none, .mov (.tmp 1)⟩,
  ⟨some 6, none, .fad (.tmp 2) 1⟩,
  ⟨some 7, none, .load none (.tmp 6)⟩,
  ⟨some 8, none, .bin .sub (.tmp 7) (.cst (I 1))⟩,
  ⟨some 9, none, .call (.cst (.fn (.func 63) [] [])) [(.tmp 5), (.cst (I 0)), (.tmp 8)]⟩,
  ⟨some 4, none, .mov (.tmp 9)⟩])
 .ret))⟩
theorem comp75 : compF Cv 75 = some code75 := by kernel_rfl

def code76 : MF := ⟨11, [(5, none)], (.seq (.ops false [
  ⟨some 4, none, .box (.tmp 0)⟩,
  ⟨some 5, none, .mov (.cst (I 0))⟩])
 (.seq (.ops false [
  ⟨some 6, none, .load (some 5) (.tmp 1)⟩,
  ⟨some 7, none, .load none (.tmp 2)⟩,
  ⟨some 8, none, .load (some 5) (.tmp 4)⟩,
  ⟨some 9, none, .load none (.tmp 3)⟩,
  ⟨some 10, none, .call (.cst (.fn (.func 77) [] [])) [(.tmp 6), (.tmp 7), (.tmp 8), (.tmp 9)]⟩,
  ⟨some 5, none, .mov (.tmp 10)⟩])
 .ret))⟩
theorem comp76 : compF Cv 76 = some code76 := by kernel_rfl

def code77 : MF := ⟨34, [(8, none)], (.seq (.ops false [
  ⟨some 4, none, .box (.tmp 0)⟩,
  ⟨some 6, none, .box (.tmp 2)⟩,
  ⟨some 8, none, .mov (.cst (I 0))⟩])
 (.seq (.ops false [
  ⟨some 10, none, .mov (.tmp 3)⟩,
  ⟨some 11, none, .ixa 5 1 (.tmp 6) (.cst (I 3))⟩,
  ⟨some 12, none, .load none (.tmp 11)⟩,
  ⟨some 13, none, .bsl 1 false (I 0) 1 [(0, (.tmp 12))]⟩,
  ⟨some 14, none, .call (.cst (.fn (.func 95) [] [])) [(.tmp 10), (.tmp 13)]⟩,
  ⟨some 9, none, .mov (.tmp 14)⟩])
 (.seq (.ops false [
  ⟨some 15, none, .ixa 5 1 (.tmp 6) (.cst (I 1))⟩,
  ⟨some 16, none, .load none (.tmp 15)⟩,
  ⟨some 17, none, .mov (.tmp 9)⟩,
  ⟨some 18, none, .ixa 5 1 (.tmp 6) (.cst (I 2))⟩,
  ⟨some 19, none, .load none (.tmp 18)⟩,
  ⟨some 20, none, .bin .mul (.tmp 17) (.tmp 19)⟩,
  ⟨some 21, none, .bin .add (.tmp 16) (.tmp 20)⟩,
  ⟨some 22, none, .mov (.tmp 3)⟩,
  ⟨some 23, none, .mov (.tmp 9)⟩,
  ⟨some 24, none, .bin .sub (.tmp 22) (.tmp 23)⟩,
  ⟨some 25, none, .fad (.tmp 4) 0⟩,
  ⟨some 26, none, .fad (.tmp 25) 0⟩,
  ⟨some 27, none, .load none (.tmp 26)⟩,
  ⟨some 28, none, .mov (.tmp 1)⟩,
  ⟨some 29, none, .ixs 11 (.tmp 27) (.tmp 28)⟩,
  ⟨some 30, none, .fad (.tmp 29) 8⟩,
  ⟨some 31, none, .load none (.tmp 30)⟩,
  ⟨some 32, none, .bin .mul (.tmp 24) (.tmp 31)⟩,
  ⟨some 33, none, .bin .sub (.tmp 21) (.tmp 32)⟩,
  ⟨some 8, none, .mov (.tmp 33)⟩])
 .ret)))⟩
theorem comp77 : compF Cv 77 = some code77 := by kernel_rfl

def body78_0 : MC := (.seq (.ops false [
  ⟨some 21, none, .bin .lss (.tmp 20) (.tmp 19)⟩])
 (.seq (.cond (.tmp 21) .skip (.exit 0))
 (.seq (.block 1 (.seq (.ops false [
  ⟨some 22, none, .ixs 5 (.tmp 18) (.tmp 20)⟩,
  ⟨some 23, none, .load (some 5) (.tmp 22)⟩,
  ⟨some 8, none, .alloc [(I 0), (I 0), (I 0), (I 0), (I 0)]⟩,
  ⟨none, none, .store 5 (.tmp 8) (.tmp 23)⟩])
 (.ops true [
  ⟨some 24, none, .fad (.tmp 6) 0⟩,
  ⟨some 25, none, .load none (.tmp 24)⟩,
  ⟨some 26, none, .fad (.tmp 2) 0⟩,
  ⟨some 27, none, .load none (.tmp 26)⟩,
  ⟨some 28, none, .load (some 5) (.tmp 8)⟩,
  ⟨some 29, none, .call (.tmp 27) [(.tmp 28)]⟩,
  ⟨some 30, none, .bsl 1 false (I 0) 1 [(0, (.tmp 29))]⟩,
  ⟨some 31, none, .call (.cst (.fn (.func 95) [] [])) [(.tmp 25), (.tmp 30)]⟩,
  ⟨some 32, none, .fad (.tmp 6) 1⟩,
  ⟨some 33, none, .load none (.tmp 32)⟩,
  ⟨some 34, none, .fad (.tmp 2) 0⟩,
  ⟨some 35, none, .load none (.tmp 34)⟩,
  ⟨some 36, none, .load (some 5) (.tmp 8)⟩,
  ⟨some 37, none, .call (.tmp 35) [(.tmp 36)]⟩,
  ⟨some 38, none, .mx (.tmp 33) [(.tmp 37)]⟩,
  ⟨some 39, none, .bld [(I 0), (I 0)] [(0, 1, (.tmp 31)), (1, 1, (.tmp 38))]⟩,
  ⟨none, none, .store 2 (.tmp 6) (.tmp 39)⟩])))
 (.ops false [
  ⟨some 40, none, .bin .add (.tmp 20) (.cst (I 1))⟩,
  ⟨some 20, none, .mov (.tmp 40)⟩]))))
def keep78_0 : Option (List Nat) := some [2, 4, 6, 18, 19, 20]
def code78 : MF := ⟨42, [(4, some (some 2))], (.seq (.ops false [
  ⟨some 2, none, .box (.tmp 0)⟩,
  ⟨some 4, none, .alloc [(I 0), (I 0)]⟩])
 (.seq (.ops false [
  ⟨some 9, none, .fad (.tmp 2) 0⟩,
  ⟨some 10, none, .load none (.tmp 9)⟩,
  ⟨some 11, none, .mov (.tmp 1)⟩,
  ⟨some 12, none, .ixs 5 (.tmp 11) (.cst (I 0))⟩,
  ⟨some 13, none, .load (some 5) (.tmp 12)⟩,
  ⟨some 14, none, .call (.tmp 10) [(.tmp 13)]⟩,
  ⟨some 5, none, .mov (.tmp 14)⟩])
 (.seq (.ops false [
  ⟨some 15, none, .mov (.tmp 5)⟩,
  ⟨some 16, none, .mov (.tmp 5)⟩,
  ⟨some 17, none, .bld [(I 0), (I 0)] [(0, 1, (.tmp 15)), (1, 1, (.tmp 16))]⟩,
  ⟨some 6, none, .alloc [(I 0), (I 0)]⟩,
  ⟨none, none, .store 2 (.tmp 6) (.tmp 17)⟩])
 (.seq (.seq (.ops false [
  ⟨some 18, none, .mov (.tmp 1)⟩,
  ⟨some 19, none, .len (.tmp 18)⟩,
  ⟨some 20, none, .mov (.cst (I 0))⟩])
 (.block 0 (.loop keep78_0 body78_0)))
 (.seq (.ops false [
  ⟨some 41, none, .load (some 2) (.tmp 6)⟩,
  ⟨none, none, .store 2 (.tmp 4) (.tmp 41)⟩])
 .ret)))))⟩
theorem comp78 : compF Cv 78 = some code78 := by kernel_rfl

def code79 : MF := ⟨10, [(4, none)], (.seq (.ops false [
  ⟨some 2, none, .box (.tmp 0)⟩,
  ⟨some 4, none, .mov (.cst (.bool false))⟩])
 (.seq (.ops false [
  ⟨some 5, none, .mov (.tmp 1)⟩,
  ⟨some 6, none, .fad (.tmp 2) 1⟩,
  ⟨some 7, none, .load none (.tmp 6)⟩,
  ⟨some 8, none, .bin .sub (.tmp 7) (.cst (I 1))⟩,
  ⟨some 9, none, .call (.cst (.fn (.func 44) [] [])) [(.tmp 5), (.cst (I 0)), (.tmp 8)]⟩,
  ⟨some 4, none, .mov (.tmp 9)⟩])
 .ret))⟩
theorem comp79 : compF Cv 79 = some code79 := by kernel_rfl

def code80 : MF := ⟨24, [(4, none)], (.seq (.ops false [
  ⟨some 2, none, .box (.tmp 0)⟩,
  ⟨some 4, none, .mov (.cst (I 0))⟩])
 (.seq (.ops false [
  ⟨some 6, none, .mov (.tmp 1)⟩,
  ⟨some 7, none, .fad (.tmp 2) 3⟩,
  ⟨some 8, none, .load none (.tmp 7)⟩,
  ⟨some 9, none, .mn (.tmp 6) [(.tmp 8)]⟩,
  ⟨some 5, none, .mov (.tmp 9)⟩])
 (.seq (.ops false [
  ⟨some 10, none, .fad (.tmp 2) 1⟩,
  ⟨some 11, none, .load none (.tmp 10)⟩,
  ⟨some 12, none, .mov (.tmp 5)⟩,
  ⟨some 13, none, .fad (.tmp 2) 2⟩,
  ⟨some 14, none, .load none (.tmp 13)⟩,
  ⟨some 15, none, .bin .mul (.tmp 12) (.tmp 14)⟩,
  ⟨some 16, none, .bin .add (.tmp 11) (.tmp 15)⟩,
  ⟨some 17, none, .mov (.tmp 1)⟩,
  ⟨some 18, none, .mov (.tmp 5)⟩,
  ⟨some 19, none, .bin .sub (.tmp 17) (.tmp 18)⟩,
  ⟨some 20, none, .fad (.tmp 2) 4⟩,
  ⟨some 21, none, .load none (.tmp 20)⟩,
  ⟨some 22, none, .bin .mul (.tmp 19) (.tmp 21)⟩,
  ⟨some 23, none, .bin .sub (.tmp 16) (.tmp 22)⟩,
  ⟨some 4, none, .mov (.tmp 23)⟩])
 .ret)))⟩
theorem comp80 : compF Cv 80 = some code80 := by kernel_rfl

def code81 : MF := ⟨5, [(2, none)], (.seq (.ops false [
  ⟨some 2, none, .mov (.cst (.bool false))⟩])
 (.seq (.ops false [
  ⟨some 3, none, .mov (.tmp 0)⟩,
  ⟨some 4, none, .call (.cst (.fn (.func 63) [] [])) [(.tmp 3), (.cst (I 0)), (.cst (I 40))]⟩,
  ⟨some 2, none, .mov (.tmp 4)⟩])
 .ret))⟩
theorem comp81 : compF Cv 81 = some code81 := by kernel_rfl

def body82_0 : MC := (.seq (.ops false [
  ⟨some 27, none, .bin .lss (.tmp 26) (.tmp 25)⟩])
 (.seq (.cond (.tmp 27) .skip (.exit 0))
 (.seq (.block 1 (.seq (.ops false [
  ⟨some 28, none, .ixs 5 (.tmp 24) (.tmp 26)⟩,
  ⟨some 29, none, .load (some 5) (.tmp 28)⟩,
  ⟨some 11, none, .alloc [(I 0), (I 0), (I 0), (I 0), (I 0)]⟩,
  ⟨none, none, .store 5 (.tmp 11) (.tmp 29)⟩])
 (.seq (.ops false [
  ⟨some 30, none, .load (some 5) (.tmp 4)⟩,
  ⟨some 31, none, .mov (.tmp 1)⟩,
  ⟨some 32, none, .load (some 5) (.tmp 11)⟩,
  ⟨some 33, none, .mov (.tmp 2)⟩,
  ⟨some 34, none, .mov (.tmp 3)⟩,
  ⟨some 35, none, .call (.cst (.fn (.func 101) [] [])) [(.tmp 30), (.tmp 31), (.tmp 32), (.tmp 33), (.tmp 34)]⟩])
 (.cond (.tmp 35) (.ops false [
  ⟨some 36, none, .fad (.tmp 9) 0⟩,
  ⟨some 37, none, .load none (.tmp 36)⟩,
  ⟨some 38, none, .bin .add (.tmp 37) (.cst (I 1))⟩,
  ⟨some 39, none, .fad (.tmp 9) 0⟩,
  ⟨none, none, .store 1 (.tmp 39) (.tmp 38)⟩]) .skip))))
 (.ops false [
  ⟨some 40, none, .bin .add (.tmp 26) (.cst (I 1))⟩,
  ⟨some 26, none, .mov (.tmp 40)⟩]))))
def keep82_0 : Option (List Nat) := some [1, 2, 3, 4, 8, 9, 24, 25, 26]
def code82 : MF := ⟨42, [(8, some (some 2))], (.seq (.ops false [
  ⟨some 4, none, .box (.tmp 0)⟩,
  ⟨some 8, none, .alloc [(I 0), (I 0)]⟩])
 (.seq (.ops false [
  ⟨some 12, none, .fad (.tmp 4) 3⟩,
  ⟨some 13, none, .load none (.tmp 12)⟩,
  ⟨some 14, none, .mov (.tmp 1)⟩,
  ⟨some 15, none, .ixs 1 (.tmp 13) (.tmp 14)⟩,
  ⟨some 16, none, .load none (.tmp 15)⟩,
  ⟨some 17, none, .len (.tmp 16)⟩,
  ⟨some 18, none, .bld [(I 0), (I 0)] [(1, 1, (.tmp 17))]⟩,
  ⟨some 9, none, .alloc [(I 0), (I 0)]⟩,
  ⟨none, none, .store 2 (.tmp 9) (.tmp 18)⟩])
 (.seq (.seq (.ops false [
  ⟨some 19, none, .fad (.tmp 4) 4⟩,
  ⟨some 20, none, .load none (.tmp 19)⟩,
  ⟨some 21, none, .mov (.tmp 1)⟩,
  ⟨some 22, none, .mov (.tmp 2)⟩,
  ⟨some 23, none, .bld [(I 0), (I 0)] [(0, 1, (.tmp 21)), (1, 1, (.tmp 22))]⟩,
  ⟨some 24, none, .lkp (some 2) .nils (.tmp 20) (.tmp 23) false⟩,
  ⟨some 25, none, .len (.tmp 24)⟩,
  ⟨some 26, none, .mov (.cst (I 0))⟩])
 (.block 0 (.loop keep82_0 body82_0)))
 (.seq (.ops false [
  ⟨some 41, none, .load (some 2) (.tmp 9)⟩,
  ⟨none, none, .store 2 (.tmp 8) (.tmp 41)⟩])
 .ret))))⟩
theorem comp82 : compF Cv 82 = some code82 := by kernel_rfl

def body83_0 : MC := (.seq (.ops false [
  ⟨some 8, none, .bin .lss (.tmp 7) (.cst (I 2))⟩])
 (.seq (.cond (.tmp 8) .skip (.exit 0))
 (.seq (.block 1 (.seq (.ops false [
  ⟨some 9, none, .ixv 2 1 none (.tmp 6) (.tmp 7)⟩,
  ⟨some 5, none, .mov (.tmp 9)⟩])
 (.seq (.ops false [
  ⟨some 10, none, .mov (.tmp 5)⟩,
  ⟨some 11, none, .load (some 2) (.tmp 1)⟩,
  ⟨some 12, none, .call (.tmp 10) [(.tmp 11)]⟩])
 (.cond (.tmp 12) (.ops false [
  ⟨some 13, none, .mov (.tmp 3)⟩,
  ⟨some 14, none, .bin .add (.tmp 13) (.cst (I 1))⟩,
  ⟨some 3, none, .mov (.tmp 14)⟩]) .skip))))
 (.ops false [
  ⟨some 15, none, .bin .add (.tmp 7) (.cst (I 1))⟩,
  ⟨some 7, none, .mov (.tmp 15)⟩]))))
def keep83_0 : Option (List Nat) := some [1, 3, 6, 7]
def code83 : MF := ⟨17, [(2, none)], (.seq (.ops false [
  ⟨some 1, none, .box (.tmp 0)⟩,
  ⟨some 2, none, .mov (.cst (I 0))⟩])
 (.seq (.ops false [
  ⟨some 3, none, .mov (.cst (I 0))⟩])
 (.seq (.seq (.ops false [
  ⟨some 6, none, .load (some 2) (.cst (.rp [(.fn (.func 126) [] []), (.fn (.func 127) [] [])] 0))⟩,
  ⟨some 7, none, .mov (.cst (I 0))⟩])
 (.block 0 (.loop keep83_0 body83_0)))
 (.seq (.ops false [
  ⟨some 16, none, .mov (.tmp 3)⟩,
  ⟨some 2, none, .mov (.tmp 16)⟩])
 .ret))))⟩
theorem comp83 : compF Cv 83 = some code83 := by kernel_rfl

def code84 : MF := ⟨5, [(2, none)], (.seq (.ops false [
  ⟨some 2, none, .mov (.cst (.bool false))⟩])
 (.seq (.ops false [
  ⟨some 3, none, .mov (.tmp 0)⟩,
  ⟨some 4, none, .call (.cst (.fn (.func 44) [] [])) [(.tmp 3), (.cst (I 0)), (.cst (I 40))]⟩,
  ⟨some 2, none, .mov (.tmp 4)⟩])
 .ret))⟩
theorem comp84 : compF Cv 84 = some code84 := by kernel_rfl

def body85_0 : MC := (.seq (.seq (.ops false [
  ⟨some 15, none, .mov (.tmp 11)⟩,
  ⟨some 16, none, .mov (.tmp 9)⟩,
  ⟨some 17, none, .len (.tmp 16)⟩,
  ⟨some 18, none, .bin .lss (.tmp 15) (.tmp 17)⟩])
 (.cond (.tmp 18) .skip (.exit 0)))
 (.seq (.block 1 (.seq (.ops false [
  ⟨some 21, none, .mov (.tmp 9)⟩,
  ⟨some 22, none, .mov (.tmp 11)⟩,
  ⟨some 23, none, .ixs 6 (.tmp 21) (.tmp 22)⟩,
  ⟨some 24, none, .load (some 6) (.tmp 23)⟩,
  ⟨some 25, none, .mov (.tmp 2)⟩,
  ⟨some 26, none, .mov (.tmp 3)⟩,
  ⟨some 27, none, .call (.cst (.fn (.func 102) [] [])) [(.tmp 24), (.tmp 25), (.tmp 26)]⟩])
 (.cond (.tmp 27) (.ops false [
  ⟨some 28, none, .mov (.tmp 10)⟩,
  ⟨some 29, none, .bin .add (.tmp 28) (.cst (I 1))⟩,
  ⟨some 10, none, .mov (.tmp 29)⟩]) .skip)))
 (.ops false [
  ⟨some 19, none, .mov (.tmp 11)⟩,
  ⟨some 20, none, .bin .add (.tmp 19) (.cst (I 1))⟩,
  ⟨some 11, none, .mov (.tmp 20)⟩])))
def keep85_0 : Option (List Nat) := some [2, 3, 9, 10, 11]
def code85 : MF := ⟨37, [(8, none)], (.seq (.ops false [
  ⟨some 4, none, .box (.tmp 0)⟩,
  ⟨some 8, none, .mov (.cst (I 0))⟩])
 (.seq (.ops false [
  ⟨some 12, none, .load (some 3) (.tmp 4)⟩,
  ⟨some 13, none, .mov (.tmp 1)⟩,
  ⟨some 14, none, .call (.cst (.fn (.func 71) [] [])) [(.tmp 12), (.tmp 13), (.cst (I 0))]⟩,
  ⟨some 9, none, .mov (.tmp 14)⟩,
  ⟨some 10, none, .mov (.cst (I 0))⟩])
 (.seq (.seq (.ops false [
  ⟨some 11, none, .mov (.cst (I 0))⟩])
 (.block 0 (.loop keep85_0 body85_0)))
 (.seq (.seq (.ops false [
  ⟨some 30, none, .mov (.tmp 10)⟩])
 (.block 2 (.seq (.ops false [
  ⟨some 32, none, .bin .eql (.tmp 30) (.cst (I 0))⟩,
  ⟨some 31, none, .mov (.tmp 32)⟩])
 (.cond (.tmp 31) (.seq (.ops false [
  ⟨some 8, none, .mov (.cst (I 0))⟩])
 .ret) (.seq (.ops false [
  ⟨some 34, none, .mov (.tmp 9)⟩,
  ⟨some 35, none, .len (.tmp 34)⟩,
  ⟨some 36, none, .bin .eql (.tmp 30) (.tmp 35)⟩,
  ⟨some 33, none, .mov (.tmp 36)⟩])
 (.cond (.tmp 33) (.seq (.ops false [
  ⟨some 8, none, .mov (.cst (I 2))⟩])
 .ret) .skip))))))
 (.seq (.ops false [
  ⟨some 8, none, .mov (.cst (I 1))⟩])
 .ret)))))⟩
theorem comp85 : compF Cv 85 = some code85 := by kernel_rfl

def body86_0 : MC := (.seq (.ops false [
  ⟨some 12, none, .bin .lss (.tmp 11) (.tmp 10)⟩])
 (.seq (.cond (.tmp 12) .skip (.exit 0))
 (.seq (.block 1 (.seq (.ops false [
  ⟨some 13, none, .mov (.tmp 11)⟩,
  ⟨some 6, none, .mov (.tmp 13)⟩])
 (.seq (.ops false [
  ⟨some 14, none, .mov (.tmp 1)⟩,
  ⟨some 15, none, .mov (.tmp 6)⟩,
  ⟨some 16, none, .call (.tmp 14) [(.tmp 15)]⟩])
 (.cond (.tmp 16) (.ops false [
  ⟨some 17, none, .mov (.tmp 5)⟩,
  ⟨some 18, none, .mov (.tmp 6)⟩,
  ⟨some 19, none, .bsl 1 false (I 0) 1 [(0, (.tmp 18))]⟩,
  ⟨some 20, none, .app false 1 8 false (.tmp 17) (.tmp 19)⟩,
  ⟨some 5, none, .mov (.tmp 20)⟩]) .skip))))
 (.ops false [
  ⟨some 21, none, .bin .add (.tmp 11) (.cst (I 1))⟩,
  ⟨some 11, none, .mov (.tmp 21)⟩]))))
def keep86_0 : Option (List Nat) := some [1, 5, 10, 11]
def code86 : MF := ⟨28, [(4, none)], (.seq (.ops false [
  ⟨some 2, none, .box (.tmp 0)⟩,
  ⟨some 4, none, .mov (.cst .nils)⟩])
 (.seq (.ops false [
  ⟨some 5, none, .mov (.cst .nils)⟩])
 (.seq (.seq (.ops false [
  ⟨some 7, none, .fad (.tmp 2) 0⟩,
  ⟨some 8, none, .fad (.tmp 7) 0⟩,
  ⟨some 9, none, .load none (.tmp 8)⟩,
  ⟨some 10, none, .len (.tmp 9)⟩,
  ⟨some 11, none, .mov (.cst (I 0))⟩])
 (.block 0 (.loop keep86_0 body86_0)))
 (.seq (.ops false [
  ⟨some 22, none, .mov (.tmp 5)⟩,
  ⟨some 23, none, .mov (.tmp 5)⟩,
  ⟨some 24, none, .len (.tmp 23)⟩,
  ⟨some 25, none, .mov (.tmp 5)⟩,
  ⟨some 26, none, .len (.tmp 25)⟩,
  ⟨some 27, none, .slc 1 (.tmp 22) none (some (.tmp 24)) (some (.tmp 26))⟩,
  ⟨some 4, none, .mov (.tmp 27)⟩])
 .ret))))⟩
theorem comp86 : compF Cv 86 = some code86 := by kernel_rfl

def code87 : MF := ⟨14, [(5, none)], (.seq (.ops false [
  ⟨some 5, none, .mov (.cst (.bool false))⟩])
 (.seq (.ops true [
  ⟨some 6, none, .ixa 2 1 (.cst (.rp [(.fn (.func 126) [] []), (.fn (.func 127) [] [])] 0)) (.cst (I 1))⟩,
  ⟨some 7, none, .load none (.tmp 6)⟩,
  ⟨some 8, none, .load (some 5) (.tmp 1)⟩,
  ⟨some 9, none, .mov (.tmp 0)⟩,
  ⟨some 10, none, .load none (.tmp 2)⟩,
  ⟨some 11, none, .load none (.tmp 3)⟩,
  ⟨some 12, none, .call (.cst (.fn (.func 82) [] [])) [(.tmp 8), (.tmp 9), (.tmp 10), (.tmp 11)]⟩,
  ⟨some 13, none, .call (.tmp 7) [(.tmp 12)]⟩,
  ⟨some 5, none, .mov (.tmp 13)⟩])
 .ret))⟩
theorem comp87 : compF Cv 87 = some code87 := by kernel_rfl

def code88 : MF := ⟨13, [(4, none)], (.seq (.ops false [
  ⟨some 4, none, .mov (.cst (.bool false))⟩])
 (.seq (.ops false [
  ⟨some 5, none, .fad (.tmp 1) 4⟩,
  ⟨some 6, none, .load none (.tmp 5)⟩,
  ⟨some 7, none, .mov (.tmp 0)⟩,
  ⟨some 8, none, .load none (.tmp 2)⟩,
  ⟨some 9, none, .bld [(I 0), (I 0)] [(0, 1, (.tmp 7)), (1, 1, (.tmp 8))]⟩,
  ⟨some 10, none, .lkp (some 2) .nils (.tmp 6) (.tmp 9) false⟩,
  ⟨some 11, none, .len (.tmp 10)⟩,
  ⟨some 12, none, .bin .eql (.tmp 11) (.cst (I 0))⟩,
  ⟨some 4, none, .mov (.tmp 12)⟩])
 .ret))⟩
theorem comp88 : compF Cv 88 = some code88 := by kernel_rfl

def body89_0 : MC := (.seq (.seq (.ops false [
  ⟨some 32, none, .mov (.tmp 10)⟩,
  ⟨some 33, none, .fad (.tmp 2) 2⟩,
  ⟨some 34, none, .load none (.tmp 33)⟩,
  ⟨some 35, none, .len (.tmp 34)⟩,
  ⟨some 36, none, .bin .lss (.tmp 32) (.tmp 35)⟩])
 (.cond (.tmp 36) .skip (.exit 0)))
 (.seq (.block 1 (.seq (.ops false [
  ⟨some 40, none, .load none (.tmp 3)⟩,
  ⟨some 41, none, .mov (.tmp 0)⟩,
  ⟨some 42, none, .mov (.tmp 8)⟩,
  ⟨some 43, none, .mov (.tmp 8)⟩,
  ⟨some 44, none, .slc 1 (.tmp 41) none (some (.tmp 42)) (some (.tmp 43))⟩,
  ⟨some 45, none, .mov (.tmp 10)⟩,
  ⟨some 46, none, .bsl 1 false (I 0) 1 [(0, (.tmp 45))]⟩,
  ⟨some 47, none, .app false 1 8 false (.tmp 44) (.tmp 46)⟩,
  ⟨some 48, none, .mov (.tmp 1)⟩,
  ⟨some 49, none, .call (.tmp 40) [(.tmp 47), (.tmp 48)]⟩,
  ⟨some 39, none, .mov (.tmp 49)⟩,
  ⟨some 50, none, .ext (.tmp 39) 0⟩,
  ⟨some 51, none, .ext (.tmp 39) 1⟩,
  ⟨some 11, none, .mov (.tmp 50)⟩,
  ⟨some 12, none, .mov (.tmp 51)⟩])
 (.seq (.ops false [
  ⟨some 52, none, .mov (.tmp 12)⟩])
 (.cond (.tmp 52) (.seq (.ops false [
  ⟨some 53, none, .mov (.tmp 11)⟩,
  ⟨some 6, none, .mov (.tmp 53)⟩,
  ⟨some 7, none, .mov (.cst (.bool true))⟩])
 .ret) .skip))))
 (.ops false [
  ⟨some 37, none, .mov (.tmp 10)⟩,
  ⟨some 38, none, .bin .add (.tmp 37) (.cst (I 1))⟩,
  ⟨some 10, none, .mov (.tmp 38)⟩])))
def keep89_0 : Option (List Nat) := some [0, 1, 2, 3, 8, 10]
def code89 : MF := ⟨54, [(6, none), (7, none)], (.seq (.ops false [
  ⟨some 6, none, .mov (.cst .nils)⟩,
  ⟨some 7, none, .mov (.cst (.bool false))⟩])
 (.seq (.ops false [
  ⟨some 13, none, .mov (.tmp 0)⟩,
  ⟨some 14, none, .len (.tmp 13)⟩,
  ⟨some 8, none, .mov (.tmp 14)⟩])
 (.seq (.seq (.ops false [
  ⟨some 15, none, .mov (.tmp 8)⟩,
  ⟨some 16, none, .mov (.tmp 1)⟩,
  ⟨some 17, none, .bin .eql (.tmp 15) (.tmp 16)⟩])
 (.cond (.tmp 17) (.seq (.ops false [
  ⟨some 18, none, .mov (.tmp 0)⟩,
  ⟨some 19, none, .load (some 3) (.tmp 2)⟩,
  ⟨some 20, none, .mov (.tmp 0)⟩,
  ⟨some 21, none, .call (.cst (.fn (.func 60) [] [])) [(.tmp 19), (.tmp 20)]⟩,
  ⟨some 22, none, .call (.cst (.fn (.func 61) [] [])) [(.tmp 21)]⟩,
  ⟨some 6, none, .mov (.tmp 18)⟩,
  ⟨some 7, none, .mov (.tmp 22)⟩])
 .ret) .skip))
 (.seq (.ops false [
  ⟨some 9, none, .mov (.cst (I 0))⟩])
 (.seq (.seq (.ops false [
  ⟨some 23, none, .mov (.tmp 8)⟩,
  ⟨some 24, none, .bin .gtr (.tmp 23) (.cst (I 0))⟩])
 (.cond (.tmp 24) (.ops false [
  ⟨some 25, none, .mov (.tmp 0)⟩,
  ⟨some 26, none, .mov (.tmp 8)⟩,
  ⟨some 27, none, .bin .sub (.tmp 26) (.cst (I 1))⟩,
  ⟨some 28, none, .ixs 1 (.tmp 25) (.tmp 27)⟩,
  ⟨some 29, none, .load none (.tmp 28)⟩,
  ⟨some 30, none, .bin .add (.tmp 29) (.cst (I 1))⟩,
  ⟨some 9, none, .mov (.tmp 30)⟩]) .skip))
 (.seq (.seq (.ops false [
  ⟨some 31, none, .mov (.tmp 9)⟩,
  ⟨some 10, none, .mov (.tmp 31)⟩])
 (.block 0 (.loop keep89_0 body89_0)))
 (.seq (.ops false [
  ⟨some 6, none, .mov (.cst .nils)⟩,
  ⟨some 7, none, .mov (.cst (.bool false))⟩])
 .ret)))))))⟩
theorem comp89 : compF Cv 89 = some code89 := by kernel_rfl

def code90 : MF := ⟨16, [(4, none)], (.seq (.ops false [
  ⟨some 2, none, .box (.tmp 0)⟩,
  ⟨some 4, none, .mov (.cst (I 0))⟩])
 (.seq (.ops true [
  ⟨some 5, none, .fad (.tmp 2) 0⟩,
  ⟨some 6, none, .load none (.tmp 5)⟩,
  ⟨some 7, none, .mov (.tmp 1)⟩,
  ⟨some 8, none, .fad (.tmp 2) 1⟩,
  ⟨some 9, none, .load none (.tmp 8)⟩,
  ⟨some 10, none, .fad (.tmp 2) 0⟩,
  ⟨some 11, none, .load none (.tmp 10)⟩,
  ⟨some 12, none, .bin .sub (.tmp 9) (.tmp 11)⟩,
  ⟨some 13, none, .bin .add (.tmp 12) (.cst (I 1))⟩,
  ⟨some 14, none, .call (.cst (.fn (.func 42) [] [])) [(.tmp 7), (.tmp 13)]⟩,
  ⟨some 15, none, .bin .add (.tmp 6) (.tmp 14)⟩,
  ⟨some 4, none, .mov (.tmp 15)⟩])
 .ret))⟩
theorem comp90 : compF Cv 90 = some code90 := by kernel_rfl

def code91 : MF := ⟨15, [(4, none)], (.seq (.ops false [
  ⟨some 4, none, .mov (.cst (I 0))⟩])
 (.seq (.seq (.ops false [
  ⟨some 5, none, .mov (.tmp 0)⟩,
  ⟨some 6, none, .len (.tmp 5)⟩,
  ⟨some 7, none, .bin .eql (.tmp 6) (.cst (I 0))⟩])
 (.cond (.tmp 7) (.seq (.ops false [
  ⟨some 4, none, .mov (.cst (I 0))⟩])
 .ret) .skip))
 (.seq (.ops false [
  ⟨some 8, none, .mov (.tmp 0)⟩,
  ⟨some 9, none, .mov (.tmp 1)⟩,
  ⟨some 10, none, .mov (.tmp 0)⟩,
  ⟨some 11, none, .len (.tmp 10)⟩,
  ⟨some 12, none, .call (.cst (.fn (.func 42) [] [])) [(.tmp 9), (.tmp 11)]⟩,
  ⟨some 13, none, .ixs 1 (.tmp 8) (.tmp 12)⟩,
  ⟨some 14, none, .load none (.tmp 13)⟩,
  ⟨some 4, none, .mov (.tmp 14)⟩])
 .ret)))⟩
theorem comp91 : compF Cv 91 = some code91 := by kernel_rfl

def code92 : MF := ⟨18, [(4, none)], (.seq (.ops false [
  ⟨some 4, none, .mov (.cst (.bool false))⟩])
 (.seq (.ops false [
  ⟨some 5, none, .mov (.tmp 1)⟩,
  ⟨some 6, none, .bin .geq (.tmp 5) (.cst (I 0))⟩,
  ⟨some 7, none, .mov (.tmp 6)⟩,
  ⟨some 8, some ((some 7), true), .mov (.tmp 1)⟩,
  ⟨some 9, some ((some 7), true), .bin .lss (.tmp 8) (.cst (I 62))⟩,
  ⟨some 10, none, .pick (.tmp 7) (.tmp 9) (.cst (.bool false))⟩,
  ⟨some 11, none, .mov (.tmp 10)⟩,
  ⟨some 12, some ((some 11), true), .mov (.tmp 0)⟩,
  ⟨some 13, some ((some 11), true), .mov (.tmp 1)⟩,
  ⟨some 14, some ((some 11), true), .bin .shr (.tmp 12) (.tmp 13)⟩,
  ⟨some 15, some ((some 11), true), .bin .and (.tmp 14) (.cst (I 1))⟩,
  ⟨some 16, some ((some 11), true), .bin .eql (.tmp 15) (.cst (I 1))⟩,
  ⟨some 17, none, .pick (.tmp 11) (.tmp 16) (.cst (.bool false))⟩,
  ⟨some 4, none, .mov (.tmp 17)⟩])
 .ret))⟩
theorem comp92 : compF Cv 92 = some code92 := by kernel_rfl

def body93_0 : MC := (.seq (.seq (.ops false [
  ⟨some 6, none, .mov (.tmp 5)⟩,
  ⟨some 7, none, .mov (.tmp 0)⟩,
  ⟨some 8, none, .len (.tmp 7)⟩,
  ⟨some 9, none, .bin .lss (.tmp 6) (.tmp 8)⟩,
  ⟨some 10, none, .mov (.tmp 9)⟩,
  ⟨some 11, some ((some 10), true), .mov (.tmp 5)⟩,
  ⟨some 12, some ((some 10), true), .mov (.tmp 1)⟩,
  ⟨some 13, some ((some 10), true), .len (.tmp 12)⟩,
  ⟨some 14, some ((some 10), true), .bin .lss (.tmp 11) (.tmp 13)⟩,
  ⟨some 15, none, .pick (.tmp 10) (.tmp 14) (.cst (.bool false))⟩])
 (.cond (.tmp 15) .skip (.exit 0)))
 (.seq (.block 1 (.seq (.ops false [
  ⟨some 18, none, .mov (.tmp 0)⟩,
  ⟨some 19, none, .mov (.tmp 5)⟩,
  ⟨some 20, none, .ixs 1 (.tmp 18) (.tmp 19)⟩,
  ⟨some 21, none, .load none (.tmp 20)⟩,
  ⟨some 22, none, .mov (.tmp 1)⟩,
  ⟨some 23, none, .mov (.tmp 5)⟩,
  ⟨some 24, none, .ixs 1 (.tmp 22) (.tmp 23)⟩,
  ⟨some 25, none, .load none (.tmp 24)⟩,
  ⟨some 26, none, .bin .neq (.tmp 21) (.tmp 25)⟩])
 (.cond (.tmp 26) (.seq (.ops false [
  ⟨some 27, none, .mov (.tmp 0)⟩,
  ⟨some 28, none, .mov (.tmp 5)⟩,
  ⟨some 29, none, .ixs 1 (.tmp 27) (.tmp 28)⟩,
  ⟨some 30, none, .load none (.tmp 29)⟩,
  ⟨some 31, none, .mov (.tmp 1)⟩,
  ⟨some 32, none, .mov (.tmp 5)⟩,
  ⟨some 33, none, .ixs 1 (.tmp 31) (.tmp 32)⟩,
  ⟨some 34, none, .load none (.tmp 33)⟩,
  ⟨some 35, none, .bin .lss (.tmp 30) (.tmp 34)⟩,
  ⟨some 4, none, .mov (.tmp 35)⟩])
 .ret) .skip)))
 (.ops false [
  ⟨some 16, none, .mov (.tmp 5)⟩,
  ⟨some 17, none, .bin .add (.tmp 16) (.cst (I 1))⟩,
  ⟨some 5, none, .mov (.tmp 17)⟩])))
def keep93_0 : Option (List Nat) := some [0, 1, 5]
def code93 : MF := ⟨41, [(4, none)], (.seq (.ops false [
  ⟨some 4, none, .mov (.cst (.bool false))⟩])
 (.seq (.seq (.ops false [
  ⟨some 5, none, .mov (.cst (I 0))⟩])
 (.block 0 (.loop keep93_0 body93_0)))
 (.seq (.ops false [
  ⟨some 36, none, .mov (.tmp 0)⟩,
  ⟨some 37, none, .len (.tmp 36)⟩,
  ⟨some 38, none, .mov (.tmp 1)⟩,
  ⟨some 39, none, .len (.tmp 38)⟩,
  ⟨some 40, none, .bin .lss (.tmp 37) (.tmp 39)⟩,
  ⟨some 4, none, .mov (.tmp 40)⟩])
 .ret)))⟩
theorem comp93 : compF Cv 93 = some code93 := by kernel_rfl

def code94 : MF := ⟨8, [(6, none)], (.seq (.ops false [
  ⟨some 3, none, .box (.tmp 0)⟩,
  ⟨some 4, none, .box (.tmp 1)⟩,
  ⟨some 5, none, .box (.tmp 2)⟩,
  ⟨some 6, none, .mov (.cst .nilf)⟩])
 (.seq (.ops false [
  ⟨some 7, none, .mkf (.func 103) [] [(.tmp 3), (.tmp 4), (.tmp 5)]⟩,
  ⟨some 6, none, .mov (.tmp 7)⟩])
 .ret))⟩
theorem comp94 : compF Cv 94 = some code94 := by kernel_rfl

def body95_0 : MC := (.seq (.ops false [
  ⟨some 10, none, .bin .lss (.tmp 9) (.tmp 8)⟩])
 (.seq (.cond (.tmp 10) .skip (.exit 0))
 (.seq (.block 1 (.seq (.ops false [
  ⟨some 11, none, .ixs 1 (.tmp 7) (.tmp 9)⟩,
  ⟨some 12, none, .load none (.tmp 11)⟩,
  ⟨some 6, none, .mov (.tmp 12)⟩])
 (.ops false [
  ⟨some 13, none, .mov (.tmp 0)⟩,
  ⟨some 14, none, .mov (.tmp 6)⟩,
  ⟨some 15, none, .mn (.tmp 13) [(.tmp 14)]⟩,
  ⟨some 0, none, .mov (.tmp 15)⟩])))
 (.ops false [
  ⟨some 16, none, .bin .add (.tmp 9) (.cst (I 1))⟩,
  ⟨some 9, none, .mov (.tmp 16)⟩]))))
def keep95_0 : Option (List Nat) := some [0, 7, 8, 9]
def code95 : MF := ⟨18, [(4, none)], (.seq (.ops false [
  ⟨some 4, none, .mov (.cst (I 0))⟩])
 (.seq (.seq (.ops false [
  ⟨some 7, none, .mov (.tmp 1)⟩,
  ⟨some 8, none, .len (.tmp 7)⟩,
  ⟨some 9, none, .mov (.cst (I 0))⟩])
 (.block 0 (.loop keep95_0 body95_0)))
 (.seq (.ops false [
  ⟨some 17, none, .mov (.tmp 0)⟩,
  ⟨some 4, none, .mov (.tmp 17)⟩])
 .ret)))⟩
theorem comp95 : compF Cv 95 = some code95 := by kernel_rfl

def code96 : MF := ⟨9, [(4, none)], (.seq (.ops false [
  ⟨some 4, none, .mov (.cst (.bool false))⟩])
 (.seq (.ops false [
  ⟨some 5, none, .mov (.tmp 0)⟩,
  ⟨some 6, none, .mov (.tmp 1)⟩,
  ⟨some 7, none, .call (.cst (.fn (.func 106) [] [])) [(.tmp 5), (.tmp 6)]⟩,
  ⟨some 8, none, .bin .geq (.tmp 7) (.cst (I 0))⟩,
  ⟨some 4, none, .mov (.tmp 8)⟩])
 .ret))⟩
theorem comp96 : compF Cv 96 = some code96 := by kernel_rfl

def code97 : MF := ⟨6, [(2, none)], (.seq (.ops false [
  ⟨some 2, none, .mov (.cst (.bool false))⟩])
 (.seq (.ops false [
  ⟨some 3, none, .mov (.tmp 0)⟩,
  ⟨some 4, none, .len (.tmp 3)⟩,
  ⟨some 5, none, .bin .eql (.tmp 4) (.cst (I 0))⟩,
  ⟨some 2, none, .mov (.tmp 5)⟩])
 .ret))⟩
theorem comp97 : compF Cv 97 = some code97 := by kernel_rfl

def code98 : MF := ⟨5, [(2, some (some 1))], (.seq (.ops false [
  ⟨some 1, none, .box (.tmp 0)⟩,
  ⟨some 2, none, .alloc [.nilf]⟩])
 (.seq (.ops false [
  ⟨some 3, none, .mkf (.func 107) [] [(.tmp 1)]⟩,
  ⟨some 4, none, .bld [.nilf] [(0, 1, (.tmp 3))]⟩,
  ⟨none, none, .store 1 (.tmp 2) (.tmp 4)⟩])
 .ret))⟩
theorem comp98 : compF Cv 98 = some code98 := by kernel_rfl

def body99_0 : MC := (.seq (.seq (.ops false [
  ⟨some 11, none, .mov (.tmp 9)⟩,
  ⟨some 12, none, .fad (.tmp 4) 2⟩,
  ⟨some 13, none, .load none (.tmp 12)⟩,
  ⟨some 14, none, .len (.tmp 13)⟩,
  ⟨some 15, none, .bin .lss (.tmp 11) (.tmp 14)⟩])
 (.cond (.tmp 15) .skip (.exit 0)))
 (.seq (.block 1 (.seq (.ops false [
  ⟨some 18, none, .fad (.tmp 4) 2⟩,
  ⟨some 19, none, .load none (.tmp 18)⟩,
  ⟨some 20, none, .mov (.tmp 9)⟩,
  ⟨some 21, none, .ixs 4 (.tmp 19) (.tmp 20)⟩,
  ⟨some 22, none, .load (some 4) (.tmp 21)⟩,
  ⟨some 10, none, .alloc [(I 0), (I 0), (I 0), (I 0)]⟩,
  ⟨none, none, .store 4 (.tmp 10) (.tmp 22)⟩])
 (.seq (.ops true [
  ⟨some 23, none, .fad (.tmp 10) 0⟩,
  ⟨some 24, none, .load none (.tmp 23)⟩,
  ⟨some 25, none, .mov (.tmp 1)⟩,
  ⟨some 26, none, .bin .eql (.tmp 24) (.tmp 25)⟩,
  ⟨some 27, none, .mov (.tmp 26)⟩,
  ⟨some 28, some ((some 27), true), .mov (.tmp 3)⟩,
  ⟨some 29, some ((some 27), true), .mov (.tmp 9)⟩,
  ⟨some 30, some ((some 27), true), .call (.cst (.fn (.func 92) [] [])) [(.tmp 28), (.tmp 29)]⟩,
  ⟨some 31, some ((some 27), true), .lnot (.tmp 30)⟩,
  ⟨some 32, none, .pick (.tmp 27) (.tmp 31) (.cst (.bool false))⟩,
  ⟨some 33, none, .mov (.tmp 32)⟩,
  ⟨some 34, some ((some 33), true), .load (some 6) (.tmp 6)⟩,
  ⟨some 35, some ((some 33), true), .fad (.tmp 10) 1⟩,
  ⟨some 36, some ((some 33), true), .load none (.tmp 35)⟩,
  ⟨some 37, some ((some 33), true), .fad (.tmp 10) 2⟩,
  ⟨some 38, some ((some 33), true), .load none (.tmp 37)⟩,
  ⟨some 39, some ((some 33), true), .call (.cst (.fn (.func 102) [] [])) [(.tmp 34), (.tmp 36), (.tmp 38)]⟩,
  ⟨some 40, some ((some 33), true), .fad (.tmp 10) 3⟩,
  ⟨some 41, some ((some 33), true), .load none (.tmp 40)⟩,
  ⟨some 42, some ((some 33), true), .bin .eql (.tmp 41) (.cst (I 1))⟩,
  ⟨some 43, some ((some 33), true), .beq true (.tmp 39) (.tmp 42)⟩,
  ⟨some 44, none, .pick (.tmp 33) (.tmp 43) (.cst (.bool false))⟩])
 (.cond (.tmp 44) (.seq (.ops false [
  ⟨some 8, none, .mov (.cst (.bool false))⟩])
 .ret) .skip))))
 (.ops false [
  ⟨some 16, none, .mov (.tmp 9)⟩,
  ⟨some 17, none, .bin .add (.tmp 16) (.cst (I 1))⟩,
  ⟨some 9, none, .mov (.tmp 17)⟩])))
def keep99_0 : Option (List Nat) := some [1, 3, 4, 6, 9]
def code99 : MF := ⟨45, [(8, none)], (.seq (.ops false [
  ⟨some 4, none, .box (.tmp 0)⟩,
  ⟨some 6, none, .box (.tmp 2)⟩,
  ⟨some 8, none, .mov (.cst (.bool false))⟩])
 (.seq (.seq (.ops false [
  ⟨some 9, none, .mov (.cst (I 0))⟩])
 (.block 0 (.loop keep99_0 body99_0)))
 (.seq (.ops false [
  ⟨some 8, none, .mov (.cst (.bool true))⟩])
 .ret)))⟩
theorem comp99 : compF Cv 99 = some code99 := by kernel_rfl

def code100 : MF := ⟨16, [(4, some (some 2))], (.seq (.ops false [
  ⟨some 2, none, .box (.tmp 0)⟩,
  ⟨some 3, none, .box (.tmp 1)⟩,
  ⟨some 4, none, .alloc [(I 0), (I 0)]⟩])
 (.seq (.ops false [
  ⟨some 5, none, .fad (.tmp 2) 0⟩,
  ⟨some 6, none, .load none (.tmp 5)⟩,
  ⟨some 7, none, .fad (.tmp 3) 0⟩,
  ⟨some 8, none, .load none (.tmp 7)⟩,
  ⟨some 9, none, .mn (.tmp 6) [(.tmp 8)]⟩,
  ⟨some 10, none, .fad (.tmp 2) 1⟩,
  ⟨some 11, none, .load none (.tmp 10)⟩,
  ⟨some 12, none, .fad (.tmp 3) 1⟩,
  ⟨some 13, none, .load none (.tmp 12)⟩,
  ⟨some 14, none, .mx (.tmp 11) [(.tmp 13)]⟩,
  ⟨some 15, none, .call (.cst (.fn (.func 51) [] [])) [(.tmp 9), (.tmp 14)]⟩,
  ⟨none, none, .store 2 (.tmp 4) (.tmp 15)⟩])
 .ret))⟩
theorem comp100 : compF Cv 100 = some code100 := by kernel_rfl

def code101 : MF := ⟨31, [(10, none)], (.seq (.ops false [
  ⟨some 5, none, .box (.tmp 0)⟩,
  ⟨some 7, none, .box (.tmp 2)⟩,
  ⟨some 10, none, .mov (.cst (.bool false))⟩])
 (.seq (.ops true [
  ⟨some 11, none, .load (some 5) (.tmp 7)⟩,
  ⟨some 12, none, .load (some 5) (.cst (.rp [(I (-1)), (I (-1)), (I (-1)), (I (-1)), (I (-1))] 0))⟩,
  ⟨some 13, none, .eqa 5 true (.tmp 11) (.tmp 12)⟩,
  ⟨some 14, none, .mov (.tmp 13)⟩,
  ⟨some 15, some ((some 14), true), .mov (.tmp 3)⟩,
  ⟨some 16, some ((some 14), true), .ixa 5 1 (.tmp 7) (.cst (I 4))⟩,
  ⟨some 17, some ((some 14), true), .load none (.tmp 16)⟩,
  ⟨some 18, some ((some 14), true), .bin .lss (.tmp 15) (.tmp 17)⟩,
  ⟨some 19, none, .pick (.tmp 14) (.tmp 18) (.cst (.bool false))⟩,
  ⟨some 20, none, .mov (.tmp 19)⟩,
  ⟨some 21, some ((some 20), true), .mov (.tmp 4)⟩,
  ⟨some 22, some ((some 20), true), .ixa 5 1 (.tmp 7) (.cst (I 0))⟩,
  ⟨some 23, some ((some 20), true), .load none (.tmp 22)⟩,
  ⟨some 24, some ((some 20), true), .load (some 5) (.tmp 5)⟩,
  ⟨some 25, some ((some 20), true), .mov (.tmp 1)⟩,
  ⟨some 26, some ((some 20), true), .load (some 5) (.tmp 7)⟩,
  ⟨some 27, some ((some 20), true), .mov (.tmp 3)⟩,
  ⟨some 28, some ((some 20), true), .call (.cst (.fn (.func 77) [] [])) [(.tmp 24), (.tmp 25), (.tmp 26), (.tmp 27)]⟩,
  ⟨some 29, some ((some 20), true), .call (.cst (.fn (.func 63) [] [])) [(.tmp 21), (.tmp 23), (.tmp 28)]⟩,
  ⟨some 30, none, .pick (.tmp 20) (.tmp 29) (.cst (.bool false))⟩,
  ⟨some 10, none, .mov (.tmp 30)⟩])
 .ret))⟩
theorem comp101 : compF Cv 101 = some code101 := by kernel_rfl

def code102 : MF := ⟨20, [(6, none)], (.seq (.ops false [
  ⟨some 3, none, .box (.tmp 0)⟩,
  ⟨some 6, none, .mov (.cst (.bool false))⟩])
 (.seq (.ops true [
  ⟨some 7, none, .mov (.tmp 1)⟩,
  ⟨some 8, none, .fad (.tmp 3) 5⟩,
  ⟨some 9, none, .load none (.tmp 8)⟩,
  ⟨some 10, none, .bin .lss (.tmp 7) (.tmp 9)⟩,
  ⟨some 11, none, .mov (.tmp 10)⟩,
  ⟨some 12, some ((some 11), true), .mov (.tmp 2)⟩,
  ⟨some 13, some ((some 11), true), .fad (.tmp 3) 0⟩,
  ⟨some 14, some ((some 11), true), .load none (.tmp 13)⟩,
  ⟨some 15, some ((some 11), true), .load (some 6) (.tmp 3)⟩,
  ⟨some 16, some ((some 11), true), .mov (.tmp 1)⟩,
  ⟨some 17, some ((some 11), true), .call (.cst (.fn (.func 80) [] [])) [(.tmp 15), (.tmp 16)]⟩,
  ⟨some 18, some ((some 11), true), .call (.cst (.fn (.func 44) [] [])) [(.tmp 12), (.tmp 14), (.tmp 17)]⟩,
  ⟨some 19, none, .pick (.tmp 11) (.tmp 18) (.cst (.bool false))⟩,
  ⟨some 6, none, .mov (.tmp 19)⟩])
 .ret))⟩
theorem comp102 : compF Cv 102 = some code102 := by kernel_rfl

def code103 : MF := ⟨32, [], (.seq (.ops false [
  ⟨some 4, none, .box (.tmp 0)⟩])
 (.seq (.ops false [
  ⟨some 9, none, .load (some 5) (.tmp 1)⟩,
  ⟨some 10, none, .mkf (.func 104) [(.tmp 9)] []⟩,
  ⟨some 5, none, .alloc [.nilf]⟩,
  ⟨none, none, .store 1 (.tmp 5) (.tmp 10)⟩])
 (.seq (.ops false [
  ⟨some 11, none, .fad (.tmp 1) 0⟩,
  ⟨some 12, none, .fad (.tmp 11) 0⟩,
  ⟨some 13, none, .load none (.tmp 12)⟩,
  ⟨some 14, none, .load none (.tmp 2)⟩,
  ⟨some 15, none, .ixs 11 (.tmp 13) (.tmp 14)⟩,
  ⟨some 16, none, .load (some 11) (.tmp 15)⟩,
  ⟨some 6, none, .alloc [(I 0), (I 0), (I 0), (I 0), (I 0), (I 0), (I 0), (I 0), (I 0), (I 0), (I 0)]⟩,
  ⟨none, none, .store 11 (.tmp 6) (.tmp 16)⟩])
 (.seq (.ops false [
  ⟨some 17, none, .fad (.tmp 6) 0⟩,
  ⟨some 18, none, .load (some 2) (.tmp 17)⟩,
  ⟨some 19, none, .fad (.tmp 6) 2⟩,
  ⟨some 20, none, .load (some 2) (.tmp 19)⟩,
  ⟨some 21, none, .fad (.tmp 6) 4⟩,
  ⟨some 22, none, .load (some 2) (.tmp 21)⟩,
  ⟨some 23, none, .fad (.tmp 6) 6⟩,
  ⟨some 24, none, .load (some 2) (.tmp 23)⟩,
  ⟨some 25, none, .fad (.tmp 6) 9⟩,
  ⟨some 26, none, .load (some 2) (.tmp 25)⟩,
  ⟨some 27, none, .bld [(I 0), (I 0), (I 0), (I 0), (I 0), (I 0), (I 0), (I 0), (I 0), (I 0)] [(0, 2, (.tmp 18)), (2, 2, (.tmp 20)), (4, 2, (.tmp 22)), (6, 2, (.tmp 24)), (8, 2, (.tmp 26))]⟩,
  ⟨some 7, none, .alloc [(I 0), (I 0), (I 0), (I 0), (I 0), (I 0), (I 0), (I 0), (I 0), (I 0)]⟩,
  ⟨none, none, .store 10 (.tmp 7) (.tmp 27)⟩])
 (.seq (.ops false [
  ⟨some 8, none, .alloc [.nilf]⟩])
 (.seq (.ops false [
  ⟨some 28, none, .mkf (.func 105) [] [(.tmp 7), (.tmp 8), (.tmp 5), (.tmp 2), (.tmp 3), (.tmp 4)]⟩,
  ⟨none, none, .store 1 (.tmp 8) (.tmp 28)⟩])
 (.ops false [
  ⟨some 29, none, .load none (.tmp 8)⟩,
  ⟨some 30, none, .load (some 5) (.cst (.rp [(I (-1)), (I (-1)), (I (-1)), (I (-1)), (I (-1))] 0))⟩,
  ⟨some 31, none, .call (.tmp 29) [(.tmp 30), (.cst (I 0))]⟩])))))))⟩
theorem comp103 : compF Cv 103 = some code103 := by kernel_rfl

def body104_0 : MC := (.seq (.ops false [
  ⟨some 16, none, .bin .lss (.tmp 15) (.tmp 14)⟩])
 (.seq (.cond (.tmp 16) .skip (.exit 0))
 (.seq (.block 1 (.seq (.ops false [
  ⟨some 17, none, .mov (.tmp 15)⟩,
  ⟨some 18, none, .ixs 4 (.tmp 13) (.tmp 15)⟩,
  ⟨some 19, none, .load (some 4) (.tmp 18)⟩,
  ⟨some 10, none, .alloc [(I 0), (I 0), (I 0), (I 0)]⟩,
  ⟨some 9, none, .mov (.tmp 17)⟩,
  ⟨none, none, .store 4 (.tmp 10) (.tmp 19)⟩])
 (.seq (.ops true [
  ⟨some 20, none, .fad (.tmp 10) 0⟩,
  ⟨some 21, none, .load none (.tmp 20)⟩,
  ⟨some 22, none, .mov (.tmp 1)⟩,
  ⟨some 23, none, .bin .eql (.tmp 21) (.tmp 22)⟩,
  ⟨some 24, none, .mov (.tmp 23)⟩,
  ⟨some 25, some ((some 24), true), .mov (.tmp 3)⟩,
  ⟨some 26, some ((some 24), true), .mov (.tmp 9)⟩,
  ⟨some 27, some ((some 24), true), .call (.cst (.fn (.func 108) [] [])) [(.tmp 25), (.tmp 26)]⟩,
  ⟨some 28, some ((some 24), true), .lnot (.tmp 27)⟩,
  ⟨some 29, none, .pick (.tmp 24) (.tmp 28) (.cst (.bool false))⟩,
  ⟨some 30, none, .mov (.tmp 29)⟩,
  ⟨some 31, some ((some 30), true), .load (some 5) (.tmp 4)⟩,
  ⟨some 32, some ((some 30), true), .mov (.tmp 1)⟩,
  ⟨some 33, some ((some 30), true), .load (some 5) (.tmp 6)⟩,
  ⟨some 34, some ((some 30), true), .fad (.tmp 10) 1⟩,
  ⟨some 35, some ((some 30), true), .load none (.tmp 34)⟩,
  ⟨some 36, some ((some 30), true), .fad (.tmp 10) 2⟩,
  ⟨some 37, some ((some 30), true), .load none (.tmp 36)⟩,
  ⟨some 38, some ((some 30), true), .call (.cst (.fn (.func 101) [] [])) [(.tmp 31), (.tmp 32), (.tmp 33), (.tmp 35), (.tmp 37)]⟩,
  ⟨some 39, some ((some 30), true), .fad (.tmp 10) 3⟩,
  ⟨some 40, some ((some 30), true), .load none (.tmp 39)⟩,
  ⟨some 41, some ((some 30), true), .bin .eql (.tmp 40) (.cst (I 1))⟩,
  ⟨some 42, some ((some 30), true), .beq true (.tmp 38) (.tmp 41)⟩,
  ⟨some 43, none, .pick (.tmp 30) (.tmp 42) (.cst (.bool false))⟩])
 (.cond (.tmp 43) (.seq (.ops false [
  ⟨some 8, none, .mov (.cst (.bool false))⟩])
 .ret) .skip))))
 (.ops false [
  ⟨some 44, none, .bin .add (.tmp 15) (.cst (I 1))⟩,
  ⟨some 15, none, .mov (.tmp 44)⟩]))))
def keep104_0 : Option (List Nat) := some [1, 3, 4, 6, 13, 14, 15]
def code104 : MF := ⟨45, [(8, none)], (.seq (.ops false [
  ⟨some 4, none, .box (.tmp 0)⟩,
  ⟨some 6, none, .box (.tmp 2)⟩,
  ⟨some 8, none, .mov (.cst (.bool false))⟩])
 (.seq (.seq (.ops false [
  ⟨some 11, none, .fad (.tmp 4) 0⟩,
  ⟨some 12, none, .fad (.tmp 11) 2⟩,
  ⟨some 13, none, .load none (.tmp 12)⟩,
  ⟨some 14, none, .len (.tmp 13)⟩,
  ⟨some 15, none, .mov (.cst (I 0))⟩])
 (.block 0 (.loop keep104_0 body104_0)))
 (.seq (.ops false [
  ⟨some 8, none, .mov (.cst (.bool true))⟩])
 .ret)))⟩
theorem comp104 : compF Cv 104 = some code104 := by kernel_rfl

def body105_0 : MC := (.seq (.ops false [
  ⟨some 23, none, .bin .lss (.tmp 22) (.tmp 21)⟩])
 (.seq (.cond (.tmp 23) .skip (.exit 0))
 (.seq (.block 1 (.seq (.ops false [
  ⟨some 24, none, .mov (.tmp 22)⟩,
  ⟨some 12, none, .mov (.tmp 24)⟩])
 (.seq (.ops false [
  ⟨some 25, none, .mov (.tmp 1)⟩,
  ⟨some 26, none, .fad (.tmp 11) 0⟩,
  ⟨some 27, none, .load none (.tmp 26)⟩,
  ⟨some 28, none, .mov (.tmp 12)⟩,
  ⟨some 29, none, .bin .add (.tmp 27) (.tmp 28)⟩,
  ⟨some 30, none, .ixa 5 1 (.tmp 8) (.tmp 25)⟩,
  ⟨none, none, .store 1 (.tmp 30) (.tmp 29)⟩])
 (.seq (.seq (.ops false [
  ⟨some 31, none, .mov (.tmp 1)⟩,
  ⟨some 32, none, .bin .lss (.tmp 31) (.cst (I 4))⟩])
 (.cond (.tmp 32) (.seq (.seq (.ops false [
  ⟨some 33, none, .load none (.tmp 3)⟩,
  ⟨some 34, none, .load (some 5) (.tmp 8)⟩,
  ⟨some 35, none, .mov (.tmp 1)⟩,
  ⟨some 36, none, .bin .add (.tmp 35) (.cst (I 1))⟩,
  ⟨some 37, none, .call (.tmp 33) [(.tmp 34), (.tmp 36)]⟩,
  ⟨some 38, none, .lnot (.tmp 37)⟩])
 (.cond (.tmp 38) (.seq (.ops false [
  ⟨some 10, none, .mov (.cst (.bool false))⟩])
 .ret) .skip))
 (.exit 1)) .skip))
 (.seq (.seq (.ops false [
  ⟨some 39, none, .load none (.tmp 4)⟩,
  ⟨some 40, none, .load none (.tmp 5)⟩,
  ⟨some 41, none, .load (some 5) (.tmp 8)⟩,
  ⟨some 42, none, .load none (.tmp 6)⟩,
  ⟨some 43, none, .call (.tmp 39) [(.tmp 40), (.tmp 41), (.tmp 42)]⟩,
  ⟨some 44, none, .lnot (.tmp 43)⟩])
 (.cond (.tmp 44) (.exit 1) .skip))
 (.seq (.ops false [
  ⟨some 45, none, .load none (.tmp 7)⟩,
  ⟨some 46, none, .load (some 5) (.tmp 8)⟩,
  ⟨some 47, none, .call (.tmp 45) [(.tmp 46)]⟩,
  ⟨some 48, none, .lnot (.tmp 47)⟩])
 (.cond (.tmp 48) (.seq (.ops false [
  ⟨some 10, none, .mov (.cst (.bool false))⟩])
 .ret) .skip)))))))
 (.ops false [
  ⟨some 49, none, .bin .add (.tmp 22) (.cst (I 1))⟩,
  ⟨some 22, none, .mov (.tmp 49)⟩]))))
def keep105_0 : Option (List Nat) := some [1, 3, 4, 5, 6, 7, 8, 11, 21, 22]
def code105 : MF := ⟨50, [(10, none)], (.seq (.ops false [
  ⟨some 8, none, .box (.tmp 0)⟩,
  ⟨some 10, none, .mov (.cst (.bool false))⟩])
 (.scope (.seq (.ops false [
  ⟨some 13, none, .mov (.tmp 1)⟩,
  ⟨some 14, none, .ixa 5 2 (.tmp 2) (.tmp 13)⟩,
  ⟨some 15, none, .load (some 2) (.tmp 14)⟩,
  ⟨some 11, none, .alloc [(I 0), (I 0)]⟩,
  ⟨none, none, .store 2 (.tmp 11) (.tmp 15)⟩])
 (.seq .skip
 (.seq (.seq (.ops false [
  ⟨some 16, none, .fad (.tmp 11) 1⟩,
  ⟨some 17, none, .load none (.tmp 16)⟩,
  ⟨some 18, none, .fad (.tmp 11) 0⟩,
  ⟨some 19, none, .load none (.tmp 18)⟩,
  ⟨some 20, none, .bin .sub (.tmp 17) (.tmp 19)⟩,
  ⟨some 21, none, .bin .add (.tmp 20) (.cst (I 1))⟩,
  ⟨some 22, none, .mov (.cst (I 0))⟩])
 (.block 0 (.loop keep105_0 body105_0)))
 (.seq (.ops false [
  ⟨some 10, none, .mov (.cst (.bool true))⟩])
 .ret))))))⟩
theorem comp105 : compF Cv 105 = some code105 := by kernel_rfl

def body106_0 : MC := (.seq (.ops false [
  ⟨some 9, none, .bin .lss (.tmp 8) (.tmp 7)⟩])
 (.seq (.cond (.tmp 9) .skip (.exit 0))
 (.seq (.block 1 (.seq (.ops false [
  ⟨some 10, none, .mov (.tmp 8)⟩,
  ⟨some 5, none, .mov (.tmp 10)⟩])
 (.seq (.ops false [
  ⟨some 11, none, .mov (.tmp 1)⟩,
  ⟨some 12, none, .mov (.tmp 0)⟩,
  ⟨some 13, none, .mov (.tmp 5)⟩,
  ⟨some 14, none, .ixs 1 (.tmp 12) (.tmp 13)⟩,
  ⟨some 15, none, .load none (.tmp 14)⟩,
  ⟨some 16, none, .call (.tmp 11) [(.tmp 15)]⟩])
 (.cond (.tmp 16) (.seq (.ops false [
  ⟨some 17, none, .mov (.tmp 5)⟩,
  ⟨some 4, none, .mov (.tmp 17)⟩])
 .ret) .skip))))
 (.ops false [
  ⟨some 18, none, .bin .add (.tmp 8) (.cst (I 1))⟩,
  ⟨some 8, none, .mov (.tmp 18)⟩]))))
def keep106_0 : Option (List Nat) := some [0, 1, 7, 8]
def code106 : MF := ⟨19, [(4, none)], (.seq (.ops false [
  ⟨some 4, none, .mov (.cst (I 0))⟩])
 (.seq (.seq (.ops false [
  ⟨some 6, none, .mov (.tmp 0)⟩,
  ⟨some 7, none, .len (.tmp 6)⟩,
  ⟨some 8, none, .mov (.cst (I 0))⟩])
 (.block 0 (.loop keep106_0 body106_0)))
 (.seq (.ops false [
  ⟨some 4, none, .mov (.cst (I (-1)))⟩])
 .ret)))⟩
theorem comp106 : compF Cv 106 = some code106 := by kernel_rfl

def code107 : MF := ⟨7, [(3, none)], (.seq (.ops false [
  ⟨some 2, none, .box (.tmp 0)⟩,
  ⟨some 3, none, .mov (.cst (I 0))⟩])
 (.seq (.ops false [
  ⟨some 4, none, .load none (.tmp 1)⟩,
  ⟨some 5, none, .ixa 5 1 (.tmp 2) (.tmp 4)⟩,
  ⟨some 6, none, .load none (.tmp 5)⟩,
  ⟨some 3, none, .mov (.tmp 6)⟩])
 .ret))⟩
theorem comp107 : compF Cv 107 = some code107 := by kernel_rfl

def code108 : MF := ⟨9, [(4, none)], (.seq (.ops false [
  ⟨some 4, none, .mov (.cst (.bool false))⟩])
 (.seq (.ops false [
  ⟨some 5, none, .mov (.tmp 0)⟩,
  ⟨some 6, none, .mov (.tmp 1)⟩,
  ⟨some 7, none, .call (.cst (.fn (.func 109) [] [])) [(.tmp 5), (.tmp 6)]⟩,
  ⟨some 8, none, .bin .geq (.tmp 7) (.cst (I 0))⟩,
  ⟨some 4, none, .mov (.tmp 8)⟩])
 .ret))⟩
theorem comp108 : compF Cv 108 = some code108 := by kernel_rfl

def body109_0 : MC := (.seq (.ops false [
  ⟨some 9, none, .bin .lss (.tmp 8) (.tmp 7)⟩])
 (.seq (.cond (.tmp 9) .skip (.exit 0))
 (.seq (.block 1 (.seq (.ops false [
  ⟨some 10, none, .mov (.tmp 8)⟩,
  ⟨some 5, none, .mov (.tmp 10)⟩])
 (.seq (.ops false [
  ⟨some 11, none, .mov (.tmp 1)⟩,
  ⟨some 12, none, .mov (.tmp 0)⟩,
  ⟨some 13, none, .mov (.tmp 5)⟩,
  ⟨some 14, none, .ixs 1 (.tmp 12) (.tmp 13)⟩,
  ⟨some 15, none, .load none (.tmp 14)⟩,
  ⟨some 16, none, .bin .eql (.tmp 11) (.tmp 15)⟩])
 (.cond (.tmp 16) (.seq (.ops false [
  ⟨some 17, none, .mov (.tmp 5)⟩,
  ⟨some 4, none, .mov (.tmp 17)⟩])
 .ret) .skip))))
 (.ops false [
  ⟨some 18, none, .bin .add (.tmp 8) (.cst (I 1))⟩,
  ⟨some 8, none, .mov (.tmp 18)⟩]))))
def keep109_0 : Option (List Nat) := some [0, 1, 7, 8]
def code109 : MF := ⟨19, [(4, none)], (.seq (.ops false [
  ⟨some 4, none, .mov (.cst (I 0))⟩])
 (.seq (.seq (.ops false [
  ⟨some 6, none, .mov (.tmp 0)⟩,
  ⟨some 7, none, .len (.tmp 6)⟩,
  ⟨some 8, none, .mov (.cst (I 0))⟩])
 (.block 0 (.loop keep109_0 body109_0)))
 (.seq (.ops false [
  ⟨some 4, none, .mov (.cst (I (-1)))⟩])
 .ret)))⟩
theorem comp109 : compF Cv 109 = some code109 := by kernel_rfl

def code126 : MF := ⟨6, [(2, none)], (.seq (.ops false [
  ⟨some 1, none, .box (.tmp 0)⟩,
  ⟨some 2, none, .mov (.cst (.bool false))⟩])
 (.seq (.ops false [
  ⟨some 3, none, .fad (.tmp 1) 0⟩,
  ⟨some 4, none, .load none (.tmp 3)⟩,
  ⟨some 5, none, .bin .gtr (.tmp 4) (.cst (I 0))⟩,
  ⟨some 2, none, .mov (.tmp 5)⟩])
 .ret))⟩
theorem comp126 : compF Cv 126 = some code126 := by kernel_rfl

def code127 : MF := ⟨8, [(2, none)], (.seq (.ops false [
  ⟨some 1, none, .box (.tmp 0)⟩,
  ⟨some 2, none, .mov (.cst (.bool false))⟩])
 (.seq (.ops false [
  ⟨some 3, none, .fad (.tmp 1) 0⟩,
  ⟨some 4, none, .load none (.tmp 3)⟩,
  ⟨some 5, none, .fad (.tmp 1) 1⟩,
  ⟨some 6, none, .load none (.tmp 5)⟩,
  ⟨some 7, none, .bin .eql (.tmp 4) (.tmp 6)⟩,
  ⟨some 2, none, .mov (.tmp 7)⟩])
 .ret))⟩
theorem comp127 : compF Cv 127 = some code127 := by kernel_rfl

end Go.Ai
