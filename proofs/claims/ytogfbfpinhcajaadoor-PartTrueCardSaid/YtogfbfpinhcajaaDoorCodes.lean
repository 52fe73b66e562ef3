/- This text shows the codes of functions of the program, each by the kernel. No conditions of its own. -/
import Derived.Test.YtogfbfpinhcajaaDoorSimp
import Derived.Test.YtogfbfpinhcajaaDoorProg
import Derived.KernelRfl
set_option linter.unusedSimpArgs false
set_option linter.unusedVariables false
set_option maxRecDepth 100000
namespace Go.Ai
def keeps : List ((Nat × Nat) × List Nat) := [((6, 15), [2, 5, 10, 11, 18]),
  ((6, 22), [2, 5, 10, 11, 18, 19, 21, 22]),
  ((6, 28), [10, 25]),
  ((7, 10), [2, 5, 6, 7, 9, 10, 11, 12, 13, 14]),
  ((13, 17), [6, 7, 8, 11, 12, 13]),
  ((14, 13), [1, 2]),
  ((17, 3), [1, 3, 39, 40, 41]),
  ((17, 8), [1, 3, 68, 69, 70]),
  ((18, 3), [1, 3, 4]),
  ((18, 7), [1, 3, 5]),
  ((21, 6), [10, 38, 39]),
  ((22, 6), [1, 2, 8, 10, 11]),
  ((23, 3), [0, 1, 5, 6]),
  ((24, 6), [1, 6, 8, 26, 27]),
  ((25, 5), [1, 6, 8]),
  ((28, 5), [1, 5, 7]),
  ((28, 8), [1, 5, 7, 8]),
  ((30, 6), [1, 5, 7, 8, 9, 10]),
  ((30, 9), [1, 5, 7, 8, 9, 10, 11]),
  ((30, 13), [1, 5, 7, 8, 9, 10, 11, 12, 13]),
  ((33, 7), [5, 18, 19]),
  ((34, 8), [1, 5, 6, 7, 8]),
  ((35, 11), [9, 10, 43, 44, 45]),
  ((36, 11), [2, 9, 10, 11]),
  ((37, 3), [1, 3, 4]),
  ((37, 7), [1, 3, 5]),
  ((38, 5), [1, 2, 3, 7, 8]),
  ((39, 4), [1, 2, 4, 5, 6]),
  ((40, 3), [1, 2, 3, 7, 8]),
  ((41, 2), [0, 1, 5]),
  ((42, 2), [0, 1, 5]),
  ((44, 4), [2, 5, 6, 7]),
  ((44, 8), [2, 5, 6, 7, 8, 9]),
  ((44, 11), [2, 5, 6, 7, 8, 9, 10]),
  ((47, 3), [0, 3, 4]),
  ((48, 4), [1, 2, 3, 4]),
  ((48, 8), [1, 2, 3, 5]),
  ((48, 12), [1, 2, 3, 5, 6, 7]),
  ((50, 2), [0, 1, 5]),
  ((51, 4), [1, 2, 3, 7, 8, 9, 10]),
  ((52, 3), [0, 1, 5, 6]),
  ((53, 4), [1, 2, 4, 5, 6]),
  ((64, 3), [3, 5, 6]),
  ((65, 3), [3, 4, 5, 20, 21, 22]),
  ((65, 7), [3, 4, 5, 7, 20, 21, 22, 32, 33, 34]),
  ((67, 7), [1, 2, 3, 7, 8, 9, 10]),
  ((69, 3), [3, 4, 5, 9, 10, 11]),
  ((73, 3), [0, 1, 2, 3, 9, 10]),
  ((74, 4), [1, 2, 4, 5, 6, 7, 14, 15]),
  ((74, 7), [1, 2, 4, 5, 6, 7, 8, 14, 15, 20, 21]),
  ((78, 2), [1, 2, 7, 8, 9]),
  ((80, 8), [0, 1, 2, 3, 8, 10]),
  ((92, 6), [1, 2, 3, 7, 8, 9]),
  ((93, 2), [1, 2, 3, 4, 9]),
  ((94, 2), [1, 2, 3, 7]),
  ((96, 2), [0, 1, 7, 8]),
  ((99, 2), [0, 1, 7, 8]),
  ((102, 7), [1, 2, 3, 5, 6, 7, 11, 46, 47]),
  ((104, 2), [0, 7, 8, 9]),
  ((105, 2), [0, 1, 7, 8])]
def keepOf (f i : Nat) : Option (List Nat) := keeps.lookup (f, i)

noncomputable def Cv : Cfg := { P := Go.Proofs.Tryd.prog, glob := fun g => if g = 0 then some [I (-1), I (-1)] else if g = 1 then some [I (-1), I (-1), I (-1)] else if g = 2 then some [.fn (.func 123) [] [], .fn (.func 121) [] []] else none, wsite := fun _ _ => false, imp := fun f => f == 80 || f == 90 || f == 100 || f == 102, keep := keepOf }

def code15 : MF := ⟨14, [(2, none), (3, none)], (.seq (.ops false [
  ⟨some 1, none, .box (.tmp 0)⟩,
  ⟨some 2, none, .mov (.cst (.bool false))⟩,
  ⟨some 3, none, .mov (.cst (I 0))⟩])
 (.seq (.ops false [
  ⟨some 7, none, .load (some 6) (.tmp 1)⟩,
  ⟨some 8, none, .call (.cst (.fn (.func 19) [] [])) [(.tmp 7)]⟩,
  ⟨some 6, none, .mov (.tmp 8)⟩,
  ⟨some 9, none, .ext (.tmp 6) 0⟩,
  ⟨some 10, none, .ext (.tmp 6) 1⟩,
  ⟨some 4, none, .mov (.tmp 9)⟩,
  ⟨some 5, none, .mov (.tmp 10)⟩])
 (.seq (.ops false [
  ⟨some 11, none, .mov (.tmp 4)⟩,
  ⟨some 12, none, .bin .gtr (.tmp 11) (.cst (I 0))⟩,
  ⟨some 13, none, .mov (.tmp 5)⟩,
  ⟨some 2, none, .mov (.tmp 12)⟩,
  ⟨some 3, none, .mov (.tmp 13)⟩])
 .ret)))⟩
theorem comp15 : compF Cv 15 = some code15 := by kernel_rfl

def code16 : MF := ⟨14, [(2, none), (3, none)], (.seq (.ops false [
  ⟨some 1, none, .box (.tmp 0)⟩,
  ⟨some 2, none, .mov (.cst (.bool false))⟩,
  ⟨some 3, none, .mov (.cst (I 0))⟩])
 (.seq (.ops false [
  ⟨some 7, none, .load (some 6) (.tmp 1)⟩,
  ⟨some 8, none, .call (.cst (.fn (.func 20) [] [])) [(.tmp 7)]⟩,
  ⟨some 6, none, .mov (.tmp 8)⟩,
  ⟨some 9, none, .ext (.tmp 6) 0⟩,
  ⟨some 10, none, .ext (.tmp 6) 1⟩,
  ⟨some 4, none, .mov (.tmp 9)⟩,
  ⟨some 5, none, .mov (.tmp 10)⟩])
 (.seq (.ops false [
  ⟨some 11, none, .mov (.tmp 4)⟩,
  ⟨some 12, none, .bin .gtr (.tmp 11) (.cst (I 0))⟩,
  ⟨some 13, none, .mov (.tmp 5)⟩,
  ⟨some 2, none, .mov (.tmp 12)⟩,
  ⟨some 3, none, .mov (.tmp 13)⟩])
 .ret)))⟩
theorem comp16 : compF Cv 16 = some code16 := by kernel_rfl

def body17_0 : MC := (.seq (.ops false [
  ⟨some 42, none, .bin .lss (.tmp 41) (.tmp 40)⟩])
 (.seq (.cond (.tmp 42) .skip (.exit 0))
 (.seq (.block 1 (.seq (.ops false [
  ⟨some 43, none, .ixs 2 (.tmp 39) (.tmp 41)⟩,
  ⟨some 44, none, .load (some 2) (.tmp 43)⟩,
  ⟨some 5, none, .alloc [(I 0), (I 0)]⟩,
  ⟨none, none, .store 2 (.tmp 5) (.tmp 44)⟩])
 (.ops false [
  ⟨some 45, none, .mov (.tmp 3)⟩,
  ⟨some 46, none, .mov (.tmp 45)⟩,
  ⟨some 47, some ((some 46), true), .fad (.tmp 5) 0⟩,
  ⟨some 48, some ((some 46), true), .load none (.tmp 47)⟩,
  ⟨some 49, some ((some 46), true), .fad (.tmp 5) 1⟩,
  ⟨some 50, some ((some 46), true), .load none (.tmp 49)⟩,
  ⟨some 51, some ((some 46), true), .call (.cst (.fn (.func 61) [] [])) [(.tmp 48), (.cst (I 0)), (.tmp 50)]⟩,
  ⟨some 52, none, .pick (.tmp 46) (.tmp 51) (.cst (.bool false))⟩,
  ⟨some 53, none, .mov (.tmp 52)⟩,
  ⟨some 54, some ((some 53), true), .fad (.tmp 5) 1⟩,
  ⟨some 55, some ((some 53), true), .load none (.tmp 54)⟩,
  ⟨some 56, some ((some 53), true), .bin .leq (.tmp 55) (.cst (I 12))⟩,
  ⟨some 57, none, .pick (.tmp 53) (.tmp 56) (.cst (.bool false))⟩,
  ⟨some 58, none, .mov (.tmp 57)⟩,
  ⟨some 59, some ((some 58), true), .fad (.tmp 5) 1⟩,
  ⟨some 60, some ((some 58), true), .load none (.tmp 59)⟩,
  ⟨some 61, some ((some 58), true), .fad (.tmp 5) 0⟩,
  ⟨some 62, some ((some 58), true), .load none (.tmp 61)⟩,
  ⟨some 63, some ((some 58), true), .bin .sub (.tmp 60) (.tmp 62)⟩,
  ⟨some 64, some ((some 58), true), .bin .leq (.tmp 63) (.cst (I 2))⟩,
  ⟨some 65, none, .pick (.tmp 58) (.tmp 64) (.cst (.bool false))⟩,
  ⟨some 3, none, .mov (.tmp 65)⟩])))
 (.ops false [
  ⟨some 66, none, .bin .add (.tmp 41) (.cst (I 1))⟩,
  ⟨some 41, none, .mov (.tmp 66)⟩]))))
def keep17_0 : Option (List Nat) := some [1, 3, 39, 40, 41]
def body17_1 : MC := (.seq (.ops false [
  ⟨some 71, none, .bin .lss (.tmp 70) (.tmp 69)⟩])
 (.seq (.cond (.tmp 71) .skip (.exit 2))
 (.seq (.block 3 (.seq (.ops false [
  ⟨some 72, none, .ixs 2 (.tmp 68) (.tmp 70)⟩,
  ⟨some 73, none, .load (some 2) (.tmp 72)⟩,
  ⟨some 7, none, .alloc [(I 0), .nils]⟩,
  ⟨none, none, .store 2 (.tmp 7) (.tmp 73)⟩])
 (.ops false [
  ⟨some 74, none, .mov (.tmp 3)⟩,
  ⟨some 75, none, .mov (.tmp 74)⟩,
  ⟨some 76, some ((some 75), true), .load (some 6) (.tmp 1)⟩,
  ⟨some 77, some ((some 75), true), .load (some 2) (.tmp 7)⟩,
  ⟨some 78, some ((some 75), true), .call (.cst (.fn (.func 62) [] [])) [(.tmp 76), (.tmp 77)]⟩,
  ⟨some 79, none, .pick (.tmp 75) (.tmp 78) (.cst (.bool false))⟩,
  ⟨some 3, none, .mov (.tmp 79)⟩])))
 (.ops false [
  ⟨some 80, none, .bin .add (.tmp 70) (.cst (I 1))⟩,
  ⟨some 70, none, .mov (.tmp 80)⟩]))))
def keep17_1 : Option (List Nat) := some [1, 3, 68, 69, 70]
def code17 : MF := ⟨83, [(2, none)], (.seq (.ops false [
  ⟨some 1, none, .box (.tmp 0)⟩,
  ⟨some 2, none, .mov (.cst (I 0))⟩])
 (.seq (.ops false [
  ⟨some 8, none, .fad (.tmp 1) 0⟩,
  ⟨some 9, none, .load none (.tmp 8)⟩,
  ⟨some 10, none, .call (.cst (.fn (.func 61) [] [])) [(.tmp 9), (.cst (I 1)), (.cst (I 3))]⟩,
  ⟨some 11, none, .mov (.tmp 10)⟩,
  ⟨some 12, some ((some 11), true), .fad (.tmp 1) 1⟩,
  ⟨some 13, some ((some 11), true), .load none (.tmp 12)⟩,
  ⟨some 14, some ((some 11), true), .len (.tmp 13)⟩,
  ⟨some 15, some ((some 11), true), .call (.cst (.fn (.func 61) [] [])) [(.tmp 14), (.cst (I 1)), (.cst (I 3))]⟩,
  ⟨some 16, none, .pick (.tmp 11) (.tmp 15) (.cst (.bool false))⟩,
  ⟨some 17, none, .mov (.tmp 16)⟩,
  ⟨some 18, some ((some 17), true), .fad (.tmp 1) 2⟩,
  ⟨some 19, some ((some 17), true), .load none (.tmp 18)⟩,
  ⟨some 20, some ((some 17), true), .call (.cst (.fn (.func 61) [] [])) [(.tmp 19), (.cst (I 0)), (.cst (I 7))]⟩,
  ⟨some 21, none, .pick (.tmp 17) (.tmp 20) (.cst (.bool false))⟩,
  ⟨some 22, none, .mov (.tmp 21)⟩,
  ⟨some 23, some ((some 22), true), .fad (.tmp 1) 3⟩,
  ⟨some 24, some ((some 22), true), .load none (.tmp 23)⟩,
  ⟨some 25, some ((some 22), true), .call (.cst (.fn (.func 61) [] [])) [(.tmp 24), (.cst (I 0)), (.cst (I 255))]⟩,
  ⟨some 26, none, .pick (.tmp 22) (.tmp 25) (.cst (.bool false))⟩,
  ⟨some 27, none, .mov (.tmp 26)⟩,
  ⟨some 28, some ((some 27), true), .fad (.tmp 1) 4⟩,
  ⟨some 29, some ((some 27), true), .load none (.tmp 28)⟩,
  ⟨some 30, some ((some 27), true), .call (.cst (.fn (.func 61) [] [])) [(.tmp 29), (.cst (I 0)), (.cst (I 255))]⟩,
  ⟨some 31, none, .pick (.tmp 27) (.tmp 30) (.cst (.bool false))⟩,
  ⟨some 32, none, .mov (.tmp 31)⟩,
  ⟨some 33, some ((some 32), true), .fad (.tmp 1) 5⟩,
  ⟨some 34, some ((some 32), true), .load none (.tmp 33)⟩,
  ⟨some 35, some ((some 32), true), .len (.tmp 34)⟩,
  ⟨some 36, some ((some 32), true), .bin .leq (.tmp 35) (.cst (I 4))⟩,
  ⟨some 37, none, .pick (.tmp 32) (.tmp 36) (.cst (.bool false))⟩,
  ⟨some 3, none, .mov (.tmp 37)⟩])
 (.seq (.seq (.ops false [
  ⟨some 38, none, .fad (.tmp 1) 1⟩,
  ⟨some 39, none, .load none (.tmp 38)⟩,
  ⟨some 40, none, .len (.tmp 39)⟩,
  ⟨some 41, none, .mov (.cst (I 0))⟩])
 (.block 0 (.loop keep17_0 body17_0)))
 (.seq (.seq (.ops false [
  ⟨some 67, none, .fad (.tmp 1) 5⟩,
  ⟨some 68, none, .load none (.tmp 67)⟩,
  ⟨some 69, none, .len (.tmp 68)⟩,
  ⟨some 70, none, .mov (.cst (I 0))⟩])
 (.block 2 (.loop keep17_1 body17_1)))
 (.seq (.seq (.ops false [
  ⟨some 81, none, .mov (.tmp 3)⟩,
  ⟨some 82, none, .lnot (.tmp 81)⟩])
 (.cond (.tmp 82) (.seq (.ops false [
  ⟨some 2, none, .mov (.cst (I 50))⟩])
 .ret) .skip))
 (.seq (.ops false [
  ⟨some 2, none, .mov (.cst (I 0))⟩])
 .ret))))))⟩
theorem comp17 : compF Cv 17 = some code17 := by kernel_rfl

def body18_0 : MC := (.seq (.seq (.ops false [
  ⟨some 36, none, .mov (.tmp 3)⟩,
  ⟨some 37, none, .mov (.tmp 36)⟩,
  ⟨some 38, some ((some 37), true), .mov (.tmp 4)⟩,
  ⟨some 39, some ((some 37), true), .fad (.tmp 1) 1⟩,
  ⟨some 40, some ((some 37), true), .load none (.tmp 39)⟩,
  ⟨some 41, some ((some 37), true), .len (.tmp 40)⟩,
  ⟨some 42, some ((some 37), true), .bin .lss (.tmp 38) (.tmp 41)⟩,
  ⟨some 43, none, .pick (.tmp 37) (.tmp 42) (.cst (.bool false))⟩])
 (.cond (.tmp 43) .skip (.exit 0)))
 (.seq (.block 1 (.ops false [
  ⟨some 46, none, .fad (.tmp 1) 1⟩,
  ⟨some 47, none, .load none (.tmp 46)⟩,
  ⟨some 48, none, .mov (.tmp 4)⟩,
  ⟨some 49, none, .ixs 2 (.tmp 47) (.tmp 48)⟩,
  ⟨some 50, none, .load (some 2) (.tmp 49)⟩,
  ⟨some 51, none, .call (.cst (.fn (.func 63) [] [])) [(.tmp 50), (.cst (I 0)), (.cst (I 12)), (.cst (I 2))]⟩,
  ⟨some 3, none, .mov (.tmp 51)⟩]))
 (.ops false [
  ⟨some 44, none, .mov (.tmp 4)⟩,
  ⟨some 45, none, .bin .add (.tmp 44) (.cst (I 1))⟩,
  ⟨some 4, none, .mov (.tmp 45)⟩])))
def keep18_0 : Option (List Nat) := some [1, 3, 4]
def body18_1 : MC := (.seq (.seq (.ops false [
  ⟨some 52, none, .mov (.tmp 3)⟩,
  ⟨some 53, none, .mov (.tmp 52)⟩,
  ⟨some 54, some ((some 53), true), .mov (.tmp 5)⟩,
  ⟨some 55, some ((some 53), true), .fad (.tmp 1) 5⟩,
  ⟨some 56, some ((some 53), true), .load none (.tmp 55)⟩,
  ⟨some 57, some ((some 53), true), .len (.tmp 56)⟩,
  ⟨some 58, some ((some 53), true), .bin .lss (.tmp 54) (.tmp 57)⟩,
  ⟨some 59, none, .pick (.tmp 53) (.tmp 58) (.cst (.bool false))⟩])
 (.cond (.tmp 59) .skip (.exit 2)))
 (.seq (.block 3 (.ops false [
  ⟨some 62, none, .load (some 6) (.tmp 1)⟩,
  ⟨some 63, none, .fad (.tmp 1) 5⟩,
  ⟨some 64, none, .load none (.tmp 63)⟩,
  ⟨some 65, none, .mov (.tmp 5)⟩,
  ⟨some 66, none, .ixs 2 (.tmp 64) (.tmp 65)⟩,
  ⟨some 67, none, .load (some 2) (.tmp 66)⟩,
  ⟨some 68, none, .call (.cst (.fn (.func 64) [] [])) [(.tmp 62), (.tmp 67)]⟩,
  ⟨some 3, none, .mov (.tmp 68)⟩]))
 (.ops false [
  ⟨some 60, none, .mov (.tmp 5)⟩,
  ⟨some 61, none, .bin .add (.tmp 60) (.cst (I 1))⟩,
  ⟨some 5, none, .mov (.tmp 61)⟩])))
def keep18_1 : Option (List Nat) := some [1, 3, 5]
def code18 : MF := ⟨71, [(2, none)], (.seq (.ops false [
  ⟨some 1, none, .box (.tmp 0)⟩,
  ⟨some 2, none, .mov (.cst (I 0))⟩])
 (.seq (.ops false [
  ⟨some 6, none, .fad (.tmp 1) 0⟩,
  ⟨some 7, none, .load none (.tmp 6)⟩,
  ⟨some 8, none, .call (.cst (.fn (.func 49) [] [])) [(.tmp 7), (.cst (I 1)), (.cst (I 3))]⟩,
  ⟨some 9, none, .mov (.tmp 8)⟩,
  ⟨some 10, some ((some 9), true), .fad (.tmp 1) 1⟩,
  ⟨some 11, some ((some 9), true), .load none (.tmp 10)⟩,
  ⟨some 12, some ((some 9), true), .len (.tmp 11)⟩,
  ⟨some 13, some ((some 9), true), .call (.cst (.fn (.func 49) [] [])) [(.tmp 12), (.cst (I 1)), (.cst (I 3))]⟩,
  ⟨some 14, none, .pick (.tmp 9) (.tmp 13) (.cst (.bool false))⟩,
  ⟨some 15, none, .mov (.tmp 14)⟩,
  ⟨some 16, some ((some 15), true), .fad (.tmp 1) 2⟩,
  ⟨some 17, some ((some 15), true), .load none (.tmp 16)⟩,
  ⟨some 18, some ((some 15), true), .call (.cst (.fn (.func 49) [] [])) [(.tmp 17), (.cst (I 0)), (.cst (I 7))]⟩,
  ⟨some 19, none, .pick (.tmp 15) (.tmp 18) (.cst (.bool false))⟩,
  ⟨some 20, none, .mov (.tmp 19)⟩,
  ⟨some 21, some ((some 20), true), .fad (.tmp 1) 3⟩,
  ⟨some 22, some ((some 20), true), .load none (.tmp 21)⟩,
  ⟨some 23, some ((some 20), true), .call (.cst (.fn (.func 49) [] [])) [(.tmp 22), (.cst (I 0)), (.cst (I 255))]⟩,
  ⟨some 24, none, .pick (.tmp 20) (.tmp 23) (.cst (.bool false))⟩,
  ⟨some 25, none, .mov (.tmp 24)⟩,
  ⟨some 26, some ((some 25), true), .fad (.tmp 1) 4⟩,
  ⟨some 27, some ((some 25), true), .load none (.tmp 26)⟩,
  ⟨some 28, some ((some 25), true), .call (.cst (.fn (.func 49) [] [])) [(.tmp 27), (.cst (I 0)), (.cst (I 255))]⟩,
  ⟨some 29, none, .pick (.tmp 25) (.tmp 28) (.cst (.bool false))⟩,
  ⟨some 30, none, .mov (.tmp 29)⟩,
  ⟨some 31, some ((some 30), true), .fad (.tmp 1) 5⟩,
  ⟨some 32, some ((some 30), true), .load none (.tmp 31)⟩,
  ⟨some 33, some ((some 30), true), .len (.tmp 32)⟩,
  ⟨some 34, some ((some 30), true), .bin .leq (.tmp 33) (.cst (I 4))⟩,
  ⟨some 35, none, .pick (.tmp 30) (.tmp 34) (.cst (.bool false))⟩,
  ⟨some 3, none, .mov (.tmp 35)⟩])
 (.seq (.seq (.ops false [
  ⟨some 4, none, .mov (.cst (I 0))⟩])
 (.block 0 (.loop keep18_0 body18_0)))
 (.seq (.seq (.ops false [
  ⟨some 5, none, .mov (.cst (I 0))⟩])
 (.block 2 (.loop keep18_1 body18_1)))
 (.seq (.seq (.ops false [
  ⟨some 69, none, .mov (.tmp 3)⟩,
  ⟨some 70, none, .lnot (.tmp 69)⟩])
 (.cond (.tmp 70) (.seq (.ops false [
  ⟨some 2, none, .mov (.cst (I 50))⟩])
 .ret) .skip))
 (.seq (.ops false [
  ⟨some 2, none, .mov (.cst (I 0))⟩])
 .ret))))))⟩
theorem comp18 : compF Cv 18 = some code18 := by kernel_rfl

def code19 : MF := ⟨15, [(2, none), (3, none)], (.seq (.ops false [
  ⟨some 1, none, .box (.tmp 0)⟩,
  ⟨some 2, none, .mov (.cst (I 0))⟩,
  ⟨some 3, none, .mov (.cst (I 0))⟩])
 (.seq (.seq (.ops false [
  ⟨some 5, none, .load (some 6) (.tmp 1)⟩,
  ⟨some 6, none, .call (.cst (.fn (.func 17) [] [])) [(.tmp 5)]⟩,
  ⟨some 4, none, .mov (.tmp 6)⟩])
 (.seq (.ops false [
  ⟨some 7, none, .mov (.tmp 4)⟩,
  ⟨some 8, none, .bin .neq (.tmp 7) (.cst (I 0))⟩])
 (.cond (.tmp 8) (.seq (.ops false [
  ⟨some 9, none, .mov (.tmp 4)⟩,
  ⟨some 2, none, .mov (.cst (I 0))⟩,
  ⟨some 3, none, .mov (.tmp 9)⟩])
 .ret) .skip)))
 (.seq (.ops true [
  ⟨some 10, none, .load (some 6) (.tmp 1)⟩,
  ⟨some 11, none, .call (.cst (.fn (.func 66) [] [])) []⟩,
  ⟨some 12, none, .call (.cst (.fn (.func 65) [] [])) [(.tmp 10), (.tmp 11)]⟩,
  ⟨some 13, none, .fld none (.tmp 12) 7⟩,
  ⟨some 14, none, .len (.tmp 13)⟩,
  ⟨some 2, none, .mov (.tmp 14)⟩,
  ⟨some 3, none, .mov (.cst (I 0))⟩])
 .ret)))⟩
theorem comp19 : compF Cv 19 = some code19 := by kernel_rfl

def code20 : MF := ⟨13, [(2, none), (3, none)], (.seq (.ops false [
  ⟨some 1, none, .box (.tmp 0)⟩,
  ⟨some 2, none, .mov (.cst (I 0))⟩,
  ⟨some 3, none, .mov (.cst (I 0))⟩])
 (.seq (.seq (.ops false [
  ⟨some 5, none, .load (some 6) (.tmp 1)⟩,
  ⟨some 6, none, .call (.cst (.fn (.func 18) [] [])) [(.tmp 5)]⟩,
  ⟨some 4, none, .mov (.tmp 6)⟩])
 (.seq (.ops false [
  ⟨some 7, none, .mov (.tmp 4)⟩,
  ⟨some 8, none, .bin .neq (.tmp 7) (.cst (I 0))⟩])
 (.cond (.tmp 8) (.seq (.ops false [
  ⟨some 9, none, .mov (.tmp 4)⟩,
  ⟨some 2, none, .mov (.cst (I 0))⟩,
  ⟨some 3, none, .mov (.tmp 9)⟩])
 .ret) .skip)))
 (.seq (.ops false [
  ⟨some 10, none, .load (some 6) (.tmp 1)⟩,
  ⟨some 11, none, .call (.cst (.fn (.func 67) [] [])) [(.tmp 10), (.cst (I 0)), (.cst .nils)]⟩,
  ⟨some 12, none, .len (.tmp 11)⟩,
  ⟨some 2, none, .mov (.tmp 12)⟩,
  ⟨some 3, none, .mov (.cst (I 0))⟩])
 .ret)))⟩
theorem comp20 : compF Cv 20 = some code20 := by kernel_rfl

def body21_0 : MC := (.seq (.ops false [
  ⟨some 40, none, .bin .lss (.tmp 39) (.cst (I 13))⟩])
 (.seq (.cond (.tmp 40) .skip (.exit 0))
 (.seq (.block 1 (.seq (.ops false [
  ⟨some 41, none, .mov (.tmp 39)⟩,
  ⟨some 42, none, .ixv 13 1 none (.tmp 38) (.tmp 39)⟩,
  ⟨some 11, none, .mov (.tmp 41)⟩,
  ⟨some 12, none, .mov (.tmp 42)⟩])
 (.seq (.ops false [
  ⟨some 43, none, .mov (.tmp 12)⟩,
  ⟨some 44, none, .bin .gtr (.tmp 43) (.cst (I 0))⟩])
 (.cond (.tmp 44) (.ops false [
  ⟨some 45, none, .mov (.tmp 10)⟩,
  ⟨some 46, none, .mov (.tmp 11)⟩,
  ⟨some 47, none, .bsl 1 false (I 0) 1 [(0, (.tmp 46))]⟩,
  ⟨some 48, none, .app false 1 8 false (.tmp 45) (.tmp 47)⟩,
  ⟨some 10, none, .mov (.tmp 48)⟩]) .skip))))
 (.ops false [
  ⟨some 49, none, .bin .add (.tmp 39) (.cst (I 1))⟩,
  ⟨some 39, none, .mov (.tmp 49)⟩]))))
def keep21_0 : Option (List Nat) := some [10, 38, 39]
def code21 : MF := ⟨56, [(6, none), (7, none)], (.seq (.ops false [
  ⟨some 3, none, .box (.tmp 0)⟩,
  ⟨some 6, none, .mov (.cst .nils)⟩,
  ⟨some 7, none, .mov (.cst (I 0))⟩])
 (.seq (.ops true [
  ⟨some 14, none, .load (some 6) (.tmp 3)⟩,
  ⟨some 15, none, .mov (.tmp 1)⟩,
  ⟨some 16, none, .fad (.tmp 3) 1⟩,
  ⟨some 17, none, .load none (.tmp 16)⟩,
  ⟨some 18, none, .len (.tmp 17)⟩,
  ⟨some 19, none, .bin .sub (.tmp 18) (.cst (I 1))⟩,
  ⟨some 20, none, .call (.cst (.fn (.func 61) [] [])) [(.tmp 15), (.cst (I 0)), (.tmp 19)]⟩,
  ⟨some 21, none, .mov (.tmp 20)⟩,
  ⟨some 22, some ((some 21), true), .mov (.tmp 2)⟩,
  ⟨some 23, some ((some 21), true), .fad (.tmp 3) 0⟩,
  ⟨some 24, some ((some 21), true), .load none (.tmp 23)⟩,
  ⟨some 25, some ((some 21), true), .bin .sub (.tmp 24) (.cst (I 1))⟩,
  ⟨some 26, some ((some 21), true), .call (.cst (.fn (.func 61) [] [])) [(.tmp 22), (.cst (I 0)), (.tmp 25)]⟩,
  ⟨some 27, none, .pick (.tmp 21) (.tmp 26) (.cst (.bool false))⟩,
  ⟨some 28, none, .call (.cst (.fn (.func 68) [] [])) [(.tmp 14), (.tmp 27)]⟩,
  ⟨some 13, none, .mov (.tmp 28)⟩,
  ⟨some 29, none, .ext (.tmp 13) 0⟩,
  ⟨some 30, none, .ext (.tmp 13) 1⟩,
  ⟨some 8, none, .alloc [(I 0), .nils, (I 0), (I 0), (I 0), .nils, .nilm, .nils]⟩,
  ⟨none, none, .store 8 (.tmp 8) (.tmp 29)⟩,
  ⟨some 9, none, .mov (.tmp 30)⟩])
 (.seq (.seq (.ops false [
  ⟨some 31, none, .mov (.tmp 9)⟩,
  ⟨some 32, none, .bin .neq (.tmp 31) (.cst (I 0))⟩])
 (.cond (.tmp 32) (.seq (.ops false [
  ⟨some 33, none, .mov (.tmp 9)⟩,
  ⟨some 6, none, .mov (.cst .nils)⟩,
  ⟨some 7, none, .mov (.tmp 33)⟩])
 .ret) .skip))
 (.seq (.ops false [
  ⟨some 10, none, .mov (.cst .nils)⟩])
 (.seq (.seq (.ops false [
  ⟨some 34, none, .load (some 8) (.tmp 8)⟩,
  ⟨some 35, none, .mov (.tmp 1)⟩,
  ⟨some 36, none, .mov (.tmp 2)⟩,
  ⟨some 37, none, .bld [(I 0), (I 0)] [(0, 1, (.tmp 35)), (1, 1, (.tmp 36))]⟩,
  ⟨some 38, none, .call (.cst (.fn (.func 69) [] [])) [(.tmp 34), (.tmp 37)]⟩,
  ⟨some 39, none, .mov (.cst (I 0))⟩])
 (.block 0 (.loop keep21_0 body21_0)))
 (.seq (.ops false [
  ⟨some 50, none, .mov (.tmp 10)⟩,
  ⟨some 51, none, .mov (.tmp 10)⟩,
  ⟨some 52, none, .len (.tmp 51)⟩,
  ⟨some 53, none, .mov (.tmp 10)⟩,
  ⟨some 54, none, .len (.tmp 53)⟩,
  ⟨some 55, none, .slc 1 (.tmp 50) none (some (.tmp 52)) (some (.tmp 54))⟩,
  ⟨some 6, none, .mov (.tmp 55)⟩,
  ⟨some 7, none, .mov (.cst (I 0))⟩])
 .ret))))))⟩
theorem comp21 : compF Cv 21 = some code21 := by kernel_rfl

def body22_0 : MC := (.seq (.seq (.ops false [
  ⟨some 29, none, .mov (.tmp 11)⟩,
  ⟨some 30, none, .bin .leq (.tmp 29) (.cst (I 12))⟩])
 (.cond (.tmp 30) .skip (.exit 0)))
 (.seq (.block 1 (.seq (.ops false [
  ⟨some 33, none, .mov (.tmp 8)⟩,
  ⟨some 34, none, .mov (.tmp 1)⟩,
  ⟨some 35, none, .mov (.tmp 2)⟩,
  ⟨some 36, none, .mov (.tmp 11)⟩,
  ⟨some 37, none, .call (.cst (.fn (.func 73) [] [])) [(.tmp 33), (.tmp 34), (.tmp 35), (.tmp 36)]⟩,
  ⟨some 38, none, .bin .gtr (.tmp 37) (.cst (I 0))⟩])
 (.cond (.tmp 38) (.ops false [
  ⟨some 39, none, .mov (.tmp 10)⟩,
  ⟨some 40, none, .mov (.tmp 11)⟩,
  ⟨some 41, none, .bsl 1 false (I 0) 1 [(0, (.tmp 40))]⟩,
  ⟨some 42, none, .app false 1 8 false (.tmp 39) (.tmp 41)⟩,
  ⟨some 10, none, .mov (.tmp 42)⟩]) .skip)))
 (.ops false [
  ⟨some 31, none, .mov (.tmp 11)⟩,
  ⟨some 32, none, .bin .add (.tmp 31) (.cst (I 1))⟩,
  ⟨some 11, none, .mov (.tmp 32)⟩])))
def keep22_0 : Option (List Nat) := some [1, 2, 8, 10, 11]
def code22 : MF := ⟨44, [(6, none), (7, none)], (.seq (.ops false [
  ⟨some 3, none, .box (.tmp 0)⟩,
  ⟨some 6, none, .mov (.cst .nils)⟩,
  ⟨some 7, none, .mov (.cst (I 0))⟩])
 (.seq (.ops true [
  ⟨some 13, none, .load (some 6) (.tmp 3)⟩,
  ⟨some 14, none, .load (some 6) (.tmp 3)⟩,
  ⟨some 15, none, .mov (.tmp 1)⟩,
  ⟨some 16, none, .call (.cst (.fn (.func 71) [] [])) [(.tmp 14), (.tmp 15)]⟩,
  ⟨some 17, none, .mov (.tmp 16)⟩,
  ⟨some 18, some ((some 17), true), .load (some 6) (.tmp 3)⟩,
  ⟨some 19, some ((some 17), true), .mov (.tmp 2)⟩,
  ⟨some 20, some ((some 17), true), .call (.cst (.fn (.func 72) [] [])) [(.tmp 18), (.tmp 19)]⟩,
  ⟨some 21, none, .pick (.tmp 17) (.tmp 20) (.cst (.bool false))⟩,
  ⟨some 22, none, .call (.cst (.fn (.func 70) [] [])) [(.tmp 13), (.tmp 21)]⟩,
  ⟨some 12, none, .mov (.tmp 22)⟩,
  ⟨some 23, none, .ext (.tmp 12) 0⟩,
  ⟨some 24, none, .ext (.tmp 12) 1⟩,
  ⟨some 8, none, .mov (.tmp 23)⟩,
  ⟨some 9, none, .mov (.tmp 24)⟩])
 (.seq (.seq (.ops false [
  ⟨some 25, none, .mov (.tmp 9)⟩,
  ⟨some 26, none, .bin .neq (.tmp 25) (.cst (I 0))⟩])
 (.cond (.tmp 26) (.seq (.ops false [
  ⟨some 27, none, .mov (.tmp 9)⟩,
  ⟨some 6, none, .mov (.cst .nils)⟩,
  ⟨some 7, none, .mov (.tmp 27)⟩])
 .ret) .skip))
 (.seq (.ops false [
  ⟨some 28, none, .bsl 1 false (I 0) 0 []⟩,
  ⟨some 10, none, .mov (.tmp 28)⟩])
 (.seq (.seq (.ops false [
  ⟨some 11, none, .mov (.cst (I 0))⟩])
 (.block 0 (.loop keep22_0 body22_0)))
 (.seq (.ops false [
  ⟨some 43, none, .mov (.tmp 10)⟩,
  ⟨some 6, none, .mov (.tmp 43)⟩,
  ⟨some 7, none, .mov (.cst (I 0))⟩])
 .ret))))))⟩
theorem comp22 : compF Cv 22 = some code22 := by kernel_rfl

def body23_0 : MC := (.seq (.seq (.ops false [
  ⟨some 12, none, .mov (.tmp 5)⟩,
  ⟨some 13, none, .mov (.tmp 12)⟩,
  ⟨some 14, some ((some 13), true), .mov (.tmp 6)⟩,
  ⟨some 15, some ((some 13), true), .mov (.tmp 0)⟩,
  ⟨some 16, some ((some 13), true), .len (.tmp 15)⟩,
  ⟨some 17, some ((some 13), true), .bin .lss (.tmp 14) (.tmp 16)⟩,
  ⟨some 18, none, .pick (.tmp 13) (.tmp 17) (.cst (.bool false))⟩])
 (.cond (.tmp 18) .skip (.exit 0)))
 (.seq (.block 1 (.ops false [
  ⟨some 21, none, .mov (.tmp 0)⟩,
  ⟨some 22, none, .mov (.tmp 6)⟩,
  ⟨some 23, none, .ixs 1 (.tmp 21) (.tmp 22)⟩,
  ⟨some 24, none, .load none (.tmp 23)⟩,
  ⟨some 25, none, .mov (.tmp 1)⟩,
  ⟨some 26, none, .mov (.tmp 6)⟩,
  ⟨some 27, none, .ixs 1 (.tmp 25) (.tmp 26)⟩,
  ⟨some 28, none, .load none (.tmp 27)⟩,
  ⟨some 29, none, .bin .eql (.tmp 24) (.tmp 28)⟩,
  ⟨some 5, none, .mov (.tmp 29)⟩]))
 (.ops false [
  ⟨some 19, none, .mov (.tmp 6)⟩,
  ⟨some 20, none, .bin .add (.tmp 19) (.cst (I 1))⟩,
  ⟨some 6, none, .mov (.tmp 20)⟩])))
def keep23_0 : Option (List Nat) := some [0, 1, 5, 6]
def code23 : MF := ⟨31, [(4, none)], (.seq (.ops false [
  ⟨some 4, none, .mov (.cst (.bool false))⟩])
 (.seq (.ops false [
  ⟨some 7, none, .mov (.tmp 0)⟩,
  ⟨some 8, none, .len (.tmp 7)⟩,
  ⟨some 9, none, .mov (.tmp 1)⟩,
  ⟨some 10, none, .len (.tmp 9)⟩,
  ⟨some 11, none, .bin .eql (.tmp 8) (.tmp 10)⟩,
  ⟨some 5, none, .mov (.tmp 11)⟩])
 (.seq (.seq (.ops false [
  ⟨some 6, none, .mov (.cst (I 0))⟩])
 (.block 0 (.loop keep23_0 body23_0)))
 (.seq (.ops false [
  ⟨some 30, none, .mov (.tmp 5)⟩,
  ⟨some 4, none, .mov (.tmp 30)⟩])
 .ret))))⟩
theorem comp23 : compF Cv 23 = some code23 := by kernel_rfl

def body24_0 : MC := (.seq (.ops false [
  ⟨some 28, none, .bin .lss (.tmp 27) (.tmp 26)⟩])
 (.seq (.cond (.tmp 28) .skip (.exit 0))
 (.seq (.block 1 (.seq (.ops false [
  ⟨some 29, none, .mov (.tmp 27)⟩,
  ⟨some 9, none, .mov (.tmp 29)⟩])
 (.seq (.ops false [
  ⟨some 30, none, .fad (.tmp 6) 7⟩,
  ⟨some 31, none, .load none (.tmp 30)⟩,
  ⟨some 32, none, .mov (.tmp 9)⟩,
  ⟨some 33, none, .mov (.tmp 1)⟩,
  ⟨some 34, none, .ixs 9 (.tmp 31) (.cst (I 0))⟩,
  ⟨some 35, none, .ixa 3 3 (.tmp 34) (.tmp 32)⟩,
  ⟨some 36, none, .ixa 3 1 (.tmp 35) (.tmp 33)⟩,
  ⟨some 37, none, .load none (.tmp 36)⟩,
  ⟨some 10, none, .mov (.tmp 37)⟩])
 (.seq (.seq (.ops true [
  ⟨some 38, none, .load (some 8) (.tmp 6)⟩,
  ⟨some 39, none, .mov (.tmp 1)⟩,
  ⟨some 40, none, .mov (.tmp 9)⟩,
  ⟨some 41, none, .bld [(I 0), (I 0)] [(0, 1, (.tmp 39)), (1, 1, (.tmp 40))]⟩,
  ⟨some 42, none, .call (.cst (.fn (.func 69) [] [])) [(.tmp 38), (.tmp 41)]⟩,
  ⟨some 43, none, .mov (.tmp 10)⟩,
  ⟨some 44, none, .ixv 13 1 none (.tmp 42) (.tmp 43)⟩,
  ⟨some 45, none, .fad (.tmp 6) 7⟩,
  ⟨some 46, none, .load none (.tmp 45)⟩,
  ⟨some 47, none, .len (.tmp 46)⟩,
  ⟨some 48, none, .bin .lss (.tmp 44) (.tmp 47)⟩])
 (.cond (.tmp 48) (.seq (.ops false [
  ⟨some 4, none, .mov (.cst .nils)⟩,
  ⟨some 5, none, .mov (.cst (I 4))⟩])
 .ret) .skip))
 (.ops false [
  ⟨some 49, none, .mov (.tmp 8)⟩,
  ⟨some 50, none, .mov (.tmp 10)⟩,
  ⟨some 51, none, .bsl 1 false (I 0) 1 [(0, (.tmp 50))]⟩,
  ⟨some 52, none, .app false 1 8 false (.tmp 49) (.tmp 51)⟩,
  ⟨some 8, none, .mov (.tmp 52)⟩])))))
 (.ops false [
  ⟨some 53, none, .bin .add (.tmp 27) (.cst (I 1))⟩,
  ⟨some 27, none, .mov (.tmp 53)⟩]))))
def keep24_0 : Option (List Nat) := some [1, 6, 8, 26, 27]
def code24 : MF := ⟨60, [(4, none), (5, none)], (.seq (.ops false [
  ⟨some 2, none, .box (.tmp 0)⟩,
  ⟨some 4, none, .mov (.cst .nils)⟩,
  ⟨some 5, none, .mov (.cst (I 0))⟩])
 (.seq (.ops true [
  ⟨some 12, none, .load (some 6) (.tmp 2)⟩,
  ⟨some 13, none, .mov (.tmp 1)⟩,
  ⟨some 14, none, .fad (.tmp 2) 1⟩,
  ⟨some 15, none, .load none (.tmp 14)⟩,
  ⟨some 16, none, .len (.tmp 15)⟩,
  ⟨some 17, none, .bin .sub (.tmp 16) (.cst (I 1))⟩,
  ⟨some 18, none, .call (.cst (.fn (.func 61) [] [])) [(.tmp 13), (.cst (I 0)), (.tmp 17)]⟩,
  ⟨some 19, none, .call (.cst (.fn (.func 68) [] [])) [(.tmp 12), (.tmp 18)]⟩,
  ⟨some 11, none, .mov (.tmp 19)⟩,
  ⟨some 20, none, .ext (.tmp 11) 0⟩,
  ⟨some 21, none, .ext (.tmp 11) 1⟩,
  ⟨some 6, none, .alloc [(I 0), .nils, (I 0), (I 0), (I 0), .nils, .nilm, .nils]⟩,
  ⟨none, none, .store 8 (.tmp 6) (.tmp 20)⟩,
  ⟨some 7, none, .mov (.tmp 21)⟩])
 (.seq (.seq (.ops false [
  ⟨some 22, none, .mov (.tmp 7)⟩,
  ⟨some 23, none, .bin .neq (.tmp 22) (.cst (I 0))⟩])
 (.cond (.tmp 23) (.seq (.ops false [
  ⟨some 24, none, .mov (.tmp 7)⟩,
  ⟨some 4, none, .mov (.cst .nils)⟩,
  ⟨some 5, none, .mov (.tmp 24)⟩])
 .ret) .skip))
 (.seq (.ops false [
  ⟨some 8, none, .mov (.cst .nils)⟩])
 (.seq (.seq (.ops false [
  ⟨some 25, none, .fad (.tmp 2) 0⟩,
  ⟨some 26, none, .load none (.tmp 25)⟩,
  ⟨some 27, none, .mov (.cst (I 0))⟩])
 (.block 0 (.loop keep24_0 body24_0)))
 (.seq (.ops false [
  ⟨some 54, none, .mov (.tmp 8)⟩,
  ⟨some 55, none, .mov (.tmp 8)⟩,
  ⟨some 56, none, .len (.tmp 55)⟩,
  ⟨some 57, none, .mov (.tmp 8)⟩,
  ⟨some 58, none, .len (.tmp 57)⟩,
  ⟨some 59, none, .slc 1 (.tmp 54) none (some (.tmp 56)) (some (.tmp 58))⟩,
  ⟨some 4, none, .mov (.tmp 59)⟩,
  ⟨some 5, none, .mov (.cst (I 0))⟩])
 .ret))))))⟩
theorem comp24 : compF Cv 24 = some code24 := by kernel_rfl

def body25_0 : MC := (.seq (.seq (.ops false [
  ⟨some 20, none, .mov (.tmp 8)⟩,
  ⟨some 21, none, .mov (.tmp 6)⟩,
  ⟨some 22, none, .len (.tmp 21)⟩,
  ⟨some 23, none, .bin .lss (.tmp 20) (.tmp 22)⟩])
 (.cond (.tmp 23) .skip (.exit 0)))
 (.seq (.block 1 (.seq (.ops false [
  ⟨some 26, none, .mov (.tmp 6)⟩,
  ⟨some 27, none, .mov (.tmp 8)⟩,
  ⟨some 28, none, .ixs 1 (.tmp 26) (.tmp 27)⟩,
  ⟨some 29, none, .load none (.tmp 28)⟩,
  ⟨some 30, none, .mov (.tmp 1)⟩,
  ⟨some 31, none, .ixs 1 (.tmp 29) (.tmp 30)⟩,
  ⟨some 32, none, .load none (.tmp 31)⟩,
  ⟨some 33, none, .mov (.tmp 6)⟩,
  ⟨some 34, none, .ixs 1 (.tmp 33) (.cst (I 0))⟩,
  ⟨some 35, none, .load none (.tmp 34)⟩,
  ⟨some 36, none, .mov (.tmp 1)⟩,
  ⟨some 37, none, .ixs 1 (.tmp 35) (.tmp 36)⟩,
  ⟨some 38, none, .load none (.tmp 37)⟩,
  ⟨some 39, none, .call (.cst (.fn (.func 23) [] [])) [(.tmp 32), (.tmp 38)]⟩,
  ⟨some 40, none, .lnot (.tmp 39)⟩])
 (.cond (.tmp 40) (.seq (.ops false [
  ⟨some 4, none, .mov (.cst .nils)⟩,
  ⟨some 5, none, .mov (.cst (I 4))⟩])
 .ret) .skip)))
 (.ops false [
  ⟨some 24, none, .mov (.tmp 8)⟩,
  ⟨some 25, none, .bin .add (.tmp 24) (.cst (I 1))⟩,
  ⟨some 8, none, .mov (.tmp 25)⟩])))
def keep25_0 : Option (List Nat) := some [1, 6, 8]
def code25 : MF := ⟨49, [(4, none), (5, none)], (.seq (.ops false [
  ⟨some 2, none, .box (.tmp 0)⟩,
  ⟨some 4, none, .mov (.cst .nils)⟩,
  ⟨some 5, none, .mov (.cst (I 0))⟩])
 (.seq (.ops true [
  ⟨some 10, none, .load (some 6) (.tmp 2)⟩,
  ⟨some 11, none, .load (some 6) (.tmp 2)⟩,
  ⟨some 12, none, .mov (.tmp 1)⟩,
  ⟨some 13, none, .call (.cst (.fn (.func 71) [] [])) [(.tmp 11), (.tmp 12)]⟩,
  ⟨some 14, none, .call (.cst (.fn (.func 70) [] [])) [(.tmp 10), (.tmp 13)]⟩,
  ⟨some 9, none, .mov (.tmp 14)⟩,
  ⟨some 15, none, .ext (.tmp 9) 0⟩,
  ⟨some 16, none, .ext (.tmp 9) 1⟩,
  ⟨some 6, none, .mov (.tmp 15)⟩,
  ⟨some 7, none, .mov (.tmp 16)⟩])
 (.seq (.seq (.ops false [
  ⟨some 17, none, .mov (.tmp 7)⟩,
  ⟨some 18, none, .bin .neq (.tmp 17) (.cst (I 0))⟩])
 (.cond (.tmp 18) (.seq (.ops false [
  ⟨some 19, none, .mov (.tmp 7)⟩,
  ⟨some 4, none, .mov (.cst .nils)⟩,
  ⟨some 5, none, .mov (.tmp 19)⟩])
 .ret) .skip))
 (.seq (.seq (.ops false [
  ⟨some 8, none, .mov (.cst (I 0))⟩])
 (.block 0 (.loop keep25_0 body25_0)))
 (.seq (.ops false [
  ⟨some 41, none, .bsl 1 false (I 0) 0 []⟩,
  ⟨some 42, none, .mov (.tmp 6)⟩,
  ⟨some 43, none, .ixs 1 (.tmp 42) (.cst (I 0))⟩,
  ⟨some 44, none, .load none (.tmp 43)⟩,
  ⟨some 45, none, .mov (.tmp 1)⟩,
  ⟨some 46, none, .ixs 1 (.tmp 44) (.tmp 45)⟩,
  ⟨some 47, none, .load none (.tmp 46)⟩,
  ⟨some 48, none, .app false 1 8 false (.tmp 41) (.tmp 47)⟩,
  ⟨some 4, none, .mov (.tmp 48)⟩,
  ⟨some 5, none, .mov (.cst (I 0))⟩])
 .ret)))))⟩
theorem comp25 : compF Cv 25 = some code25 := by kernel_rfl

def code26 : MF := ⟨154, [(0, none)], (.seq (.ops false [
  ⟨some 0, none, .mov (.cst (.bool false))⟩])
 (.seq (.ops false [
  ⟨some 18, none, .call (.cst (.fn (.func 55) [] [])) []⟩,
  ⟨some 19, none, .call (.cst (.fn (.func 19) [] [])) [(.tmp 18)]⟩,
  ⟨some 17, none, .mov (.tmp 19)⟩,
  ⟨some 20, none, .ext (.tmp 17) 0⟩,
  ⟨some 21, none, .ext (.tmp 17) 1⟩,
  ⟨some 1, none, .mov (.tmp 20)⟩,
  ⟨some 2, none, .mov (.tmp 21)⟩])
 (.seq (.ops false [
  ⟨some 23, none, .call (.cst (.fn (.func 55) [] [])) []⟩,
  ⟨some 24, none, .call (.cst (.fn (.func 21) [] [])) [(.tmp 23), (.cst (I 1)), (.cst (I 2))]⟩,
  ⟨some 22, none, .mov (.tmp 24)⟩,
  ⟨some 25, none, .ext (.tmp 22) 0⟩,
  ⟨some 26, none, .ext (.tmp 22) 1⟩,
  ⟨some 3, none, .mov (.tmp 25)⟩,
  ⟨some 4, none, .mov (.tmp 26)⟩])
 (.seq (.ops false [
  ⟨some 28, none, .call (.cst (.fn (.func 60) [] [])) []⟩,
  ⟨some 29, none, .call (.cst (.fn (.func 24) [] [])) [(.tmp 28), (.cst (I 1))]⟩,
  ⟨some 27, none, .mov (.tmp 29)⟩,
  ⟨some 30, none, .ext (.tmp 27) 0⟩,
  ⟨some 31, none, .ext (.tmp 27) 1⟩,
  ⟨some 5, none, .mov (.tmp 30)⟩,
  ⟨some 6, none, .mov (.tmp 31)⟩])
 (.seq (.ops false [
  ⟨some 33, none, .call (.cst (.fn (.func 55) [] [])) []⟩,
  ⟨some 34, none, .call (.cst (.fn (.func 27) [] [])) [(.tmp 33)]⟩,
  ⟨some 32, none, .mov (.tmp 34)⟩,
  ⟨some 35, none, .ext (.tmp 32) 0⟩,
  ⟨some 36, none, .ext (.tmp 32) 1⟩,
  ⟨some 37, none, .ext (.tmp 32) 2⟩,
  ⟨some 7, none, .mov (.tmp 35)⟩,
  ⟨some 8, none, .mov (.tmp 36)⟩,
  ⟨some 9, none, .mov (.tmp 37)⟩])
 (.seq (.ops false [
  ⟨some 39, none, .call (.cst (.fn (.func 55) [] [])) []⟩,
  ⟨some 40, none, .call (.cst (.fn (.func 29) [] [])) [(.tmp 39)]⟩,
  ⟨some 38, none, .mov (.tmp 40)⟩,
  ⟨some 41, none, .ext (.tmp 38) 0⟩,
  ⟨some 42, none, .ext (.tmp 38) 1⟩,
  ⟨some 43, none, .ext (.tmp 38) 2⟩,
  ⟨some 10, none, .mov (.tmp 41)⟩,
  ⟨some 11, none, .mov (.tmp 42)⟩,
  ⟨some 12, none, .mov (.tmp 43)⟩])
 (.seq (.seq (.ops false [
  ⟨some 44, none, .mov (.tmp 2)⟩,
  ⟨some 45, none, .bin .neq (.tmp 44) (.cst (I 0))⟩,
  ⟨some 46, none, .mov (.tmp 45)⟩,
  ⟨some 47, some ((some 46), false), .mov (.tmp 4)⟩,
  ⟨some 48, some ((some 46), false), .bin .neq (.tmp 47) (.cst (I 0))⟩,
  ⟨some 49, none, .pick (.tmp 46) (.cst (.bool true)) (.tmp 48)⟩,
  ⟨some 50, none, .mov (.tmp 49)⟩,
  ⟨some 51, some ((some 50), false), .mov (.tmp 6)⟩,
  ⟨some 52, some ((some 50), false), .bin .neq (.tmp 51) (.cst (I 0))⟩,
  ⟨some 53, none, .pick (.tmp 50) (.cst (.bool true)) (.tmp 52)⟩,
  ⟨some 54, none, .mov (.tmp 53)⟩,
  ⟨some 55, some ((some 54), false), .mov (.tmp 9)⟩,
  ⟨some 56, some ((some 54), false), .bin .neq (.tmp 55) (.cst (I 0))⟩,
  ⟨some 57, none, .pick (.tmp 54) (.cst (.bool true)) (.tmp 56)⟩,
  ⟨some 58, none, .mov (.tmp 57)⟩,
  ⟨some 59, some ((some 58), false), .mov (.tmp 12)⟩,
  ⟨some 60, some ((some 58), false), .bin .neq (.tmp 59) (.cst (I 0))⟩,
  ⟨some 61, none, .pick (.tmp 58) (.cst (.bool true)) (.tmp 60)⟩,
  ⟨some 62, none, .mov (.tmp 61)⟩,
  ⟨some 63, some ((some 62), false), .mov (.tmp 1)⟩,
  ⟨some 64, some ((some 62), false), .bin .neq (.tmp 63) (.cst (I 6))⟩,
  ⟨some 65, none, .pick (.tmp 62) (.cst (.bool true)) (.tmp 64)⟩,
  ⟨some 66, none, .mov (.tmp 65)⟩,
  ⟨some 67, some ((some 66), false), .mov (.tmp 3)⟩,
  ⟨some 68, some ((some 66), false), .bsl 1 false (I 0) 2 [(0, (.cst (I 4))), (1, (.cst (I 5)))]⟩,
  ⟨some 69, some ((some 66), false), .call (.cst (.fn (.func 23) [] [])) [(.tmp 67), (.tmp 68)]⟩,
  ⟨some 70, some ((some 66), false), .lnot (.tmp 69)⟩,
  ⟨some 71, none, .pick (.tmp 66) (.cst (.bool true)) (.tmp 70)⟩,
  ⟨some 72, none, .mov (.tmp 71)⟩,
  ⟨some 73, some ((some 72), false), .mov (.tmp 5)⟩,
  ⟨some 74, some ((some 72), false), .bsl 1 false (I 0) 3 [(0, (.cst (I 3))), (1, (.cst (I 3))), (2, (.cst (I 4)))]⟩,
  ⟨some 75, some ((some 72), false), .call (.cst (.fn (.func 23) [] [])) [(.tmp 73), (.tmp 74)]⟩,
  ⟨some 76, some ((some 72), false), .lnot (.tmp 75)⟩,
  ⟨some 77, none, .pick (.tmp 72) (.cst (.bool true)) (.tmp 76)⟩,
  ⟨some 78, none, .mov (.tmp 77)⟩,
  ⟨some 79, some ((some 78), false), .mov (.tmp 7)⟩,
  ⟨some 80, some ((some 78), false), .bin .neq (.tmp 79) (.cst (I 1))⟩,
  ⟨some 81, none, .pick (.tmp 78) (.cst (.bool true)) (.tmp 80)⟩,
  ⟨some 82, none, .mov (.tmp 81)⟩,
  ⟨some 83, some ((some 82), false), .mov (.tmp 8)⟩,
  ⟨some 84, some ((some 82), false), .bin .neq (.tmp 83) (.cst (I 0))⟩,
  ⟨some 85, none, .pick (.tmp 82) (.cst (.bool true)) (.tmp 84)⟩,
  ⟨some 86, none, .mov (.tmp 85)⟩,
  ⟨some 87, some ((some 86), false), .mov (.tmp 10)⟩,
  ⟨some 88, some ((some 86), false), .bin .neq (.tmp 87) (.cst (I 1))⟩,
  ⟨some 89, none, .pick (.tmp 86) (.cst (.bool true)) (.tmp 88)⟩,
  ⟨some 90, none, .mov (.tmp 89)⟩,
  ⟨some 91, some ((some 90), false), .mov (.tmp 11)⟩,
  ⟨some 92, some ((some 90), false), .bin .neq (.tmp 91) (.cst (I 0))⟩,
  ⟨some 93, none, .pick (.tmp 90) (.cst (.bool true)) (.tmp 92)⟩])
 (.cond (.tmp 93) (.seq (.ops false [
  ⟨some 0, none, .mov (.cst (.bool false))⟩])
 .ret) .skip))
 (.seq (.ops false [
  ⟨some 95, none, .call (.cst (.fn (.func 55) [] [])) []⟩,
  ⟨some 96, none, .bsl 1 false (I 0) 3 [(0, (.cst (I 4))), (1, (.cst (I 4))), (2, (.cst (I 5)))]⟩,
  ⟨some 97, none, .call (.cst (.fn (.func 46) [] [])) [(.cst (I 1)), (.tmp 96)]⟩,
  ⟨some 98, none, .call (.cst (.fn (.func 31) [] [])) [(.tmp 95), (.tmp 97)]⟩,
  ⟨some 94, none, .mov (.tmp 98)⟩,
  ⟨some 99, none, .ext (.tmp 94) 0⟩,
  ⟨some 100, none, .ext (.tmp 94) 1⟩,
  ⟨some 13, none, .mov (.tmp 99)⟩,
  ⟨some 2, none, .mov (.tmp 100)⟩])
 (.seq (.ops false [
  ⟨some 102, none, .call (.cst (.fn (.func 59) [] [])) []⟩,
  ⟨some 103, none, .call (.cst (.fn (.func 33) [] [])) [(.tmp 102)]⟩,
  ⟨some 101, none, .mov (.tmp 103)⟩,
  ⟨some 104, none, .ext (.tmp 101) 0⟩,
  ⟨some 105, none, .ext (.tmp 101) 1⟩,
  ⟨some 14, none, .mov (.tmp 104)⟩,
  ⟨some 4, none, .mov (.tmp 105)⟩])
 (.seq (.ops false [
  ⟨some 107, none, .call (.cst (.fn (.func 59) [] [])) []⟩,
  ⟨some 108, none, .call (.cst (.fn (.func 35) [] [])) [(.tmp 107), (.cst (I 1))]⟩,
  ⟨some 106, none, .mov (.tmp 108)⟩,
  ⟨some 109, none, .ext (.tmp 106) 0⟩,
  ⟨some 110, none, .ext (.tmp 106) 1⟩,
  ⟨some 15, none, .mov (.tmp 109)⟩,
  ⟨some 6, none, .mov (.tmp 110)⟩])
 (.seq (.ops false [
  ⟨some 112, none, .call (.cst (.fn (.func 55) [] [])) []⟩,
  ⟨some 113, none, .call (.cst (.fn (.func 15) [] [])) [(.tmp 112)]⟩,
  ⟨some 111, none, .mov (.tmp 113)⟩,
  ⟨some 114, none, .ext (.tmp 111) 0⟩,
  ⟨some 115, none, .ext (.tmp 111) 1⟩,
  ⟨some 16, none, .mov (.tmp 114)⟩,
  ⟨some 9, none, .mov (.tmp 115)⟩])
 (.seq (.ops false [
  ⟨some 117, none, .call (.cst (.fn (.func 55) [] [])) []⟩,
  ⟨some 118, none, .call (.cst (.fn (.func 24) [] [])) [(.tmp 117), (.cst (I 1))]⟩,
  ⟨some 116, none, .mov (.tmp 118)⟩,
  ⟨some 119, none, .ext (.tmp 116) 0⟩,
  ⟨some 120, none, .ext (.tmp 116) 1⟩,
  ⟨some 12, none, .mov (.tmp 120)⟩])
 (.seq (.ops false [
  ⟨some 121, none, .mov (.tmp 2)⟩,
  ⟨some 122, none, .bin .eql (.tmp 121) (.cst (I 0))⟩,
  ⟨some 123, none, .mov (.tmp 122)⟩,
  ⟨some 124, some ((some 123), true), .mov (.tmp 4)⟩,
  ⟨some 125, some ((some 123), true), .bin .eql (.tmp 124) (.cst (I 0))⟩,
  ⟨some 126, none, .pick (.tmp 123) (.tmp 125) (.cst (.bool false))⟩,
  ⟨some 127, none, .mov (.tmp 126)⟩,
  ⟨some 128, some ((some 127), true), .mov (.tmp 6)⟩,
  ⟨some 129, some ((some 127), true), .bin .eql (.tmp 128) (.cst (I 0))⟩,
  ⟨some 130, none, .pick (.tmp 127) (.tmp 129) (.cst (.bool false))⟩,
  ⟨some 131, none, .mov (.tmp 130)⟩,
  ⟨some 132, some ((some 131), true), .mov (.tmp 9)⟩,
  ⟨some 133, some ((some 131), true), .bin .eql (.tmp 132) (.cst (I 0))⟩,
  ⟨some 134, none, .pick (.tmp 131) (.tmp 133) (.cst (.bool false))⟩,
  ⟨some 135, none, .mov (.tmp 134)⟩,
  ⟨some 136, some ((some 135), true), .mov (.tmp 12)⟩,
  ⟨some 137, some ((some 135), true), .bin .eql (.tmp 136) (.cst (I 4))⟩,
  ⟨some 138, none, .pick (.tmp 135) (.tmp 137) (.cst (.bool false))⟩,
  ⟨some 139, none, .mov (.tmp 138)⟩,
  ⟨some 140, some ((some 139), true), .mov (.tmp 13)⟩,
  ⟨some 141, none, .pick (.tmp 139) (.tmp 140) (.cst (.bool false))⟩,
  ⟨some 142, none, .mov (.tmp 141)⟩,
  ⟨some 143, some ((some 142), true), .mov (.tmp 14)⟩,
  ⟨some 144, some ((some 142), true), .bsl 1 false (I 0) 1 [(0, (.cst (I 1)))]⟩,
  ⟨some 145, some ((some 142), true), .call (.cst (.fn (.func 23) [] [])) [(.tmp 143), (.tmp 144)]⟩,
  ⟨some 146, none, .pick (.tmp 142) (.tmp 145) (.cst (.bool false))⟩,
  ⟨some 147, none, .mov (.tmp 146)⟩,
  ⟨some 148, some ((some 147), true), .mov (.tmp 15)⟩,
  ⟨some 149, some ((some 147), true), .bin .eql (.tmp 148) (.cst (I 1))⟩,
  ⟨some 150, none, .pick (.tmp 147) (.tmp 149) (.cst (.bool false))⟩,
  ⟨some 151, none, .mov (.tmp 150)⟩,
  ⟨some 152, some ((some 151), true), .mov (.tmp 16)⟩,
  ⟨some 153, none, .pick (.tmp 151) (.tmp 152) (.cst (.bool false))⟩,
  ⟨some 0, none, .mov (.tmp 153)⟩])
 .ret)))))))))))))⟩
theorem comp26 : compF Cv 26 = some code26 := by kernel_rfl

def code27 : MF := ⟨19, [(2, none), (3, none), (4, none)], (.seq (.ops false [
  ⟨some 1, none, .box (.tmp 0)⟩,
  ⟨some 2, none, .mov (.cst (I 0))⟩,
  ⟨some 3, none, .mov (.cst (I 0))⟩,
  ⟨some 4, none, .mov (.cst (I 0))⟩])
 (.seq (.ops false [
  ⟨some 7, none, .load (some 6) (.tmp 1)⟩,
  ⟨some 8, none, .call (.cst (.fn (.func 68) [] [])) [(.tmp 7), (.cst (.bool true))]⟩,
  ⟨some 6, none, .mov (.tmp 8)⟩,
  ⟨some 9, none, .ext (.tmp 6) 0⟩,
  ⟨some 10, none, .ext (.tmp 6) 1⟩,
  ⟨some 5, none, .alloc [(I 0), .nils, (I 0), (I 0), (I 0), .nils, .nilm, .nils]⟩,
  ⟨none, none, .store 8 (.tmp 5) (.tmp 9)⟩,
  ⟨some 4, none, .mov (.tmp 10)⟩])
 (.seq (.seq (.ops false [
  ⟨some 11, none, .mov (.tmp 4)⟩,
  ⟨some 12, none, .bin .neq (.tmp 11) (.cst (I 0))⟩])
 (.cond (.tmp 12) (.seq (.ops false [
  ⟨some 13, none, .mov (.tmp 4)⟩,
  ⟨some 2, none, .mov (.cst (I 0))⟩,
  ⟨some 3, none, .mov (.cst (I 0))⟩,
  ⟨some 4, none, .mov (.tmp 13)⟩])
 .ret) .skip))
 (.seq (.ops false [
  ⟨some 14, none, .load (some 8) (.tmp 5)⟩,
  ⟨some 15, none, .call (.cst (.fn (.func 74) [] [])) [(.tmp 14), (.cst (.fn (.func 75) [] []))]⟩,
  ⟨some 16, none, .ext (.tmp 15) 0⟩,
  ⟨some 17, none, .ext (.tmp 15) 1⟩,
  ⟨some 18, none, .ext (.tmp 15) 2⟩,
  ⟨some 2, none, .mov (.tmp 16)⟩,
  ⟨some 3, none, .mov (.tmp 17)⟩,
  ⟨some 4, none, .mov (.tmp 18)⟩])
 .ret))))⟩
theorem comp27 : compF Cv 27 = some code27 := by kernel_rfl

def body28_0 : MC := (.seq (.seq (.ops false [
  ⟨some 24, none, .mov (.tmp 8)⟩,
  ⟨some 25, none, .fad (.tmp 1) 0⟩,
  ⟨some 26, none, .load none (.tmp 25)⟩,
  ⟨some 27, none, .bin .lss (.tmp 24) (.tmp 26)⟩])
 (.cond (.tmp 27) .skip (.exit 2)))
 (.seq (.block 3 (.seq (.ops false [
  ⟨some 30, none, .mov (.tmp 5)⟩,
  ⟨some 31, none, .mov (.tmp 7)⟩,
  ⟨some 32, none, .mov (.tmp 8)⟩,
  ⟨some 33, none, .mov (.tmp 5)⟩,
  ⟨some 34, none, .ixs 1 (.tmp 33) (.cst (I 0))⟩,
  ⟨some 35, none, .load none (.tmp 34)⟩,
  ⟨some 36, none, .mov (.tmp 7)⟩,
  ⟨some 37, none, .ixs 1 (.tmp 35) (.tmp 36)⟩,
  ⟨some 38, none, .load none (.tmp 37)⟩,
  ⟨some 39, none, .mov (.tmp 8)⟩,
  ⟨some 40, none, .ixs 1 (.tmp 38) (.tmp 39)⟩,
  ⟨some 41, none, .load none (.tmp 40)⟩,
  ⟨some 42, none, .call (.cst (.fn (.func 73) [] [])) [(.tmp 30), (.tmp 31), (.tmp 32), (.tmp 41)]⟩,
  ⟨some 43, none, .mov (.tmp 5)⟩,
  ⟨some 44, none, .len (.tmp 43)⟩,
  ⟨some 45, none, .bin .lss (.tmp 42) (.tmp 44)⟩])
 (.cond (.tmp 45) (.seq (.ops false [
  ⟨some 46, none, .mov (.tmp 7)⟩,
  ⟨some 47, none, .mov (.tmp 8)⟩,
  ⟨some 2, none, .mov (.tmp 46)⟩,
  ⟨some 3, none, .mov (.tmp 47)⟩,
  ⟨some 4, none, .mov (.cst (I 0))⟩])
 .ret) .skip)))
 (.ops false [
  ⟨some 28, none, .mov (.tmp 8)⟩,
  ⟨some 29, none, .bin .add (.tmp 28) (.cst (I 1))⟩,
  ⟨some 8, none, .mov (.tmp 29)⟩])))
def keep28_0 : Option (List Nat) := some [1, 5, 7, 8]
def body28_1 : MC := (.seq (.seq (.ops false [
  ⟨some 17, none, .mov (.tmp 7)⟩,
  ⟨some 18, none, .fad (.tmp 1) 1⟩,
  ⟨some 19, none, .load none (.tmp 18)⟩,
  ⟨some 20, none, .len (.tmp 19)⟩,
  ⟨some 21, none, .bin .lss (.tmp 17) (.tmp 20)⟩])
 (.cond (.tmp 21) .skip (.exit 0)))
 (.seq (.block 1 (.seq (.ops false [
  ⟨some 8, none, .mov (.cst (I 0))⟩])
 (.block 2 (.loop keep28_0 body28_0))))
 (.ops false [
  ⟨some 22, none, .mov (.tmp 7)⟩,
  ⟨some 23, none, .bin .add (.tmp 22) (.cst (I 1))⟩,
  ⟨some 7, none, .mov (.tmp 23)⟩])))
def keep28_1 : Option (List Nat) := some [1, 5, 7]
def code28 : MF := ⟨48, [(2, none), (3, none), (4, none)], (.seq (.ops false [
  ⟨some 1, none, .box (.tmp 0)⟩,
  ⟨some 2, none, .mov (.cst (I 0))⟩,
  ⟨some 3, none, .mov (.cst (I 0))⟩,
  ⟨some 4, none, .mov (.cst (I 0))⟩])
 (.seq (.ops false [
  ⟨some 10, none, .load (some 6) (.tmp 1)⟩,
  ⟨some 11, none, .call (.cst (.fn (.func 70) [] [])) [(.tmp 10), (.cst (.bool true))]⟩,
  ⟨some 9, none, .mov (.tmp 11)⟩,
  ⟨some 12, none, .ext (.tmp 9) 0⟩,
  ⟨some 13, none, .ext (.tmp 9) 1⟩,
  ⟨some 5, none, .mov (.tmp 12)⟩,
  ⟨some 6, none, .mov (.tmp 13)⟩])
 (.seq (.seq (.ops false [
  ⟨some 14, none, .mov (.tmp 6)⟩,
  ⟨some 15, none, .bin .neq (.tmp 14) (.cst (I 0))⟩])
 (.cond (.tmp 15) (.seq (.ops false [
  ⟨some 16, none, .mov (.tmp 6)⟩,
  ⟨some 2, none, .mov (.cst (I 0))⟩,
  ⟨some 3, none, .mov (.cst (I 0))⟩,
  ⟨some 4, none, .mov (.tmp 16)⟩])
 .ret) .skip))
 (.seq (.seq (.ops false [
  ⟨some 7, none, .mov (.cst (I 0))⟩])
 (.block 0 (.loop keep28_1 body28_1)))
 (.seq (.ops false [
  ⟨some 2, none, .mov (.cst (I 0))⟩,
  ⟨some 3, none, .mov (.cst (I 0))⟩,
  ⟨some 4, none, .mov (.cst (I 4))⟩])
 .ret)))))⟩
theorem comp28 : compF Cv 28 = some code28 := by kernel_rfl

def code29 : MF := ⟨19, [(2, none), (3, none), (4, none)], (.seq (.ops false [
  ⟨some 1, none, .box (.tmp 0)⟩,
  ⟨some 2, none, .mov (.cst (I 0))⟩,
  ⟨some 3, none, .mov (.cst (I 0))⟩,
  ⟨some 4, none, .mov (.cst (I 0))⟩])
 (.seq (.ops false [
  ⟨some 7, none, .load (some 6) (.tmp 1)⟩,
  ⟨some 8, none, .call (.cst (.fn (.func 68) [] [])) [(.tmp 7), (.cst (.bool true))]⟩,
  ⟨some 6, none, .mov (.tmp 8)⟩,
  ⟨some 9, none, .ext (.tmp 6) 0⟩,
  ⟨some 10, none, .ext (.tmp 6) 1⟩,
  ⟨some 5, none, .alloc [(I 0), .nils, (I 0), (I 0), (I 0), .nils, .nilm, .nils]⟩,
  ⟨none, none, .store 8 (.tmp 5) (.tmp 9)⟩,
  ⟨some 4, none, .mov (.tmp 10)⟩])
 (.seq (.seq (.ops false [
  ⟨some 11, none, .mov (.tmp 4)⟩,
  ⟨some 12, none, .bin .neq (.tmp 11) (.cst (I 0))⟩])
 (.cond (.tmp 12) (.seq (.ops false [
  ⟨some 13, none, .mov (.tmp 4)⟩,
  ⟨some 2, none, .mov (.cst (I 0))⟩,
  ⟨some 3, none, .mov (.cst (I 0))⟩,
  ⟨some 4, none, .mov (.tmp 13)⟩])
 .ret) .skip))
 (.seq (.ops false [
  ⟨some 14, none, .load (some 8) (.tmp 5)⟩,
  ⟨some 15, none, .call (.cst (.fn (.func 74) [] [])) [(.tmp 14), (.cst (.fn (.func 76) [] []))]⟩,
  ⟨some 16, none, .ext (.tmp 15) 0⟩,
  ⟨some 17, none, .ext (.tmp 15) 1⟩,
  ⟨some 18, none, .ext (.tmp 15) 2⟩,
  ⟨some 2, none, .mov (.tmp 16)⟩,
  ⟨some 3, none, .mov (.tmp 17)⟩,
  ⟨some 4, none, .mov (.tmp 18)⟩])
 .ret))))⟩
theorem comp29 : compF Cv 29 = some code29 := by kernel_rfl

def body30_0 : MC := (.seq (.seq (.ops false [
  ⟨some 35, none, .mov (.tmp 13)⟩,
  ⟨some 36, none, .bin .leq (.tmp 35) (.cst (I 12))⟩])
 (.cond (.tmp 36) .skip (.exit 4)))
 (.seq (.block 5 (.ops false [
  ⟨some 39, none, .mov (.tmp 12)⟩,
  ⟨some 40, none, .mov (.tmp 5)⟩,
  ⟨some 41, none, .mov (.tmp 10)⟩,
  ⟨some 42, none, .mov (.tmp 11)⟩,
  ⟨some 43, none, .mov (.tmp 13)⟩,
  ⟨some 44, none, .call (.cst (.fn (.func 73) [] [])) [(.tmp 40), (.tmp 41), (.tmp 42), (.tmp 43)]⟩,
  ⟨some 45, none, .mx (.tmp 39) [(.tmp 44)]⟩,
  ⟨some 12, none, .mov (.tmp 45)⟩]))
 (.ops false [
  ⟨some 37, none, .mov (.tmp 13)⟩,
  ⟨some 38, none, .bin .add (.tmp 37) (.cst (I 1))⟩,
  ⟨some 13, none, .mov (.tmp 38)⟩])))
def keep30_0 : Option (List Nat) := some [1, 5, 7, 8, 9, 10, 11, 12, 13]
def body30_1 : MC := (.seq (.seq (.ops false [
  ⟨some 29, none, .mov (.tmp 11)⟩,
  ⟨some 30, none, .fad (.tmp 1) 0⟩,
  ⟨some 31, none, .load none (.tmp 30)⟩,
  ⟨some 32, none, .bin .lss (.tmp 29) (.tmp 31)⟩])
 (.cond (.tmp 32) .skip (.exit 2)))
 (.seq (.block 3 (.seq (.ops false [
  ⟨some 12, none, .mov (.cst (I 0))⟩])
 (.seq (.seq (.ops false [
  ⟨some 13, none, .mov (.cst (I 0))⟩])
 (.block 4 (.loop keep30_0 body30_0)))
 (.seq (.ops false [
  ⟨some 46, none, .mov (.tmp 12)⟩,
  ⟨some 47, none, .mov (.tmp 5)⟩,
  ⟨some 48, none, .len (.tmp 47)⟩,
  ⟨some 49, none, .bin .lss (.tmp 46) (.tmp 48)⟩,
  ⟨some 50, none, .mov (.tmp 49)⟩,
  ⟨some 51, some ((some 50), true), .mov (.tmp 7)⟩,
  ⟨some 52, some ((some 50), true), .bin .lss (.tmp 51) (.cst (I 0))⟩,
  ⟨some 53, some ((some 50), true), .mov (.tmp 52)⟩,
  ⟨some 54, some ((some 53), false), .mov (.tmp 12)⟩,
  ⟨some 55, some ((some 53), false), .mov (.tmp 9)⟩,
  ⟨some 56, some ((some 53), false), .bin .lss (.tmp 54) (.tmp 55)⟩,
  ⟨some 57, some ((some 50), true), .pick (.tmp 53) (.cst (.bool true)) (.tmp 56)⟩,
  ⟨some 58, none, .pick (.tmp 50) (.tmp 57) (.cst (.bool false))⟩])
 (.cond (.tmp 58) (.ops false [
  ⟨some 59, none, .mov (.tmp 10)⟩,
  ⟨some 60, none, .mov (.tmp 11)⟩,
  ⟨some 61, none, .mov (.tmp 12)⟩,
  ⟨some 7, none, .mov (.tmp 59)⟩,
  ⟨some 8, none, .mov (.tmp 60)⟩,
  ⟨some 9, none, .mov (.tmp 61)⟩]) .skip)))))
 (.ops false [
  ⟨some 33, none, .mov (.tmp 11)⟩,
  ⟨some 34, none, .bin .add (.tmp 33) (.cst (I 1))⟩,
  ⟨some 11, none, .mov (.tmp 34)⟩])))
def keep30_1 : Option (List Nat) := some [1, 5, 7, 8, 9, 10, 11]
def body30_2 : MC := (.seq (.seq (.ops false [
  ⟨some 22, none, .mov (.tmp 10)⟩,
  ⟨some 23, none, .fad (.tmp 1) 1⟩,
  ⟨some 24, none, .load none (.tmp 23)⟩,
  ⟨some 25, none, .len (.tmp 24)⟩,
  ⟨some 26, none, .bin .lss (.tmp 22) (.tmp 25)⟩])
 (.cond (.tmp 26) .skip (.exit 0)))
 (.seq (.block 1 (.seq (.ops false [
  ⟨some 11, none, .mov (.cst (I 0))⟩])
 (.block 2 (.loop keep30_1 body30_1))))
 (.ops false [
  ⟨some 27, none, .mov (.tmp 10)⟩,
  ⟨some 28, none, .bin .add (.tmp 27) (.cst (I 1))⟩,
  ⟨some 10, none, .mov (.tmp 28)⟩])))
def keep30_2 : Option (List Nat) := some [1, 5, 7, 8, 9, 10]
def code30 : MF := ⟨66, [(2, none), (3, none), (4, none)], (.seq (.ops false [
  ⟨some 1, none, .box (.tmp 0)⟩,
  ⟨some 2, none, .mov (.cst (I 0))⟩,
  ⟨some 3, none, .mov (.cst (I 0))⟩,
  ⟨some 4, none, .mov (.cst (I 0))⟩])
 (.seq (.ops false [
  ⟨some 15, none, .load (some 6) (.tmp 1)⟩,
  ⟨some 16, none, .call (.cst (.fn (.func 70) [] [])) [(.tmp 15), (.cst (.bool true))]⟩,
  ⟨some 14, none, .mov (.tmp 16)⟩,
  ⟨some 17, none, .ext (.tmp 14) 0⟩,
  ⟨some 18, none, .ext (.tmp 14) 1⟩,
  ⟨some 5, none, .mov (.tmp 17)⟩,
  ⟨some 6, none, .mov (.tmp 18)⟩])
 (.seq (.seq (.ops false [
  ⟨some 19, none, .mov (.tmp 6)⟩,
  ⟨some 20, none, .bin .neq (.tmp 19) (.cst (I 0))⟩])
 (.cond (.tmp 20) (.seq (.ops false [
  ⟨some 21, none, .mov (.tmp 6)⟩,
  ⟨some 2, none, .mov (.cst (I 0))⟩,
  ⟨some 3, none, .mov (.cst (I 0))⟩,
  ⟨some 4, none, .mov (.tmp 21)⟩])
 .ret) .skip))
 (.seq (.ops false [
  ⟨some 7, none, .mov (.cst (I (-1)))⟩,
  ⟨some 8, none, .mov (.cst (I (-1)))⟩,
  ⟨some 9, none, .mov (.cst (I 0))⟩])
 (.seq (.seq (.ops false [
  ⟨some 10, none, .mov (.cst (I 0))⟩])
 (.block 0 (.loop keep30_2 body30_2)))
 (.seq (.seq (.ops false [
  ⟨some 62, none, .mov (.tmp 7)⟩,
  ⟨some 63, none, .bin .lss (.tmp 62) (.cst (I 0))⟩])
 (.cond (.tmp 63) (.seq (.ops false [
  ⟨some 2, none, .mov (.cst (I 0))⟩,
  ⟨some 3, none, .mov (.cst (I 0))⟩,
  ⟨some 4, none, .mov (.cst (I 4))⟩])
 .ret) .skip))
 (.seq (.ops false [
  ⟨some 64, none, .mov (.tmp 7)⟩,
  ⟨some 65, none, .mov (.tmp 8)⟩,
  ⟨some 2, none, .mov (.tmp 64)⟩,
  ⟨some 3, none, .mov (.tmp 65)⟩,
  ⟨some 4, none, .mov (.cst (I 0))⟩])
 .ret)))))))⟩
theorem comp30 : compF Cv 30 = some code30 := by kernel_rfl

def code31 : MF := ⟨23, [(4, none), (5, none)], (.seq (.ops false [
  ⟨some 2, none, .box (.tmp 0)⟩,
  ⟨some 3, none, .box (.tmp 1)⟩,
  ⟨some 4, none, .mov (.cst (.bool false))⟩,
  ⟨some 5, none, .mov (.cst (I 0))⟩])
 (.seq (.ops true [
  ⟨some 9, none, .load (some 6) (.tmp 2)⟩,
  ⟨some 10, none, .load (some 6) (.tmp 2)⟩,
  ⟨some 11, none, .load (some 2) (.tmp 3)⟩,
  ⟨some 12, none, .call (.cst (.fn (.func 62) [] [])) [(.tmp 10), (.tmp 11)]⟩,
  ⟨some 13, none, .call (.cst (.fn (.func 68) [] [])) [(.tmp 9), (.tmp 12)]⟩,
  ⟨some 8, none, .mov (.tmp 13)⟩,
  ⟨some 14, none, .ext (.tmp 8) 0⟩,
  ⟨some 15, none, .ext (.tmp 8) 1⟩,
  ⟨some 6, none, .alloc [(I 0), .nils, (I 0), (I 0), (I 0), .nils, .nilm, .nils]⟩,
  ⟨none, none, .store 8 (.tmp 6) (.tmp 14)⟩,
  ⟨some 7, none, .mov (.tmp 15)⟩])
 (.seq (.seq (.ops false [
  ⟨some 16, none, .mov (.tmp 7)⟩,
  ⟨some 17, none, .bin .neq (.tmp 16) (.cst (I 0))⟩])
 (.cond (.tmp 17) (.seq (.ops false [
  ⟨some 18, none, .mov (.tmp 7)⟩,
  ⟨some 4, none, .mov (.cst (.bool false))⟩,
  ⟨some 5, none, .mov (.tmp 18)⟩])
 .ret) .skip))
 (.seq (.ops false [
  ⟨some 19, none, .fad (.tmp 6) 7⟩,
  ⟨some 20, none, .load none (.tmp 19)⟩,
  ⟨some 21, none, .mkf (.func 78) [] [(.tmp 3)]⟩,
  ⟨some 22, none, .call (.cst (.fn (.func 77) [] [])) [(.tmp 20), (.tmp 21)]⟩,
  ⟨some 4, none, .mov (.tmp 22)⟩,
  ⟨some 5, none, .mov (.cst (I 0))⟩])
 .ret))))⟩
theorem comp31 : compF Cv 31 = some code31 := by kernel_rfl

def code32 : MF := ⟨25, [(4, none), (5, none)], (.seq (.ops false [
  ⟨some 2, none, .box (.tmp 0)⟩,
  ⟨some 3, none, .box (.tmp 1)⟩,
  ⟨some 4, none, .mov (.cst (.bool false))⟩,
  ⟨some 5, none, .mov (.cst (I 0))⟩])
 (.seq (.seq (.ops true [
  ⟨some 9, none, .load (some 6) (.tmp 2)⟩,
  ⟨some 10, none, .load (some 6) (.tmp 2)⟩,
  ⟨some 11, none, .load (some 2) (.tmp 3)⟩,
  ⟨some 12, none, .call (.cst (.fn (.func 64) [] [])) [(.tmp 10), (.tmp 11)]⟩,
  ⟨some 13, none, .call (.cst (.fn (.func 70) [] [])) [(.tmp 9), (.tmp 12)]⟩,
  ⟨some 8, none, .mov (.tmp 13)⟩,
  ⟨some 14, none, .ext (.tmp 8) 0⟩,
  ⟨some 15, none, .ext (.tmp 8) 1⟩,
  ⟨some 6, none, .mov (.tmp 14)⟩,
  ⟨some 7, none, .mov (.tmp 15)⟩])
 (.seq (.ops false [
  ⟨some 16, none, .mov (.tmp 7)⟩,
  ⟨some 17, none, .bin .neq (.tmp 16) (.cst (I 0))⟩])
 (.cond (.tmp 17) (.seq (.ops false [
  ⟨some 18, none, .mov (.tmp 7)⟩,
  ⟨some 4, none, .mov (.cst (.bool false))⟩,
  ⟨some 5, none, .mov (.tmp 18)⟩])
 .ret) .skip)))
 (.seq (.ops false [
  ⟨some 19, none, .load (some 6) (.tmp 2)⟩,
  ⟨some 20, none, .load (some 2) (.tmp 3)⟩,
  ⟨some 21, none, .call (.cst (.fn (.func 79) [] [])) [(.tmp 19), (.tmp 20)]⟩,
  ⟨some 22, none, .call (.cst (.fn (.func 67) [] [])) [(.tmp 21), (.cst (I 0)), (.cst .nils)]⟩,
  ⟨some 23, none, .len (.tmp 22)⟩,
  ⟨some 24, none, .bin .gtr (.tmp 23) (.cst (I 0))⟩,
  ⟨some 4, none, .mov (.tmp 24)⟩,
  ⟨some 5, none, .mov (.cst (I 0))⟩])
 .ret)))⟩
theorem comp32 : compF Cv 32 = some code32 := by kernel_rfl

def body33_0 : MC := (.seq (.ops false [
  ⟨some 20, none, .bin .lss (.tmp 19) (.tmp 18)⟩])
 (.seq (.cond (.tmp 20) .skip (.exit 0))
 (.seq (.block 1 (.seq (.ops false [
  ⟨some 21, none, .mov (.tmp 19)⟩,
  ⟨some 6, none, .mov (.tmp 21)⟩])
 (.seq (.ops false [
  ⟨some 23, none, .load none (.tmp 5)⟩,
  ⟨some 24, none, .mov (.tmp 6)⟩,
  ⟨some 25, none, .call (.tmp 23) [(.cst .nils), (.tmp 24)]⟩,
  ⟨some 22, none, .mov (.tmp 25)⟩,
  ⟨some 26, none, .ext (.tmp 22) 0⟩,
  ⟨some 27, none, .ext (.tmp 22) 1⟩,
  ⟨some 7, none, .mov (.tmp 26)⟩,
  ⟨some 8, none, .mov (.tmp 27)⟩])
 (.seq (.ops false [
  ⟨some 28, none, .mov (.tmp 8)⟩])
 (.cond (.tmp 28) (.seq (.ops false [
  ⟨some 29, none, .mov (.tmp 7)⟩,
  ⟨some 30, none, .mov (.tmp 7)⟩,
  ⟨some 31, none, .len (.tmp 30)⟩,
  ⟨some 32, none, .mov (.tmp 7)⟩,
  ⟨some 33, none, .len (.tmp 32)⟩,
  ⟨some 34, none, .slc 1 (.tmp 29) none (some (.tmp 31)) (some (.tmp 33))⟩,
  ⟨some 2, none, .mov (.tmp 34)⟩,
  ⟨some 3, none, .mov (.cst (I 0))⟩])
 .ret) .skip)))))
 (.ops false [
  ⟨some 35, none, .bin .add (.tmp 19) (.cst (I 1))⟩,
  ⟨some 19, none, .mov (.tmp 35)⟩]))))
def keep33_0 : Option (List Nat) := some [5, 18, 19]
def code33 : MF := ⟨36, [(2, none), (3, none)], (.seq (.ops false [
  ⟨some 1, none, .box (.tmp 0)⟩,
  ⟨some 2, none, .mov (.cst .nils)⟩,
  ⟨some 3, none, .mov (.cst (I 0))⟩])
 (.seq (.seq (.ops false [
  ⟨some 9, none, .load (some 6) (.tmp 1)⟩,
  ⟨some 10, none, .call (.cst (.fn (.func 17) [] [])) [(.tmp 9)]⟩,
  ⟨some 4, none, .mov (.tmp 10)⟩])
 (.seq (.ops false [
  ⟨some 11, none, .mov (.tmp 4)⟩,
  ⟨some 12, none, .bin .neq (.tmp 11) (.cst (I 0))⟩])
 (.cond (.tmp 12) (.seq (.ops false [
  ⟨some 13, none, .mov (.tmp 4)⟩,
  ⟨some 2, none, .mov (.cst .nils)⟩,
  ⟨some 3, none, .mov (.tmp 13)⟩])
 .ret) .skip)))
 (.seq (.ops false [
  ⟨some 5, none, .alloc [.nilf]⟩])
 (.seq (.ops false [
  ⟨some 14, none, .mkf (.func 80) [] [(.tmp 1), (.tmp 5)]⟩,
  ⟨none, none, .store 1 (.tmp 5) (.tmp 14)⟩])
 (.seq (.seq (.ops false [
  ⟨some 15, none, .fad (.tmp 1) 5⟩,
  ⟨some 16, none, .load none (.tmp 15)⟩,
  ⟨some 17, none, .len (.tmp 16)⟩,
  ⟨some 18, none, .bin .add (.tmp 17) (.cst (I 1))⟩,
  ⟨some 19, none, .mov (.cst (I 0))⟩])
 (.block 0 (.loop keep33_0 body33_0)))
 (.seq (.ops false [
  ⟨some 2, none, .mov (.cst .nils)⟩,
  ⟨some 3, none, .mov (.cst (I 52))⟩])
 .ret))))))⟩
theorem comp33 : compF Cv 33 = some code33 := by kernel_rfl

def body34_0 : MC := (.seq (.seq (.ops false [
  ⟨some 18, none, .mov (.tmp 8)⟩,
  ⟨some 19, none, .mov (.tmp 5)⟩,
  ⟨some 20, none, .bin .shl (.cst (I 1)) (.tmp 19)⟩,
  ⟨some 21, none, .bin .lss (.tmp 18) (.tmp 20)⟩])
 (.cond (.tmp 21) .skip (.exit 0)))
 (.seq (.block 1 (.seq (.ops false [
  ⟨some 24, none, .mov (.tmp 8)⟩,
  ⟨some 25, none, .mov (.tmp 5)⟩,
  ⟨some 26, none, .call (.cst (.fn (.func 52) [] [])) [(.tmp 24), (.tmp 25)]⟩,
  ⟨some 9, none, .mov (.tmp 26)⟩])
 (.seq (.ops false [
  ⟨some 27, none, .mov (.tmp 7)⟩,
  ⟨some 28, none, .lnot (.tmp 27)⟩,
  ⟨some 29, none, .mov (.tmp 28)⟩,
  ⟨some 30, some ((some 29), false), .mov (.tmp 9)⟩,
  ⟨some 31, some ((some 29), false), .mov (.tmp 6)⟩,
  ⟨some 32, some ((some 29), false), .call (.cst (.fn (.func 54) [] [])) [(.tmp 30), (.tmp 31)]⟩,
  ⟨some 33, none, .pick (.tmp 29) (.cst (.bool true)) (.tmp 32)⟩,
  ⟨some 34, none, .mov (.tmp 33)⟩,
  ⟨some 35, some ((some 34), true), .load (some 6) (.tmp 1)⟩,
  ⟨some 36, some ((some 34), true), .mov (.tmp 8)⟩,
  ⟨some 37, some ((some 34), true), .call (.cst (.fn (.func 67) [] [])) [(.tmp 35), (.tmp 36), (.cst .nils)]⟩,
  ⟨some 38, some ((some 34), true), .len (.tmp 37)⟩,
  ⟨some 39, some ((some 34), true), .bin .gtr (.tmp 38) (.cst (I 0))⟩,
  ⟨some 40, none, .pick (.tmp 34) (.tmp 39) (.cst (.bool false))⟩])
 (.cond (.tmp 40) (.ops false [
  ⟨some 41, none, .mov (.tmp 9)⟩,
  ⟨some 6, none, .mov (.tmp 41)⟩,
  ⟨some 7, none, .mov (.cst (.bool true))⟩]) .skip))))
 (.ops false [
  ⟨some 22, none, .mov (.tmp 8)⟩,
  ⟨some 23, none, .bin .add (.tmp 22) (.cst (I 1))⟩,
  ⟨some 8, none, .mov (.tmp 23)⟩])))
def keep34_0 : Option (List Nat) := some [1, 5, 6, 7, 8]
def code34 : MF := ⟨45, [(2, none), (3, none)], (.seq (.ops false [
  ⟨some 1, none, .box (.tmp 0)⟩,
  ⟨some 2, none, .mov (.cst .nils)⟩,
  ⟨some 3, none, .mov (.cst (I 0))⟩])
 (.seq (.seq (.ops false [
  ⟨some 10, none, .load (some 6) (.tmp 1)⟩,
  ⟨some 11, none, .call (.cst (.fn (.func 18) [] [])) [(.tmp 10)]⟩,
  ⟨some 4, none, .mov (.tmp 11)⟩])
 (.seq (.ops false [
  ⟨some 12, none, .mov (.tmp 4)⟩,
  ⟨some 13, none, .bin .neq (.tmp 12) (.cst (I 0))⟩])
 (.cond (.tmp 13) (.seq (.ops false [
  ⟨some 14, none, .mov (.tmp 4)⟩,
  ⟨some 2, none, .mov (.cst .nils)⟩,
  ⟨some 3, none, .mov (.tmp 14)⟩])
 .ret) .skip)))
 (.seq (.ops false [
  ⟨some 15, none, .fad (.tmp 1) 5⟩,
  ⟨some 16, none, .load none (.tmp 15)⟩,
  ⟨some 17, none, .len (.tmp 16)⟩,
  ⟨some 5, none, .mov (.tmp 17)⟩])
 (.seq (.ops false [
  ⟨some 6, none, .mov (.cst .nils)⟩])
 (.seq (.ops false [
  ⟨some 7, none, .mov (.cst (.bool false))⟩])
 (.seq (.seq (.ops false [
  ⟨some 8, none, .mov (.cst (I 0))⟩])
 (.block 0 (.loop keep34_0 body34_0)))
 (.seq (.seq (.ops false [
  ⟨some 42, none, .mov (.tmp 7)⟩,
  ⟨some 43, none, .lnot (.tmp 42)⟩])
 (.cond (.tmp 43) (.seq (.ops false [
  ⟨some 2, none, .mov (.cst .nils)⟩,
  ⟨some 3, none, .mov (.cst (I 52))⟩])
 .ret) .skip))
 (.seq (.ops false [
  ⟨some 44, none, .mov (.tmp 6)⟩,
  ⟨some 2, none, .mov (.tmp 44)⟩,
  ⟨some 3, none, .mov (.cst (I 0))⟩])
 .ret))))))))⟩
theorem comp34 : compF Cv 34 = some code34 := by kernel_rfl

def body35_0 : MC := (.seq (.ops false [
  ⟨some 46, none, .bin .lss (.tmp 45) (.tmp 44)⟩])
 (.seq (.cond (.tmp 46) .skip (.exit 0))
 (.seq (.block 1 (.seq (.ops false [
  ⟨some 47, none, .mov (.tmp 45)⟩,
  ⟨some 48, none, .ixs 1 (.tmp 43) (.tmp 45)⟩,
  ⟨some 49, none, .load none (.tmp 48)⟩,
  ⟨some 11, none, .mov (.tmp 47)⟩,
  ⟨some 12, none, .mov (.tmp 49)⟩])
 (.seq (.ops false [
  ⟨some 50, none, .load (some 8) (.tmp 9)⟩,
  ⟨some 51, none, .fad (.tmp 10) 0⟩,
  ⟨some 52, none, .load none (.tmp 51)⟩,
  ⟨some 53, none, .mov (.tmp 11)⟩,
  ⟨some 54, none, .bld [(I 0), (I 0)] [(0, 1, (.tmp 52)), (1, 1, (.tmp 53))]⟩,
  ⟨some 55, none, .call (.cst (.fn (.func 69) [] [])) [(.tmp 50), (.tmp 54)]⟩,
  ⟨some 56, none, .mov (.tmp 12)⟩,
  ⟨some 57, none, .ixv 13 1 none (.tmp 55) (.tmp 56)⟩,
  ⟨some 58, none, .bin .eql (.tmp 57) (.cst (I 0))⟩])
 (.cond (.tmp 58) (.seq (.ops false [
  ⟨some 59, none, .mov (.tmp 11)⟩,
  ⟨some 4, none, .mov (.tmp 59)⟩,
  ⟨some 5, none, .mov (.cst (I 0))⟩])
 .ret) .skip))))
 (.ops false [
  ⟨some 60, none, .bin .add (.tmp 45) (.cst (I 1))⟩,
  ⟨some 45, none, .mov (.tmp 60)⟩]))))
def keep35_0 : Option (List Nat) := some [9, 10, 43, 44, 45]
def code35 : MF := ⟨61, [(4, none), (5, none)], (.seq (.ops false [
  ⟨some 2, none, .box (.tmp 0)⟩,
  ⟨some 4, none, .mov (.cst (I 0))⟩,
  ⟨some 5, none, .mov (.cst (I 0))⟩])
 (.seq (.seq (.ops false [
  ⟨some 13, none, .load (some 6) (.tmp 2)⟩,
  ⟨some 14, none, .call (.cst (.fn (.func 17) [] [])) [(.tmp 13)]⟩,
  ⟨some 6, none, .mov (.tmp 14)⟩])
 (.seq (.ops false [
  ⟨some 15, none, .mov (.tmp 6)⟩,
  ⟨some 16, none, .bin .neq (.tmp 15) (.cst (I 0))⟩])
 (.cond (.tmp 16) (.seq (.ops false [
  ⟨some 17, none, .mov (.tmp 6)⟩,
  ⟨some 4, none, .mov (.cst (I 0))⟩,
  ⟨some 5, none, .mov (.tmp 17)⟩])
 .ret) .skip)))
 (.seq (.seq (.ops false [
  ⟨some 18, none, .mov (.tmp 1)⟩,
  ⟨some 19, none, .fad (.tmp 2) 5⟩,
  ⟨some 20, none, .load none (.tmp 19)⟩,
  ⟨some 21, none, .len (.tmp 20)⟩,
  ⟨some 22, none, .bin .sub (.tmp 21) (.cst (I 1))⟩,
  ⟨some 23, none, .call (.cst (.fn (.func 61) [] [])) [(.tmp 18), (.cst (I 0)), (.tmp 22)]⟩,
  ⟨some 24, none, .lnot (.tmp 23)⟩])
 (.cond (.tmp 24) (.seq (.ops false [
  ⟨some 4, none, .mov (.cst (I 0))⟩,
  ⟨some 5, none, .mov (.cst (I 51))⟩])
 .ret) .skip))
 (.seq (.ops false [
  ⟨some 26, none, .load (some 6) (.tmp 2)⟩,
  ⟨some 27, none, .call (.cst (.fn (.func 33) [] [])) [(.tmp 26)]⟩,
  ⟨some 25, none, .mov (.tmp 27)⟩,
  ⟨some 28, none, .ext (.tmp 25) 0⟩,
  ⟨some 29, none, .ext (.tmp 25) 1⟩,
  ⟨some 7, none, .mov (.tmp 28)⟩,
  ⟨some 8, none, .mov (.tmp 29)⟩])
 (.seq (.seq (.ops false [
  ⟨some 30, none, .mov (.tmp 8)⟩,
  ⟨some 31, none, .bin .neq (.tmp 30) (.cst (I 0))⟩])
 (.cond (.tmp 31) (.seq (.ops false [
  ⟨some 32, none, .mov (.tmp 8)⟩,
  ⟨some 4, none, .mov (.cst (I 0))⟩,
  ⟨some 5, none, .mov (.tmp 32)⟩])
 .ret) .skip))
 (.seq (.ops true [
  ⟨some 9, none, .mov (.cst .any)⟩,
  ⟨some 10, none, .mov (.cst .any)⟩,
  ⟨some 33, none, .load (some 6) (.tmp 2)⟩,
  ⟨some 34, none, .mov (.tmp 7)⟩,
  ⟨some 35, none, .call (.cst (.fn (.func 81) [] [])) [(.tmp 34)]⟩,
  ⟨some 36, none, .call (.cst (.fn (.func 65) [] [])) [(.tmp 33), (.tmp 35)]⟩,
  ⟨some 37, none, .fad (.tmp 2) 5⟩,
  ⟨some 38, none, .load none (.tmp 37)⟩,
  ⟨some 39, none, .mov (.tmp 1)⟩,
  ⟨some 40, none, .ixs 2 (.tmp 38) (.tmp 39)⟩,
  ⟨some 41, none, .load (some 2) (.tmp 40)⟩,
  ⟨some 9, none, .alloc [(I 0), .nils, (I 0), (I 0), (I 0), .nils, .nilm, .nils]⟩,
  ⟨none, none, .store 8 (.tmp 9) (.tmp 36)⟩,
  ⟨some 10, none, .alloc [(I 0), .nils]⟩,
  ⟨none, none, .store 2 (.tmp 10) (.tmp 41)⟩])
 (.seq (.seq (.ops false [
  ⟨some 42, none, .fad (.tmp 10) 1⟩,
  ⟨some 43, none, .load none (.tmp 42)⟩,
  ⟨some 44, none, .len (.tmp 43)⟩,
  ⟨some 45, none, .mov (.cst (I 0))⟩])
 (.block 0 (.loop keep35_0 body35_0)))
 (.seq (.ops false [
  ⟨some 4, none, .mov (.cst (I 0))⟩,
  ⟨some 5, none, .mov (.cst (I 4))⟩])
 .ret))))))))⟩
theorem comp35 : compF Cv 35 = some code35 := by kernel_rfl

def body36_0 : MC := (.seq (.seq (.ops false [
  ⟨some 41, none, .mov (.tmp 11)⟩,
  ⟨some 42, none, .fad (.tmp 2) 0⟩,
  ⟨some 43, none, .load none (.tmp 42)⟩,
  ⟨some 44, none, .bin .lss (.tmp 41) (.tmp 43)⟩])
 (.cond (.tmp 44) .skip (.exit 0)))
 (.seq (.block 1 (.seq (.ops false [
  ⟨some 47, none, .mov (.tmp 9)⟩,
  ⟨some 48, none, .fad (.tmp 10) 0⟩,
  ⟨some 49, none, .load none (.tmp 48)⟩,
  ⟨some 50, none, .mov (.tmp 11)⟩,
  ⟨some 51, none, .fad (.tmp 10) 1⟩,
  ⟨some 52, none, .load none (.tmp 51)⟩,
  ⟨some 53, none, .mov (.tmp 11)⟩,
  ⟨some 54, none, .ixs 1 (.tmp 52) (.tmp 53)⟩,
  ⟨some 55, none, .load none (.tmp 54)⟩,
  ⟨some 56, none, .call (.cst (.fn (.func 73) [] [])) [(.tmp 47), (.tmp 49), (.tmp 50), (.tmp 55)]⟩,
  ⟨some 57, none, .bin .eql (.tmp 56) (.cst (I 0))⟩])
 (.cond (.tmp 57) (.seq (.ops false [
  ⟨some 58, none, .mov (.tmp 11)⟩,
  ⟨some 4, none, .mov (.tmp 58)⟩,
  ⟨some 5, none, .mov (.cst (I 0))⟩])
 .ret) .skip)))
 (.ops false [
  ⟨some 45, none, .mov (.tmp 11)⟩,
  ⟨some 46, none, .bin .add (.tmp 45) (.cst (I 1))⟩,
  ⟨some 11, none, .mov (.tmp 46)⟩])))
def keep36_0 : Option (List Nat) := some [2, 9, 10, 11]
def code36 : MF := ⟨59, [(4, none), (5, none)], (.seq (.ops false [
  ⟨some 2, none, .box (.tmp 0)⟩,
  ⟨some 4, none, .mov (.cst (I 0))⟩,
  ⟨some 5, none, .mov (.cst (I 0))⟩])
 (.seq (.seq (.ops false [
  ⟨some 12, none, .load (some 6) (.tmp 2)⟩,
  ⟨some 13, none, .call (.cst (.fn (.func 18) [] [])) [(.tmp 12)]⟩,
  ⟨some 6, none, .mov (.tmp 13)⟩])
 (.seq (.ops false [
  ⟨some 14, none, .mov (.tmp 6)⟩,
  ⟨some 15, none, .bin .neq (.tmp 14) (.cst (I 0))⟩])
 (.cond (.tmp 15) (.seq (.ops false [
  ⟨some 16, none, .mov (.tmp 6)⟩,
  ⟨some 4, none, .mov (.cst (I 0))⟩,
  ⟨some 5, none, .mov (.tmp 16)⟩])
 .ret) .skip)))
 (.seq (.seq (.ops false [
  ⟨some 17, none, .mov (.tmp 1)⟩,
  ⟨some 18, none, .fad (.tmp 2) 5⟩,
  ⟨some 19, none, .load none (.tmp 18)⟩,
  ⟨some 20, none, .len (.tmp 19)⟩,
  ⟨some 21, none, .bin .sub (.tmp 20) (.cst (I 1))⟩,
  ⟨some 22, none, .call (.cst (.fn (.func 49) [] [])) [(.tmp 17), (.cst (I 0)), (.tmp 21)]⟩,
  ⟨some 23, none, .lnot (.tmp 22)⟩])
 (.cond (.tmp 23) (.seq (.ops false [
  ⟨some 4, none, .mov (.cst (I 0))⟩,
  ⟨some 5, none, .mov (.cst (I 51))⟩])
 .ret) .skip))
 (.seq (.ops false [
  ⟨some 25, none, .load (some 6) (.tmp 2)⟩,
  ⟨some 26, none, .call (.cst (.fn (.func 34) [] [])) [(.tmp 25)]⟩,
  ⟨some 24, none, .mov (.tmp 26)⟩,
  ⟨some 27, none, .ext (.tmp 24) 0⟩,
  ⟨some 28, none, .ext (.tmp 24) 1⟩,
  ⟨some 7, none, .mov (.tmp 27)⟩,
  ⟨some 8, none, .mov (.tmp 28)⟩])
 (.seq (.seq (.ops false [
  ⟨some 29, none, .mov (.tmp 8)⟩,
  ⟨some 30, none, .bin .neq (.tmp 29) (.cst (I 0))⟩])
 (.cond (.tmp 30) (.seq (.ops false [
  ⟨some 31, none, .mov (.tmp 8)⟩,
  ⟨some 4, none, .mov (.cst (I 0))⟩,
  ⟨some 5, none, .mov (.tmp 31)⟩])
 .ret) .skip))
 (.seq (.ops true [
  ⟨some 32, none, .load (some 6) (.tmp 2)⟩,
  ⟨some 33, none, .mov (.tmp 7)⟩,
  ⟨some 34, none, .call (.cst (.fn (.func 47) [] [])) [(.tmp 33)]⟩,
  ⟨some 35, none, .call (.cst (.fn (.func 67) [] [])) [(.tmp 32), (.tmp 34), (.cst .nils)]⟩,
  ⟨some 36, none, .fad (.tmp 2) 5⟩,
  ⟨some 37, none, .load none (.tmp 36)⟩,
  ⟨some 38, none, .mov (.tmp 1)⟩,
  ⟨some 39, none, .ixs 2 (.tmp 37) (.tmp 38)⟩,
  ⟨some 40, none, .load (some 2) (.tmp 39)⟩,
  ⟨some 10, none, .alloc [(I 0), .nils]⟩,
  ⟨some 9, none, .mov (.tmp 35)⟩,
  ⟨none, none, .store 2 (.tmp 10) (.tmp 40)⟩])
 (.seq (.seq (.ops false [
  ⟨some 11, none, .mov (.cst (I 0))⟩])
 (.block 0 (.loop keep36_0 body36_0)))
 (.seq (.ops false [
  ⟨some 4, none, .mov (.cst (I 0))⟩,
  ⟨some 5, none, .mov (.cst (I 4))⟩])
 .ret))))))))⟩
theorem comp36 : compF Cv 36 = some code36 := by kernel_rfl

def body37_0 : MC := (.seq (.seq (.ops false [
  ⟨some 31, none, .mov (.tmp 3)⟩,
  ⟨some 32, none, .mov (.tmp 31)⟩,
  ⟨some 33, some ((some 32), true), .mov (.tmp 4)⟩,
  ⟨some 34, some ((some 32), true), .fad (.tmp 1) 1⟩,
  ⟨some 35, some ((some 32), true), .load none (.tmp 34)⟩,
  ⟨some 36, some ((some 32), true), .len (.tmp 35)⟩,
  ⟨some 37, some ((some 32), true), .bin .lss (.tmp 33) (.tmp 36)⟩,
  ⟨some 38, none, .pick (.tmp 32) (.tmp 37) (.cst (.bool false))⟩])
 (.cond (.tmp 38) .skip (.exit 0)))
 (.seq (.block 1 (.ops false [
  ⟨some 41, none, .fad (.tmp 1) 1⟩,
  ⟨some 42, none, .load none (.tmp 41)⟩,
  ⟨some 43, none, .mov (.tmp 4)⟩,
  ⟨some 44, none, .ixs 2 (.tmp 42) (.tmp 43)⟩,
  ⟨some 45, none, .load (some 2) (.tmp 44)⟩,
  ⟨some 46, none, .call (.cst (.fn (.func 63) [] [])) [(.tmp 45), (.cst (I 0)), (.cst (I 12)), (.cst (I 2))]⟩,
  ⟨some 3, none, .mov (.tmp 46)⟩]))
 (.ops false [
  ⟨some 39, none, .mov (.tmp 4)⟩,
  ⟨some 40, none, .bin .add (.tmp 39) (.cst (I 1))⟩,
  ⟨some 4, none, .mov (.tmp 40)⟩])))
def keep37_0 : Option (List Nat) := some [1, 3, 4]
def body37_1 : MC := (.seq (.seq (.ops false [
  ⟨some 47, none, .mov (.tmp 3)⟩,
  ⟨some 48, none, .mov (.tmp 47)⟩,
  ⟨some 49, some ((some 48), true), .mov (.tmp 5)⟩,
  ⟨some 50, some ((some 48), true), .fad (.tmp 1) 5⟩,
  ⟨some 51, some ((some 48), true), .load none (.tmp 50)⟩,
  ⟨some 52, some ((some 48), true), .len (.tmp 51)⟩,
  ⟨some 53, some ((some 48), true), .bin .lss (.tmp 49) (.tmp 52)⟩,
  ⟨some 54, none, .pick (.tmp 48) (.tmp 53) (.cst (.bool false))⟩])
 (.cond (.tmp 54) .skip (.exit 2)))
 (.seq (.block 3 (.ops false [
  ⟨some 57, none, .fad (.tmp 1) 5⟩,
  ⟨some 58, none, .load none (.tmp 57)⟩,
  ⟨some 59, none, .mov (.tmp 5)⟩,
  ⟨some 60, none, .ixs 2 (.tmp 58) (.tmp 59)⟩,
  ⟨some 61, none, .fad (.tmp 60) 0⟩,
  ⟨some 62, none, .load none (.tmp 61)⟩,
  ⟨some 63, none, .fad (.tmp 1) 1⟩,
  ⟨some 64, none, .load none (.tmp 63)⟩,
  ⟨some 65, none, .len (.tmp 64)⟩,
  ⟨some 66, none, .bin .sub (.tmp 65) (.cst (I 1))⟩,
  ⟨some 67, none, .call (.cst (.fn (.func 49) [] [])) [(.tmp 62), (.cst (I 0)), (.tmp 66)]⟩,
  ⟨some 68, none, .mov (.tmp 67)⟩,
  ⟨some 69, some ((some 68), true), .fad (.tmp 1) 5⟩,
  ⟨some 70, some ((some 68), true), .load none (.tmp 69)⟩,
  ⟨some 71, some ((some 68), true), .mov (.tmp 5)⟩,
  ⟨some 72, some ((some 68), true), .ixs 2 (.tmp 70) (.tmp 71)⟩,
  ⟨some 73, some ((some 68), true), .fad (.tmp 72) 1⟩,
  ⟨some 74, some ((some 68), true), .load none (.tmp 73)⟩,
  ⟨some 75, some ((some 68), true), .len (.tmp 74)⟩,
  ⟨some 76, some ((some 68), true), .fad (.tmp 1) 0⟩,
  ⟨some 77, some ((some 68), true), .load none (.tmp 76)⟩,
  ⟨some 78, some ((some 68), true), .bin .eql (.tmp 75) (.tmp 77)⟩,
  ⟨some 79, none, .pick (.tmp 68) (.tmp 78) (.cst (.bool false))⟩,
  ⟨some 3, none, .mov (.tmp 79)⟩]))
 (.ops false [
  ⟨some 55, none, .mov (.tmp 5)⟩,
  ⟨some 56, none, .bin .add (.tmp 55) (.cst (I 1))⟩,
  ⟨some 5, none, .mov (.tmp 56)⟩])))
def keep37_1 : Option (List Nat) := some [1, 3, 5]
def code37 : MF := ⟨81, [(2, none)], (.seq (.ops false [
  ⟨some 1, none, .box (.tmp 0)⟩,
  ⟨some 2, none, .mov (.cst (.bool false))⟩])
 (.seq (.ops false [
  ⟨some 6, none, .load (some 6) (.tmp 1)⟩,
  ⟨some 7, none, .call (.cst (.fn (.func 17) [] [])) [(.tmp 6)]⟩,
  ⟨some 8, none, .bin .eql (.tmp 7) (.cst (I 0))⟩,
  ⟨some 9, none, .mov (.tmp 8)⟩,
  ⟨some 10, some ((some 9), true), .fad (.tmp 1) 0⟩,
  ⟨some 11, some ((some 9), true), .load none (.tmp 10)⟩,
  ⟨some 12, some ((some 9), true), .call (.cst (.fn (.func 49) [] [])) [(.tmp 11), (.cst (I 1)), (.cst (I 3))]⟩,
  ⟨some 13, none, .pick (.tmp 9) (.tmp 12) (.cst (.bool false))⟩,
  ⟨some 14, none, .mov (.tmp 13)⟩,
  ⟨some 15, some ((some 14), true), .fad (.tmp 1) 1⟩,
  ⟨some 16, some ((some 14), true), .load none (.tmp 15)⟩,
  ⟨some 17, some ((some 14), true), .len (.tmp 16)⟩,
  ⟨some 18, some ((some 14), true), .call (.cst (.fn (.func 49) [] [])) [(.tmp 17), (.cst (I 1)), (.cst (I 3))]⟩,
  ⟨some 19, none, .pick (.tmp 14) (.tmp 18) (.cst (.bool false))⟩,
  ⟨some 20, none, .mov (.tmp 19)⟩,
  ⟨some 21, some ((some 20), true), .fad (.tmp 1) 5⟩,
  ⟨some 22, some ((some 20), true), .load none (.tmp 21)⟩,
  ⟨some 23, some ((some 20), true), .len (.tmp 22)⟩,
  ⟨some 24, some ((some 20), true), .bin .leq (.tmp 23) (.cst (I 4))⟩,
  ⟨some 25, none, .pick (.tmp 20) (.tmp 24) (.cst (.bool false))⟩,
  ⟨some 26, none, .mov (.tmp 25)⟩,
  ⟨some 27, some ((some 26), true), .fad (.tmp 1) 2⟩,
  ⟨some 28, some ((some 26), true), .load none (.tmp 27)⟩,
  ⟨some 29, some ((some 26), true), .call (.cst (.fn (.func 49) [] [])) [(.tmp 28), (.cst (I 0)), (.cst (I 7))]⟩,
  ⟨some 30, none, .pick (.tmp 26) (.tmp 29) (.cst (.bool false))⟩,
  ⟨some 3, none, .mov (.tmp 30)⟩])
 (.seq (.seq (.ops false [
  ⟨some 4, none, .mov (.cst (I 0))⟩])
 (.block 0 (.loop keep37_0 body37_0)))
 (.seq (.seq (.ops false [
  ⟨some 5, none, .mov (.cst (I 0))⟩])
 (.block 2 (.loop keep37_1 body37_1)))
 (.seq (.ops false [
  ⟨some 80, none, .mov (.tmp 3)⟩,
  ⟨some 2, none, .mov (.tmp 80)⟩])
 .ret)))))⟩
theorem comp37 : compF Cv 37 = some code37 := by kernel_rfl

def body38_0 : MC := (.seq (.seq (.ops false [
  ⟨some 33, none, .mov (.tmp 8)⟩,
  ⟨some 34, none, .fad (.tmp 7) 1⟩,
  ⟨some 35, none, .load none (.tmp 34)⟩,
  ⟨some 36, none, .bin .leq (.tmp 33) (.tmp 35)⟩])
 (.cond (.tmp 36) .skip (.exit 0)))
 (.seq (.block 1 (.seq (.ops true [
  ⟨some 39, none, .load (some 2) (.tmp 7)⟩,
  ⟨some 40, none, .mov (.tmp 8)⟩,
  ⟨some 41, none, .mov (.tmp 2)⟩,
  ⟨some 42, none, .mov (.tmp 1)⟩,
  ⟨some 43, none, .len (.tmp 42)⟩,
  ⟨some 44, none, .call (.cst (.fn (.func 83) [] [])) [(.tmp 41), (.tmp 43)]⟩,
  ⟨some 45, none, .call (.cst (.fn (.func 43) [] [])) [(.tmp 44), (.cst (I 3))]⟩,
  ⟨some 46, none, .bin .add (.tmp 40) (.tmp 45)⟩,
  ⟨some 47, none, .call (.cst (.fn (.func 82) [] [])) [(.tmp 39), (.tmp 46)]⟩,
  ⟨some 9, none, .mov (.tmp 47)⟩])
 (.seq (.seq (.ops false [
  ⟨some 48, none, .load (some 6) (.tmp 3)⟩,
  ⟨some 49, none, .mov (.tmp 1)⟩,
  ⟨some 50, none, .mov (.tmp 9)⟩,
  ⟨some 51, none, .call (.cst (.fn (.func 84) [] [])) [(.tmp 48), (.tmp 49), (.tmp 50)]⟩,
  ⟨some 52, none, .lnot (.tmp 51)⟩])
 (.cond (.tmp 52) (.exit 1) .skip))
 (.seq (.ops true [
  ⟨some 53, none, .load (some 6) (.tmp 3)⟩,
  ⟨some 54, none, .mov (.tmp 1)⟩,
  ⟨some 55, none, .mov (.tmp 9)⟩,
  ⟨some 56, none, .call (.cst (.fn (.func 85) [] [])) [(.tmp 54), (.tmp 55)]⟩,
  ⟨some 57, none, .mov (.tmp 2)⟩,
  ⟨some 58, none, .call (.cst (.fn (.func 38) [] [])) [(.tmp 53), (.tmp 56), (.tmp 57)]⟩,
  ⟨some 10, none, .mov (.tmp 58)⟩])
 (.seq (.ops false [
  ⟨some 59, none, .mov (.tmp 10)⟩,
  ⟨some 60, none, .len (.tmp 59)⟩,
  ⟨some 61, none, .bin .gtr (.tmp 60) (.cst (I 0))⟩])
 (.cond (.tmp 61) (.seq (.ops false [
  ⟨some 62, none, .mov (.tmp 10)⟩,
  ⟨some 6, none, .mov (.tmp 62)⟩])
 .ret) .skip))))))
 (.ops false [
  ⟨some 37, none, .mov (.tmp 8)⟩,
  ⟨some 38, none, .bin .add (.tmp 37) (.cst (I 1))⟩,
  ⟨some 8, none, .mov (.tmp 38)⟩])))
def keep38_0 : Option (List Nat) := some [1, 2, 3, 7, 8]
def code38 : MF := ⟨63, [(6, none)], (.seq (.ops false [
  ⟨some 3, none, .box (.tmp 0)⟩,
  ⟨some 6, none, .mov (.cst .nils)⟩])
 (.seq (.seq (.ops false [
  ⟨some 11, none, .mov (.tmp 1)⟩,
  ⟨some 12, none, .len (.tmp 11)⟩,
  ⟨some 13, none, .fad (.tmp 3) 0⟩,
  ⟨some 14, none, .load none (.tmp 13)⟩,
  ⟨some 15, none, .fad (.tmp 3) 1⟩,
  ⟨some 16, none, .load none (.tmp 15)⟩,
  ⟨some 17, none, .len (.tmp 16)⟩,
  ⟨some 18, none, .bin .mul (.tmp 14) (.tmp 17)⟩,
  ⟨some 19, none, .bin .eql (.tmp 12) (.tmp 18)⟩])
 (.cond (.tmp 19) (.seq (.ops false [
  ⟨some 20, none, .mov (.tmp 1)⟩,
  ⟨some 6, none, .mov (.tmp 20)⟩])
 .ret) .skip))
 (.seq (.ops false [
  ⟨some 21, none, .fad (.tmp 3) 1⟩,
  ⟨some 22, none, .load none (.tmp 21)⟩,
  ⟨some 23, none, .mov (.tmp 1)⟩,
  ⟨some 24, none, .len (.tmp 23)⟩,
  ⟨some 25, none, .fad (.tmp 3) 1⟩,
  ⟨some 26, none, .load none (.tmp 25)⟩,
  ⟨some 27, none, .len (.tmp 26)⟩,
  ⟨some 28, none, .bin .rem (.tmp 24) (.tmp 27)⟩,
  ⟨some 29, none, .ixs 2 (.tmp 22) (.tmp 28)⟩,
  ⟨some 30, none, .load (some 2) (.tmp 29)⟩,
  ⟨some 7, none, .alloc [(I 0), (I 0)]⟩,
  ⟨none, none, .store 2 (.tmp 7) (.tmp 30)⟩])
 (.seq (.seq (.ops false [
  ⟨some 31, none, .fad (.tmp 7) 0⟩,
  ⟨some 32, none, .load none (.tmp 31)⟩,
  ⟨some 8, none, .mov (.tmp 32)⟩])
 (.block 0 (.loop keep38_0 body38_0)))
 (.seq (.ops false [
  ⟨some 6, none, .mov (.cst .nils)⟩])
 .ret)))))⟩
theorem comp38 : compF Cv 38 = some code38 := by kernel_rfl

def body39_0 : MC := (.seq (.seq (.ops false [
  ⟨some 10, none, .mov (.tmp 6)⟩,
  ⟨some 11, none, .fad (.tmp 2) 5⟩,
  ⟨some 12, none, .load none (.tmp 11)⟩,
  ⟨some 13, none, .len (.tmp 12)⟩,
  ⟨some 14, none, .bin .lss (.tmp 10) (.tmp 13)⟩])
 (.cond (.tmp 14) .skip (.exit 0)))
 (.seq (.block 1 (.seq (.ops false [
  ⟨some 17, none, .fad (.tmp 2) 5⟩,
  ⟨some 18, none, .load none (.tmp 17)⟩,
  ⟨some 19, none, .mov (.tmp 6)⟩,
  ⟨some 20, none, .ixs 2 (.tmp 18) (.tmp 19)⟩,
  ⟨some 21, none, .fad (.tmp 20) 0⟩,
  ⟨some 22, none, .load none (.tmp 21)⟩,
  ⟨some 7, none, .mov (.tmp 22)⟩])
 (.ops true [
  ⟨some 23, none, .fad (.tmp 5) 5⟩,
  ⟨some 24, none, .load none (.tmp 23)⟩,
  ⟨some 25, none, .mov (.tmp 7)⟩,
  ⟨some 26, none, .load (some 6) (.tmp 2)⟩,
  ⟨some 27, none, .mov (.tmp 1)⟩,
  ⟨some 28, none, .mov (.tmp 7)⟩,
  ⟨some 29, none, .call (.cst (.fn (.func 40) [] [])) [(.tmp 26), (.tmp 27), (.tmp 28)]⟩,
  ⟨some 30, none, .call (.cst (.fn (.func 46) [] [])) [(.tmp 25), (.tmp 29)]⟩,
  ⟨some 31, none, .bsl 2 true (.agg [(I 0), .nils]) 1 [(0, (.tmp 30))]⟩,
  ⟨some 32, none, .app false 2 32 true (.tmp 24) (.tmp 31)⟩,
  ⟨some 33, none, .fad (.tmp 5) 5⟩,
  ⟨none, none, .store 1 (.tmp 33) (.tmp 32)⟩])))
 (.ops false [
  ⟨some 15, none, .mov (.tmp 6)⟩,
  ⟨some 16, none, .bin .add (.tmp 15) (.cst (I 1))⟩,
  ⟨some 6, none, .mov (.tmp 16)⟩])))
def keep39_0 : Option (List Nat) := some [1, 2, 4, 5, 6]
def code39 : MF := ⟨35, [(4, some (some 6))], (.seq (.ops false [
  ⟨some 2, none, .box (.tmp 0)⟩,
  ⟨some 4, none, .alloc [(I 0), .nils, (I 0), (I 0), (I 0), .nils]⟩])
 (.seq (.ops false [
  ⟨some 8, none, .load (some 6) (.tmp 2)⟩,
  ⟨some 5, none, .alloc [(I 0), .nils, (I 0), (I 0), (I 0), .nils]⟩,
  ⟨none, none, .store 6 (.tmp 5) (.tmp 8)⟩])
 (.seq (.ops false [
  ⟨some 9, none, .fad (.tmp 5) 5⟩,
  ⟨none, none, .store 1 (.tmp 9) (.cst .nils)⟩])
 (.seq (.seq (.ops false [
  ⟨some 6, none, .mov (.cst (I 0))⟩])
 (.block 0 (.loop keep39_0 body39_0)))
 (.seq (.ops false [
  ⟨some 34, none, .load (some 6) (.tmp 5)⟩,
  ⟨none, none, .store 6 (.tmp 4) (.tmp 34)⟩])
 .ret)))))⟩
theorem comp39 : compF Cv 39 = some code39 := by kernel_rfl

def body40_0 : MC := (.seq (.seq (.ops false [
  ⟨some 10, none, .mov (.tmp 8)⟩,
  ⟨some 11, none, .fad (.tmp 3) 0⟩,
  ⟨some 12, none, .load none (.tmp 11)⟩,
  ⟨some 13, none, .bin .lss (.tmp 10) (.tmp 12)⟩])
 (.cond (.tmp 13) .skip (.exit 0)))
 (.seq (.block 1 (.ops false [
  ⟨some 16, none, .mov (.tmp 7)⟩,
  ⟨some 17, none, .mov (.tmp 1)⟩,
  ⟨some 18, none, .mov (.tmp 8)⟩,
  ⟨some 19, none, .fad (.tmp 3) 1⟩,
  ⟨some 20, none, .load none (.tmp 19)⟩,
  ⟨some 21, none, .len (.tmp 20)⟩,
  ⟨some 22, none, .bin .mul (.tmp 18) (.tmp 21)⟩,
  ⟨some 23, none, .mov (.tmp 2)⟩,
  ⟨some 24, none, .bin .add (.tmp 22) (.tmp 23)⟩,
  ⟨some 25, none, .ixs 1 (.tmp 17) (.tmp 24)⟩,
  ⟨some 26, none, .load none (.tmp 25)⟩,
  ⟨some 27, none, .bsl 1 false (I 0) 1 [(0, (.tmp 26))]⟩,
  ⟨some 28, none, .app false 1 8 false (.tmp 16) (.tmp 27)⟩,
  ⟨some 7, none, .mov (.tmp 28)⟩]))
 (.ops false [
  ⟨some 14, none, .mov (.tmp 8)⟩,
  ⟨some 15, none, .bin .add (.tmp 14) (.cst (I 1))⟩,
  ⟨some 8, none, .mov (.tmp 15)⟩])))
def keep40_0 : Option (List Nat) := some [1, 2, 3, 7, 8]
def code40 : MF := ⟨30, [(6, none)], (.seq (.ops false [
  ⟨some 3, none, .box (.tmp 0)⟩,
  ⟨some 6, none, .mov (.cst .nils)⟩])
 (.seq (.ops false [
  ⟨some 9, none, .bsl 1 false (I 0) 0 []⟩,
  ⟨some 7, none, .mov (.tmp 9)⟩])
 (.seq (.seq (.ops false [
  ⟨some 8, none, .mov (.cst (I 0))⟩])
 (.block 0 (.loop keep40_0 body40_0)))
 (.seq (.ops false [
  ⟨some 29, none, .mov (.tmp 7)⟩,
  ⟨some 6, none, .mov (.tmp 29)⟩])
 .ret))))⟩
theorem comp40 : compF Cv 40 = some code40 := by kernel_rfl

def body41_0 : MC := (.seq (.seq (.ops false [
  ⟨some 6, none, .mov (.tmp 5)⟩,
  ⟨some 7, none, .mov (.tmp 0)⟩,
  ⟨some 8, none, .len (.tmp 7)⟩,
  ⟨some 9, none, .bin .lss (.tmp 6) (.tmp 8)⟩])
 (.cond (.tmp 9) .skip (.exit 0)))
 (.seq (.block 1 (.seq (.ops false [
  ⟨some 12, none, .mov (.tmp 0)⟩,
  ⟨some 13, none, .mov (.tmp 5)⟩,
  ⟨some 14, none, .ixs 1 (.tmp 12) (.tmp 13)⟩,
  ⟨some 15, none, .load none (.tmp 14)⟩,
  ⟨some 16, none, .mov (.tmp 1)⟩,
  ⟨some 17, none, .bin .sub (.tmp 16) (.cst (I 1))⟩,
  ⟨some 18, none, .call (.cst (.fn (.func 49) [] [])) [(.tmp 15), (.cst (I 0)), (.tmp 17)]⟩,
  ⟨some 19, none, .lnot (.tmp 18)⟩,
  ⟨some 20, none, .mov (.tmp 19)⟩,
  ⟨some 21, some ((some 20), false), .mov (.tmp 5)⟩,
  ⟨some 22, some ((some 20), false), .bin .gtr (.tmp 21) (.cst (I 0))⟩,
  ⟨some 23, some ((some 20), false), .mov (.tmp 22)⟩,
  ⟨some 24, some ((some 23), true), .mov (.tmp 0)⟩,
  ⟨some 25, some ((some 23), true), .mov (.tmp 5)⟩,
  ⟨some 26, some ((some 23), true), .ixs 1 (.tmp 24) (.tmp 25)⟩,
  ⟨some 27, some ((some 23), true), .load none (.tmp 26)⟩,
  ⟨some 28, some ((some 23), true), .mov (.tmp 0)⟩,
  ⟨some 29, some ((some 23), true), .mov (.tmp 5)⟩,
  ⟨some 30, some ((some 23), true), .bin .sub (.tmp 29) (.cst (I 1))⟩,
  ⟨some 31, some ((some 23), true), .ixs 1 (.tmp 28) (.tmp 30)⟩,
  ⟨some 32, some ((some 23), true), .load none (.tmp 31)⟩,
  ⟨some 33, some ((some 23), true), .bin .leq (.tmp 27) (.tmp 32)⟩,
  ⟨some 34, some ((some 20), false), .pick (.tmp 23) (.tmp 33) (.cst (.bool false))⟩,
  ⟨some 35, none, .pick (.tmp 20) (.cst (.bool true)) (.tmp 34)⟩])
 (.cond (.tmp 35) (.seq (.ops false [
  ⟨some 4, none, .mov (.cst (.bool false))⟩])
 .ret) .skip)))
 (.ops false [
  ⟨some 10, none, .mov (.tmp 5)⟩,
  ⟨some 11, none, .bin .add (.tmp 10) (.cst (I 1))⟩,
  ⟨some 5, none, .mov (.tmp 11)⟩])))
def keep41_0 : Option (List Nat) := some [0, 1, 5]
def code41 : MF := ⟨36, [(4, none)], (.seq (.ops false [
  ⟨some 4, none, .mov (.cst (.bool false))⟩])
 (.seq (.seq (.ops false [
  ⟨some 5, none, .mov (.cst (I 0))⟩])
 (.block 0 (.loop keep41_0 body41_0)))
 (.seq (.ops false [
  ⟨some 4, none, .mov (.cst (.bool true))⟩])
 .ret)))⟩
theorem comp41 : compF Cv 41 = some code41 := by kernel_rfl

def body42_0 : MC := (.seq (.seq (.ops false [
  ⟨some 6, none, .mov (.tmp 5)⟩,
  ⟨some 7, none, .mov (.tmp 0)⟩,
  ⟨some 8, none, .len (.tmp 7)⟩,
  ⟨some 9, none, .bin .lss (.tmp 6) (.tmp 8)⟩])
 (.cond (.tmp 9) .skip (.exit 0)))
 (.seq (.block 1 (.seq (.ops false [
  ⟨some 12, none, .mov (.tmp 0)⟩,
  ⟨some 13, none, .mov (.tmp 5)⟩,
  ⟨some 14, none, .ixs 1 (.tmp 12) (.tmp 13)⟩,
  ⟨some 15, none, .load none (.tmp 14)⟩,
  ⟨some 16, none, .mov (.tmp 1)⟩,
  ⟨some 17, none, .bin .eql (.tmp 15) (.tmp 16)⟩])
 (.cond (.tmp 17) (.seq (.ops false [
  ⟨some 18, none, .mov (.tmp 5)⟩,
  ⟨some 4, none, .mov (.tmp 18)⟩])
 .ret) .skip)))
 (.ops false [
  ⟨some 10, none, .mov (.tmp 5)⟩,
  ⟨some 11, none, .bin .add (.tmp 10) (.cst (I 1))⟩,
  ⟨some 5, none, .mov (.tmp 11)⟩])))
def keep42_0 : Option (List Nat) := some [0, 1, 5]
def code42 : MF := ⟨19, [(4, none)], (.seq (.ops false [
  ⟨some 4, none, .mov (.cst (I 0))⟩])
 (.seq (.seq (.ops false [
  ⟨some 5, none, .mov (.cst (I 0))⟩])
 (.block 0 (.loop keep42_0 body42_0)))
 (.seq (.ops false [
  ⟨some 4, none, .mov (.cst (I (-1)))⟩])
 .ret)))⟩
theorem comp42 : compF Cv 42 = some code42 := by kernel_rfl

def code43 : MF := ⟨17, [(4, none)], (.seq (.ops false [
  ⟨some 4, none, .mov (.cst (I 0))⟩])
 (.seq (.seq (.ops false [
  ⟨some 6, none, .mov (.tmp 1)⟩,
  ⟨some 7, none, .bin .lss (.tmp 6) (.cst (I 1))⟩])
 (.cond (.tmp 7) (.seq (.ops false [
  ⟨some 4, none, .mov (.cst (I 0))⟩])
 .ret) .skip))
 (.seq (.ops false [
  ⟨some 8, none, .mov (.tmp 0)⟩,
  ⟨some 9, none, .mov (.tmp 1)⟩,
  ⟨some 10, none, .bin .rem (.tmp 8) (.tmp 9)⟩,
  ⟨some 5, none, .mov (.tmp 10)⟩])
 (.seq (.seq (.ops false [
  ⟨some 11, none, .mov (.tmp 5)⟩,
  ⟨some 12, none, .bin .lss (.tmp 11) (.cst (I 0))⟩])
 (.cond (.tmp 12) (.ops false [
  ⟨some 13, none, .mov (.tmp 5)⟩,
  ⟨some 14, none, .mov (.tmp 1)⟩,
  ⟨some 15, none, .bin .add (.tmp 13) (.tmp 14)⟩,
  ⟨some 5, none, .mov (.tmp 15)⟩]) .skip))
 (.seq (.ops false [
  ⟨some 16, none, .mov (.tmp 5)⟩,
  ⟨some 4, none, .mov (.tmp 16)⟩])
 .ret)))))⟩
theorem comp43 : compF Cv 43 = some code43 := by kernel_rfl

def body44_0 : MC := (.seq (.seq (.ops false [
  ⟨some 32, none, .mov (.tmp 10)⟩,
  ⟨some 33, none, .fad (.tmp 6) 1⟩,
  ⟨some 34, none, .load none (.tmp 33)⟩,
  ⟨some 35, none, .bin .leq (.tmp 32) (.tmp 34)⟩])
 (.cond (.tmp 35) .skip (.exit 4)))
 (.seq (.block 5 (.ops false [
  ⟨some 38, none, .mov (.tmp 8)⟩,
  ⟨some 39, none, .mov (.tmp 5)⟩,
  ⟨some 40, none, .mov (.tmp 9)⟩,
  ⟨some 41, none, .ixs 1 (.tmp 39) (.tmp 40)⟩,
  ⟨some 42, none, .load none (.tmp 41)⟩,
  ⟨some 43, none, .mov (.tmp 10)⟩,
  ⟨some 44, none, .call (.cst (.fn (.func 85) [] [])) [(.tmp 42), (.tmp 43)]⟩,
  ⟨some 45, none, .bsl 1 false .nils 1 [(0, (.tmp 44))]⟩,
  ⟨some 46, none, .app false 1 24 false (.tmp 38) (.tmp 45)⟩,
  ⟨some 8, none, .mov (.tmp 46)⟩]))
 (.ops false [
  ⟨some 36, none, .mov (.tmp 10)⟩,
  ⟨some 37, none, .bin .add (.tmp 36) (.cst (I 1))⟩,
  ⟨some 10, none, .mov (.tmp 37)⟩])))
def keep44_0 : Option (List Nat) := some [2, 5, 6, 7, 8, 9, 10]
def body44_1 : MC := (.seq (.seq (.ops false [
  ⟨some 24, none, .mov (.tmp 9)⟩,
  ⟨some 25, none, .mov (.tmp 5)⟩,
  ⟨some 26, none, .len (.tmp 25)⟩,
  ⟨some 27, none, .bin .lss (.tmp 24) (.tmp 26)⟩])
 (.cond (.tmp 27) .skip (.exit 2)))
 (.seq (.block 3 (.seq (.ops false [
  ⟨some 30, none, .fad (.tmp 6) 0⟩,
  ⟨some 31, none, .load none (.tmp 30)⟩,
  ⟨some 10, none, .mov (.tmp 31)⟩])
 (.block 4 (.loop keep44_0 body44_0))))
 (.ops false [
  ⟨some 28, none, .mov (.tmp 9)⟩,
  ⟨some 29, none, .bin .add (.tmp 28) (.cst (I 1))⟩,
  ⟨some 9, none, .mov (.tmp 29)⟩])))
def keep44_1 : Option (List Nat) := some [2, 5, 6, 7, 8, 9]
def body44_2 : MC := (.seq (.seq (.ops false [
  ⟨some 18, none, .mov (.tmp 7)⟩,
  ⟨some 19, none, .fad (.tmp 2) 0⟩,
  ⟨some 20, none, .load none (.tmp 19)⟩,
  ⟨some 21, none, .bin .lss (.tmp 18) (.tmp 20)⟩])
 (.cond (.tmp 21) .skip (.exit 0)))
 (.seq (.block 1 (.seq (.ops false [
  ⟨some 8, none, .mov (.cst .nils)⟩])
 (.seq (.seq (.ops false [
  ⟨some 9, none, .mov (.cst (I 0))⟩])
 (.block 2 (.loop keep44_1 body44_1)))
 (.ops false [
  ⟨some 47, none, .mov (.tmp 8)⟩,
  ⟨some 5, none, .mov (.tmp 47)⟩]))))
 (.ops false [
  ⟨some 22, none, .mov (.tmp 7)⟩,
  ⟨some 23, none, .bin .add (.tmp 22) (.cst (I 1))⟩,
  ⟨some 7, none, .mov (.tmp 23)⟩])))
def keep44_2 : Option (List Nat) := some [2, 5, 6, 7]
def code44 : MF := ⟨49, [(4, none)], (.seq (.ops false [
  ⟨some 2, none, .box (.tmp 0)⟩,
  ⟨some 4, none, .mov (.cst .nils)⟩])
 (.seq (.ops false [
  ⟨some 11, none, .bsl 1 false (I 0) 0 []⟩,
  ⟨some 12, none, .bsl 1 false .nils 1 [(0, (.tmp 11))]⟩,
  ⟨some 5, none, .mov (.tmp 12)⟩])
 (.seq (.ops false [
  ⟨some 13, none, .fad (.tmp 2) 1⟩,
  ⟨some 14, none, .load none (.tmp 13)⟩,
  ⟨some 15, none, .mov (.tmp 1)⟩,
  ⟨some 16, none, .ixs 2 (.tmp 14) (.tmp 15)⟩,
  ⟨some 17, none, .load (some 2) (.tmp 16)⟩,
  ⟨some 6, none, .alloc [(I 0), (I 0)]⟩,
  ⟨none, none, .store 2 (.tmp 6) (.tmp 17)⟩])
 (.seq (.seq (.ops false [
  ⟨some 7, none, .mov (.cst (I 0))⟩])
 (.block 0 (.loop keep44_2 body44_2)))
 (.seq (.ops false [
  ⟨some 48, none, .mov (.tmp 5)⟩,
  ⟨some 4, none, .mov (.tmp 48)⟩])
 .ret)))))⟩
theorem comp44 : compF Cv 44 = some code44 := by kernel_rfl

def code45 : MF := ⟨16, [(4, some (some 6))], (.seq (.ops false [
  ⟨some 2, none, .box (.tmp 0)⟩,
  ⟨some 3, none, .box (.tmp 1)⟩,
  ⟨some 4, none, .alloc [(I 0), .nils, (I 0), (I 0), (I 0), .nils]⟩])
 (.seq (.ops false [
  ⟨some 6, none, .load (some 6) (.tmp 2)⟩,
  ⟨some 5, none, .alloc [(I 0), .nils, (I 0), (I 0), (I 0), .nils]⟩,
  ⟨none, none, .store 6 (.tmp 5) (.tmp 6)⟩])
 (.seq (.ops false [
  ⟨some 7, none, .bsl 2 true (.agg [(I 0), .nils]) 0 []⟩,
  ⟨some 8, none, .fad (.tmp 2) 5⟩,
  ⟨some 9, none, .load none (.tmp 8)⟩,
  ⟨some 10, none, .app false 2 32 true (.tmp 7) (.tmp 9)⟩,
  ⟨some 11, none, .load (some 2) (.tmp 3)⟩,
  ⟨some 12, none, .bsl 2 true (.agg [(I 0), .nils]) 1 [(0, (.tmp 11))]⟩,
  ⟨some 13, none, .app false 2 32 true (.tmp 10) (.tmp 12)⟩,
  ⟨some 14, none, .fad (.tmp 5) 5⟩,
  ⟨none, none, .store 1 (.tmp 14) (.tmp 13)⟩])
 (.seq (.ops false [
  ⟨some 15, none, .load (some 6) (.tmp 5)⟩,
  ⟨none, none, .store 6 (.tmp 4) (.tmp 15)⟩])
 .ret))))⟩
theorem comp45 : compF Cv 45 = some code45 := by kernel_rfl

def code46 : MF := ⟨8, [(4, some (some 2))], (.seq (.ops false [
  ⟨some 4, none, .alloc [(I 0), .nils]⟩])
 (.seq (.ops false [
  ⟨some 5, none, .mov (.tmp 0)⟩,
  ⟨some 6, none, .mov (.tmp 1)⟩,
  ⟨some 7, none, .bld [(I 0), .nils] [(0, 1, (.tmp 5)), (1, 1, (.tmp 6))]⟩,
  ⟨none, none, .store 2 (.tmp 4) (.tmp 7)⟩])
 .ret))⟩
theorem comp46 : compF Cv 46 = some code46 := by kernel_rfl

def body47_0 : MC := (.seq (.seq (.ops false [
  ⟨some 5, none, .mov (.tmp 4)⟩,
  ⟨some 6, none, .mov (.tmp 0)⟩,
  ⟨some 7, none, .len (.tmp 6)⟩,
  ⟨some 8, none, .bin .lss (.tmp 5) (.tmp 7)⟩])
 (.cond (.tmp 8) .skip (.exit 0)))
 (.seq (.block 1 (.seq (.ops false [
  ⟨some 11, none, .mov (.tmp 0)⟩,
  ⟨some 12, none, .mov (.tmp 4)⟩,
  ⟨some 13, none, .ixs 1 (.tmp 11) (.tmp 12)⟩,
  ⟨some 14, none, .load none (.tmp 13)⟩,
  ⟨some 15, none, .call (.cst (.fn (.func 49) [] [])) [(.tmp 14), (.cst (I 0)), (.cst (I 61))]⟩])
 (.cond (.tmp 15) (.ops false [
  ⟨some 16, none, .mov (.tmp 3)⟩,
  ⟨some 17, none, .mov (.tmp 0)⟩,
  ⟨some 18, none, .mov (.tmp 4)⟩,
  ⟨some 19, none, .ixs 1 (.tmp 17) (.tmp 18)⟩,
  ⟨some 20, none, .load none (.tmp 19)⟩,
  ⟨some 21, none, .bin .shl (.cst (I 1)) (.tmp 20)⟩,
  ⟨some 22, none, .bin .or (.tmp 16) (.tmp 21)⟩,
  ⟨some 3, none, .mov (.tmp 22)⟩]) .skip)))
 (.ops false [
  ⟨some 9, none, .mov (.tmp 4)⟩,
  ⟨some 10, none, .bin .add (.tmp 9) (.cst (I 1))⟩,
  ⟨some 4, none, .mov (.tmp 10)⟩])))
def keep47_0 : Option (List Nat) := some [0, 3, 4]
def code47 : MF := ⟨24, [(2, none)], (.seq (.ops false [
  ⟨some 2, none, .mov (.cst (I 0))⟩])
 (.seq (.ops false [
  ⟨some 3, none, .mov (.cst (I 0))⟩])
 (.seq (.seq (.ops false [
  ⟨some 4, none, .mov (.cst (I 0))⟩])
 (.block 0 (.loop keep47_0 body47_0)))
 (.seq (.ops false [
  ⟨some 23, none, .mov (.tmp 3)⟩,
  ⟨some 2, none, .mov (.tmp 23)⟩])
 .ret))))⟩
theorem comp47 : compF Cv 47 = some code47 := by kernel_rfl

def body48_0 : MC := (.seq (.seq (.ops false [
  ⟨some 11, none, .mov (.tmp 4)⟩,
  ⟨some 12, none, .fad (.tmp 1) 1⟩,
  ⟨some 13, none, .load none (.tmp 12)⟩,
  ⟨some 14, none, .len (.tmp 13)⟩,
  ⟨some 15, none, .bin .lss (.tmp 11) (.tmp 14)⟩])
 (.cond (.tmp 15) .skip (.exit 0)))
 (.seq (.block 1 (.ops true [
  ⟨some 18, none, .fad (.tmp 3) 1⟩,
  ⟨some 19, none, .load none (.tmp 18)⟩,
  ⟨some 20, none, .fad (.tmp 1) 1⟩,
  ⟨some 21, none, .load none (.tmp 20)⟩,
  ⟨some 22, none, .mov (.tmp 4)⟩,
  ⟨some 23, none, .ixs 2 (.tmp 21) (.tmp 22)⟩,
  ⟨some 24, none, .load (some 2) (.tmp 23)⟩,
  ⟨some 25, none, .call (.cst (.fn (.func 58) [] [])) [(.cst (I 1))]⟩,
  ⟨some 26, none, .call (.cst (.fn (.func 86) [] [])) [(.tmp 24), (.tmp 25)]⟩,
  ⟨some 27, none, .bsl 2 true (.agg [(I 0), (I 0)]) 1 [(0, (.tmp 26))]⟩,
  ⟨some 28, none, .app false 2 16 true (.tmp 19) (.tmp 27)⟩,
  ⟨some 29, none, .fad (.tmp 3) 1⟩,
  ⟨none, none, .store 1 (.tmp 29) (.tmp 28)⟩]))
 (.ops false [
  ⟨some 16, none, .mov (.tmp 4)⟩,
  ⟨some 17, none, .bin .add (.tmp 16) (.cst (I 1))⟩,
  ⟨some 4, none, .mov (.tmp 17)⟩])))
def keep48_0 : Option (List Nat) := some [1, 2, 3, 4]
def body48_1 : MC := (.seq (.seq (.ops false [
  ⟨some 38, none, .mov (.tmp 7)⟩,
  ⟨some 39, none, .fad (.tmp 1) 5⟩,
  ⟨some 40, none, .load none (.tmp 39)⟩,
  ⟨some 41, none, .mov (.tmp 5)⟩,
  ⟨some 42, none, .ixs 2 (.tmp 40) (.tmp 41)⟩,
  ⟨some 43, none, .fad (.tmp 42) 1⟩,
  ⟨some 44, none, .load none (.tmp 43)⟩,
  ⟨some 45, none, .len (.tmp 44)⟩,
  ⟨some 46, none, .bin .lss (.tmp 38) (.tmp 45)⟩])
 (.cond (.tmp 46) .skip (.exit 4)))
 (.seq (.block 5 (.ops false [
  ⟨some 49, none, .mov (.tmp 6)⟩,
  ⟨some 50, none, .fad (.tmp 1) 5⟩,
  ⟨some 51, none, .load none (.tmp 50)⟩,
  ⟨some 52, none, .mov (.tmp 5)⟩,
  ⟨some 53, none, .ixs 2 (.tmp 51) (.tmp 52)⟩,
  ⟨some 54, none, .fad (.tmp 53) 1⟩,
  ⟨some 55, none, .load none (.tmp 54)⟩,
  ⟨some 56, none, .mov (.tmp 7)⟩,
  ⟨some 57, none, .ixs 1 (.tmp 55) (.tmp 56)⟩,
  ⟨some 58, none, .load none (.tmp 57)⟩,
  ⟨some 59, none, .bin .add (.tmp 58) (.cst (I 1))⟩,
  ⟨some 60, none, .bsl 1 false (I 0) 1 [(0, (.tmp 59))]⟩,
  ⟨some 61, none, .app false 1 8 false (.tmp 49) (.tmp 60)⟩,
  ⟨some 6, none, .mov (.tmp 61)⟩]))
 (.ops false [
  ⟨some 47, none, .mov (.tmp 7)⟩,
  ⟨some 48, none, .bin .add (.tmp 47) (.cst (I 1))⟩,
  ⟨some 7, none, .mov (.tmp 48)⟩])))
def keep48_1 : Option (List Nat) := some [1, 2, 3, 5, 6, 7]
def body48_2 : MC := (.seq (.seq (.ops false [
  ⟨some 30, none, .mov (.tmp 5)⟩,
  ⟨some 31, none, .fad (.tmp 1) 5⟩,
  ⟨some 32, none, .load none (.tmp 31)⟩,
  ⟨some 33, none, .len (.tmp 32)⟩,
  ⟨some 34, none, .bin .lss (.tmp 30) (.tmp 33)⟩])
 (.cond (.tmp 34) .skip (.exit 2)))
 (.seq (.block 3 (.seq (.ops false [
  ⟨some 37, none, .bsl 1 false (I 0) 0 []⟩,
  ⟨some 6, none, .mov (.tmp 37)⟩])
 (.seq (.seq (.ops false [
  ⟨some 7, none, .mov (.cst (I 0))⟩])
 (.block 4 (.loop keep48_1 body48_1)))
 (.ops true [
  ⟨some 62, none, .fad (.tmp 3) 5⟩,
  ⟨some 63, none, .load none (.tmp 62)⟩,
  ⟨some 64, none, .fad (.tmp 1) 5⟩,
  ⟨some 65, none, .load none (.tmp 64)⟩,
  ⟨some 66, none, .mov (.tmp 5)⟩,
  ⟨some 67, none, .ixs 2 (.tmp 65) (.tmp 66)⟩,
  ⟨some 68, none, .fad (.tmp 67) 0⟩,
  ⟨some 69, none, .load none (.tmp 68)⟩,
  ⟨some 70, none, .mov (.tmp 6)⟩,
  ⟨some 71, none, .call (.cst (.fn (.func 46) [] [])) [(.tmp 69), (.tmp 70)]⟩,
  ⟨some 72, none, .bsl 2 true (.agg [(I 0), .nils]) 1 [(0, (.tmp 71))]⟩,
  ⟨some 73, none, .app false 2 32 true (.tmp 63) (.tmp 72)⟩,
  ⟨some 74, none, .fad (.tmp 3) 5⟩,
  ⟨none, none, .store 1 (.tmp 74) (.tmp 73)⟩]))))
 (.ops false [
  ⟨some 35, none, .mov (.tmp 5)⟩,
  ⟨some 36, none, .bin .add (.tmp 35) (.cst (I 1))⟩,
  ⟨some 5, none, .mov (.tmp 36)⟩])))
def keep48_2 : Option (List Nat) := some [1, 2, 3, 5]
def code48 : MF := ⟨76, [(2, some (some 6))], (.seq (.ops false [
  ⟨some 1, none, .box (.tmp 0)⟩,
  ⟨some 2, none, .alloc [(I 0), .nils, (I 0), (I 0), (I 0), .nils]⟩])
 (.seq (.ops false [
  ⟨some 8, none, .load (some 6) (.tmp 1)⟩,
  ⟨some 3, none, .alloc [(I 0), .nils, (I 0), (I 0), (I 0), .nils]⟩,
  ⟨none, none, .store 6 (.tmp 3) (.tmp 8)⟩])
 (.seq (.ops false [
  ⟨some 9, none, .fad (.tmp 3) 1⟩,
  ⟨none, none, .store 1 (.tmp 9) (.cst .nils)⟩,
  ⟨some 10, none, .fad (.tmp 3) 5⟩,
  ⟨none, none, .store 1 (.tmp 10) (.cst .nils)⟩])
 (.seq (.seq (.ops false [
  ⟨some 4, none, .mov (.cst (I 0))⟩])
 (.block 0 (.loop keep48_0 body48_0)))
 (.seq (.seq (.ops false [
  ⟨some 5, none, .mov (.cst (I 0))⟩])
 (.block 2 (.loop keep48_2 body48_2)))
 (.seq (.ops false [
  ⟨some 75, none, .load (some 6) (.tmp 3)⟩,
  ⟨none, none, .store 6 (.tmp 2) (.tmp 75)⟩])
 .ret))))))⟩
theorem comp48 : compF Cv 48 = some code48 := by kernel_rfl

def code49 : MF := ⟨15, [(6, none)], (.seq (.ops false [
  ⟨some 6, none, .mov (.cst (.bool false))⟩])
 (.seq (.ops false [
  ⟨some 7, none, .mov (.tmp 1)⟩,
  ⟨some 8, none, .mov (.tmp 0)⟩,
  ⟨some 9, none, .bin .leq (.tmp 7) (.tmp 8)⟩,
  ⟨some 10, none, .mov (.tmp 9)⟩,
  ⟨some 11, some ((some 10), true), .mov (.tmp 0)⟩,
  ⟨some 12, some ((some 10), true), .mov (.tmp 2)⟩,
  ⟨some 13, some ((some 10), true), .bin .leq (.tmp 11) (.tmp 12)⟩,
  ⟨some 14, none, .pick (.tmp 10) (.tmp 13) (.cst (.bool false))⟩,
  ⟨some 6, none, .mov (.tmp 14)⟩])
 .ret))⟩
theorem comp49 : compF Cv 49 = some code49 := by kernel_rfl

def body50_0 : MC := (.seq (.seq (.ops false [
  ⟨some 6, none, .mov (.tmp 5)⟩,
  ⟨some 7, none, .mov (.tmp 0)⟩,
  ⟨some 8, none, .len (.tmp 7)⟩,
  ⟨some 9, none, .bin .lss (.tmp 6) (.tmp 8)⟩,
  ⟨some 10, none, .mov (.tmp 9)⟩,
  ⟨some 11, some ((some 10), true), .mov (.tmp 5)⟩,
  ⟨some 12, some ((some 10), true), .mov (.tmp 1)⟩,
  ⟨some 13, some ((some 10), true), .len (.tmp 12)⟩,
  ⟨some 14, some ((some 10), true), .bin .lss (.tmp 11) (.tmp 13)⟩,
  ⟨some 15, none, .pick (.tmp 10) (.tmp 14) (.cst (.bool false))⟩])
 (.cond (.tmp 15) .skip (.exit 0)))
 (.seq (.block 1 (.seq (.ops false [
  ⟨some 18, none, .mov (.tmp 0)⟩,
  ⟨some 19, none, .mov (.tmp 5)⟩,
  ⟨some 20, none, .ixs 1 (.tmp 18) (.tmp 19)⟩,
  ⟨some 21, none, .load none (.tmp 20)⟩,
  ⟨some 22, none, .mov (.tmp 1)⟩,
  ⟨some 23, none, .mov (.tmp 5)⟩,
  ⟨some 24, none, .ixs 1 (.tmp 22) (.tmp 23)⟩,
  ⟨some 25, none, .load none (.tmp 24)⟩,
  ⟨some 26, none, .bin .neq (.tmp 21) (.tmp 25)⟩])
 (.cond (.tmp 26) (.seq (.ops false [
  ⟨some 27, none, .mov (.tmp 0)⟩,
  ⟨some 28, none, .mov (.tmp 5)⟩,
  ⟨some 29, none, .ixs 1 (.tmp 27) (.tmp 28)⟩,
  ⟨some 30, none, .load none (.tmp 29)⟩,
  ⟨some 31, none, .mov (.tmp 1)⟩,
  ⟨some 32, none, .mov (.tmp 5)⟩,
  ⟨some 33, none, .ixs 1 (.tmp 31) (.tmp 32)⟩,
  ⟨some 34, none, .load none (.tmp 33)⟩,
  ⟨some 35, none, .bin .lss (.tmp 30) (.tmp 34)⟩,
  ⟨some 4, none, .mov (.tmp 35)⟩])
 .ret) .skip)))
 (.ops false [
  ⟨some 16, none, .mov (.tmp 5)⟩,
  ⟨some 17, none, .bin .add (.tmp 16) (.cst (I 1))⟩,
  ⟨some 5, none, .mov (.tmp 17)⟩])))
def keep50_0 : Option (List Nat) := some [0, 1, 5]
def code50 : MF := ⟨41, [(4, none)], (.seq (.ops false [
  ⟨some 4, none, .mov (.cst (.bool false))⟩])
 (.seq (.seq (.ops false [
  ⟨some 5, none, .mov (.cst (I 0))⟩])
 (.block 0 (.loop keep50_0 body50_0)))
 (.seq (.ops false [
  ⟨some 36, none, .mov (.tmp 0)⟩,
  ⟨some 37, none, .len (.tmp 36)⟩,
  ⟨some 38, none, .mov (.tmp 1)⟩,
  ⟨some 39, none, .len (.tmp 38)⟩,
  ⟨some 40, none, .bin .lss (.tmp 37) (.tmp 39)⟩,
  ⟨some 4, none, .mov (.tmp 40)⟩])
 .ret)))⟩
theorem comp50 : compF Cv 50 = some code50 := by kernel_rfl

def body51_0 : MC := (.seq (.seq (.ops false [
  ⟨some 16, none, .mov (.tmp 10)⟩,
  ⟨some 17, none, .mov (.tmp 8)⟩,
  ⟨some 18, none, .len (.tmp 17)⟩,
  ⟨some 19, none, .bin .lss (.tmp 16) (.tmp 18)⟩])
 (.cond (.tmp 19) .skip (.exit 0)))
 (.seq (.block 1 (.seq (.ops true [
  ⟨some 23, none, .load (some 6) (.tmp 3)⟩,
  ⟨some 24, none, .mov (.tmp 1)⟩,
  ⟨some 25, none, .mov (.tmp 8)⟩,
  ⟨some 26, none, .mov (.tmp 10)⟩,
  ⟨some 27, none, .ixs 1 (.tmp 25) (.tmp 26)⟩,
  ⟨some 28, none, .load none (.tmp 27)⟩,
  ⟨some 29, none, .call (.cst (.fn (.func 46) [] [])) [(.tmp 24), (.tmp 28)]⟩,
  ⟨some 30, none, .call (.cst (.fn (.func 45) [] [])) [(.tmp 23), (.tmp 29)]⟩,
  ⟨some 31, none, .call (.cst (.fn (.func 19) [] [])) [(.tmp 30)]⟩,
  ⟨some 22, none, .mov (.tmp 31)⟩,
  ⟨some 32, none, .ext (.tmp 22) 0⟩,
  ⟨some 33, none, .ext (.tmp 22) 1⟩,
  ⟨some 11, none, .mov (.tmp 32)⟩,
  ⟨some 12, none, .mov (.tmp 33)⟩])
 (.seq (.ops false [
  ⟨some 34, none, .mov (.tmp 12)⟩,
  ⟨some 35, none, .bin .eql (.tmp 34) (.cst (I 0))⟩,
  ⟨some 36, none, .mov (.tmp 35)⟩,
  ⟨some 37, some ((some 36), true), .mov (.tmp 11)⟩,
  ⟨some 38, some ((some 36), true), .call (.cst (.fn (.func 49) [] [])) [(.tmp 37), (.cst (I 0)), (.cst (I 1048576))]⟩,
  ⟨some 39, none, .pick (.tmp 36) (.tmp 38) (.cst (.bool false))⟩])
 (.cond (.tmp 39) (.seq (.ops false [
  ⟨some 40, none, .mov (.tmp 8)⟩,
  ⟨some 41, none, .mov (.tmp 10)⟩,
  ⟨some 42, none, .ixs 1 (.tmp 40) (.tmp 41)⟩,
  ⟨some 43, none, .load none (.tmp 42)⟩,
  ⟨some 44, none, .mov (.tmp 2)⟩,
  ⟨some 45, none, .ixs 1 (.tmp 43) (.tmp 44)⟩,
  ⟨some 46, none, .load none (.tmp 45)⟩,
  ⟨some 47, none, .ixa 13 1 (.tmp 7) (.tmp 46)⟩,
  ⟨some 48, none, .load none (.tmp 47)⟩,
  ⟨some 49, none, .mov (.tmp 11)⟩,
  ⟨some 50, none, .bin .add (.tmp 48) (.tmp 49)⟩,
  ⟨some 51, none, .ixa 13 1 (.tmp 7) (.tmp 46)⟩,
  ⟨none, none, .store 1 (.tmp 51) (.tmp 50)⟩])
 (.ops false [
  ⟨some 52, none, .mov (.tmp 9)⟩,
  ⟨some 53, none, .mov (.tmp 8)⟩,
  ⟨some 54, none, .mov (.tmp 10)⟩,
  ⟨some 55, none, .ixs 1 (.tmp 53) (.tmp 54)⟩,
  ⟨some 56, none, .load none (.tmp 55)⟩,
  ⟨some 57, none, .mov (.tmp 2)⟩,
  ⟨some 58, none, .ixs 1 (.tmp 56) (.tmp 57)⟩,
  ⟨some 59, none, .load none (.tmp 58)⟩,
  ⟨some 60, none, .ixa 13 1 (.tmp 7) (.tmp 59)⟩,
  ⟨some 61, none, .load none (.tmp 60)⟩,
  ⟨some 62, none, .mx (.tmp 52) [(.tmp 61)]⟩,
  ⟨some 9, none, .mov (.tmp 62)⟩])) .skip))))
 (.ops false [
  ⟨some 20, none, .mov (.tmp 10)⟩,
  ⟨some 21, none, .bin .add (.tmp 20) (.cst (I 1))⟩,
  ⟨some 10, none, .mov (.tmp 21)⟩])))
def keep51_0 : Option (List Nat) := some [1, 2, 3, 7, 8, 9, 10]
def code51 : MF := ⟨64, [(6, none)], (.seq (.ops false [
  ⟨some 3, none, .box (.tmp 0)⟩,
  ⟨some 6, none, .mov (.cst (I 0))⟩])
 (.seq (.ops false [
  ⟨some 7, none, .alloc [(I 0), (I 0), (I 0), (I 0), (I 0), (I 0), (I 0), (I 0), (I 0), (I 0), (I 0), (I 0), (I 0)]⟩])
 (.seq (.ops false [
  ⟨some 13, none, .load (some 6) (.tmp 3)⟩,
  ⟨some 14, none, .mov (.tmp 1)⟩,
  ⟨some 15, none, .call (.cst (.fn (.func 44) [] [])) [(.tmp 13), (.tmp 14)]⟩,
  ⟨some 8, none, .mov (.tmp 15)⟩,
  ⟨some 9, none, .mov (.cst (I 0))⟩])
 (.seq (.seq (.ops false [
  ⟨some 10, none, .mov (.cst (I 0))⟩])
 (.block 0 (.loop keep51_0 body51_0)))
 (.seq (.ops false [
  ⟨some 63, none, .mov (.tmp 9)⟩,
  ⟨some 6, none, .mov (.tmp 63)⟩])
 .ret)))))⟩
theorem comp51 : compF Cv 51 = some code51 := by kernel_rfl

def body52_0 : MC := (.seq (.seq (.ops false [
  ⟨some 8, none, .mov (.tmp 6)⟩,
  ⟨some 9, none, .mov (.tmp 1)⟩,
  ⟨some 10, none, .bin .lss (.tmp 8) (.tmp 9)⟩])
 (.cond (.tmp 10) .skip (.exit 0)))
 (.seq (.block 1 (.seq (.ops false [
  ⟨some 13, none, .mov (.tmp 0)⟩,
  ⟨some 14, none, .mov (.tmp 6)⟩,
  ⟨some 15, none, .call (.cst (.fn (.func 87) [] [])) [(.tmp 13), (.tmp 14)]⟩])
 (.cond (.tmp 15) (.ops false [
  ⟨some 16, none, .mov (.tmp 5)⟩,
  ⟨some 17, none, .mov (.tmp 6)⟩,
  ⟨some 18, none, .bsl 1 false (I 0) 1 [(0, (.tmp 17))]⟩,
  ⟨some 19, none, .app false 1 8 false (.tmp 16) (.tmp 18)⟩,
  ⟨some 5, none, .mov (.tmp 19)⟩]) .skip)))
 (.ops false [
  ⟨some 11, none, .mov (.tmp 6)⟩,
  ⟨some 12, none, .bin .add (.tmp 11) (.cst (I 1))⟩,
  ⟨some 6, none, .mov (.tmp 12)⟩])))
def keep52_0 : Option (List Nat) := some [0, 1, 5, 6]
def code52 : MF := ⟨21, [(4, none)], (.seq (.ops false [
  ⟨some 4, none, .mov (.cst .nils)⟩])
 (.seq (.ops false [
  ⟨some 7, none, .bsl 1 false (I 0) 0 []⟩,
  ⟨some 5, none, .mov (.tmp 7)⟩])
 (.seq (.seq (.ops false [
  ⟨some 6, none, .mov (.cst (I 0))⟩])
 (.block 0 (.loop keep52_0 body52_0)))
 (.seq (.ops false [
  ⟨some 20, none, .mov (.tmp 5)⟩,
  ⟨some 4, none, .mov (.tmp 20)⟩])
 .ret))))⟩
theorem comp52 : compF Cv 52 = some code52 := by kernel_rfl

def body53_0 : MC := (.seq (.seq (.ops false [
  ⟨some 9, none, .mov (.tmp 6)⟩,
  ⟨some 10, none, .fad (.tmp 2) 5⟩,
  ⟨some 11, none, .load none (.tmp 10)⟩,
  ⟨some 12, none, .len (.tmp 11)⟩,
  ⟨some 13, none, .bin .lss (.tmp 9) (.tmp 12)⟩])
 (.cond (.tmp 13) .skip (.exit 0)))
 (.seq (.block 1 (.seq (.ops false [
  ⟨some 16, none, .mov (.tmp 1)⟩,
  ⟨some 17, none, .mov (.tmp 6)⟩,
  ⟨some 18, none, .call (.cst (.fn (.func 42) [] [])) [(.tmp 16), (.tmp 17)]⟩,
  ⟨some 19, none, .bin .lss (.tmp 18) (.cst (I 0))⟩])
 (.cond (.tmp 19) (.ops false [
  ⟨some 20, none, .fad (.tmp 5) 5⟩,
  ⟨some 21, none, .load none (.tmp 20)⟩,
  ⟨some 22, none, .fad (.tmp 2) 5⟩,
  ⟨some 23, none, .load none (.tmp 22)⟩,
  ⟨some 24, none, .mov (.tmp 6)⟩,
  ⟨some 25, none, .ixs 2 (.tmp 23) (.tmp 24)⟩,
  ⟨some 26, none, .load (some 2) (.tmp 25)⟩,
  ⟨some 27, none, .bsl 2 true (.agg [(I 0), .nils]) 1 [(0, (.tmp 26))]⟩,
  ⟨some 28, none, .app false 2 32 true (.tmp 21) (.tmp 27)⟩,
  ⟨some 29, none, .fad (.tmp 5) 5⟩,
  ⟨none, none, .store 1 (.tmp 29) (.tmp 28)⟩]) .skip)))
 (.ops false [
  ⟨some 14, none, .mov (.tmp 6)⟩,
  ⟨some 15, none, .bin .add (.tmp 14) (.cst (I 1))⟩,
  ⟨some 6, none, .mov (.tmp 15)⟩])))
def keep53_0 : Option (List Nat) := some [1, 2, 4, 5, 6]
def code53 : MF := ⟨31, [(4, some (some 6))], (.seq (.ops false [
  ⟨some 2, none, .box (.tmp 0)⟩,
  ⟨some 4, none, .alloc [(I 0), .nils, (I 0), (I 0), (I 0), .nils]⟩])
 (.seq (.ops false [
  ⟨some 7, none, .load (some 6) (.tmp 2)⟩,
  ⟨some 5, none, .alloc [(I 0), .nils, (I 0), (I 0), (I 0), .nils]⟩,
  ⟨none, none, .store 6 (.tmp 5) (.tmp 7)⟩])
 (.seq (.ops false [
  ⟨some 8, none, .fad (.tmp 5) 5⟩,
  ⟨none, none, .store 1 (.tmp 8) (.cst .nils)⟩])
 (.seq (.seq (.ops false [
  ⟨some 6, none, .mov (.cst (I 0))⟩])
 (.block 0 (.loop keep53_0 body53_0)))
 (.seq (.ops false [
  ⟨some 30, none, .load (some 6) (.tmp 5)⟩,
  ⟨none, none, .store 6 (.tmp 4) (.tmp 30)⟩])
 .ret)))))⟩
theorem comp53 : compF Cv 53 = some code53 := by kernel_rfl

def code54 : MF := ⟨22, [(4, none)], (.seq (.ops false [
  ⟨some 4, none, .mov (.cst (.bool false))⟩])
 (.seq (.ops false [
  ⟨some 5, none, .mov (.tmp 0)⟩,
  ⟨some 6, none, .len (.tmp 5)⟩,
  ⟨some 7, none, .mov (.tmp 1)⟩,
  ⟨some 8, none, .len (.tmp 7)⟩,
  ⟨some 9, none, .bin .lss (.tmp 6) (.tmp 8)⟩,
  ⟨some 10, none, .mov (.tmp 9)⟩,
  ⟨some 11, some ((some 10), false), .mov (.tmp 0)⟩,
  ⟨some 12, some ((some 10), false), .len (.tmp 11)⟩,
  ⟨some 13, some ((some 10), false), .mov (.tmp 1)⟩,
  ⟨some 14, some ((some 10), false), .len (.tmp 13)⟩,
  ⟨some 15, some ((some 10), false), .bin .eql (.tmp 12) (.tmp 14)⟩,
  ⟨some 16, some ((some 10), false), .mov (.tmp 15)⟩,
  ⟨some 17, some ((some 16), true), .mov (.tmp 0)⟩,
  ⟨some 18, some ((some 16), true), .mov (.tmp 1)⟩,
  ⟨some 19, some ((some 16), true), .call (.cst (.fn (.func 50) [] [])) [(.tmp 17), (.tmp 18)]⟩,
  ⟨some 20, some ((some 10), false), .pick (.tmp 16) (.tmp 19) (.cst (.bool false))⟩,
  ⟨some 21, none, .pick (.tmp 10) (.cst (.bool true)) (.tmp 20)⟩,
  ⟨some 4, none, .mov (.tmp 21)⟩])
 .ret))⟩
theorem comp54 : compF Cv 54 = some code54 := by kernel_rfl

def code55 : MF := ⟨2, [(0, some (some 6))], (.seq (.ops false [
  ⟨some 0, none, .alloc [(I 0), .nils, (I 0), (I 0), (I 0), .nils]⟩])
 (.seq (.ops false [
  ⟨some 1, none, .call (.cst (.fn (.func 56) [] [])) [(.cst .nils)]⟩,
  ⟨none, none, .store 6 (.tmp 0) (.tmp 1)⟩])
 .ret))⟩
theorem comp55 : compF Cv 55 = some code55 := by kernel_rfl

def code56 : MF := ⟨12, [(2, some (some 6))], (.seq (.ops false [
  ⟨some 2, none, .alloc [(I 0), .nils, (I 0), (I 0), (I 0), .nils]⟩])
 (.seq (.ops false [
  ⟨some 3, none, .call (.cst (.fn (.func 57) [] [])) [(.cst (I 0)), (.cst (I 2))]⟩,
  ⟨some 4, none, .call (.cst (.fn (.func 57) [] [])) [(.cst (I 3)), (.cst (I 5))]⟩,
  ⟨some 5, none, .bsl 2 true (.agg [(I 0), (I 0)]) 2 [(0, (.tmp 3)), (1, (.tmp 4))]⟩,
  ⟨some 6, none, .bsl 1 false (I 0) 3 [(0, (.cst (I 0))), (1, (.cst (I 1))), (2, (.cst (I 2)))]⟩,
  ⟨some 7, none, .call (.cst (.fn (.func 46) [] [])) [(.cst (I 0)), (.tmp 6)]⟩,
  ⟨some 8, none, .bsl 2 true (.agg [(I 0), .nils]) 1 [(0, (.tmp 7))]⟩,
  ⟨some 9, none, .mov (.tmp 0)⟩,
  ⟨some 10, none, .app false 2 32 true (.tmp 8) (.tmp 9)⟩,
  ⟨some 11, none, .bld [(I 0), .nils, (I 0), (I 0), (I 0), .nils] [(0, 1, (.cst (I 3))), (1, 1, (.tmp 5)), (2, 1, (.cst (I 1))), (3, 1, (.cst (I 28))), (4, 1, (.cst (I 16))), (5, 1, (.tmp 10))]⟩,
  ⟨none, none, .store 6 (.tmp 2) (.tmp 11)⟩])
 .ret))⟩
theorem comp56 : compF Cv 56 = some code56 := by kernel_rfl

def code57 : MF := ⟨8, [(4, some (some 2))], (.seq (.ops false [
  ⟨some 4, none, .alloc [(I 0), (I 0)]⟩])
 (.seq (.ops false [
  ⟨some 5, none, .mov (.tmp 0)⟩,
  ⟨some 6, none, .mov (.tmp 1)⟩,
  ⟨some 7, none, .bld [(I 0), (I 0)] [(0, 1, (.tmp 5)), (1, 1, (.tmp 6))]⟩,
  ⟨none, none, .store 2 (.tmp 4) (.tmp 7)⟩])
 .ret))⟩
theorem comp57 : compF Cv 57 = some code57 := by kernel_rfl

def code58 : MF := ⟨6, [(2, some (some 2))], (.seq (.ops false [
  ⟨some 2, none, .alloc [(I 0), (I 0)]⟩])
 (.seq (.ops false [
  ⟨some 3, none, .mov (.tmp 0)⟩,
  ⟨some 4, none, .mov (.tmp 0)⟩,
  ⟨some 5, none, .bld [(I 0), (I 0)] [(0, 1, (.tmp 3)), (1, 1, (.tmp 4))]⟩,
  ⟨none, none, .store 2 (.tmp 2) (.tmp 5)⟩])
 .ret))⟩
theorem comp58 : compF Cv 58 = some code58 := by kernel_rfl

def code59 : MF := ⟨7, [(0, some (some 6))], (.seq (.ops false [
  ⟨some 0, none, .alloc [(I 0), .nils, (I 0), (I 0), (I 0), .nils]⟩])
 (.seq (.ops false [
  ⟨some 1, none, .bsl 1 false (I 0) 3 [(0, (.cst (I 4))), (1, (.cst (I 5))), (2, (.cst (I 5)))]⟩,
  ⟨some 2, none, .call (.cst (.fn (.func 46) [] [])) [(.cst (I 1)), (.tmp 1)]⟩,
  ⟨some 3, none, .bsl 1 false (I 0) 3 [(0, (.cst (I 0))), (1, (.cst (I 1))), (2, (.cst (I 2)))]⟩,
  ⟨some 4, none, .call (.cst (.fn (.func 46) [] [])) [(.cst (I 0)), (.tmp 3)]⟩,
  ⟨some 5, none, .bsl 2 true (.agg [(I 0), .nils]) 2 [(0, (.tmp 2)), (1, (.tmp 4))]⟩,
  ⟨some 6, none, .call (.cst (.fn (.func 56) [] [])) [(.tmp 5)]⟩,
  ⟨none, none, .store 6 (.tmp 0) (.tmp 6)⟩])
 .ret))⟩
theorem comp59 : compF Cv 59 = some code59 := by kernel_rfl

def code60 : MF := ⟨5, [(0, some (some 6))], (.seq (.ops false [
  ⟨some 0, none, .alloc [(I 0), .nils, (I 0), (I 0), (I 0), .nils]⟩])
 (.seq (.ops false [
  ⟨some 1, none, .bsl 1 false (I 0) 3 [(0, (.cst (I 3))), (1, (.cst (I 3))), (2, (.cst (I 4)))]⟩,
  ⟨some 2, none, .call (.cst (.fn (.func 46) [] [])) [(.cst (I 1)), (.tmp 1)]⟩,
  ⟨some 3, none, .bsl 2 true (.agg [(I 0), .nils]) 1 [(0, (.tmp 2))]⟩,
  ⟨some 4, none, .call (.cst (.fn (.func 56) [] [])) [(.tmp 3)]⟩,
  ⟨none, none, .store 6 (.tmp 0) (.tmp 4)⟩])
 .ret))⟩
theorem comp60 : compF Cv 60 = some code60 := by kernel_rfl

def code61 : MF := ⟨15, [(6, none)], (.seq (.ops false [
  ⟨some 6, none, .mov (.cst (.bool false))⟩])
 (.seq (.ops false [
  ⟨some 7, none, .mov (.tmp 1)⟩,
  ⟨some 8, none, .mov (.tmp 0)⟩,
  ⟨some 9, none, .bin .leq (.tmp 7) (.tmp 8)⟩,
  ⟨some 10, none, .mov (.tmp 9)⟩,
  ⟨some 11, some ((some 10), true), .mov (.tmp 0)⟩,
  ⟨some 12, some ((some 10), true), .mov (.tmp 2)⟩,
  ⟨some 13, some ((some 10), true), .bin .leq (.tmp 11) (.tmp 12)⟩,
  ⟨some 14, none, .pick (.tmp 10) (.tmp 13) (.cst (.bool false))⟩,
  ⟨some 6, none, .mov (.tmp 14)⟩])
 .ret))⟩
theorem comp61 : compF Cv 61 = some code61 := by kernel_rfl

def code62 : MF := ⟨26, [(4, none)], (.seq (.ops false [
  ⟨some 2, none, .box (.tmp 0)⟩,
  ⟨some 3, none, .box (.tmp 1)⟩,
  ⟨some 4, none, .mov (.cst (.bool false))⟩])
 (.seq (.ops false [
  ⟨some 5, none, .fad (.tmp 3) 0⟩,
  ⟨some 6, none, .load none (.tmp 5)⟩,
  ⟨some 7, none, .fad (.tmp 2) 1⟩,
  ⟨some 8, none, .load none (.tmp 7)⟩,
  ⟨some 9, none, .len (.tmp 8)⟩,
  ⟨some 10, none, .bin .sub (.tmp 9) (.cst (I 1))⟩,
  ⟨some 11, none, .call (.cst (.fn (.func 61) [] [])) [(.tmp 6), (.cst (I 0)), (.tmp 10)]⟩,
  ⟨some 12, none, .mov (.tmp 11)⟩,
  ⟨some 13, some ((some 12), true), .fad (.tmp 3) 1⟩,
  ⟨some 14, some ((some 12), true), .load none (.tmp 13)⟩,
  ⟨some 15, some ((some 12), true), .len (.tmp 14)⟩,
  ⟨some 16, some ((some 12), true), .fad (.tmp 2) 0⟩,
  ⟨some 17, some ((some 12), true), .load none (.tmp 16)⟩,
  ⟨some 18, some ((some 12), true), .bin .eql (.tmp 15) (.tmp 17)⟩,
  ⟨some 19, none, .pick (.tmp 12) (.tmp 18) (.cst (.bool false))⟩,
  ⟨some 20, none, .mov (.tmp 19)⟩,
  ⟨some 21, some ((some 20), true), .fad (.tmp 3) 1⟩,
  ⟨some 22, some ((some 20), true), .load none (.tmp 21)⟩,
  ⟨some 23, some ((some 20), true), .call (.cst (.fn (.func 88) [] [])) [(.tmp 22), (.cst (.fn (.func 89) [] []))]⟩,
  ⟨some 24, some ((some 20), true), .lnot (.tmp 23)⟩,
  ⟨some 25, none, .pick (.tmp 20) (.tmp 24) (.cst (.bool false))⟩,
  ⟨some 4, none, .mov (.tmp 25)⟩])
 .ret))⟩
theorem comp62 : compF Cv 62 = some code62 := by kernel_rfl

def code63 : MF := ⟨35, [(8, none)], (.seq (.ops false [
  ⟨some 4, none, .box (.tmp 0)⟩,
  ⟨some 8, none, .mov (.cst (.bool false))⟩])
 (.seq (.ops false [
  ⟨some 9, none, .mov (.tmp 1)⟩,
  ⟨some 10, none, .fad (.tmp 4) 0⟩,
  ⟨some 11, none, .load none (.tmp 10)⟩,
  ⟨some 12, none, .bin .leq (.tmp 9) (.tmp 11)⟩,
  ⟨some 13, none, .mov (.tmp 12)⟩,
  ⟨some 14, some ((some 13), true), .fad (.tmp 4) 0⟩,
  ⟨some 15, some ((some 13), true), .load none (.tmp 14)⟩,
  ⟨some 16, some ((some 13), true), .fad (.tmp 4) 1⟩,
  ⟨some 17, some ((some 13), true), .load none (.tmp 16)⟩,
  ⟨some 18, some ((some 13), true), .bin .leq (.tmp 15) (.tmp 17)⟩,
  ⟨some 19, none, .pick (.tmp 13) (.tmp 18) (.cst (.bool false))⟩,
  ⟨some 20, none, .mov (.tmp 19)⟩,
  ⟨some 21, some ((some 20), true), .fad (.tmp 4) 1⟩,
  ⟨some 22, some ((some 20), true), .load none (.tmp 21)⟩,
  ⟨some 23, some ((some 20), true), .mov (.tmp 2)⟩,
  ⟨some 24, some ((some 20), true), .bin .leq (.tmp 22) (.tmp 23)⟩,
  ⟨some 25, none, .pick (.tmp 20) (.tmp 24) (.cst (.bool false))⟩,
  ⟨some 26, none, .mov (.tmp 25)⟩,
  ⟨some 27, some ((some 26), true), .fad (.tmp 4) 1⟩,
  ⟨some 28, some ((some 26), true), .load none (.tmp 27)⟩,
  ⟨some 29, some ((some 26), true), .fad (.tmp 4) 0⟩,
  ⟨some 30, some ((some 26), true), .load none (.tmp 29)⟩,
  ⟨some 31, some ((some 26), true), .bin .sub (.tmp 28) (.tmp 30)⟩,
  ⟨some 32, some ((some 26), true), .mov (.tmp 3)⟩,
  ⟨some 33, some ((some 26), true), .bin .leq (.tmp 31) (.tmp 32)⟩,
  ⟨some 34, none, .pick (.tmp 26) (.tmp 33) (.cst (.bool false))⟩,
  ⟨some 8, none, .mov (.tmp 34)⟩])
 .ret))⟩
theorem comp63 : compF Cv 63 = some code63 := by kernel_rfl

def body64_0 : MC := (.seq (.seq (.ops false [
  ⟨some 19, none, .mov (.tmp 5)⟩,
  ⟨some 20, none, .mov (.tmp 19)⟩,
  ⟨some 21, some ((some 20), true), .mov (.tmp 6)⟩,
  ⟨some 22, some ((some 20), true), .fad (.tmp 3) 1⟩,
  ⟨some 23, some ((some 20), true), .load none (.tmp 22)⟩,
  ⟨some 24, some ((some 20), true), .len (.tmp 23)⟩,
  ⟨some 25, some ((some 20), true), .bin .lss (.tmp 21) (.tmp 24)⟩,
  ⟨some 26, none, .pick (.tmp 20) (.tmp 25) (.cst (.bool false))⟩])
 (.cond (.tmp 26) .skip (.exit 0)))
 (.seq (.block 1 (.ops false [
  ⟨some 29, none, .fad (.tmp 3) 1⟩,
  ⟨some 30, none, .load none (.tmp 29)⟩,
  ⟨some 31, none, .mov (.tmp 6)⟩,
  ⟨some 32, none, .ixs 1 (.tmp 30) (.tmp 31)⟩,
  ⟨some 33, none, .load none (.tmp 32)⟩,
  ⟨some 34, none, .call (.cst (.fn (.func 49) [] [])) [(.tmp 33), (.cst (I 0)), (.cst (I 12))]⟩,
  ⟨some 5, none, .mov (.tmp 34)⟩]))
 (.ops false [
  ⟨some 27, none, .mov (.tmp 6)⟩,
  ⟨some 28, none, .bin .add (.tmp 27) (.cst (I 1))⟩,
  ⟨some 6, none, .mov (.tmp 28)⟩])))
def keep64_0 : Option (List Nat) := some [3, 5, 6]
def code64 : MF := ⟨36, [(4, none)], (.seq (.ops false [
  ⟨some 2, none, .box (.tmp 0)⟩,
  ⟨some 3, none, .box (.tmp 1)⟩,
  ⟨some 4, none, .mov (.cst (.bool false))⟩])
 (.seq (.ops false [
  ⟨some 7, none, .load (some 6) (.tmp 2)⟩,
  ⟨some 8, none, .fad (.tmp 3) 0⟩,
  ⟨some 9, none, .load none (.tmp 8)⟩,
  ⟨some 10, none, .call (.cst (.fn (.func 71) [] [])) [(.tmp 7), (.tmp 9)]⟩,
  ⟨some 11, none, .mov (.tmp 10)⟩,
  ⟨some 12, some ((some 11), true), .fad (.tmp 3) 1⟩,
  ⟨some 13, some ((some 11), true), .load none (.tmp 12)⟩,
  ⟨some 14, some ((some 11), true), .len (.tmp 13)⟩,
  ⟨some 15, some ((some 11), true), .fad (.tmp 2) 0⟩,
  ⟨some 16, some ((some 11), true), .load none (.tmp 15)⟩,
  ⟨some 17, some ((some 11), true), .bin .eql (.tmp 14) (.tmp 16)⟩,
  ⟨some 18, none, .pick (.tmp 11) (.tmp 17) (.cst (.bool false))⟩,
  ⟨some 5, none, .mov (.tmp 18)⟩])
 (.seq (.seq (.ops false [
  ⟨some 6, none, .mov (.cst (I 0))⟩])
 (.block 0 (.loop keep64_0 body64_0)))
 (.seq (.ops false [
  ⟨some 35, none, .mov (.tmp 5)⟩,
  ⟨some 4, none, .mov (.tmp 35)⟩])
 .ret))))⟩
theorem comp64 : compF Cv 64 = some code64 := by kernel_rfl

def body65_0 : MC := (.seq (.ops false [
  ⟨some 35, none, .bin .lss (.tmp 34) (.tmp 33)⟩])
 (.seq (.cond (.tmp 35) .skip (.exit 2))
 (.seq (.block 3 (.seq (.ops false [
  ⟨some 36, none, .mov (.tmp 34)⟩,
  ⟨some 37, none, .ixs 1 (.tmp 32) (.tmp 34)⟩,
  ⟨some 38, none, .load none (.tmp 37)⟩,
  ⟨some 8, none, .mov (.tmp 36)⟩,
  ⟨some 9, none, .mov (.tmp 38)⟩])
 (.seq (.ops false [
  ⟨some 39, none, .fad (.tmp 7) 0⟩,
  ⟨some 40, none, .load none (.tmp 39)⟩,
  ⟨some 41, none, .mov (.tmp 8)⟩,
  ⟨some 42, none, .bld [(I 0), (I 0)] [(0, 1, (.tmp 40)), (1, 1, (.tmp 41))]⟩,
  ⟨some 10, none, .alloc [(I 0), (I 0)]⟩,
  ⟨none, none, .store 2 (.tmp 10) (.tmp 42)⟩])
 (.seq (.seq (.ops false [
  ⟨some 44, none, .fad (.tmp 5) 6⟩,
  ⟨some 45, none, .load none (.tmp 44)⟩,
  ⟨some 46, none, .load (some 2) (.tmp 10)⟩,
  ⟨some 47, none, .lkp (some 2) (I 0) (.tmp 45) (.tmp 46) true⟩,
  ⟨some 43, none, .mov (.tmp 47)⟩,
  ⟨some 48, none, .ext (.tmp 43) 0⟩,
  ⟨some 49, none, .ext (.tmp 43) 1⟩,
  ⟨some 11, none, .mov (.tmp 48)⟩,
  ⟨some 12, none, .mov (.tmp 49)⟩])
 (.seq (.ops false [
  ⟨some 50, none, .mov (.tmp 12)⟩,
  ⟨some 51, none, .mov (.tmp 50)⟩,
  ⟨some 52, some ((some 51), true), .mov (.tmp 11)⟩,
  ⟨some 53, some ((some 51), true), .mov (.tmp 9)⟩,
  ⟨some 54, some ((some 51), true), .bin .neq (.tmp 52) (.tmp 53)⟩,
  ⟨some 55, none, .pick (.tmp 51) (.tmp 54) (.cst (.bool false))⟩])
 (.cond (.tmp 55) (.ops false [
  ⟨some 9, none, .mov (.cst (I (-1)))⟩]) .skip)))
 (.ops false [
  ⟨some 56, none, .fad (.tmp 5) 6⟩,
  ⟨some 57, none, .load none (.tmp 56)⟩,
  ⟨some 58, none, .load (some 2) (.tmp 10)⟩,
  ⟨some 59, none, .mov (.tmp 9)⟩,
  ⟨none, none, .mput (some 2) (.tmp 57) (.tmp 58) (.tmp 59)⟩])))))
 (.ops false [
  ⟨some 60, none, .bin .add (.tmp 34) (.cst (I 1))⟩,
  ⟨some 34, none, .mov (.tmp 60)⟩]))))
def keep65_0 : Option (List Nat) := some [3, 4, 5, 7, 20, 21, 22, 32, 33, 34]
def body65_1 : MC := (.seq (.ops false [
  ⟨some 23, none, .bin .lss (.tmp 22) (.tmp 21)⟩])
 (.seq (.cond (.tmp 23) .skip (.exit 0))
 (.seq (.block 1 (.seq (.ops false [
  ⟨some 24, none, .mov (.tmp 22)⟩,
  ⟨some 25, none, .ixs 2 (.tmp 20) (.tmp 22)⟩,
  ⟨some 26, none, .load (some 2) (.tmp 25)⟩,
  ⟨some 7, none, .alloc [(I 0), .nils]⟩,
  ⟨some 6, none, .mov (.tmp 24)⟩,
  ⟨none, none, .store 2 (.tmp 7) (.tmp 26)⟩])
 (.seq (.seq (.ops false [
  ⟨some 27, none, .fad (.tmp 3) 0⟩,
  ⟨some 28, none, .load none (.tmp 27)⟩,
  ⟨some 29, none, .mov (.tmp 6)⟩,
  ⟨some 30, none, .call (.tmp 28) [(.tmp 29)]⟩])
 (.cond (.tmp 30) (.exit 1) .skip))
 (.seq (.ops false [
  ⟨some 31, none, .fad (.tmp 7) 1⟩,
  ⟨some 32, none, .load none (.tmp 31)⟩,
  ⟨some 33, none, .len (.tmp 32)⟩,
  ⟨some 34, none, .mov (.cst (I 0))⟩])
 (.block 2 (.loop keep65_0 body65_0))))))
 (.ops false [
  ⟨some 61, none, .bin .add (.tmp 22) (.cst (I 1))⟩,
  ⟨some 22, none, .mov (.tmp 61)⟩]))))
def keep65_1 : Option (List Nat) := some [3, 4, 5, 20, 21, 22]
def asg65_2 : MC := (.ops false [
  ⟨some 13, none, .alloc [(I 0), (I 0), (I 0), (I 0), (I 0), (I 0), (I 0), (I 0), (I 0)]⟩,
  ⟨none, none, .store 9 (.tmp 13) (.tmp 64)⟩])
def body65_2 : MC := (.block 5 (.ops false [
  ⟨some 65, none, .fad (.tmp 5) 7⟩,
  ⟨some 66, none, .load none (.tmp 65)⟩,
  ⟨some 67, none, .load (some 9) (.tmp 13)⟩,
  ⟨some 68, none, .bsl 9 true (.agg [(I 0), (I 0), (I 0), (I 0), (I 0), (I 0), (I 0), (I 0), (I 0)]) 1 [(0, (.tmp 67))]⟩,
  ⟨some 69, none, .app false 9 72 true (.tmp 66) (.tmp 68)⟩,
  ⟨some 70, none, .fad (.tmp 5) 7⟩,
  ⟨none, none, .store 1 (.tmp 70) (.tmp 69)⟩]))
def code65 : MF := ⟨72, [(4, some (some 8))], (.seq (.ops false [
  ⟨some 2, none, .box (.tmp 0)⟩,
  ⟨some 3, none, .box (.tmp 1)⟩,
  ⟨some 4, none, .alloc [(I 0), .nils, (I 0), (I 0), (I 0), .nils, .nilm, .nils]⟩])
 (.seq (.ops true [
  ⟨some 5, none, .mov (.cst .any)⟩,
  ⟨some 14, none, .load (some 6) (.tmp 2)⟩,
  ⟨some 15, none, .mkm⟩,
  ⟨some 16, none, .load (some 2) (.cst (.rp [(I (-1)), (I (-1))] 0))⟩,
  ⟨none, none, .mput (some 2) (.tmp 15) (.tmp 16) (.cst (I (-1)))⟩,
  ⟨some 17, none, .mov (.tmp 15)⟩,
  ⟨some 18, none, .bld [(I 0), .nils, (I 0), (I 0), (I 0), .nils, .nilm, .nils] [(0, 6, (.tmp 14)), (6, 1, (.tmp 17))]⟩,
  ⟨some 5, none, .alloc [(I 0), .nils, (I 0), (I 0), (I 0), .nils, .nilm, .nils]⟩,
  ⟨none, none, .store 8 (.tmp 5) (.tmp 18)⟩])
 (.seq (.seq (.ops false [
  ⟨some 19, none, .fad (.tmp 2) 5⟩,
  ⟨some 20, none, .load none (.tmp 19)⟩,
  ⟨some 21, none, .len (.tmp 20)⟩,
  ⟨some 22, none, .mov (.cst (I 0))⟩])
 (.block 0 (.loop keep65_1 body65_1)))
 (.seq (.seq (.ops false [
  ⟨some 62, none, .load (some 8) (.tmp 5)⟩,
  ⟨some 63, none, .call (.cst (.fn (.func 90) [] [])) [(.tmp 62)]⟩])
 (.block 4 (.range (.tmp 63) [64] asg65_2 body65_2)))
 (.seq (.ops false [
  ⟨some 71, none, .load (some 8) (.tmp 5)⟩,
  ⟨none, none, .store 8 (.tmp 4) (.tmp 71)⟩])
 .ret)))))⟩
theorem comp65 : compF Cv 65 = some code65 := by kernel_rfl

def code66 : MF := ⟨2, [(0, some (some 1))], (.seq (.ops false [
  ⟨some 0, none, .alloc [.nilf]⟩])
 (.seq (.ops false [
  ⟨some 1, none, .bld [.nilf] [(0, 1, (.cst (.fn (.func 91) [] [])))]⟩,
  ⟨none, none, .store 1 (.tmp 0) (.tmp 1)⟩])
 .ret))⟩
theorem comp66 : compF Cv 66 = some code66 := by kernel_rfl

def body67_0 : MC := (.seq (.seq (.ops false [
  ⟨some 23, none, .mov (.tmp 10)⟩,
  ⟨some 24, none, .mov (.tmp 9)⟩,
  ⟨some 25, none, .len (.tmp 24)⟩,
  ⟨some 26, none, .bin .lss (.tmp 23) (.tmp 25)⟩])
 (.cond (.tmp 26) .skip (.exit 0)))
 (.seq (.block 1 (.seq (.ops false [
  ⟨some 29, none, .load (some 6) (.tmp 3)⟩,
  ⟨some 30, none, .mov (.tmp 7)⟩,
  ⟨some 31, none, .mov (.tmp 9)⟩,
  ⟨some 32, none, .mov (.tmp 10)⟩,
  ⟨some 33, none, .ixs 1 (.tmp 31) (.tmp 32)⟩,
  ⟨some 34, none, .load none (.tmp 33)⟩,
  ⟨some 35, none, .mov (.tmp 1)⟩,
  ⟨some 36, none, .call (.cst (.fn (.func 93) [] [])) [(.tmp 29), (.tmp 30), (.tmp 34), (.tmp 35)]⟩,
  ⟨some 37, none, .mov (.tmp 36)⟩,
  ⟨some 38, some ((some 37), true), .mov (.tmp 7)⟩,
  ⟨some 39, some ((some 37), true), .bin .eql (.tmp 38) (.cst (I 0))⟩,
  ⟨some 40, some ((some 37), true), .mov (.tmp 39)⟩,
  ⟨some 41, some ((some 40), false), .load (some 6) (.tmp 3)⟩,
  ⟨some 42, some ((some 40), false), .mov (.tmp 2)⟩,
  ⟨some 43, some ((some 40), false), .mov (.tmp 7)⟩,
  ⟨some 44, some ((some 40), false), .bin .sub (.tmp 43) (.cst (I 1))⟩,
  ⟨some 45, some ((some 40), false), .ixs 1 (.tmp 42) (.tmp 44)⟩,
  ⟨some 46, some ((some 40), false), .load none (.tmp 45)⟩,
  ⟨some 47, some ((some 40), false), .mov (.tmp 9)⟩,
  ⟨some 48, some ((some 40), false), .mov (.tmp 10)⟩,
  ⟨some 49, some ((some 40), false), .ixs 1 (.tmp 47) (.tmp 48)⟩,
  ⟨some 50, some ((some 40), false), .load none (.tmp 49)⟩,
  ⟨some 51, some ((some 40), false), .call (.cst (.fn (.func 94) [] [])) [(.tmp 41), (.tmp 46), (.tmp 50)]⟩,
  ⟨some 52, some ((some 37), true), .pick (.tmp 40) (.cst (.bool true)) (.tmp 51)⟩,
  ⟨some 53, none, .pick (.tmp 37) (.tmp 52) (.cst (.bool false))⟩])
 (.cond (.tmp 53) (.ops false [
  ⟨some 54, none, .mov (.tmp 8)⟩,
  ⟨some 55, none, .load (some 6) (.tmp 3)⟩,
  ⟨some 56, none, .mov (.tmp 1)⟩,
  ⟨some 57, none, .bsl 1 false .nils 0 []⟩,
  ⟨some 58, none, .mov (.tmp 2)⟩,
  ⟨some 59, none, .app false 1 24 false (.tmp 57) (.tmp 58)⟩,
  ⟨some 60, none, .mov (.tmp 9)⟩,
  ⟨some 61, none, .mov (.tmp 10)⟩,
  ⟨some 62, none, .ixs 1 (.tmp 60) (.tmp 61)⟩,
  ⟨some 63, none, .load none (.tmp 62)⟩,
  ⟨some 64, none, .bsl 1 false .nils 1 [(0, (.tmp 63))]⟩,
  ⟨some 65, none, .app false 1 24 false (.tmp 59) (.tmp 64)⟩,
  ⟨some 66, none, .call (.cst (.fn (.func 67) [] [])) [(.tmp 55), (.tmp 56), (.tmp 65)]⟩,
  ⟨some 67, none, .app false 1 24 false (.tmp 54) (.tmp 66)⟩,
  ⟨some 8, none, .mov (.tmp 67)⟩]) .skip)))
 (.ops false [
  ⟨some 27, none, .mov (.tmp 10)⟩,
  ⟨some 28, none, .bin .add (.tmp 27) (.cst (I 1))⟩,
  ⟨some 10, none, .mov (.tmp 28)⟩])))
def keep67_0 : Option (List Nat) := some [1, 2, 3, 7, 8, 9, 10]
def code67 : MF := ⟨69, [(6, none)], (.seq (.ops false [
  ⟨some 3, none, .box (.tmp 0)⟩,
  ⟨some 6, none, .mov (.cst .nils)⟩])
 (.seq (.ops false [
  ⟨some 11, none, .mov (.tmp 2)⟩,
  ⟨some 12, none, .len (.tmp 11)⟩,
  ⟨some 7, none, .mov (.tmp 12)⟩])
 (.seq (.seq (.ops false [
  ⟨some 13, none, .mov (.tmp 7)⟩,
  ⟨some 14, none, .fad (.tmp 3) 1⟩,
  ⟨some 15, none, .load none (.tmp 14)⟩,
  ⟨some 16, none, .len (.tmp 15)⟩,
  ⟨some 17, none, .bin .eql (.tmp 13) (.tmp 16)⟩])
 (.cond (.tmp 17) (.seq (.ops false [
  ⟨some 18, none, .mov (.tmp 2)⟩,
  ⟨some 19, none, .bsl 1 false .nils 1 [(0, (.tmp 18))]⟩,
  ⟨some 6, none, .mov (.tmp 19)⟩])
 .ret) .skip))
 (.seq (.ops false [
  ⟨some 8, none, .mov (.cst .nils)⟩])
 (.seq (.ops false [
  ⟨some 20, none, .load (some 6) (.tmp 3)⟩,
  ⟨some 21, none, .mov (.tmp 7)⟩,
  ⟨some 22, none, .call (.cst (.fn (.func 92) [] [])) [(.tmp 20), (.tmp 21), (.cst .nils)]⟩,
  ⟨some 9, none, .mov (.tmp 22)⟩])
 (.seq (.seq (.ops false [
  ⟨some 10, none, .mov (.cst (I 0))⟩])
 (.block 0 (.loop keep67_0 body67_0)))
 (.seq (.ops false [
  ⟨some 68, none, .mov (.tmp 8)⟩,
  ⟨some 6, none, .mov (.tmp 68)⟩])
 .ret)))))))⟩
theorem comp67 : compF Cv 67 = some code67 := by kernel_rfl

def code68 : MF := ⟨26, [(4, some (some 8)), (5, none)], (.seq (.ops false [
  ⟨some 2, none, .box (.tmp 0)⟩,
  ⟨some 4, none, .alloc [(I 0), .nils, (I 0), (I 0), (I 0), .nils, .nilm, .nils]⟩,
  ⟨some 5, none, .mov (.cst (I 0))⟩])
 (.seq (.seq (.ops false [
  ⟨some 8, none, .load (some 6) (.tmp 2)⟩,
  ⟨some 9, none, .call (.cst (.fn (.func 17) [] [])) [(.tmp 8)]⟩,
  ⟨some 6, none, .mov (.tmp 9)⟩])
 (.seq (.ops false [
  ⟨some 10, none, .mov (.tmp 6)⟩,
  ⟨some 11, none, .bin .neq (.tmp 10) (.cst (I 0))⟩])
 (.cond (.tmp 11) (.seq (.ops false [
  ⟨some 12, none, .bld [(I 0), .nils, (I 0), (I 0), (I 0), .nils, .nilm, .nils] []⟩,
  ⟨some 13, none, .mov (.tmp 6)⟩,
  ⟨none, none, .store 8 (.tmp 4) (.tmp 12)⟩,
  ⟨some 5, none, .mov (.tmp 13)⟩])
 .ret) .skip)))
 (.seq (.seq (.ops false [
  ⟨some 14, none, .mov (.tmp 1)⟩,
  ⟨some 15, none, .lnot (.tmp 14)⟩])
 (.cond (.tmp 15) (.seq (.ops false [
  ⟨some 16, none, .bld [(I 0), .nils, (I 0), (I 0), (I 0), .nils, .nilm, .nils] []⟩,
  ⟨none, none, .store 8 (.tmp 4) (.tmp 16)⟩,
  ⟨some 5, none, .mov (.cst (I 51))⟩])
 .ret) .skip))
 (.seq (.ops true [
  ⟨some 17, none, .load (some 6) (.tmp 2)⟩,
  ⟨some 18, none, .call (.cst (.fn (.func 66) [] [])) []⟩,
  ⟨some 19, none, .call (.cst (.fn (.func 65) [] [])) [(.tmp 17), (.tmp 18)]⟩,
  ⟨some 7, none, .alloc [(I 0), .nils, (I 0), (I 0), (I 0), .nils, .nilm, .nils]⟩,
  ⟨none, none, .store 8 (.tmp 7) (.tmp 19)⟩])
 (.seq (.seq (.ops false [
  ⟨some 20, none, .fad (.tmp 7) 7⟩,
  ⟨some 21, none, .load none (.tmp 20)⟩,
  ⟨some 22, none, .len (.tmp 21)⟩,
  ⟨some 23, none, .bin .eql (.tmp 22) (.cst (I 0))⟩])
 (.cond (.tmp 23) (.seq (.ops false [
  ⟨some 24, none, .load (some 8) (.tmp 7)⟩,
  ⟨none, none, .store 8 (.tmp 4) (.tmp 24)⟩,
  ⟨some 5, none, .mov (.cst (I 52))⟩])
 .ret) .skip))
 (.seq (.ops false [
  ⟨some 25, none, .load (some 8) (.tmp 7)⟩,
  ⟨none, none, .store 8 (.tmp 4) (.tmp 25)⟩,
  ⟨some 5, none, .mov (.cst (I 0))⟩])
 .ret))))))⟩
theorem comp68 : compF Cv 68 = some code68 := by kernel_rfl

def body69_0 : MC := (.seq (.ops false [
  ⟨some 12, none, .bin .lss (.tmp 11) (.tmp 10)⟩])
 (.seq (.cond (.tmp 12) .skip (.exit 0))
 (.seq (.block 1 (.seq (.ops false [
  ⟨some 13, none, .ixs 9 (.tmp 9) (.tmp 11)⟩,
  ⟨some 14, none, .load (some 9) (.tmp 13)⟩,
  ⟨some 7, none, .alloc [(I 0), (I 0), (I 0), (I 0), (I 0), (I 0), (I 0), (I 0), (I 0)]⟩,
  ⟨none, none, .store 9 (.tmp 7) (.tmp 14)⟩])
 (.ops false [
  ⟨some 15, none, .fad (.tmp 3) 1⟩,
  ⟨some 16, none, .load none (.tmp 15)⟩,
  ⟨some 17, none, .fad (.tmp 3) 0⟩,
  ⟨some 18, none, .load none (.tmp 17)⟩,
  ⟨some 19, none, .ixa 3 3 (.tmp 7) (.tmp 16)⟩,
  ⟨some 20, none, .ixa 3 1 (.tmp 19) (.tmp 18)⟩,
  ⟨some 21, none, .load none (.tmp 20)⟩,
  ⟨some 22, none, .ixa 13 1 (.tmp 5) (.tmp 21)⟩,
  ⟨some 23, none, .load none (.tmp 22)⟩,
  ⟨some 24, none, .bin .add (.tmp 23) (.cst (I 1))⟩,
  ⟨some 25, none, .ixa 13 1 (.tmp 5) (.tmp 21)⟩,
  ⟨none, none, .store 1 (.tmp 25) (.tmp 24)⟩])))
 (.ops false [
  ⟨some 26, none, .bin .add (.tmp 11) (.cst (I 1))⟩,
  ⟨some 11, none, .mov (.tmp 26)⟩]))))
def keep69_0 : Option (List Nat) := some [3, 4, 5, 9, 10, 11]
def code69 : MF := ⟨28, [(4, some (some 13))], (.seq (.ops false [
  ⟨some 2, none, .box (.tmp 0)⟩,
  ⟨some 3, none, .box (.tmp 1)⟩,
  ⟨some 4, none, .alloc [(I 0), (I 0), (I 0), (I 0), (I 0), (I 0), (I 0), (I 0), (I 0), (I 0), (I 0), (I 0), (I 0)]⟩])
 (.seq (.ops false [
  ⟨some 5, none, .alloc [(I 0), (I 0), (I 0), (I 0), (I 0), (I 0), (I 0), (I 0), (I 0), (I 0), (I 0), (I 0), (I 0)]⟩])
 (.seq (.seq (.ops false [
  ⟨some 8, none, .fad (.tmp 2) 7⟩,
  ⟨some 9, none, .load none (.tmp 8)⟩,
  ⟨some 10, none, .len (.tmp 9)⟩,
  ⟨some 11, none, .mov (.cst (I 0))⟩])
 (.block 0 (.loop keep69_0 body69_0)))
 (.seq (.ops false [
  ⟨some 27, none, .load (some 13) (.tmp 5)⟩,
  ⟨none, none, .store 13 (.tmp 4) (.tmp 27)⟩])
 .ret))))⟩
theorem comp69 : compF Cv 69 = some code69 := by kernel_rfl

def code70 : MF := ⟨21, [(4, none), (5, none)], (.seq (.ops false [
  ⟨some 2, none, .box (.tmp 0)⟩,
  ⟨some 4, none, .mov (.cst .nils)⟩,
  ⟨some 5, none, .mov (.cst (I 0))⟩])
 (.seq (.seq (.ops false [
  ⟨some 8, none, .load (some 6) (.tmp 2)⟩,
  ⟨some 9, none, .call (.cst (.fn (.func 18) [] [])) [(.tmp 8)]⟩,
  ⟨some 6, none, .mov (.tmp 9)⟩])
 (.seq (.ops false [
  ⟨some 10, none, .mov (.tmp 6)⟩,
  ⟨some 11, none, .bin .neq (.tmp 10) (.cst (I 0))⟩])
 (.cond (.tmp 11) (.seq (.ops false [
  ⟨some 12, none, .mov (.tmp 6)⟩,
  ⟨some 4, none, .mov (.cst .nils)⟩,
  ⟨some 5, none, .mov (.tmp 12)⟩])
 .ret) .skip)))
 (.seq (.seq (.ops false [
  ⟨some 13, none, .mov (.tmp 1)⟩,
  ⟨some 14, none, .lnot (.tmp 13)⟩])
 (.cond (.tmp 14) (.seq (.ops false [
  ⟨some 4, none, .mov (.cst .nils)⟩,
  ⟨some 5, none, .mov (.cst (I 51))⟩])
 .ret) .skip))
 (.seq (.ops false [
  ⟨some 15, none, .load (some 6) (.tmp 2)⟩,
  ⟨some 16, none, .call (.cst (.fn (.func 67) [] [])) [(.tmp 15), (.cst (I 0)), (.cst .nils)]⟩,
  ⟨some 7, none, .mov (.tmp 16)⟩])
 (.seq (.seq (.ops false [
  ⟨some 17, none, .mov (.tmp 7)⟩,
  ⟨some 18, none, .len (.tmp 17)⟩,
  ⟨some 19, none, .bin .eql (.tmp 18) (.cst (I 0))⟩])
 (.cond (.tmp 19) (.seq (.ops false [
  ⟨some 4, none, .mov (.cst .nils)⟩,
  ⟨some 5, none, .mov (.cst (I 52))⟩])
 .ret) .skip))
 (.seq (.ops false [
  ⟨some 20, none, .mov (.tmp 7)⟩,
  ⟨some 4, none, .mov (.tmp 20)⟩,
  ⟨some 5, none, .mov (.cst (I 0))⟩])
 .ret))))))⟩
theorem comp70 : compF Cv 70 = some code70 := by kernel_rfl

def code71 : MF := ⟨11, [(4, none)], (.seq (.ops false [
  ⟨some 2, none, .box (.tmp 0)⟩,
  ⟨some 4, none, .mov (.cst (.bool false))⟩])
 (.seq (.ops false [
  ⟨some 5, none, .mov (.tmp 1)⟩,
  ⟨some 6, none, .fad (.tmp 2) 1⟩,
  ⟨some 7, none, .load none (.tmp 6)⟩,
  ⟨some 8, none, .len (.tmp 7)⟩,
  ⟨some 9, none, .bin .sub (.tmp 8) (.cst (I 1))⟩,
  ⟨some 10, none, .call (.cst (.fn (.func 49) [] [])) [(.tmp 5), (.cst (I 0)), (.tmp 9)]⟩,
  ⟨some 4, none, .mov (.tmp 10)⟩])
 .ret))⟩
theorem comp71 : compF Cv 71 = some code71 := by kernel_rfl

def code72 : MF := ⟨10, [(4, none)], (.seq (.ops false [
  ⟨some 2, none, .box (.tmp 0)⟩,
  ⟨some 4, none, .mov (.cst (.bool false))⟩])
 (.seq (.ops false [
  ⟨some 5, none, .mov (.tmp 1)⟩,
  ⟨some 6, none, .fad (.tmp 2) 0⟩,
  ⟨some 7, none, .load none (.tmp 6)⟩,
  ⟨some 8, none, .bin .sub (.tmp 7) (.cst (I 1))⟩,
  ⟨some 9, none, .call (.cst (.fn (.func 49) [] [])) [(.tmp 5), (.cst (I 0)), (.tmp 8)]⟩,
  ⟨some 4, none, .mov (.tmp 9)⟩])
 .ret))⟩
theorem comp72 : compF Cv 72 = some code72 := by kernel_rfl

def body73_0 : MC := (.seq (.seq (.ops false [
  ⟨some 11, none, .mov (.tmp 10)⟩,
  ⟨some 12, none, .mov (.tmp 0)⟩,
  ⟨some 13, none, .len (.tmp 12)⟩,
  ⟨some 14, none, .bin .lss (.tmp 11) (.tmp 13)⟩])
 (.cond (.tmp 14) .skip (.exit 0)))
 (.seq (.block 1 (.seq (.ops false [
  ⟨some 17, none, .mov (.tmp 0)⟩,
  ⟨some 18, none, .mov (.tmp 10)⟩,
  ⟨some 19, none, .ixs 1 (.tmp 17) (.tmp 18)⟩,
  ⟨some 20, none, .load none (.tmp 19)⟩,
  ⟨some 21, none, .mov (.tmp 1)⟩,
  ⟨some 22, none, .ixs 1 (.tmp 20) (.tmp 21)⟩,
  ⟨some 23, none, .load none (.tmp 22)⟩,
  ⟨some 24, none, .mov (.tmp 2)⟩,
  ⟨some 25, none, .ixs 1 (.tmp 23) (.tmp 24)⟩,
  ⟨some 26, none, .load none (.tmp 25)⟩,
  ⟨some 27, none, .mov (.tmp 3)⟩,
  ⟨some 28, none, .bin .eql (.tmp 26) (.tmp 27)⟩])
 (.cond (.tmp 28) (.ops false [
  ⟨some 29, none, .mov (.tmp 9)⟩,
  ⟨some 30, none, .bin .add (.tmp 29) (.cst (I 1))⟩,
  ⟨some 9, none, .mov (.tmp 30)⟩]) .skip)))
 (.ops false [
  ⟨some 15, none, .mov (.tmp 10)⟩,
  ⟨some 16, none, .bin .add (.tmp 15) (.cst (I 1))⟩,
  ⟨some 10, none, .mov (.tmp 16)⟩])))
def keep73_0 : Option (List Nat) := some [0, 1, 2, 3, 9, 10]
def code73 : MF := ⟨32, [(8, none)], (.seq (.ops false [
  ⟨some 8, none, .mov (.cst (I 0))⟩])
 (.seq (.ops false [
  ⟨some 9, none, .mov (.cst (I 0))⟩])
 (.seq (.seq (.ops false [
  ⟨some 10, none, .mov (.cst (I 0))⟩])
 (.block 0 (.loop keep73_0 body73_0)))
 (.seq (.ops false [
  ⟨some 31, none, .mov (.tmp 9)⟩,
  ⟨some 8, none, .mov (.tmp 31)⟩])
 .ret))))⟩
theorem comp73 : compF Cv 73 = some code73 := by kernel_rfl

def body74_0 : MC := (.seq (.ops false [
  ⟨some 22, none, .bin .lss (.tmp 21) (.tmp 20)⟩])
 (.seq (.cond (.tmp 22) .skip (.exit 2))
 (.seq (.block 3 (.seq (.ops false [
  ⟨some 23, none, .mov (.tmp 21)⟩,
  ⟨some 9, none, .mov (.tmp 23)⟩])
 (.seq (.ops false [
  ⟨some 24, none, .load (some 8) (.tmp 2)⟩,
  ⟨some 25, none, .mov (.tmp 8)⟩,
  ⟨some 26, none, .mov (.tmp 9)⟩,
  ⟨some 27, none, .bld [(I 0), (I 0)] [(0, 1, (.tmp 25)), (1, 1, (.tmp 26))]⟩,
  ⟨some 28, none, .call (.cst (.fn (.func 95) [] [])) [(.tmp 24), (.tmp 27)]⟩,
  ⟨some 10, none, .mov (.tmp 28)⟩])
 (.seq (.ops false [
  ⟨some 29, none, .mov (.tmp 10)⟩,
  ⟨some 30, none, .fad (.tmp 2) 7⟩,
  ⟨some 31, none, .load none (.tmp 30)⟩,
  ⟨some 32, none, .len (.tmp 31)⟩,
  ⟨some 33, none, .bin .lss (.tmp 29) (.tmp 32)⟩,
  ⟨some 34, none, .mov (.tmp 33)⟩,
  ⟨some 35, some ((some 34), true), .mov (.tmp 6)⟩,
  ⟨some 36, some ((some 34), true), .bin .neq (.tmp 35) (.cst (I 0))⟩,
  ⟨some 37, some ((some 34), true), .mov (.tmp 36)⟩,
  ⟨some 38, some ((some 37), false), .mov (.tmp 1)⟩,
  ⟨some 39, some ((some 37), false), .mov (.tmp 10)⟩,
  ⟨some 40, some ((some 37), false), .mov (.tmp 7)⟩,
  ⟨some 41, some ((some 37), false), .call (.tmp 38) [(.tmp 39), (.tmp 40)]⟩,
  ⟨some 42, some ((some 34), true), .pick (.tmp 37) (.cst (.bool true)) (.tmp 41)⟩,
  ⟨some 43, none, .pick (.tmp 34) (.tmp 42) (.cst (.bool false))⟩])
 (.cond (.tmp 43) (.ops false [
  ⟨some 44, none, .mov (.tmp 8)⟩,
  ⟨some 45, none, .mov (.tmp 9)⟩,
  ⟨some 46, none, .mov (.tmp 10)⟩,
  ⟨some 4, none, .mov (.tmp 44)⟩,
  ⟨some 5, none, .mov (.tmp 45)⟩,
  ⟨some 7, none, .mov (.tmp 46)⟩,
  ⟨some 6, none, .mov (.cst (I 0))⟩]) .skip)))))
 (.ops false [
  ⟨some 47, none, .bin .add (.tmp 21) (.cst (I 1))⟩,
  ⟨some 21, none, .mov (.tmp 47)⟩]))))
def keep74_0 : Option (List Nat) := some [1, 2, 4, 5, 6, 7, 8, 14, 15, 20, 21]
def body74_1 : MC := (.seq (.ops false [
  ⟨some 16, none, .bin .lss (.tmp 15) (.tmp 14)⟩])
 (.seq (.cond (.tmp 16) .skip (.exit 0))
 (.seq (.block 1 (.seq (.ops false [
  ⟨some 17, none, .mov (.tmp 15)⟩,
  ⟨some 8, none, .mov (.tmp 17)⟩])
 (.seq (.ops false [
  ⟨some 18, none, .fad (.tmp 2) 0⟩,
  ⟨some 19, none, .fad (.tmp 18) 0⟩,
  ⟨some 20, none, .load none (.tmp 19)⟩,
  ⟨some 21, none, .mov (.cst (I 0))⟩])
 (.block 2 (.loop keep74_0 body74_0)))))
 (.ops false [
  ⟨some 48, none, .bin .add (.tmp 15) (.cst (I 1))⟩,
  ⟨some 15, none, .mov (.tmp 48)⟩]))))
def keep74_1 : Option (List Nat) := some [1, 2, 4, 5, 6, 7, 14, 15]
def code74 : MF := ⟨52, [(4, none), (5, none), (6, none)], (.seq (.ops false [
  ⟨some 2, none, .box (.tmp 0)⟩,
  ⟨some 4, none, .mov (.cst (I 0))⟩,
  ⟨some 5, none, .mov (.cst (I 0))⟩,
  ⟨some 6, none, .mov (.cst (I 0))⟩])
 (.seq (.ops false [
  ⟨some 6, none, .mov (.cst (I 4))⟩])
 (.seq (.ops false [
  ⟨some 7, none, .mov (.cst (I 0))⟩])
 (.seq (.seq (.ops false [
  ⟨some 11, none, .fad (.tmp 2) 0⟩,
  ⟨some 12, none, .fad (.tmp 11) 1⟩,
  ⟨some 13, none, .load none (.tmp 12)⟩,
  ⟨some 14, none, .len (.tmp 13)⟩,
  ⟨some 15, none, .mov (.cst (I 0))⟩])
 (.block 0 (.loop keep74_1 body74_1)))
 (.seq (.ops false [
  ⟨some 49, none, .mov (.tmp 4)⟩,
  ⟨some 50, none, .mov (.tmp 5)⟩,
  ⟨some 51, none, .mov (.tmp 6)⟩,
  ⟨some 4, none, .mov (.tmp 49)⟩,
  ⟨some 5, none, .mov (.tmp 50)⟩,
  ⟨some 6, none, .mov (.tmp 51)⟩])
 .ret)))))⟩
theorem comp74 : compF Cv 74 = some code74 := by kernel_rfl

def code75 : MF := ⟨5, [(4, none)], (.seq (.ops false [
  ⟨some 4, none, .mov (.cst (.bool false))⟩])
 (.seq (.ops false [
  ⟨some 4, none, .mov (.cst (.bool false))⟩])
 .ret))⟩
theorem comp75 : compF Cv 75 = some code75 := by kernel_rfl

def code76 : MF := ⟨8, [(4, none)], (.seq (.ops false [
  ⟨some 4, none, .mov (.cst (.bool false))⟩])
 (.seq (.ops false [
  ⟨some 5, none, .mov (.tmp 0)⟩,
  ⟨some 6, none, .mov (.tmp 1)⟩,
  ⟨some 7, none, .bin .lss (.tmp 5) (.tmp 6)⟩,
  ⟨some 4, none, .mov (.tmp 7)⟩])
 .ret))⟩
theorem comp76 : compF Cv 76 = some code76 := by kernel_rfl

def code77 : MF := ⟨9, [(4, none)], (.seq (.ops false [
  ⟨some 4, none, .mov (.cst (.bool false))⟩])
 (.seq (.ops false [
  ⟨some 5, none, .mov (.tmp 0)⟩,
  ⟨some 6, none, .mov (.tmp 1)⟩,
  ⟨some 7, none, .call (.cst (.fn (.func 96) [] [])) [(.tmp 5), (.tmp 6)]⟩,
  ⟨some 8, none, .bin .geq (.tmp 7) (.cst (I 0))⟩,
  ⟨some 4, none, .mov (.tmp 8)⟩])
 .ret))⟩
theorem comp77 : compF Cv 77 = some code77 := by kernel_rfl

def body78_0 : MC := (.seq (.ops false [
  ⟨some 10, none, .bin .lss (.tmp 9) (.tmp 8)⟩])
 (.seq (.cond (.tmp 10) .skip (.exit 0))
 (.seq (.block 1 (.seq (.ops false [
  ⟨some 11, none, .mov (.tmp 9)⟩,
  ⟨some 12, none, .ixs 1 (.tmp 7) (.tmp 9)⟩,
  ⟨some 13, none, .load none (.tmp 12)⟩,
  ⟨some 4, none, .mov (.tmp 11)⟩,
  ⟨some 5, none, .mov (.tmp 13)⟩])
 (.seq (.ops false [
  ⟨some 14, none, .mov (.tmp 4)⟩,
  ⟨some 15, none, .fad (.tmp 1) 0⟩,
  ⟨some 16, none, .load none (.tmp 15)⟩,
  ⟨some 17, none, .ixa 3 3 (.tmp 2) (.tmp 14)⟩,
  ⟨some 18, none, .ixa 3 1 (.tmp 17) (.tmp 16)⟩,
  ⟨some 19, none, .load none (.tmp 18)⟩,
  ⟨some 20, none, .mov (.tmp 5)⟩,
  ⟨some 21, none, .bin .neq (.tmp 19) (.tmp 20)⟩])
 (.cond (.tmp 21) (.seq (.ops false [
  ⟨some 3, none, .mov (.cst (.bool false))⟩])
 .ret) .skip))))
 (.ops false [
  ⟨some 22, none, .bin .add (.tmp 9) (.cst (I 1))⟩,
  ⟨some 9, none, .mov (.tmp 22)⟩]))))
def keep78_0 : Option (List Nat) := some [1, 2, 7, 8, 9]
def code78 : MF := ⟨23, [(3, none)], (.seq (.ops false [
  ⟨some 2, none, .box (.tmp 0)⟩,
  ⟨some 3, none, .mov (.cst (.bool false))⟩])
 (.seq (.seq (.ops false [
  ⟨some 6, none, .fad (.tmp 1) 1⟩,
  ⟨some 7, none, .load none (.tmp 6)⟩,
  ⟨some 8, none, .len (.tmp 7)⟩,
  ⟨some 9, none, .mov (.cst (I 0))⟩])
 (.block 0 (.loop keep78_0 body78_0)))
 (.seq (.ops false [
  ⟨some 3, none, .mov (.cst (.bool true))⟩])
 .ret)))⟩
theorem comp78 : compF Cv 78 = some code78 := by kernel_rfl

def code79 : MF := ⟨16, [(4, some (some 6))], (.seq (.ops false [
  ⟨some 2, none, .box (.tmp 0)⟩,
  ⟨some 3, none, .box (.tmp 1)⟩,
  ⟨some 4, none, .alloc [(I 0), .nils, (I 0), (I 0), (I 0), .nils]⟩])
 (.seq (.ops false [
  ⟨some 6, none, .load (some 6) (.tmp 2)⟩,
  ⟨some 5, none, .alloc [(I 0), .nils, (I 0), (I 0), (I 0), .nils]⟩,
  ⟨none, none, .store 6 (.tmp 5) (.tmp 6)⟩])
 (.seq (.ops false [
  ⟨some 7, none, .bsl 2 true (.agg [(I 0), .nils]) 0 []⟩,
  ⟨some 8, none, .fad (.tmp 2) 5⟩,
  ⟨some 9, none, .load none (.tmp 8)⟩,
  ⟨some 10, none, .app false 2 32 true (.tmp 7) (.tmp 9)⟩,
  ⟨some 11, none, .load (some 2) (.tmp 3)⟩,
  ⟨some 12, none, .bsl 2 true (.agg [(I 0), .nils]) 1 [(0, (.tmp 11))]⟩,
  ⟨some 13, none, .app false 2 32 true (.tmp 10) (.tmp 12)⟩,
  ⟨some 14, none, .fad (.tmp 5) 5⟩,
  ⟨none, none, .store 1 (.tmp 14) (.tmp 13)⟩])
 (.seq (.ops false [
  ⟨some 15, none, .load (some 6) (.tmp 5)⟩,
  ⟨none, none, .store 6 (.tmp 4) (.tmp 15)⟩])
 .ret))))⟩
theorem comp79 : compF Cv 79 = some code79 := by kernel_rfl

def body80_0 : MC := (.seq (.seq (.ops false [
  ⟨some 35, none, .mov (.tmp 10)⟩,
  ⟨some 36, none, .fad (.tmp 2) 5⟩,
  ⟨some 37, none, .load none (.tmp 36)⟩,
  ⟨some 38, none, .len (.tmp 37)⟩,
  ⟨some 39, none, .bin .lss (.tmp 35) (.tmp 38)⟩])
 (.cond (.tmp 39) .skip (.exit 0)))
 (.seq (.block 1 (.seq (.ops false [
  ⟨some 43, none, .load none (.tmp 3)⟩,
  ⟨some 44, none, .mov (.tmp 0)⟩,
  ⟨some 45, none, .mov (.tmp 8)⟩,
  ⟨some 46, none, .mov (.tmp 8)⟩,
  ⟨some 47, none, .slc 1 (.tmp 44) none (some (.tmp 45)) (some (.tmp 46))⟩,
  ⟨some 48, none, .mov (.tmp 10)⟩,
  ⟨some 49, none, .bsl 1 false (I 0) 1 [(0, (.tmp 48))]⟩,
  ⟨some 50, none, .app false 1 8 false (.tmp 47) (.tmp 49)⟩,
  ⟨some 51, none, .mov (.tmp 1)⟩,
  ⟨some 52, none, .call (.tmp 43) [(.tmp 50), (.tmp 51)]⟩,
  ⟨some 42, none, .mov (.tmp 52)⟩,
  ⟨some 53, none, .ext (.tmp 42) 0⟩,
  ⟨some 54, none, .ext (.tmp 42) 1⟩,
  ⟨some 11, none, .mov (.tmp 53)⟩,
  ⟨some 12, none, .mov (.tmp 54)⟩])
 (.seq (.ops false [
  ⟨some 55, none, .mov (.tmp 12)⟩])
 (.cond (.tmp 55) (.seq (.ops false [
  ⟨some 56, none, .mov (.tmp 11)⟩,
  ⟨some 6, none, .mov (.tmp 56)⟩,
  ⟨some 7, none, .mov (.cst (.bool true))⟩])
 .ret) .skip))))
 (.ops false [
  ⟨some 40, none, .mov (.tmp 10)⟩,
  ⟨some 41, none, .bin .add (.tmp 40) (.cst (I 1))⟩,
  ⟨some 10, none, .mov (.tmp 41)⟩])))
def keep80_0 : Option (List Nat) := some [0, 1, 2, 3, 8, 10]
def code80 : MF := ⟨57, [(6, none), (7, none)], (.seq (.ops false [
  ⟨some 6, none, .mov (.cst .nils)⟩,
  ⟨some 7, none, .mov (.cst (.bool false))⟩])
 (.seq (.ops false [
  ⟨some 13, none, .mov (.tmp 0)⟩,
  ⟨some 14, none, .len (.tmp 13)⟩,
  ⟨some 8, none, .mov (.tmp 14)⟩])
 (.seq (.seq (.ops false [
  ⟨some 15, none, .mov (.tmp 8)⟩,
  ⟨some 16, none, .mov (.tmp 1)⟩,
  ⟨some 17, none, .bin .eql (.tmp 15) (.tmp 16)⟩])
 (.cond (.tmp 17) (.seq (.ops true [
  ⟨some 18, none, .mov (.tmp 0)⟩,
  ⟨some 19, none, .load (some 6) (.tmp 2)⟩,
  ⟨some 20, none, .mov (.tmp 0)⟩,
  ⟨some 21, none, .call (.cst (.fn (.func 81) [] [])) [(.tmp 20)]⟩,
  ⟨some 22, none, .call (.cst (.fn (.func 65) [] [])) [(.tmp 19), (.tmp 21)]⟩,
  ⟨some 23, none, .fld none (.tmp 22) 7⟩,
  ⟨some 24, none, .len (.tmp 23)⟩,
  ⟨some 25, none, .bin .gtr (.tmp 24) (.cst (I 0))⟩,
  ⟨some 6, none, .mov (.tmp 18)⟩,
  ⟨some 7, none, .mov (.tmp 25)⟩])
 .ret) .skip))
 (.seq (.ops false [
  ⟨some 9, none, .mov (.cst (I 0))⟩])
 (.seq (.seq (.ops false [
  ⟨some 26, none, .mov (.tmp 8)⟩,
  ⟨some 27, none, .bin .gtr (.tmp 26) (.cst (I 0))⟩])
 (.cond (.tmp 27) (.ops false [
  ⟨some 28, none, .mov (.tmp 0)⟩,
  ⟨some 29, none, .mov (.tmp 8)⟩,
  ⟨some 30, none, .bin .sub (.tmp 29) (.cst (I 1))⟩,
  ⟨some 31, none, .ixs 1 (.tmp 28) (.tmp 30)⟩,
  ⟨some 32, none, .load none (.tmp 31)⟩,
  ⟨some 33, none, .bin .add (.tmp 32) (.cst (I 1))⟩,
  ⟨some 9, none, .mov (.tmp 33)⟩]) .skip))
 (.seq (.seq (.ops false [
  ⟨some 34, none, .mov (.tmp 9)⟩,
  ⟨some 10, none, .mov (.tmp 34)⟩])
 (.block 0 (.loop keep80_0 body80_0)))
 (.seq (.ops false [
  ⟨some 6, none, .mov (.cst .nils)⟩,
  ⟨some 7, none, .mov (.cst (.bool false))⟩])
 .ret)))))))⟩
theorem comp80 : compF Cv 80 = some code80 := by kernel_rfl

def code81 : MF := ⟨5, [(2, some (some 1))], (.seq (.ops false [
  ⟨some 1, none, .box (.tmp 0)⟩,
  ⟨some 2, none, .alloc [.nilf]⟩])
 (.seq (.ops false [
  ⟨some 3, none, .mkf (.func 97) [] [(.tmp 1)]⟩,
  ⟨some 4, none, .bld [.nilf] [(0, 1, (.tmp 3))]⟩,
  ⟨none, none, .store 1 (.tmp 2) (.tmp 4)⟩])
 .ret))⟩
theorem comp81 : compF Cv 81 = some code81 := by kernel_rfl

def code82 : MF := ⟨16, [(4, none)], (.seq (.ops false [
  ⟨some 2, none, .box (.tmp 0)⟩,
  ⟨some 4, none, .mov (.cst (I 0))⟩])
 (.seq (.ops true [
  ⟨some 5, none, .fad (.tmp 2) 0⟩,
  ⟨some 6, none, .load none (.tmp 5)⟩,
  ⟨some 7, none, .mov (.tmp 1)⟩,
  ⟨some 8, none, .fad (.tmp 2) 1⟩,
  ⟨some 9, none, .load none (.tmp 8)⟩,
  ⟨some 10, none, .fad (.tmp 2) 0⟩,
  ⟨some 11, none, .load none (.tmp 10)⟩,
  ⟨some 12, none, .bin .sub (.tmp 9) (.tmp 11)⟩,
  ⟨some 13, none, .bin .add (.tmp 12) (.cst (I 1))⟩,
  ⟨some 14, none, .call (.cst (.fn (.func 43) [] [])) [(.tmp 7), (.tmp 13)]⟩,
  ⟨some 15, none, .bin .add (.tmp 6) (.tmp 14)⟩,
  ⟨some 4, none, .mov (.tmp 15)⟩])
 .ret))⟩
theorem comp82 : compF Cv 82 = some code82 := by kernel_rfl

def code83 : MF := ⟨15, [(4, none)], (.seq (.ops false [
  ⟨some 4, none, .mov (.cst (I 0))⟩])
 (.seq (.seq (.ops false [
  ⟨some 5, none, .mov (.tmp 0)⟩,
  ⟨some 6, none, .len (.tmp 5)⟩,
  ⟨some 7, none, .bin .eql (.tmp 6) (.cst (I 0))⟩])
 (.cond (.tmp 7) (.seq (.ops false [
  ⟨some 4, none, .mov (.cst (I 0))⟩])
 .ret) .skip))
 (.seq (.ops false [
  ⟨some 8, none, .mov (.tmp 0)⟩,
  ⟨some 9, none, .mov (.tmp 1)⟩,
  ⟨some 10, none, .mov (.tmp 0)⟩,
  ⟨some 11, none, .len (.tmp 10)⟩,
  ⟨some 12, none, .call (.cst (.fn (.func 43) [] [])) [(.tmp 9), (.tmp 11)]⟩,
  ⟨some 13, none, .ixs 1 (.tmp 8) (.tmp 12)⟩,
  ⟨some 14, none, .load none (.tmp 13)⟩,
  ⟨some 4, none, .mov (.tmp 14)⟩])
 .ret)))⟩
theorem comp83 : compF Cv 83 = some code83 := by kernel_rfl

def code84 : MF := ⟨91, [(6, none)], (.seq (.ops false [
  ⟨some 3, none, .box (.tmp 0)⟩,
  ⟨some 6, none, .mov (.cst (.bool false))⟩])
 (.seq (.ops false [
  ⟨some 11, none, .fad (.tmp 3) 1⟩,
  ⟨some 12, none, .load none (.tmp 11)⟩,
  ⟨some 13, none, .len (.tmp 12)⟩,
  ⟨some 7, none, .mov (.tmp 13)⟩])
 (.seq (.ops false [
  ⟨some 14, none, .mov (.tmp 1)⟩,
  ⟨some 15, none, .len (.tmp 14)⟩,
  ⟨some 8, none, .mov (.tmp 15)⟩])
 (.seq (.ops false [
  ⟨some 16, none, .mov (.tmp 8)⟩,
  ⟨some 17, none, .mov (.tmp 7)⟩,
  ⟨some 18, none, .bin .rem (.tmp 16) (.tmp 17)⟩,
  ⟨some 9, none, .mov (.tmp 18)⟩])
 (.seq (.seq (.ops false [
  ⟨some 19, none, .mov (.tmp 8)⟩,
  ⟨some 20, none, .mov (.tmp 7)⟩,
  ⟨some 21, none, .bin .geq (.tmp 19) (.tmp 20)⟩,
  ⟨some 22, none, .mov (.tmp 21)⟩,
  ⟨some 23, some ((some 22), true), .mov (.tmp 2)⟩,
  ⟨some 24, some ((some 22), true), .mov (.tmp 1)⟩,
  ⟨some 25, some ((some 22), true), .mov (.tmp 8)⟩,
  ⟨some 26, some ((some 22), true), .mov (.tmp 7)⟩,
  ⟨some 27, some ((some 22), true), .bin .sub (.tmp 25) (.tmp 26)⟩,
  ⟨some 28, some ((some 22), true), .ixs 1 (.tmp 24) (.tmp 27)⟩,
  ⟨some 29, some ((some 22), true), .load none (.tmp 28)⟩,
  ⟨some 30, some ((some 22), true), .bin .sub (.tmp 23) (.tmp 29)⟩,
  ⟨some 31, some ((some 22), true), .fad (.tmp 3) 2⟩,
  ⟨some 32, some ((some 22), true), .load none (.tmp 31)⟩,
  ⟨some 33, some ((some 22), true), .neg (.tmp 32)⟩,
  ⟨some 34, some ((some 22), true), .fad (.tmp 3) 2⟩,
  ⟨some 35, some ((some 22), true), .load none (.tmp 34)⟩,
  ⟨some 36, some ((some 22), true), .call (.cst (.fn (.func 49) [] [])) [(.tmp 30), (.tmp 33), (.tmp 35)]⟩,
  ⟨some 37, some ((some 22), true), .lnot (.tmp 36)⟩,
  ⟨some 38, none, .pick (.tmp 22) (.tmp 37) (.cst (.bool false))⟩])
 (.cond (.tmp 38) (.seq (.ops false [
  ⟨some 6, none, .mov (.cst (.bool false))⟩])
 .ret) .skip))
 (.seq (.seq (.ops false [
  ⟨some 39, none, .mov (.tmp 9)⟩,
  ⟨some 40, none, .bin .eql (.tmp 39) (.cst (I 0))⟩])
 (.cond (.tmp 40) (.seq (.ops false [
  ⟨some 6, none, .mov (.cst (.bool true))⟩])
 .ret) .skip))
 (.seq (.ops false [
  ⟨some 41, none, .mov (.tmp 2)⟩,
  ⟨some 42, none, .mov (.tmp 1)⟩,
  ⟨some 43, none, .mov (.tmp 8)⟩,
  ⟨some 44, none, .bin .sub (.tmp 43) (.cst (I 1))⟩,
  ⟨some 45, none, .ixs 1 (.tmp 42) (.tmp 44)⟩,
  ⟨some 46, none, .load none (.tmp 45)⟩,
  ⟨some 47, none, .bin .sub (.tmp 41) (.tmp 46)⟩,
  ⟨some 10, none, .mov (.tmp 47)⟩])
 (.seq (.seq (.ops false [
  ⟨some 48, none, .fad (.tmp 3) 3⟩,
  ⟨some 49, none, .load none (.tmp 48)⟩,
  ⟨some 50, none, .mov (.tmp 10)⟩,
  ⟨some 51, none, .call (.cst (.fn (.func 87) [] [])) [(.tmp 49), (.tmp 50)]⟩,
  ⟨some 52, none, .lnot (.tmp 51)⟩])
 (.cond (.tmp 52) (.seq (.ops false [
  ⟨some 6, none, .mov (.cst (.bool false))⟩])
 .ret) .skip))
 (.seq (.ops false [
  ⟨some 53, none, .mov (.tmp 8)⟩,
  ⟨some 54, none, .mov (.tmp 7)⟩,
  ⟨some 55, none, .bin .lss (.tmp 53) (.tmp 54)⟩,
  ⟨some 56, none, .mov (.tmp 55)⟩,
  ⟨some 57, some ((some 56), false), .fad (.tmp 3) 4⟩,
  ⟨some 58, some ((some 56), false), .load none (.tmp 57)⟩,
  ⟨some 59, some ((some 56), false), .mov (.tmp 10)⟩,
  ⟨some 60, some ((some 56), false), .call (.cst (.fn (.func 87) [] [])) [(.tmp 58), (.tmp 59)]⟩,
  ⟨some 61, some ((some 56), false), .lnot (.tmp 60)⟩,
  ⟨some 62, none, .pick (.tmp 56) (.cst (.bool true)) (.tmp 61)⟩,
  ⟨some 63, none, .mov (.tmp 62)⟩,
  ⟨some 64, some ((some 63), false), .mov (.tmp 1)⟩,
  ⟨some 65, some ((some 63), false), .mov (.tmp 8)⟩,
  ⟨some 66, some ((some 63), false), .mov (.tmp 7)⟩,
  ⟨some 67, some ((some 63), false), .bin .sub (.tmp 65) (.tmp 66)⟩,
  ⟨some 68, some ((some 63), false), .ixs 1 (.tmp 64) (.tmp 67)⟩,
  ⟨some 69, some ((some 63), false), .load none (.tmp 68)⟩,
  ⟨some 70, some ((some 63), false), .mov (.tmp 1)⟩,
  ⟨some 71, some ((some 63), false), .mov (.tmp 8)⟩,
  ⟨some 72, some ((some 63), false), .mov (.tmp 7)⟩,
  ⟨some 73, some ((some 63), false), .bin .sub (.tmp 71) (.tmp 72)⟩,
  ⟨some 74, some ((some 63), false), .bin .sub (.tmp 73) (.cst (I 1))⟩,
  ⟨some 75, some ((some 63), false), .ixs 1 (.tmp 70) (.tmp 74)⟩,
  ⟨some 76, some ((some 63), false), .load none (.tmp 75)⟩,
  ⟨some 77, some ((some 63), false), .bin .sub (.tmp 69) (.tmp 76)⟩,
  ⟨some 78, some ((some 63), false), .mov (.tmp 10)⟩,
  ⟨some 79, some ((some 63), false), .bin .neq (.tmp 77) (.tmp 78)⟩,
  ⟨some 80, none, .pick (.tmp 63) (.cst (.bool true)) (.tmp 79)⟩,
  ⟨some 81, none, .mov (.tmp 80)⟩,
  ⟨some 82, some ((some 81), false), .mov (.tmp 1)⟩,
  ⟨some 83, some ((some 81), false), .mov (.tmp 8)⟩,
  ⟨some 84, some ((some 81), false), .mov (.tmp 7)⟩,
  ⟨some 85, some ((some 81), false), .bin .sub (.tmp 83) (.tmp 84)⟩,
  ⟨some 86, some ((some 81), false), .ixs 1 (.tmp 82) (.tmp 85)⟩,
  ⟨some 87, some ((some 81), false), .load none (.tmp 86)⟩,
  ⟨some 88, some ((some 81), false), .mov (.tmp 2)⟩,
  ⟨some 89, some ((some 81), false), .bin .eql (.tmp 87) (.tmp 88)⟩,
  ⟨some 90, none, .pick (.tmp 81) (.cst (.bool true)) (.tmp 89)⟩,
  ⟨some 6, none, .mov (.tmp 90)⟩])
 .ret)))))))))⟩
theorem comp84 : compF Cv 84 = some code84 := by kernel_rfl

def code85 : MF := ⟨11, [(4, none)], (.seq (.ops false [
  ⟨some 4, none, .mov (.cst .nils)⟩])
 (.seq (.ops false [
  ⟨some 5, none, .bsl 1 false (I 0) 0 []⟩,
  ⟨some 6, none, .mov (.tmp 0)⟩,
  ⟨some 7, none, .app false 1 8 false (.tmp 5) (.tmp 6)⟩,
  ⟨some 8, none, .mov (.tmp 1)⟩,
  ⟨some 9, none, .bsl 1 false (I 0) 1 [(0, (.tmp 8))]⟩,
  ⟨some 10, none, .app false 1 8 false (.tmp 7) (.tmp 9)⟩,
  ⟨some 4, none, .mov (.tmp 10)⟩])
 .ret))⟩
theorem comp85 : compF Cv 85 = some code85 := by kernel_rfl

def code86 : MF := ⟨16, [(4, some (some 2))], (.seq (.ops false [
  ⟨some 2, none, .box (.tmp 0)⟩,
  ⟨some 3, none, .box (.tmp 1)⟩,
  ⟨some 4, none, .alloc [(I 0), (I 0)]⟩])
 (.seq (.ops false [
  ⟨some 5, none, .fad (.tmp 2) 0⟩,
  ⟨some 6, none, .load none (.tmp 5)⟩,
  ⟨some 7, none, .fad (.tmp 3) 0⟩,
  ⟨some 8, none, .load none (.tmp 7)⟩,
  ⟨some 9, none, .bin .add (.tmp 6) (.tmp 8)⟩,
  ⟨some 10, none, .fad (.tmp 2) 1⟩,
  ⟨some 11, none, .load none (.tmp 10)⟩,
  ⟨some 12, none, .fad (.tmp 3) 1⟩,
  ⟨some 13, none, .load none (.tmp 12)⟩,
  ⟨some 14, none, .bin .add (.tmp 11) (.tmp 13)⟩,
  ⟨some 15, none, .call (.cst (.fn (.func 57) [] [])) [(.tmp 9), (.tmp 14)]⟩,
  ⟨none, none, .store 2 (.tmp 4) (.tmp 15)⟩])
 .ret))⟩
theorem comp86 : compF Cv 86 = some code86 := by kernel_rfl

def code87 : MF := ⟨18, [(4, none)], (.seq (.ops false [
  ⟨some 4, none, .mov (.cst (.bool false))⟩])
 (.seq (.ops false [
  ⟨some 5, none, .mov (.tmp 1)⟩,
  ⟨some 6, none, .bin .geq (.tmp 5) (.cst (I 0))⟩,
  ⟨some 7, none, .mov (.tmp 6)⟩,
  ⟨some 8, some ((some 7), true), .mov (.tmp 1)⟩,
  ⟨some 9, some ((some 7), true), .bin .lss (.tmp 8) (.cst (I 62))⟩,
  ⟨some 10, none, .pick (.tmp 7) (.tmp 9) (.cst (.bool false))⟩,
  ⟨some 11, none, .mov (.tmp 10)⟩,
  ⟨some 12, some ((some 11), true), .mov (.tmp 0)⟩,
  ⟨some 13, some ((some 11), true), .mov (.tmp 1)⟩,
  ⟨some 14, some ((some 11), true), .bin .shr (.tmp 12) (.tmp 13)⟩,
  ⟨some 15, some ((some 11), true), .bin .and (.tmp 14) (.cst (I 1))⟩,
  ⟨some 16, some ((some 11), true), .bin .eql (.tmp 15) (.cst (I 1))⟩,
  ⟨some 17, none, .pick (.tmp 11) (.tmp 16) (.cst (.bool false))⟩,
  ⟨some 4, none, .mov (.tmp 17)⟩])
 .ret))⟩
theorem comp87 : compF Cv 87 = some code87 := by kernel_rfl

def code88 : MF := ⟨9, [(4, none)], (.seq (.ops false [
  ⟨some 4, none, .mov (.cst (.bool false))⟩])
 (.seq (.ops false [
  ⟨some 5, none, .mov (.tmp 0)⟩,
  ⟨some 6, none, .mov (.tmp 1)⟩,
  ⟨some 7, none, .call (.cst (.fn (.func 99) [] [])) [(.tmp 5), (.tmp 6)]⟩,
  ⟨some 8, none, .bin .geq (.tmp 7) (.cst (I 0))⟩,
  ⟨some 4, none, .mov (.tmp 8)⟩])
 .ret))⟩
theorem comp88 : compF Cv 88 = some code88 := by kernel_rfl

def code89 : MF := ⟨6, [(2, none)], (.seq (.ops false [
  ⟨some 2, none, .mov (.cst (.bool false))⟩])
 (.seq (.ops false [
  ⟨some 3, none, .mov (.tmp 0)⟩,
  ⟨some 4, none, .call (.cst (.fn (.func 61) [] [])) [(.tmp 3), (.cst (I 0)), (.cst (I 12))]⟩,
  ⟨some 5, none, .lnot (.tmp 4)⟩,
  ⟨some 2, none, .mov (.tmp 5)⟩])
 .ret))⟩
theorem comp89 : compF Cv 89 = some code89 := by kernel_rfl

def code90 : MF := ⟨4, [(2, none)], (.seq (.ops false [
  ⟨some 1, none, .box (.tmp 0)⟩,
  ⟨some 2, none, .mov (.cst .nilf)⟩])
 (.seq (.ops false [
  ⟨some 3, none, .mkf (.func 100) [] [(.tmp 1)]⟩,
  ⟨some 2, none, .mov (.tmp 3)⟩])
 .ret))⟩
theorem comp90 : compF Cv 90 = some code90 := by kernel_rfl

def code91 : MF := ⟨3, [(2, none)], (.seq (.ops false [
  ⟨some 2, none, .mov (.cst (.bool false))⟩])
 (.seq (.ops false [
  ⟨some 2, none, .mov (.cst (.bool false))⟩])
 .ret))⟩
theorem comp91 : compF Cv 91 = some code91 := by kernel_rfl

def body92_0 : MC := (.seq (.seq (.ops false [
  ⟨some 24, none, .mov (.tmp 9)⟩,
  ⟨some 25, none, .fad (.tmp 8) 1⟩,
  ⟨some 26, none, .load none (.tmp 25)⟩,
  ⟨some 27, none, .bin .leq (.tmp 24) (.tmp 26)⟩])
 (.cond (.tmp 27) .skip (.exit 0)))
 (.seq (.block 1 (.seq (.ops false [
  ⟨some 30, none, .mov (.tmp 2)⟩,
  ⟨some 31, none, .len (.tmp 30)⟩,
  ⟨some 32, none, .bin .eql (.tmp 31) (.cst (I 0))⟩,
  ⟨some 33, none, .mov (.tmp 32)⟩,
  ⟨some 34, some ((some 33), false), .mov (.tmp 9)⟩,
  ⟨some 35, some ((some 33), false), .mov (.tmp 2)⟩,
  ⟨some 36, some ((some 33), false), .mov (.tmp 2)⟩,
  ⟨some 37, some ((some 33), false), .len (.tmp 36)⟩,
  ⟨some 38, some ((some 33), false), .bin .sub (.tmp 37) (.cst (I 1))⟩,
  ⟨some 39, some ((some 33), false), .ixs 1 (.tmp 35) (.tmp 38)⟩,
  ⟨some 40, some ((some 33), false), .load none (.tmp 39)⟩,
  ⟨some 41, some ((some 33), false), .bin .sub (.tmp 34) (.tmp 40)⟩,
  ⟨some 42, some ((some 33), false), .fad (.tmp 3) 2⟩,
  ⟨some 43, some ((some 33), false), .load none (.tmp 42)⟩,
  ⟨some 44, some ((some 33), false), .neg (.tmp 43)⟩,
  ⟨some 45, some ((some 33), false), .fad (.tmp 3) 2⟩,
  ⟨some 46, some ((some 33), false), .load none (.tmp 45)⟩,
  ⟨some 47, some ((some 33), false), .call (.cst (.fn (.func 49) [] [])) [(.tmp 41), (.tmp 44), (.tmp 46)]⟩,
  ⟨some 48, none, .pick (.tmp 33) (.cst (.bool true)) (.tmp 47)⟩])
 (.cond (.tmp 48) (.ops true [
  ⟨some 49, none, .mov (.tmp 7)⟩,
  ⟨some 50, none, .load (some 6) (.tmp 3)⟩,
  ⟨some 51, none, .mov (.tmp 1)⟩,
  ⟨some 52, none, .mov (.tmp 2)⟩,
  ⟨some 53, none, .mov (.tmp 9)⟩,
  ⟨some 54, none, .call (.cst (.fn (.func 85) [] [])) [(.tmp 52), (.tmp 53)]⟩,
  ⟨some 55, none, .call (.cst (.fn (.func 92) [] [])) [(.tmp 50), (.tmp 51), (.tmp 54)]⟩,
  ⟨some 56, none, .app false 1 24 false (.tmp 49) (.tmp 55)⟩,
  ⟨some 7, none, .mov (.tmp 56)⟩]) .skip)))
 (.ops false [
  ⟨some 28, none, .mov (.tmp 9)⟩,
  ⟨some 29, none, .bin .add (.tmp 28) (.cst (I 1))⟩,
  ⟨some 9, none, .mov (.tmp 29)⟩])))
def keep92_0 : Option (List Nat) := some [1, 2, 3, 7, 8, 9]
def code92 : MF := ⟨58, [(6, none)], (.seq (.ops false [
  ⟨some 3, none, .box (.tmp 0)⟩,
  ⟨some 6, none, .mov (.cst .nils)⟩])
 (.seq (.seq (.ops false [
  ⟨some 10, none, .mov (.tmp 2)⟩,
  ⟨some 11, none, .len (.tmp 10)⟩,
  ⟨some 12, none, .fad (.tmp 3) 0⟩,
  ⟨some 13, none, .load none (.tmp 12)⟩,
  ⟨some 14, none, .bin .eql (.tmp 11) (.tmp 13)⟩])
 (.cond (.tmp 14) (.seq (.ops false [
  ⟨some 15, none, .mov (.tmp 2)⟩,
  ⟨some 16, none, .bsl 1 false .nils 1 [(0, (.tmp 15))]⟩,
  ⟨some 6, none, .mov (.tmp 16)⟩])
 .ret) .skip))
 (.seq (.ops false [
  ⟨some 7, none, .mov (.cst .nils)⟩])
 (.seq (.ops false [
  ⟨some 17, none, .fad (.tmp 3) 1⟩,
  ⟨some 18, none, .load none (.tmp 17)⟩,
  ⟨some 19, none, .mov (.tmp 1)⟩,
  ⟨some 20, none, .ixs 2 (.tmp 18) (.tmp 19)⟩,
  ⟨some 21, none, .load (some 2) (.tmp 20)⟩,
  ⟨some 8, none, .alloc [(I 0), (I 0)]⟩,
  ⟨none, none, .store 2 (.tmp 8) (.tmp 21)⟩])
 (.seq (.seq (.ops false [
  ⟨some 22, none, .fad (.tmp 8) 0⟩,
  ⟨some 23, none, .load none (.tmp 22)⟩,
  ⟨some 9, none, .mov (.tmp 23)⟩])
 (.block 0 (.loop keep92_0 body92_0)))
 (.seq (.ops false [
  ⟨some 57, none, .mov (.tmp 7)⟩,
  ⟨some 6, none, .mov (.tmp 57)⟩])
 .ret))))))⟩
theorem comp92 : compF Cv 92 = some code92 := by kernel_rfl

def body93_0 : MC := (.seq (.seq (.ops false [
  ⟨some 10, none, .mov (.tmp 9)⟩,
  ⟨some 11, none, .fad (.tmp 4) 5⟩,
  ⟨some 12, none, .load none (.tmp 11)⟩,
  ⟨some 13, none, .len (.tmp 12)⟩,
  ⟨some 14, none, .bin .lss (.tmp 10) (.tmp 13)⟩])
 (.cond (.tmp 14) .skip (.exit 0)))
 (.seq (.block 1 (.seq (.ops false [
  ⟨some 17, none, .fad (.tmp 4) 5⟩,
  ⟨some 18, none, .load none (.tmp 17)⟩,
  ⟨some 19, none, .mov (.tmp 9)⟩,
  ⟨some 20, none, .ixs 2 (.tmp 18) (.tmp 19)⟩,
  ⟨some 21, none, .fad (.tmp 20) 0⟩,
  ⟨some 22, none, .load none (.tmp 21)⟩,
  ⟨some 23, none, .mov (.tmp 1)⟩,
  ⟨some 24, none, .bin .eql (.tmp 22) (.tmp 23)⟩,
  ⟨some 25, none, .mov (.tmp 24)⟩,
  ⟨some 26, some ((some 25), true), .mov (.tmp 3)⟩,
  ⟨some 27, some ((some 25), true), .mov (.tmp 9)⟩,
  ⟨some 28, some ((some 25), true), .call (.cst (.fn (.func 87) [] [])) [(.tmp 26), (.tmp 27)]⟩,
  ⟨some 29, some ((some 25), true), .lnot (.tmp 28)⟩,
  ⟨some 30, none, .pick (.tmp 25) (.tmp 29) (.cst (.bool false))⟩,
  ⟨some 31, none, .mov (.tmp 30)⟩,
  ⟨some 32, some ((some 31), true), .fad (.tmp 4) 5⟩,
  ⟨some 33, some ((some 31), true), .load none (.tmp 32)⟩,
  ⟨some 34, some ((some 31), true), .mov (.tmp 9)⟩,
  ⟨some 35, some ((some 31), true), .ixs 2 (.tmp 33) (.tmp 34)⟩,
  ⟨some 36, some ((some 31), true), .fad (.tmp 35) 1⟩,
  ⟨some 37, some ((some 31), true), .load none (.tmp 36)⟩,
  ⟨some 38, some ((some 31), true), .mov (.tmp 2)⟩,
  ⟨some 39, some ((some 31), true), .call (.cst (.fn (.func 23) [] [])) [(.tmp 37), (.tmp 38)]⟩,
  ⟨some 40, some ((some 31), true), .lnot (.tmp 39)⟩,
  ⟨some 41, none, .pick (.tmp 31) (.tmp 40) (.cst (.bool false))⟩])
 (.cond (.tmp 41) (.seq (.ops false [
  ⟨some 8, none, .mov (.cst (.bool false))⟩])
 .ret) .skip)))
 (.ops false [
  ⟨some 15, none, .mov (.tmp 9)⟩,
  ⟨some 16, none, .bin .add (.tmp 15) (.cst (I 1))⟩,
  ⟨some 9, none, .mov (.tmp 16)⟩])))
def keep93_0 : Option (List Nat) := some [1, 2, 3, 4, 9]
def code93 : MF := ⟨42, [(8, none)], (.seq (.ops false [
  ⟨some 4, none, .box (.tmp 0)⟩,
  ⟨some 8, none, .mov (.cst (.bool false))⟩])
 (.seq (.seq (.ops false [
  ⟨some 9, none, .mov (.cst (I 0))⟩])
 (.block 0 (.loop keep93_0 body93_0)))
 (.seq (.ops false [
  ⟨some 8, none, .mov (.cst (.bool true))⟩])
 .ret)))⟩
theorem comp93 : compF Cv 93 = some code93 := by kernel_rfl

def body94_0 : MC := (.seq (.seq (.ops false [
  ⟨some 9, none, .mov (.tmp 7)⟩,
  ⟨some 10, none, .fad (.tmp 3) 0⟩,
  ⟨some 11, none, .load none (.tmp 10)⟩,
  ⟨some 12, none, .bin .lss (.tmp 9) (.tmp 11)⟩])
 (.cond (.tmp 12) .skip (.exit 0)))
 (.seq (.block 1 (.seq (.ops false [
  ⟨some 15, none, .mov (.tmp 2)⟩,
  ⟨some 16, none, .mov (.tmp 7)⟩,
  ⟨some 17, none, .ixs 1 (.tmp 15) (.tmp 16)⟩,
  ⟨some 18, none, .load none (.tmp 17)⟩,
  ⟨some 19, none, .mov (.tmp 1)⟩,
  ⟨some 20, none, .mov (.tmp 7)⟩,
  ⟨some 21, none, .ixs 1 (.tmp 19) (.tmp 20)⟩,
  ⟨some 22, none, .load none (.tmp 21)⟩,
  ⟨some 23, none, .bin .sub (.tmp 18) (.tmp 22)⟩,
  ⟨some 8, none, .mov (.tmp 23)⟩])
 (.seq (.seq (.ops false [
  ⟨some 24, none, .fad (.tmp 3) 3⟩,
  ⟨some 25, none, .load none (.tmp 24)⟩,
  ⟨some 26, none, .mov (.tmp 8)⟩,
  ⟨some 27, none, .call (.cst (.fn (.func 87) [] [])) [(.tmp 25), (.tmp 26)]⟩,
  ⟨some 28, none, .lnot (.tmp 27)⟩])
 (.cond (.tmp 28) (.seq (.ops false [
  ⟨some 6, none, .mov (.cst (.bool false))⟩])
 .ret) .skip))
 (.seq (.ops false [
  ⟨some 29, none, .mov (.tmp 7)⟩,
  ⟨some 30, none, .bin .gtr (.tmp 29) (.cst (I 0))⟩,
  ⟨some 31, none, .mov (.tmp 30)⟩,
  ⟨some 32, some ((some 31), true), .mov (.tmp 2)⟩,
  ⟨some 33, some ((some 31), true), .mov (.tmp 7)⟩,
  ⟨some 34, some ((some 31), true), .bin .sub (.tmp 33) (.cst (I 1))⟩,
  ⟨some 35, some ((some 31), true), .ixs 1 (.tmp 32) (.tmp 34)⟩,
  ⟨some 36, some ((some 31), true), .load none (.tmp 35)⟩,
  ⟨some 37, some ((some 31), true), .mov (.tmp 1)⟩,
  ⟨some 38, some ((some 31), true), .mov (.tmp 7)⟩,
  ⟨some 39, some ((some 31), true), .bin .sub (.tmp 38) (.cst (I 1))⟩,
  ⟨some 40, some ((some 31), true), .ixs 1 (.tmp 37) (.tmp 39)⟩,
  ⟨some 41, some ((some 31), true), .load none (.tmp 40)⟩,
  ⟨some 42, some ((some 31), true), .bin .sub (.tmp 36) (.tmp 41)⟩,
  ⟨some 43, some ((some 31), true), .mov (.tmp 8)⟩,
  ⟨some 44, some ((some 31), true), .bin .eql (.tmp 42) (.tmp 43)⟩,
  ⟨some 45, none, .pick (.tmp 31) (.tmp 44) (.cst (.bool false))⟩,
  ⟨some 46, none, .mov (.tmp 45)⟩,
  ⟨some 47, some ((some 46), true), .mov (.tmp 1)⟩,
  ⟨some 48, some ((some 46), true), .mov (.tmp 7)⟩,
  ⟨some 49, some ((some 46), true), .ixs 1 (.tmp 47) (.tmp 48)⟩,
  ⟨some 50, some ((some 46), true), .load none (.tmp 49)⟩,
  ⟨some 51, some ((some 46), true), .mov (.tmp 1)⟩,
  ⟨some 52, some ((some 46), true), .mov (.tmp 7)⟩,
  ⟨some 53, some ((some 46), true), .bin .sub (.tmp 52) (.cst (I 1))⟩,
  ⟨some 54, some ((some 46), true), .ixs 1 (.tmp 51) (.tmp 53)⟩,
  ⟨some 55, some ((some 46), true), .load none (.tmp 54)⟩,
  ⟨some 56, some ((some 46), true), .bin .neq (.tmp 50) (.tmp 55)⟩,
  ⟨some 57, none, .pick (.tmp 46) (.tmp 56) (.cst (.bool false))⟩,
  ⟨some 58, none, .mov (.tmp 57)⟩,
  ⟨some 59, some ((some 58), true), .fad (.tmp 3) 4⟩,
  ⟨some 60, some ((some 58), true), .load none (.tmp 59)⟩,
  ⟨some 61, some ((some 58), true), .mov (.tmp 8)⟩,
  ⟨some 62, some ((some 58), true), .call (.cst (.fn (.func 87) [] [])) [(.tmp 60), (.tmp 61)]⟩,
  ⟨some 63, none, .pick (.tmp 58) (.tmp 62) (.cst (.bool false))⟩])
 (.cond (.tmp 63) (.seq (.ops false [
  ⟨some 6, none, .mov (.cst (.bool false))⟩])
 .ret) .skip)))))
 (.ops false [
  ⟨some 13, none, .mov (.tmp 7)⟩,
  ⟨some 14, none, .bin .add (.tmp 13) (.cst (I 1))⟩,
  ⟨some 7, none, .mov (.tmp 14)⟩])))
def keep94_0 : Option (List Nat) := some [1, 2, 3, 7]
def code94 : MF := ⟨64, [(6, none)], (.seq (.ops false [
  ⟨some 3, none, .box (.tmp 0)⟩,
  ⟨some 6, none, .mov (.cst (.bool false))⟩])
 (.seq (.seq (.ops false [
  ⟨some 7, none, .mov (.cst (I 0))⟩])
 (.block 0 (.loop keep94_0 body94_0)))
 (.seq (.ops false [
  ⟨some 6, none, .mov (.cst (.bool true))⟩])
 .ret)))⟩
theorem comp94 : compF Cv 94 = some code94 := by kernel_rfl

def code95 : MF := ⟨11, [(4, none)], (.seq (.ops false [
  ⟨some 2, none, .box (.tmp 0)⟩,
  ⟨some 3, none, .box (.tmp 1)⟩,
  ⟨some 4, none, .mov (.cst (I 0))⟩])
 (.seq (.ops false [
  ⟨some 6, none, .load (some 8) (.tmp 2)⟩,
  ⟨some 7, none, .load (some 2) (.tmp 3)⟩,
  ⟨some 8, none, .call (.cst (.fn (.func 69) [] [])) [(.tmp 6), (.tmp 7)]⟩,
  ⟨some 5, none, .alloc [(I 0), (I 0), (I 0), (I 0), (I 0), (I 0), (I 0), (I 0), (I 0), (I 0), (I 0), (I 0), (I 0)]⟩,
  ⟨none, none, .store 13 (.tmp 5) (.tmp 8)⟩])
 (.seq (.ops false [
  ⟨some 9, none, .arr 13 1 false (.tmp 5)⟩,
  ⟨some 10, none, .call (.cst (.fn (.func 104) [] [])) [(.cst (I 0)), (.tmp 9)]⟩,
  ⟨some 4, none, .mov (.tmp 10)⟩])
 .ret)))⟩
theorem comp95 : compF Cv 95 = some code95 := by kernel_rfl

def body96_0 : MC := (.seq (.ops false [
  ⟨some 9, none, .bin .lss (.tmp 8) (.tmp 7)⟩])
 (.seq (.cond (.tmp 9) .skip (.exit 0))
 (.seq (.block 1 (.seq (.ops false [
  ⟨some 10, none, .mov (.tmp 8)⟩,
  ⟨some 5, none, .mov (.tmp 10)⟩])
 (.seq (.ops false [
  ⟨some 11, none, .mov (.tmp 1)⟩,
  ⟨some 12, none, .mov (.tmp 0)⟩,
  ⟨some 13, none, .mov (.tmp 5)⟩,
  ⟨some 14, none, .ixs 9 (.tmp 12) (.tmp 13)⟩,
  ⟨some 15, none, .load (some 9) (.tmp 14)⟩,
  ⟨some 16, none, .call (.tmp 11) [(.tmp 15)]⟩])
 (.cond (.tmp 16) (.seq (.ops false [
  ⟨some 17, none, .mov (.tmp 5)⟩,
  ⟨some 4, none, .mov (.tmp 17)⟩])
 .ret) .skip))))
 (.ops false [
  ⟨some 18, none, .bin .add (.tmp 8) (.cst (I 1))⟩,
  ⟨some 8, none, .mov (.tmp 18)⟩]))))
def keep96_0 : Option (List Nat) := some [0, 1, 7, 8]
def code96 : MF := ⟨19, [(4, none)], (.seq (.ops false [
  ⟨some 4, none, .mov (.cst (I 0))⟩])
 (.seq (.seq (.ops false [
  ⟨some 6, none, .mov (.tmp 0)⟩,
  ⟨some 7, none, .len (.tmp 6)⟩,
  ⟨some 8, none, .mov (.cst (I 0))⟩])
 (.block 0 (.loop keep96_0 body96_0)))
 (.seq (.ops false [
  ⟨some 4, none, .mov (.cst (I (-1)))⟩])
 .ret)))⟩
theorem comp96 : compF Cv 96 = some code96 := by kernel_rfl

def code97 : MF := ⟨7, [(3, none)], (.seq (.ops false [
  ⟨some 3, none, .mov (.cst (.bool false))⟩])
 (.seq (.ops false [
  ⟨some 4, none, .load none (.tmp 1)⟩,
  ⟨some 5, none, .mov (.tmp 0)⟩,
  ⟨some 6, none, .call (.cst (.fn (.func 98) [] [])) [(.tmp 4), (.tmp 5)]⟩,
  ⟨some 3, none, .mov (.tmp 6)⟩])
 .ret))⟩
theorem comp97 : compF Cv 97 = some code97 := by kernel_rfl

def code98 : MF := ⟨9, [(4, none)], (.seq (.ops false [
  ⟨some 4, none, .mov (.cst (.bool false))⟩])
 (.seq (.ops false [
  ⟨some 5, none, .mov (.tmp 0)⟩,
  ⟨some 6, none, .mov (.tmp 1)⟩,
  ⟨some 7, none, .call (.cst (.fn (.func 105) [] [])) [(.tmp 5), (.tmp 6)]⟩,
  ⟨some 8, none, .bin .geq (.tmp 7) (.cst (I 0))⟩,
  ⟨some 4, none, .mov (.tmp 8)⟩])
 .ret))⟩
theorem comp98 : compF Cv 98 = some code98 := by kernel_rfl

def body99_0 : MC := (.seq (.ops false [
  ⟨some 9, none, .bin .lss (.tmp 8) (.tmp 7)⟩])
 (.seq (.cond (.tmp 9) .skip (.exit 0))
 (.seq (.block 1 (.seq (.ops false [
  ⟨some 10, none, .mov (.tmp 8)⟩,
  ⟨some 5, none, .mov (.tmp 10)⟩])
 (.seq (.ops false [
  ⟨some 11, none, .mov (.tmp 1)⟩,
  ⟨some 12, none, .mov (.tmp 0)⟩,
  ⟨some 13, none, .mov (.tmp 5)⟩,
  ⟨some 14, none, .ixs 1 (.tmp 12) (.tmp 13)⟩,
  ⟨some 15, none, .load none (.tmp 14)⟩,
  ⟨some 16, none, .call (.tmp 11) [(.tmp 15)]⟩])
 (.cond (.tmp 16) (.seq (.ops false [
  ⟨some 17, none, .mov (.tmp 5)⟩,
  ⟨some 4, none, .mov (.tmp 17)⟩])
 .ret) .skip))))
 (.ops false [
  ⟨some 18, none, .bin .add (.tmp 8) (.cst (I 1))⟩,
  ⟨some 8, none, .mov (.tmp 18)⟩]))))
def keep99_0 : Option (List Nat) := some [0, 1, 7, 8]
def code99 : MF := ⟨19, [(4, none)], (.seq (.ops false [
  ⟨some 4, none, .mov (.cst (I 0))⟩])
 (.seq (.seq (.ops false [
  ⟨some 6, none, .mov (.tmp 0)⟩,
  ⟨some 7, none, .len (.tmp 6)⟩,
  ⟨some 8, none, .mov (.cst (I 0))⟩])
 (.block 0 (.loop keep99_0 body99_0)))
 (.seq (.ops false [
  ⟨some 4, none, .mov (.cst (I (-1)))⟩])
 .ret)))⟩
theorem comp99 : compF Cv 99 = some code99 := by kernel_rfl

def code100 : MF := ⟨14, [], (.seq (.ops false [
  ⟨some 2, none, .box (.tmp 0)⟩])
 (.seq (.ops false [
  ⟨some 5, none, .load (some 8) (.tmp 1)⟩,
  ⟨some 6, none, .mkf (.func 101) [(.tmp 5)] []⟩,
  ⟨some 3, none, .alloc [.nilf]⟩,
  ⟨none, none, .store 1 (.tmp 3) (.tmp 6)⟩])
 (.seq (.ops false [
  ⟨some 4, none, .alloc [.nilf]⟩])
 (.seq (.ops false [
  ⟨some 7, none, .mkf (.func 102) [] [(.tmp 1), (.tmp 2), (.tmp 3), (.tmp 4)]⟩,
  ⟨none, none, .store 1 (.tmp 4) (.tmp 7)⟩])
 (.ops false [
  ⟨some 8, none, .load none (.tmp 4)⟩,
  ⟨some 9, none, .load (some 3) (.cst (.rp [(I (-1)), (I (-1)), (I (-1))] 0))⟩,
  ⟨some 10, none, .load (some 3) (.cst (.rp [(I (-1)), (I (-1)), (I (-1))] 0))⟩,
  ⟨some 11, none, .load (some 3) (.cst (.rp [(I (-1)), (I (-1)), (I (-1))] 0))⟩,
  ⟨some 12, none, .bld [(I 0), (I 0), (I 0), (I 0), (I 0), (I 0), (I 0), (I 0), (I 0)] [(0, 3, (.tmp 9)), (3, 3, (.tmp 10)), (6, 3, (.tmp 11))]⟩,
  ⟨some 13, none, .call (.tmp 8) [(.tmp 12), (.cst (I 0)), (.cst (I 0))]⟩])))))⟩
theorem comp100 : compF Cv 100 = some code100 := by kernel_rfl

def code101 : MF := ⟨28, [(6, none)], (.seq (.ops false [
  ⟨some 3, none, .box (.tmp 0)⟩,
  ⟨some 4, none, .box (.tmp 1)⟩,
  ⟨some 6, none, .mov (.cst (.bool false))⟩])
 (.seq (.ops false [
  ⟨some 10, none, .fad (.tmp 3) 6⟩,
  ⟨some 11, none, .load none (.tmp 10)⟩,
  ⟨some 12, none, .load (some 2) (.tmp 4)⟩,
  ⟨some 13, none, .lkp (some 2) (I 0) (.tmp 11) (.tmp 12) true⟩,
  ⟨some 9, none, .mov (.tmp 13)⟩,
  ⟨some 14, none, .ext (.tmp 9) 0⟩,
  ⟨some 15, none, .ext (.tmp 9) 1⟩,
  ⟨some 7, none, .mov (.tmp 14)⟩,
  ⟨some 8, none, .mov (.tmp 15)⟩])
 (.seq (.ops false [
  ⟨some 16, none, .load (some 2) (.tmp 4)⟩,
  ⟨some 17, none, .load (some 2) (.cst (.rp [(I (-1)), (I (-1))] 0))⟩,
  ⟨some 18, none, .eqa 2 true (.tmp 16) (.tmp 17)⟩,
  ⟨some 19, none, .mov (.tmp 18)⟩,
  ⟨some 20, some ((some 19), true), .mov (.tmp 8)⟩,
  ⟨some 21, some ((some 19), true), .lnot (.tmp 20)⟩,
  ⟨some 22, some ((some 19), true), .mov (.tmp 21)⟩,
  ⟨some 23, some ((some 22), false), .mov (.tmp 7)⟩,
  ⟨some 24, some ((some 22), false), .mov (.tmp 2)⟩,
  ⟨some 25, some ((some 22), false), .bin .eql (.tmp 23) (.tmp 24)⟩,
  ⟨some 26, some ((some 19), true), .pick (.tmp 22) (.cst (.bool true)) (.tmp 25)⟩,
  ⟨some 27, none, .pick (.tmp 19) (.tmp 26) (.cst (.bool false))⟩,
  ⟨some 6, none, .mov (.tmp 27)⟩])
 .ret)))⟩
theorem comp101 : compF Cv 101 = some code101 := by kernel_rfl

def body102_0 : MC := (.seq (.ops false [
  ⟨some 48, none, .bin .lss (.tmp 47) (.tmp 46)⟩])
 (.seq (.cond (.tmp 48) .skip (.exit 0))
 (.seq (.block 1 (.seq (.ops false [
  ⟨some 49, none, .mov (.tmp 47)⟩,
  ⟨some 12, none, .mov (.tmp 49)⟩])
 (.seq (.ops false [
  ⟨some 50, none, .mov (.tmp 2)⟩,
  ⟨some 51, none, .mov (.tmp 1)⟩,
  ⟨some 52, none, .fad (.tmp 11) 0⟩,
  ⟨some 53, none, .load none (.tmp 52)⟩,
  ⟨some 54, none, .mov (.tmp 12)⟩,
  ⟨some 55, none, .bin .add (.tmp 53) (.tmp 54)⟩,
  ⟨some 56, none, .ixa 3 3 (.tmp 7) (.tmp 50)⟩,
  ⟨some 57, none, .ixa 3 1 (.tmp 56) (.tmp 51)⟩,
  ⟨none, none, .store 1 (.tmp 57) (.tmp 55)⟩])
 (.seq (.seq (.ops false [
  ⟨some 58, none, .load none (.tmp 5)⟩,
  ⟨some 59, none, .mov (.tmp 1)⟩,
  ⟨some 60, none, .mov (.tmp 2)⟩,
  ⟨some 61, none, .bld [(I 0), (I 0)] [(0, 1, (.tmp 59)), (1, 1, (.tmp 60))]⟩,
  ⟨some 62, none, .fad (.tmp 11) 0⟩,
  ⟨some 63, none, .load none (.tmp 62)⟩,
  ⟨some 64, none, .mov (.tmp 12)⟩,
  ⟨some 65, none, .bin .add (.tmp 63) (.tmp 64)⟩,
  ⟨some 66, none, .call (.tmp 58) [(.tmp 61), (.tmp 65)]⟩,
  ⟨some 67, none, .lnot (.tmp 66)⟩,
  ⟨some 68, none, .mov (.tmp 67)⟩,
  ⟨some 69, some ((some 68), false), .load (some 8) (.tmp 3)⟩,
  ⟨some 70, some ((some 68), false), .load (some 9) (.tmp 7)⟩,
  ⟨some 71, some ((some 68), false), .mov (.tmp 1)⟩,
  ⟨some 72, some ((some 68), false), .mov (.tmp 2)⟩,
  ⟨some 73, some ((some 68), false), .bld [(I 0), (I 0)] [(0, 1, (.tmp 71)), (1, 1, (.tmp 72))]⟩,
  ⟨some 74, some ((some 68), false), .call (.cst (.fn (.func 103) [] [])) [(.tmp 69), (.tmp 70), (.tmp 73)]⟩,
  ⟨some 75, some ((some 68), false), .lnot (.tmp 74)⟩,
  ⟨some 76, none, .pick (.tmp 68) (.cst (.bool true)) (.tmp 75)⟩])
 (.cond (.tmp 76) (.exit 1) .skip))
 (.seq (.ops false [
  ⟨some 77, none, .load none (.tmp 6)⟩,
  ⟨some 78, none, .load (some 9) (.tmp 7)⟩,
  ⟨some 79, none, .mov (.tmp 1)⟩,
  ⟨some 80, none, .mov (.tmp 2)⟩,
  ⟨some 81, none, .bin .add (.tmp 80) (.cst (I 1))⟩,
  ⟨some 82, none, .call (.tmp 77) [(.tmp 78), (.tmp 79), (.tmp 81)]⟩,
  ⟨some 83, none, .lnot (.tmp 82)⟩])
 (.cond (.tmp 83) (.seq (.ops false [
  ⟨some 10, none, .mov (.cst (.bool false))⟩])
 .ret) .skip))))))
 (.ops false [
  ⟨some 84, none, .bin .add (.tmp 47) (.cst (I 1))⟩,
  ⟨some 47, none, .mov (.tmp 84)⟩]))))
def keep102_0 : Option (List Nat) := some [1, 2, 3, 5, 6, 7, 11, 46, 47]
def code102 : MF := ⟨85, [(10, none)], (.seq (.ops false [
  ⟨some 7, none, .box (.tmp 0)⟩,
  ⟨some 10, none, .mov (.cst (.bool false))⟩])
 (.scope (.seq (.seq (.ops false [
  ⟨some 13, none, .mov (.tmp 2)⟩,
  ⟨some 14, none, .fad (.tmp 3) 0⟩,
  ⟨some 15, none, .fad (.tmp 14) 0⟩,
  ⟨some 16, none, .load none (.tmp 15)⟩,
  ⟨some 17, none, .bin .eql (.tmp 13) (.tmp 16)⟩])
 (.cond (.tmp 17) (.ops false [
  ⟨some 18, none, .mov (.tmp 1)⟩,
  ⟨some 19, none, .bin .add (.tmp 18) (.cst (I 1))⟩,
  ⟨some 1, none, .mov (.tmp 19)⟩,
  ⟨some 2, none, .mov (.cst (I 0))⟩]) .skip))
 (.seq (.seq (.ops false [
  ⟨some 20, none, .mov (.tmp 1)⟩,
  ⟨some 21, none, .fad (.tmp 3) 0⟩,
  ⟨some 22, none, .fad (.tmp 21) 1⟩,
  ⟨some 23, none, .load none (.tmp 22)⟩,
  ⟨some 24, none, .len (.tmp 23)⟩,
  ⟨some 25, none, .bin .eql (.tmp 20) (.tmp 24)⟩])
 (.cond (.tmp 25) (.seq (.ops false [
  ⟨some 26, none, .ixa 3 3 (.tmp 7) (.cst (I 0))⟩,
  ⟨some 27, none, .load (some 3) (.tmp 26)⟩,
  ⟨some 28, none, .load (some 3) (.cst (.rp [(I (-1)), (I (-1)), (I (-1))] 0))⟩,
  ⟨some 29, none, .eqa 3 false (.tmp 27) (.tmp 28)⟩,
  ⟨some 30, none, .mov (.tmp 29)⟩,
  ⟨some 31, some ((some 30), false), .load none (.tmp 4)⟩,
  ⟨some 32, some ((some 30), false), .load (some 9) (.tmp 7)⟩,
  ⟨some 33, some ((some 30), false), .call (.tmp 31) [(.tmp 32)]⟩,
  ⟨some 34, none, .pick (.tmp 30) (.cst (.bool true)) (.tmp 33)⟩,
  ⟨some 10, none, .mov (.tmp 34)⟩])
 .ret) .skip))
 (.seq (.ops false [
  ⟨some 35, none, .fad (.tmp 3) 0⟩,
  ⟨some 36, none, .fad (.tmp 35) 1⟩,
  ⟨some 37, none, .load none (.tmp 36)⟩,
  ⟨some 38, none, .mov (.tmp 1)⟩,
  ⟨some 39, none, .ixs 2 (.tmp 37) (.tmp 38)⟩,
  ⟨some 40, none, .load (some 2) (.tmp 39)⟩,
  ⟨some 11, none, .alloc [(I 0), (I 0)]⟩,
  ⟨none, none, .store 2 (.tmp 11) (.tmp 40)⟩])
 (.seq .skip
 (.seq (.seq (.ops false [
  ⟨some 41, none, .fad (.tmp 11) 1⟩,
  ⟨some 42, none, .load none (.tmp 41)⟩,
  ⟨some 43, none, .fad (.tmp 11) 0⟩,
  ⟨some 44, none, .load none (.tmp 43)⟩,
  ⟨some 45, none, .bin .sub (.tmp 42) (.tmp 44)⟩,
  ⟨some 46, none, .bin .add (.tmp 45) (.cst (I 1))⟩,
  ⟨some 47, none, .mov (.cst (I 0))⟩])
 (.block 0 (.loop keep102_0 body102_0)))
 (.seq (.ops false [
  ⟨some 10, none, .mov (.cst (.bool true))⟩])
 .ret))))))))⟩
theorem comp102 : compF Cv 102 = some code102 := by kernel_rfl

def code103 : MF := ⟨91, [(6, none)], (.seq (.ops false [
  ⟨some 3, none, .box (.tmp 0)⟩,
  ⟨some 4, none, .box (.tmp 1)⟩,
  ⟨some 5, none, .box (.tmp 2)⟩,
  ⟨some 6, none, .mov (.cst (.bool false))⟩])
 (.seq (.ops false [
  ⟨some 12, none, .fad (.tmp 5) 1⟩,
  ⟨some 13, none, .load none (.tmp 12)⟩,
  ⟨some 14, none, .ixa 3 3 (.tmp 4) (.tmp 13)⟩,
  ⟨some 15, none, .load (some 3) (.tmp 14)⟩,
  ⟨some 16, none, .fad (.tmp 5) 0⟩,
  ⟨some 17, none, .load none (.tmp 16)⟩,
  ⟨some 18, none, .bld [(I 0), (I 0), (I 0), (I 0), (I 0), (I 0), (I 0)] [(3, 3, (.tmp 15)), (6, 1, (.tmp 17))]⟩,
  ⟨some 7, none, .alloc [(I 0), (I 0), (I 0), (I 0), (I 0), (I 0), (I 0)]⟩,
  ⟨none, none, .store 7 (.tmp 7) (.tmp 18)⟩])
 (.seq (.seq (.ops false [
  ⟨some 19, none, .fad (.tmp 5) 0⟩,
  ⟨some 20, none, .load none (.tmp 19)⟩,
  ⟨some 21, none, .bin .gtr (.tmp 20) (.cst (I 0))⟩])
 (.cond (.tmp 21) (.seq (.ops false [
  ⟨some 22, none, .ixa 2 1 (.cst (.rp [(.fn (.func 123) [] []), (.fn (.func 121) [] [])] 0)) (.cst (I 1))⟩,
  ⟨some 23, none, .load none (.tmp 22)⟩,
  ⟨some 24, none, .load (some 7) (.tmp 7)⟩,
  ⟨some 25, none, .call (.tmp 23) [(.tmp 24)]⟩,
  ⟨some 8, none, .mov (.tmp 25)⟩])
 (.seq (.ops false [
  ⟨some 26, none, .mov (.tmp 8)⟩,
  ⟨some 27, none, .bin .lss (.tmp 26) (.cst (I 0))⟩,
  ⟨some 28, none, .mov (.tmp 27)⟩,
  ⟨some 29, some ((some 28), false), .fad (.tmp 3) 0⟩,
  ⟨some 30, some ((some 28), false), .fad (.tmp 29) 3⟩,
  ⟨some 31, some ((some 28), false), .load none (.tmp 30)⟩,
  ⟨some 32, some ((some 28), false), .mov (.tmp 8)⟩,
  ⟨some 33, some ((some 28), false), .bin .shr (.tmp 31) (.tmp 32)⟩,
  ⟨some 34, some ((some 28), false), .bin .and (.tmp 33) (.cst (I 1))⟩,
  ⟨some 35, some ((some 28), false), .bin .eql (.tmp 34) (.cst (I 0))⟩,
  ⟨some 36, none, .pick (.tmp 28) (.cst (.bool true)) (.tmp 35)⟩])
 (.cond (.tmp 36) (.seq (.ops false [
  ⟨some 6, none, .mov (.cst (.bool false))⟩])
 .ret) .skip))) .skip))
 (.seq (.seq (.ops false [
  ⟨some 37, none, .fad (.tmp 5) 1⟩,
  ⟨some 38, none, .load none (.tmp 37)⟩,
  ⟨some 39, none, .bin .eql (.tmp 38) (.cst (I 0))⟩])
 (.cond (.tmp 39) (.seq (.ops false [
  ⟨some 6, none, .mov (.cst (.bool true))⟩])
 .ret) .skip))
 (.seq (.ops false [
  ⟨some 40, none, .fad (.tmp 5) 1⟩,
  ⟨some 41, none, .load none (.tmp 40)⟩,
  ⟨some 42, none, .bin .sub (.tmp 41) (.cst (I 1))⟩,
  ⟨some 43, none, .ixa 3 3 (.tmp 4) (.tmp 42)⟩,
  ⟨some 44, none, .load (some 3) (.tmp 43)⟩,
  ⟨some 45, none, .fad (.tmp 7) 0⟩,
  ⟨none, none, .store 3 (.tmp 45) (.tmp 44)⟩])
 (.seq (.ops false [
  ⟨some 46, none, .ixa 2 1 (.cst (.rp [(.fn (.func 123) [] []), (.fn (.func 121) [] [])] 0)) (.cst (I 0))⟩,
  ⟨some 47, none, .load none (.tmp 46)⟩,
  ⟨some 48, none, .load (some 7) (.tmp 7)⟩,
  ⟨some 49, none, .call (.tmp 47) [(.tmp 48)]⟩,
  ⟨some 9, none, .mov (.tmp 49)⟩])
 (.seq (.seq (.ops false [
  ⟨some 50, none, .mov (.tmp 9)⟩,
  ⟨some 51, none, .fad (.tmp 3) 0⟩,
  ⟨some 52, none, .fad (.tmp 51) 2⟩,
  ⟨some 53, none, .load none (.tmp 52)⟩,
  ⟨some 54, none, .neg (.tmp 53)⟩,
  ⟨some 55, none, .fad (.tmp 3) 0⟩,
  ⟨some 56, none, .fad (.tmp 55) 2⟩,
  ⟨some 57, none, .load none (.tmp 56)⟩,
  ⟨some 58, none, .call (.cst (.fn (.func 61) [] [])) [(.tmp 50), (.tmp 54), (.tmp 57)]⟩,
  ⟨some 59, none, .lnot (.tmp 58)⟩])
 (.cond (.tmp 59) (.seq (.ops false [
  ⟨some 6, none, .mov (.cst (.bool false))⟩])
 .ret) .skip))
 (.seq (.seq (.ops false [
  ⟨some 60, none, .fad (.tmp 5) 0⟩,
  ⟨some 61, none, .load none (.tmp 60)⟩,
  ⟨some 62, none, .bin .eql (.tmp 61) (.cst (I 0))⟩,
  ⟨some 63, none, .mov (.tmp 62)⟩,
  ⟨some 64, some ((some 63), false), .mov (.tmp 9)⟩,
  ⟨some 65, some ((some 63), false), .bin .eql (.tmp 64) (.cst (I 0))⟩,
  ⟨some 66, none, .pick (.tmp 63) (.cst (.bool true)) (.tmp 65)⟩])
 (.cond (.tmp 66) (.seq (.ops false [
  ⟨some 6, none, .mov (.cst (.bool true))⟩])
 .ret) .skip))
 (.seq (.ops false [
  ⟨some 67, none, .fad (.tmp 7) 0⟩,
  ⟨some 68, none, .load (some 3) (.tmp 67)⟩,
  ⟨some 69, none, .fad (.tmp 5) 0⟩,
  ⟨some 70, none, .load none (.tmp 69)⟩,
  ⟨some 71, none, .bld [(I 0), (I 0), (I 0), (I 0), (I 0), (I 0), (I 0)] [(3, 3, (.tmp 68)), (6, 1, (.tmp 70))]⟩,
  ⟨some 10, none, .alloc [(I 0), (I 0), (I 0), (I 0), (I 0), (I 0), (I 0)]⟩,
  ⟨none, none, .store 7 (.tmp 10) (.tmp 71)⟩])
 (.seq (.ops false [
  ⟨some 72, none, .ixa 2 1 (.cst (.rp [(.fn (.func 123) [] []), (.fn (.func 121) [] [])] 0)) (.cst (I 1))⟩,
  ⟨some 73, none, .load none (.tmp 72)⟩,
  ⟨some 74, none, .load (some 7) (.tmp 7)⟩,
  ⟨some 75, none, .call (.tmp 73) [(.tmp 74)]⟩,
  ⟨some 11, none, .mov (.tmp 75)⟩])
 (.seq (.ops false [
  ⟨some 76, none, .mov (.tmp 11)⟩,
  ⟨some 77, none, .ixa 2 1 (.cst (.rp [(.fn (.func 123) [] []), (.fn (.func 121) [] [])] 0)) (.cst (I 1))⟩,
  ⟨some 78, none, .load none (.tmp 77)⟩,
  ⟨some 79, none, .load (some 7) (.tmp 10)⟩,
  ⟨some 80, none, .call (.tmp 78) [(.tmp 79)]⟩,
  ⟨some 81, none, .bin .neq (.tmp 76) (.tmp 80)⟩,
  ⟨some 82, none, .mov (.tmp 81)⟩,
  ⟨some 83, some ((some 82), false), .fad (.tmp 3) 0⟩,
  ⟨some 84, some ((some 82), false), .fad (.tmp 83) 4⟩,
  ⟨some 85, some ((some 82), false), .load none (.tmp 84)⟩,
  ⟨some 86, some ((some 82), false), .mov (.tmp 11)⟩,
  ⟨some 87, some ((some 82), false), .bin .shr (.tmp 85) (.tmp 86)⟩,
  ⟨some 88, some ((some 82), false), .bin .and (.tmp 87) (.cst (I 1))⟩,
  ⟨some 89, some ((some 82), false), .bin .eql (.tmp 88) (.cst (I 0))⟩,
  ⟨some 90, none, .pick (.tmp 82) (.cst (.bool true)) (.tmp 89)⟩,
  ⟨some 6, none, .mov (.tmp 90)⟩])
 .ret)))))))))))⟩
theorem comp103 : compF Cv 103 = some code103 := by kernel_rfl

def body104_0 : MC := (.seq (.ops false [
  ⟨some 10, none, .bin .lss (.tmp 9) (.tmp 8)⟩])
 (.seq (.cond (.tmp 10) .skip (.exit 0))
 (.seq (.block 1 (.seq (.ops false [
  ⟨some 11, none, .ixs 1 (.tmp 7) (.tmp 9)⟩,
  ⟨some 12, none, .load none (.tmp 11)⟩,
  ⟨some 6, none, .mov (.tmp 12)⟩])
 (.ops false [
  ⟨some 13, none, .mov (.tmp 0)⟩,
  ⟨some 14, none, .mov (.tmp 6)⟩,
  ⟨some 15, none, .mx (.tmp 13) [(.tmp 14)]⟩,
  ⟨some 0, none, .mov (.tmp 15)⟩])))
 (.ops false [
  ⟨some 16, none, .bin .add (.tmp 9) (.cst (I 1))⟩,
  ⟨some 9, none, .mov (.tmp 16)⟩]))))
def keep104_0 : Option (List Nat) := some [0, 7, 8, 9]
def code104 : MF := ⟨18, [(4, none)], (.seq (.ops false [
  ⟨some 4, none, .mov (.cst (I 0))⟩])
 (.seq (.seq (.ops false [
  ⟨some 7, none, .mov (.tmp 1)⟩,
  ⟨some 8, none, .len (.tmp 7)⟩,
  ⟨some 9, none, .mov (.cst (I 0))⟩])
 (.block 0 (.loop keep104_0 body104_0)))
 (.seq (.ops false [
  ⟨some 17, none, .mov (.tmp 0)⟩,
  ⟨some 4, none, .mov (.tmp 17)⟩])
 .ret)))⟩
theorem comp104 : compF Cv 104 = some code104 := by kernel_rfl

def body105_0 : MC := (.seq (.ops false [
  ⟨some 9, none, .bin .lss (.tmp 8) (.tmp 7)⟩])
 (.seq (.cond (.tmp 9) .skip (.exit 0))
 (.seq (.block 1 (.seq (.ops false [
  ⟨some 10, none, .mov (.tmp 8)⟩,
  ⟨some 5, none, .mov (.tmp 10)⟩])
 (.seq (.ops false [
  ⟨some 11, none, .mov (.tmp 1)⟩,
  ⟨some 12, none, .mov (.tmp 0)⟩,
  ⟨some 13, none, .mov (.tmp 5)⟩,
  ⟨some 14, none, .ixs 1 (.tmp 12) (.tmp 13)⟩,
  ⟨some 15, none, .load none (.tmp 14)⟩,
  ⟨some 16, none, .bin .eql (.tmp 11) (.tmp 15)⟩])
 (.cond (.tmp 16) (.seq (.ops false [
  ⟨some 17, none, .mov (.tmp 5)⟩,
  ⟨some 4, none, .mov (.tmp 17)⟩])
 .ret) .skip))))
 (.ops false [
  ⟨some 18, none, .bin .add (.tmp 8) (.cst (I 1))⟩,
  ⟨some 8, none, .mov (.tmp 18)⟩]))))
def keep105_0 : Option (List Nat) := some [0, 1, 7, 8]
def code105 : MF := ⟨19, [(4, none)], (.seq (.ops false [
  ⟨some 4, none, .mov (.cst (I 0))⟩])
 (.seq (.seq (.ops false [
  ⟨some 6, none, .mov (.tmp 0)⟩,
  ⟨some 7, none, .len (.tmp 6)⟩,
  ⟨some 8, none, .mov (.cst (I 0))⟩])
 (.block 0 (.loop keep105_0 body105_0)))
 (.seq (.ops false [
  ⟨some 4, none, .mov (.cst (I (-1)))⟩])
 .ret)))⟩
theorem comp105 : compF Cv 105 = some code105 := by kernel_rfl

def code121 : MF := ⟨15, [(2, none)], (.seq (.ops false [
  ⟨some 1, none, .box (.tmp 0)⟩,
  ⟨some 2, none, .mov (.cst (I 0))⟩])
 (.seq (.ops false [
  ⟨some 3, none, .fad (.tmp 1) 6⟩,
  ⟨some 4, none, .load none (.tmp 3)⟩,
  ⟨some 5, none, .fad (.tmp 1) 3⟩,
  ⟨some 6, none, .ixa 3 1 (.tmp 5) (.tmp 4)⟩,
  ⟨some 7, none, .load none (.tmp 6)⟩,
  ⟨some 8, none, .fad (.tmp 1) 6⟩,
  ⟨some 9, none, .load none (.tmp 8)⟩,
  ⟨some 10, none, .bin .sub (.tmp 9) (.cst (I 1))⟩,
  ⟨some 11, none, .fad (.tmp 1) 3⟩,
  ⟨some 12, none, .ixa 3 1 (.tmp 11) (.tmp 10)⟩,
  ⟨some 13, none, .load none (.tmp 12)⟩,
  ⟨some 14, none, .bin .sub (.tmp 7) (.tmp 13)⟩,
  ⟨some 2, none, .mov (.tmp 14)⟩])
 .ret))⟩
theorem comp121 : compF Cv 121 = some code121 := by kernel_rfl

def code123 : MF := ⟨14, [(2, none)], (.seq (.ops false [
  ⟨some 1, none, .box (.tmp 0)⟩,
  ⟨some 2, none, .mov (.cst (I 0))⟩])
 (.seq (.ops false [
  ⟨some 3, none, .fad (.tmp 1) 6⟩,
  ⟨some 4, none, .load none (.tmp 3)⟩,
  ⟨some 5, none, .fad (.tmp 1) 3⟩,
  ⟨some 6, none, .ixa 3 1 (.tmp 5) (.tmp 4)⟩,
  ⟨some 7, none, .load none (.tmp 6)⟩,
  ⟨some 8, none, .fad (.tmp 1) 6⟩,
  ⟨some 9, none, .load none (.tmp 8)⟩,
  ⟨some 10, none, .fad (.tmp 1) 0⟩,
  ⟨some 11, none, .ixa 3 1 (.tmp 10) (.tmp 9)⟩,
  ⟨some 12, none, .load none (.tmp 11)⟩,
  ⟨some 13, none, .bin .sub (.tmp 7) (.tmp 12)⟩,
  ⟨some 2, none, .mov (.tmp 13)⟩])
 .ret))⟩
theorem comp123 : compF Cv 123 = some code123 := by kernel_rfl
@[simp] theorem imp_Cv {f : Nat} : Cv.imp f = (f == 80 || f == 90 || f == 100 || f == 102) := rfl
end Go.Ai
