/- This text shows the codes of functions of the program, each by the kernel. No conditions of its own. -/
import Derived.Test.YtknklhodhkohlaaDoorSimp
import Derived.Test.YtknklhodhkohlaaDoorProg
import Derived.KernelRfl
set_option linter.unusedSimpArgs false
set_option linter.unusedVariables false
set_option maxRecDepth 100000
namespace Go.Ai
def keeps : List ((Nat × Nat) × List Nat) := [((3, 14), [3, 7, 8, 9, 20, 22]),
  ((7, 9), [3, 7, 8, 9, 10, 11, 12]),
  ((7, 15), [3, 7, 8, 9, 10, 11, 13, 14]),
  ((12, 17), [1, 2]),
  ((13, 3), [1, 3, 4]),
  ((13, 7), [1, 3, 5]),
  ((13, 11), [1, 3, 6]),
  ((17, 4), [2, 3, 4, 5, 6]),
  ((19, 7), [5, 18, 19]),
  ((20, 6), [6, 18, 19, 20]),
  ((22, 6), [4, 6, 17, 18]),
  ((23, 2), [0, 1, 5]),
  ((25, 2), [0, 1, 5]),
  ((34, 3), [0, 3, 4]),
  ((36, 7), [8, 28, 29]),
  ((37, 3), [1, 2, 5, 6]),
  ((38, 6), [3, 11, 12]),
  ((39, 3), [0, 1, 5, 6]),
  ((40, 4), [1, 2, 3, 6, 7, 8]),
  ((40, 9), [1, 2, 6, 7, 9]),
  ((42, 4), [1, 2, 3, 4]),
  ((42, 9), [1, 2, 3, 5]),
  ((42, 13), [1, 2, 3, 6]),
  ((43, 3), [0, 1, 5, 6]),
  ((44, 4), [1, 2, 4, 5, 6]),
  ((50, 4), [1, 3, 64, 65, 66]),
  ((50, 9), [1, 3, 96, 97, 98]),
  ((56, 3), [1, 2, 3, 4, 9, 10]),
  ((56, 8), [1, 2, 3, 4, 9, 11]),
  ((56, 12), [1, 2, 3, 4, 9, 11, 12, 13]),
  ((57, 4), [1, 2, 4, 5, 20, 21, 22]),
  ((57, 10), [2, 4, 5, 41, 42, 43]),
  ((57, 13), [2, 4, 5, 9, 10, 41, 42, 43]),
  ((58, 8), [0, 1, 2, 3, 8, 10]),
  ((61, 4), [0, 3]),
  ((61, 9), [0, 3, 4, 5]),
  ((63, 3), [3, 4, 6, 11, 12, 13]),
  ((65, 3), [1, 5, 6, 16, 17, 18]),
  ((65, 9), [5, 6, 30, 31]),
  ((75, 8), [0, 1, 2, 3, 4, 5, 10, 12]),
  ((76, 4), [1, 2, 3, 7, 21, 22]),
  ((76, 7), [1, 2, 3, 7, 8, 21, 22, 27, 28]),
  ((76, 13), [2, 7, 55, 56, 57]),
  ((76, 17), [2, 7, 55, 56, 57, 75, 76]),
  ((78, 2), [0, 1, 5]),
  ((84, 2), [0, 1, 2, 3, 8, 9]),
  ((86, 2), [0, 7, 8, 9]),
  ((87, 5), [0, 3, 4]),
  ((88, 2), [0, 1, 7, 8]),
  ((90, 2), [0, 1, 7, 8]),
  ((91, 2), [0, 1, 7, 8]),
  ((92, 2), [0, 1, 3, 14, 15]),
  ((92, 6), [0, 1, 3, 4, 14, 15, 28, 29]),
  ((92, 11), [0, 1, 3, 4, 6, 7, 14, 15, 28, 29]),
  ((92, 14), [0, 1, 3, 4, 6, 7, 8, 14, 15, 28, 29]),
  ((94, 1), [0, 1, 2, 6]),
  ((94, 4), [0, 1, 2, 6, 7]),
  ((95, 4), [0, 6, 7, 8, 9]),
  ((95, 8), [0, 6, 7, 10]),
  ((96, 5), [0, 1, 6, 7, 8, 9]),
  ((98, 2), [0, 6, 7]),
  ((99, 3), [0, 1, 2, 7, 8]),
  ((99, 5), [0, 1, 2, 7, 8]),
  ((99, 14), [0, 1, 2, 7, 8, 9]),
  ((99, 20), [0, 1, 2, 7, 8, 10]),
  ((101, 3), [0, 1, 9, 10]),
  ((101, 3), [0, 1, 9, 10]),
  ((101, 5), [0, 1, 9, 10]),
  ((102, 3), [0, 1, 10, 11]),
  ((102, 5), [0, 1, 10, 11]),
  ((102, 13), [0, 1, 10, 11]),
  ((102, 13), [0, 1, 10, 11]),
  ((102, 15), [0, 1, 10, 11]),
  ((105, 5), [1, 2, 3, 4, 5, 7, 8, 21, 22]),
  ((105, 9), [1, 2, 3, 4, 5, 7, 8, 9, 21, 22, 41, 42, 43]),
  ((108, 1), [0, 2, 3, 8]),
  ((114, 2), [0, 1, 7, 8])]
def keepOf (f i : Nat) : Option (List Nat) := keeps.lookup (f, i)

noncomputable def Cv : Cfg := { P := Go.Proofs.Tryd.prog, glob := fun g => if g = 0 then some [I (-1), I (-1)] else if g = 1 then some [.fn (.func 133) [] [], .fn (.func 131) [] []] else if g = 2 then some [I (-1), I (-1), I (-1), I (-1), I (-1)] else none, wsite := fun f t => f == 20, imp := fun f => f == 58 || f == 61 || f == 75 || f == 83 || f == 92 || f == 105, keep := keepOf }

def body13_0 : MC := (.seq (.seq (.ops false [⟨some 54,none,.mov (.tmp 3)⟩,⟨some 55,none,.mov (.tmp 54)⟩,⟨some 56,some ((some 55), true),.mov (.tmp 4)⟩,⟨some 57,some ((some 55), true),.bin .lss (.tmp 56) (.cst (I 2))⟩,⟨some 58,none,.pick (.tmp 55) (.tmp 57) (.cst (.bool false))⟩])
 (.cond (.tmp 58) .skip (.exit 0)))
 (.seq (.block 1 (.ops false [⟨some 61,none,.mov (.tmp 4)⟩,⟨some 62,none,.fad (.tmp 1) 4⟩,⟨some 63,none,.ixa 2 2 (.tmp 62) (.tmp 61)⟩,⟨some 64,none,.load (some 2) (.tmp 63)⟩,⟨some 65,none,.call (.cst (.fn (.func 53) [] [])) [(.tmp 64), (.cst (I 1)), (.cst (I 3)), (.cst (I 1))]⟩,⟨some 3,none,.mov (.tmp 65)⟩]))
 (.ops false [⟨some 59,none,.mov (.tmp 4)⟩,⟨some 60,none,.bin .add (.tmp 59) (.cst (I 1))⟩,⟨some 4,none,.mov (.tmp 60)⟩])))
def keep13_0 : Option (List Nat) := some [1, 3, 4]
def body13_1 : MC := (.seq (.seq (.ops false [⟨some 66,none,.mov (.tmp 3)⟩,⟨some 67,none,.mov (.tmp 66)⟩,⟨some 68,some ((some 67), true),.mov (.tmp 5)⟩,⟨some 69,some ((some 67), true),.fad (.tmp 1) 8⟩,⟨some 70,some ((some 67), true),.load none (.tmp 69)⟩,⟨some 71,some ((some 67), true),.len (.tmp 70)⟩,⟨some 72,some ((some 67), true),.bin .lss (.tmp 68) (.tmp 71)⟩,⟨some 73,none,.pick (.tmp 67) (.tmp 72) (.cst (.bool false))⟩])
 (.cond (.tmp 73) .skip (.exit 2)))
 (.seq (.block 3 (.ops false [⟨some 76,none,.fad (.tmp 1) 8⟩,⟨some 77,none,.load none (.tmp 76)⟩,⟨some 78,none,.mov (.tmp 5)⟩,⟨some 79,none,.ixs 2 (.tmp 77) (.tmp 78)⟩,⟨some 80,none,.fad (.tmp 79) 0⟩,⟨some 81,none,.load none (.tmp 80)⟩,⟨some 82,none,.fad (.tmp 1) 0⟩,⟨some 83,none,.load none (.tmp 82)⟩,⟨some 84,none,.bin .sub (.tmp 83) (.cst (I 1))⟩,⟨some 85,none,.call (.cst (.fn (.func 29) [] [])) [(.tmp 81), (.cst (I 0)), (.tmp 84)]⟩,⟨some 86,none,.mov (.tmp 85)⟩,⟨some 87,some ((some 86), true),.fad (.tmp 1) 8⟩,⟨some 88,some ((some 86), true),.load none (.tmp 87)⟩,⟨some 89,some ((some 86), true),.mov (.tmp 5)⟩,⟨some 90,some ((some 86), true),.ixs 2 (.tmp 88) (.tmp 89)⟩,⟨some 91,some ((some 86), true),.fad (.tmp 90) 1⟩,⟨some 92,some ((some 86), true),.load none (.tmp 91)⟩,⟨some 93,some ((some 86), true),.fad (.tmp 1) 1⟩,⟨some 94,some ((some 86), true),.load none (.tmp 93)⟩,⟨some 95,some ((some 86), true),.bin .sub (.tmp 94) (.cst (I 1))⟩,⟨some 96,some ((some 86), true),.call (.cst (.fn (.func 29) [] [])) [(.tmp 92), (.cst (I 1)), (.tmp 95)]⟩,⟨some 97,none,.pick (.tmp 86) (.tmp 96) (.cst (.bool false))⟩,⟨some 3,none,.mov (.tmp 97)⟩]))
 (.ops false [⟨some 74,none,.mov (.tmp 5)⟩,⟨some 75,none,.bin .add (.tmp 74) (.cst (I 1))⟩,⟨some 5,none,.mov (.tmp 75)⟩])))
def keep13_1 : Option (List Nat) := some [1, 3, 5]
def body13_2 : MC := (.seq (.seq (.ops false [⟨some 98,none,.mov (.tmp 3)⟩,⟨some 99,none,.mov (.tmp 98)⟩,⟨some 100,some ((some 99), true),.mov (.tmp 6)⟩,⟨some 101,some ((some 99), true),.fad (.tmp 1) 10⟩,⟨some 102,some ((some 99), true),.load none (.tmp 101)⟩,⟨some 103,some ((some 99), true),.len (.tmp 102)⟩,⟨some 104,some ((some 99), true),.bin .lss (.tmp 100) (.tmp 103)⟩,⟨some 105,none,.pick (.tmp 99) (.tmp 104) (.cst (.bool false))⟩])
 (.cond (.tmp 105) .skip (.exit 4)))
 (.seq (.block 5 (.ops false [⟨some 108,none,.fad (.tmp 1) 10⟩,⟨some 109,none,.load none (.tmp 108)⟩,⟨some 110,none,.mov (.tmp 6)⟩,⟨some 111,none,.ixs 3 (.tmp 109) (.tmp 110)⟩,⟨some 112,none,.fad (.tmp 111) 0⟩,⟨some 113,none,.load none (.tmp 112)⟩,⟨some 114,none,.fad (.tmp 1) 0⟩,⟨some 115,none,.load none (.tmp 114)⟩,⟨some 116,none,.bin .sub (.tmp 115) (.cst (I 1))⟩,⟨some 117,none,.call (.cst (.fn (.func 29) [] [])) [(.tmp 113), (.cst (I 0)), (.tmp 116)]⟩,⟨some 118,none,.mov (.tmp 117)⟩,⟨some 119,some ((some 118), true),.fad (.tmp 1) 10⟩,⟨some 120,some ((some 118), true),.load none (.tmp 119)⟩,⟨some 121,some ((some 118), true),.mov (.tmp 6)⟩,⟨some 122,some ((some 118), true),.ixs 3 (.tmp 120) (.tmp 121)⟩,⟨some 123,some ((some 118), true),.fad (.tmp 122) 1⟩,⟨some 124,some ((some 118), true),.load none (.tmp 123)⟩,⟨some 125,some ((some 118), true),.fad (.tmp 1) 1⟩,⟨some 126,some ((some 118), true),.load none (.tmp 125)⟩,⟨some 127,some ((some 118), true),.bin .sub (.tmp 126) (.cst (I 1))⟩,⟨some 128,some ((some 118), true),.call (.cst (.fn (.func 29) [] [])) [(.tmp 124), (.cst (I 0)), (.tmp 127)]⟩,⟨some 129,none,.pick (.tmp 118) (.tmp 128) (.cst (.bool false))⟩,⟨some 3,none,.mov (.tmp 129)⟩]))
 (.ops false [⟨some 106,none,.mov (.tmp 6)⟩,⟨some 107,none,.bin .add (.tmp 106) (.cst (I 1))⟩,⟨some 6,none,.mov (.tmp 107)⟩])))
def keep13_2 : Option (List Nat) := some [1, 3, 6]
def code13 : MF := ⟨131, [(2, none)], (.seq (.ops false [⟨some 1,none,.box (.tmp 0)⟩,⟨some 2,none,.mov (.cst (.bool false))⟩])
 (.seq (.ops false [⟨some 7,none,.load (some 11) (.tmp 1)⟩,⟨some 8,none,.call (.cst (.fn (.func 50) [] [])) [(.tmp 7)]⟩,⟨some 9,none,.bin .eql (.tmp 8) (.cst (I 0))⟩,⟨some 10,none,.mov (.tmp 9)⟩,⟨some 11,some ((some 10), true),.fad (.tmp 1) 0⟩,⟨some 12,some ((some 10), true),.load none (.tmp 11)⟩,⟨some 13,some ((some 10), true),.call (.cst (.fn (.func 29) [] [])) [(.tmp 12), (.cst (I 1)), (.cst (I 5))]⟩,⟨some 14,none,.pick (.tmp 10) (.tmp 13) (.cst (.bool false))⟩,⟨some 15,none,.mov (.tmp 14)⟩,⟨some 16,some ((some 15), true),.fad (.tmp 1) 1⟩,⟨some 17,some ((some 15), true),.load none (.tmp 16)⟩,⟨some 18,some ((some 15), true),.call (.cst (.fn (.func 29) [] [])) [(.tmp 17), (.cst (I 1)), (.cst (I 6))]⟩,⟨some 19,none,.pick (.tmp 15) (.tmp 18) (.cst (.bool false))⟩,⟨some 20,none,.mov (.tmp 19)⟩,⟨some 21,some ((some 20), true),.fad (.tmp 1) 2⟩,⟨some 22,some ((some 20), true),.load none (.tmp 21)⟩,⟨some 23,some ((some 20), true),.fad (.tmp 1) 0⟩,⟨some 24,some ((some 20), true),.load none (.tmp 23)⟩,⟨some 25,some ((some 20), true),.bin .shl (.cst (I 1)) (.tmp 24)⟩,⟨some 26,some ((some 20), true),.bin .sub (.tmp 25) (.cst (I 1))⟩,⟨some 27,some ((some 20), true),.call (.cst (.fn (.func 29) [] [])) [(.tmp 22), (.cst (I 1)), (.tmp 26)]⟩,⟨some 28,none,.pick (.tmp 20) (.tmp 27) (.cst (.bool false))⟩,⟨some 29,none,.mov (.tmp 28)⟩,⟨some 30,some ((some 29), true),.fad (.tmp 1) 3⟩,⟨some 31,some ((some 29), true),.load none (.tmp 30)⟩,⟨some 32,some ((some 29), true),.fad (.tmp 1) 1⟩,⟨some 33,some ((some 29), true),.load none (.tmp 32)⟩,⟨some 34,some ((some 29), true),.bin .sub (.tmp 33) (.cst (I 1))⟩,⟨some 35,some ((some 29), true),.call (.cst (.fn (.func 29) [] [])) [(.tmp 31), (.cst (I 0)), (.tmp 34)]⟩,⟨some 36,none,.pick (.tmp 29) (.tmp 35) (.cst (.bool false))⟩,⟨some 37,none,.mov (.tmp 36)⟩,⟨some 38,some ((some 37), true),.fad (.tmp 1) 8⟩,⟨some 39,some ((some 37), true),.load none (.tmp 38)⟩,⟨some 40,some ((some 37), true),.len (.tmp 39)⟩,⟨some 41,some ((some 37), true),.bin .leq (.tmp 40) (.cst (I 3))⟩,⟨some 42,none,.pick (.tmp 37) (.tmp 41) (.cst (.bool false))⟩,⟨some 43,none,.mov (.tmp 42)⟩,⟨some 44,some ((some 43), true),.fad (.tmp 1) 9⟩,⟨some 45,some ((some 43), true),.load none (.tmp 44)⟩,⟨some 46,some ((some 43), true),.call (.cst (.fn (.func 29) [] [])) [(.tmp 45), (.cst (I 0)), (.cst (I 3))]⟩,⟨some 47,none,.pick (.tmp 43) (.tmp 46) (.cst (.bool false))⟩,⟨some 48,none,.mov (.tmp 47)⟩,⟨some 49,some ((some 48), true),.fad (.tmp 1) 10⟩,⟨some 50,some ((some 48), true),.load none (.tmp 49)⟩,⟨some 51,some ((some 48), true),.len (.tmp 50)⟩,⟨some 52,some ((some 48), true),.bin .leq (.tmp 51) (.cst (I 4))⟩,⟨some 53,none,.pick (.tmp 48) (.tmp 52) (.cst (.bool false))⟩,⟨some 3,none,.mov (.tmp 53)⟩])
 (.seq (.seq (.ops false [⟨some 4,none,.mov (.cst (I 0))⟩])
 (.block 0 (.loop keep13_0 body13_0)))
 (.seq (.seq (.ops false [⟨some 5,none,.mov (.cst (I 0))⟩])
 (.block 2 (.loop keep13_1 body13_1)))
 (.seq (.seq (.ops false [⟨some 6,none,.mov (.cst (I 0))⟩])
 (.block 4 (.loop keep13_2 body13_2)))
 (.seq (.ops false [⟨some 130,none,.mov (.tmp 3)⟩,⟨some 2,none,.mov (.tmp 130)⟩])
 .ret))))))⟩
theorem comp13 : compF Cv 13 = some code13 := by kernel_rfl

def code14 : MF := ⟨159, [(0, none)], (.seq (.ops false [⟨some 0,none,.mov (.cst (.bool false))⟩])
 (.seq (.ops false [⟨some 19,none,.call (.cst (.fn (.func 45) [] [])) []⟩,⟨some 20,none,.call (.cst (.fn (.func 27) [] [])) [(.tmp 19), (.cst (I 2)), (.cst (I 1))]⟩,⟨some 18,none,.mov (.tmp 20)⟩,⟨some 21,none,.ext (.tmp 18) 0⟩,⟨some 22,none,.ext (.tmp 18) 1⟩,⟨some 1,none,.mov (.tmp 21)⟩,⟨some 2,none,.mov (.tmp 22)⟩])
 (.seq (.ops false [⟨some 24,none,.call (.cst (.fn (.func 52) [] [])) []⟩,⟨some 25,none,.call (.cst (.fn (.func 28) [] [])) [(.tmp 24), (.cst (I 0)), (.cst (I 1))]⟩,⟨some 23,none,.mov (.tmp 25)⟩,⟨some 26,none,.ext (.tmp 23) 0⟩,⟨some 27,none,.ext (.tmp 23) 1⟩,⟨some 3,none,.mov (.tmp 26)⟩,⟨some 4,none,.mov (.tmp 27)⟩])
 (.seq (.ops false [⟨some 29,none,.call (.cst (.fn (.func 45) [] [])) []⟩,⟨some 30,none,.call (.cst (.fn (.func 26) [] [])) [(.tmp 29), (.cst (I 3))]⟩,⟨some 28,none,.mov (.tmp 30)⟩,⟨some 31,none,.ext (.tmp 28) 0⟩,⟨some 32,none,.ext (.tmp 28) 1⟩,⟨some 5,none,.alloc [(I 0),(I 0)]⟩,⟨none,none,.store 2 (.tmp 5) (.tmp 31)⟩,⟨some 6,none,.mov (.tmp 32)⟩])
 (.seq (.ops false [⟨some 34,none,.call (.cst (.fn (.func 52) [] [])) []⟩,⟨some 35,none,.call (.cst (.fn (.func 20) [] [])) [(.tmp 34)]⟩,⟨some 33,none,.mov (.tmp 35)⟩,⟨some 36,none,.ext (.tmp 33) 0⟩,⟨some 37,none,.ext (.tmp 33) 1⟩,⟨some 7,none,.mov (.tmp 36)⟩,⟨some 8,none,.mov (.tmp 37)⟩])
 (.seq (.ops false [⟨some 39,none,.call (.cst (.fn (.func 45) [] [])) []⟩,⟨some 40,none,.call (.cst (.fn (.func 21) [] [])) [(.tmp 39), (.cst (I 0))]⟩,⟨some 38,none,.mov (.tmp 40)⟩,⟨some 41,none,.ext (.tmp 38) 0⟩,⟨some 42,none,.ext (.tmp 38) 1⟩,⟨some 9,none,.alloc [(I 0),(I 0)]⟩,⟨none,none,.store 2 (.tmp 9) (.tmp 41)⟩,⟨some 10,none,.mov (.tmp 42)⟩])
 (.seq (.seq (.ops true [⟨some 43,none,.mov (.tmp 2)⟩,⟨some 44,none,.bin .neq (.tmp 43) (.cst (I 0))⟩,⟨some 45,none,.mov (.tmp 44)⟩,⟨some 46,some ((some 45), false),.mov (.tmp 4)⟩,⟨some 47,some ((some 45), false),.bin .neq (.tmp 46) (.cst (I 0))⟩,⟨some 48,none,.pick (.tmp 45) (.cst (.bool true)) (.tmp 47)⟩,⟨some 49,none,.mov (.tmp 48)⟩,⟨some 50,some ((some 49), false),.mov (.tmp 6)⟩,⟨some 51,some ((some 49), false),.bin .neq (.tmp 50) (.cst (I 0))⟩,⟨some 52,none,.pick (.tmp 49) (.cst (.bool true)) (.tmp 51)⟩,⟨some 53,none,.mov (.tmp 52)⟩,⟨some 54,some ((some 53), false),.mov (.tmp 8)⟩,⟨some 55,some ((some 53), false),.bin .neq (.tmp 54) (.cst (I 0))⟩,⟨some 56,none,.pick (.tmp 53) (.cst (.bool true)) (.tmp 55)⟩,⟨some 57,none,.mov (.tmp 56)⟩,⟨some 58,some ((some 57), false),.mov (.tmp 10)⟩,⟨some 59,some ((some 57), false),.bin .neq (.tmp 58) (.cst (I 0))⟩,⟨some 60,none,.pick (.tmp 57) (.cst (.bool true)) (.tmp 59)⟩,⟨some 61,none,.mov (.tmp 60)⟩,⟨some 62,some ((some 61), false),.mov (.tmp 1)⟩,⟨some 63,some ((some 61), false),.bin .neq (.tmp 62) (.cst (I 1))⟩,⟨some 64,none,.pick (.tmp 61) (.cst (.bool true)) (.tmp 63)⟩,⟨some 65,none,.mov (.tmp 64)⟩,⟨some 66,some ((some 65), false),.mov (.tmp 3)⟩,⟨some 67,some ((some 65), false),.bin .neq (.tmp 66) (.cst (I 2))⟩,⟨some 68,none,.pick (.tmp 65) (.cst (.bool true)) (.tmp 67)⟩,⟨some 69,none,.mov (.tmp 68)⟩,⟨some 70,some ((some 69), false),.load (some 2) (.tmp 5)⟩,⟨some 71,some ((some 69), false),.call (.cst (.fn (.func 48) [] [])) [(.cst (I 2)), (.cst (I 3))]⟩,⟨some 72,some ((some 69), false),.eqa 2 true (.tmp 70) (.tmp 71)⟩,⟨some 73,none,.pick (.tmp 69) (.cst (.bool true)) (.tmp 72)⟩,⟨some 74,none,.mov (.tmp 73)⟩,⟨some 75,some ((some 74), false),.mov (.tmp 7)⟩,⟨some 76,some ((some 74), false),.bsl 1 false (I 0) 1 [(0, (.cst (I 0)))]⟩,⟨some 77,some ((some 74), false),.call (.cst (.fn (.func 43) [] [])) [(.tmp 75), (.tmp 76)]⟩,⟨some 78,some ((some 74), false),.lnot (.tmp 77)⟩,⟨some 79,none,.pick (.tmp 74) (.cst (.bool true)) (.tmp 78)⟩,⟨some 80,none,.mov (.tmp 79)⟩,⟨some 81,some ((some 80), false),.load (some 2) (.tmp 9)⟩,⟨some 82,some ((some 80), false),.call (.cst (.fn (.func 48) [] [])) [(.cst (I 1)), (.cst (I 2))]⟩,⟨some 83,some ((some 80), false),.eqa 2 true (.tmp 81) (.tmp 82)⟩,⟨some 84,none,.pick (.tmp 80) (.cst (.bool true)) (.tmp 83)⟩])
 (.cond (.tmp 84) (.seq (.ops false [⟨some 0,none,.mov (.cst (.bool false))⟩])
 .ret) .skip))
 (.seq (.ops false [⟨some 86,none,.call (.cst (.fn (.func 46) [] [])) []⟩,⟨some 87,none,.call (.cst (.fn (.func 22) [] [])) [(.tmp 86)]⟩,⟨some 85,none,.mov (.tmp 87)⟩,⟨some 88,none,.ext (.tmp 85) 0⟩,⟨some 89,none,.ext (.tmp 85) 1⟩,⟨some 11,none,.mov (.tmp 88)⟩,⟨some 2,none,.mov (.tmp 89)⟩])
 (.seq (.ops false [⟨some 91,none,.call (.cst (.fn (.func 45) [] [])) []⟩,⟨some 92,none,.call (.cst (.fn (.func 36) [] [])) [(.tmp 91), (.cst (I 1))]⟩,⟨some 90,none,.mov (.tmp 92)⟩,⟨some 93,none,.ext (.tmp 90) 0⟩,⟨some 94,none,.ext (.tmp 90) 1⟩,⟨some 12,none,.mov (.tmp 93)⟩,⟨some 4,none,.mov (.tmp 94)⟩])
 (.seq (.ops false [⟨some 96,none,.call (.cst (.fn (.func 45) [] [])) []⟩,⟨some 97,none,.call (.cst (.fn (.func 32) [] [])) [(.cst (I 3)), (.cst (I 3)), (.cst (.bool true))]⟩,⟨some 98,none,.call (.cst (.fn (.func 31) [] [])) [(.tmp 96), (.tmp 97)]⟩,⟨some 95,none,.mov (.tmp 98)⟩,⟨some 99,none,.ext (.tmp 95) 0⟩,⟨some 100,none,.ext (.tmp 95) 1⟩,⟨some 13,none,.mov (.tmp 99)⟩,⟨some 6,none,.mov (.tmp 100)⟩])
 (.seq (.ops false [⟨some 102,none,.call (.cst (.fn (.func 51) [] [])) []⟩,⟨some 103,none,.call (.cst (.fn (.func 19) [] [])) [(.tmp 102)]⟩,⟨some 101,none,.mov (.tmp 103)⟩,⟨some 104,none,.ext (.tmp 101) 0⟩,⟨some 105,none,.ext (.tmp 101) 1⟩,⟨some 14,none,.mov (.tmp 104)⟩,⟨some 8,none,.mov (.tmp 105)⟩])
 (.seq (.ops false [⟨some 107,none,.call (.cst (.fn (.func 45) [] [])) []⟩,⟨some 108,none,.call (.cst (.fn (.func 18) [] [])) [(.tmp 107)]⟩,⟨some 106,none,.mov (.tmp 108)⟩,⟨some 109,none,.ext (.tmp 106) 0⟩,⟨some 110,none,.ext (.tmp 106) 1⟩,⟨some 15,none,.mov (.tmp 109)⟩,⟨some 10,none,.mov (.tmp 110)⟩])
 (.seq (.ops false [⟨some 112,none,.call (.cst (.fn (.func 46) [] [])) []⟩,⟨some 113,none,.call (.cst (.fn (.func 26) [] [])) [(.tmp 112), (.cst (I 2))]⟩,⟨some 111,none,.mov (.tmp 113)⟩,⟨some 114,none,.ext (.tmp 111) 0⟩,⟨some 115,none,.ext (.tmp 111) 1⟩,⟨some 16,none,.alloc [(I 0),(I 0)]⟩,⟨none,none,.store 2 (.tmp 16) (.tmp 114)⟩,⟨some 17,none,.mov (.tmp 115)⟩])
 (.seq (.ops false [⟨some 116,none,.mov (.tmp 2)⟩,⟨some 117,none,.bin .eql (.tmp 116) (.cst (I 0))⟩,⟨some 118,none,.mov (.tmp 117)⟩,⟨some 119,some ((some 118), true),.mov (.tmp 4)⟩,⟨some 120,some ((some 118), true),.bin .eql (.tmp 119) (.cst (I 0))⟩,⟨some 121,none,.pick (.tmp 118) (.tmp 120) (.cst (.bool false))⟩,⟨some 122,none,.mov (.tmp 121)⟩,⟨some 123,some ((some 122), true),.mov (.tmp 6)⟩,⟨some 124,some ((some 122), true),.bin .eql (.tmp 123) (.cst (I 0))⟩,⟨some 125,none,.pick (.tmp 122) (.tmp 124) (.cst (.bool false))⟩,⟨some 126,none,.mov (.tmp 125)⟩,⟨some 127,some ((some 126), true),.mov (.tmp 8)⟩,⟨some 128,some ((some 126), true),.bin .eql (.tmp 127) (.cst (I 0))⟩,⟨some 129,none,.pick (.tmp 126) (.tmp 128) (.cst (.bool false))⟩,⟨some 130,none,.mov (.tmp 129)⟩,⟨some 131,some ((some 130), true),.mov (.tmp 10)⟩,⟨some 132,some ((some 130), true),.bin .eql (.tmp 131) (.cst (I 0))⟩,⟨some 133,none,.pick (.tmp 130) (.tmp 132) (.cst (.bool false))⟩,⟨some 134,none,.mov (.tmp 133)⟩,⟨some 135,some ((some 134), true),.mov (.tmp 17)⟩,⟨some 136,some ((some 134), true),.bin .eql (.tmp 135) (.cst (I 4))⟩,⟨some 137,none,.pick (.tmp 134) (.tmp 136) (.cst (.bool false))⟩,⟨some 138,none,.mov (.tmp 137)⟩,⟨some 139,some ((some 138), true),.mov (.tmp 11)⟩,⟨some 140,some ((some 138), true),.bsl 1 false (I 0) 2 [(0, (.cst (I 2))), (1, (.cst (I 3)))]⟩,⟨some 141,some ((some 138), true),.call (.cst (.fn (.func 43) [] [])) [(.tmp 139), (.tmp 140)]⟩,⟨some 142,none,.pick (.tmp 138) (.tmp 141) (.cst (.bool false))⟩,⟨some 143,none,.mov (.tmp 142)⟩,⟨some 144,some ((some 143), true),.mov (.tmp 12)⟩,⟨some 145,some ((some 143), true),.bsl 1 false (I 0) 1 [(0, (.cst (I 1)))]⟩,⟨some 146,some ((some 143), true),.call (.cst (.fn (.func 43) [] [])) [(.tmp 144), (.tmp 145)]⟩,⟨some 147,none,.pick (.tmp 143) (.tmp 146) (.cst (.bool false))⟩,⟨some 148,none,.mov (.tmp 147)⟩,⟨some 149,some ((some 148), true),.mov (.tmp 13)⟩,⟨some 150,none,.pick (.tmp 148) (.tmp 149) (.cst (.bool false))⟩,⟨some 151,none,.mov (.tmp 150)⟩,⟨some 152,some ((some 151), true),.mov (.tmp 14)⟩,⟨some 153,some ((some 151), true),.bsl 1 false (I 0) 1 [(0, (.cst (I 0)))]⟩,⟨some 154,some ((some 151), true),.call (.cst (.fn (.func 43) [] [])) [(.tmp 152), (.tmp 153)]⟩,⟨some 155,none,.pick (.tmp 151) (.tmp 154) (.cst (.bool false))⟩,⟨some 156,none,.mov (.tmp 155)⟩,⟨some 157,some ((some 156), true),.mov (.tmp 15)⟩,⟨some 158,none,.pick (.tmp 156) (.tmp 157) (.cst (.bool false))⟩,⟨some 0,none,.mov (.tmp 158)⟩])
 .ret))))))))))))))⟩
theorem comp14 : compF Cv 14 = some code14 := by kernel_rfl

def code15 : MF := ⟨49, [(4, some (some 4))], (.seq (.ops false [⟨some 2,none,.box (.tmp 0)⟩,⟨some 4,none,.alloc [(I 0),(I 0),(I 0), .nils]⟩])
 (.seq (.ops true [⟨some 7,none,.fad (.tmp 2) 2⟩,⟨some 8,none,.load none (.tmp 7)⟩,⟨some 9,none,.fad (.tmp 2) 0⟩,⟨some 10,none,.load none (.tmp 9)⟩,⟨some 11,none,.call (.cst (.fn (.func 39) [] [])) [(.tmp 8), (.tmp 10)]⟩,⟨some 12,none,.mov (.tmp 1)⟩,⟨some 13,none,.call (.cst (.fn (.func 54) [] [])) [(.tmp 12), (.cst (I 0))]⟩,⟨some 14,none,.call (.cst (.fn (.func 54) [] [])) [(.tmp 11), (.tmp 13)]⟩,⟨some 15,none,.fad (.tmp 2) 4⟩,⟨some 16,none,.ixa 2 2 (.tmp 15) (.cst (I 0))⟩,⟨some 17,none,.load (some 2) (.tmp 16)⟩,⟨some 18,none,.mov (.tmp 1)⟩,⟨some 19,none,.call (.cst (.fn (.func 54) [] [])) [(.tmp 18), (.cst (I 2))]⟩,⟨some 20,none,.call (.cst (.fn (.func 55) [] [])) [(.tmp 17), (.tmp 19)]⟩,⟨some 21,none,.fad (.tmp 2) 4⟩,⟨some 22,none,.ixa 2 2 (.tmp 21) (.cst (I 1))⟩,⟨some 23,none,.load (some 2) (.tmp 22)⟩,⟨some 24,none,.mov (.tmp 1)⟩,⟨some 25,none,.call (.cst (.fn (.func 54) [] [])) [(.tmp 24), (.cst (I 3))]⟩,⟨some 26,none,.call (.cst (.fn (.func 55) [] [])) [(.tmp 23), (.tmp 25)]⟩,⟨some 27,none,.bld [(I 0),(I 0),(I 0), .nils] [(0, 1, (.tmp 14)), (1, 1, (.tmp 20)), (2, 1, (.tmp 26))]⟩,⟨some 5,none,.alloc [(I 0),(I 0),(I 0), .nils]⟩,⟨none,none,.store 4 (.tmp 5) (.tmp 27)⟩])
 (.seq (.ops true [⟨some 28,none,.mov (.tmp 1)⟩,⟨some 29,none,.call (.cst (.fn (.func 54) [] [])) [(.tmp 28), (.cst (I 1))]⟩,⟨some 30,none,.fad (.tmp 2) 3⟩,⟨some 31,none,.load none (.tmp 30)⟩,⟨some 32,none,.bin .add (.tmp 31) (.cst (I 1))⟩,⟨some 33,none,.call (.cst (.fn (.func 16) [] [])) [(.tmp 29), (.tmp 32)]⟩,⟨some 6,none,.mov (.tmp 33)⟩])
 (.seq (.seq (.ops false [⟨some 34,none,.load (some 11) (.tmp 2)⟩,⟨some 35,none,.fad (.tmp 5) 0⟩,⟨some 36,none,.load none (.tmp 35)⟩,⟨some 37,none,.call (.cst (.fn (.func 37) [] [])) [(.tmp 34), (.tmp 36)]⟩,⟨some 38,none,.mov (.tmp 6)⟩,⟨some 39,none,.bin .leq (.tmp 37) (.tmp 38)⟩])
 (.cond (.tmp 39) (.ops false [⟨some 6,none,.mov (.cst (I 0))⟩]) .skip))
 (.seq (.ops false [⟨some 40,none,.load (some 11) (.tmp 2)⟩,⟨some 41,none,.fad (.tmp 5) 0⟩,⟨some 42,none,.load none (.tmp 41)⟩,⟨some 43,none,.mov (.tmp 6)⟩,⟨some 44,none,.fad (.tmp 5) 2⟩,⟨some 45,none,.load none (.tmp 44)⟩,⟨some 46,none,.call (.cst (.fn (.func 56) [] [])) [(.tmp 40), (.tmp 42), (.tmp 43), (.tmp 45)]⟩,⟨some 47,none,.fad (.tmp 5) 3⟩,⟨none,none,.store 1 (.tmp 47) (.tmp 46)⟩])
 (.seq (.ops false [⟨some 48,none,.load (some 4) (.tmp 5)⟩,⟨none,none,.store 4 (.tmp 4) (.tmp 48)⟩])
 .ret))))))⟩
theorem comp15 : compF Cv 15 = some code15 := by kernel_rfl

def code16 : MF := ⟨17, [(4, none)], (.seq (.ops false [⟨some 4,none,.mov (.cst (I 0))⟩])
 (.seq (.seq (.ops false [⟨some 6,none,.mov (.tmp 1)⟩,⟨some 7,none,.bin .lss (.tmp 6) (.cst (I 1))⟩])
 (.cond (.tmp 7) (.seq (.ops false [⟨some 4,none,.mov (.cst (I 0))⟩])
 .ret) .skip))
 (.seq (.ops false [⟨some 8,none,.mov (.tmp 0)⟩,⟨some 9,none,.mov (.tmp 1)⟩,⟨some 10,none,.bin .rem (.tmp 8) (.tmp 9)⟩,⟨some 5,none,.mov (.tmp 10)⟩])
 (.seq (.seq (.ops false [⟨some 11,none,.mov (.tmp 5)⟩,⟨some 12,none,.bin .lss (.tmp 11) (.cst (I 0))⟩])
 (.cond (.tmp 12) (.ops false [⟨some 13,none,.mov (.tmp 5)⟩,⟨some 14,none,.mov (.tmp 1)⟩,⟨some 15,none,.bin .add (.tmp 13) (.tmp 14)⟩,⟨some 5,none,.mov (.tmp 15)⟩]) .skip))
 (.seq (.ops false [⟨some 16,none,.mov (.tmp 5)⟩,⟨some 4,none,.mov (.tmp 16)⟩])
 .ret)))))⟩
theorem comp16 : compF Cv 16 = some code16 := by kernel_rfl

def body17_0 : MC := (.seq (.seq (.ops false [⟨some 10,none,.mov (.tmp 6)⟩,⟨some 11,none,.fad (.tmp 2) 10⟩,⟨some 12,none,.load none (.tmp 11)⟩,⟨some 13,none,.len (.tmp 12)⟩,⟨some 14,none,.bin .lss (.tmp 10) (.tmp 13)⟩])
 (.cond (.tmp 14) .skip (.exit 0)))
 (.seq (.block 1 (.seq (.ops false [⟨some 17,none,.fad (.tmp 2) 10⟩,⟨some 18,none,.load none (.tmp 17)⟩,⟨some 19,none,.mov (.tmp 6)⟩,⟨some 20,none,.ixs 3 (.tmp 18) (.tmp 19)⟩,⟨some 21,none,.load (some 3) (.tmp 20)⟩,⟨some 7,none,.alloc [(I 0),(I 0), (.bool false)]⟩,⟨none,none,.store 3 (.tmp 7) (.tmp 21)⟩])
 (.ops true [⟨some 22,none,.fad (.tmp 5) 10⟩,⟨some 23,none,.load none (.tmp 22)⟩,⟨some 24,none,.fad (.tmp 7) 0⟩,⟨some 25,none,.load none (.tmp 24)⟩,⟨some 26,none,.fad (.tmp 7) 1⟩,⟨some 27,none,.load none (.tmp 26)⟩,⟨some 28,none,.load (some 4) (.tmp 3)⟩,⟨some 29,none,.fad (.tmp 7) 0⟩,⟨some 30,none,.load none (.tmp 29)⟩,⟨some 31,none,.fad (.tmp 7) 1⟩,⟨some 32,none,.load none (.tmp 31)⟩,⟨some 33,none,.call (.cst (.fn (.func 30) [] [])) [(.tmp 28), (.tmp 30), (.tmp 32)]⟩,⟨some 34,none,.call (.cst (.fn (.func 32) [] [])) [(.tmp 25), (.tmp 27), (.tmp 33)]⟩,⟨some 35,none,.bsl 3 true (.agg [(I 0),(I 0), (.bool false)]) 1 [(0, (.tmp 34))]⟩,⟨some 36,none,.app false 3 24 true (.tmp 23) (.tmp 35)⟩,⟨some 37,none,.fad (.tmp 5) 10⟩,⟨none,none,.store 1 (.tmp 37) (.tmp 36)⟩])))
 (.ops false [⟨some 15,none,.mov (.tmp 6)⟩,⟨some 16,none,.bin .add (.tmp 15) (.cst (I 1))⟩,⟨some 6,none,.mov (.tmp 16)⟩])))
def keep17_0 : Option (List Nat) := some [2, 3, 4, 5, 6]
def code17 : MF := ⟨39, [(4, some (some 11))], (.seq (.ops false [⟨some 2,none,.box (.tmp 0)⟩,⟨some 3,none,.box (.tmp 1)⟩,⟨some 4,none,.alloc [(I 0),(I 0),(I 0),(I 0),(I 0),(I 0),(I 0),(I 0), .nils, (I 0), .nils]⟩])
 (.seq (.ops false [⟨some 8,none,.load (some 11) (.tmp 2)⟩,⟨some 5,none,.alloc [(I 0),(I 0),(I 0),(I 0),(I 0),(I 0),(I 0),(I 0), .nils, (I 0), .nils]⟩,⟨none,none,.store 11 (.tmp 5) (.tmp 8)⟩])
 (.seq (.ops false [⟨some 9,none,.fad (.tmp 5) 10⟩,⟨none,none,.store 1 (.tmp 9) (.cst .nils)⟩])
 (.seq (.seq (.ops false [⟨some 6,none,.mov (.cst (I 0))⟩])
 (.block 0 (.loop keep17_0 body17_0)))
 (.seq (.ops false [⟨some 38,none,.load (some 11) (.tmp 5)⟩,⟨none,none,.store 11 (.tmp 4) (.tmp 38)⟩])
 .ret)))))⟩
theorem comp17 : compF Cv 17 = some code17 := by kernel_rfl

def code18 : MF := ⟨15, [(2, none), (3, none)], (.seq (.ops false [⟨some 1,none,.box (.tmp 0)⟩,⟨some 2,none,.mov (.cst (.bool false))⟩,⟨some 3,none,.mov (.cst (I 0))⟩])
 (.seq (.seq (.ops false [⟨some 5,none,.load (some 11) (.tmp 1)⟩,⟨some 6,none,.call (.cst (.fn (.func 50) [] [])) [(.tmp 5)]⟩,⟨some 4,none,.mov (.tmp 6)⟩])
 (.seq (.ops false [⟨some 7,none,.mov (.tmp 4)⟩,⟨some 8,none,.bin .neq (.tmp 7) (.cst (I 0))⟩])
 (.cond (.tmp 8) (.seq (.ops false [⟨some 9,none,.mov (.tmp 4)⟩,⟨some 2,none,.mov (.cst (.bool false))⟩,⟨some 3,none,.mov (.tmp 9)⟩])
 .ret) .skip)))
 (.seq (.ops false [⟨some 10,none,.load (some 11) (.tmp 1)⟩,⟨some 11,none,.call (.cst (.fn (.func 57) [] [])) [(.tmp 10), (.cst .nils)]⟩,⟨some 12,none,.fld none (.tmp 11) 12⟩,⟨some 13,none,.len (.tmp 12)⟩,⟨some 14,none,.bin .gtr (.tmp 13) (.cst (I 0))⟩,⟨some 2,none,.mov (.tmp 14)⟩,⟨some 3,none,.mov (.cst (I 0))⟩])
 .ret)))⟩
theorem comp18 : compF Cv 18 = some code18 := by kernel_rfl

def body19_0 : MC := (.seq (.ops false [⟨some 20,none,.bin .lss (.tmp 19) (.tmp 18)⟩])
 (.seq (.cond (.tmp 20) .skip (.exit 0))
 (.seq (.block 1 (.seq (.ops false [⟨some 21,none,.mov (.tmp 19)⟩,⟨some 6,none,.mov (.tmp 21)⟩])
 (.seq (.ops false [⟨some 23,none,.load none (.tmp 5)⟩,⟨some 24,none,.mov (.tmp 6)⟩,⟨some 25,none,.call (.tmp 23) [(.cst .nils), (.tmp 24)]⟩,⟨some 22,none,.mov (.tmp 25)⟩,⟨some 26,none,.ext (.tmp 22) 0⟩,⟨some 27,none,.ext (.tmp 22) 1⟩,⟨some 7,none,.mov (.tmp 26)⟩,⟨some 8,none,.mov (.tmp 27)⟩])
 (.seq (.ops false [⟨some 28,none,.mov (.tmp 8)⟩])
 (.cond (.tmp 28) (.seq (.ops false [⟨some 29,none,.mov (.tmp 7)⟩,⟨some 30,none,.mov (.tmp 7)⟩,⟨some 31,none,.len (.tmp 30)⟩,⟨some 32,none,.mov (.tmp 7)⟩,⟨some 33,none,.len (.tmp 32)⟩,⟨some 34,none,.slc 1 (.tmp 29) none (some (.tmp 31)) (some (.tmp 33))⟩,⟨some 2,none,.mov (.tmp 34)⟩,⟨some 3,none,.mov (.cst (I 0))⟩])
 .ret) .skip)))))
 (.ops false [⟨some 35,none,.bin .add (.tmp 19) (.cst (I 1))⟩,⟨some 19,none,.mov (.tmp 35)⟩]))))
def keep19_0 : Option (List Nat) := some [5, 18, 19]
def code19 : MF := ⟨36, [(2, none), (3, none)], (.seq (.ops false [⟨some 1,none,.box (.tmp 0)⟩,⟨some 2,none,.mov (.cst .nils)⟩,⟨some 3,none,.mov (.cst (I 0))⟩])
 (.seq (.seq (.ops false [⟨some 9,none,.load (some 11) (.tmp 1)⟩,⟨some 10,none,.call (.cst (.fn (.func 50) [] [])) [(.tmp 9)]⟩,⟨some 4,none,.mov (.tmp 10)⟩])
 (.seq (.ops false [⟨some 11,none,.mov (.tmp 4)⟩,⟨some 12,none,.bin .neq (.tmp 11) (.cst (I 0))⟩])
 (.cond (.tmp 12) (.seq (.ops false [⟨some 13,none,.mov (.tmp 4)⟩,⟨some 2,none,.mov (.cst .nils)⟩,⟨some 3,none,.mov (.tmp 13)⟩])
 .ret) .skip)))
 (.seq (.ops false [⟨some 5,none,.alloc [.nilf]⟩])
 (.seq (.ops false [⟨some 14,none,.mkf (.func 58) [] [(.tmp 1), (.tmp 5)]⟩,⟨none,none,.store 1 (.tmp 5) (.tmp 14)⟩])
 (.seq (.seq (.ops false [⟨some 15,none,.fad (.tmp 1) 10⟩,⟨some 16,none,.load none (.tmp 15)⟩,⟨some 17,none,.len (.tmp 16)⟩,⟨some 18,none,.bin .add (.tmp 17) (.cst (I 1))⟩,⟨some 19,none,.mov (.cst (I 0))⟩])
 (.block 0 (.loop keep19_0 body19_0)))
 (.seq (.ops false [⟨some 2,none,.mov (.cst .nils)⟩,⟨some 3,none,.mov (.cst (I 0))⟩])
 .ret))))))⟩
theorem comp19 : compF Cv 19 = some code19 := by kernel_rfl

def body20_0 : MC := (.seq (.ops false [⟨some 21,none,.bin .lss (.tmp 20) (.tmp 19)⟩])
 (.seq (.cond (.tmp 21) .skip (.exit 0))
 (.seq (.block 1 (.seq (.ops false [⟨some 22,none,.ixs 9 (.tmp 18) (.tmp 20)⟩,⟨some 23,none,.load (some 9) (.tmp 22)⟩,⟨some 8,none,.alloc [(I 0),(I 0),(I 0),(I 0),(I 0),(I 0),(I 0),(I 0),(I 0)]⟩,⟨none,none,.store 9 (.tmp 8) (.tmp 23)⟩])
 (.ops false [⟨some 24,none,.mov (.tmp 6)⟩,⟨some 25,none,.fad (.tmp 8) 0⟩,⟨some 26,none,.fad (.tmp 25) 0⟩,⟨some 27,none,.load none (.tmp 26)⟩,⟨some 28,none,.bsl 1 false (I 0) 1 [(0, (.tmp 27))]⟩,⟨some 29,none,.app true 1 8 false (.tmp 24) (.tmp 28)⟩,⟨some 6,none,.mov (.tmp 29)⟩])))
 (.ops false [⟨some 30,none,.bin .add (.tmp 20) (.cst (I 1))⟩,⟨some 20,none,.mov (.tmp 30)⟩]))))
def keep20_0 : Option (List Nat) := some [6, 18, 19, 20]
def code20 : MF := ⟨41, [(2, none), (3, none)], (.seq (.ops false [⟨some 1,none,.box (.tmp 0)⟩,⟨some 2,none,.mov (.cst .nils)⟩,⟨some 3,none,.mov (.cst (I 0))⟩])
 (.seq (.ops false [⟨some 10,none,.load (some 11) (.tmp 1)⟩,⟨some 11,none,.call (.cst (.fn (.func 59) [] [])) [(.tmp 10), (.cst (.bool true))]⟩,⟨some 9,none,.mov (.tmp 11)⟩,⟨some 12,none,.ext (.tmp 9) 0⟩,⟨some 13,none,.ext (.tmp 9) 1⟩,⟨some 4,none,.alloc [(I 0),(I 0),(I 0),(I 0),(I 0),(I 0),(I 0),(I 0), .nils, (I 0), .nils, .nilm, .nils]⟩,⟨none,none,.store 13 (.tmp 4) (.tmp 12)⟩,⟨some 5,none,.mov (.tmp 13)⟩])
 (.seq (.seq (.ops false [⟨some 14,none,.mov (.tmp 5)⟩,⟨some 15,none,.bin .neq (.tmp 14) (.cst (I 0))⟩])
 (.cond (.tmp 15) (.seq (.ops false [⟨some 16,none,.mov (.tmp 5)⟩,⟨some 2,none,.mov (.cst .nils)⟩,⟨some 3,none,.mov (.tmp 16)⟩])
 .ret) .skip))
 (.seq (.ops false [⟨some 6,none,.mov (.cst .nils)⟩])
 (.seq (.seq (.ops false [⟨some 17,none,.fad (.tmp 4) 12⟩,⟨some 18,none,.load none (.tmp 17)⟩,⟨some 19,none,.len (.tmp 18)⟩,⟨some 20,none,.mov (.cst (I 0))⟩])
 (.block 0 (.loop keep20_0 body20_0)))
 (.seq (.ops false [⟨some 31,none,.mov (.tmp 6)⟩,⟨some 32,none,.call (.cst (.fn (.func 60) [] [])) [(.tmp 31)]⟩])
 (.seq (.ops false [⟨some 33,none,.mov (.tmp 6)⟩,⟨some 34,none,.call (.cst (.fn (.func 61) [] [])) [(.tmp 33)]⟩,⟨some 6,none,.mov (.tmp 34)⟩])
 (.seq (.ops false [⟨some 35,none,.mov (.tmp 6)⟩,⟨some 36,none,.mov (.tmp 6)⟩,⟨some 37,none,.len (.tmp 36)⟩,⟨some 38,none,.mov (.tmp 6)⟩,⟨some 39,none,.len (.tmp 38)⟩,⟨some 40,none,.slc 1 (.tmp 35) none (some (.tmp 37)) (some (.tmp 39))⟩,⟨some 2,none,.mov (.tmp 40)⟩,⟨some 3,none,.mov (.cst (I 0))⟩])
 .ret))))))))⟩
theorem comp20 : compF Cv 20 = some code20 := by kernel_rfl

def code21 : MF := ⟨25, [(4, some (some 2)), (5, none)], (.seq (.ops false [⟨some 2,none,.box (.tmp 0)⟩,⟨some 3,none,.box (.tmp 1)⟩,⟨some 4,none,.alloc [(I 0),(I 0)]⟩,⟨some 5,none,.mov (.cst (I 0))⟩])
 (.seq (.ops true [⟨some 9,none,.load (some 11) (.tmp 2)⟩,⟨some 10,none,.load none (.tmp 3)⟩,⟨some 11,none,.call (.cst (.fn (.func 62) [] [])) [(.tmp 10), (.cst (I 0)), (.cst (I 1))]⟩,⟨some 12,none,.call (.cst (.fn (.func 59) [] [])) [(.tmp 9), (.tmp 11)]⟩,⟨some 8,none,.mov (.tmp 12)⟩,⟨some 13,none,.ext (.tmp 8) 0⟩,⟨some 14,none,.ext (.tmp 8) 1⟩,⟨some 6,none,.alloc [(I 0),(I 0),(I 0),(I 0),(I 0),(I 0),(I 0),(I 0), .nils, (I 0), .nils, .nilm, .nils]⟩,⟨none,none,.store 13 (.tmp 6) (.tmp 13)⟩,⟨some 7,none,.mov (.tmp 14)⟩])
 (.seq (.seq (.ops false [⟨some 15,none,.mov (.tmp 7)⟩,⟨some 16,none,.bin .neq (.tmp 15) (.cst (I 0))⟩])
 (.cond (.tmp 16) (.seq (.ops false [⟨some 17,none,.bld [(I 0),(I 0)] []⟩,⟨some 18,none,.mov (.tmp 7)⟩,⟨none,none,.store 2 (.tmp 4) (.tmp 17)⟩,⟨some 5,none,.mov (.tmp 18)⟩])
 .ret) .skip))
 (.seq (.ops false [⟨some 19,none,.load (some 13) (.tmp 6)⟩,⟨some 20,none,.mkf (.func 64) [] [(.tmp 3)]⟩,⟨some 21,none,.bld [.nilf] [(0, 1, (.tmp 20))]⟩,⟨some 22,none,.call (.cst (.fn (.func 63) [] [])) [(.tmp 19), (.tmp 21)]⟩,⟨some 23,none,.ext (.tmp 22) 0⟩,⟨some 24,none,.ext (.tmp 22) 1⟩,⟨none,none,.store 2 (.tmp 4) (.tmp 23)⟩,⟨some 5,none,.mov (.tmp 24)⟩])
 .ret))))⟩
theorem comp21 : compF Cv 21 = some code21 := by kernel_rfl

def body22_0 : MC := (.seq (.ops false [⟨some 19,none,.bin .lss (.tmp 18) (.tmp 17)⟩])
 (.seq (.cond (.tmp 19) .skip (.exit 0))
 (.seq (.block 1 (.seq (.ops false [⟨some 20,none,.mov (.tmp 18)⟩,⟨some 7,none,.alloc [(I 0)]⟩,⟨none,none,.store 1 (.tmp 7) (.tmp 20)⟩])
 (.seq (.ops false [⟨some 21,none,.load (some 13) (.tmp 4)⟩,⟨some 22,none,.mkf (.func 66) [] [(.tmp 7)]⟩,⟨some 23,none,.call (.cst (.fn (.func 65) [] [])) [(.tmp 21), (.tmp 22)]⟩,⟨some 24,none,.bin .eql (.tmp 23) (.cst (I 0))⟩])
 (.cond (.tmp 24) (.ops false [⟨some 25,none,.mov (.tmp 6)⟩,⟨some 26,none,.load none (.tmp 7)⟩,⟨some 27,none,.bsl 1 false (I 0) 1 [(0, (.tmp 26))]⟩,⟨some 28,none,.app false 1 8 false (.tmp 25) (.tmp 27)⟩,⟨some 6,none,.mov (.tmp 28)⟩]) .skip))))
 (.ops false [⟨some 29,none,.bin .add (.tmp 18) (.cst (I 1))⟩,⟨some 18,none,.mov (.tmp 29)⟩]))))
def keep22_0 : Option (List Nat) := some [4, 6, 17, 18]
def code22 : MF := ⟨36, [(2, none), (3, none)], (.seq (.ops false [⟨some 1,none,.box (.tmp 0)⟩,⟨some 2,none,.mov (.cst .nils)⟩,⟨some 3,none,.mov (.cst (I 0))⟩])
 (.seq (.ops false [⟨some 9,none,.load (some 11) (.tmp 1)⟩,⟨some 10,none,.call (.cst (.fn (.func 59) [] [])) [(.tmp 9), (.cst (.bool true))]⟩,⟨some 8,none,.mov (.tmp 10)⟩,⟨some 11,none,.ext (.tmp 8) 0⟩,⟨some 12,none,.ext (.tmp 8) 1⟩,⟨some 4,none,.alloc [(I 0),(I 0),(I 0),(I 0),(I 0),(I 0),(I 0),(I 0), .nils, (I 0), .nils, .nilm, .nils]⟩,⟨none,none,.store 13 (.tmp 4) (.tmp 11)⟩,⟨some 5,none,.mov (.tmp 12)⟩])
 (.seq (.seq (.ops false [⟨some 13,none,.mov (.tmp 5)⟩,⟨some 14,none,.bin .neq (.tmp 13) (.cst (I 0))⟩])
 (.cond (.tmp 14) (.seq (.ops false [⟨some 15,none,.mov (.tmp 5)⟩,⟨some 2,none,.mov (.cst .nils)⟩,⟨some 3,none,.mov (.tmp 15)⟩])
 .ret) .skip))
 (.seq (.ops false [⟨some 6,none,.mov (.cst .nils)⟩])
 (.seq (.seq (.ops false [⟨some 16,none,.fad (.tmp 1) 0⟩,⟨some 17,none,.load none (.tmp 16)⟩,⟨some 18,none,.mov (.cst (I 0))⟩])
 (.block 0 (.loop keep22_0 body22_0)))
 (.seq (.ops false [⟨some 30,none,.mov (.tmp 6)⟩,⟨some 31,none,.mov (.tmp 6)⟩,⟨some 32,none,.len (.tmp 31)⟩,⟨some 33,none,.mov (.tmp 6)⟩,⟨some 34,none,.len (.tmp 33)⟩,⟨some 35,none,.slc 1 (.tmp 30) none (some (.tmp 32)) (some (.tmp 34))⟩,⟨some 2,none,.mov (.tmp 35)⟩,⟨some 3,none,.mov (.cst (I 0))⟩])
 .ret))))))⟩
theorem comp22 : compF Cv 22 = some code22 := by kernel_rfl

def body23_0 : MC := (.seq (.seq (.ops false [⟨some 6,none,.mov (.tmp 5)⟩,⟨some 7,none,.mov (.tmp 0)⟩,⟨some 8,none,.len (.tmp 7)⟩,⟨some 9,none,.bin .lss (.tmp 6) (.tmp 8)⟩])
 (.cond (.tmp 9) .skip (.exit 0)))
 (.seq (.block 1 (.seq (.ops false [⟨some 12,none,.mov (.tmp 0)⟩,⟨some 13,none,.mov (.tmp 5)⟩,⟨some 14,none,.ixs 1 (.tmp 12) (.tmp 13)⟩,⟨some 15,none,.load none (.tmp 14)⟩,⟨some 16,none,.mov (.tmp 1)⟩,⟨some 17,none,.bin .eql (.tmp 15) (.tmp 16)⟩])
 (.cond (.tmp 17) (.seq (.ops false [⟨some 18,none,.mov (.tmp 5)⟩,⟨some 4,none,.mov (.tmp 18)⟩])
 .ret) .skip)))
 (.ops false [⟨some 10,none,.mov (.tmp 5)⟩,⟨some 11,none,.bin .add (.tmp 10) (.cst (I 1))⟩,⟨some 5,none,.mov (.tmp 11)⟩])))
def keep23_0 : Option (List Nat) := some [0, 1, 5]
def code23 : MF := ⟨19, [(4, none)], (.seq (.ops false [⟨some 4,none,.mov (.cst (I 0))⟩])
 (.seq (.seq (.ops false [⟨some 5,none,.mov (.cst (I 0))⟩])
 (.block 0 (.loop keep23_0 body23_0)))
 (.seq (.ops false [⟨some 4,none,.mov (.cst (I (-1)))⟩])
 .ret)))⟩
theorem comp23 : compF Cv 23 = some code23 := by kernel_rfl

def code24 : MF := ⟨11, [(4, none)], (.seq (.ops false [⟨some 2,none,.box (.tmp 0)⟩,⟨some 4,none,.mov (.cst (.bool false))⟩])
 (.seq (.ops false [⟨some 5,none,.mov (.tmp 1)⟩,⟨some 6,none,.fad (.tmp 2) 0⟩,⟨some 7,none,.load none (.tmp 6)⟩,⟨some 8,none,.fad (.tmp 2) 1⟩,⟨some 9,none,.load none (.tmp 8)⟩,⟨some 10,none,.call (.cst (.fn (.func 29) [] [])) [(.tmp 5), (.tmp 7), (.tmp 9)]⟩,⟨some 4,none,.mov (.tmp 10)⟩])
 .ret))⟩
theorem comp24 : compF Cv 24 = some code24 := by kernel_rfl

def body25_0 : MC := (.seq (.seq (.ops false [⟨some 6,none,.mov (.tmp 5)⟩,⟨some 7,none,.mov (.tmp 0)⟩,⟨some 8,none,.len (.tmp 7)⟩,⟨some 9,none,.bin .lss (.tmp 6) (.tmp 8)⟩])
 (.cond (.tmp 9) .skip (.exit 0)))
 (.seq (.block 1 (.seq (.ops false [⟨some 12,none,.mov (.tmp 0)⟩,⟨some 13,none,.mov (.tmp 5)⟩,⟨some 14,none,.ixs 1 (.tmp 12) (.tmp 13)⟩,⟨some 15,none,.load none (.tmp 14)⟩,⟨some 16,none,.mov (.tmp 1)⟩,⟨some 17,none,.bin .sub (.tmp 16) (.cst (I 1))⟩,⟨some 18,none,.call (.cst (.fn (.func 29) [] [])) [(.tmp 15), (.cst (I 0)), (.tmp 17)]⟩,⟨some 19,none,.lnot (.tmp 18)⟩,⟨some 20,none,.mov (.tmp 19)⟩,⟨some 21,some ((some 20), false),.mov (.tmp 5)⟩,⟨some 22,some ((some 20), false),.bin .gtr (.tmp 21) (.cst (I 0))⟩,⟨some 23,some ((some 20), false),.mov (.tmp 22)⟩,⟨some 24,some ((some 23), true),.mov (.tmp 0)⟩,⟨some 25,some ((some 23), true),.mov (.tmp 5)⟩,⟨some 26,some ((some 23), true),.ixs 1 (.tmp 24) (.tmp 25)⟩,⟨some 27,some ((some 23), true),.load none (.tmp 26)⟩,⟨some 28,some ((some 23), true),.mov (.tmp 0)⟩,⟨some 29,some ((some 23), true),.mov (.tmp 5)⟩,⟨some 30,some ((some 23), true),.bin .sub (.tmp 29) (.cst (I 1))⟩,⟨some 31,some ((some 23), true),.ixs 1 (.tmp 28) (.tmp 30)⟩,⟨some 32,some ((some 23), true),.load none (.tmp 31)⟩,⟨some 33,some ((some 23), true),.bin .leq (.tmp 27) (.tmp 32)⟩,⟨some 34,some ((some 20), false),.pick (.tmp 23) (.tmp 33) (.cst (.bool false))⟩,⟨some 35,none,.pick (.tmp 20) (.cst (.bool true)) (.tmp 34)⟩])
 (.cond (.tmp 35) (.seq (.ops false [⟨some 4,none,.mov (.cst (.bool false))⟩])
 .ret) .skip)))
 (.ops false [⟨some 10,none,.mov (.tmp 5)⟩,⟨some 11,none,.bin .add (.tmp 10) (.cst (I 1))⟩,⟨some 5,none,.mov (.tmp 11)⟩])))
def keep25_0 : Option (List Nat) := some [0, 1, 5]
def code25 : MF := ⟨36, [(4, none)], (.seq (.ops false [⟨some 4,none,.mov (.cst (.bool false))⟩])
 (.seq (.seq (.ops false [⟨some 5,none,.mov (.cst (I 0))⟩])
 (.block 0 (.loop keep25_0 body25_0)))
 (.seq (.ops false [⟨some 4,none,.mov (.cst (.bool true))⟩])
 .ret)))⟩
theorem comp25 : compF Cv 25 = some code25 := by kernel_rfl

def code26 : MF := ⟨28, [(4, some (some 2)), (5, none)], (.seq (.ops false [⟨some 2,none,.box (.tmp 0)⟩,⟨some 3,none,.box (.tmp 1)⟩,⟨some 4,none,.alloc [(I 0),(I 0)]⟩,⟨some 5,none,.mov (.cst (I 0))⟩])
 (.seq (.ops true [⟨some 9,none,.load (some 11) (.tmp 2)⟩,⟨some 10,none,.load none (.tmp 3)⟩,⟨some 11,none,.fad (.tmp 2) 0⟩,⟨some 12,none,.load none (.tmp 11)⟩,⟨some 13,none,.bin .sub (.tmp 12) (.cst (I 1))⟩,⟨some 14,none,.call (.cst (.fn (.func 62) [] [])) [(.tmp 10), (.cst (I 0)), (.tmp 13)]⟩,⟨some 15,none,.call (.cst (.fn (.func 59) [] [])) [(.tmp 9), (.tmp 14)]⟩,⟨some 8,none,.mov (.tmp 15)⟩,⟨some 16,none,.ext (.tmp 8) 0⟩,⟨some 17,none,.ext (.tmp 8) 1⟩,⟨some 6,none,.alloc [(I 0),(I 0),(I 0),(I 0),(I 0),(I 0),(I 0),(I 0), .nils, (I 0), .nils, .nilm, .nils]⟩,⟨none,none,.store 13 (.tmp 6) (.tmp 16)⟩,⟨some 7,none,.mov (.tmp 17)⟩])
 (.seq (.seq (.ops false [⟨some 18,none,.mov (.tmp 7)⟩,⟨some 19,none,.bin .neq (.tmp 18) (.cst (I 0))⟩])
 (.cond (.tmp 19) (.seq (.ops false [⟨some 20,none,.bld [(I 0),(I 0)] []⟩,⟨some 21,none,.mov (.tmp 7)⟩,⟨none,none,.store 2 (.tmp 4) (.tmp 20)⟩,⟨some 5,none,.mov (.tmp 21)⟩])
 .ret) .skip))
 (.seq (.ops false [⟨some 22,none,.load (some 13) (.tmp 6)⟩,⟨some 23,none,.mkf (.func 67) [] [(.tmp 3)]⟩,⟨some 24,none,.bld [.nilf] [(0, 1, (.tmp 23))]⟩,⟨some 25,none,.call (.cst (.fn (.func 63) [] [])) [(.tmp 22), (.tmp 24)]⟩,⟨some 26,none,.ext (.tmp 25) 0⟩,⟨some 27,none,.ext (.tmp 25) 1⟩,⟨none,none,.store 2 (.tmp 4) (.tmp 26)⟩,⟨some 5,none,.mov (.tmp 27)⟩])
 .ret))))⟩
theorem comp26 : compF Cv 26 = some code26 := by kernel_rfl

def code27 : MF := ⟨25, [(6, none), (7, none)], (.seq (.ops false [⟨some 3,none,.box (.tmp 0)⟩,⟨some 4,none,.box (.tmp 1)⟩,⟨some 5,none,.box (.tmp 2)⟩,⟨some 6,none,.mov (.cst (I 0))⟩,⟨some 7,none,.mov (.cst (I 0))⟩])
 (.seq (.ops true [⟨some 11,none,.load (some 11) (.tmp 3)⟩,⟨some 12,none,.load (some 11) (.tmp 3)⟩,⟨some 13,none,.load none (.tmp 4)⟩,⟨some 14,none,.load none (.tmp 5)⟩,⟨some 15,none,.call (.cst (.fn (.func 68) [] [])) [(.tmp 12), (.tmp 13), (.tmp 14)]⟩,⟨some 16,none,.call (.cst (.fn (.func 59) [] [])) [(.tmp 11), (.tmp 15)]⟩,⟨some 10,none,.mov (.tmp 16)⟩,⟨some 17,none,.ext (.tmp 10) 0⟩,⟨some 18,none,.ext (.tmp 10) 1⟩,⟨some 8,none,.alloc [(I 0),(I 0),(I 0),(I 0),(I 0),(I 0),(I 0),(I 0), .nils, (I 0), .nils, .nilm, .nils]⟩,⟨none,none,.store 13 (.tmp 8) (.tmp 17)⟩,⟨some 9,none,.mov (.tmp 18)⟩])
 (.seq (.seq (.ops false [⟨some 19,none,.mov (.tmp 9)⟩,⟨some 20,none,.bin .neq (.tmp 19) (.cst (I 0))⟩])
 (.cond (.tmp 20) (.seq (.ops false [⟨some 21,none,.mov (.tmp 9)⟩,⟨some 6,none,.mov (.cst (I 0))⟩,⟨some 7,none,.mov (.tmp 21)⟩])
 .ret) .skip))
 (.seq (.ops false [⟨some 22,none,.load (some 13) (.tmp 8)⟩,⟨some 23,none,.mkf (.func 69) [] [(.tmp 4), (.tmp 5)]⟩,⟨some 24,none,.call (.cst (.fn (.func 65) [] [])) [(.tmp 22), (.tmp 23)]⟩,⟨some 6,none,.mov (.tmp 24)⟩,⟨some 7,none,.mov (.cst (I 0))⟩])
 .ret))))⟩
theorem comp27 : compF Cv 27 = some code27 := by kernel_rfl

def code28 : MF := ⟨25, [(6, none), (7, none)], (.seq (.ops false [⟨some 3,none,.box (.tmp 0)⟩,⟨some 4,none,.box (.tmp 1)⟩,⟨some 5,none,.box (.tmp 2)⟩,⟨some 6,none,.mov (.cst (I 0))⟩,⟨some 7,none,.mov (.cst (I 0))⟩])
 (.seq (.ops true [⟨some 11,none,.load (some 11) (.tmp 3)⟩,⟨some 12,none,.load (some 11) (.tmp 3)⟩,⟨some 13,none,.load none (.tmp 4)⟩,⟨some 14,none,.load none (.tmp 5)⟩,⟨some 15,none,.call (.cst (.fn (.func 68) [] [])) [(.tmp 12), (.tmp 13), (.tmp 14)]⟩,⟨some 16,none,.call (.cst (.fn (.func 59) [] [])) [(.tmp 11), (.tmp 15)]⟩,⟨some 10,none,.mov (.tmp 16)⟩,⟨some 17,none,.ext (.tmp 10) 0⟩,⟨some 18,none,.ext (.tmp 10) 1⟩,⟨some 8,none,.alloc [(I 0),(I 0),(I 0),(I 0),(I 0),(I 0),(I 0),(I 0), .nils, (I 0), .nils, .nilm, .nils]⟩,⟨none,none,.store 13 (.tmp 8) (.tmp 17)⟩,⟨some 9,none,.mov (.tmp 18)⟩])
 (.seq (.seq (.ops false [⟨some 19,none,.mov (.tmp 9)⟩,⟨some 20,none,.bin .neq (.tmp 19) (.cst (I 0))⟩])
 (.cond (.tmp 20) (.seq (.ops false [⟨some 21,none,.mov (.tmp 9)⟩,⟨some 6,none,.mov (.cst (I 0))⟩,⟨some 7,none,.mov (.tmp 21)⟩])
 .ret) .skip))
 (.seq (.ops false [⟨some 22,none,.load (some 13) (.tmp 8)⟩,⟨some 23,none,.mkf (.func 71) [] [(.tmp 4), (.tmp 5)]⟩,⟨some 24,none,.call (.cst (.fn (.func 65) [] [])) [(.tmp 22), (.tmp 23)]⟩,⟨some 6,none,.mov (.tmp 24)⟩,⟨some 7,none,.mov (.cst (I 0))⟩])
 .ret))))⟩
theorem comp28 : compF Cv 28 = some code28 := by kernel_rfl

def code29 : MF := ⟨15, [(6, none)], (.seq (.ops false [⟨some 6,none,.mov (.cst (.bool false))⟩])
 (.seq (.ops false [⟨some 7,none,.mov (.tmp 1)⟩,⟨some 8,none,.mov (.tmp 0)⟩,⟨some 9,none,.bin .leq (.tmp 7) (.tmp 8)⟩,⟨some 10,none,.mov (.tmp 9)⟩,⟨some 11,some ((some 10), true),.mov (.tmp 0)⟩,⟨some 12,some ((some 10), true),.mov (.tmp 2)⟩,⟨some 13,some ((some 10), true),.bin .leq (.tmp 11) (.tmp 12)⟩,⟨some 14,none,.pick (.tmp 10) (.tmp 13) (.cst (.bool false))⟩,⟨some 6,none,.mov (.tmp 14)⟩])
 .ret))⟩
theorem comp29 : compF Cv 29 = some code29 := by kernel_rfl

def code30 : MF := ⟨25, [(6, none)], (.seq (.ops false [⟨some 3,none,.box (.tmp 0)⟩,⟨some 6,none,.mov (.cst (.bool false))⟩])
 (.seq (.ops false [⟨some 7,none,.fad (.tmp 3) 3⟩,⟨some 8,none,.load none (.tmp 7)⟩,⟨some 9,none,.mov (.tmp 1)⟩,⟨some 10,none,.ixs 1 (.tmp 8) (.tmp 9)⟩,⟨some 11,none,.load none (.tmp 10)⟩,⟨some 12,none,.bin .geq (.tmp 11) (.cst (I 0))⟩,⟨some 13,none,.mov (.tmp 12)⟩,⟨some 14,some ((some 13), true),.fad (.tmp 3) 3⟩,⟨some 15,some ((some 13), true),.load none (.tmp 14)⟩,⟨some 16,some ((some 13), true),.mov (.tmp 1)⟩,⟨some 17,some ((some 13), true),.ixs 1 (.tmp 15) (.tmp 16)⟩,⟨some 18,some ((some 13), true),.load none (.tmp 17)⟩,⟨some 19,some ((some 13), true),.fad (.tmp 3) 1⟩,⟨some 20,some ((some 13), true),.load none (.tmp 19)⟩,⟨some 21,some ((some 13), true),.bin .add (.tmp 18) (.tmp 20)⟩,⟨some 22,some ((some 13), true),.mov (.tmp 2)⟩,⟨some 23,some ((some 13), true),.bin .leq (.tmp 21) (.tmp 22)⟩,⟨some 24,none,.pick (.tmp 13) (.tmp 23) (.cst (.bool false))⟩,⟨some 6,none,.mov (.tmp 24)⟩])
 .ret))⟩
theorem comp30 : compF Cv 30 = some code30 := by kernel_rfl

def code31 : MF := ⟨26, [(4, none), (5, none)], (.seq (.ops false [⟨some 2,none,.box (.tmp 0)⟩,⟨some 3,none,.box (.tmp 1)⟩,⟨some 4,none,.mov (.cst (.bool false))⟩,⟨some 5,none,.mov (.cst (I 0))⟩])
 (.seq (.ops true [⟨some 9,none,.load (some 11) (.tmp 2)⟩,⟨some 10,none,.load (some 11) (.tmp 2)⟩,⟨some 11,none,.fad (.tmp 3) 0⟩,⟨some 12,none,.load none (.tmp 11)⟩,⟨some 13,none,.fad (.tmp 3) 1⟩,⟨some 14,none,.load none (.tmp 13)⟩,⟨some 15,none,.call (.cst (.fn (.func 68) [] [])) [(.tmp 10), (.tmp 12), (.tmp 14)]⟩,⟨some 16,none,.call (.cst (.fn (.func 59) [] [])) [(.tmp 9), (.tmp 15)]⟩,⟨some 8,none,.mov (.tmp 16)⟩,⟨some 17,none,.ext (.tmp 8) 0⟩,⟨some 18,none,.ext (.tmp 8) 1⟩,⟨some 6,none,.alloc [(I 0),(I 0),(I 0),(I 0),(I 0),(I 0),(I 0),(I 0), .nils, (I 0), .nils, .nilm, .nils]⟩,⟨none,none,.store 13 (.tmp 6) (.tmp 17)⟩,⟨some 7,none,.mov (.tmp 18)⟩])
 (.seq (.seq (.ops false [⟨some 19,none,.mov (.tmp 7)⟩,⟨some 20,none,.bin .neq (.tmp 19) (.cst (I 0))⟩])
 (.cond (.tmp 20) (.seq (.ops false [⟨some 21,none,.mov (.tmp 7)⟩,⟨some 4,none,.mov (.cst (.bool false))⟩,⟨some 5,none,.mov (.tmp 21)⟩])
 .ret) .skip))
 (.seq (.ops false [⟨some 22,none,.fad (.tmp 6) 12⟩,⟨some 23,none,.load none (.tmp 22)⟩,⟨some 24,none,.mkf (.func 74) [] [(.tmp 3)]⟩,⟨some 25,none,.call (.cst (.fn (.func 73) [] [])) [(.tmp 23), (.tmp 24)]⟩,⟨some 4,none,.mov (.tmp 25)⟩,⟨some 5,none,.mov (.cst (I 0))⟩])
 .ret))))⟩
theorem comp31 : compF Cv 31 = some code31 := by kernel_rfl

def code32 : MF := ⟨11, [(6, some (some 3))], (.seq (.ops false [⟨some 6,none,.alloc [(I 0),(I 0), (.bool false)]⟩])
 (.seq (.ops false [⟨some 7,none,.mov (.tmp 0)⟩,⟨some 8,none,.mov (.tmp 1)⟩,⟨some 9,none,.mov (.tmp 2)⟩,⟨some 10,none,.bld [(I 0),(I 0), (.bool false)] [(0, 1, (.tmp 7)), (1, 1, (.tmp 8)), (2, 1, (.tmp 9))]⟩,⟨none,none,.store 3 (.tmp 6) (.tmp 10)⟩])
 .ret))⟩
theorem comp32 : compF Cv 32 = some code32 := by kernel_rfl

def code33 : MF := ⟨16, [(4, some (some 11))], (.seq (.ops false [⟨some 2,none,.box (.tmp 0)⟩,⟨some 3,none,.box (.tmp 1)⟩,⟨some 4,none,.alloc [(I 0),(I 0),(I 0),(I 0),(I 0),(I 0),(I 0),(I 0), .nils, (I 0), .nils]⟩])
 (.seq (.ops false [⟨some 6,none,.load (some 11) (.tmp 2)⟩,⟨some 5,none,.alloc [(I 0),(I 0),(I 0),(I 0),(I 0),(I 0),(I 0),(I 0), .nils, (I 0), .nils]⟩,⟨none,none,.store 11 (.tmp 5) (.tmp 6)⟩])
 (.seq (.ops false [⟨some 7,none,.bsl 3 true (.agg [(I 0),(I 0), (.bool false)]) 0 []⟩,⟨some 8,none,.fad (.tmp 2) 10⟩,⟨some 9,none,.load none (.tmp 8)⟩,⟨some 10,none,.app false 3 24 true (.tmp 7) (.tmp 9)⟩,⟨some 11,none,.load (some 3) (.tmp 3)⟩,⟨some 12,none,.bsl 3 true (.agg [(I 0),(I 0), (.bool false)]) 1 [(0, (.tmp 11))]⟩,⟨some 13,none,.app false 3 24 true (.tmp 10) (.tmp 12)⟩,⟨some 14,none,.fad (.tmp 5) 10⟩,⟨none,none,.store 1 (.tmp 14) (.tmp 13)⟩])
 (.seq (.ops false [⟨some 15,none,.load (some 11) (.tmp 5)⟩,⟨none,none,.store 11 (.tmp 4) (.tmp 15)⟩])
 .ret))))⟩
theorem comp33 : compF Cv 33 = some code33 := by kernel_rfl

def body34_0 : MC := (.seq (.seq (.ops false [⟨some 5,none,.mov (.tmp 4)⟩,⟨some 6,none,.mov (.tmp 0)⟩,⟨some 7,none,.len (.tmp 6)⟩,⟨some 8,none,.bin .lss (.tmp 5) (.tmp 7)⟩])
 (.cond (.tmp 8) .skip (.exit 0)))
 (.seq (.block 1 (.seq (.ops false [⟨some 11,none,.mov (.tmp 0)⟩,⟨some 12,none,.mov (.tmp 4)⟩,⟨some 13,none,.ixs 1 (.tmp 11) (.tmp 12)⟩,⟨some 14,none,.load none (.tmp 13)⟩,⟨some 15,none,.call (.cst (.fn (.func 29) [] [])) [(.tmp 14), (.cst (I 0)), (.cst (I 61))]⟩])
 (.cond (.tmp 15) (.ops false [⟨some 16,none,.mov (.tmp 3)⟩,⟨some 17,none,.mov (.tmp 0)⟩,⟨some 18,none,.mov (.tmp 4)⟩,⟨some 19,none,.ixs 1 (.tmp 17) (.tmp 18)⟩,⟨some 20,none,.load none (.tmp 19)⟩,⟨some 21,none,.bin .shl (.cst (I 1)) (.tmp 20)⟩,⟨some 22,none,.bin .or (.tmp 16) (.tmp 21)⟩,⟨some 3,none,.mov (.tmp 22)⟩]) .skip)))
 (.ops false [⟨some 9,none,.mov (.tmp 4)⟩,⟨some 10,none,.bin .add (.tmp 9) (.cst (I 1))⟩,⟨some 4,none,.mov (.tmp 10)⟩])))
def keep34_0 : Option (List Nat) := some [0, 3, 4]
def code34 : MF := ⟨24, [(2, none)], (.seq (.ops false [⟨some 2,none,.mov (.cst (I 0))⟩])
 (.seq (.ops false [⟨some 3,none,.mov (.cst (I 0))⟩])
 (.seq (.seq (.ops false [⟨some 4,none,.mov (.cst (I 0))⟩])
 (.block 0 (.loop keep34_0 body34_0)))
 (.seq (.ops false [⟨some 23,none,.mov (.tmp 3)⟩,⟨some 2,none,.mov (.tmp 23)⟩])
 .ret))))⟩
theorem comp34 : compF Cv 34 = some code34 := by kernel_rfl

def code35 : MF := ⟨17, [(4, none)], (.seq (.ops false [⟨some 2,none,.box (.tmp 0)⟩,⟨some 3,none,.box (.tmp 1)⟩,⟨some 4,none,.mov (.cst (.bool false))⟩])
 (.seq (.ops false [⟨some 5,none,.fad (.tmp 3) 0⟩,⟨some 6,none,.load none (.tmp 5)⟩,⟨some 7,none,.fad (.tmp 2) 0⟩,⟨some 8,none,.load none (.tmp 7)⟩,⟨some 9,none,.bin .leq (.tmp 6) (.tmp 8)⟩,⟨some 10,none,.mov (.tmp 9)⟩,⟨some 11,some ((some 10), true),.fad (.tmp 2) 1⟩,⟨some 12,some ((some 10), true),.load none (.tmp 11)⟩,⟨some 13,some ((some 10), true),.fad (.tmp 3) 1⟩,⟨some 14,some ((some 10), true),.load none (.tmp 13)⟩,⟨some 15,some ((some 10), true),.bin .leq (.tmp 12) (.tmp 14)⟩,⟨some 16,none,.pick (.tmp 10) (.tmp 15) (.cst (.bool false))⟩,⟨some 4,none,.mov (.tmp 16)⟩])
 .ret))⟩
theorem comp35 : compF Cv 35 = some code35 := by kernel_rfl

def body36_0 : MC := (.seq (.ops false [⟨some 30,none,.bin .lss (.tmp 29) (.tmp 28)⟩])
 (.seq (.cond (.tmp 30) .skip (.exit 0))
 (.seq (.block 1 (.seq (.ops false [⟨some 31,none,.mov (.tmp 29)⟩,⟨some 9,none,.mov (.tmp 31)⟩])
 (.seq (.ops false [⟨some 33,none,.load none (.tmp 8)⟩,⟨some 34,none,.mov (.tmp 9)⟩,⟨some 35,none,.call (.tmp 33) [(.cst .nils), (.tmp 34)]⟩,⟨some 32,none,.mov (.tmp 35)⟩,⟨some 36,none,.ext (.tmp 32) 0⟩,⟨some 37,none,.ext (.tmp 32) 1⟩,⟨some 10,none,.mov (.tmp 36)⟩,⟨some 11,none,.mov (.tmp 37)⟩])
 (.seq (.ops false [⟨some 38,none,.mov (.tmp 11)⟩])
 (.cond (.tmp 38) (.seq (.ops false [⟨some 39,none,.mov (.tmp 10)⟩,⟨some 40,none,.mov (.tmp 10)⟩,⟨some 41,none,.len (.tmp 40)⟩,⟨some 42,none,.mov (.tmp 10)⟩,⟨some 43,none,.len (.tmp 42)⟩,⟨some 44,none,.slc 1 (.tmp 39) none (some (.tmp 41)) (some (.tmp 43))⟩,⟨some 4,none,.mov (.tmp 44)⟩,⟨some 5,none,.mov (.cst (I 0))⟩])
 .ret) .skip)))))
 (.ops false [⟨some 45,none,.bin .add (.tmp 29) (.cst (I 1))⟩,⟨some 29,none,.mov (.tmp 45)⟩]))))
def keep36_0 : Option (List Nat) := some [8, 28, 29]
def code36 : MF := ⟨46, [(4, none), (5, none)], (.seq (.ops false [⟨some 2,none,.box (.tmp 0)⟩,⟨some 3,none,.box (.tmp 1)⟩,⟨some 4,none,.mov (.cst .nils)⟩,⟨some 5,none,.mov (.cst (I 0))⟩])
 (.seq (.ops true [⟨some 13,none,.load (some 11) (.tmp 2)⟩,⟨some 14,none,.load none (.tmp 3)⟩,⟨some 15,none,.fad (.tmp 2) 1⟩,⟨some 16,none,.load none (.tmp 15)⟩,⟨some 17,none,.bin .sub (.tmp 16) (.cst (I 1))⟩,⟨some 18,none,.call (.cst (.fn (.func 62) [] [])) [(.tmp 14), (.cst (I 1)), (.tmp 17)]⟩,⟨some 19,none,.call (.cst (.fn (.func 59) [] [])) [(.tmp 13), (.tmp 18)]⟩,⟨some 12,none,.mov (.tmp 19)⟩,⟨some 20,none,.ext (.tmp 12) 0⟩,⟨some 21,none,.ext (.tmp 12) 1⟩,⟨some 6,none,.alloc [(I 0),(I 0),(I 0),(I 0),(I 0),(I 0),(I 0),(I 0), .nils, (I 0), .nils, .nilm, .nils]⟩,⟨none,none,.store 13 (.tmp 6) (.tmp 20)⟩,⟨some 7,none,.mov (.tmp 21)⟩])
 (.seq (.seq (.ops false [⟨some 22,none,.mov (.tmp 7)⟩,⟨some 23,none,.bin .neq (.tmp 22) (.cst (I 0))⟩])
 (.cond (.tmp 23) (.seq (.ops false [⟨some 24,none,.mov (.tmp 7)⟩,⟨some 4,none,.mov (.cst .nils)⟩,⟨some 5,none,.mov (.tmp 24)⟩])
 .ret) .skip))
 (.seq (.ops false [⟨some 8,none,.alloc [.nilf]⟩])
 (.seq (.ops false [⟨some 25,none,.mkf (.func 75) [] [(.tmp 6), (.tmp 3), (.tmp 2), (.tmp 8)]⟩,⟨none,none,.store 1 (.tmp 8) (.tmp 25)⟩])
 (.seq (.seq (.ops false [⟨some 26,none,.fad (.tmp 2) 9⟩,⟨some 27,none,.load none (.tmp 26)⟩,⟨some 28,none,.bin .add (.tmp 27) (.cst (I 1))⟩,⟨some 29,none,.mov (.cst (I 0))⟩])
 (.block 0 (.loop keep36_0 body36_0)))
 (.seq (.ops false [⟨some 4,none,.mov (.cst .nils)⟩,⟨some 5,none,.mov (.cst (I 4))⟩])
 .ret)))))))⟩
theorem comp36 : compF Cv 36 = some code36 := by kernel_rfl

def body37_0 : MC := (.seq (.seq (.ops false [⟨some 9,none,.mov (.tmp 6)⟩,⟨some 10,none,.fad (.tmp 2) 8⟩,⟨some 11,none,.load none (.tmp 10)⟩,⟨some 12,none,.len (.tmp 11)⟩,⟨some 13,none,.bin .lss (.tmp 9) (.tmp 12)⟩])
 (.cond (.tmp 13) .skip (.exit 0)))
 (.seq (.block 1 (.seq (.ops false [⟨some 16,none,.fad (.tmp 2) 8⟩,⟨some 17,none,.load none (.tmp 16)⟩,⟨some 18,none,.mov (.tmp 6)⟩,⟨some 19,none,.ixs 2 (.tmp 17) (.tmp 18)⟩,⟨some 20,none,.fad (.tmp 19) 0⟩,⟨some 21,none,.load none (.tmp 20)⟩,⟨some 22,none,.mov (.tmp 1)⟩,⟨some 23,none,.bin .eql (.tmp 21) (.tmp 22)⟩])
 (.cond (.tmp 23) (.ops false [⟨some 24,none,.mov (.tmp 5)⟩,⟨some 25,none,.fad (.tmp 2) 8⟩,⟨some 26,none,.load none (.tmp 25)⟩,⟨some 27,none,.mov (.tmp 6)⟩,⟨some 28,none,.ixs 2 (.tmp 26) (.tmp 27)⟩,⟨some 29,none,.fad (.tmp 28) 1⟩,⟨some 30,none,.load none (.tmp 29)⟩,⟨some 31,none,.mn (.tmp 24) [(.tmp 30)]⟩,⟨some 5,none,.mov (.tmp 31)⟩]) .skip)))
 (.ops false [⟨some 14,none,.mov (.tmp 6)⟩,⟨some 15,none,.bin .add (.tmp 14) (.cst (I 1))⟩,⟨some 6,none,.mov (.tmp 15)⟩])))
def keep37_0 : Option (List Nat) := some [1, 2, 5, 6]
def code37 : MF := ⟨33, [(4, none)], (.seq (.ops false [⟨some 2,none,.box (.tmp 0)⟩,⟨some 4,none,.mov (.cst (I 0))⟩])
 (.seq (.ops false [⟨some 7,none,.fad (.tmp 2) 1⟩,⟨some 8,none,.load none (.tmp 7)⟩,⟨some 5,none,.mov (.tmp 8)⟩])
 (.seq (.seq (.ops false [⟨some 6,none,.mov (.cst (I 0))⟩])
 (.block 0 (.loop keep37_0 body37_0)))
 (.seq (.ops false [⟨some 32,none,.mov (.tmp 5)⟩,⟨some 4,none,.mov (.tmp 32)⟩])
 .ret))))⟩
theorem comp37 : compF Cv 37 = some code37 := by kernel_rfl

def body38_0 : MC := (.seq (.seq (.ops false [⟨some 41,none,.mov (.tmp 12)⟩,⟨some 42,none,.mov (.tmp 11)⟩,⟨some 43,none,.len (.tmp 42)⟩,⟨some 44,none,.bin .lss (.tmp 41) (.tmp 43)⟩])
 (.cond (.tmp 44) .skip (.exit 0)))
 (.seq (.block 1 (.seq (.ops false [⟨some 47,none,.mov (.tmp 11)⟩,⟨some 48,none,.mov (.tmp 12)⟩,⟨some 49,none,.ixs 1 (.tmp 47) (.tmp 48)⟩,⟨some 50,none,.load none (.tmp 49)⟩,⟨some 51,none,.mov (.tmp 3)⟩,⟨some 52,none,.bin .geq (.tmp 50) (.tmp 51)⟩])
 (.cond (.tmp 52) (.seq (.ops false [⟨some 8,none,.mov (.cst (.bool true))⟩])
 .ret) .skip)))
 (.ops false [⟨some 45,none,.mov (.tmp 12)⟩,⟨some 46,none,.bin .add (.tmp 45) (.cst (I 1))⟩,⟨some 12,none,.mov (.tmp 46)⟩])))
def keep38_0 : Option (List Nat) := some [3, 11, 12]
def code38 : MF := ⟨53, [(8, none)], (.seq (.ops false [⟨some 4,none,.box (.tmp 0)⟩,⟨some 5,none,.box (.tmp 1)⟩,⟨some 8,none,.mov (.cst (.bool false))⟩])
 (.seq (.ops true [⟨some 9,none,.mov (.cst .any)⟩,⟨some 13,none,.load (some 11) (.tmp 4)⟩,⟨some 14,none,.mov (.tmp 2)⟩,⟨some 15,none,.mov (.tmp 3)⟩,⟨some 16,none,.call (.cst (.fn (.func 40) [] [])) [(.tmp 13), (.tmp 14), (.tmp 15)]⟩,⟨some 17,none,.fad (.tmp 5) 3⟩,⟨some 18,none,.load none (.tmp 17)⟩,⟨some 19,none,.fad (.tmp 5) 0⟩,⟨some 20,none,.load none (.tmp 19)⟩,⟨some 21,none,.ixs 1 (.tmp 18) (.tmp 20)⟩,⟨some 22,none,.load none (.tmp 21)⟩,⟨some 10,none,.mov (.tmp 22)⟩,⟨some 9,none,.alloc [(I 0),(I 0),(I 0),(I 0),(I 0),(I 0),(I 0),(I 0), .nils, (I 0), .nils]⟩,⟨none,none,.store 11 (.tmp 9) (.tmp 16)⟩])
 (.seq (.seq (.ops false [⟨some 23,none,.mov (.tmp 10)⟩,⟨some 24,none,.mov (.tmp 3)⟩,⟨some 25,none,.bin .geq (.tmp 23) (.tmp 24)⟩,⟨some 26,none,.mov (.tmp 25)⟩,⟨some 27,some ((some 26), true),.load (some 11) (.tmp 9)⟩,⟨some 28,some ((some 26), true),.fad (.tmp 5) 0⟩,⟨some 29,some ((some 26), true),.load none (.tmp 28)⟩,⟨some 30,some ((some 26), true),.call (.cst (.fn (.func 37) [] [])) [(.tmp 27), (.tmp 29)]⟩,⟨some 31,some ((some 26), true),.mov (.tmp 10)⟩,⟨some 32,some ((some 26), true),.bin .leq (.tmp 30) (.tmp 31)⟩,⟨some 33,none,.pick (.tmp 26) (.tmp 32) (.cst (.bool false))⟩])
 (.cond (.tmp 33) (.seq (.ops false [⟨some 8,none,.mov (.cst (.bool false))⟩])
 .ret) .skip))
 (.seq (.ops false [⟨some 34,none,.load (some 11) (.tmp 9)⟩,⟨some 35,none,.fad (.tmp 5) 0⟩,⟨some 36,none,.load none (.tmp 35)⟩,⟨some 37,none,.mov (.tmp 10)⟩,⟨some 38,none,.fad (.tmp 5) 2⟩,⟨some 39,none,.load none (.tmp 38)⟩,⟨some 40,none,.call (.cst (.fn (.func 56) [] [])) [(.tmp 34), (.tmp 36), (.tmp 37), (.tmp 39)]⟩,⟨some 11,none,.mov (.tmp 40)⟩])
 (.seq (.seq (.ops false [⟨some 12,none,.mov (.cst (I 0))⟩])
 (.block 0 (.loop keep38_0 body38_0)))
 (.seq (.ops false [⟨some 8,none,.mov (.cst (.bool false))⟩])
 .ret))))))⟩
theorem comp38 : compF Cv 38 = some code38 := by kernel_rfl

def body39_0 : MC := (.seq (.seq (.ops false [⟨some 8,none,.mov (.tmp 6)⟩,⟨some 9,none,.mov (.tmp 1)⟩,⟨some 10,none,.bin .lss (.tmp 8) (.tmp 9)⟩])
 (.cond (.tmp 10) .skip (.exit 0)))
 (.seq (.block 1 (.seq (.ops false [⟨some 13,none,.mov (.tmp 0)⟩,⟨some 14,none,.mov (.tmp 6)⟩,⟨some 15,none,.call (.cst (.fn (.func 77) [] [])) [(.tmp 13), (.tmp 14)]⟩])
 (.cond (.tmp 15) (.ops false [⟨some 16,none,.mov (.tmp 5)⟩,⟨some 17,none,.mov (.tmp 6)⟩,⟨some 18,none,.bsl 1 false (I 0) 1 [(0, (.tmp 17))]⟩,⟨some 19,none,.app false 1 8 false (.tmp 16) (.tmp 18)⟩,⟨some 5,none,.mov (.tmp 19)⟩]) .skip)))
 (.ops false [⟨some 11,none,.mov (.tmp 6)⟩,⟨some 12,none,.bin .add (.tmp 11) (.cst (I 1))⟩,⟨some 6,none,.mov (.tmp 12)⟩])))
def keep39_0 : Option (List Nat) := some [0, 1, 5, 6]
def code39 : MF := ⟨21, [(4, none)], (.seq (.ops false [⟨some 4,none,.mov (.cst .nils)⟩])
 (.seq (.ops false [⟨some 7,none,.bsl 1 false (I 0) 0 []⟩,⟨some 5,none,.mov (.tmp 7)⟩])
 (.seq (.seq (.ops false [⟨some 6,none,.mov (.cst (I 0))⟩])
 (.block 0 (.loop keep39_0 body39_0)))
 (.seq (.ops false [⟨some 20,none,.mov (.tmp 5)⟩,⟨some 4,none,.mov (.tmp 20)⟩])
 .ret))))⟩
theorem comp39 : compF Cv 39 = some code39 := by kernel_rfl

def body40_0 : MC := (.seq (.seq (.ops false [⟨some 13,none,.mov (.tmp 8)⟩,⟨some 14,none,.fad (.tmp 3) 8⟩,⟨some 15,none,.load none (.tmp 14)⟩,⟨some 16,none,.len (.tmp 15)⟩,⟨some 17,none,.bin .lss (.tmp 13) (.tmp 16)⟩])
 (.cond (.tmp 17) .skip (.exit 0)))
 (.seq (.block 1 (.seq (.ops false [⟨some 20,none,.mov (.tmp 1)⟩,⟨some 21,none,.fad (.tmp 3) 8⟩,⟨some 22,none,.load none (.tmp 21)⟩,⟨some 23,none,.mov (.tmp 8)⟩,⟨some 24,none,.ixs 2 (.tmp 22) (.tmp 23)⟩,⟨some 25,none,.fad (.tmp 24) 0⟩,⟨some 26,none,.load none (.tmp 25)⟩,⟨some 27,none,.call (.cst (.fn (.func 23) [] [])) [(.tmp 20), (.tmp 26)]⟩,⟨some 28,none,.bin .lss (.tmp 27) (.cst (I 0))⟩])
 (.cond (.tmp 28) (.ops false [⟨some 29,none,.fad (.tmp 7) 8⟩,⟨some 30,none,.load none (.tmp 29)⟩,⟨some 31,none,.fad (.tmp 3) 8⟩,⟨some 32,none,.load none (.tmp 31)⟩,⟨some 33,none,.mov (.tmp 8)⟩,⟨some 34,none,.ixs 2 (.tmp 32) (.tmp 33)⟩,⟨some 35,none,.load (some 2) (.tmp 34)⟩,⟨some 36,none,.bsl 2 true (.agg [(I 0),(I 0)]) 1 [(0, (.tmp 35))]⟩,⟨some 37,none,.app false 2 16 true (.tmp 30) (.tmp 36)⟩,⟨some 38,none,.fad (.tmp 7) 8⟩,⟨none,none,.store 1 (.tmp 38) (.tmp 37)⟩]) .skip)))
 (.ops false [⟨some 18,none,.mov (.tmp 8)⟩,⟨some 19,none,.bin .add (.tmp 18) (.cst (I 1))⟩,⟨some 8,none,.mov (.tmp 19)⟩])))
def keep40_0 : Option (List Nat) := some [1, 2, 3, 6, 7, 8]
def body40_1 : MC := (.seq (.seq (.ops false [⟨some 39,none,.mov (.tmp 9)⟩,⟨some 40,none,.mov (.tmp 1)⟩,⟨some 41,none,.len (.tmp 40)⟩,⟨some 42,none,.bin .lss (.tmp 39) (.tmp 41)⟩])
 (.cond (.tmp 42) .skip (.exit 2)))
 (.seq (.block 3 (.ops false [⟨some 45,none,.fad (.tmp 7) 8⟩,⟨some 46,none,.load none (.tmp 45)⟩,⟨some 47,none,.mov (.tmp 1)⟩,⟨some 48,none,.mov (.tmp 9)⟩,⟨some 49,none,.ixs 1 (.tmp 47) (.tmp 48)⟩,⟨some 50,none,.load none (.tmp 49)⟩,⟨some 51,none,.mov (.tmp 2)⟩,⟨some 52,none,.bld [(I 0),(I 0)] [(0, 1, (.tmp 50)), (1, 1, (.tmp 51))]⟩,⟨some 53,none,.bsl 2 true (.agg [(I 0),(I 0)]) 1 [(0, (.tmp 52))]⟩,⟨some 54,none,.app false 2 16 true (.tmp 46) (.tmp 53)⟩,⟨some 55,none,.fad (.tmp 7) 8⟩,⟨none,none,.store 1 (.tmp 55) (.tmp 54)⟩]))
 (.ops false [⟨some 43,none,.mov (.tmp 9)⟩,⟨some 44,none,.bin .add (.tmp 43) (.cst (I 1))⟩,⟨some 9,none,.mov (.tmp 44)⟩])))
def keep40_1 : Option (List Nat) := some [1, 2, 6, 7, 9]
def code40 : MF := ⟨57, [(6, some (some 11))], (.seq (.ops false [⟨some 3,none,.box (.tmp 0)⟩,⟨some 6,none,.alloc [(I 0),(I 0),(I 0),(I 0),(I 0),(I 0),(I 0),(I 0), .nils, (I 0), .nils]⟩])
 (.seq (.ops false [⟨some 10,none,.load (some 11) (.tmp 3)⟩,⟨some 7,none,.alloc [(I 0),(I 0),(I 0),(I 0),(I 0),(I 0),(I 0),(I 0), .nils, (I 0), .nils]⟩,⟨none,none,.store 11 (.tmp 7) (.tmp 10)⟩])
 (.seq (.ops false [⟨some 11,none,.fad (.tmp 7) 10⟩,⟨none,none,.store 1 (.tmp 11) (.cst .nils)⟩,⟨some 12,none,.fad (.tmp 7) 8⟩,⟨none,none,.store 1 (.tmp 12) (.cst .nils)⟩])
 (.seq (.seq (.ops false [⟨some 8,none,.mov (.cst (I 0))⟩])
 (.block 0 (.loop keep40_0 body40_0)))
 (.seq (.seq (.ops false [⟨some 9,none,.mov (.cst (I 0))⟩])
 (.block 2 (.loop keep40_1 body40_1)))
 (.seq (.ops false [⟨some 56,none,.load (some 11) (.tmp 7)⟩,⟨none,none,.store 11 (.tmp 6) (.tmp 56)⟩])
 .ret))))))⟩
theorem comp40 : compF Cv 40 = some code40 := by kernel_rfl

def code41 : MF := ⟨22, [(4, none)], (.seq (.ops false [⟨some 4,none,.mov (.cst (.bool false))⟩])
 (.seq (.ops false [⟨some 5,none,.mov (.tmp 0)⟩,⟨some 6,none,.len (.tmp 5)⟩,⟨some 7,none,.mov (.tmp 1)⟩,⟨some 8,none,.len (.tmp 7)⟩,⟨some 9,none,.bin .lss (.tmp 6) (.tmp 8)⟩,⟨some 10,none,.mov (.tmp 9)⟩,⟨some 11,some ((some 10), false),.mov (.tmp 0)⟩,⟨some 12,some ((some 10), false),.len (.tmp 11)⟩,⟨some 13,some ((some 10), false),.mov (.tmp 1)⟩,⟨some 14,some ((some 10), false),.len (.tmp 13)⟩,⟨some 15,some ((some 10), false),.bin .eql (.tmp 12) (.tmp 14)⟩,⟨some 16,some ((some 10), false),.mov (.tmp 15)⟩,⟨some 17,some ((some 16), true),.mov (.tmp 0)⟩,⟨some 18,some ((some 16), true),.mov (.tmp 1)⟩,⟨some 19,some ((some 16), true),.call (.cst (.fn (.func 78) [] [])) [(.tmp 17), (.tmp 18)]⟩,⟨some 20,some ((some 10), false),.pick (.tmp 16) (.tmp 19) (.cst (.bool false))⟩,⟨some 21,none,.pick (.tmp 10) (.cst (.bool true)) (.tmp 20)⟩,⟨some 4,none,.mov (.tmp 21)⟩])
 .ret))⟩
theorem comp41 : compF Cv 41 = some code41 := by kernel_rfl

def body42_0 : MC := (.seq (.seq (.ops false [⟨some 12,none,.mov (.tmp 4)⟩,⟨some 13,none,.fad (.tmp 1) 0⟩,⟨some 14,none,.load none (.tmp 13)⟩,⟨some 15,none,.bin .lss (.tmp 12) (.tmp 14)⟩])
 (.cond (.tmp 15) .skip (.exit 0)))
 (.seq (.block 1 (.seq (.ops false [⟨some 18,none,.fad (.tmp 1) 2⟩,⟨some 19,none,.load none (.tmp 18)⟩,⟨some 20,none,.mov (.tmp 4)⟩,⟨some 21,none,.call (.cst (.fn (.func 77) [] [])) [(.tmp 19), (.tmp 20)]⟩])
 (.cond (.tmp 21) (.ops false [⟨some 22,none,.fad (.tmp 3) 2⟩,⟨some 23,none,.load none (.tmp 22)⟩,⟨some 24,none,.fad (.tmp 1) 0⟩,⟨some 25,none,.load none (.tmp 24)⟩,⟨some 26,none,.bin .sub (.tmp 25) (.cst (I 1))⟩,⟨some 27,none,.mov (.tmp 4)⟩,⟨some 28,none,.bin .sub (.tmp 26) (.tmp 27)⟩,⟨some 29,none,.bin .shl (.cst (I 1)) (.tmp 28)⟩,⟨some 30,none,.bin .or (.tmp 23) (.tmp 29)⟩,⟨some 31,none,.fad (.tmp 3) 2⟩,⟨none,none,.store 1 (.tmp 31) (.tmp 30)⟩]) .skip)))
 (.ops false [⟨some 16,none,.mov (.tmp 4)⟩,⟨some 17,none,.bin .add (.tmp 16) (.cst (I 1))⟩,⟨some 4,none,.mov (.tmp 17)⟩])))
def keep42_0 : Option (List Nat) := some [1, 2, 3, 4]
def body42_1 : MC := (.seq (.seq (.ops false [⟨some 32,none,.mov (.tmp 5)⟩,⟨some 33,none,.fad (.tmp 1) 8⟩,⟨some 34,none,.load none (.tmp 33)⟩,⟨some 35,none,.len (.tmp 34)⟩,⟨some 36,none,.bin .lss (.tmp 32) (.tmp 35)⟩])
 (.cond (.tmp 36) .skip (.exit 2)))
 (.seq (.block 3 (.ops false [⟨some 39,none,.fad (.tmp 3) 8⟩,⟨some 40,none,.load none (.tmp 39)⟩,⟨some 41,none,.fad (.tmp 1) 0⟩,⟨some 42,none,.load none (.tmp 41)⟩,⟨some 43,none,.bin .sub (.tmp 42) (.cst (I 1))⟩,⟨some 44,none,.fad (.tmp 1) 8⟩,⟨some 45,none,.load none (.tmp 44)⟩,⟨some 46,none,.mov (.tmp 5)⟩,⟨some 47,none,.ixs 2 (.tmp 45) (.tmp 46)⟩,⟨some 48,none,.fad (.tmp 47) 0⟩,⟨some 49,none,.load none (.tmp 48)⟩,⟨some 50,none,.bin .sub (.tmp 43) (.tmp 49)⟩,⟨some 51,none,.fad (.tmp 1) 8⟩,⟨some 52,none,.load none (.tmp 51)⟩,⟨some 53,none,.mov (.tmp 5)⟩,⟨some 54,none,.ixs 2 (.tmp 52) (.tmp 53)⟩,⟨some 55,none,.fad (.tmp 54) 1⟩,⟨some 56,none,.load none (.tmp 55)⟩,⟨some 57,none,.bld [(I 0),(I 0)] [(0, 1, (.tmp 50)), (1, 1, (.tmp 56))]⟩,⟨some 58,none,.bsl 2 true (.agg [(I 0),(I 0)]) 1 [(0, (.tmp 57))]⟩,⟨some 59,none,.app false 2 16 true (.tmp 40) (.tmp 58)⟩,⟨some 60,none,.fad (.tmp 3) 8⟩,⟨none,none,.store 1 (.tmp 60) (.tmp 59)⟩]))
 (.ops false [⟨some 37,none,.mov (.tmp 5)⟩,⟨some 38,none,.bin .add (.tmp 37) (.cst (I 1))⟩,⟨some 5,none,.mov (.tmp 38)⟩])))
def keep42_1 : Option (List Nat) := some [1, 2, 3, 5]
def body42_2 : MC := (.seq (.seq (.ops false [⟨some 61,none,.mov (.tmp 6)⟩,⟨some 62,none,.fad (.tmp 1) 10⟩,⟨some 63,none,.load none (.tmp 62)⟩,⟨some 64,none,.len (.tmp 63)⟩,⟨some 65,none,.bin .lss (.tmp 61) (.tmp 64)⟩])
 (.cond (.tmp 65) .skip (.exit 4)))
 (.seq (.block 5 (.seq (.ops false [⟨some 68,none,.fad (.tmp 1) 10⟩,⟨some 69,none,.load none (.tmp 68)⟩,⟨some 70,none,.mov (.tmp 6)⟩,⟨some 71,none,.ixs 3 (.tmp 69) (.tmp 70)⟩,⟨some 72,none,.load (some 3) (.tmp 71)⟩,⟨some 7,none,.alloc [(I 0),(I 0), (.bool false)]⟩,⟨none,none,.store 3 (.tmp 7) (.tmp 72)⟩])
 (.seq (.ops false [⟨some 73,none,.fad (.tmp 1) 0⟩,⟨some 74,none,.load none (.tmp 73)⟩,⟨some 75,none,.bin .sub (.tmp 74) (.cst (I 1))⟩,⟨some 76,none,.fad (.tmp 7) 0⟩,⟨some 77,none,.load none (.tmp 76)⟩,⟨some 78,none,.bin .sub (.tmp 75) (.tmp 77)⟩,⟨some 79,none,.fad (.tmp 7) 0⟩,⟨none,none,.store 1 (.tmp 79) (.tmp 78)⟩])
 (.ops false [⟨some 80,none,.fad (.tmp 3) 10⟩,⟨some 81,none,.load none (.tmp 80)⟩,⟨some 82,none,.load (some 3) (.tmp 7)⟩,⟨some 83,none,.bsl 3 true (.agg [(I 0),(I 0), (.bool false)]) 1 [(0, (.tmp 82))]⟩,⟨some 84,none,.app false 3 24 true (.tmp 81) (.tmp 83)⟩,⟨some 85,none,.fad (.tmp 3) 10⟩,⟨none,none,.store 1 (.tmp 85) (.tmp 84)⟩]))))
 (.ops false [⟨some 66,none,.mov (.tmp 6)⟩,⟨some 67,none,.bin .add (.tmp 66) (.cst (I 1))⟩,⟨some 6,none,.mov (.tmp 67)⟩])))
def keep42_2 : Option (List Nat) := some [1, 2, 3, 6]
def code42 : MF := ⟨87, [(2, some (some 11))], (.seq (.ops false [⟨some 1,none,.box (.tmp 0)⟩,⟨some 2,none,.alloc [(I 0),(I 0),(I 0),(I 0),(I 0),(I 0),(I 0),(I 0), .nils, (I 0), .nils]⟩])
 (.seq (.ops false [⟨some 8,none,.load (some 11) (.tmp 1)⟩,⟨some 3,none,.alloc [(I 0),(I 0),(I 0),(I 0),(I 0),(I 0),(I 0),(I 0), .nils, (I 0), .nils]⟩,⟨none,none,.store 11 (.tmp 3) (.tmp 8)⟩])
 (.seq (.ops false [⟨some 9,none,.fad (.tmp 3) 2⟩,⟨none,none,.store 1 (.tmp 9) (.cst (I 0))⟩,⟨some 10,none,.fad (.tmp 3) 8⟩,⟨none,none,.store 1 (.tmp 10) (.cst .nils)⟩,⟨some 11,none,.fad (.tmp 3) 10⟩,⟨none,none,.store 1 (.tmp 11) (.cst .nils)⟩])
 (.seq (.seq (.ops false [⟨some 4,none,.mov (.cst (I 0))⟩])
 (.block 0 (.loop keep42_0 body42_0)))
 (.seq (.seq (.ops false [⟨some 5,none,.mov (.cst (I 0))⟩])
 (.block 2 (.loop keep42_1 body42_1)))
 (.seq (.seq (.ops false [⟨some 6,none,.mov (.cst (I 0))⟩])
 (.block 4 (.loop keep42_2 body42_2)))
 (.seq (.ops false [⟨some 86,none,.load (some 11) (.tmp 3)⟩,⟨none,none,.store 11 (.tmp 2) (.tmp 86)⟩])
 .ret)))))))⟩
theorem comp42 : compF Cv 42 = some code42 := by kernel_rfl

def body43_0 : MC := (.seq (.seq (.ops false [⟨some 12,none,.mov (.tmp 5)⟩,⟨some 13,none,.mov (.tmp 12)⟩,⟨some 14,some ((some 13), true),.mov (.tmp 6)⟩,⟨some 15,some ((some 13), true),.mov (.tmp 0)⟩,⟨some 16,some ((some 13), true),.len (.tmp 15)⟩,⟨some 17,some ((some 13), true),.bin .lss (.tmp 14) (.tmp 16)⟩,⟨some 18,none,.pick (.tmp 13) (.tmp 17) (.cst (.bool false))⟩])
 (.cond (.tmp 18) .skip (.exit 0)))
 (.seq (.block 1 (.ops false [⟨some 21,none,.mov (.tmp 0)⟩,⟨some 22,none,.mov (.tmp 6)⟩,⟨some 23,none,.ixs 1 (.tmp 21) (.tmp 22)⟩,⟨some 24,none,.load none (.tmp 23)⟩,⟨some 25,none,.mov (.tmp 1)⟩,⟨some 26,none,.mov (.tmp 6)⟩,⟨some 27,none,.ixs 1 (.tmp 25) (.tmp 26)⟩,⟨some 28,none,.load none (.tmp 27)⟩,⟨some 29,none,.bin .eql (.tmp 24) (.tmp 28)⟩,⟨some 5,none,.mov (.tmp 29)⟩]))
 (.ops false [⟨some 19,none,.mov (.tmp 6)⟩,⟨some 20,none,.bin .add (.tmp 19) (.cst (I 1))⟩,⟨some 6,none,.mov (.tmp 20)⟩])))
def keep43_0 : Option (List Nat) := some [0, 1, 5, 6]
def code43 : MF := ⟨31, [(4, none)], (.seq (.ops false [⟨some 4,none,.mov (.cst (.bool false))⟩])
 (.seq (.ops false [⟨some 7,none,.mov (.tmp 0)⟩,⟨some 8,none,.len (.tmp 7)⟩,⟨some 9,none,.mov (.tmp 1)⟩,⟨some 10,none,.len (.tmp 9)⟩,⟨some 11,none,.bin .eql (.tmp 8) (.tmp 10)⟩,⟨some 5,none,.mov (.tmp 11)⟩])
 (.seq (.seq (.ops false [⟨some 6,none,.mov (.cst (I 0))⟩])
 (.block 0 (.loop keep43_0 body43_0)))
 (.seq (.ops false [⟨some 30,none,.mov (.tmp 5)⟩,⟨some 4,none,.mov (.tmp 30)⟩])
 .ret))))⟩
theorem comp43 : compF Cv 43 = some code43 := by kernel_rfl

def body44_0 : MC := (.seq (.seq (.ops false [⟨some 9,none,.mov (.tmp 6)⟩,⟨some 10,none,.fad (.tmp 2) 10⟩,⟨some 11,none,.load none (.tmp 10)⟩,⟨some 12,none,.len (.tmp 11)⟩,⟨some 13,none,.bin .lss (.tmp 9) (.tmp 12)⟩])
 (.cond (.tmp 13) .skip (.exit 0)))
 (.seq (.block 1 (.seq (.ops false [⟨some 16,none,.mov (.tmp 1)⟩,⟨some 17,none,.mov (.tmp 6)⟩,⟨some 18,none,.call (.cst (.fn (.func 23) [] [])) [(.tmp 16), (.tmp 17)]⟩,⟨some 19,none,.bin .lss (.tmp 18) (.cst (I 0))⟩])
 (.cond (.tmp 19) (.ops false [⟨some 20,none,.fad (.tmp 5) 10⟩,⟨some 21,none,.load none (.tmp 20)⟩,⟨some 22,none,.fad (.tmp 2) 10⟩,⟨some 23,none,.load none (.tmp 22)⟩,⟨some 24,none,.mov (.tmp 6)⟩,⟨some 25,none,.ixs 3 (.tmp 23) (.tmp 24)⟩,⟨some 26,none,.load (some 3) (.tmp 25)⟩,⟨some 27,none,.bsl 3 true (.agg [(I 0),(I 0), (.bool false)]) 1 [(0, (.tmp 26))]⟩,⟨some 28,none,.app false 3 24 true (.tmp 21) (.tmp 27)⟩,⟨some 29,none,.fad (.tmp 5) 10⟩,⟨none,none,.store 1 (.tmp 29) (.tmp 28)⟩]) .skip)))
 (.ops false [⟨some 14,none,.mov (.tmp 6)⟩,⟨some 15,none,.bin .add (.tmp 14) (.cst (I 1))⟩,⟨some 6,none,.mov (.tmp 15)⟩])))
def keep44_0 : Option (List Nat) := some [1, 2, 4, 5, 6]
def code44 : MF := ⟨31, [(4, some (some 11))], (.seq (.ops false [⟨some 2,none,.box (.tmp 0)⟩,⟨some 4,none,.alloc [(I 0),(I 0),(I 0),(I 0),(I 0),(I 0),(I 0),(I 0), .nils, (I 0), .nils]⟩])
 (.seq (.ops false [⟨some 7,none,.load (some 11) (.tmp 2)⟩,⟨some 5,none,.alloc [(I 0),(I 0),(I 0),(I 0),(I 0),(I 0),(I 0),(I 0), .nils, (I 0), .nils]⟩,⟨none,none,.store 11 (.tmp 5) (.tmp 7)⟩])
 (.seq (.ops false [⟨some 8,none,.fad (.tmp 5) 10⟩,⟨none,none,.store 1 (.tmp 8) (.cst .nils)⟩])
 (.seq (.seq (.ops false [⟨some 6,none,.mov (.cst (I 0))⟩])
 (.block 0 (.loop keep44_0 body44_0)))
 (.seq (.ops false [⟨some 30,none,.load (some 11) (.tmp 5)⟩,⟨none,none,.store 11 (.tmp 4) (.tmp 30)⟩])
 .ret)))))⟩
theorem comp44 : compF Cv 44 = some code44 := by kernel_rfl

def code45 : MF := ⟨2, [(0, some (some 11))], (.seq (.ops false [⟨some 0,none,.alloc [(I 0),(I 0),(I 0),(I 0),(I 0),(I 0),(I 0),(I 0), .nils, (I 0), .nils]⟩])
 (.seq (.ops false [⟨some 1,none,.call (.cst (.fn (.func 47) [] [])) [(.cst .nils)]⟩,⟨none,none,.store 11 (.tmp 0) (.tmp 1)⟩])
 .ret))⟩
theorem comp45 : compF Cv 45 = some code45 := by kernel_rfl

def code46 : MF := ⟨7, [(0, some (some 11))], (.seq (.ops false [⟨some 0,none,.alloc [(I 0),(I 0),(I 0),(I 0),(I 0),(I 0),(I 0),(I 0), .nils, (I 0), .nils]⟩])
 (.seq (.ops false [⟨some 2,none,.call (.cst (.fn (.func 45) [] [])) []⟩,⟨some 1,none,.alloc [(I 0),(I 0),(I 0),(I 0),(I 0),(I 0),(I 0),(I 0), .nils, (I 0), .nils]⟩,⟨none,none,.store 11 (.tmp 1) (.tmp 2)⟩])
 (.seq (.ops false [⟨some 3,none,.bld [(I 0),(I 0)] [(0, 1, (.cst (I 1))), (1, 1, (.cst (I 1)))]⟩,⟨some 4,none,.bsl 2 true (.agg [(I 0),(I 0)]) 1 [(0, (.tmp 3))]⟩,⟨some 5,none,.fad (.tmp 1) 8⟩,⟨none,none,.store 1 (.tmp 5) (.tmp 4)⟩])
 (.seq (.ops false [⟨some 6,none,.load (some 11) (.tmp 1)⟩,⟨none,none,.store 11 (.tmp 0) (.tmp 6)⟩])
 .ret))))⟩
theorem comp46 : compF Cv 46 = some code46 := by kernel_rfl

def code47 : MF := ⟨8, [(2, some (some 11))], (.seq (.ops false [⟨some 2,none,.alloc [(I 0),(I 0),(I 0),(I 0),(I 0),(I 0),(I 0),(I 0), .nils, (I 0), .nils]⟩])
 (.seq (.ops false [⟨some 3,none,.call (.cst (.fn (.func 48) [] [])) [(.cst (I 1)), (.cst (I 2))]⟩,⟨some 4,none,.call (.cst (.fn (.func 49) [] [])) [(.cst (I 1))]⟩,⟨some 5,none,.bld [(I 0),(I 0),(I 0),(I 0)] [(0, 2, (.tmp 3)), (2, 2, (.tmp 4))]⟩,⟨some 6,none,.mov (.tmp 0)⟩,⟨some 7,none,.bld [(I 0),(I 0),(I 0),(I 0),(I 0),(I 0),(I 0),(I 0), .nils, (I 0), .nils] [(0, 1, (.cst (I 4))), (1, 1, (.cst (I 5))), (2, 1, (.cst (I 3))), (4, 4, (.tmp 5)), (9, 1, (.cst (I 2))), (10, 1, (.tmp 6))]⟩,⟨none,none,.store 11 (.tmp 2) (.tmp 7)⟩])
 .ret))⟩
theorem comp47 : compF Cv 47 = some code47 := by kernel_rfl

def code48 : MF := ⟨8, [(4, some (some 2))], (.seq (.ops false [⟨some 4,none,.alloc [(I 0),(I 0)]⟩])
 (.seq (.ops false [⟨some 5,none,.mov (.tmp 0)⟩,⟨some 6,none,.mov (.tmp 1)⟩,⟨some 7,none,.bld [(I 0),(I 0)] [(0, 1, (.tmp 5)), (1, 1, (.tmp 6))]⟩,⟨none,none,.store 2 (.tmp 4) (.tmp 7)⟩])
 .ret))⟩
theorem comp48 : compF Cv 48 = some code48 := by kernel_rfl

def code49 : MF := ⟨6, [(2, some (some 2))], (.seq (.ops false [⟨some 2,none,.alloc [(I 0),(I 0)]⟩])
 (.seq (.ops false [⟨some 3,none,.mov (.tmp 0)⟩,⟨some 4,none,.mov (.tmp 0)⟩,⟨some 5,none,.bld [(I 0),(I 0)] [(0, 1, (.tmp 3)), (1, 1, (.tmp 4))]⟩,⟨none,none,.store 2 (.tmp 2) (.tmp 5)⟩])
 .ret))⟩
theorem comp49 : compF Cv 49 = some code49 := by kernel_rfl

def body50_0 : MC := (.seq (.ops false [⟨some 67,none,.bin .lss (.tmp 66) (.tmp 65)⟩])
 (.seq (.cond (.tmp 67) .skip (.exit 0))
 (.seq (.block 1 (.seq (.ops false [⟨some 68,none,.mov (.tmp 66)⟩,⟨some 69,none,.ixs 2 (.tmp 64) (.tmp 66)⟩,⟨some 70,none,.load (some 2) (.tmp 69)⟩,⟨some 5,none,.alloc [(I 0),(I 0)]⟩,⟨some 4,none,.mov (.tmp 68)⟩,⟨none,none,.store 2 (.tmp 5) (.tmp 70)⟩])
 (.ops false [⟨some 71,none,.mov (.tmp 3)⟩,⟨some 72,none,.mov (.tmp 71)⟩,⟨some 73,some ((some 72), true),.load (some 11) (.tmp 1)⟩,⟨some 74,some ((some 72), true),.fad (.tmp 5) 0⟩,⟨some 75,some ((some 72), true),.load none (.tmp 74)⟩,⟨some 76,some ((some 72), true),.fad (.tmp 5) 1⟩,⟨some 77,some ((some 72), true),.load none (.tmp 76)⟩,⟨some 78,some ((some 72), true),.call (.cst (.fn (.func 68) [] [])) [(.tmp 73), (.tmp 75), (.tmp 77)]⟩,⟨some 79,none,.pick (.tmp 72) (.tmp 78) (.cst (.bool false))⟩,⟨some 80,none,.mov (.tmp 79)⟩,⟨some 81,some ((some 80), true),.fad (.tmp 5) 1⟩,⟨some 82,some ((some 80), true),.load none (.tmp 81)⟩,⟨some 83,some ((some 80), true),.bin .gtr (.tmp 82) (.cst (I 0))⟩,⟨some 84,none,.pick (.tmp 80) (.tmp 83) (.cst (.bool false))⟩,⟨some 85,none,.mov (.tmp 84)⟩,⟨some 86,some ((some 85), true),.fad (.tmp 1) 8⟩,⟨some 87,some ((some 85), true),.load none (.tmp 86)⟩,⟨some 88,some ((some 85), true),.mov (.tmp 4)⟩,⟨some 89,some ((some 85), true),.slc 2 (.tmp 87) none (some (.tmp 88)) none⟩,⟨some 90,some ((some 85), true),.mkf (.func 81) [] [(.tmp 5)]⟩,⟨some 91,some ((some 85), true),.call (.cst (.fn (.func 80) [] [])) [(.tmp 89), (.tmp 90)]⟩,⟨some 92,some ((some 85), true),.lnot (.tmp 91)⟩,⟨some 93,none,.pick (.tmp 85) (.tmp 92) (.cst (.bool false))⟩,⟨some 3,none,.mov (.tmp 93)⟩])))
 (.ops false [⟨some 94,none,.bin .add (.tmp 66) (.cst (I 1))⟩,⟨some 66,none,.mov (.tmp 94)⟩]))))
def keep50_0 : Option (List Nat) := some [1, 3, 64, 65, 66]
def body50_1 : MC := (.seq (.ops false [⟨some 99,none,.bin .lss (.tmp 98) (.tmp 97)⟩])
 (.seq (.cond (.tmp 99) .skip (.exit 2))
 (.seq (.block 3 (.seq (.ops false [⟨some 100,none,.ixs 3 (.tmp 96) (.tmp 98)⟩,⟨some 101,none,.load (some 3) (.tmp 100)⟩,⟨some 7,none,.alloc [(I 0),(I 0), (.bool false)]⟩,⟨none,none,.store 3 (.tmp 7) (.tmp 101)⟩])
 (.ops false [⟨some 102,none,.mov (.tmp 3)⟩,⟨some 103,none,.mov (.tmp 102)⟩,⟨some 104,some ((some 103), true),.load (some 11) (.tmp 1)⟩,⟨some 105,some ((some 103), true),.fad (.tmp 7) 0⟩,⟨some 106,some ((some 103), true),.load none (.tmp 105)⟩,⟨some 107,some ((some 103), true),.fad (.tmp 7) 1⟩,⟨some 108,some ((some 103), true),.load none (.tmp 107)⟩,⟨some 109,some ((some 103), true),.call (.cst (.fn (.func 68) [] [])) [(.tmp 104), (.tmp 106), (.tmp 108)]⟩,⟨some 110,none,.pick (.tmp 103) (.tmp 109) (.cst (.bool false))⟩,⟨some 3,none,.mov (.tmp 110)⟩])))
 (.ops false [⟨some 111,none,.bin .add (.tmp 98) (.cst (I 1))⟩,⟨some 98,none,.mov (.tmp 111)⟩]))))
def keep50_1 : Option (List Nat) := some [1, 3, 96, 97, 98]
def code50 : MF := ⟨114, [(2, none)], (.seq (.ops false [⟨some 1,none,.box (.tmp 0)⟩,⟨some 2,none,.mov (.cst (I 0))⟩])
 (.seq (.ops false [⟨some 8,none,.fad (.tmp 1) 0⟩,⟨some 9,none,.load none (.tmp 8)⟩,⟨some 10,none,.call (.cst (.fn (.func 62) [] [])) [(.tmp 9), (.cst (I 1)), (.cst (I 5))]⟩,⟨some 11,none,.mov (.tmp 10)⟩,⟨some 12,some ((some 11), true),.fad (.tmp 1) 1⟩,⟨some 13,some ((some 11), true),.load none (.tmp 12)⟩,⟨some 14,some ((some 11), true),.call (.cst (.fn (.func 62) [] [])) [(.tmp 13), (.cst (I 1)), (.cst (I 6))]⟩,⟨some 15,none,.pick (.tmp 11) (.tmp 14) (.cst (.bool false))⟩,⟨some 16,none,.mov (.tmp 15)⟩,⟨some 17,some ((some 16), true),.fad (.tmp 1) 3⟩,⟨some 18,some ((some 16), true),.load none (.tmp 17)⟩,⟨some 19,some ((some 16), true),.fad (.tmp 1) 1⟩,⟨some 20,some ((some 16), true),.load none (.tmp 19)⟩,⟨some 21,some ((some 16), true),.bin .sub (.tmp 20) (.cst (I 1))⟩,⟨some 22,some ((some 16), true),.call (.cst (.fn (.func 62) [] [])) [(.tmp 18), (.cst (I 0)), (.tmp 21)]⟩,⟨some 23,none,.pick (.tmp 16) (.tmp 22) (.cst (.bool false))⟩,⟨some 24,none,.mov (.tmp 23)⟩,⟨some 25,some ((some 24), true),.fad (.tmp 1) 4⟩,⟨some 26,some ((some 24), true),.ixa 2 2 (.tmp 25) (.cst (I 0))⟩,⟨some 27,some ((some 24), true),.load (some 2) (.tmp 26)⟩,⟨some 28,some ((some 24), true),.call (.cst (.fn (.func 79) [] [])) [(.tmp 27)]⟩,⟨some 29,none,.pick (.tmp 24) (.tmp 28) (.cst (.bool false))⟩,⟨some 30,none,.mov (.tmp 29)⟩,⟨some 31,some ((some 30), true),.fad (.tmp 1) 4⟩,⟨some 32,some ((some 30), true),.ixa 2 2 (.tmp 31) (.cst (I 1))⟩,⟨some 33,some ((some 30), true),.load (some 2) (.tmp 32)⟩,⟨some 34,some ((some 30), true),.call (.cst (.fn (.func 79) [] [])) [(.tmp 33)]⟩,⟨some 35,none,.pick (.tmp 30) (.tmp 34) (.cst (.bool false))⟩,⟨some 36,none,.mov (.tmp 35)⟩,⟨some 37,some ((some 36), true),.fad (.tmp 1) 9⟩,⟨some 38,some ((some 36), true),.load none (.tmp 37)⟩,⟨some 39,some ((some 36), true),.call (.cst (.fn (.func 62) [] [])) [(.tmp 38), (.cst (I 0)), (.cst (I 3))]⟩,⟨some 40,none,.pick (.tmp 36) (.tmp 39) (.cst (.bool false))⟩,⟨some 41,none,.mov (.tmp 40)⟩,⟨some 42,some ((some 41), true),.fad (.tmp 1) 8⟩,⟨some 43,some ((some 41), true),.load none (.tmp 42)⟩,⟨some 44,some ((some 41), true),.len (.tmp 43)⟩,⟨some 45,some ((some 41), true),.bin .leq (.tmp 44) (.cst (I 3))⟩,⟨some 46,none,.pick (.tmp 41) (.tmp 45) (.cst (.bool false))⟩,⟨some 47,none,.mov (.tmp 46)⟩,⟨some 48,some ((some 47), true),.fad (.tmp 1) 10⟩,⟨some 49,some ((some 47), true),.load none (.tmp 48)⟩,⟨some 50,some ((some 47), true),.len (.tmp 49)⟩,⟨some 51,some ((some 47), true),.bin .leq (.tmp 50) (.cst (I 4))⟩,⟨some 52,none,.pick (.tmp 47) (.tmp 51) (.cst (.bool false))⟩,⟨some 3,none,.mov (.tmp 52)⟩])
 (.seq (.ops false [⟨some 53,none,.mov (.tmp 3)⟩,⟨some 54,none,.mov (.tmp 53)⟩,⟨some 55,some ((some 54), true),.fad (.tmp 1) 2⟩,⟨some 56,some ((some 54), true),.load none (.tmp 55)⟩,⟨some 57,some ((some 54), true),.fad (.tmp 1) 0⟩,⟨some 58,some ((some 54), true),.load none (.tmp 57)⟩,⟨some 59,some ((some 54), true),.bin .shl (.cst (I 1)) (.tmp 58)⟩,⟨some 60,some ((some 54), true),.bin .sub (.tmp 59) (.cst (I 1))⟩,⟨some 61,some ((some 54), true),.call (.cst (.fn (.func 62) [] [])) [(.tmp 56), (.cst (I 1)), (.tmp 60)]⟩,⟨some 62,none,.pick (.tmp 54) (.tmp 61) (.cst (.bool false))⟩,⟨some 3,none,.mov (.tmp 62)⟩])
 (.seq (.seq (.ops false [⟨some 63,none,.fad (.tmp 1) 8⟩,⟨some 64,none,.load none (.tmp 63)⟩,⟨some 65,none,.len (.tmp 64)⟩,⟨some 66,none,.mov (.cst (I 0))⟩])
 (.block 0 (.loop keep50_0 body50_0)))
 (.seq (.seq (.ops false [⟨some 95,none,.fad (.tmp 1) 10⟩,⟨some 96,none,.load none (.tmp 95)⟩,⟨some 97,none,.len (.tmp 96)⟩,⟨some 98,none,.mov (.cst (I 0))⟩])
 (.block 2 (.loop keep50_1 body50_1)))
 (.seq (.seq (.ops false [⟨some 112,none,.mov (.tmp 3)⟩,⟨some 113,none,.lnot (.tmp 112)⟩])
 (.cond (.tmp 113) (.seq (.ops false [⟨some 2,none,.mov (.cst (I 30))⟩])
 .ret) .skip))
 (.seq (.ops false [⟨some 2,none,.mov (.cst (I 0))⟩])
 .ret)))))))⟩
theorem comp50 : compF Cv 50 = some code50 := by kernel_rfl

def code51 : MF := ⟨5, [(0, some (some 11))], (.seq (.ops false [⟨some 0,none,.alloc [(I 0),(I 0),(I 0),(I 0),(I 0),(I 0),(I 0),(I 0), .nils, (I 0), .nils]⟩])
 (.seq (.ops false [⟨some 1,none,.call (.cst (.fn (.func 32) [] [])) [(.cst (I 0)), (.cst (I 1)), (.cst (.bool true))]⟩,⟨some 2,none,.call (.cst (.fn (.func 32) [] [])) [(.cst (I 2)), (.cst (I 2)), (.cst (.bool true))]⟩,⟨some 3,none,.bsl 3 true (.agg [(I 0),(I 0), (.bool false)]) 2 [(0, (.tmp 1)), (1, (.tmp 2))]⟩,⟨some 4,none,.call (.cst (.fn (.func 47) [] [])) [(.tmp 3)]⟩,⟨none,none,.store 11 (.tmp 0) (.tmp 4)⟩])
 .ret))⟩
theorem comp51 : compF Cv 51 = some code51 := by kernel_rfl

def code52 : MF := ⟨4, [(0, some (some 11))], (.seq (.ops false [⟨some 0,none,.alloc [(I 0),(I 0),(I 0),(I 0),(I 0),(I 0),(I 0),(I 0), .nils, (I 0), .nils]⟩])
 (.seq (.ops false [⟨some 1,none,.call (.cst (.fn (.func 32) [] [])) [(.cst (I 0)), (.cst (I 1)), (.cst (.bool true))]⟩,⟨some 2,none,.bsl 3 true (.agg [(I 0),(I 0), (.bool false)]) 1 [(0, (.tmp 1))]⟩,⟨some 3,none,.call (.cst (.fn (.func 47) [] [])) [(.tmp 2)]⟩,⟨none,none,.store 11 (.tmp 0) (.tmp 3)⟩])
 .ret))⟩
theorem comp52 : compF Cv 52 = some code52 := by kernel_rfl

def code53 : MF := ⟨35, [(8, none)], (.seq (.ops false [⟨some 4,none,.box (.tmp 0)⟩,⟨some 8,none,.mov (.cst (.bool false))⟩])
 (.seq (.ops false [⟨some 9,none,.mov (.tmp 1)⟩,⟨some 10,none,.fad (.tmp 4) 0⟩,⟨some 11,none,.load none (.tmp 10)⟩,⟨some 12,none,.bin .leq (.tmp 9) (.tmp 11)⟩,⟨some 13,none,.mov (.tmp 12)⟩,⟨some 14,some ((some 13), true),.fad (.tmp 4) 0⟩,⟨some 15,some ((some 13), true),.load none (.tmp 14)⟩,⟨some 16,some ((some 13), true),.fad (.tmp 4) 1⟩,⟨some 17,some ((some 13), true),.load none (.tmp 16)⟩,⟨some 18,some ((some 13), true),.bin .leq (.tmp 15) (.tmp 17)⟩,⟨some 19,none,.pick (.tmp 13) (.tmp 18) (.cst (.bool false))⟩,⟨some 20,none,.mov (.tmp 19)⟩,⟨some 21,some ((some 20), true),.fad (.tmp 4) 1⟩,⟨some 22,some ((some 20), true),.load none (.tmp 21)⟩,⟨some 23,some ((some 20), true),.mov (.tmp 2)⟩,⟨some 24,some ((some 20), true),.bin .leq (.tmp 22) (.tmp 23)⟩,⟨some 25,none,.pick (.tmp 20) (.tmp 24) (.cst (.bool false))⟩,⟨some 26,none,.mov (.tmp 25)⟩,⟨some 27,some ((some 26), true),.fad (.tmp 4) 1⟩,⟨some 28,some ((some 26), true),.load none (.tmp 27)⟩,⟨some 29,some ((some 26), true),.fad (.tmp 4) 0⟩,⟨some 30,some ((some 26), true),.load none (.tmp 29)⟩,⟨some 31,some ((some 26), true),.bin .sub (.tmp 28) (.tmp 30)⟩,⟨some 32,some ((some 26), true),.mov (.tmp 3)⟩,⟨some 33,some ((some 26), true),.bin .leq (.tmp 31) (.tmp 32)⟩,⟨some 34,none,.pick (.tmp 26) (.tmp 33) (.cst (.bool false))⟩,⟨some 8,none,.mov (.tmp 34)⟩])
 .ret))⟩
theorem comp53 : compF Cv 53 = some code53 := by kernel_rfl

def code54 : MF := ⟨15, [(4, none)], (.seq (.ops false [⟨some 4,none,.mov (.cst (I 0))⟩])
 (.seq (.seq (.ops false [⟨some 5,none,.mov (.tmp 0)⟩,⟨some 6,none,.len (.tmp 5)⟩,⟨some 7,none,.bin .eql (.tmp 6) (.cst (I 0))⟩])
 (.cond (.tmp 7) (.seq (.ops false [⟨some 4,none,.mov (.cst (I 0))⟩])
 .ret) .skip))
 (.seq (.ops false [⟨some 8,none,.mov (.tmp 0)⟩,⟨some 9,none,.mov (.tmp 1)⟩,⟨some 10,none,.mov (.tmp 0)⟩,⟨some 11,none,.len (.tmp 10)⟩,⟨some 12,none,.call (.cst (.fn (.func 16) [] [])) [(.tmp 9), (.tmp 11)]⟩,⟨some 13,none,.ixs 1 (.tmp 8) (.tmp 12)⟩,⟨some 14,none,.load none (.tmp 13)⟩,⟨some 4,none,.mov (.tmp 14)⟩])
 .ret)))⟩
theorem comp54 : compF Cv 54 = some code54 := by kernel_rfl

def code55 : MF := ⟨16, [(4, none)], (.seq (.ops false [⟨some 2,none,.box (.tmp 0)⟩,⟨some 4,none,.mov (.cst (I 0))⟩])
 (.seq (.ops true [⟨some 5,none,.fad (.tmp 2) 0⟩,⟨some 6,none,.load none (.tmp 5)⟩,⟨some 7,none,.mov (.tmp 1)⟩,⟨some 8,none,.fad (.tmp 2) 1⟩,⟨some 9,none,.load none (.tmp 8)⟩,⟨some 10,none,.fad (.tmp 2) 0⟩,⟨some 11,none,.load none (.tmp 10)⟩,⟨some 12,none,.bin .sub (.tmp 9) (.tmp 11)⟩,⟨some 13,none,.bin .add (.tmp 12) (.cst (I 1))⟩,⟨some 14,none,.call (.cst (.fn (.func 16) [] [])) [(.tmp 7), (.tmp 13)]⟩,⟨some 15,none,.bin .add (.tmp 6) (.tmp 14)⟩,⟨some 4,none,.mov (.tmp 15)⟩])
 .ret))⟩
theorem comp55 : compF Cv 55 = some code55 := by kernel_rfl

def body56_0 : MC := (.seq (.seq (.ops false [⟨some 17,none,.mov (.tmp 10)⟩,⟨some 18,none,.fad (.tmp 4) 0⟩,⟨some 19,none,.load none (.tmp 18)⟩,⟨some 20,none,.bin .lss (.tmp 17) (.tmp 19)⟩])
 (.cond (.tmp 20) .skip (.exit 0)))
 (.seq (.block 1 (.ops false [⟨some 23,none,.mov (.tmp 9)⟩,⟨some 24,none,.mov (.tmp 10)⟩,⟨some 25,none,.ixs 1 (.tmp 23) (.tmp 24)⟩,⟨none,none,.store 1 (.tmp 25) (.cst (I (-1)))⟩]))
 (.ops false [⟨some 21,none,.mov (.tmp 10)⟩,⟨some 22,none,.bin .add (.tmp 21) (.cst (I 1))⟩,⟨some 10,none,.mov (.tmp 22)⟩])))
def keep56_0 : Option (List Nat) := some [1, 2, 3, 4, 9, 10]
def body56_1 : MC := (.seq (.seq (.ops false [⟨some 38,none,.mov (.tmp 12)⟩,⟨some 39,none,.mov (.tmp 11)⟩,⟨some 40,none,.bin .add (.tmp 38) (.tmp 39)⟩,⟨some 41,none,.fad (.tmp 4) 0⟩,⟨some 42,none,.load none (.tmp 41)⟩,⟨some 43,none,.bin .sub (.tmp 42) (.cst (I 1))⟩,⟨some 44,none,.call (.cst (.fn (.func 29) [] [])) [(.tmp 40), (.cst (I 0)), (.tmp 43)]⟩,⟨some 45,none,.mov (.tmp 44)⟩,⟨some 46,some ((some 45), true),.mov (.tmp 13)⟩,⟨some 47,some ((some 45), true),.fad (.tmp 4) 1⟩,⟨some 48,some ((some 45), true),.load none (.tmp 47)⟩,⟨some 49,some ((some 45), true),.bin .lss (.tmp 46) (.tmp 48)⟩,⟨some 50,none,.pick (.tmp 45) (.tmp 49) (.cst (.bool false))⟩])
 (.cond (.tmp 50) .skip (.exit 4)))
 (.seq (.block 5 (.seq (.seq (.ops false [⟨some 54,none,.load (some 11) (.tmp 4)⟩,⟨some 55,none,.mov (.tmp 12)⟩,⟨some 56,none,.call (.cst (.fn (.func 37) [] [])) [(.tmp 54), (.tmp 55)]⟩,⟨some 57,none,.mov (.tmp 13)⟩,⟨some 58,none,.bin .leq (.tmp 56) (.tmp 57)⟩,⟨some 59,none,.mov (.tmp 58)⟩,⟨some 60,some ((some 59), false),.load (some 11) (.tmp 4)⟩,⟨some 61,some ((some 59), false),.mov (.tmp 12)⟩,⟨some 62,some ((some 59), false),.mov (.tmp 11)⟩,⟨some 63,some ((some 59), false),.bin .add (.tmp 61) (.tmp 62)⟩,⟨some 64,some ((some 59), false),.call (.cst (.fn (.func 37) [] [])) [(.tmp 60), (.tmp 63)]⟩,⟨some 65,some ((some 59), false),.mov (.tmp 13)⟩,⟨some 66,some ((some 59), false),.bin .leq (.tmp 64) (.tmp 65)⟩,⟨some 67,none,.pick (.tmp 59) (.cst (.bool true)) (.tmp 66)⟩])
 (.cond (.tmp 67) (.exit 4) .skip))
 (.seq (.ops false [⟨some 68,none,.mov (.tmp 12)⟩,⟨some 69,none,.mov (.tmp 11)⟩,⟨some 70,none,.bin .add (.tmp 68) (.tmp 69)⟩,⟨some 12,none,.mov (.tmp 70)⟩])
 (.ops false [⟨some 71,none,.mov (.tmp 9)⟩,⟨some 72,none,.mov (.tmp 12)⟩,⟨some 73,none,.mov (.tmp 13)⟩,⟨some 74,none,.ixs 1 (.tmp 71) (.tmp 72)⟩,⟨none,none,.store 1 (.tmp 74) (.tmp 73)⟩]))))
 (.ops false [⟨some 51,none,.mov (.tmp 13)⟩,⟨some 52,none,.mov (.tmp 3)⟩,⟨some 53,none,.bin .add (.tmp 51) (.tmp 52)⟩,⟨some 13,none,.mov (.tmp 53)⟩])))
def keep56_1 : Option (List Nat) := some [1, 2, 3, 4, 9, 11, 12, 13]
def body56_2 : MC := (.seq (.seq (.ops false [⟨some 30,none,.mov (.tmp 11)⟩,⟨some 31,none,.bin .leq (.tmp 30) (.cst (I 1))⟩])
 (.cond (.tmp 31) .skip (.exit 2)))
 (.seq (.block 3 (.seq (.ops false [⟨some 34,none,.mov (.tmp 1)⟩,⟨some 12,none,.mov (.tmp 34)⟩])
 (.seq (.ops false [⟨some 35,none,.mov (.tmp 2)⟩,⟨some 36,none,.mov (.tmp 3)⟩,⟨some 37,none,.bin .add (.tmp 35) (.tmp 36)⟩,⟨some 13,none,.mov (.tmp 37)⟩])
 (.block 4 (.loop keep56_1 body56_1)))))
 (.ops false [⟨some 32,none,.mov (.tmp 11)⟩,⟨some 33,none,.bin .add (.tmp 32) (.cst (I 2))⟩,⟨some 11,none,.mov (.tmp 33)⟩])))
def keep56_2 : Option (List Nat) := some [1, 2, 3, 4, 9, 11]
def code56 : MF := ⟨76, [(8, none)], (.seq (.ops false [⟨some 4,none,.box (.tmp 0)⟩,⟨some 8,none,.mov (.cst .nils)⟩])
 (.seq (.ops false [⟨some 14,none,.fad (.tmp 4) 0⟩,⟨some 15,none,.load none (.tmp 14)⟩,⟨some 16,none,.mks 1 8 false [(I 0)] (.tmp 15) (.tmp 15)⟩,⟨some 9,none,.mov (.tmp 16)⟩])
 (.seq (.seq (.ops false [⟨some 10,none,.mov (.cst (I 0))⟩])
 (.block 0 (.loop keep56_0 body56_0)))
 (.seq (.ops false [⟨some 26,none,.mov (.tmp 9)⟩,⟨some 27,none,.mov (.tmp 1)⟩,⟨some 28,none,.mov (.tmp 2)⟩,⟨some 29,none,.ixs 1 (.tmp 26) (.tmp 27)⟩,⟨none,none,.store 1 (.tmp 29) (.tmp 28)⟩])
 (.seq (.seq (.ops false [⟨some 11,none,.mov (.cst (I (-1)))⟩])
 (.block 2 (.loop keep56_2 body56_2)))
 (.seq (.ops false [⟨some 75,none,.mov (.tmp 9)⟩,⟨some 8,none,.mov (.tmp 75)⟩])
 .ret))))))⟩
theorem comp56 : compF Cv 56 = some code56 := by kernel_rfl

def body57_0 : MC := (.seq (.ops false [⟨some 23,none,.bin .lss (.tmp 22) (.tmp 21)⟩])
 (.seq (.cond (.tmp 23) .skip (.exit 0))
 (.seq (.block 1 (.seq (.ops false [⟨some 24,none,.mov (.tmp 22)⟩,⟨some 25,none,.ixs 3 (.tmp 20) (.tmp 22)⟩,⟨some 26,none,.load (some 3) (.tmp 25)⟩,⟨some 7,none,.alloc [(I 0),(I 0), (.bool false)]⟩,⟨some 6,none,.mov (.tmp 24)⟩,⟨none,none,.store 3 (.tmp 7) (.tmp 26)⟩])
 (.seq (.ops false [⟨some 27,none,.mov (.tmp 1)⟩,⟨some 28,none,.mov (.tmp 6)⟩,⟨some 29,none,.call (.cst (.fn (.func 82) [] [])) [(.tmp 27), (.tmp 28)]⟩,⟨some 30,none,.lnot (.tmp 29)⟩])
 (.cond (.tmp 30) (.ops false [⟨some 31,none,.fad (.tmp 5) 0⟩,⟨some 32,none,.fad (.tmp 31) 10⟩,⟨some 33,none,.load none (.tmp 32)⟩,⟨some 34,none,.load (some 3) (.tmp 7)⟩,⟨some 35,none,.bsl 3 true (.agg [(I 0),(I 0), (.bool false)]) 1 [(0, (.tmp 34))]⟩,⟨some 36,none,.app false 3 24 true (.tmp 33) (.tmp 35)⟩,⟨some 37,none,.fad (.tmp 5) 0⟩,⟨some 38,none,.fad (.tmp 37) 10⟩,⟨none,none,.store 1 (.tmp 38) (.tmp 36)⟩]) .skip))))
 (.ops false [⟨some 39,none,.bin .add (.tmp 22) (.cst (I 1))⟩,⟨some 22,none,.mov (.tmp 39)⟩]))))
def keep57_0 : Option (List Nat) := some [1, 2, 4, 5, 20, 21, 22]
def body57_1 : MC := (.seq (.seq (.ops false [⟨some 49,none,.mov (.tmp 10)⟩,⟨some 50,none,.fad (.tmp 2) 1⟩,⟨some 51,none,.load none (.tmp 50)⟩,⟨some 52,none,.bin .lss (.tmp 49) (.tmp 51)⟩])
 (.cond (.tmp 52) .skip (.exit 4)))
 (.seq (.block 5 (.ops false [⟨some 55,none,.fad (.tmp 5) 11⟩,⟨some 56,none,.load none (.tmp 55)⟩,⟨some 57,none,.fad (.tmp 9) 0⟩,⟨some 58,none,.load none (.tmp 57)⟩,⟨some 59,none,.mov (.tmp 10)⟩,⟨some 60,none,.bld [(I 0),(I 0)] [(0, 1, (.tmp 58)), (1, 1, (.tmp 59))]⟩,⟨none,none,.mput (some 2) (.tmp 56) (.tmp 60) (.cst (.bool true))⟩]))
 (.ops false [⟨some 53,none,.mov (.tmp 10)⟩,⟨some 54,none,.bin .add (.tmp 53) (.cst (I 1))⟩,⟨some 10,none,.mov (.tmp 54)⟩])))
def keep57_1 : Option (List Nat) := some [2, 4, 5, 9, 10, 41, 42, 43]
def body57_2 : MC := (.seq (.ops false [⟨some 44,none,.bin .lss (.tmp 43) (.tmp 42)⟩])
 (.seq (.cond (.tmp 44) .skip (.exit 2))
 (.seq (.block 3 (.seq (.ops false [⟨some 45,none,.ixs 2 (.tmp 41) (.tmp 43)⟩,⟨some 46,none,.load (some 2) (.tmp 45)⟩,⟨some 9,none,.alloc [(I 0),(I 0)]⟩,⟨none,none,.store 2 (.tmp 9) (.tmp 46)⟩])
 (.seq (.ops false [⟨some 47,none,.fad (.tmp 9) 1⟩,⟨some 48,none,.load none (.tmp 47)⟩,⟨some 10,none,.mov (.tmp 48)⟩])
 (.block 4 (.loop keep57_1 body57_1)))))
 (.ops false [⟨some 61,none,.bin .add (.tmp 43) (.cst (I 1))⟩,⟨some 43,none,.mov (.tmp 61)⟩]))))
def keep57_2 : Option (List Nat) := some [2, 4, 5, 41, 42, 43]
def asg57_3 : MC := (.ops false [⟨some 11,none,.alloc [(I 0),(I 0),(I 0),(I 0),(I 0),(I 0),(I 0),(I 0),(I 0)]⟩,⟨none,none,.store 9 (.tmp 11) (.tmp 64)⟩])
def body57_3 : MC := (.block 7 (.ops false [⟨some 65,none,.fad (.tmp 5) 12⟩,⟨some 66,none,.load none (.tmp 65)⟩,⟨some 67,none,.load (some 9) (.tmp 11)⟩,⟨some 68,none,.bsl 9 true (.agg [(I 0),(I 0),(I 0),(I 0),(I 0),(I 0),(I 0),(I 0),(I 0)]) 1 [(0, (.tmp 67))]⟩,⟨some 69,none,.app false 9 72 true (.tmp 66) (.tmp 68)⟩,⟨some 70,none,.fad (.tmp 5) 12⟩,⟨none,none,.store 1 (.tmp 70) (.tmp 69)⟩]))
def code57 : MF := ⟨72, [(4, some (some 13))], (.seq (.ops false [⟨some 2,none,.box (.tmp 0)⟩,⟨some 4,none,.alloc [(I 0),(I 0),(I 0),(I 0),(I 0),(I 0),(I 0),(I 0), .nils, (I 0), .nils, .nilm, .nils]⟩])
 (.seq (.ops true [⟨some 5,none,.mov (.cst .any)⟩,⟨some 12,none,.load (some 11) (.tmp 2)⟩,⟨some 13,none,.mkm⟩,⟨some 14,none,.load (some 2) (.cst (.rp [(I (-1)), (I (-1))] 0))⟩,⟨none,none,.mput (some 2) (.tmp 13) (.tmp 14) (.cst (.bool true))⟩,⟨some 15,none,.mov (.tmp 13)⟩,⟨some 16,none,.bld [(I 0),(I 0),(I 0),(I 0),(I 0),(I 0),(I 0),(I 0), .nils, (I 0), .nils, .nilm, .nils] [(0, 11, (.tmp 12)), (11, 1, (.tmp 15))]⟩,⟨some 5,none,.alloc [(I 0),(I 0),(I 0),(I 0),(I 0),(I 0),(I 0),(I 0), .nils, (I 0), .nils, .nilm, .nils]⟩,⟨none,none,.store 13 (.tmp 5) (.tmp 16)⟩])
 (.seq (.ops false [⟨some 17,none,.fad (.tmp 5) 0⟩,⟨some 18,none,.fad (.tmp 17) 10⟩,⟨none,none,.store 1 (.tmp 18) (.cst .nils)⟩])
 (.seq (.seq (.ops false [⟨some 19,none,.fad (.tmp 2) 10⟩,⟨some 20,none,.load none (.tmp 19)⟩,⟨some 21,none,.len (.tmp 20)⟩,⟨some 22,none,.mov (.cst (I 0))⟩])
 (.block 0 (.loop keep57_0 body57_0)))
 (.seq (.seq (.ops false [⟨some 40,none,.fad (.tmp 2) 8⟩,⟨some 41,none,.load none (.tmp 40)⟩,⟨some 42,none,.len (.tmp 41)⟩,⟨some 43,none,.mov (.cst (I 0))⟩])
 (.block 2 (.loop keep57_2 body57_2)))
 (.seq (.seq (.ops false [⟨some 62,none,.load (some 13) (.tmp 5)⟩,⟨some 63,none,.call (.cst (.fn (.func 83) [] [])) [(.tmp 62)]⟩])
 (.block 6 (.range (.tmp 63) [64] asg57_3 body57_3)))
 (.seq (.ops false [⟨some 71,none,.load (some 13) (.tmp 5)⟩,⟨none,none,.store 13 (.tmp 4) (.tmp 71)⟩])
 .ret)))))))⟩
theorem comp57 : compF Cv 57 = some code57 := by kernel_rfl

def body58_0 : MC := (.seq (.seq (.ops false [⟨some 34,none,.mov (.tmp 10)⟩,⟨some 35,none,.fad (.tmp 2) 10⟩,⟨some 36,none,.load none (.tmp 35)⟩,⟨some 37,none,.len (.tmp 36)⟩,⟨some 38,none,.bin .lss (.tmp 34) (.tmp 37)⟩])
 (.cond (.tmp 38) .skip (.exit 0)))
 (.seq (.block 1 (.seq (.ops false [⟨some 42,none,.load none (.tmp 3)⟩,⟨some 43,none,.mov (.tmp 0)⟩,⟨some 44,none,.mov (.tmp 8)⟩,⟨some 45,none,.mov (.tmp 8)⟩,⟨some 46,none,.slc 1 (.tmp 43) none (some (.tmp 44)) (some (.tmp 45))⟩,⟨some 47,none,.mov (.tmp 10)⟩,⟨some 48,none,.bsl 1 false (I 0) 1 [(0, (.tmp 47))]⟩,⟨some 49,none,.app false 1 8 false (.tmp 46) (.tmp 48)⟩,⟨some 50,none,.mov (.tmp 1)⟩,⟨some 51,none,.call (.tmp 42) [(.tmp 49), (.tmp 50)]⟩,⟨some 41,none,.mov (.tmp 51)⟩,⟨some 52,none,.ext (.tmp 41) 0⟩,⟨some 53,none,.ext (.tmp 41) 1⟩,⟨some 11,none,.mov (.tmp 52)⟩,⟨some 12,none,.mov (.tmp 53)⟩])
 (.seq (.ops false [⟨some 54,none,.mov (.tmp 12)⟩])
 (.cond (.tmp 54) (.seq (.ops false [⟨some 55,none,.mov (.tmp 11)⟩,⟨some 6,none,.mov (.tmp 55)⟩,⟨some 7,none,.mov (.cst (.bool true))⟩])
 .ret) .skip))))
 (.ops false [⟨some 39,none,.mov (.tmp 10)⟩,⟨some 40,none,.bin .add (.tmp 39) (.cst (I 1))⟩,⟨some 10,none,.mov (.tmp 40)⟩])))
def keep58_0 : Option (List Nat) := some [0, 1, 2, 3, 8, 10]
def code58 : MF := ⟨56, [(6, none), (7, none)], (.seq (.ops false [⟨some 6,none,.mov (.cst .nils)⟩,⟨some 7,none,.mov (.cst (.bool false))⟩])
 (.seq (.ops false [⟨some 13,none,.mov (.tmp 0)⟩,⟨some 14,none,.len (.tmp 13)⟩,⟨some 8,none,.mov (.tmp 14)⟩])
 (.seq (.seq (.ops false [⟨some 15,none,.mov (.tmp 8)⟩,⟨some 16,none,.mov (.tmp 1)⟩,⟨some 17,none,.bin .eql (.tmp 15) (.tmp 16)⟩])
 (.cond (.tmp 17) (.seq (.ops false [⟨some 18,none,.mov (.tmp 0)⟩,⟨some 19,none,.load (some 11) (.tmp 2)⟩,⟨some 20,none,.mov (.tmp 0)⟩,⟨some 21,none,.call (.cst (.fn (.func 57) [] [])) [(.tmp 19), (.tmp 20)]⟩,⟨some 22,none,.fld none (.tmp 21) 12⟩,⟨some 23,none,.len (.tmp 22)⟩,⟨some 24,none,.bin .gtr (.tmp 23) (.cst (I 0))⟩,⟨some 6,none,.mov (.tmp 18)⟩,⟨some 7,none,.mov (.tmp 24)⟩])
 .ret) .skip))
 (.seq (.ops false [⟨some 9,none,.mov (.cst (I 0))⟩])
 (.seq (.seq (.ops false [⟨some 25,none,.mov (.tmp 8)⟩,⟨some 26,none,.bin .gtr (.tmp 25) (.cst (I 0))⟩])
 (.cond (.tmp 26) (.ops false [⟨some 27,none,.mov (.tmp 0)⟩,⟨some 28,none,.mov (.tmp 8)⟩,⟨some 29,none,.bin .sub (.tmp 28) (.cst (I 1))⟩,⟨some 30,none,.ixs 1 (.tmp 27) (.tmp 29)⟩,⟨some 31,none,.load none (.tmp 30)⟩,⟨some 32,none,.bin .add (.tmp 31) (.cst (I 1))⟩,⟨some 9,none,.mov (.tmp 32)⟩]) .skip))
 (.seq (.seq (.ops false [⟨some 33,none,.mov (.tmp 9)⟩,⟨some 10,none,.mov (.tmp 33)⟩])
 (.block 0 (.loop keep58_0 body58_0)))
 (.seq (.ops false [⟨some 6,none,.mov (.cst .nils)⟩,⟨some 7,none,.mov (.cst (.bool false))⟩])
 .ret)))))))⟩
theorem comp58 : compF Cv 58 = some code58 := by kernel_rfl

def code59 : MF := ⟨25, [(4, some (some 13)), (5, none)], (.seq (.ops false [⟨some 2,none,.box (.tmp 0)⟩,⟨some 4,none,.alloc [(I 0),(I 0),(I 0),(I 0),(I 0),(I 0),(I 0),(I 0), .nils, (I 0), .nils, .nilm, .nils]⟩,⟨some 5,none,.mov (.cst (I 0))⟩])
 (.seq (.seq (.ops false [⟨some 8,none,.load (some 11) (.tmp 2)⟩,⟨some 9,none,.call (.cst (.fn (.func 50) [] [])) [(.tmp 8)]⟩,⟨some 6,none,.mov (.tmp 9)⟩])
 (.seq (.ops false [⟨some 10,none,.mov (.tmp 6)⟩,⟨some 11,none,.bin .neq (.tmp 10) (.cst (I 0))⟩])
 (.cond (.tmp 11) (.seq (.ops false [⟨some 12,none,.bld [(I 0),(I 0),(I 0),(I 0),(I 0),(I 0),(I 0),(I 0), .nils, (I 0), .nils, .nilm, .nils] []⟩,⟨some 13,none,.mov (.tmp 6)⟩,⟨none,none,.store 13 (.tmp 4) (.tmp 12)⟩,⟨some 5,none,.mov (.tmp 13)⟩])
 .ret) .skip)))
 (.seq (.seq (.ops false [⟨some 14,none,.mov (.tmp 1)⟩,⟨some 15,none,.lnot (.tmp 14)⟩])
 (.cond (.tmp 15) (.seq (.ops false [⟨some 16,none,.bld [(I 0),(I 0),(I 0),(I 0),(I 0),(I 0),(I 0),(I 0), .nils, (I 0), .nils, .nilm, .nils] []⟩,⟨none,none,.store 13 (.tmp 4) (.tmp 16)⟩,⟨some 5,none,.mov (.cst (I 31))⟩])
 .ret) .skip))
 (.seq (.ops false [⟨some 17,none,.load (some 11) (.tmp 2)⟩,⟨some 18,none,.call (.cst (.fn (.func 57) [] [])) [(.tmp 17), (.cst .nils)]⟩,⟨some 7,none,.alloc [(I 0),(I 0),(I 0),(I 0),(I 0),(I 0),(I 0),(I 0), .nils, (I 0), .nils, .nilm, .nils]⟩,⟨none,none,.store 13 (.tmp 7) (.tmp 18)⟩])
 (.seq (.seq (.ops false [⟨some 19,none,.fad (.tmp 7) 12⟩,⟨some 20,none,.load none (.tmp 19)⟩,⟨some 21,none,.len (.tmp 20)⟩,⟨some 22,none,.bin .eql (.tmp 21) (.cst (I 0))⟩])
 (.cond (.tmp 22) (.seq (.ops false [⟨some 23,none,.load (some 13) (.tmp 7)⟩,⟨none,none,.store 13 (.tmp 4) (.tmp 23)⟩,⟨some 5,none,.mov (.cst (I 32))⟩])
 .ret) .skip))
 (.seq (.ops false [⟨some 24,none,.load (some 13) (.tmp 7)⟩,⟨none,none,.store 13 (.tmp 4) (.tmp 24)⟩,⟨some 5,none,.mov (.cst (I 0))⟩])
 .ret))))))⟩
theorem comp59 : compF Cv 59 = some code59 := by kernel_rfl

def code60 : MF := ⟨11, [], (.seq (.ops false [⟨some 3,none,.mov (.tmp 0)⟩,⟨some 4,none,.len (.tmp 3)⟩,⟨some 2,none,.mov (.tmp 4)⟩])
 (.ops false [⟨some 5,none,.mov (.tmp 0)⟩,⟨some 6,none,.mov (.tmp 2)⟩,⟨some 7,none,.mov (.tmp 2)⟩,⟨some 8,none,.conv .u64 (.tmp 7)⟩,⟨some 9,none,.call (.cst (.fn (.func 85) [] [])) [(.tmp 8)]⟩,⟨some 10,none,.call (.cst (.fn (.func 84) [] [])) [(.tmp 5), (.cst (I 0)), (.tmp 6), (.tmp 9)]⟩]))⟩
theorem comp60 : compF Cv 60 = some code60 := by kernel_rfl

def body61_0 : MC := (.seq (.seq (.ops false [⟨some 29,none,.mov (.tmp 5)⟩,⟨some 30,none,.mov (.tmp 4)⟩,⟨some 31,none,.len (.tmp 30)⟩,⟨some 32,none,.bin .lss (.tmp 29) (.tmp 31)⟩])
 (.cond (.tmp 32) .skip (.exit 2)))
 (.seq (.block 3 (.seq (.ops false [⟨some 35,none,.mov (.tmp 4)⟩,⟨some 36,none,.mov (.tmp 5)⟩,⟨some 37,none,.ixs 1 (.tmp 35) (.tmp 36)⟩,⟨some 38,none,.load none (.tmp 37)⟩,⟨some 39,none,.mov (.tmp 4)⟩,⟨some 40,none,.mov (.tmp 5)⟩,⟨some 41,none,.bin .sub (.tmp 40) (.cst (I 1))⟩,⟨some 42,none,.ixs 1 (.tmp 39) (.tmp 41)⟩,⟨some 43,none,.load none (.tmp 42)⟩,⟨some 44,none,.bin .neq (.tmp 38) (.tmp 43)⟩])
 (.cond (.tmp 44) (.seq (.ops false [⟨some 45,none,.mov (.tmp 0)⟩,⟨some 46,none,.mov (.tmp 3)⟩,⟨some 47,none,.mov (.tmp 4)⟩,⟨some 48,none,.mov (.tmp 5)⟩,⟨some 49,none,.ixs 1 (.tmp 47) (.tmp 48)⟩,⟨some 50,none,.load none (.tmp 49)⟩,⟨some 51,none,.ixs 1 (.tmp 45) (.tmp 46)⟩,⟨none,none,.store 1 (.tmp 51) (.tmp 50)⟩])
 (.ops false [⟨some 52,none,.mov (.tmp 3)⟩,⟨some 53,none,.bin .add (.tmp 52) (.cst (I 1))⟩,⟨some 3,none,.mov (.tmp 53)⟩])) .skip)))
 (.ops false [⟨some 33,none,.mov (.tmp 5)⟩,⟨some 34,none,.bin .add (.tmp 33) (.cst (I 1))⟩,⟨some 5,none,.mov (.tmp 34)⟩])))
def keep61_0 : Option (List Nat) := some [0, 3, 4, 5]
def body61_1 : MC := (.seq (.seq (.ops false [⟨some 10,none,.mov (.tmp 3)⟩,⟨some 11,none,.mov (.tmp 0)⟩,⟨some 12,none,.len (.tmp 11)⟩,⟨some 13,none,.bin .lss (.tmp 10) (.tmp 12)⟩])
 (.cond (.tmp 13) .skip (.exit 0)))
 (.seq (.block 1 (.seq (.ops false [⟨some 16,none,.mov (.tmp 0)⟩,⟨some 17,none,.mov (.tmp 3)⟩,⟨some 18,none,.ixs 1 (.tmp 16) (.tmp 17)⟩,⟨some 19,none,.load none (.tmp 18)⟩,⟨some 20,none,.mov (.tmp 0)⟩,⟨some 21,none,.mov (.tmp 3)⟩,⟨some 22,none,.bin .sub (.tmp 21) (.cst (I 1))⟩,⟨some 23,none,.ixs 1 (.tmp 20) (.tmp 22)⟩,⟨some 24,none,.load none (.tmp 23)⟩,⟨some 25,none,.bin .eql (.tmp 19) (.tmp 24)⟩])
 (.cond (.tmp 25) (.seq (.ops false [⟨some 26,none,.mov (.tmp 0)⟩,⟨some 27,none,.mov (.tmp 3)⟩,⟨some 28,none,.slc 1 (.tmp 26) (some (.tmp 27)) none none⟩,⟨some 4,none,.mov (.tmp 28)⟩])
 (.seq (.seq (.ops false [⟨some 5,none,.mov (.cst (I 1))⟩])
 (.block 2 (.loop keep61_0 body61_0)))
 (.seq (.ops false [⟨some 54,none,.mov (.tmp 0)⟩,⟨some 55,none,.mov (.tmp 3)⟩,⟨some 56,none,.slc 1 (.tmp 54) (some (.tmp 55)) none none⟩,⟨none,none,.clr 1 [(I 0)] (.tmp 56)⟩])
 (.seq (.ops false [⟨some 57,none,.mov (.tmp 0)⟩,⟨some 58,none,.mov (.tmp 3)⟩,⟨some 59,none,.slc 1 (.tmp 57) none (some (.tmp 58)) none⟩,⟨some 2,none,.mov (.tmp 59)⟩])
 .ret)))) .skip)))
 (.ops false [⟨some 14,none,.mov (.tmp 3)⟩,⟨some 15,none,.bin .add (.tmp 14) (.cst (I 1))⟩,⟨some 3,none,.mov (.tmp 15)⟩])))
def keep61_1 : Option (List Nat) := some [0, 3]
def code61 : MF := ⟨61, [(2, none)], (.seq (.ops false [⟨some 2,none,.mov (.cst .nils)⟩])
 (.seq (.seq (.ops false [⟨some 6,none,.mov (.tmp 0)⟩,⟨some 7,none,.len (.tmp 6)⟩,⟨some 8,none,.bin .lss (.tmp 7) (.cst (I 2))⟩])
 (.cond (.tmp 8) (.seq (.ops false [⟨some 9,none,.mov (.tmp 0)⟩,⟨some 2,none,.mov (.tmp 9)⟩])
 .ret) .skip))
 (.seq (.seq (.ops false [⟨some 3,none,.mov (.cst (I 1))⟩])
 (.block 0 (.loop keep61_1 body61_1)))
 (.seq (.ops false [⟨some 60,none,.mov (.tmp 0)⟩,⟨some 2,none,.mov (.tmp 60)⟩])
 .ret))))⟩
theorem comp61 : compF Cv 61 = some code61 := by kernel_rfl

def code62 : MF := ⟨15, [(6, none)], (.seq (.ops false [⟨some 6,none,.mov (.cst (.bool false))⟩])
 (.seq (.ops false [⟨some 7,none,.mov (.tmp 1)⟩,⟨some 8,none,.mov (.tmp 0)⟩,⟨some 9,none,.bin .leq (.tmp 7) (.tmp 8)⟩,⟨some 10,none,.mov (.tmp 9)⟩,⟨some 11,some ((some 10), true),.mov (.tmp 0)⟩,⟨some 12,some ((some 10), true),.mov (.tmp 2)⟩,⟨some 13,some ((some 10), true),.bin .leq (.tmp 11) (.tmp 12)⟩,⟨some 14,none,.pick (.tmp 10) (.tmp 13) (.cst (.bool false))⟩,⟨some 6,none,.mov (.tmp 14)⟩])
 .ret))⟩
theorem comp62 : compF Cv 62 = some code62 := by kernel_rfl

def body63_0 : MC := (.seq (.ops false [⟨some 14,none,.bin .lss (.tmp 13) (.tmp 12)⟩])
 (.seq (.cond (.tmp 14) .skip (.exit 0))
 (.seq (.block 1 (.seq (.ops false [⟨some 15,none,.ixs 9 (.tmp 11) (.tmp 13)⟩,⟨some 16,none,.load (some 9) (.tmp 15)⟩,⟨some 8,none,.alloc [(I 0),(I 0),(I 0),(I 0),(I 0),(I 0),(I 0),(I 0),(I 0)]⟩,⟨none,none,.store 9 (.tmp 8) (.tmp 16)⟩])
 (.seq (.ops false [⟨some 17,none,.fad (.tmp 3) 0⟩,⟨some 18,none,.load none (.tmp 17)⟩,⟨some 19,none,.load (some 9) (.tmp 8)⟩,⟨some 20,none,.call (.tmp 18) [(.tmp 19)]⟩,⟨some 9,none,.mov (.tmp 20)⟩])
 (.seq (.ops false [⟨some 21,none,.mov (.tmp 9)⟩,⟨some 22,none,.bin .geq (.tmp 21) (.cst (I 0))⟩])
 (.cond (.tmp 22) (.ops false [⟨some 23,none,.mov (.tmp 6)⟩,⟨some 24,none,.mov (.tmp 9)⟩,⟨some 25,none,.bsl 1 false (I 0) 1 [(0, (.tmp 24))]⟩,⟨some 26,none,.app false 1 8 false (.tmp 23) (.tmp 25)⟩,⟨some 6,none,.mov (.tmp 26)⟩]) .skip)))))
 (.ops false [⟨some 27,none,.bin .add (.tmp 13) (.cst (I 1))⟩,⟨some 13,none,.mov (.tmp 27)⟩]))))
def keep63_0 : Option (List Nat) := some [3, 4, 6, 11, 12, 13]
def code63 : MF := ⟨40, [(4, some (some 2)), (5, none)], (.seq (.ops false [⟨some 2,none,.box (.tmp 0)⟩,⟨some 3,none,.box (.tmp 1)⟩,⟨some 4,none,.alloc [(I 0),(I 0)]⟩,⟨some 5,none,.mov (.cst (I 0))⟩])
 (.seq (.ops false [⟨some 6,none,.mov (.cst .nils)⟩])
 (.seq (.seq (.ops false [⟨some 10,none,.fad (.tmp 2) 12⟩,⟨some 11,none,.load none (.tmp 10)⟩,⟨some 12,none,.len (.tmp 11)⟩,⟨some 13,none,.mov (.cst (I 0))⟩])
 (.block 0 (.loop keep63_0 body63_0)))
 (.seq (.seq (.ops false [⟨some 28,none,.mov (.tmp 6)⟩,⟨some 29,none,.len (.tmp 28)⟩,⟨some 30,none,.bin .eql (.tmp 29) (.cst (I 0))⟩])
 (.cond (.tmp 30) (.seq (.ops false [⟨some 31,none,.bld [(I 0),(I 0)] []⟩,⟨none,none,.store 2 (.tmp 4) (.tmp 31)⟩,⟨some 5,none,.mov (.cst (I 4))⟩])
 .ret) .skip))
 (.seq (.ops false [⟨some 32,none,.mov (.tmp 6)⟩,⟨some 33,none,.ixs 1 (.tmp 32) (.cst (I 0))⟩,⟨some 34,none,.load none (.tmp 33)⟩,⟨some 35,none,.mov (.tmp 6)⟩,⟨some 36,none,.call (.cst (.fn (.func 86) [] [])) [(.tmp 34), (.tmp 35)]⟩,⟨some 37,none,.mov (.tmp 6)⟩,⟨some 38,none,.call (.cst (.fn (.func 87) [] [])) [(.tmp 37)]⟩,⟨some 39,none,.bld [(I 0),(I 0)] [(0, 1, (.tmp 36)), (1, 1, (.tmp 38))]⟩,⟨none,none,.store 2 (.tmp 4) (.tmp 39)⟩,⟨some 5,none,.mov (.cst (I 0))⟩])
 .ret)))))⟩
theorem comp63 : compF Cv 63 = some code63 := by kernel_rfl

def code64 : MF := ⟨10, [(3, none)], (.seq (.ops false [⟨some 2,none,.box (.tmp 0)⟩,⟨some 3,none,.mov (.cst (I 0))⟩])
 (.seq (.seq (.ops false [⟨some 4,none,.load none (.tmp 1)⟩,⟨some 5,none,.bin .eql (.tmp 4) (.cst (I 0))⟩])
 (.cond (.tmp 5) (.seq (.ops false [⟨some 6,none,.fad (.tmp 2) 2⟩,⟨some 7,none,.load none (.tmp 6)⟩,⟨some 3,none,.mov (.tmp 7)⟩])
 .ret) .skip))
 (.seq (.ops false [⟨some 8,none,.fad (.tmp 2) 3⟩,⟨some 9,none,.load none (.tmp 8)⟩,⟨some 3,none,.mov (.tmp 9)⟩])
 .ret)))⟩
theorem comp64 : compF Cv 64 = some code64 := by kernel_rfl

def body65_0 : MC := (.seq (.ops false [⟨some 19,none,.bin .lss (.tmp 18) (.tmp 17)⟩])
 (.seq (.cond (.tmp 19) .skip (.exit 0))
 (.seq (.block 1 (.seq (.ops false [⟨some 20,none,.ixs 9 (.tmp 16) (.tmp 18)⟩,⟨some 21,none,.load (some 9) (.tmp 20)⟩,⟨some 8,none,.alloc [(I 0),(I 0),(I 0),(I 0),(I 0),(I 0),(I 0),(I 0),(I 0)]⟩,⟨none,none,.store 9 (.tmp 8) (.tmp 21)⟩])
 (.seq (.ops false [⟨some 22,none,.mov (.tmp 1)⟩,⟨some 23,none,.load (some 9) (.tmp 8)⟩,⟨some 24,none,.call (.tmp 22) [(.tmp 23)]⟩])
 (.cond (.tmp 24) (.ops false [⟨some 25,none,.fad (.tmp 5) 0⟩,⟨some 26,none,.load none (.tmp 25)⟩,⟨some 27,none,.bin .add (.tmp 26) (.cst (I 1))⟩,⟨some 28,none,.fad (.tmp 5) 0⟩,⟨none,none,.store 1 (.tmp 28) (.tmp 27)⟩]) .skip))))
 (.ops false [⟨some 29,none,.bin .add (.tmp 18) (.cst (I 1))⟩,⟨some 18,none,.mov (.tmp 29)⟩]))))
def keep65_0 : Option (List Nat) := some [1, 5, 6, 16, 17, 18]
def body65_1 : MC := (.seq (.ops false [⟨some 32,none,.bin .lss (.tmp 31) (.cst (I 2))⟩])
 (.seq (.cond (.tmp 32) .skip (.exit 2))
 (.seq (.block 3 (.seq (.ops false [⟨some 33,none,.ixv 2 1 none (.tmp 30) (.tmp 31)⟩,⟨some 10,none,.mov (.tmp 33)⟩])
 (.seq (.ops false [⟨some 34,none,.mov (.tmp 10)⟩,⟨some 35,none,.load (some 2) (.tmp 5)⟩,⟨some 36,none,.call (.tmp 34) [(.tmp 35)]⟩])
 (.cond (.tmp 36) (.ops false [⟨some 37,none,.mov (.tmp 6)⟩,⟨some 38,none,.bin .add (.tmp 37) (.cst (I 1))⟩,⟨some 6,none,.mov (.tmp 38)⟩]) .skip))))
 (.ops false [⟨some 39,none,.bin .add (.tmp 31) (.cst (I 1))⟩,⟨some 31,none,.mov (.tmp 39)⟩]))))
def keep65_1 : Option (List Nat) := some [5, 6, 30, 31]
def code65 : MF := ⟨41, [(4, none)], (.seq (.ops false [⟨some 2,none,.box (.tmp 0)⟩,⟨some 4,none,.mov (.cst (I 0))⟩])
 (.seq (.ops false [⟨some 11,none,.fad (.tmp 2) 12⟩,⟨some 12,none,.load none (.tmp 11)⟩,⟨some 13,none,.len (.tmp 12)⟩,⟨some 14,none,.bld [(I 0),(I 0)] [(1, 1, (.tmp 13))]⟩,⟨some 5,none,.alloc [(I 0),(I 0)]⟩,⟨none,none,.store 2 (.tmp 5) (.tmp 14)⟩,⟨some 6,none,.mov (.cst (I 0))⟩])
 (.seq (.seq (.ops false [⟨some 15,none,.fad (.tmp 2) 12⟩,⟨some 16,none,.load none (.tmp 15)⟩,⟨some 17,none,.len (.tmp 16)⟩,⟨some 18,none,.mov (.cst (I 0))⟩])
 (.block 0 (.loop keep65_0 body65_0)))
 (.seq (.seq (.ops false [⟨some 30,none,.load (some 2) (.cst (.rp [(.fn (.func 133) [] []), (.fn (.func 131) [] [])] 0))⟩,⟨some 31,none,.mov (.cst (I 0))⟩])
 (.block 2 (.loop keep65_1 body65_1)))
 (.seq (.ops false [⟨some 40,none,.mov (.tmp 6)⟩,⟨some 4,none,.mov (.tmp 40)⟩])
 .ret)))))⟩
theorem comp65 : compF Cv 65 = some code65 := by kernel_rfl

def code66 : MF := ⟨9, [(3, none)], (.seq (.ops false [⟨some 2,none,.box (.tmp 0)⟩,⟨some 3,none,.mov (.cst (.bool false))⟩])
 (.seq (.ops false [⟨some 4,none,.load none (.tmp 1)⟩,⟨some 5,none,.fad (.tmp 2) 4⟩,⟨some 6,none,.ixa 5 1 (.tmp 5) (.tmp 4)⟩,⟨some 7,none,.load none (.tmp 6)⟩,⟨some 8,none,.bin .geq (.tmp 7) (.cst (I 0))⟩,⟨some 3,none,.mov (.tmp 8)⟩])
 .ret))⟩
theorem comp66 : compF Cv 66 = some code66 := by kernel_rfl

def code67 : MF := ⟨8, [(3, none)], (.seq (.ops false [⟨some 2,none,.box (.tmp 0)⟩,⟨some 3,none,.mov (.cst (I 0))⟩])
 (.seq (.ops false [⟨some 4,none,.load none (.tmp 1)⟩,⟨some 5,none,.fad (.tmp 2) 4⟩,⟨some 6,none,.ixa 5 1 (.tmp 5) (.tmp 4)⟩,⟨some 7,none,.load none (.tmp 6)⟩,⟨some 3,none,.mov (.tmp 7)⟩])
 .ret))⟩
theorem comp67 : compF Cv 67 = some code67 := by kernel_rfl

def code68 : MF := ⟨19, [(6, none)], (.seq (.ops false [⟨some 3,none,.box (.tmp 0)⟩,⟨some 6,none,.mov (.cst (.bool false))⟩])
 (.seq (.ops false [⟨some 7,none,.mov (.tmp 1)⟩,⟨some 8,none,.fad (.tmp 3) 0⟩,⟨some 9,none,.load none (.tmp 8)⟩,⟨some 10,none,.bin .sub (.tmp 9) (.cst (I 1))⟩,⟨some 11,none,.call (.cst (.fn (.func 62) [] [])) [(.tmp 7), (.cst (I 0)), (.tmp 10)]⟩,⟨some 12,none,.mov (.tmp 11)⟩,⟨some 13,some ((some 12), true),.mov (.tmp 2)⟩,⟨some 14,some ((some 12), true),.fad (.tmp 3) 1⟩,⟨some 15,some ((some 12), true),.load none (.tmp 14)⟩,⟨some 16,some ((some 12), true),.bin .sub (.tmp 15) (.cst (I 1))⟩,⟨some 17,some ((some 12), true),.call (.cst (.fn (.func 62) [] [])) [(.tmp 13), (.cst (I 0)), (.tmp 16)]⟩,⟨some 18,none,.pick (.tmp 12) (.tmp 17) (.cst (.bool false))⟩,⟨some 6,none,.mov (.tmp 18)⟩])
 .ret))⟩
theorem comp68 : compF Cv 68 = some code68 := by kernel_rfl

def code69 : MF := ⟨10, [(4, none)], (.seq (.ops false [⟨some 3,none,.box (.tmp 0)⟩,⟨some 4,none,.mov (.cst (.bool false))⟩])
 (.seq (.ops false [⟨some 5,none,.load (some 9) (.tmp 3)⟩,⟨some 6,none,.load none (.tmp 1)⟩,⟨some 7,none,.load none (.tmp 2)⟩,⟨some 8,none,.bld [(I 0),(I 0)] [(0, 1, (.tmp 6)), (1, 1, (.tmp 7))]⟩,⟨some 9,none,.call (.cst (.fn (.func 70) [] [])) [(.tmp 5), (.tmp 8)]⟩,⟨some 4,none,.mov (.tmp 9)⟩])
 .ret))⟩
theorem comp69 : compF Cv 69 = some code69 := by kernel_rfl

def code70 : MF := ⟨13, [(4, none)], (.seq (.ops false [⟨some 2,none,.box (.tmp 0)⟩,⟨some 3,none,.box (.tmp 1)⟩,⟨some 4,none,.mov (.cst (.bool false))⟩])
 (.seq (.ops false [⟨some 5,none,.fad (.tmp 3) 0⟩,⟨some 6,none,.load none (.tmp 5)⟩,⟨some 7,none,.fad (.tmp 2) 4⟩,⟨some 8,none,.ixa 5 1 (.tmp 7) (.tmp 6)⟩,⟨some 9,none,.load none (.tmp 8)⟩,⟨some 10,none,.fad (.tmp 3) 1⟩,⟨some 11,none,.load none (.tmp 10)⟩,⟨some 12,none,.call (.cst (.fn (.func 62) [] [])) [(.tmp 9), (.cst (I 0)), (.tmp 11)]⟩,⟨some 4,none,.mov (.tmp 12)⟩])
 .ret))⟩
theorem comp70 : compF Cv 70 = some code70 := by kernel_rfl

def code71 : MF := ⟨10, [(4, none)], (.seq (.ops false [⟨some 3,none,.box (.tmp 0)⟩,⟨some 4,none,.mov (.cst (.bool false))⟩])
 (.seq (.ops false [⟨some 5,none,.load (some 9) (.tmp 3)⟩,⟨some 6,none,.load none (.tmp 1)⟩,⟨some 7,none,.load none (.tmp 2)⟩,⟨some 8,none,.bld [(I 0),(I 0)] [(0, 1, (.tmp 6)), (1, 1, (.tmp 7))]⟩,⟨some 9,none,.call (.cst (.fn (.func 72) [] [])) [(.tmp 5), (.tmp 8)]⟩,⟨some 4,none,.mov (.tmp 9)⟩])
 .ret))⟩
theorem comp71 : compF Cv 71 = some code71 := by kernel_rfl

def code72 : MF := ⟨24, [(4, none)], (.seq (.ops false [⟨some 2,none,.box (.tmp 0)⟩,⟨some 3,none,.box (.tmp 1)⟩,⟨some 4,none,.mov (.cst (.bool false))⟩])
 (.seq (.ops false [⟨some 5,none,.fad (.tmp 3) 0⟩,⟨some 6,none,.load none (.tmp 5)⟩,⟨some 7,none,.fad (.tmp 2) 4⟩,⟨some 8,none,.ixa 5 1 (.tmp 7) (.tmp 6)⟩,⟨some 9,none,.load none (.tmp 8)⟩,⟨some 10,none,.bin .geq (.tmp 9) (.cst (I 0))⟩,⟨some 11,none,.mov (.tmp 10)⟩,⟨some 12,some ((some 11), true),.fad (.tmp 3) 1⟩,⟨some 13,some ((some 11), true),.load none (.tmp 12)⟩,⟨some 14,some ((some 11), true),.fad (.tmp 3) 0⟩,⟨some 15,some ((some 11), true),.load none (.tmp 14)⟩,⟨some 16,some ((some 11), true),.fad (.tmp 2) 4⟩,⟨some 17,some ((some 11), true),.ixa 5 1 (.tmp 16) (.tmp 15)⟩,⟨some 18,some ((some 11), true),.load none (.tmp 17)⟩,⟨some 19,some ((some 11), true),.fad (.tmp 2) 2⟩,⟨some 20,some ((some 11), true),.load none (.tmp 19)⟩,⟨some 21,some ((some 11), true),.bin .add (.tmp 18) (.tmp 20)⟩,⟨some 22,some ((some 11), true),.bin .geq (.tmp 13) (.tmp 21)⟩,⟨some 23,none,.pick (.tmp 11) (.tmp 22) (.cst (.bool false))⟩,⟨some 4,none,.mov (.tmp 23)⟩])
 .ret))⟩
theorem comp72 : compF Cv 72 = some code72 := by kernel_rfl

def code73 : MF := ⟨9, [(4, none)], (.seq (.ops false [⟨some 4,none,.mov (.cst (.bool false))⟩])
 (.seq (.ops false [⟨some 5,none,.mov (.tmp 0)⟩,⟨some 6,none,.mov (.tmp 1)⟩,⟨some 7,none,.call (.cst (.fn (.func 88) [] [])) [(.tmp 5), (.tmp 6)]⟩,⟨some 8,none,.bin .geq (.tmp 7) (.cst (I 0))⟩,⟨some 4,none,.mov (.tmp 8)⟩])
 .ret))⟩
theorem comp73 : compF Cv 73 = some code73 := by kernel_rfl

def code74 : MF := ⟨14, [(3, none)], (.seq (.ops false [⟨some 2,none,.box (.tmp 0)⟩,⟨some 3,none,.mov (.cst (.bool false))⟩])
 (.seq (.ops true [⟨some 4,none,.load (some 9) (.tmp 2)⟩,⟨some 5,none,.fad (.tmp 1) 0⟩,⟨some 6,none,.load none (.tmp 5)⟩,⟨some 7,none,.fad (.tmp 1) 1⟩,⟨some 8,none,.load none (.tmp 7)⟩,⟨some 9,none,.bld [(I 0),(I 0)] [(0, 1, (.tmp 6)), (1, 1, (.tmp 8))]⟩,⟨some 10,none,.call (.cst (.fn (.func 72) [] [])) [(.tmp 4), (.tmp 9)]⟩,⟨some 11,none,.fad (.tmp 1) 2⟩,⟨some 12,none,.load none (.tmp 11)⟩,⟨some 13,none,.beq false (.tmp 10) (.tmp 12)⟩,⟨some 3,none,.mov (.tmp 13)⟩])
 .ret))⟩
theorem comp74 : compF Cv 74 = some code74 := by kernel_rfl

def body75_0 : MC := (.seq (.seq (.ops false [⟨some 34,none,.mov (.tmp 12)⟩,⟨some 35,none,.fad (.tmp 4) 0⟩,⟨some 36,none,.load none (.tmp 35)⟩,⟨some 37,none,.bin .lss (.tmp 34) (.tmp 36)⟩])
 (.cond (.tmp 37) .skip (.exit 0)))
 (.seq (.block 1 (.seq (.seq (.ops false [⟨some 40,none,.fad (.tmp 2) 11⟩,⟨some 41,none,.load none (.tmp 40)⟩,⟨some 42,none,.mov (.tmp 12)⟩,⟨some 43,none,.load none (.tmp 3)⟩,⟨some 44,none,.bld [(I 0),(I 0)] [(0, 1, (.tmp 42)), (1, 1, (.tmp 43))]⟩,⟨some 45,none,.lkp (some 2) (.bool false) (.tmp 41) (.tmp 44) false⟩])
 (.cond (.tmp 45) (.exit 1) .skip))
 (.seq (.ops false [⟨some 47,none,.load none (.tmp 5)⟩,⟨some 48,none,.mov (.tmp 0)⟩,⟨some 49,none,.mov (.tmp 10)⟩,⟨some 50,none,.mov (.tmp 10)⟩,⟨some 51,none,.slc 1 (.tmp 48) none (some (.tmp 49)) (some (.tmp 50))⟩,⟨some 52,none,.mov (.tmp 12)⟩,⟨some 53,none,.bsl 1 false (I 0) 1 [(0, (.tmp 52))]⟩,⟨some 54,none,.app false 1 8 false (.tmp 51) (.tmp 53)⟩,⟨some 55,none,.mov (.tmp 1)⟩,⟨some 56,none,.call (.tmp 47) [(.tmp 54), (.tmp 55)]⟩,⟨some 46,none,.mov (.tmp 56)⟩,⟨some 57,none,.ext (.tmp 46) 0⟩,⟨some 58,none,.ext (.tmp 46) 1⟩,⟨some 13,none,.mov (.tmp 57)⟩,⟨some 14,none,.mov (.tmp 58)⟩])
 (.seq (.ops false [⟨some 59,none,.mov (.tmp 14)⟩])
 (.cond (.tmp 59) (.seq (.ops false [⟨some 60,none,.mov (.tmp 13)⟩,⟨some 8,none,.mov (.tmp 60)⟩,⟨some 9,none,.mov (.cst (.bool true))⟩])
 .ret) .skip)))))
 (.ops false [⟨some 38,none,.mov (.tmp 12)⟩,⟨some 39,none,.bin .add (.tmp 38) (.cst (I 1))⟩,⟨some 12,none,.mov (.tmp 39)⟩])))
def keep75_0 : Option (List Nat) := some [0, 1, 2, 3, 4, 5, 10, 12]
def code75 : MF := ⟨61, [(8, none), (9, none)], (.seq (.ops false [⟨some 8,none,.mov (.cst .nils)⟩,⟨some 9,none,.mov (.cst (.bool false))⟩])
 (.seq (.ops false [⟨some 15,none,.mov (.tmp 0)⟩,⟨some 16,none,.len (.tmp 15)⟩,⟨some 10,none,.mov (.tmp 16)⟩])
 (.seq (.seq (.ops false [⟨some 17,none,.mov (.tmp 10)⟩,⟨some 18,none,.mov (.tmp 1)⟩,⟨some 19,none,.bin .eql (.tmp 17) (.tmp 18)⟩])
 (.cond (.tmp 19) (.seq (.ops false [⟨some 20,none,.mov (.tmp 0)⟩,⟨some 21,none,.load (some 13) (.tmp 2)⟩,⟨some 22,none,.mov (.tmp 0)⟩,⟨some 23,none,.load none (.tmp 3)⟩,⟨some 24,none,.call (.cst (.fn (.func 76) [] [])) [(.tmp 21), (.tmp 22), (.tmp 23)]⟩,⟨some 8,none,.mov (.tmp 20)⟩,⟨some 9,none,.mov (.tmp 24)⟩])
 .ret) .skip))
 (.seq (.ops false [⟨some 11,none,.mov (.cst (I 0))⟩])
 (.seq (.seq (.ops false [⟨some 25,none,.mov (.tmp 10)⟩,⟨some 26,none,.bin .gtr (.tmp 25) (.cst (I 0))⟩])
 (.cond (.tmp 26) (.ops false [⟨some 27,none,.mov (.tmp 0)⟩,⟨some 28,none,.mov (.tmp 10)⟩,⟨some 29,none,.bin .sub (.tmp 28) (.cst (I 1))⟩,⟨some 30,none,.ixs 1 (.tmp 27) (.tmp 29)⟩,⟨some 31,none,.load none (.tmp 30)⟩,⟨some 32,none,.bin .add (.tmp 31) (.cst (I 1))⟩,⟨some 11,none,.mov (.tmp 32)⟩]) .skip))
 (.seq (.seq (.ops false [⟨some 33,none,.mov (.tmp 11)⟩,⟨some 12,none,.mov (.tmp 33)⟩])
 (.block 0 (.loop keep75_0 body75_0)))
 (.seq (.ops false [⟨some 8,none,.mov (.cst .nils)⟩,⟨some 9,none,.mov (.cst (.bool false))⟩])
 .ret)))))))⟩
theorem comp75 : compF Cv 75 = some code75 := by kernel_rfl

def body76_0 : MC := (.seq (.ops false [⟨some 29,none,.bin .lss (.tmp 28) (.tmp 27)⟩])
 (.seq (.cond (.tmp 29) .skip (.exit 2))
 (.seq (.block 3 (.seq (.ops false [⟨some 30,none,.mov (.tmp 28)⟩,⟨some 9,none,.mov (.tmp 30)⟩])
 (.ops true [⟨some 31,none,.fad (.tmp 7) 11⟩,⟨some 32,none,.load none (.tmp 31)⟩,⟨some 33,none,.mov (.tmp 8)⟩,⟨some 34,none,.mov (.tmp 9)⟩,⟨some 35,none,.bld [(I 0),(I 0)] [(0, 1, (.tmp 33)), (1, 1, (.tmp 34))]⟩,⟨some 36,none,.fad (.tmp 3) 11⟩,⟨some 37,none,.load none (.tmp 36)⟩,⟨some 38,none,.mov (.tmp 8)⟩,⟨some 39,none,.mov (.tmp 9)⟩,⟨some 40,none,.bld [(I 0),(I 0)] [(0, 1, (.tmp 38)), (1, 1, (.tmp 39))]⟩,⟨some 41,none,.lkp (some 2) (.bool false) (.tmp 37) (.tmp 40) false⟩,⟨some 42,none,.mov (.tmp 41)⟩,⟨some 43,some ((some 42), false),.mov (.tmp 9)⟩,⟨some 44,some ((some 42), false),.mov (.tmp 2)⟩,⟨some 45,some ((some 42), false),.bin .geq (.tmp 43) (.tmp 44)⟩,⟨some 46,some ((some 42), false),.mov (.tmp 45)⟩,⟨some 47,some ((some 46), true),.mov (.tmp 1)⟩,⟨some 48,some ((some 46), true),.mov (.tmp 8)⟩,⟨some 49,some ((some 46), true),.call (.cst (.fn (.func 82) [] [])) [(.tmp 47), (.tmp 48)]⟩,⟨some 50,some ((some 42), false),.pick (.tmp 46) (.tmp 49) (.cst (.bool false))⟩,⟨some 51,none,.pick (.tmp 42) (.cst (.bool true)) (.tmp 50)⟩,⟨none,none,.mput (some 2) (.tmp 32) (.tmp 35) (.tmp 51)⟩])))
 (.ops false [⟨some 52,none,.bin .add (.tmp 28) (.cst (I 1))⟩,⟨some 28,none,.mov (.tmp 52)⟩]))))
def keep76_0 : Option (List Nat) := some [1, 2, 3, 7, 8, 21, 22, 27, 28]
def body76_1 : MC := (.seq (.ops false [⟨some 23,none,.bin .lss (.tmp 22) (.tmp 21)⟩])
 (.seq (.cond (.tmp 23) .skip (.exit 0))
 (.seq (.block 1 (.seq (.ops false [⟨some 24,none,.mov (.tmp 22)⟩,⟨some 8,none,.mov (.tmp 24)⟩])
 (.seq (.ops false [⟨some 25,none,.fad (.tmp 3) 0⟩,⟨some 26,none,.fad (.tmp 25) 1⟩,⟨some 27,none,.load none (.tmp 26)⟩,⟨some 28,none,.mov (.cst (I 0))⟩])
 (.block 2 (.loop keep76_0 body76_0)))))
 (.ops false [⟨some 53,none,.bin .add (.tmp 22) (.cst (I 1))⟩,⟨some 22,none,.mov (.tmp 53)⟩]))))
def keep76_1 : Option (List Nat) := some [1, 2, 3, 7, 21, 22]
def body76_2 : MC := (.seq (.ops false [⟨some 77,none,.bin .lss (.tmp 76) (.cst (I 5))⟩])
 (.seq (.cond (.tmp 77) .skip (.exit 6))
 (.seq (.block 7 (.seq (.ops false [⟨some 78,none,.ixv 5 1 none (.tmp 75) (.tmp 76)⟩,⟨some 13,none,.mov (.tmp 78)⟩])
 (.seq (.ops false [⟨some 79,none,.mov (.tmp 13)⟩,⟨some 80,none,.mov (.tmp 2)⟩,⟨some 81,none,.bin .geq (.tmp 79) (.tmp 80)⟩])
 (.cond (.tmp 81) (.seq (.ops false [⟨some 6,none,.mov (.cst (.bool false))⟩])
 .ret) .skip))))
 (.ops false [⟨some 82,none,.bin .add (.tmp 76) (.cst (I 1))⟩,⟨some 76,none,.mov (.tmp 82)⟩]))))
def keep76_2 : Option (List Nat) := some [2, 7, 55, 56, 57, 75, 76]
def body76_3 : MC := (.seq (.ops false [⟨some 58,none,.bin .lss (.tmp 57) (.tmp 56)⟩])
 (.seq (.cond (.tmp 58) .skip (.exit 4))
 (.seq (.block 5 (.seq (.ops false [⟨some 59,none,.ixs 9 (.tmp 55) (.tmp 57)⟩,⟨some 60,none,.load (some 9) (.tmp 59)⟩,⟨some 11,none,.alloc [(I 0),(I 0),(I 0),(I 0),(I 0),(I 0),(I 0),(I 0),(I 0)]⟩,⟨none,none,.store 9 (.tmp 11) (.tmp 60)⟩])
 (.seq (.seq (.ops false [⟨some 61,none,.fad (.tmp 11) 0⟩,⟨some 62,none,.fad (.tmp 61) 1⟩,⟨some 63,none,.load none (.tmp 62)⟩,⟨some 64,none,.mov (.tmp 2)⟩,⟨some 65,none,.bin .geq (.tmp 63) (.tmp 64)⟩,⟨some 66,none,.mov (.tmp 65)⟩,⟨some 67,some ((some 66), true),.fad (.tmp 7) 11⟩,⟨some 68,some ((some 66), true),.load none (.tmp 67)⟩,⟨some 69,some ((some 66), true),.fad (.tmp 11) 0⟩,⟨some 70,some ((some 66), true),.load (some 2) (.tmp 69)⟩,⟨some 71,some ((some 66), true),.lkp (some 2) (.bool false) (.tmp 68) (.tmp 70) false⟩,⟨some 72,none,.pick (.tmp 66) (.tmp 71) (.cst (.bool false))⟩])
 (.cond (.tmp 72) (.exit 5) .skip))
 (.seq (.ops false [⟨some 73,none,.load (some 13) (.tmp 7)⟩,⟨some 74,none,.load (some 9) (.tmp 11)⟩,⟨some 75,none,.call (.cst (.fn (.func 89) [] [])) [(.tmp 73), (.tmp 74)]⟩,⟨some 76,none,.mov (.cst (I 0))⟩])
 (.block 6 (.loop keep76_2 body76_2))))))
 (.ops false [⟨some 83,none,.bin .add (.tmp 57) (.cst (I 1))⟩,⟨some 57,none,.mov (.tmp 83)⟩]))))
def keep76_3 : Option (List Nat) := some [2, 7, 55, 56, 57]
def code76 : MF := ⟨84, [(6, none)], (.seq (.ops false [⟨some 3,none,.box (.tmp 0)⟩,⟨some 6,none,.mov (.cst (.bool false))⟩])
 (.seq (.ops false [⟨some 14,none,.load (some 13) (.tmp 3)⟩,⟨some 7,none,.alloc [(I 0),(I 0),(I 0),(I 0),(I 0),(I 0),(I 0),(I 0), .nils, (I 0), .nils, .nilm, .nils]⟩,⟨none,none,.store 13 (.tmp 7) (.tmp 14)⟩])
 (.seq (.ops false [⟨some 15,none,.mkm⟩,⟨some 16,none,.load (some 2) (.cst (.rp [(I (-1)), (I (-1))] 0))⟩,⟨none,none,.mput (some 2) (.tmp 15) (.tmp 16) (.cst (.bool true))⟩,⟨some 17,none,.mov (.tmp 15)⟩,⟨some 18,none,.fad (.tmp 7) 11⟩,⟨none,none,.store 1 (.tmp 18) (.tmp 17)⟩])
 (.seq (.seq (.ops false [⟨some 19,none,.fad (.tmp 3) 0⟩,⟨some 20,none,.fad (.tmp 19) 0⟩,⟨some 21,none,.load none (.tmp 20)⟩,⟨some 22,none,.mov (.cst (I 0))⟩])
 (.block 0 (.loop keep76_1 body76_1)))
 (.seq (.seq (.ops false [⟨some 54,none,.fad (.tmp 3) 12⟩,⟨some 55,none,.load none (.tmp 54)⟩,⟨some 56,none,.len (.tmp 55)⟩,⟨some 57,none,.mov (.cst (I 0))⟩])
 (.block 4 (.loop keep76_3 body76_3)))
 (.seq (.ops false [⟨some 6,none,.mov (.cst (.bool true))⟩])
 .ret))))))⟩
theorem comp76 : compF Cv 76 = some code76 := by kernel_rfl

def code77 : MF := ⟨18, [(4, none)], (.seq (.ops false [⟨some 4,none,.mov (.cst (.bool false))⟩])
 (.seq (.ops false [⟨some 5,none,.mov (.tmp 1)⟩,⟨some 6,none,.bin .geq (.tmp 5) (.cst (I 0))⟩,⟨some 7,none,.mov (.tmp 6)⟩,⟨some 8,some ((some 7), true),.mov (.tmp 1)⟩,⟨some 9,some ((some 7), true),.bin .lss (.tmp 8) (.cst (I 62))⟩,⟨some 10,none,.pick (.tmp 7) (.tmp 9) (.cst (.bool false))⟩,⟨some 11,none,.mov (.tmp 10)⟩,⟨some 12,some ((some 11), true),.mov (.tmp 0)⟩,⟨some 13,some ((some 11), true),.mov (.tmp 1)⟩,⟨some 14,some ((some 11), true),.bin .shr (.tmp 12) (.tmp 13)⟩,⟨some 15,some ((some 11), true),.bin .and (.tmp 14) (.cst (I 1))⟩,⟨some 16,some ((some 11), true),.bin .eql (.tmp 15) (.cst (I 1))⟩,⟨some 17,none,.pick (.tmp 11) (.tmp 16) (.cst (.bool false))⟩,⟨some 4,none,.mov (.tmp 17)⟩])
 .ret))⟩
theorem comp77 : compF Cv 77 = some code77 := by kernel_rfl

def body78_0 : MC := (.seq (.seq (.ops false [⟨some 6,none,.mov (.tmp 5)⟩,⟨some 7,none,.mov (.tmp 0)⟩,⟨some 8,none,.len (.tmp 7)⟩,⟨some 9,none,.bin .lss (.tmp 6) (.tmp 8)⟩,⟨some 10,none,.mov (.tmp 9)⟩,⟨some 11,some ((some 10), true),.mov (.tmp 5)⟩,⟨some 12,some ((some 10), true),.mov (.tmp 1)⟩,⟨some 13,some ((some 10), true),.len (.tmp 12)⟩,⟨some 14,some ((some 10), true),.bin .lss (.tmp 11) (.tmp 13)⟩,⟨some 15,none,.pick (.tmp 10) (.tmp 14) (.cst (.bool false))⟩])
 (.cond (.tmp 15) .skip (.exit 0)))
 (.seq (.block 1 (.seq (.ops false [⟨some 18,none,.mov (.tmp 0)⟩,⟨some 19,none,.mov (.tmp 5)⟩,⟨some 20,none,.ixs 1 (.tmp 18) (.tmp 19)⟩,⟨some 21,none,.load none (.tmp 20)⟩,⟨some 22,none,.mov (.tmp 1)⟩,⟨some 23,none,.mov (.tmp 5)⟩,⟨some 24,none,.ixs 1 (.tmp 22) (.tmp 23)⟩,⟨some 25,none,.load none (.tmp 24)⟩,⟨some 26,none,.bin .neq (.tmp 21) (.tmp 25)⟩])
 (.cond (.tmp 26) (.seq (.ops false [⟨some 27,none,.mov (.tmp 0)⟩,⟨some 28,none,.mov (.tmp 5)⟩,⟨some 29,none,.ixs 1 (.tmp 27) (.tmp 28)⟩,⟨some 30,none,.load none (.tmp 29)⟩,⟨some 31,none,.mov (.tmp 1)⟩,⟨some 32,none,.mov (.tmp 5)⟩,⟨some 33,none,.ixs 1 (.tmp 31) (.tmp 32)⟩,⟨some 34,none,.load none (.tmp 33)⟩,⟨some 35,none,.bin .lss (.tmp 30) (.tmp 34)⟩,⟨some 4,none,.mov (.tmp 35)⟩])
 .ret) .skip)))
 (.ops false [⟨some 16,none,.mov (.tmp 5)⟩,⟨some 17,none,.bin .add (.tmp 16) (.cst (I 1))⟩,⟨some 5,none,.mov (.tmp 17)⟩])))
def keep78_0 : Option (List Nat) := some [0, 1, 5]
def code78 : MF := ⟨41, [(4, none)], (.seq (.ops false [⟨some 4,none,.mov (.cst (.bool false))⟩])
 (.seq (.seq (.ops false [⟨some 5,none,.mov (.cst (I 0))⟩])
 (.block 0 (.loop keep78_0 body78_0)))
 (.seq (.ops false [⟨some 36,none,.mov (.tmp 0)⟩,⟨some 37,none,.len (.tmp 36)⟩,⟨some 38,none,.mov (.tmp 1)⟩,⟨some 39,none,.len (.tmp 38)⟩,⟨some 40,none,.bin .lss (.tmp 37) (.tmp 39)⟩,⟨some 4,none,.mov (.tmp 40)⟩])
 .ret)))⟩
theorem comp78 : compF Cv 78 = some code78 := by kernel_rfl

def code79 : MF := ⟨26, [(2, none)], (.seq (.ops false [⟨some 1,none,.box (.tmp 0)⟩,⟨some 2,none,.mov (.cst (.bool false))⟩])
 (.seq (.ops false [⟨some 3,none,.fad (.tmp 1) 0⟩,⟨some 4,none,.load none (.tmp 3)⟩,⟨some 5,none,.bin .leq (.cst (I 1)) (.tmp 4)⟩,⟨some 6,none,.mov (.tmp 5)⟩,⟨some 7,some ((some 6), true),.fad (.tmp 1) 0⟩,⟨some 8,some ((some 6), true),.load none (.tmp 7)⟩,⟨some 9,some ((some 6), true),.fad (.tmp 1) 1⟩,⟨some 10,some ((some 6), true),.load none (.tmp 9)⟩,⟨some 11,some ((some 6), true),.bin .leq (.tmp 8) (.tmp 10)⟩,⟨some 12,none,.pick (.tmp 6) (.tmp 11) (.cst (.bool false))⟩,⟨some 13,none,.mov (.tmp 12)⟩,⟨some 14,some ((some 13), true),.fad (.tmp 1) 1⟩,⟨some 15,some ((some 13), true),.load none (.tmp 14)⟩,⟨some 16,some ((some 13), true),.bin .leq (.tmp 15) (.cst (I 3))⟩,⟨some 17,none,.pick (.tmp 13) (.tmp 16) (.cst (.bool false))⟩,⟨some 18,none,.mov (.tmp 17)⟩,⟨some 19,some ((some 18), true),.fad (.tmp 1) 1⟩,⟨some 20,some ((some 18), true),.load none (.tmp 19)⟩,⟨some 21,some ((some 18), true),.fad (.tmp 1) 0⟩,⟨some 22,some ((some 18), true),.load none (.tmp 21)⟩,⟨some 23,some ((some 18), true),.bin .sub (.tmp 20) (.tmp 22)⟩,⟨some 24,some ((some 18), true),.bin .leq (.tmp 23) (.cst (I 1))⟩,⟨some 25,none,.pick (.tmp 18) (.tmp 24) (.cst (.bool false))⟩,⟨some 2,none,.mov (.tmp 25)⟩])
 .ret))⟩
theorem comp79 : compF Cv 79 = some code79 := by kernel_rfl

def code80 : MF := ⟨9, [(4, none)], (.seq (.ops false [⟨some 4,none,.mov (.cst (.bool false))⟩])
 (.seq (.ops false [⟨some 5,none,.mov (.tmp 0)⟩,⟨some 6,none,.mov (.tmp 1)⟩,⟨some 7,none,.call (.cst (.fn (.func 90) [] [])) [(.tmp 5), (.tmp 6)]⟩,⟨some 8,none,.bin .geq (.tmp 7) (.cst (I 0))⟩,⟨some 4,none,.mov (.tmp 8)⟩])
 .ret))⟩
theorem comp80 : compF Cv 80 = some code80 := by kernel_rfl

def code81 : MF := ⟨9, [(3, none)], (.seq (.ops false [⟨some 2,none,.box (.tmp 0)⟩,⟨some 3,none,.mov (.cst (.bool false))⟩])
 (.seq (.ops false [⟨some 4,none,.fad (.tmp 2) 0⟩,⟨some 5,none,.load none (.tmp 4)⟩,⟨some 6,none,.fad (.tmp 1) 0⟩,⟨some 7,none,.load none (.tmp 6)⟩,⟨some 8,none,.bin .eql (.tmp 5) (.tmp 7)⟩,⟨some 3,none,.mov (.tmp 8)⟩])
 .ret))⟩
theorem comp81 : compF Cv 81 = some code81 := by kernel_rfl

def code82 : MF := ⟨9, [(4, none)], (.seq (.ops false [⟨some 4,none,.mov (.cst (.bool false))⟩])
 (.seq (.ops false [⟨some 5,none,.mov (.tmp 0)⟩,⟨some 6,none,.mov (.tmp 1)⟩,⟨some 7,none,.call (.cst (.fn (.func 91) [] [])) [(.tmp 5), (.tmp 6)]⟩,⟨some 8,none,.bin .geq (.tmp 7) (.cst (I 0))⟩,⟨some 4,none,.mov (.tmp 8)⟩])
 .ret))⟩
theorem comp82 : compF Cv 82 = some code82 := by kernel_rfl

def code83 : MF := ⟨4, [(2, none)], (.seq (.ops false [⟨some 1,none,.box (.tmp 0)⟩,⟨some 2,none,.mov (.cst .nilf)⟩])
 (.seq (.ops false [⟨some 3,none,.mkf (.func 92) [] [(.tmp 1)]⟩,⟨some 2,none,.mov (.tmp 3)⟩])
 .ret))⟩
theorem comp83 : compF Cv 83 = some code83 := by kernel_rfl

def body84_0 : MC := (.block 1 (.seq (.ops false [⟨some 19,none,.mov (.tmp 2)⟩,⟨some 20,none,.mov (.tmp 1)⟩,⟨some 21,none,.bin .sub (.tmp 19) (.tmp 20)⟩,⟨some 10,none,.mov (.tmp 21)⟩])
 (.seq (.seq (.ops false [⟨some 22,none,.mov (.tmp 10)⟩,⟨some 23,none,.bin .leq (.tmp 22) (.cst (I 12))⟩])
 (.cond (.tmp 23) (.seq (.ops false [⟨some 24,none,.mov (.tmp 0)⟩,⟨some 25,none,.mov (.tmp 1)⟩,⟨some 26,none,.mov (.tmp 2)⟩,⟨some 27,none,.call (.cst (.fn (.func 94) [] [])) [(.tmp 24), (.tmp 25), (.tmp 26)]⟩])
 .ret) .skip))
 (.seq (.seq (.ops false [⟨some 28,none,.mov (.tmp 3)⟩,⟨some 29,none,.bin .eql (.tmp 28) (.cst (I 0))⟩])
 (.cond (.tmp 29) (.seq (.ops false [⟨some 30,none,.mov (.tmp 0)⟩,⟨some 31,none,.mov (.tmp 1)⟩,⟨some 32,none,.mov (.tmp 2)⟩,⟨some 33,none,.call (.cst (.fn (.func 95) [] [])) [(.tmp 30), (.tmp 31), (.tmp 32)]⟩])
 .ret) .skip))
 (.seq (.seq (.ops false [⟨some 34,none,.mov (.tmp 8)⟩,⟨some 35,none,.lnot (.tmp 34)⟩])
 (.cond (.tmp 35) (.seq (.ops false [⟨some 36,none,.mov (.tmp 0)⟩,⟨some 37,none,.mov (.tmp 1)⟩,⟨some 38,none,.mov (.tmp 2)⟩,⟨some 39,none,.call (.cst (.fn (.func 96) [] [])) [(.tmp 36), (.tmp 37), (.tmp 38)]⟩])
 (.ops false [⟨some 40,none,.mov (.tmp 3)⟩,⟨some 41,none,.bin .sub (.tmp 40) (.cst (I 1))⟩,⟨some 3,none,.mov (.tmp 41)⟩])) .skip))
 (.seq (.ops false [⟨some 43,none,.mov (.tmp 0)⟩,⟨some 44,none,.mov (.tmp 1)⟩,⟨some 45,none,.mov (.tmp 2)⟩,⟨some 46,none,.call (.cst (.fn (.func 97) [] [])) [(.tmp 43), (.tmp 44), (.tmp 45)]⟩,⟨some 42,none,.mov (.tmp 46)⟩,⟨some 47,none,.ext (.tmp 42) 0⟩,⟨some 48,none,.ext (.tmp 42) 1⟩,⟨some 11,none,.mov (.tmp 47)⟩,⟨some 12,none,.mov (.tmp 48)⟩])
 (.seq (.seq (.ops false [⟨some 49,none,.mov (.tmp 12)⟩,⟨some 50,none,.bin .eql (.tmp 49) (.cst (I 2))⟩])
 (.cond (.tmp 50) (.seq (.ops false [⟨some 51,none,.mov (.tmp 0)⟩,⟨some 52,none,.mov (.tmp 1)⟩,⟨some 53,none,.mov (.tmp 2)⟩,⟨some 54,none,.call (.cst (.fn (.func 98) [] [])) [(.tmp 51), (.tmp 52), (.tmp 53)]⟩])
 (.seq (.ops false [⟨some 55,none,.mov (.tmp 2)⟩,⟨some 56,none,.bin .sub (.tmp 55) (.cst (I 1))⟩,⟨some 57,none,.mov (.tmp 11)⟩,⟨some 58,none,.mov (.tmp 1)⟩,⟨some 59,none,.bin .sub (.tmp 57) (.tmp 58)⟩,⟨some 60,none,.bin .sub (.tmp 56) (.tmp 59)⟩,⟨some 11,none,.mov (.tmp 60)⟩])
 (.ops false [⟨some 12,none,.mov (.cst (I 1))⟩]))) .skip))
 (.seq (.seq (.ops false [⟨some 61,none,.mov (.tmp 8)⟩,⟨some 62,none,.mov (.tmp 61)⟩,⟨some 63,some ((some 62), true),.mov (.tmp 9)⟩,⟨some 64,none,.pick (.tmp 62) (.tmp 63) (.cst (.bool false))⟩,⟨some 65,none,.mov (.tmp 64)⟩,⟨some 66,some ((some 65), true),.mov (.tmp 12)⟩,⟨some 67,some ((some 65), true),.bin .eql (.tmp 66) (.cst (I 1))⟩,⟨some 68,none,.pick (.tmp 65) (.tmp 67) (.cst (.bool false))⟩])
 (.cond (.tmp 68) (.seq (.ops false [⟨some 69,none,.mov (.tmp 0)⟩,⟨some 70,none,.mov (.tmp 1)⟩,⟨some 71,none,.mov (.tmp 2)⟩,⟨some 72,none,.call (.cst (.fn (.func 99) [] [])) [(.tmp 69), (.tmp 70), (.tmp 71)]⟩])
 (.cond (.tmp 72) .ret .skip)) .skip))
 (.seq (.seq (.ops false [⟨some 73,none,.mov (.tmp 1)⟩,⟨some 74,none,.bin .gtr (.tmp 73) (.cst (I 0))⟩,⟨some 75,none,.mov (.tmp 74)⟩,⟨some 76,some ((some 75), true),.mov (.tmp 0)⟩,⟨some 77,some ((some 75), true),.mov (.tmp 1)⟩,⟨some 78,some ((some 75), true),.bin .sub (.tmp 77) (.cst (I 1))⟩,⟨some 79,some ((some 75), true),.ixs 1 (.tmp 76) (.tmp 78)⟩,⟨some 80,some ((some 75), true),.load none (.tmp 79)⟩,⟨some 81,some ((some 75), true),.mov (.tmp 0)⟩,⟨some 82,some ((some 75), true),.mov (.tmp 11)⟩,⟨some 83,some ((some 75), true),.ixs 1 (.tmp 81) (.tmp 82)⟩,⟨some 84,some ((some 75), true),.load none (.tmp 83)⟩,⟨some 85,some ((some 75), true),.call (.cst (.fn (.func 100) [] [])) [(.tmp 80), (.tmp 84)]⟩,⟨some 86,some ((some 75), true),.lnot (.tmp 85)⟩,⟨some 87,none,.pick (.tmp 75) (.tmp 86) (.cst (.bool false))⟩])
 (.cond (.tmp 87) (.seq (.ops false [⟨some 88,none,.mov (.tmp 0)⟩,⟨some 89,none,.mov (.tmp 1)⟩,⟨some 90,none,.mov (.tmp 2)⟩,⟨some 91,none,.mov (.tmp 11)⟩,⟨some 92,none,.call (.cst (.fn (.func 101) [] [])) [(.tmp 88), (.tmp 89), (.tmp 90), (.tmp 91)]⟩,⟨some 13,none,.mov (.tmp 92)⟩])
 (.seq (.ops false [⟨some 93,none,.mov (.tmp 13)⟩,⟨some 1,none,.mov (.tmp 93)⟩])
 (.exit 1))) .skip))
 (.seq (.ops false [⟨some 95,none,.mov (.tmp 0)⟩,⟨some 96,none,.mov (.tmp 1)⟩,⟨some 97,none,.mov (.tmp 2)⟩,⟨some 98,none,.mov (.tmp 11)⟩,⟨some 99,none,.call (.cst (.fn (.func 102) [] [])) [(.tmp 95), (.tmp 96), (.tmp 97), (.tmp 98)]⟩,⟨some 94,none,.mov (.tmp 99)⟩,⟨some 100,none,.ext (.tmp 94) 0⟩,⟨some 101,none,.ext (.tmp 94) 1⟩,⟨some 14,none,.mov (.tmp 100)⟩,⟨some 15,none,.mov (.tmp 101)⟩])
 (.seq (.ops false [⟨some 102,none,.mov (.tmp 15)⟩,⟨some 9,none,.mov (.tmp 102)⟩])
 (.seq (.ops false [⟨some 103,none,.mov (.tmp 14)⟩,⟨some 104,none,.mov (.tmp 1)⟩,⟨some 105,none,.bin .sub (.tmp 103) (.tmp 104)⟩,⟨some 106,none,.mov (.tmp 2)⟩,⟨some 107,none,.mov (.tmp 14)⟩,⟨some 108,none,.bin .sub (.tmp 106) (.tmp 107)⟩,⟨some 16,none,.mov (.tmp 105)⟩,⟨some 17,none,.mov (.tmp 108)⟩])
 (.seq (.ops false [⟨some 109,none,.mov (.tmp 10)⟩,⟨some 110,none,.bin .quo (.tmp 109) (.cst (I 8))⟩,⟨some 18,none,.mov (.tmp 110)⟩])
 (.seq (.ops false [⟨some 111,none,.mov (.tmp 16)⟩,⟨some 112,none,.mov (.tmp 17)⟩,⟨some 113,none,.bin .lss (.tmp 111) (.tmp 112)⟩])
 (.cond (.tmp 113) (.seq (.ops false [⟨some 114,none,.mov (.tmp 16)⟩,⟨some 115,none,.mov (.tmp 18)⟩,⟨some 116,none,.bin .geq (.tmp 114) (.tmp 115)⟩,⟨some 8,none,.mov (.tmp 116)⟩])
 (.seq (.ops false [⟨some 117,none,.mov (.tmp 0)⟩,⟨some 118,none,.mov (.tmp 1)⟩,⟨some 119,none,.mov (.tmp 14)⟩,⟨some 120,none,.mov (.tmp 3)⟩,⟨some 121,none,.call (.cst (.fn (.func 84) [] [])) [(.tmp 117), (.tmp 118), (.tmp 119), (.tmp 120)]⟩])
 (.ops false [⟨some 122,none,.mov (.tmp 14)⟩,⟨some 123,none,.bin .add (.tmp 122) (.cst (I 1))⟩,⟨some 1,none,.mov (.tmp 123)⟩]))) (.seq (.ops false [⟨some 124,none,.mov (.tmp 17)⟩,⟨some 125,none,.mov (.tmp 18)⟩,⟨some 126,none,.bin .geq (.tmp 124) (.tmp 125)⟩,⟨some 8,none,.mov (.tmp 126)⟩])
 (.seq (.ops false [⟨some 127,none,.mov (.tmp 0)⟩,⟨some 128,none,.mov (.tmp 14)⟩,⟨some 129,none,.bin .add (.tmp 128) (.cst (I 1))⟩,⟨some 130,none,.mov (.tmp 2)⟩,⟨some 131,none,.mov (.tmp 3)⟩,⟨some 132,none,.call (.cst (.fn (.func 84) [] [])) [(.tmp 127), (.tmp 129), (.tmp 130), (.tmp 131)]⟩])
 (.ops false [⟨some 133,none,.mov (.tmp 14)⟩,⟨some 2,none,.mov (.tmp 133)⟩]))))))))))))))))))
def keep84_0 : Option (List Nat) := some [0, 1, 2, 3, 8, 9]
def code84 : MF := ⟨134, [], (.seq (.ops false [⟨some 8,none,.mov (.cst (.bool true))⟩])
 (.seq (.ops false [⟨some 9,none,.mov (.cst (.bool true))⟩])
 (.block 0 (.loop keep84_0 body84_0))))⟩
theorem comp84 : compF Cv 84 = some code84 := by kernel_rfl

def code85 : MF := ⟨8, [(2, none)], (.seq (.ops false [⟨some 2,none,.mov (.cst (I 0))⟩])
 (.seq (.cond (.cst (.bool false)) (.seq (.ops false [⟨some 3,none,.mov (.tmp 0)⟩,⟨some 4,none,.conv .u32 (.tmp 3)⟩,⟨some 5,none,.call (.cst (.fn (.func 103) [] [])) [(.tmp 4)]⟩,⟨some 2,none,.mov (.tmp 5)⟩])
 .ret) .skip)
 (.seq (.ops false [⟨some 6,none,.mov (.tmp 0)⟩,⟨some 7,none,.call (.cst (.fn (.func 104) [] [])) [(.tmp 6)]⟩,⟨some 2,none,.mov (.tmp 7)⟩])
 .ret)))⟩
theorem comp85 : compF Cv 85 = some code85 := by kernel_rfl

def body86_0 : MC := (.seq (.ops false [⟨some 10,none,.bin .lss (.tmp 9) (.tmp 8)⟩])
 (.seq (.cond (.tmp 10) .skip (.exit 0))
 (.seq (.block 1 (.seq (.ops false [⟨some 11,none,.ixs 1 (.tmp 7) (.tmp 9)⟩,⟨some 12,none,.load none (.tmp 11)⟩,⟨some 6,none,.mov (.tmp 12)⟩])
 (.ops false [⟨some 13,none,.mov (.tmp 0)⟩,⟨some 14,none,.mov (.tmp 6)⟩,⟨some 15,none,.mn (.tmp 13) [(.tmp 14)]⟩,⟨some 0,none,.mov (.tmp 15)⟩])))
 (.ops false [⟨some 16,none,.bin .add (.tmp 9) (.cst (I 1))⟩,⟨some 9,none,.mov (.tmp 16)⟩]))))
def keep86_0 : Option (List Nat) := some [0, 7, 8, 9]
def code86 : MF := ⟨18, [(4, none)], (.seq (.ops false [⟨some 4,none,.mov (.cst (I 0))⟩])
 (.seq (.seq (.ops false [⟨some 7,none,.mov (.tmp 1)⟩,⟨some 8,none,.len (.tmp 7)⟩,⟨some 9,none,.mov (.cst (I 0))⟩])
 (.block 0 (.loop keep86_0 body86_0)))
 (.seq (.ops false [⟨some 17,none,.mov (.tmp 0)⟩,⟨some 4,none,.mov (.tmp 17)⟩])
 .ret)))⟩
theorem comp86 : compF Cv 86 = some code86 := by kernel_rfl

def body87_0 : MC := (.seq (.seq (.ops false [⟨some 12,none,.mov (.tmp 4)⟩,⟨some 13,none,.mov (.tmp 0)⟩,⟨some 14,none,.len (.tmp 13)⟩,⟨some 15,none,.bin .lss (.tmp 12) (.tmp 14)⟩])
 (.cond (.tmp 15) .skip (.exit 0)))
 (.seq (.block 1 (.ops false [⟨some 18,none,.mov (.tmp 3)⟩,⟨some 19,none,.mov (.tmp 0)⟩,⟨some 20,none,.mov (.tmp 4)⟩,⟨some 21,none,.ixs 1 (.tmp 19) (.tmp 20)⟩,⟨some 22,none,.load none (.tmp 21)⟩,⟨some 23,none,.mx (.tmp 18) [(.tmp 22)]⟩,⟨some 3,none,.mov (.tmp 23)⟩]))
 (.ops false [⟨some 16,none,.mov (.tmp 4)⟩,⟨some 17,none,.bin .add (.tmp 16) (.cst (I 1))⟩,⟨some 4,none,.mov (.tmp 17)⟩])))
def keep87_0 : Option (List Nat) := some [0, 3, 4]
def code87 : MF := ⟨25, [(2, none)], (.seq (.ops false [⟨some 2,none,.mov (.cst (I 0))⟩])
 (.seq (.seq (.ops false [⟨some 5,none,.mov (.tmp 0)⟩,⟨some 6,none,.len (.tmp 5)⟩,⟨some 7,none,.bin .lss (.tmp 6) (.cst (I 1))⟩])
 (.cond (.tmp 7) (.ops false [⟨some 8,none,.bad⟩,⟨none,none,.bad⟩]) .skip))
 (.seq (.ops false [⟨some 9,none,.mov (.tmp 0)⟩,⟨some 10,none,.ixs 1 (.tmp 9) (.cst (I 0))⟩,⟨some 11,none,.load none (.tmp 10)⟩,⟨some 3,none,.mov (.tmp 11)⟩])
 (.seq (.seq (.ops false [⟨some 4,none,.mov (.cst (I 1))⟩])
 (.block 0 (.loop keep87_0 body87_0)))
 (.seq (.ops false [⟨some 24,none,.mov (.tmp 3)⟩,⟨some 2,none,.mov (.tmp 24)⟩])
 .ret)))))⟩
theorem comp87 : compF Cv 87 = some code87 := by kernel_rfl

def body88_0 : MC := (.seq (.ops false [⟨some 9,none,.bin .lss (.tmp 8) (.tmp 7)⟩])
 (.seq (.cond (.tmp 9) .skip (.exit 0))
 (.seq (.block 1 (.seq (.ops false [⟨some 10,none,.mov (.tmp 8)⟩,⟨some 5,none,.mov (.tmp 10)⟩])
 (.seq (.ops false [⟨some 11,none,.mov (.tmp 1)⟩,⟨some 12,none,.mov (.tmp 0)⟩,⟨some 13,none,.mov (.tmp 5)⟩,⟨some 14,none,.ixs 9 (.tmp 12) (.tmp 13)⟩,⟨some 15,none,.load (some 9) (.tmp 14)⟩,⟨some 16,none,.call (.tmp 11) [(.tmp 15)]⟩])
 (.cond (.tmp 16) (.seq (.ops false [⟨some 17,none,.mov (.tmp 5)⟩,⟨some 4,none,.mov (.tmp 17)⟩])
 .ret) .skip))))
 (.ops false [⟨some 18,none,.bin .add (.tmp 8) (.cst (I 1))⟩,⟨some 8,none,.mov (.tmp 18)⟩]))))
def keep88_0 : Option (List Nat) := some [0, 1, 7, 8]
def code88 : MF := ⟨19, [(4, none)], (.seq (.ops false [⟨some 4,none,.mov (.cst (I 0))⟩])
 (.seq (.seq (.ops false [⟨some 6,none,.mov (.tmp 0)⟩,⟨some 7,none,.len (.tmp 6)⟩,⟨some 8,none,.mov (.cst (I 0))⟩])
 (.block 0 (.loop keep88_0 body88_0)))
 (.seq (.ops false [⟨some 4,none,.mov (.cst (I (-1)))⟩])
 .ret)))⟩
theorem comp88 : compF Cv 88 = some code88 := by kernel_rfl

def code89 : MF := ⟨23, [(4, some (some 5))], (.seq (.ops false [⟨some 2,none,.box (.tmp 0)⟩,⟨some 3,none,.box (.tmp 1)⟩,⟨some 4,none,.alloc [(I 0),(I 0),(I 0),(I 0),(I 0)]⟩])
 (.seq (.ops false [⟨some 7,none,.load (some 5) (.cst (.rp [(I (-1)), (I (-1)), (I (-1)), (I (-1)), (I (-1))] 0))⟩,⟨some 5,none,.alloc [(I 0),(I 0),(I 0),(I 0),(I 0)]⟩,⟨none,none,.store 5 (.tmp 5) (.tmp 7)⟩])
 (.seq (.ops false [⟨some 8,none,.fad (.tmp 3) 0⟩,⟨some 9,none,.fad (.tmp 8) 0⟩,⟨some 10,none,.load none (.tmp 9)⟩,⟨some 11,none,.fad (.tmp 3) 0⟩,⟨some 12,none,.fad (.tmp 11) 1⟩,⟨some 13,none,.load none (.tmp 12)⟩,⟨some 14,none,.ixa 5 1 (.tmp 5) (.tmp 10)⟩,⟨none,none,.store 1 (.tmp 14) (.tmp 13)⟩])
 (.seq (.ops false [⟨some 6,none,.alloc [.nilf]⟩])
 (.seq (.ops false [⟨some 15,none,.mkf (.func 105) [] [(.tmp 2), (.tmp 3), (.tmp 6)]⟩,⟨none,none,.store 1 (.tmp 6) (.tmp 15)⟩])
 (.seq (.ops false [⟨some 16,none,.load none (.tmp 6)⟩,⟨some 17,none,.load (some 5) (.tmp 5)⟩,⟨some 18,none,.fad (.tmp 3) 0⟩,⟨some 19,none,.fad (.tmp 18) 1⟩,⟨some 20,none,.load none (.tmp 19)⟩,⟨some 21,none,.bin .add (.tmp 20) (.cst (I 1))⟩,⟨some 22,none,.call (.tmp 16) [(.tmp 17), (.tmp 21)]⟩,⟨none,none,.store 5 (.tmp 4) (.tmp 22)⟩])
 .ret))))))⟩
theorem comp89 : compF Cv 89 = some code89 := by kernel_rfl

def body90_0 : MC := (.seq (.ops false [⟨some 9,none,.bin .lss (.tmp 8) (.tmp 7)⟩])
 (.seq (.cond (.tmp 9) .skip (.exit 0))
 (.seq (.block 1 (.seq (.ops false [⟨some 10,none,.mov (.tmp 8)⟩,⟨some 5,none,.mov (.tmp 10)⟩])
 (.seq (.ops false [⟨some 11,none,.mov (.tmp 1)⟩,⟨some 12,none,.mov (.tmp 0)⟩,⟨some 13,none,.mov (.tmp 5)⟩,⟨some 14,none,.ixs 2 (.tmp 12) (.tmp 13)⟩,⟨some 15,none,.load (some 2) (.tmp 14)⟩,⟨some 16,none,.call (.tmp 11) [(.tmp 15)]⟩])
 (.cond (.tmp 16) (.seq (.ops false [⟨some 17,none,.mov (.tmp 5)⟩,⟨some 4,none,.mov (.tmp 17)⟩])
 .ret) .skip))))
 (.ops false [⟨some 18,none,.bin .add (.tmp 8) (.cst (I 1))⟩,⟨some 8,none,.mov (.tmp 18)⟩]))))
def keep90_0 : Option (List Nat) := some [0, 1, 7, 8]
def code90 : MF := ⟨19, [(4, none)], (.seq (.ops false [⟨some 4,none,.mov (.cst (I 0))⟩])
 (.seq (.seq (.ops false [⟨some 6,none,.mov (.tmp 0)⟩,⟨some 7,none,.len (.tmp 6)⟩,⟨some 8,none,.mov (.cst (I 0))⟩])
 (.block 0 (.loop keep90_0 body90_0)))
 (.seq (.ops false [⟨some 4,none,.mov (.cst (I (-1)))⟩])
 .ret)))⟩
theorem comp90 : compF Cv 90 = some code90 := by kernel_rfl

def body91_0 : MC := (.seq (.ops false [⟨some 9,none,.bin .lss (.tmp 8) (.tmp 7)⟩])
 (.seq (.cond (.tmp 9) .skip (.exit 0))
 (.seq (.block 1 (.seq (.ops false [⟨some 10,none,.mov (.tmp 8)⟩,⟨some 5,none,.mov (.tmp 10)⟩])
 (.seq (.ops false [⟨some 11,none,.mov (.tmp 1)⟩,⟨some 12,none,.mov (.tmp 0)⟩,⟨some 13,none,.mov (.tmp 5)⟩,⟨some 14,none,.ixs 1 (.tmp 12) (.tmp 13)⟩,⟨some 15,none,.load none (.tmp 14)⟩,⟨some 16,none,.bin .eql (.tmp 11) (.tmp 15)⟩])
 (.cond (.tmp 16) (.seq (.ops false [⟨some 17,none,.mov (.tmp 5)⟩,⟨some 4,none,.mov (.tmp 17)⟩])
 .ret) .skip))))
 (.ops false [⟨some 18,none,.bin .add (.tmp 8) (.cst (I 1))⟩,⟨some 8,none,.mov (.tmp 18)⟩]))))
def keep91_0 : Option (List Nat) := some [0, 1, 7, 8]
def code91 : MF := ⟨19, [(4, none)], (.seq (.ops false [⟨some 4,none,.mov (.cst (I 0))⟩])
 (.seq (.seq (.ops false [⟨some 6,none,.mov (.tmp 0)⟩,⟨some 7,none,.len (.tmp 6)⟩,⟨some 8,none,.mov (.cst (I 0))⟩])
 (.block 0 (.loop keep91_0 body91_0)))
 (.seq (.ops false [⟨some 4,none,.mov (.cst (I (-1)))⟩])
 .ret)))⟩
theorem comp91 : compF Cv 91 = some code91 := by kernel_rfl

def body92_0 : MC := (.seq (.seq (.ops false [⟨some 63,none,.mov (.tmp 8)⟩,⟨some 64,none,.fad (.tmp 1) 0⟩,⟨some 65,none,.fad (.tmp 64) 4⟩,⟨some 66,none,.ixa 2 2 (.tmp 65) (.cst (I 1))⟩,⟨some 67,none,.fad (.tmp 66) 1⟩,⟨some 68,none,.load none (.tmp 67)⟩,⟨some 69,none,.bin .leq (.tmp 63) (.tmp 68)⟩])
 (.cond (.tmp 69) .skip (.exit 6)))
 (.seq (.block 7 (.seq (.ops false [⟨some 72,none,.load (some 2) (.tmp 6)⟩,⟨some 73,none,.mov (.tmp 7)⟩,⟨some 74,none,.mov (.tmp 8)⟩,⟨some 75,none,.bld [(I 0),(I 0),(I 0),(I 0),(I 0),(I 0),(I 0),(I 0),(I 0)] [(0, 2, (.tmp 72)), (2, 1, (.tmp 73)), (3, 1, (.tmp 74))]⟩,⟨some 9,none,.alloc [(I 0),(I 0),(I 0),(I 0),(I 0),(I 0),(I 0),(I 0),(I 0)]⟩,⟨none,none,.store 9 (.tmp 9) (.tmp 75)⟩])
 (.seq (.ops false [⟨some 76,none,.load (some 13) (.tmp 1)⟩,⟨some 77,none,.load (some 9) (.tmp 9)⟩,⟨some 78,none,.call (.cst (.fn (.func 89) [] [])) [(.tmp 76), (.tmp 77)]⟩,⟨some 79,none,.fad (.tmp 9) 4⟩,⟨none,none,.store 5 (.tmp 79) (.tmp 78)⟩])
 (.seq (.ops false [⟨some 80,none,.fad (.tmp 9) 4⟩,⟨some 81,none,.load (some 5) (.tmp 80)⟩,⟨some 82,none,.load (some 5) (.cst (.rp [(I (-1)), (I (-1)), (I (-1)), (I (-1)), (I (-1))] 0))⟩,⟨some 83,none,.eqa 5 true (.tmp 81) (.tmp 82)⟩,⟨some 84,none,.mov (.tmp 83)⟩,⟨some 85,some ((some 84), true),.mov (.tmp 3)⟩,⟨some 86,some ((some 84), true),.load (some 9) (.tmp 9)⟩,⟨some 87,some ((some 84), true),.call (.tmp 85) [(.tmp 86)]⟩,⟨some 88,none,.pick (.tmp 84) (.tmp 87) (.cst (.bool false))⟩,⟨some 89,none,.mov (.tmp 88)⟩,⟨some 90,some ((some 89), true),.mov (.tmp 0)⟩,⟨some 91,some ((some 89), true),.load (some 9) (.tmp 9)⟩,⟨some 92,some ((some 89), true),.call (.tmp 90) [(.tmp 91)]⟩,⟨some 93,some ((some 89), true),.lnot (.tmp 92)⟩,⟨some 94,none,.pick (.tmp 89) (.tmp 93) (.cst (.bool false))⟩])
 (.cond (.tmp 94) .ret .skip)))))
 (.ops false [⟨some 70,none,.mov (.tmp 8)⟩,⟨some 71,none,.bin .add (.tmp 70) (.cst (I 1))⟩,⟨some 8,none,.mov (.tmp 71)⟩])))
def keep92_0 : Option (List Nat) := some [0, 1, 3, 4, 6, 7, 8, 14, 15, 28, 29]
def body92_1 : MC := (.seq (.seq (.ops false [⟨some 49,none,.mov (.tmp 7)⟩,⟨some 50,none,.fad (.tmp 1) 0⟩,⟨some 51,none,.fad (.tmp 50) 4⟩,⟨some 52,none,.ixa 2 2 (.tmp 51) (.cst (I 0))⟩,⟨some 53,none,.fad (.tmp 52) 1⟩,⟨some 54,none,.load none (.tmp 53)⟩,⟨some 55,none,.bin .leq (.tmp 49) (.tmp 54)⟩])
 (.cond (.tmp 55) .skip (.exit 4)))
 (.seq (.block 5 (.seq (.ops false [⟨some 58,none,.fad (.tmp 1) 0⟩,⟨some 59,none,.fad (.tmp 58) 4⟩,⟨some 60,none,.ixa 2 2 (.tmp 59) (.cst (I 1))⟩,⟨some 61,none,.fad (.tmp 60) 0⟩,⟨some 62,none,.load none (.tmp 61)⟩,⟨some 8,none,.mov (.tmp 62)⟩])
 (.block 6 (.loop keep92_0 body92_0))))
 (.ops false [⟨some 56,none,.mov (.tmp 7)⟩,⟨some 57,none,.bin .add (.tmp 56) (.cst (I 1))⟩,⟨some 7,none,.mov (.tmp 57)⟩])))
def keep92_1 : Option (List Nat) := some [0, 1, 3, 4, 6, 7, 14, 15, 28, 29]
def body92_2 : MC := (.seq (.ops false [⟨some 30,none,.bin .lss (.tmp 29) (.tmp 28)⟩])
 (.seq (.cond (.tmp 30) .skip (.exit 2))
 (.seq (.block 3 (.seq (.ops false [⟨some 31,none,.mov (.tmp 29)⟩,⟨some 5,none,.mov (.tmp 31)⟩])
 (.seq (.ops false [⟨some 32,none,.mov (.tmp 4)⟩,⟨some 33,none,.mov (.tmp 5)⟩,⟨some 34,none,.bld [(I 0),(I 0)] [(0, 1, (.tmp 32)), (1, 1, (.tmp 33))]⟩,⟨some 6,none,.alloc [(I 0),(I 0)]⟩,⟨none,none,.store 2 (.tmp 6) (.tmp 34)⟩])
 (.seq (.seq (.ops false [⟨some 35,none,.load (some 2) (.tmp 6)⟩,⟨some 36,none,.load (some 2) (.cst (.rp [(I (-1)), (I (-1))] 0))⟩,⟨some 37,none,.eqa 2 false (.tmp 35) (.tmp 36)⟩,⟨some 38,none,.mov (.tmp 37)⟩,⟨some 39,some ((some 38), false),.fad (.tmp 1) 11⟩,⟨some 40,some ((some 38), false),.load none (.tmp 39)⟩,⟨some 41,some ((some 38), false),.load (some 2) (.tmp 6)⟩,⟨some 42,some ((some 38), false),.lkp (some 2) (.bool false) (.tmp 40) (.tmp 41) false⟩,⟨some 43,none,.pick (.tmp 38) (.cst (.bool true)) (.tmp 42)⟩])
 (.cond (.tmp 43) (.exit 3) .skip))
 (.seq (.ops false [⟨some 44,none,.fad (.tmp 1) 0⟩,⟨some 45,none,.fad (.tmp 44) 4⟩,⟨some 46,none,.ixa 2 2 (.tmp 45) (.cst (I 0))⟩,⟨some 47,none,.fad (.tmp 46) 0⟩,⟨some 48,none,.load none (.tmp 47)⟩,⟨some 7,none,.mov (.tmp 48)⟩])
 (.block 4 (.loop keep92_1 body92_1)))))))
 (.ops false [⟨some 95,none,.bin .add (.tmp 29) (.cst (I 1))⟩,⟨some 29,none,.mov (.tmp 95)⟩]))))
def keep92_2 : Option (List Nat) := some [0, 1, 3, 4, 14, 15, 28, 29]
def body92_3 : MC := (.seq (.ops false [⟨some 16,none,.bin .lss (.tmp 15) (.tmp 14)⟩])
 (.seq (.cond (.tmp 16) .skip (.exit 0))
 (.seq (.block 1 (.seq (.ops false [⟨some 17,none,.mov (.tmp 15)⟩,⟨some 4,none,.mov (.tmp 17)⟩])
 (.scope (.seq (.seq (.ops false [⟨some 18,none,.fad (.tmp 1) 0⟩,⟨some 19,none,.fad (.tmp 18) 2⟩,⟨some 20,none,.load none (.tmp 19)⟩,⟨some 21,none,.mov (.tmp 4)⟩,⟨some 22,none,.bin .shr (.tmp 20) (.tmp 21)⟩,⟨some 23,none,.bin .and (.tmp 22) (.cst (I 1))⟩,⟨some 24,none,.bin .eql (.tmp 23) (.cst (I 0))⟩])
 (.cond (.tmp 24) (.exit 1) .skip))
 (.seq .skip
 (.seq (.ops false [⟨some 25,none,.fad (.tmp 1) 0⟩,⟨some 26,none,.fad (.tmp 25) 3⟩,⟨some 27,none,.load none (.tmp 26)⟩,⟨some 28,none,.bin .add (.tmp 27) (.cst (I 1))⟩,⟨some 29,none,.mov (.cst (I 0))⟩])
 (.block 2 (.loop keep92_2 body92_2))))))))
 (.ops false [⟨some 96,none,.bin .add (.tmp 15) (.cst (I 1))⟩,⟨some 15,none,.mov (.tmp 96)⟩]))))
def keep92_3 : Option (List Nat) := some [0, 1, 3, 14, 15]
def code92 : MF := ⟨97, [], (.seq (.ops false [⟨some 10,none,.load (some 13) (.tmp 1)⟩,⟨some 11,none,.mkf (.func 93) [(.tmp 10)] []⟩,⟨some 3,none,.mov (.tmp 11)⟩])
 (.seq (.ops false [⟨some 12,none,.fad (.tmp 1) 0⟩,⟨some 13,none,.fad (.tmp 12) 0⟩,⟨some 14,none,.load none (.tmp 13)⟩,⟨some 15,none,.mov (.cst (I 0))⟩])
 (.block 0 (.loop keep92_3 body92_3))))⟩
theorem comp92 : compF Cv 92 = some code92 := by kernel_rfl

def code93 : MF := ⟨11, [(4, none)], (.seq (.ops false [⟨some 2,none,.box (.tmp 0)⟩,⟨some 3,none,.box (.tmp 1)⟩,⟨some 4,none,.mov (.cst (.bool false))⟩])
 (.seq (.ops false [⟨some 5,none,.fad (.tmp 2) 0⟩,⟨some 6,none,.fad (.tmp 5) 10⟩,⟨some 7,none,.load none (.tmp 6)⟩,⟨some 8,none,.mkf (.func 107) [] [(.tmp 3)]⟩,⟨some 9,none,.call (.cst (.fn (.func 106) [] [])) [(.tmp 7), (.tmp 8)]⟩,⟨some 10,none,.lnot (.tmp 9)⟩,⟨some 4,none,.mov (.tmp 10)⟩])
 .ret))⟩
theorem comp93 : compF Cv 93 = some code93 := by kernel_rfl

def body94_0 : MC := (.seq (.seq (.ops false [⟨some 16,none,.mov (.tmp 7)⟩,⟨some 17,none,.mov (.tmp 1)⟩,⟨some 18,none,.bin .gtr (.tmp 16) (.tmp 17)⟩,⟨some 19,none,.mov (.tmp 18)⟩,⟨some 20,some ((some 19), true),.mov (.tmp 0)⟩,⟨some 21,some ((some 19), true),.mov (.tmp 7)⟩,⟨some 22,some ((some 19), true),.ixs 1 (.tmp 20) (.tmp 21)⟩,⟨some 23,some ((some 19), true),.load none (.tmp 22)⟩,⟨some 24,some ((some 19), true),.mov (.tmp 0)⟩,⟨some 25,some ((some 19), true),.mov (.tmp 7)⟩,⟨some 26,some ((some 19), true),.bin .sub (.tmp 25) (.cst (I 1))⟩,⟨some 27,some ((some 19), true),.ixs 1 (.tmp 24) (.tmp 26)⟩,⟨some 28,some ((some 19), true),.load none (.tmp 27)⟩,⟨some 29,some ((some 19), true),.call (.cst (.fn (.func 100) [] [])) [(.tmp 23), (.tmp 28)]⟩,⟨some 30,none,.pick (.tmp 19) (.tmp 29) (.cst (.bool false))⟩])
 (.cond (.tmp 30) .skip (.exit 2)))
 (.seq (.block 3 (.ops false [⟨some 33,none,.mov (.tmp 0)⟩,⟨some 34,none,.mov (.tmp 7)⟩,⟨some 35,none,.mov (.tmp 0)⟩,⟨some 36,none,.mov (.tmp 7)⟩,⟨some 37,none,.bin .sub (.tmp 36) (.cst (I 1))⟩,⟨some 38,none,.mov (.tmp 0)⟩,⟨some 39,none,.mov (.tmp 7)⟩,⟨some 40,none,.bin .sub (.tmp 39) (.cst (I 1))⟩,⟨some 41,none,.ixs 1 (.tmp 38) (.tmp 40)⟩,⟨some 42,none,.load none (.tmp 41)⟩,⟨some 43,none,.mov (.tmp 0)⟩,⟨some 44,none,.mov (.tmp 7)⟩,⟨some 45,none,.ixs 1 (.tmp 43) (.tmp 44)⟩,⟨some 46,none,.load none (.tmp 45)⟩,⟨some 47,none,.ixs 1 (.tmp 33) (.tmp 34)⟩,⟨none,none,.store 1 (.tmp 47) (.tmp 42)⟩,⟨some 48,none,.ixs 1 (.tmp 35) (.tmp 37)⟩,⟨none,none,.store 1 (.tmp 48) (.tmp 46)⟩]))
 (.ops false [⟨some 31,none,.mov (.tmp 7)⟩,⟨some 32,none,.bin .sub (.tmp 31) (.cst (I 1))⟩,⟨some 7,none,.mov (.tmp 32)⟩])))
def keep94_0 : Option (List Nat) := some [0, 1, 2, 6, 7]
def body94_1 : MC := (.seq (.seq (.ops false [⟨some 10,none,.mov (.tmp 6)⟩,⟨some 11,none,.mov (.tmp 2)⟩,⟨some 12,none,.bin .lss (.tmp 10) (.tmp 11)⟩])
 (.cond (.tmp 12) .skip (.exit 0)))
 (.seq (.block 1 (.seq (.ops false [⟨some 15,none,.mov (.tmp 6)⟩,⟨some 7,none,.mov (.tmp 15)⟩])
 (.block 2 (.loop keep94_0 body94_0))))
 (.ops false [⟨some 13,none,.mov (.tmp 6)⟩,⟨some 14,none,.bin .add (.tmp 13) (.cst (I 1))⟩,⟨some 6,none,.mov (.tmp 14)⟩])))
def keep94_1 : Option (List Nat) := some [0, 1, 2, 6]
def code94 : MF := ⟨49, [], (.seq (.ops false [⟨some 8,none,.mov (.tmp 1)⟩,⟨some 9,none,.bin .add (.tmp 8) (.cst (I 1))⟩,⟨some 6,none,.mov (.tmp 9)⟩])
 (.block 0 (.loop keep94_1 body94_1)))⟩
theorem comp94 : compF Cv 94 = some code94 := by kernel_rfl

def code97 : MF := ⟨57, [(6, none), (7, none)], (.seq (.ops false [⟨some 6,none,.mov (.cst (I 0))⟩,⟨some 7,none,.mov (.cst (I 0))⟩])
 (.seq (.ops false [⟨some 13,none,.mov (.tmp 2)⟩,⟨some 14,none,.mov (.tmp 1)⟩,⟨some 15,none,.bin .sub (.tmp 13) (.tmp 14)⟩,⟨some 8,none,.mov (.tmp 15)⟩])
 (.seq (.ops false [⟨some 9,none,.alloc [(I 0)]⟩])
 (.seq (.ops false [⟨some 16,none,.mov (.tmp 1)⟩,⟨some 17,none,.mov (.tmp 8)⟩,⟨some 18,none,.bin .quo (.tmp 17) (.cst (I 4))⟩,⟨some 19,none,.bin .mul (.tmp 18) (.cst (I 1))⟩,⟨some 20,none,.bin .add (.tmp 16) (.tmp 19)⟩,⟨some 10,none,.mov (.tmp 20)⟩])
 (.seq (.ops false [⟨some 21,none,.mov (.tmp 1)⟩,⟨some 22,none,.mov (.tmp 8)⟩,⟨some 23,none,.bin .quo (.tmp 22) (.cst (I 4))⟩,⟨some 24,none,.bin .mul (.tmp 23) (.cst (I 2))⟩,⟨some 25,none,.bin .add (.tmp 21) (.tmp 24)⟩,⟨some 11,none,.mov (.tmp 25)⟩])
 (.seq (.ops false [⟨some 26,none,.mov (.tmp 1)⟩,⟨some 27,none,.mov (.tmp 8)⟩,⟨some 28,none,.bin .quo (.tmp 27) (.cst (I 4))⟩,⟨some 29,none,.bin .mul (.tmp 28) (.cst (I 3))⟩,⟨some 30,none,.bin .add (.tmp 26) (.tmp 29)⟩,⟨some 12,none,.mov (.tmp 30)⟩])
 (.seq (.seq (.ops false [⟨some 31,none,.mov (.tmp 8)⟩,⟨some 32,none,.bin .geq (.tmp 31) (.cst (I 8))⟩])
 (.cond (.tmp 32) (.seq (.seq (.ops false [⟨some 33,none,.mov (.tmp 8)⟩,⟨some 34,none,.bin .geq (.tmp 33) (.cst (I 50))⟩])
 (.cond (.tmp 34) (.seq (.ops false [⟨some 35,none,.mov (.tmp 0)⟩,⟨some 36,none,.mov (.tmp 10)⟩,⟨some 37,none,.call (.cst (.fn (.func 111) [] [])) [(.tmp 35), (.tmp 36), (.tmp 9)]⟩,⟨some 10,none,.mov (.tmp 37)⟩])
 (.seq (.ops false [⟨some 38,none,.mov (.tmp 0)⟩,⟨some 39,none,.mov (.tmp 11)⟩,⟨some 40,none,.call (.cst (.fn (.func 111) [] [])) [(.tmp 38), (.tmp 39), (.tmp 9)]⟩,⟨some 11,none,.mov (.tmp 40)⟩])
 (.ops false [⟨some 41,none,.mov (.tmp 0)⟩,⟨some 42,none,.mov (.tmp 12)⟩,⟨some 43,none,.call (.cst (.fn (.func 111) [] [])) [(.tmp 41), (.tmp 42), (.tmp 9)]⟩,⟨some 12,none,.mov (.tmp 43)⟩]))) .skip))
 (.ops false [⟨some 44,none,.mov (.tmp 0)⟩,⟨some 45,none,.mov (.tmp 10)⟩,⟨some 46,none,.mov (.tmp 11)⟩,⟨some 47,none,.mov (.tmp 12)⟩,⟨some 48,none,.call (.cst (.fn (.func 112) [] [])) [(.tmp 44), (.tmp 45), (.tmp 46), (.tmp 47), (.tmp 9)]⟩,⟨some 11,none,.mov (.tmp 48)⟩])) .skip))
 (.seq (.ops false [⟨some 49,none,.load none (.tmp 9)⟩])
 (.block 0 (.seq (.ops false [⟨some 52,none,.bin .eql (.tmp 49) (.cst (I 0))⟩,⟨some 51,none,.mov (.tmp 52)⟩])
 (.cond (.tmp 51) (.seq (.ops false [⟨some 53,none,.mov (.tmp 11)⟩,⟨some 6,none,.mov (.tmp 53)⟩,⟨some 7,none,.mov (.cst (I 1))⟩])
 .ret) (.seq (.ops false [⟨some 55,none,.bin .eql (.tmp 49) (.cst (I 12))⟩,⟨some 54,none,.mov (.tmp 55)⟩])
 (.cond (.tmp 54) (.seq (.ops false [⟨some 56,none,.mov (.tmp 11)⟩,⟨some 6,none,.mov (.tmp 56)⟩,⟨some 7,none,.mov (.cst (I 2))⟩])
 .ret) (.seq (.ops false [⟨some 50,none,.mov (.tmp 11)⟩,⟨some 6,none,.mov (.tmp 50)⟩,⟨some 7,none,.mov (.cst (I 0))⟩])
 .ret))))))))))))))⟩
theorem comp97 : compF Cv 97 = some code97 := by kernel_rfl

def body99_0 : MC := (.seq (.seq (.ops false [⟨some 17,none,.mov (.tmp 7)⟩,⟨some 18,none,.mov (.tmp 2)⟩,⟨some 19,none,.bin .lss (.tmp 17) (.tmp 18)⟩,⟨some 20,none,.mov (.tmp 19)⟩,⟨some 21,some ((some 20), true),.mov (.tmp 0)⟩,⟨some 22,some ((some 20), true),.mov (.tmp 7)⟩,⟨some 23,some ((some 20), true),.ixs 1 (.tmp 21) (.tmp 22)⟩,⟨some 24,some ((some 20), true),.load none (.tmp 23)⟩,⟨some 25,some ((some 20), true),.mov (.tmp 0)⟩,⟨some 26,some ((some 20), true),.mov (.tmp 7)⟩,⟨some 27,some ((some 20), true),.bin .sub (.tmp 26) (.cst (I 1))⟩,⟨some 28,some ((some 20), true),.ixs 1 (.tmp 25) (.tmp 27)⟩,⟨some 29,some ((some 20), true),.load none (.tmp 28)⟩,⟨some 30,some ((some 20), true),.call (.cst (.fn (.func 100) [] [])) [(.tmp 24), (.tmp 29)]⟩,⟨some 31,some ((some 20), true),.lnot (.tmp 30)⟩,⟨some 32,none,.pick (.tmp 20) (.tmp 31) (.cst (.bool false))⟩])
 (.cond (.tmp 32) .skip (.exit 2)))
 (.block 3 (.ops false [⟨some 33,none,.mov (.tmp 7)⟩,⟨some 34,none,.bin .add (.tmp 33) (.cst (I 1))⟩,⟨some 7,none,.mov (.tmp 34)⟩])))
def keep99_0 : Option (List Nat) := some [0, 1, 2, 7, 8]
def body99_1 : MC := (.seq (.seq (.ops false [⟨some 64,none,.mov (.tmp 9)⟩,⟨some 65,none,.bin .geq (.tmp 64) (.cst (I 1))⟩])
 (.cond (.tmp 65) .skip (.exit 4)))
 (.seq (.block 5 (.seq (.seq (.ops false [⟨some 68,none,.mov (.tmp 0)⟩,⟨some 69,none,.mov (.tmp 9)⟩,⟨some 70,none,.ixs 1 (.tmp 68) (.tmp 69)⟩,⟨some 71,none,.load none (.tmp 70)⟩,⟨some 72,none,.mov (.tmp 0)⟩,⟨some 73,none,.mov (.tmp 9)⟩,⟨some 74,none,.bin .sub (.tmp 73) (.cst (I 1))⟩,⟨some 75,none,.ixs 1 (.tmp 72) (.tmp 74)⟩,⟨some 76,none,.load none (.tmp 75)⟩,⟨some 77,none,.call (.cst (.fn (.func 100) [] [])) [(.tmp 71), (.tmp 76)]⟩,⟨some 78,none,.lnot (.tmp 77)⟩])
 (.cond (.tmp 78) (.exit 4) .skip))
 (.ops false [⟨some 79,none,.mov (.tmp 0)⟩,⟨some 80,none,.mov (.tmp 9)⟩,⟨some 81,none,.mov (.tmp 0)⟩,⟨some 82,none,.mov (.tmp 9)⟩,⟨some 83,none,.bin .sub (.tmp 82) (.cst (I 1))⟩,⟨some 84,none,.mov (.tmp 0)⟩,⟨some 85,none,.mov (.tmp 9)⟩,⟨some 86,none,.bin .sub (.tmp 85) (.cst (I 1))⟩,⟨some 87,none,.ixs 1 (.tmp 84) (.tmp 86)⟩,⟨some 88,none,.load none (.tmp 87)⟩,⟨some 89,none,.mov (.tmp 0)⟩,⟨some 90,none,.mov (.tmp 9)⟩,⟨some 91,none,.ixs 1 (.tmp 89) (.tmp 90)⟩,⟨some 92,none,.load none (.tmp 91)⟩,⟨some 93,none,.ixs 1 (.tmp 79) (.tmp 80)⟩,⟨none,none,.store 1 (.tmp 93) (.tmp 88)⟩,⟨some 94,none,.ixs 1 (.tmp 81) (.tmp 83)⟩,⟨none,none,.store 1 (.tmp 94) (.tmp 92)⟩])))
 (.ops false [⟨some 66,none,.mov (.tmp 9)⟩,⟨some 67,none,.bin .sub (.tmp 66) (.cst (I 1))⟩,⟨some 9,none,.mov (.tmp 67)⟩])))
def keep99_1 : Option (List Nat) := some [0, 1, 2, 7, 8, 9]
def body99_2 : MC := (.seq (.seq (.ops false [⟨some 101,none,.mov (.tmp 10)⟩,⟨some 102,none,.mov (.tmp 2)⟩,⟨some 103,none,.bin .lss (.tmp 101) (.tmp 102)⟩])
 (.cond (.tmp 103) .skip (.exit 6)))
 (.seq (.block 7 (.seq (.seq (.ops false [⟨some 106,none,.mov (.tmp 0)⟩,⟨some 107,none,.mov (.tmp 10)⟩,⟨some 108,none,.ixs 1 (.tmp 106) (.tmp 107)⟩,⟨some 109,none,.load none (.tmp 108)⟩,⟨some 110,none,.mov (.tmp 0)⟩,⟨some 111,none,.mov (.tmp 10)⟩,⟨some 112,none,.bin .sub (.tmp 111) (.cst (I 1))⟩,⟨some 113,none,.ixs 1 (.tmp 110) (.tmp 112)⟩,⟨some 114,none,.load none (.tmp 113)⟩,⟨some 115,none,.call (.cst (.fn (.func 100) [] [])) [(.tmp 109), (.tmp 114)]⟩,⟨some 116,none,.lnot (.tmp 115)⟩])
 (.cond (.tmp 116) (.exit 6) .skip))
 (.ops false [⟨some 117,none,.mov (.tmp 0)⟩,⟨some 118,none,.mov (.tmp 10)⟩,⟨some 119,none,.mov (.tmp 0)⟩,⟨some 120,none,.mov (.tmp 10)⟩,⟨some 121,none,.bin .sub (.tmp 120) (.cst (I 1))⟩,⟨some 122,none,.mov (.tmp 0)⟩,⟨some 123,none,.mov (.tmp 10)⟩,⟨some 124,none,.bin .sub (.tmp 123) (.cst (I 1))⟩,⟨some 125,none,.ixs 1 (.tmp 122) (.tmp 124)⟩,⟨some 126,none,.load none (.tmp 125)⟩,⟨some 127,none,.mov (.tmp 0)⟩,⟨some 128,none,.mov (.tmp 10)⟩,⟨some 129,none,.ixs 1 (.tmp 127) (.tmp 128)⟩,⟨some 130,none,.load none (.tmp 129)⟩,⟨some 131,none,.ixs 1 (.tmp 117) (.tmp 118)⟩,⟨none,none,.store 1 (.tmp 131) (.tmp 126)⟩,⟨some 132,none,.ixs 1 (.tmp 119) (.tmp 121)⟩,⟨none,none,.store 1 (.tmp 132) (.tmp 130)⟩])))
 (.ops false [⟨some 104,none,.mov (.tmp 10)⟩,⟨some 105,none,.bin .add (.tmp 104) (.cst (I 1))⟩,⟨some 10,none,.mov (.tmp 105)⟩])))
def keep99_2 : Option (List Nat) := some [0, 1, 2, 7, 8, 10]
def body99_3 : MC := (.seq (.seq (.ops false [⟨some 13,none,.mov (.tmp 8)⟩,⟨some 14,none,.bin .lss (.tmp 13) (.cst (I 5))⟩])
 (.cond (.tmp 14) .skip (.exit 0)))
 (.seq (.block 1 (.seq (.block 2 (.loop keep99_0 body99_0))
 (.seq (.seq (.ops false [⟨some 35,none,.mov (.tmp 7)⟩,⟨some 36,none,.mov (.tmp 2)⟩,⟨some 37,none,.bin .eql (.tmp 35) (.tmp 36)⟩])
 (.cond (.tmp 37) (.seq (.ops false [⟨some 6,none,.mov (.cst (.bool true))⟩])
 .ret) .skip))
 (.seq (.seq (.ops false [⟨some 38,none,.mov (.tmp 2)⟩,⟨some 39,none,.mov (.tmp 1)⟩,⟨some 40,none,.bin .sub (.tmp 38) (.tmp 39)⟩,⟨some 41,none,.bin .lss (.tmp 40) (.cst (I 50))⟩])
 (.cond (.tmp 41) (.seq (.ops false [⟨some 6,none,.mov (.cst (.bool false))⟩])
 .ret) .skip))
 (.seq (.ops false [⟨some 42,none,.mov (.tmp 0)⟩,⟨some 43,none,.mov (.tmp 7)⟩,⟨some 44,none,.mov (.tmp 0)⟩,⟨some 45,none,.mov (.tmp 7)⟩,⟨some 46,none,.bin .sub (.tmp 45) (.cst (I 1))⟩,⟨some 47,none,.mov (.tmp 0)⟩,⟨some 48,none,.mov (.tmp 7)⟩,⟨some 49,none,.bin .sub (.tmp 48) (.cst (I 1))⟩,⟨some 50,none,.ixs 1 (.tmp 47) (.tmp 49)⟩,⟨some 51,none,.load none (.tmp 50)⟩,⟨some 52,none,.mov (.tmp 0)⟩,⟨some 53,none,.mov (.tmp 7)⟩,⟨some 54,none,.ixs 1 (.tmp 52) (.tmp 53)⟩,⟨some 55,none,.load none (.tmp 54)⟩,⟨some 56,none,.ixs 1 (.tmp 42) (.tmp 43)⟩,⟨none,none,.store 1 (.tmp 56) (.tmp 51)⟩,⟨some 57,none,.ixs 1 (.tmp 44) (.tmp 46)⟩,⟨none,none,.store 1 (.tmp 57) (.tmp 55)⟩])
 (.seq (.seq (.ops false [⟨some 58,none,.mov (.tmp 7)⟩,⟨some 59,none,.mov (.tmp 1)⟩,⟨some 60,none,.bin .sub (.tmp 58) (.tmp 59)⟩,⟨some 61,none,.bin .geq (.tmp 60) (.cst (I 2))⟩])
 (.cond (.tmp 61) (.seq (.ops false [⟨some 62,none,.mov (.tmp 7)⟩,⟨some 63,none,.bin .sub (.tmp 62) (.cst (I 1))⟩,⟨some 9,none,.mov (.tmp 63)⟩])
 (.block 4 (.loop keep99_1 body99_1))) .skip))
 (.seq (.ops false [⟨some 95,none,.mov (.tmp 2)⟩,⟨some 96,none,.mov (.tmp 7)⟩,⟨some 97,none,.bin .sub (.tmp 95) (.tmp 96)⟩,⟨some 98,none,.bin .geq (.tmp 97) (.cst (I 2))⟩])
 (.cond (.tmp 98) (.seq (.ops false [⟨some 99,none,.mov (.tmp 7)⟩,⟨some 100,none,.bin .add (.tmp 99) (.cst (I 1))⟩,⟨some 10,none,.mov (.tmp 100)⟩])
 (.block 6 (.loop keep99_2 body99_2))) .skip))))))))
 (.ops false [⟨some 15,none,.mov (.tmp 8)⟩,⟨some 16,none,.bin .add (.tmp 15) (.cst (I 1))⟩,⟨some 8,none,.mov (.tmp 16)⟩])))
def keep99_3 : Option (List Nat) := some [0, 1, 2, 7, 8]
def code99 : MF := ⟨133, [(6, none)], (.seq (.ops false [⟨some 6,none,.mov (.cst (.bool false))⟩])
 (.seq (.ops false [⟨some 11,none,.mov (.tmp 1)⟩,⟨some 12,none,.bin .add (.tmp 11) (.cst (I 1))⟩,⟨some 7,none,.mov (.tmp 12)⟩])
 (.seq (.seq (.ops false [⟨some 8,none,.mov (.cst (I 0))⟩])
 (.block 0 (.loop keep99_3 body99_3)))
 (.seq (.ops false [⟨some 6,none,.mov (.cst (.bool false))⟩])
 .ret))))⟩
theorem comp99 : compF Cv 99 = some code99 := by kernel_rfl

def code100 : MF := ⟨17, [(4, none)], (.seq (.ops false [⟨some 4,none,.mov (.cst (.bool false))⟩])
 (.seq (.ops false [⟨some 5,none,.mov (.tmp 0)⟩,⟨some 6,none,.call (.cst (.fn (.func 113) [] [])) [(.tmp 5)]⟩,⟨some 7,none,.mov (.tmp 6)⟩,⟨some 8,some ((some 7), true),.mov (.tmp 1)⟩,⟨some 9,some ((some 7), true),.call (.cst (.fn (.func 113) [] [])) [(.tmp 8)]⟩,⟨some 10,some ((some 7), true),.lnot (.tmp 9)⟩,⟨some 11,none,.pick (.tmp 7) (.tmp 10) (.cst (.bool false))⟩,⟨some 12,none,.mov (.tmp 11)⟩,⟨some 13,some ((some 12), false),.mov (.tmp 0)⟩,⟨some 14,some ((some 12), false),.mov (.tmp 1)⟩,⟨some 15,some ((some 12), false),.bin .lss (.tmp 13) (.tmp 14)⟩,⟨some 16,none,.pick (.tmp 12) (.cst (.bool true)) (.tmp 15)⟩,⟨some 4,none,.mov (.tmp 16)⟩])
 .ret))⟩
theorem comp100 : compF Cv 100 = some code100 := by kernel_rfl

def code104 : MF := ⟨25, [(2, none)], (.seq (.ops false [⟨some 2,none,.mov (.cst (I 0))⟩])
 (.seq (.seq (.ops false [⟨some 3,none,.mov (.tmp 0)⟩,⟨some 4,none,.bin .geq (.tmp 3) (.cst (.int .u64 4294967296))⟩])
 (.cond (.tmp 4) (.seq (.ops false [⟨some 5,none,.mov (.tmp 0)⟩,⟨some 6,none,.bin .shr (.tmp 5) (.cst (.int .u64 32))⟩,⟨some 0,none,.mov (.tmp 6)⟩])
 (.ops false [⟨some 2,none,.mov (.cst (I 32))⟩])) .skip))
 (.seq (.seq (.ops false [⟨some 7,none,.mov (.tmp 0)⟩,⟨some 8,none,.bin .geq (.tmp 7) (.cst (.int .u64 65536))⟩])
 (.cond (.tmp 8) (.seq (.ops false [⟨some 9,none,.mov (.tmp 0)⟩,⟨some 10,none,.bin .shr (.tmp 9) (.cst (.int .u64 16))⟩,⟨some 0,none,.mov (.tmp 10)⟩])
 (.ops false [⟨some 11,none,.mov (.tmp 2)⟩,⟨some 12,none,.bin .add (.tmp 11) (.cst (I 16))⟩,⟨some 2,none,.mov (.tmp 12)⟩])) .skip))
 (.seq (.seq (.ops false [⟨some 13,none,.mov (.tmp 0)⟩,⟨some 14,none,.bin .geq (.tmp 13) (.cst (.int .u64 256))⟩])
 (.cond (.tmp 14) (.seq (.ops false [⟨some 15,none,.mov (.tmp 0)⟩,⟨some 16,none,.bin .shr (.tmp 15) (.cst (.int .u64 8))⟩,⟨some 0,none,.mov (.tmp 16)⟩])
 (.ops false [⟨some 17,none,.mov (.tmp 2)⟩,⟨some 18,none,.bin .add (.tmp 17) (.cst (I 8))⟩,⟨some 2,none,.mov (.tmp 18)⟩])) .skip))
 (.seq (.ops false [⟨some 19,none,.mov (.tmp 2)⟩,⟨some 20,none,.mov (.tmp 0)⟩,⟨some 21,none,.conv .u8 (.tmp 20)⟩,⟨some 22,none,.ixt (.cst (.str ⟨#[0, 1, 2, 2, 3, 3, 3, 3, 4, 4, 4, 4, 4, 4, 4, 4, 5, 5, 5, 5, 5, 5, 5, 5, 5, 5, 5, 5, 5, 5, 5, 5, 6, 6, 6, 6, 6, 6, 6, 6, 6, 6, 6, 6, 6, 6, 6, 6, 6, 6, 6, 6, 6, 6, 6, 6, 6, 6, 6, 6, 6, 6, 6, 6, 7, 7, 7, 7, 7, 7, 7, 7, 7, 7, 7, 7, 7, 7, 7, 7, 7, 7, 7, 7, 7, 7, 7, 7, 7, 7, 7, 7, 7, 7, 7, 7, 7, 7, 7, 7, 7, 7, 7, 7, 7, 7, 7, 7, 7, 7, 7, 7, 7, 7, 7, 7, 7, 7, 7, 7, 7, 7, 7, 7, 7, 7, 7, 7, 8, 8, 8, 8, 8, 8, 8, 8, 8, 8, 8, 8, 8, 8, 8, 8, 8, 8, 8, 8, 8, 8, 8, 8, 8, 8, 8, 8, 8, 8, 8, 8, 8, 8, 8, 8, 8, 8, 8, 8, 8, 8, 8, 8, 8, 8, 8, 8, 8, 8, 8, 8, 8, 8, 8, 8, 8, 8, 8, 8, 8, 8, 8, 8, 8, 8, 8, 8, 8, 8, 8, 8, 8, 8, 8, 8, 8, 8, 8, 8, 8, 8, 8, 8, 8, 8, 8, 8, 8, 8, 8, 8, 8, 8, 8, 8, 8, 8, 8, 8, 8, 8, 8, 8, 8, 8, 8, 8, 8, 8, 8, 8, 8, 8, 8, 8, 8, 8, 8, 8, 8, 8, 8, 8, 8, 8, 8, 8]⟩)) (.tmp 21)⟩,⟨some 23,none,.conv .i64 (.tmp 22)⟩,⟨some 24,none,.bin .add (.tmp 19) (.tmp 23)⟩,⟨some 2,none,.mov (.tmp 24)⟩])
 .ret)))))⟩
theorem comp104 : compF Cv 104 = some code104 := by kernel_rfl

def body105_0 : MC := (.seq (.ops false [⟨some 44,none,.bin .lss (.tmp 43) (.tmp 42)⟩])
 (.seq (.cond (.tmp 44) .skip (.exit 2))
 (.seq (.block 3 (.seq (.ops false [⟨some 45,none,.ixs 1 (.tmp 41) (.tmp 43)⟩,⟨some 46,none,.load none (.tmp 45)⟩,⟨some 11,none,.mov (.tmp 46)⟩])
 (.seq (.ops false [⟨some 47,none,.mov (.tmp 11)⟩,⟨some 48,none,.fad (.tmp 2) 0⟩,⟨some 49,none,.fad (.tmp 48) 0⟩,⟨some 50,none,.load none (.tmp 49)⟩,⟨some 51,none,.bin .sub (.tmp 50) (.cst (I 1))⟩,⟨some 52,none,.call (.cst (.fn (.func 62) [] [])) [(.tmp 47), (.cst (I 0)), (.tmp 51)]⟩,⟨some 53,none,.mov (.tmp 52)⟩,⟨some 54,some ((some 53), true),.mov (.tmp 11)⟩,⟨some 55,some ((some 53), true),.ixa 5 1 (.tmp 5) (.tmp 54)⟩,⟨some 56,some ((some 53), true),.load none (.tmp 55)⟩,⟨some 57,some ((some 53), true),.bin .geq (.tmp 56) (.cst (I 0))⟩,⟨some 58,none,.pick (.tmp 53) (.tmp 57) (.cst (.bool false))⟩,⟨some 59,none,.mov (.tmp 58)⟩,⟨some 60,some ((some 59), true),.mov (.tmp 11)⟩,⟨some 61,some ((some 59), true),.ixa 5 1 (.tmp 5) (.tmp 60)⟩,⟨some 62,some ((some 59), true),.load none (.tmp 61)⟩,⟨some 63,some ((some 59), true),.fad (.tmp 3) 3⟩,⟨some 64,some ((some 59), true),.load none (.tmp 63)⟩,⟨some 65,some ((some 59), true),.bin .add (.tmp 62) (.tmp 64)⟩,⟨some 66,some ((some 59), true),.mov (.tmp 1)⟩,⟨some 67,some ((some 59), true),.bin .eql (.tmp 65) (.tmp 66)⟩,⟨some 68,none,.pick (.tmp 59) (.tmp 67) (.cst (.bool false))⟩,⟨some 69,none,.mov (.tmp 68)⟩,⟨some 70,some ((some 69), true),.fad (.tmp 2) 11⟩,⟨some 71,some ((some 69), true),.load none (.tmp 70)⟩,⟨some 72,some ((some 69), true),.mov (.tmp 11)⟩,⟨some 73,some ((some 69), true),.mov (.tmp 1)⟩,⟨some 74,some ((some 69), true),.bld [(I 0),(I 0)] [(0, 1, (.tmp 72)), (1, 1, (.tmp 73))]⟩,⟨some 75,some ((some 69), true),.lkp (some 2) (.bool false) (.tmp 71) (.tmp 74) false⟩,⟨some 76,some ((some 69), true),.lnot (.tmp 75)⟩,⟨some 77,none,.pick (.tmp 69) (.tmp 76) (.cst (.bool false))⟩])
 (.cond (.tmp 77) (.ops false [⟨some 78,none,.mov (.tmp 9)⟩,⟨some 79,none,.mov (.tmp 1)⟩,⟨some 80,none,.ixa 5 1 (.tmp 8) (.tmp 78)⟩,⟨none,none,.store 1 (.tmp 80) (.tmp 79)⟩]) .skip))))
 (.ops false [⟨some 81,none,.bin .add (.tmp 43) (.cst (I 1))⟩,⟨some 43,none,.mov (.tmp 81)⟩]))))
def keep105_0 : Option (List Nat) := some [1, 2, 3, 4, 5, 7, 8, 9, 21, 22, 41, 42, 43]
def body105_1 : MC := (.seq (.ops false [⟨some 23,none,.bin .lss (.tmp 22) (.tmp 21)⟩])
 (.seq (.cond (.tmp 23) .skip (.exit 0))
 (.seq (.block 1 (.seq (.ops false [⟨some 24,none,.mov (.tmp 22)⟩,⟨some 9,none,.mov (.tmp 24)⟩])
 (.seq (.seq (.ops false [⟨some 25,none,.mov (.tmp 9)⟩,⟨some 26,none,.ixa 5 1 (.tmp 5) (.tmp 25)⟩,⟨some 27,none,.load none (.tmp 26)⟩,⟨some 28,none,.bin .geq (.tmp 27) (.cst (I 0))⟩,⟨some 29,none,.mov (.tmp 28)⟩,⟨some 30,some ((some 29), false),.fad (.tmp 2) 11⟩,⟨some 31,some ((some 29), false),.load none (.tmp 30)⟩,⟨some 32,some ((some 29), false),.mov (.tmp 9)⟩,⟨some 33,some ((some 29), false),.mov (.tmp 1)⟩,⟨some 34,some ((some 29), false),.bld [(I 0),(I 0)] [(0, 1, (.tmp 32)), (1, 1, (.tmp 33))]⟩,⟨some 35,some ((some 29), false),.lkp (some 2) (.bool false) (.tmp 31) (.tmp 34) false⟩,⟨some 36,none,.pick (.tmp 29) (.cst (.bool true)) (.tmp 35)⟩])
 (.cond (.tmp 36) (.exit 1) .skip))
 (.seq (.ops false [⟨some 37,none,.mov (.tmp 9)⟩,⟨some 38,none,.bin .sub (.tmp 37) (.cst (I 1))⟩,⟨some 39,none,.mov (.tmp 9)⟩,⟨some 40,none,.bin .add (.tmp 39) (.cst (I 1))⟩,⟨some 41,none,.bsl 1 false (I 0) 2 [(0, (.tmp 38)), (1, (.tmp 40))]⟩,⟨some 42,none,.len (.tmp 41)⟩,⟨some 43,none,.mov (.cst (I 0))⟩])
 (.block 2 (.loop keep105_0 body105_0))))))
 (.ops false [⟨some 82,none,.bin .add (.tmp 22) (.cst (I 1))⟩,⟨some 22,none,.mov (.tmp 82)⟩]))))
def keep105_1 : Option (List Nat) := some [1, 2, 3, 4, 5, 7, 8, 21, 22]
def code105 : MF := ⟨88, [(7, some (some 5))], (.seq (.ops false [⟨some 5,none,.box (.tmp 0)⟩,⟨some 7,none,.alloc [(I 0),(I 0),(I 0),(I 0),(I 0)]⟩])
 (.seq (.seq (.ops false [⟨some 12,none,.mov (.tmp 1)⟩,⟨some 13,none,.fad (.tmp 2) 0⟩,⟨some 14,none,.fad (.tmp 13) 1⟩,⟨some 15,none,.load none (.tmp 14)⟩,⟨some 16,none,.bin .geq (.tmp 12) (.tmp 15)⟩])
 (.cond (.tmp 16) (.seq (.ops false [⟨some 17,none,.load (some 5) (.tmp 5)⟩,⟨none,none,.store 5 (.tmp 7) (.tmp 17)⟩])
 .ret) .skip))
 (.seq (.ops false [⟨some 18,none,.load (some 5) (.tmp 5)⟩,⟨some 8,none,.alloc [(I 0),(I 0),(I 0),(I 0),(I 0)]⟩,⟨none,none,.store 5 (.tmp 8) (.tmp 18)⟩])
 (.seq (.seq (.ops false [⟨some 19,none,.fad (.tmp 2) 0⟩,⟨some 20,none,.fad (.tmp 19) 0⟩,⟨some 21,none,.load none (.tmp 20)⟩,⟨some 22,none,.mov (.cst (I 0))⟩])
 (.block 0 (.loop keep105_1 body105_1)))
 (.seq (.ops false [⟨some 83,none,.load none (.tmp 4)⟩,⟨some 84,none,.load (some 5) (.tmp 8)⟩,⟨some 85,none,.mov (.tmp 1)⟩,⟨some 86,none,.bin .add (.tmp 85) (.cst (I 1))⟩,⟨some 87,none,.call (.tmp 83) [(.tmp 84), (.tmp 86)]⟩,⟨none,none,.store 5 (.tmp 7) (.tmp 87)⟩])
 .ret)))))⟩
theorem comp105 : compF Cv 105 = some code105 := by kernel_rfl

def code106 : MF := ⟨9, [(4, none)], (.seq (.ops false [⟨some 4,none,.mov (.cst (.bool false))⟩])
 (.seq (.ops false [⟨some 5,none,.mov (.tmp 0)⟩,⟨some 6,none,.mov (.tmp 1)⟩,⟨some 7,none,.call (.cst (.fn (.func 114) [] [])) [(.tmp 5), (.tmp 6)]⟩,⟨some 8,none,.bin .geq (.tmp 7) (.cst (I 0))⟩,⟨some 4,none,.mov (.tmp 8)⟩])
 .ret))⟩
theorem comp106 : compF Cv 106 = some code106 := by kernel_rfl

def code107 : MF := ⟨14, [(3, none)], (.seq (.ops false [⟨some 2,none,.box (.tmp 0)⟩,⟨some 3,none,.mov (.cst (.bool false))⟩])
 (.seq (.ops true [⟨some 4,none,.load (some 9) (.tmp 1)⟩,⟨some 5,none,.fad (.tmp 2) 0⟩,⟨some 6,none,.load none (.tmp 5)⟩,⟨some 7,none,.fad (.tmp 2) 1⟩,⟨some 8,none,.load none (.tmp 7)⟩,⟨some 9,none,.bld [(I 0),(I 0)] [(0, 1, (.tmp 6)), (1, 1, (.tmp 8))]⟩,⟨some 10,none,.call (.cst (.fn (.func 72) [] [])) [(.tmp 4), (.tmp 9)]⟩,⟨some 11,none,.fad (.tmp 2) 2⟩,⟨some 12,none,.load none (.tmp 11)⟩,⟨some 13,none,.beq true (.tmp 10) (.tmp 12)⟩,⟨some 3,none,.mov (.tmp 13)⟩])
 .ret))⟩
theorem comp107 : compF Cv 107 = some code107 := by kernel_rfl

def code111 : MF := ⟨15, [(6, none)], (.seq (.ops false [⟨some 6,none,.mov (.cst (I 0))⟩])
 (.seq (.ops false [⟨some 7,none,.mov (.tmp 0)⟩,⟨some 8,none,.mov (.tmp 1)⟩,⟨some 9,none,.bin .sub (.tmp 8) (.cst (I 1))⟩,⟨some 10,none,.mov (.tmp 1)⟩,⟨some 11,none,.mov (.tmp 1)⟩,⟨some 12,none,.bin .add (.tmp 11) (.cst (I 1))⟩,⟨some 13,none,.mov (.tmp 2)⟩,⟨some 14,none,.call (.cst (.fn (.func 112) [] [])) [(.tmp 7), (.tmp 9), (.tmp 10), (.tmp 12), (.tmp 13)]⟩,⟨some 6,none,.mov (.tmp 14)⟩])
 .ret))⟩
theorem comp111 : compF Cv 111 = some code111 := by kernel_rfl

def code112 : MF := ⟨36, [(10, none)], (.seq (.ops false [⟨some 10,none,.mov (.cst (I 0))⟩])
 (.seq (.ops false [⟨some 12,none,.mov (.tmp 0)⟩,⟨some 13,none,.mov (.tmp 1)⟩,⟨some 14,none,.mov (.tmp 2)⟩,⟨some 15,none,.mov (.tmp 4)⟩,⟨some 16,none,.call (.cst (.fn (.func 115) [] [])) [(.tmp 12), (.tmp 13), (.tmp 14), (.tmp 15)]⟩,⟨some 11,none,.mov (.tmp 16)⟩,⟨some 17,none,.ext (.tmp 11) 0⟩,⟨some 18,none,.ext (.tmp 11) 1⟩,⟨some 1,none,.mov (.tmp 17)⟩,⟨some 2,none,.mov (.tmp 18)⟩])
 (.seq (.ops false [⟨some 20,none,.mov (.tmp 0)⟩,⟨some 21,none,.mov (.tmp 2)⟩,⟨some 22,none,.mov (.tmp 3)⟩,⟨some 23,none,.mov (.tmp 4)⟩,⟨some 24,none,.call (.cst (.fn (.func 115) [] [])) [(.tmp 20), (.tmp 21), (.tmp 22), (.tmp 23)]⟩,⟨some 19,none,.mov (.tmp 24)⟩,⟨some 25,none,.ext (.tmp 19) 0⟩,⟨some 26,none,.ext (.tmp 19) 1⟩,⟨some 2,none,.mov (.tmp 25)⟩,⟨some 3,none,.mov (.tmp 26)⟩])
 (.seq (.ops false [⟨some 28,none,.mov (.tmp 0)⟩,⟨some 29,none,.mov (.tmp 1)⟩,⟨some 30,none,.mov (.tmp 2)⟩,⟨some 31,none,.mov (.tmp 4)⟩,⟨some 32,none,.call (.cst (.fn (.func 115) [] [])) [(.tmp 28), (.tmp 29), (.tmp 30), (.tmp 31)]⟩,⟨some 27,none,.mov (.tmp 32)⟩,⟨some 33,none,.ext (.tmp 27) 0⟩,⟨some 34,none,.ext (.tmp 27) 1⟩,⟨some 1,none,.mov (.tmp 33)⟩,⟨some 2,none,.mov (.tmp 34)⟩])
 (.seq (.ops false [⟨some 35,none,.mov (.tmp 2)⟩,⟨some 10,none,.mov (.tmp 35)⟩])
 .ret)))))⟩
theorem comp112 : compF Cv 112 = some code112 := by kernel_rfl

def code113 : MF := ⟨6, [(2, none)], (.seq (.ops false [⟨some 2,none,.mov (.cst (.bool false))⟩])
 (.seq (.ops false [⟨some 3,none,.mov (.tmp 0)⟩,⟨some 4,none,.mov (.tmp 0)⟩,⟨some 5,none,.bin .neq (.tmp 3) (.tmp 4)⟩,⟨some 2,none,.mov (.tmp 5)⟩])
 .ret))⟩
theorem comp113 : compF Cv 113 = some code113 := by kernel_rfl

def body114_0 : MC := (.seq (.ops false [⟨some 9,none,.bin .lss (.tmp 8) (.tmp 7)⟩])
 (.seq (.cond (.tmp 9) .skip (.exit 0))
 (.seq (.block 1 (.seq (.ops false [⟨some 10,none,.mov (.tmp 8)⟩,⟨some 5,none,.mov (.tmp 10)⟩])
 (.seq (.ops false [⟨some 11,none,.mov (.tmp 1)⟩,⟨some 12,none,.mov (.tmp 0)⟩,⟨some 13,none,.mov (.tmp 5)⟩,⟨some 14,none,.ixs 3 (.tmp 12) (.tmp 13)⟩,⟨some 15,none,.load (some 3) (.tmp 14)⟩,⟨some 16,none,.call (.tmp 11) [(.tmp 15)]⟩])
 (.cond (.tmp 16) (.seq (.ops false [⟨some 17,none,.mov (.tmp 5)⟩,⟨some 4,none,.mov (.tmp 17)⟩])
 .ret) .skip))))
 (.ops false [⟨some 18,none,.bin .add (.tmp 8) (.cst (I 1))⟩,⟨some 8,none,.mov (.tmp 18)⟩]))))
def keep114_0 : Option (List Nat) := some [0, 1, 7, 8]
def code114 : MF := ⟨19, [(4, none)], (.seq (.ops false [⟨some 4,none,.mov (.cst (I 0))⟩])
 (.seq (.seq (.ops false [⟨some 6,none,.mov (.tmp 0)⟩,⟨some 7,none,.len (.tmp 6)⟩,⟨some 8,none,.mov (.cst (I 0))⟩])
 (.block 0 (.loop keep114_0 body114_0)))
 (.seq (.ops false [⟨some 4,none,.mov (.cst (I (-1)))⟩])
 .ret)))⟩
theorem comp114 : compF Cv 114 = some code114 := by kernel_rfl

def code115 : MF := ⟨28, [(8, none), (9, none)], (.seq (.ops false [⟨some 8,none,.mov (.cst (I 0))⟩,⟨some 9,none,.mov (.cst (I 0))⟩])
 (.seq (.seq (.ops false [⟨some 10,none,.mov (.tmp 0)⟩,⟨some 11,none,.mov (.tmp 2)⟩,⟨some 12,none,.ixs 1 (.tmp 10) (.tmp 11)⟩,⟨some 13,none,.load none (.tmp 12)⟩,⟨some 14,none,.mov (.tmp 0)⟩,⟨some 15,none,.mov (.tmp 1)⟩,⟨some 16,none,.ixs 1 (.tmp 14) (.tmp 15)⟩,⟨some 17,none,.load none (.tmp 16)⟩,⟨some 18,none,.call (.cst (.fn (.func 100) [] [])) [(.tmp 13), (.tmp 17)]⟩])
 (.cond (.tmp 18) (.seq (.ops false [⟨some 19,none,.mov (.tmp 3)⟩,⟨some 20,none,.nck (.tmp 19)⟩,⟨some 21,none,.load none (.tmp 20)⟩,⟨some 22,none,.bin .add (.tmp 21) (.cst (I 1))⟩,⟨some 23,none,.nck (.tmp 19)⟩,⟨none,none,.store 1 (.tmp 23) (.tmp 22)⟩])
 (.seq (.ops false [⟨some 24,none,.mov (.tmp 2)⟩,⟨some 25,none,.mov (.tmp 1)⟩,⟨some 8,none,.mov (.tmp 24)⟩,⟨some 9,none,.mov (.tmp 25)⟩])
 .ret)) .skip))
 (.seq (.ops false [⟨some 26,none,.mov (.tmp 1)⟩,⟨some 27,none,.mov (.tmp 2)⟩,⟨some 8,none,.mov (.tmp 26)⟩,⟨some 9,none,.mov (.tmp 27)⟩])
 .ret)))⟩
theorem comp115 : compF Cv 115 = some code115 := by kernel_rfl

def code131 : MF := ⟨8, [(2, none)], (.seq (.ops false [⟨some 1,none,.box (.tmp 0)⟩,⟨some 2,none,.mov (.cst (.bool false))⟩])
 (.seq (.ops false [⟨some 3,none,.fad (.tmp 1) 0⟩,⟨some 4,none,.load none (.tmp 3)⟩,⟨some 5,none,.fad (.tmp 1) 1⟩,⟨some 6,none,.load none (.tmp 5)⟩,⟨some 7,none,.bin .eql (.tmp 4) (.tmp 6)⟩,⟨some 2,none,.mov (.tmp 7)⟩])
 .ret))⟩
theorem comp131 : compF Cv 131 = some code131 := by kernel_rfl

def code133 : MF := ⟨6, [(2, none)], (.seq (.ops false [⟨some 1,none,.box (.tmp 0)⟩,⟨some 2,none,.mov (.cst (.bool false))⟩])
 (.seq (.ops false [⟨some 3,none,.fad (.tmp 1) 0⟩,⟨some 4,none,.load none (.tmp 3)⟩,⟨some 5,none,.bin .gtr (.tmp 4) (.cst (I 0))⟩,⟨some 2,none,.mov (.tmp 5)⟩])
 .ret))⟩
theorem comp133 : compF Cv 133 = some code133 := by kernel_rfl
@[simp] theorem imp_Cv {f : Nat} : Cv.imp f = (f == 58 || f == 61 || f == 75 || f == 83 || f == 92 || f == 105) := rfl
end Go.Ai
