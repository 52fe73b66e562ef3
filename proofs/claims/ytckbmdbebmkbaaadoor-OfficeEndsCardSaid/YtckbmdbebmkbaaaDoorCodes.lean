/- This text shows the codes of functions of the program, each by the kernel. No conditions of its own. -/
import Derived.Test.YtckbmdbebmkbaaaDoorSimp
import Derived.Test.YtckbmdbebmkbaaaDoorProg
import Derived.KernelRfl
set_option linter.unusedSimpArgs false
set_option linter.unusedVariables false
set_option maxRecDepth 100000
namespace Go.Ai
def keeps : List ((Nat × Nat) × List Nat) := [((3, 11), [2, 3, 5, 6, 7, 11]),
  ((3, 24), [2, 16, 17, 19]),
  ((4, 23), [3, 5, 7, 8, 18, 19, 20, 21, 26]),
  ((4, 28), [3, 5, 7, 8, 20, 21, 27]),
  ((6, 7), [2, 5, 6, 7, 8]),
  ((6, 17), [2, 5, 6, 7, 9, 15]),
  ((8, 18), [1, 3, 11]),
  ((9, 7), [2, 5, 6, 7, 8]),
  ((11, 13), [1, 2]),
  ((11, 45), [49, 50, 51, 52, 53]),
  ((12, 3), [1, 3, 4]),
  ((12, 7), [1, 3, 5]),
  ((18, 2), [0, 1, 5]),
  ((21, 2), [0, 1, 5]),
  ((22, 3), [0, 1, 5, 6]),
  ((26, 7), [5, 18, 19]),
  ((33, 6), [6, 7, 26, 27, 28]),
  ((33, 9), [6, 7, 26, 27, 28, 34, 35, 36]),
  ((36, 2), [0, 1, 5]),
  ((37, 3), [0, 1, 5, 6]),
  ((38, 4), [1, 2, 4, 5, 6]),
  ((43, 3), [1, 3, 34, 35, 36]),
  ((43, 9), [1, 3, 72, 73]),
  ((43, 13), [1, 3, 72, 73, 84, 85, 86]),
  ((43, 19), [1, 3, 109, 110, 111]),
  ((48, 3), [3, 5, 9, 10, 11]),
  ((53, 4), [1, 4, 5, 14, 15, 16]),
  ((57, 8), [0, 1, 2, 3, 8, 10]),
  ((59, 3), [1, 5, 6, 10, 11, 12]),
  ((64, 2), [0, 1, 9, 10, 11]),
  ((66, 2), [0, 1, 5]),
  ((70, 4), [0, 3]),
  ((70, 9), [0, 3, 4, 5]),
  ((71, 2), [0, 1, 7, 8]),
  ((74, 5), [0, 1, 5, 6]),
  ((77, 2), [0, 7, 8, 9]),
  ((78, 5), [0, 3, 4]),
  ((79, 2), [2, 3, 4, 9, 10]),
  ((80, 2), [0, 1, 7, 8]),
  ((83, 2), [0, 1, 2, 3, 8, 9]),
  ((85, 2), [0, 1, 7, 8]),
  ((88, 4), [2, 3, 4, 6, 9, 25]),
  ((88, 13), [1, 2, 5, 6, 11, 63, 64]),
  ((89, 3), [1, 2, 3, 6, 7, 21, 22]),
  ((89, 7), [1, 2, 3, 6, 7, 8, 9, 21, 22, 29, 30]),
  ((89, 22), [1, 2, 3, 6, 7, 8, 9, 21, 22, 109, 110]),
  ((90, 2), [0, 1, 7, 8]),
  ((92, 1), [0, 1, 2, 6]),
  ((92, 4), [0, 1, 2, 6, 7]),
  ((93, 4), [0, 6, 7, 8, 9]),
  ((93, 8), [0, 6, 7, 10]),
  ((94, 5), [0, 1, 6, 7, 8, 9]),
  ((96, 2), [0, 6, 7]),
  ((97, 3), [0, 1, 2, 7, 8]),
  ((97, 5), [0, 1, 2, 7, 8]),
  ((97, 14), [0, 1, 2, 7, 8, 9]),
  ((97, 20), [0, 1, 2, 7, 8, 10]),
  ((99, 3), [0, 1, 9, 10]),
  ((99, 3), [0, 1, 9, 10]),
  ((99, 5), [0, 1, 9, 10]),
  ((100, 3), [0, 1, 10, 11]),
  ((100, 5), [0, 1, 10, 11]),
  ((100, 13), [0, 1, 10, 11]),
  ((100, 13), [0, 1, 10, 11]),
  ((100, 15), [0, 1, 10, 11]),
  ((106, 1), [0, 2, 3, 8]),
  ((111, 2), [0, 1, 7, 8])]
def keepOf (f i : Nat) : Option (List Nat) := keeps.lookup (f, i)

noncomputable def Cv : Cfg := { P := Go.Proofs.Tryd.prog, glob := fun g => if g = 0 then some [I (-1), I (-1)] else if g = 1 then some [I (-1), I (-1), I (-1), I (-1)] else if g = 2 then some [.fn (.func 130) [] [], .fn (.func 128) [] [], .fn (.func 105) [] []] else none, wsite := fun f t => (f == 3 && t == 174) || (f == 6 && t == 43) || (f == 9 && t == 33) || (f == 48 && t == 21) || (f == 75 && t == 7), msite := fun f t => f == 53 && t == 40, srt := fun f => f == 69, imp := fun f => f == 48 || f == 55 || f == 57 || f == 69 || f == 70 || f == 73 || f == 74 || f == 75 || f == 86 || f == 88 || f == 89, keep := keepOf }

def body12_0 : MC := (.seq (.seq (.ops false [⟨some 32,none,.mov (.tmp 3)⟩,⟨some 33,none,.mov (.tmp 32)⟩,⟨some 34,some ((some 33), true),.mov (.tmp 4)⟩,⟨some 35,some ((some 33), true),.fad (.tmp 1) 2⟩,⟨some 36,some ((some 33), true),.load none (.tmp 35)⟩,⟨some 37,some ((some 33), true),.len (.tmp 36)⟩,⟨some 38,some ((some 33), true),.bin .lss (.tmp 34) (.tmp 37)⟩,⟨some 39,none,.pick (.tmp 33) (.tmp 38) (.cst (.bool false))⟩])
 (.cond (.tmp 39) .skip (.exit 0)))
 (.seq (.block 1 (.ops false [⟨some 42,none,.fad (.tmp 1) 2⟩,⟨some 43,none,.load none (.tmp 42)⟩,⟨some 44,none,.mov (.tmp 4)⟩,⟨some 45,none,.ixs 3 (.tmp 43) (.tmp 44)⟩,⟨some 46,none,.fad (.tmp 45) 0⟩,⟨some 47,none,.load (some 2) (.tmp 46)⟩,⟨some 48,none,.fad (.tmp 1) 0⟩,⟨some 49,none,.load none (.tmp 48)⟩,⟨some 50,none,.bin .sub (.tmp 49) (.cst (I 1))⟩,⟨some 51,none,.call (.cst (.fn (.func 31) [] [])) [(.tmp 47), (.cst (I 0)), (.tmp 50), (.cst (I 3))]⟩,⟨some 3,none,.mov (.tmp 51)⟩]))
 (.ops false [⟨some 40,none,.mov (.tmp 4)⟩,⟨some 41,none,.bin .add (.tmp 40) (.cst (I 1))⟩,⟨some 4,none,.mov (.tmp 41)⟩])))
def keep12_0 : Option (List Nat) := some [1, 3, 4]
def body12_1 : MC := (.seq (.seq (.ops false [⟨some 52,none,.mov (.tmp 3)⟩,⟨some 53,none,.mov (.tmp 52)⟩,⟨some 54,some ((some 53), true),.mov (.tmp 5)⟩,⟨some 55,some ((some 53), true),.fad (.tmp 1) 7⟩,⟨some 56,some ((some 53), true),.load none (.tmp 55)⟩,⟨some 57,some ((some 53), true),.len (.tmp 56)⟩,⟨some 58,some ((some 53), true),.bin .lss (.tmp 54) (.tmp 57)⟩,⟨some 59,none,.pick (.tmp 53) (.tmp 58) (.cst (.bool false))⟩])
 (.cond (.tmp 59) .skip (.exit 2)))
 (.seq (.block 3 (.seq (.ops false [⟨some 62,none,.fad (.tmp 1) 7⟩,⟨some 63,none,.load none (.tmp 62)⟩,⟨some 64,none,.mov (.tmp 5)⟩,⟨some 65,none,.ixs 3 (.tmp 63) (.tmp 64)⟩,⟨some 66,none,.load (some 3) (.tmp 65)⟩,⟨some 6,none,.alloc [(I 0),(I 0),(I 0)]⟩,⟨none,none,.store 3 (.tmp 6) (.tmp 66)⟩])
 (.ops false [⟨some 67,none,.fad (.tmp 6) 0⟩,⟨some 68,none,.load none (.tmp 67)⟩,⟨some 69,none,.call (.cst (.fn (.func 34) [] [])) [(.tmp 68), (.cst (I 0)), (.cst (I 1))]⟩,⟨some 70,none,.mov (.tmp 69)⟩,⟨some 71,some ((some 70), true),.fad (.tmp 6) 1⟩,⟨some 72,some ((some 70), true),.load none (.tmp 71)⟩,⟨some 73,some ((some 70), true),.fad (.tmp 1) 0⟩,⟨some 74,some ((some 70), true),.load none (.tmp 73)⟩,⟨some 75,some ((some 70), true),.bin .sub (.tmp 74) (.cst (I 1))⟩,⟨some 76,some ((some 70), true),.call (.cst (.fn (.func 34) [] [])) [(.tmp 72), (.cst (I 0)), (.tmp 75)]⟩,⟨some 77,none,.pick (.tmp 70) (.tmp 76) (.cst (.bool false))⟩,⟨some 3,none,.mov (.tmp 77)⟩])))
 (.ops false [⟨some 60,none,.mov (.tmp 5)⟩,⟨some 61,none,.bin .add (.tmp 60) (.cst (I 1))⟩,⟨some 5,none,.mov (.tmp 61)⟩])))
def keep12_1 : Option (List Nat) := some [1, 3, 5]
def code12 : MF := ⟨79, [(2, none)], (.seq (.ops false [⟨some 1,none,.box (.tmp 0)⟩,⟨some 2,none,.mov (.cst (.bool false))⟩])
 (.seq (.ops false [⟨some 7,none,.load (some 8) (.tmp 1)⟩,⟨some 8,none,.call (.cst (.fn (.func 43) [] [])) [(.tmp 7)]⟩,⟨some 9,none,.bin .eql (.tmp 8) (.cst (I 0))⟩,⟨some 10,none,.mov (.tmp 9)⟩,⟨some 11,some ((some 10), true),.fad (.tmp 1) 0⟩,⟨some 12,some ((some 10), true),.load none (.tmp 11)⟩,⟨some 13,some ((some 10), true),.call (.cst (.fn (.func 34) [] [])) [(.tmp 12), (.cst (I 1)), (.cst (I 6))]⟩,⟨some 14,none,.pick (.tmp 10) (.tmp 13) (.cst (.bool false))⟩,⟨some 15,none,.mov (.tmp 14)⟩,⟨some 16,some ((some 15), true),.fad (.tmp 1) 1⟩,⟨some 17,some ((some 15), true),.load none (.tmp 16)⟩,⟨some 18,some ((some 15), true),.call (.cst (.fn (.func 34) [] [])) [(.tmp 17), (.cst (I 0)), (.cst (I 29))]⟩,⟨some 19,none,.pick (.tmp 15) (.tmp 18) (.cst (.bool false))⟩,⟨some 20,none,.mov (.tmp 19)⟩,⟨some 21,some ((some 20), true),.fad (.tmp 1) 2⟩,⟨some 22,some ((some 20), true),.load none (.tmp 21)⟩,⟨some 23,some ((some 20), true),.len (.tmp 22)⟩,⟨some 24,some ((some 20), true),.bin .leq (.tmp 23) (.cst (I 4))⟩,⟨some 25,none,.pick (.tmp 20) (.tmp 24) (.cst (.bool false))⟩,⟨some 26,none,.mov (.tmp 25)⟩,⟨some 27,some ((some 26), true),.fad (.tmp 1) 7⟩,⟨some 28,some ((some 26), true),.load none (.tmp 27)⟩,⟨some 29,some ((some 26), true),.len (.tmp 28)⟩,⟨some 30,some ((some 26), true),.bin .leq (.tmp 29) (.cst (I 4))⟩,⟨some 31,none,.pick (.tmp 26) (.tmp 30) (.cst (.bool false))⟩,⟨some 3,none,.mov (.tmp 31)⟩])
 (.seq (.seq (.ops false [⟨some 4,none,.mov (.cst (I 0))⟩])
 (.block 0 (.loop keep12_0 body12_0)))
 (.seq (.seq (.ops false [⟨some 5,none,.mov (.cst (I 0))⟩])
 (.block 2 (.loop keep12_1 body12_1)))
 (.seq (.ops false [⟨some 78,none,.mov (.tmp 3)⟩,⟨some 2,none,.mov (.tmp 78)⟩])
 .ret)))))⟩
theorem comp12 : compF Cv 12 = some code12 := by kernel_rfl

def code13 : MF := ⟨160, [(0, none)], (.seq (.ops false [⟨some 0,none,.mov (.cst (.bool false))⟩])
 (.seq (.ops false [⟨some 19,none,.call (.cst (.fn (.func 45) [] [])) []⟩,⟨some 20,none,.call (.cst (.fn (.func 23) [] [])) [(.tmp 19), (.cst (I 0))]⟩,⟨some 18,none,.mov (.tmp 20)⟩,⟨some 21,none,.ext (.tmp 18) 0⟩,⟨some 22,none,.ext (.tmp 18) 1⟩,⟨some 1,none,.alloc [(I 0),(I 0)]⟩,⟨none,none,.store 2 (.tmp 1) (.tmp 21)⟩,⟨some 2,none,.mov (.tmp 22)⟩])
 (.seq (.ops false [⟨some 24,none,.call (.cst (.fn (.func 40) [] [])) []⟩,⟨some 25,none,.call (.cst (.fn (.func 15) [] [])) [(.tmp 24), (.cst (I 0)), (.cst (I 3))]⟩,⟨some 23,none,.mov (.tmp 25)⟩,⟨some 26,none,.ext (.tmp 23) 0⟩,⟨some 27,none,.ext (.tmp 23) 1⟩,⟨some 3,none,.mov (.tmp 26)⟩,⟨some 4,none,.mov (.tmp 27)⟩])
 (.seq (.ops false [⟨some 29,none,.call (.cst (.fn (.func 40) [] [])) []⟩,⟨some 30,none,.call (.cst (.fn (.func 30) [] [])) [(.tmp 29), (.cst (I 0)), (.cst (I 1))]⟩,⟨some 28,none,.mov (.tmp 30)⟩,⟨some 31,none,.ext (.tmp 28) 0⟩,⟨some 32,none,.ext (.tmp 28) 1⟩,⟨some 5,none,.alloc [(I 0),(I 0)]⟩,⟨none,none,.store 2 (.tmp 5) (.tmp 31)⟩,⟨some 6,none,.mov (.tmp 32)⟩])
 (.seq (.ops false [⟨some 34,none,.call (.cst (.fn (.func 40) [] [])) []⟩,⟨some 35,none,.call (.cst (.fn (.func 29) [] [])) [(.tmp 34), (.cst (I 0)), (.cst (I 1))]⟩,⟨some 33,none,.mov (.tmp 35)⟩,⟨some 36,none,.ext (.tmp 33) 0⟩,⟨some 37,none,.ext (.tmp 33) 1⟩,⟨some 7,none,.mov (.tmp 36)⟩,⟨some 8,none,.mov (.tmp 37)⟩])
 (.seq (.ops false [⟨some 39,none,.call (.cst (.fn (.func 40) [] [])) []⟩,⟨some 40,none,.call (.cst (.fn (.func 27) [] [])) [(.tmp 39), (.cst (I 1)), (.cst (I 3))]⟩,⟨some 38,none,.mov (.tmp 40)⟩,⟨some 41,none,.ext (.tmp 38) 0⟩,⟨some 42,none,.ext (.tmp 38) 1⟩,⟨some 9,none,.mov (.tmp 41)⟩,⟨some 10,none,.mov (.tmp 42)⟩])
 (.seq (.seq (.ops true [⟨some 43,none,.mov (.tmp 2)⟩,⟨some 44,none,.bin .neq (.tmp 43) (.cst (I 0))⟩,⟨some 45,none,.mov (.tmp 44)⟩,⟨some 46,some ((some 45), false),.mov (.tmp 4)⟩,⟨some 47,some ((some 45), false),.bin .neq (.tmp 46) (.cst (I 0))⟩,⟨some 48,none,.pick (.tmp 45) (.cst (.bool true)) (.tmp 47)⟩,⟨some 49,none,.mov (.tmp 48)⟩,⟨some 50,some ((some 49), false),.mov (.tmp 6)⟩,⟨some 51,some ((some 49), false),.bin .neq (.tmp 50) (.cst (I 0))⟩,⟨some 52,none,.pick (.tmp 49) (.cst (.bool true)) (.tmp 51)⟩,⟨some 53,none,.mov (.tmp 52)⟩,⟨some 54,some ((some 53), false),.mov (.tmp 8)⟩,⟨some 55,some ((some 53), false),.bin .neq (.tmp 54) (.cst (I 0))⟩,⟨some 56,none,.pick (.tmp 53) (.cst (.bool true)) (.tmp 55)⟩,⟨some 57,none,.mov (.tmp 56)⟩,⟨some 58,some ((some 57), false),.mov (.tmp 10)⟩,⟨some 59,some ((some 57), false),.bin .neq (.tmp 58) (.cst (I 0))⟩,⟨some 60,none,.pick (.tmp 57) (.cst (.bool true)) (.tmp 59)⟩,⟨some 61,none,.mov (.tmp 60)⟩,⟨some 62,some ((some 61), false),.load (some 2) (.tmp 1)⟩,⟨some 63,some ((some 61), false),.call (.cst (.fn (.func 25) [] [])) [(.cst (I 2))]⟩,⟨some 64,some ((some 61), false),.eqa 2 true (.tmp 62) (.tmp 63)⟩,⟨some 65,none,.pick (.tmp 61) (.cst (.bool true)) (.tmp 64)⟩,⟨some 66,none,.mov (.tmp 65)⟩,⟨some 67,some ((some 66), false),.mov (.tmp 3)⟩,⟨some 68,some ((some 66), false),.bsl 1 false (I 0) 2 [(0, (.cst (I (-1)))), (1, (.cst (I 2)))]⟩,⟨some 69,some ((some 66), false),.call (.cst (.fn (.func 22) [] [])) [(.tmp 67), (.tmp 68)]⟩,⟨some 70,some ((some 66), false),.lnot (.tmp 69)⟩,⟨some 71,none,.pick (.tmp 66) (.cst (.bool true)) (.tmp 70)⟩,⟨some 72,none,.mov (.tmp 71)⟩,⟨some 73,some ((some 72), false),.load (some 2) (.tmp 5)⟩,⟨some 74,some ((some 72), false),.call (.cst (.fn (.func 42) [] [])) [(.cst (I 1)), (.cst (I 2))]⟩,⟨some 75,some ((some 72), false),.eqa 2 true (.tmp 73) (.tmp 74)⟩,⟨some 76,none,.pick (.tmp 72) (.cst (.bool true)) (.tmp 75)⟩,⟨some 77,none,.mov (.tmp 76)⟩,⟨some 78,some ((some 77), false),.mov (.tmp 7)⟩,⟨some 79,some ((some 77), false),.bin .neq (.tmp 78) (.cst (I 2))⟩,⟨some 80,none,.pick (.tmp 77) (.cst (.bool true)) (.tmp 79)⟩,⟨some 81,none,.mov (.tmp 80)⟩,⟨some 82,some ((some 81), false),.mov (.tmp 9)⟩,⟨some 83,some ((some 81), false),.bsl 1 false (I 0) 1 [(0, (.cst (I 29)))]⟩,⟨some 84,some ((some 81), false),.call (.cst (.fn (.func 22) [] [])) [(.tmp 82), (.tmp 83)]⟩,⟨some 85,some ((some 81), false),.lnot (.tmp 84)⟩,⟨some 86,none,.pick (.tmp 81) (.cst (.bool true)) (.tmp 85)⟩])
 (.cond (.tmp 86) (.seq (.ops false [⟨some 0,none,.mov (.cst (.bool false))⟩])
 .ret) .skip))
 (.seq (.ops false [⟨some 88,none,.call (.cst (.fn (.func 40) [] [])) []⟩,⟨some 89,none,.call (.cst (.fn (.func 28) [] [])) [(.tmp 88), (.cst (I 1))]⟩,⟨some 87,none,.mov (.tmp 89)⟩,⟨some 90,none,.ext (.tmp 87) 0⟩,⟨some 91,none,.ext (.tmp 87) 1⟩,⟨some 11,none,.mov (.tmp 90)⟩,⟨some 2,none,.mov (.tmp 91)⟩])
 (.seq (.ops false [⟨some 93,none,.call (.cst (.fn (.func 40) [] [])) []⟩,⟨some 94,none,.call (.cst (.fn (.func 33) [] [])) [(.tmp 93)]⟩,⟨some 92,none,.mov (.tmp 94)⟩,⟨some 95,none,.ext (.tmp 92) 0⟩,⟨some 96,none,.ext (.tmp 92) 1⟩,⟨some 97,none,.ext (.tmp 92) 2⟩,⟨some 98,none,.ext (.tmp 92) 3⟩,⟨some 12,none,.mov (.tmp 95)⟩,⟨some 13,none,.mov (.tmp 96)⟩,⟨some 14,none,.mov (.tmp 97)⟩,⟨some 4,none,.mov (.tmp 98)⟩])
 (.seq (.ops false [⟨some 100,none,.call (.cst (.fn (.func 40) [] [])) []⟩,⟨some 101,none,.call (.cst (.fn (.func 17) [] [])) [(.cst (I 1)), (.cst (I 2)), (.cst (I 2))]⟩,⟨some 102,none,.call (.cst (.fn (.func 16) [] [])) [(.tmp 100), (.tmp 101)]⟩,⟨some 99,none,.mov (.tmp 102)⟩,⟨some 103,none,.ext (.tmp 99) 0⟩,⟨some 104,none,.ext (.tmp 99) 1⟩,⟨some 15,none,.mov (.tmp 103)⟩,⟨some 6,none,.mov (.tmp 104)⟩])
 (.seq (.ops false [⟨some 106,none,.call (.cst (.fn (.func 44) [] [])) []⟩,⟨some 107,none,.call (.cst (.fn (.func 26) [] [])) [(.tmp 106)]⟩,⟨some 105,none,.mov (.tmp 107)⟩,⟨some 108,none,.ext (.tmp 105) 0⟩,⟨some 109,none,.ext (.tmp 105) 1⟩,⟨some 16,none,.mov (.tmp 108)⟩,⟨some 8,none,.mov (.tmp 109)⟩])
 (.seq (.ops false [⟨some 111,none,.call (.cst (.fn (.func 40) [] [])) []⟩,⟨some 112,none,.call (.cst (.fn (.func 19) [] [])) [(.tmp 111)]⟩,⟨some 110,none,.mov (.tmp 112)⟩,⟨some 113,none,.ext (.tmp 110) 0⟩,⟨some 114,none,.ext (.tmp 110) 1⟩,⟨some 17,none,.mov (.tmp 113)⟩,⟨some 10,none,.mov (.tmp 114)⟩])
 (.seq (.ops false [⟨some 115,none,.mov (.tmp 2)⟩,⟨some 116,none,.bin .eql (.tmp 115) (.cst (I 0))⟩,⟨some 117,none,.mov (.tmp 116)⟩,⟨some 118,some ((some 117), true),.mov (.tmp 4)⟩,⟨some 119,some ((some 117), true),.bin .eql (.tmp 118) (.cst (I 0))⟩,⟨some 120,none,.pick (.tmp 117) (.tmp 119) (.cst (.bool false))⟩,⟨some 121,none,.mov (.tmp 120)⟩,⟨some 122,some ((some 121), true),.mov (.tmp 6)⟩,⟨some 123,some ((some 121), true),.bin .eql (.tmp 122) (.cst (I 0))⟩,⟨some 124,none,.pick (.tmp 121) (.tmp 123) (.cst (.bool false))⟩,⟨some 125,none,.mov (.tmp 124)⟩,⟨some 126,some ((some 125), true),.mov (.tmp 8)⟩,⟨some 127,some ((some 125), true),.bin .eql (.tmp 126) (.cst (I 0))⟩,⟨some 128,none,.pick (.tmp 125) (.tmp 127) (.cst (.bool false))⟩,⟨some 129,none,.mov (.tmp 128)⟩,⟨some 130,some ((some 129), true),.mov (.tmp 10)⟩,⟨some 131,some ((some 129), true),.bin .eql (.tmp 130) (.cst (I 0))⟩,⟨some 132,none,.pick (.tmp 129) (.tmp 131) (.cst (.bool false))⟩,⟨some 133,none,.mov (.tmp 132)⟩,⟨some 134,some ((some 133), true),.mov (.tmp 11)⟩,⟨some 135,some ((some 133), true),.bin .eql (.tmp 134) (.cst (I 1))⟩,⟨some 136,none,.pick (.tmp 133) (.tmp 135) (.cst (.bool false))⟩,⟨some 137,none,.mov (.tmp 136)⟩,⟨some 138,some ((some 137), true),.mov (.tmp 12)⟩,⟨some 139,some ((some 137), true),.bin .eql (.tmp 138) (.cst (I 1))⟩,⟨some 140,none,.pick (.tmp 137) (.tmp 139) (.cst (.bool false))⟩,⟨some 141,none,.mov (.tmp 140)⟩,⟨some 142,some ((some 141), true),.mov (.tmp 13)⟩,⟨some 143,some ((some 141), true),.bin .eql (.tmp 142) (.cst (I 0))⟩,⟨some 144,none,.pick (.tmp 141) (.tmp 143) (.cst (.bool false))⟩,⟨some 145,none,.mov (.tmp 144)⟩,⟨some 146,some ((some 145), true),.mov (.tmp 14)⟩,⟨some 147,some ((some 145), true),.bin .eql (.tmp 146) (.cst (I 0))⟩,⟨some 148,none,.pick (.tmp 145) (.tmp 147) (.cst (.bool false))⟩,⟨some 149,none,.mov (.tmp 148)⟩,⟨some 150,some ((some 149), true),.mov (.tmp 15)⟩,⟨some 151,none,.pick (.tmp 149) (.tmp 150) (.cst (.bool false))⟩,⟨some 152,none,.mov (.tmp 151)⟩,⟨some 153,some ((some 152), true),.mov (.tmp 16)⟩,⟨some 154,some ((some 152), true),.bsl 1 false (I 0) 1 [(0, (.cst (I 0)))]⟩,⟨some 155,some ((some 152), true),.call (.cst (.fn (.func 22) [] [])) [(.tmp 153), (.tmp 154)]⟩,⟨some 156,none,.pick (.tmp 152) (.tmp 155) (.cst (.bool false))⟩,⟨some 157,none,.mov (.tmp 156)⟩,⟨some 158,some ((some 157), true),.mov (.tmp 17)⟩,⟨some 159,none,.pick (.tmp 157) (.tmp 158) (.cst (.bool false))⟩,⟨some 0,none,.mov (.tmp 159)⟩])
 .ret)))))))))))))⟩
theorem comp13 : compF Cv 13 = some code13 := by kernel_rfl

def code14 : MF := ⟨17, [(4, none)], (.seq (.ops false [⟨some 4,none,.mov (.cst (I 0))⟩])
 (.seq (.seq (.ops false [⟨some 6,none,.mov (.tmp 1)⟩,⟨some 7,none,.bin .lss (.tmp 6) (.cst (I 1))⟩])
 (.cond (.tmp 7) (.seq (.ops false [⟨some 4,none,.mov (.cst (I 0))⟩])
 .ret) .skip))
 (.seq (.ops false [⟨some 8,none,.mov (.tmp 0)⟩,⟨some 9,none,.mov (.tmp 1)⟩,⟨some 10,none,.bin .rem (.tmp 8) (.tmp 9)⟩,⟨some 5,none,.mov (.tmp 10)⟩])
 (.seq (.seq (.ops false [⟨some 11,none,.mov (.tmp 5)⟩,⟨some 12,none,.bin .lss (.tmp 11) (.cst (I 0))⟩])
 (.cond (.tmp 12) (.ops false [⟨some 13,none,.mov (.tmp 5)⟩,⟨some 14,none,.mov (.tmp 1)⟩,⟨some 15,none,.bin .add (.tmp 13) (.tmp 14)⟩,⟨some 5,none,.mov (.tmp 15)⟩]) .skip))
 (.seq (.ops false [⟨some 16,none,.mov (.tmp 5)⟩,⟨some 4,none,.mov (.tmp 16)⟩])
 .ret)))))⟩
theorem comp14 : compF Cv 14 = some code14 := by kernel_rfl

def code15 : MF := ⟨26, [(6, none), (7, none)], (.seq (.ops false [⟨some 3,none,.box (.tmp 0)⟩,⟨some 4,none,.box (.tmp 1)⟩,⟨some 5,none,.box (.tmp 2)⟩,⟨some 6,none,.mov (.cst .nils)⟩,⟨some 7,none,.mov (.cst (I 0))⟩])
 (.seq (.ops true [⟨some 11,none,.load (some 8) (.tmp 3)⟩,⟨some 12,none,.load (some 8) (.tmp 3)⟩,⟨some 13,none,.load none (.tmp 4)⟩,⟨some 14,none,.load none (.tmp 5)⟩,⟨some 15,none,.call (.cst (.fn (.func 47) [] [])) [(.tmp 12), (.tmp 13), (.tmp 14)]⟩,⟨some 16,none,.call (.cst (.fn (.func 46) [] [])) [(.tmp 11), (.tmp 15)]⟩,⟨some 10,none,.mov (.tmp 16)⟩,⟨some 17,none,.ext (.tmp 10) 0⟩,⟨some 18,none,.ext (.tmp 10) 1⟩,⟨some 8,none,.alloc [(I 0),(I 0), .nils, .nils, (.bool false), .nils, (.bool false), .nils, .nils]⟩,⟨none,none,.store 9 (.tmp 8) (.tmp 17)⟩,⟨some 9,none,.mov (.tmp 18)⟩])
 (.seq (.seq (.ops false [⟨some 19,none,.mov (.tmp 9)⟩,⟨some 20,none,.bin .neq (.tmp 19) (.cst (I 0))⟩])
 (.cond (.tmp 20) (.seq (.ops false [⟨some 21,none,.mov (.tmp 9)⟩,⟨some 6,none,.mov (.cst .nils)⟩,⟨some 7,none,.mov (.tmp 21)⟩])
 .ret) .skip))
 (.seq (.ops false [⟨some 22,none,.load (some 9) (.tmp 8)⟩,⟨some 23,none,.mkf (.func 49) [] [(.tmp 4), (.tmp 5)]⟩,⟨some 24,none,.bld [.nilf] [(0, 1, (.tmp 23))]⟩,⟨some 25,none,.call (.cst (.fn (.func 48) [] [])) [(.tmp 22), (.tmp 24)]⟩,⟨some 6,none,.mov (.tmp 25)⟩,⟨some 7,none,.mov (.cst (I 0))⟩])
 .ret))))⟩
theorem comp15 : compF Cv 15 = some code15 := by kernel_rfl

def code16 : MF := ⟨23, [(4, none), (5, none)], (.seq (.ops false [⟨some 2,none,.box (.tmp 0)⟩,⟨some 3,none,.box (.tmp 1)⟩,⟨some 4,none,.mov (.cst (.bool false))⟩,⟨some 5,none,.mov (.cst (I 0))⟩])
 (.seq (.ops true [⟨some 9,none,.load (some 8) (.tmp 2)⟩,⟨some 10,none,.load (some 8) (.tmp 2)⟩,⟨some 11,none,.load (some 3) (.tmp 3)⟩,⟨some 12,none,.call (.cst (.fn (.func 50) [] [])) [(.tmp 10), (.tmp 11)]⟩,⟨some 13,none,.call (.cst (.fn (.func 46) [] [])) [(.tmp 9), (.tmp 12)]⟩,⟨some 8,none,.mov (.tmp 13)⟩,⟨some 14,none,.ext (.tmp 8) 0⟩,⟨some 15,none,.ext (.tmp 8) 1⟩,⟨some 6,none,.alloc [(I 0),(I 0), .nils, .nils, (.bool false), .nils, (.bool false), .nils, .nils]⟩,⟨none,none,.store 9 (.tmp 6) (.tmp 14)⟩,⟨some 7,none,.mov (.tmp 15)⟩])
 (.seq (.seq (.ops false [⟨some 16,none,.mov (.tmp 7)⟩,⟨some 17,none,.bin .neq (.tmp 16) (.cst (I 0))⟩])
 (.cond (.tmp 17) (.seq (.ops false [⟨some 18,none,.mov (.tmp 7)⟩,⟨some 4,none,.mov (.cst (.bool false))⟩,⟨some 5,none,.mov (.tmp 18)⟩])
 .ret) .skip))
 (.seq (.ops false [⟨some 19,none,.fad (.tmp 6) 8⟩,⟨some 20,none,.load none (.tmp 19)⟩,⟨some 21,none,.mkf (.func 52) [] [(.tmp 3)]⟩,⟨some 22,none,.call (.cst (.fn (.func 51) [] [])) [(.tmp 20), (.tmp 21)]⟩,⟨some 4,none,.mov (.tmp 22)⟩,⟨some 5,none,.mov (.cst (I 0))⟩])
 .ret))))⟩
theorem comp16 : compF Cv 16 = some code16 := by kernel_rfl

def code17 : MF := ⟨11, [(6, some (some 3))], (.seq (.ops false [⟨some 6,none,.alloc [(I 0),(I 0),(I 0)]⟩])
 (.seq (.ops false [⟨some 7,none,.mov (.tmp 0)⟩,⟨some 8,none,.mov (.tmp 1)⟩,⟨some 9,none,.mov (.tmp 2)⟩,⟨some 10,none,.bld [(I 0),(I 0),(I 0)] [(0, 1, (.tmp 7)), (1, 1, (.tmp 8)), (2, 1, (.tmp 9))]⟩,⟨none,none,.store 3 (.tmp 6) (.tmp 10)⟩])
 .ret))⟩
theorem comp17 : compF Cv 17 = some code17 := by kernel_rfl

def body18_0 : MC := (.seq (.seq (.ops false [⟨some 6,none,.mov (.tmp 5)⟩,⟨some 7,none,.mov (.tmp 0)⟩,⟨some 8,none,.len (.tmp 7)⟩,⟨some 9,none,.bin .lss (.tmp 6) (.tmp 8)⟩])
 (.cond (.tmp 9) .skip (.exit 0)))
 (.seq (.block 1 (.seq (.ops false [⟨some 12,none,.mov (.tmp 0)⟩,⟨some 13,none,.mov (.tmp 5)⟩,⟨some 14,none,.ixs 1 (.tmp 12) (.tmp 13)⟩,⟨some 15,none,.load none (.tmp 14)⟩,⟨some 16,none,.mov (.tmp 1)⟩,⟨some 17,none,.bin .sub (.tmp 16) (.cst (I 1))⟩,⟨some 18,none,.call (.cst (.fn (.func 34) [] [])) [(.tmp 15), (.cst (I (-1))), (.tmp 17)]⟩,⟨some 19,none,.lnot (.tmp 18)⟩,⟨some 20,none,.mov (.tmp 19)⟩,⟨some 21,some ((some 20), false),.mov (.tmp 5)⟩,⟨some 22,some ((some 20), false),.bin .gtr (.tmp 21) (.cst (I 0))⟩,⟨some 23,some ((some 20), false),.mov (.tmp 22)⟩,⟨some 24,some ((some 23), true),.mov (.tmp 0)⟩,⟨some 25,some ((some 23), true),.mov (.tmp 5)⟩,⟨some 26,some ((some 23), true),.ixs 1 (.tmp 24) (.tmp 25)⟩,⟨some 27,some ((some 23), true),.load none (.tmp 26)⟩,⟨some 28,some ((some 23), true),.mov (.tmp 0)⟩,⟨some 29,some ((some 23), true),.mov (.tmp 5)⟩,⟨some 30,some ((some 23), true),.bin .sub (.tmp 29) (.cst (I 1))⟩,⟨some 31,some ((some 23), true),.ixs 1 (.tmp 28) (.tmp 30)⟩,⟨some 32,some ((some 23), true),.load none (.tmp 31)⟩,⟨some 33,some ((some 23), true),.bin .leq (.tmp 27) (.tmp 32)⟩,⟨some 34,some ((some 20), false),.pick (.tmp 23) (.tmp 33) (.cst (.bool false))⟩,⟨some 35,none,.pick (.tmp 20) (.cst (.bool true)) (.tmp 34)⟩])
 (.cond (.tmp 35) (.seq (.ops false [⟨some 4,none,.mov (.cst (.bool false))⟩])
 .ret) .skip)))
 (.ops false [⟨some 10,none,.mov (.tmp 5)⟩,⟨some 11,none,.bin .add (.tmp 10) (.cst (I 1))⟩,⟨some 5,none,.mov (.tmp 11)⟩])))
def keep18_0 : Option (List Nat) := some [0, 1, 5]
def code18 : MF := ⟨39, [(4, none)], (.seq (.ops false [⟨some 4,none,.mov (.cst (.bool false))⟩])
 (.seq (.seq (.ops false [⟨some 5,none,.mov (.cst (I 0))⟩])
 (.block 0 (.loop keep18_0 body18_0)))
 (.seq (.ops false [⟨some 36,none,.mov (.tmp 0)⟩,⟨some 37,none,.len (.tmp 36)⟩,⟨some 38,none,.bin .gtr (.tmp 37) (.cst (I 0))⟩,⟨some 4,none,.mov (.tmp 38)⟩])
 .ret)))⟩
theorem comp18 : compF Cv 18 = some code18 := by kernel_rfl

def code19 : MF := ⟨15, [(2, none), (3, none)], (.seq (.ops false [⟨some 1,none,.box (.tmp 0)⟩,⟨some 2,none,.mov (.cst (.bool false))⟩,⟨some 3,none,.mov (.cst (I 0))⟩])
 (.seq (.seq (.ops false [⟨some 5,none,.load (some 8) (.tmp 1)⟩,⟨some 6,none,.call (.cst (.fn (.func 43) [] [])) [(.tmp 5)]⟩,⟨some 4,none,.mov (.tmp 6)⟩])
 (.seq (.ops false [⟨some 7,none,.mov (.tmp 4)⟩,⟨some 8,none,.bin .neq (.tmp 7) (.cst (I 0))⟩])
 (.cond (.tmp 8) (.seq (.ops false [⟨some 9,none,.mov (.tmp 4)⟩,⟨some 2,none,.mov (.cst (.bool false))⟩,⟨some 3,none,.mov (.tmp 9)⟩])
 .ret) .skip)))
 (.seq (.ops false [⟨some 10,none,.load (some 8) (.tmp 1)⟩,⟨some 11,none,.call (.cst (.fn (.func 53) [] [])) [(.tmp 10), (.cst .nils)]⟩,⟨some 12,none,.fld none (.tmp 11) 8⟩,⟨some 13,none,.len (.tmp 12)⟩,⟨some 14,none,.bin .gtr (.tmp 13) (.cst (I 0))⟩,⟨some 2,none,.mov (.tmp 14)⟩,⟨some 3,none,.mov (.cst (I 0))⟩])
 .ret)))⟩
theorem comp19 : compF Cv 19 = some code19 := by kernel_rfl

def code20 : MF := ⟨16, [(4, some (some 8))], (.seq (.ops false [⟨some 2,none,.box (.tmp 0)⟩,⟨some 3,none,.box (.tmp 1)⟩,⟨some 4,none,.alloc [(I 0),(I 0), .nils, .nils, (.bool false), .nils, (.bool false), .nils]⟩])
 (.seq (.ops false [⟨some 6,none,.load (some 8) (.tmp 2)⟩,⟨some 5,none,.alloc [(I 0),(I 0), .nils, .nils, (.bool false), .nils, (.bool false), .nils]⟩,⟨none,none,.store 8 (.tmp 5) (.tmp 6)⟩])
 (.seq (.ops false [⟨some 7,none,.bsl 3 true (.agg [(I 0),(I 0),(I 0)]) 0 []⟩,⟨some 8,none,.fad (.tmp 2) 7⟩,⟨some 9,none,.load none (.tmp 8)⟩,⟨some 10,none,.app false 3 24 true (.tmp 7) (.tmp 9)⟩,⟨some 11,none,.load (some 3) (.tmp 3)⟩,⟨some 12,none,.bsl 3 true (.agg [(I 0),(I 0),(I 0)]) 1 [(0, (.tmp 11))]⟩,⟨some 13,none,.app false 3 24 true (.tmp 10) (.tmp 12)⟩,⟨some 14,none,.fad (.tmp 5) 7⟩,⟨none,none,.store 1 (.tmp 14) (.tmp 13)⟩])
 (.seq (.ops false [⟨some 15,none,.load (some 8) (.tmp 5)⟩,⟨none,none,.store 8 (.tmp 4) (.tmp 15)⟩])
 .ret))))⟩
theorem comp20 : compF Cv 20 = some code20 := by kernel_rfl

def body21_0 : MC := (.seq (.seq (.ops false [⟨some 6,none,.mov (.tmp 5)⟩,⟨some 7,none,.mov (.tmp 0)⟩,⟨some 8,none,.len (.tmp 7)⟩,⟨some 9,none,.bin .lss (.tmp 6) (.tmp 8)⟩])
 (.cond (.tmp 9) .skip (.exit 0)))
 (.seq (.block 1 (.seq (.ops false [⟨some 12,none,.mov (.tmp 0)⟩,⟨some 13,none,.mov (.tmp 5)⟩,⟨some 14,none,.ixs 1 (.tmp 12) (.tmp 13)⟩,⟨some 15,none,.load none (.tmp 14)⟩,⟨some 16,none,.mov (.tmp 1)⟩,⟨some 17,none,.bin .eql (.tmp 15) (.tmp 16)⟩])
 (.cond (.tmp 17) (.seq (.ops false [⟨some 18,none,.mov (.tmp 5)⟩,⟨some 4,none,.mov (.tmp 18)⟩])
 .ret) .skip)))
 (.ops false [⟨some 10,none,.mov (.tmp 5)⟩,⟨some 11,none,.bin .add (.tmp 10) (.cst (I 1))⟩,⟨some 5,none,.mov (.tmp 11)⟩])))
def keep21_0 : Option (List Nat) := some [0, 1, 5]
def code21 : MF := ⟨19, [(4, none)], (.seq (.ops false [⟨some 4,none,.mov (.cst (I 0))⟩])
 (.seq (.seq (.ops false [⟨some 5,none,.mov (.cst (I 0))⟩])
 (.block 0 (.loop keep21_0 body21_0)))
 (.seq (.ops false [⟨some 4,none,.mov (.cst (I (-1)))⟩])
 .ret)))⟩
theorem comp21 : compF Cv 21 = some code21 := by kernel_rfl

def body22_0 : MC := (.seq (.seq (.ops false [⟨some 12,none,.mov (.tmp 5)⟩,⟨some 13,none,.mov (.tmp 12)⟩,⟨some 14,some ((some 13), true),.mov (.tmp 6)⟩,⟨some 15,some ((some 13), true),.mov (.tmp 0)⟩,⟨some 16,some ((some 13), true),.len (.tmp 15)⟩,⟨some 17,some ((some 13), true),.bin .lss (.tmp 14) (.tmp 16)⟩,⟨some 18,none,.pick (.tmp 13) (.tmp 17) (.cst (.bool false))⟩])
 (.cond (.tmp 18) .skip (.exit 0)))
 (.seq (.block 1 (.ops false [⟨some 21,none,.mov (.tmp 0)⟩,⟨some 22,none,.mov (.tmp 6)⟩,⟨some 23,none,.ixs 1 (.tmp 21) (.tmp 22)⟩,⟨some 24,none,.load none (.tmp 23)⟩,⟨some 25,none,.mov (.tmp 1)⟩,⟨some 26,none,.mov (.tmp 6)⟩,⟨some 27,none,.ixs 1 (.tmp 25) (.tmp 26)⟩,⟨some 28,none,.load none (.tmp 27)⟩,⟨some 29,none,.bin .eql (.tmp 24) (.tmp 28)⟩,⟨some 5,none,.mov (.tmp 29)⟩]))
 (.ops false [⟨some 19,none,.mov (.tmp 6)⟩,⟨some 20,none,.bin .add (.tmp 19) (.cst (I 1))⟩,⟨some 6,none,.mov (.tmp 20)⟩])))
def keep22_0 : Option (List Nat) := some [0, 1, 5, 6]
def code22 : MF := ⟨31, [(4, none)], (.seq (.ops false [⟨some 4,none,.mov (.cst (.bool false))⟩])
 (.seq (.ops false [⟨some 7,none,.mov (.tmp 0)⟩,⟨some 8,none,.len (.tmp 7)⟩,⟨some 9,none,.mov (.tmp 1)⟩,⟨some 10,none,.len (.tmp 9)⟩,⟨some 11,none,.bin .eql (.tmp 8) (.tmp 10)⟩,⟨some 5,none,.mov (.tmp 11)⟩])
 (.seq (.seq (.ops false [⟨some 6,none,.mov (.cst (I 0))⟩])
 (.block 0 (.loop keep22_0 body22_0)))
 (.seq (.ops false [⟨some 30,none,.mov (.tmp 5)⟩,⟨some 4,none,.mov (.tmp 30)⟩])
 .ret))))⟩
theorem comp22 : compF Cv 22 = some code22 := by kernel_rfl

def code23 : MF := ⟨30, [(4, some (some 2)), (5, none)], (.seq (.ops false [⟨some 2,none,.box (.tmp 0)⟩,⟨some 3,none,.box (.tmp 1)⟩,⟨some 4,none,.alloc [(I 0),(I 0)]⟩,⟨some 5,none,.mov (.cst (I 0))⟩])
 (.seq (.ops true [⟨some 9,none,.load (some 8) (.tmp 2)⟩,⟨some 10,none,.load none (.tmp 3)⟩,⟨some 11,none,.fad (.tmp 2) 2⟩,⟨some 12,none,.load none (.tmp 11)⟩,⟨some 13,none,.len (.tmp 12)⟩,⟨some 14,none,.bin .sub (.tmp 13) (.cst (I 1))⟩,⟨some 15,none,.call (.cst (.fn (.func 54) [] [])) [(.tmp 10), (.cst (I 0)), (.tmp 14)]⟩,⟨some 16,none,.call (.cst (.fn (.func 46) [] [])) [(.tmp 9), (.tmp 15)]⟩,⟨some 8,none,.mov (.tmp 16)⟩,⟨some 17,none,.ext (.tmp 8) 0⟩,⟨some 18,none,.ext (.tmp 8) 1⟩,⟨some 6,none,.alloc [(I 0),(I 0), .nils, .nils, (.bool false), .nils, (.bool false), .nils, .nils]⟩,⟨none,none,.store 9 (.tmp 6) (.tmp 17)⟩,⟨some 7,none,.mov (.tmp 18)⟩])
 (.seq (.seq (.ops false [⟨some 19,none,.mov (.tmp 7)⟩,⟨some 20,none,.bin .neq (.tmp 19) (.cst (I 0))⟩])
 (.cond (.tmp 20) (.seq (.ops false [⟨some 21,none,.bld [(I 0),(I 0)] []⟩,⟨some 22,none,.mov (.tmp 7)⟩,⟨none,none,.store 2 (.tmp 4) (.tmp 21)⟩,⟨some 5,none,.mov (.tmp 22)⟩])
 .ret) .skip))
 (.seq (.ops false [⟨some 23,none,.load (some 9) (.tmp 6)⟩,⟨some 24,none,.mkf (.func 56) [] [(.tmp 3)]⟩,⟨some 25,none,.bld [.nilf] [(0, 1, (.tmp 24))]⟩,⟨some 26,none,.call (.cst (.fn (.func 48) [] [])) [(.tmp 23), (.tmp 25)]⟩,⟨some 27,none,.call (.cst (.fn (.func 55) [] [])) [(.tmp 26)]⟩,⟨some 28,none,.ext (.tmp 27) 0⟩,⟨some 29,none,.ext (.tmp 27) 1⟩,⟨none,none,.store 2 (.tmp 4) (.tmp 28)⟩,⟨some 5,none,.mov (.tmp 29)⟩])
 .ret))))⟩
theorem comp23 : compF Cv 23 = some code23 := by kernel_rfl

def code24 : MF := ⟨17, [(4, none)], (.seq (.ops false [⟨some 2,none,.box (.tmp 0)⟩,⟨some 3,none,.box (.tmp 1)⟩,⟨some 4,none,.mov (.cst (.bool false))⟩])
 (.seq (.ops false [⟨some 5,none,.fad (.tmp 3) 0⟩,⟨some 6,none,.load none (.tmp 5)⟩,⟨some 7,none,.fad (.tmp 2) 0⟩,⟨some 8,none,.load none (.tmp 7)⟩,⟨some 9,none,.bin .leq (.tmp 6) (.tmp 8)⟩,⟨some 10,none,.mov (.tmp 9)⟩,⟨some 11,some ((some 10), true),.fad (.tmp 2) 1⟩,⟨some 12,some ((some 10), true),.load none (.tmp 11)⟩,⟨some 13,some ((some 10), true),.fad (.tmp 3) 1⟩,⟨some 14,some ((some 10), true),.load none (.tmp 13)⟩,⟨some 15,some ((some 10), true),.bin .leq (.tmp 12) (.tmp 14)⟩,⟨some 16,none,.pick (.tmp 10) (.tmp 15) (.cst (.bool false))⟩,⟨some 4,none,.mov (.tmp 16)⟩])
 .ret))⟩
theorem comp24 : compF Cv 24 = some code24 := by kernel_rfl

def code25 : MF := ⟨6, [(2, some (some 2))], (.seq (.ops false [⟨some 2,none,.alloc [(I 0),(I 0)]⟩])
 (.seq (.ops false [⟨some 3,none,.mov (.tmp 0)⟩,⟨some 4,none,.mov (.tmp 0)⟩,⟨some 5,none,.bld [(I 0),(I 0)] [(0, 1, (.tmp 3)), (1, 1, (.tmp 4))]⟩,⟨none,none,.store 2 (.tmp 2) (.tmp 5)⟩])
 .ret))⟩
theorem comp25 : compF Cv 25 = some code25 := by kernel_rfl

def body26_0 : MC := (.seq (.ops false [⟨some 20,none,.bin .lss (.tmp 19) (.tmp 18)⟩])
 (.seq (.cond (.tmp 20) .skip (.exit 0))
 (.seq (.block 1 (.seq (.ops false [⟨some 21,none,.mov (.tmp 19)⟩,⟨some 6,none,.mov (.tmp 21)⟩])
 (.seq (.ops false [⟨some 23,none,.load none (.tmp 5)⟩,⟨some 24,none,.mov (.tmp 6)⟩,⟨some 25,none,.call (.tmp 23) [(.cst .nils), (.tmp 24)]⟩,⟨some 22,none,.mov (.tmp 25)⟩,⟨some 26,none,.ext (.tmp 22) 0⟩,⟨some 27,none,.ext (.tmp 22) 1⟩,⟨some 7,none,.mov (.tmp 26)⟩,⟨some 8,none,.mov (.tmp 27)⟩])
 (.seq (.ops false [⟨some 28,none,.mov (.tmp 8)⟩])
 (.cond (.tmp 28) (.seq (.ops false [⟨some 29,none,.mov (.tmp 7)⟩,⟨some 30,none,.mov (.tmp 7)⟩,⟨some 31,none,.len (.tmp 30)⟩,⟨some 32,none,.mov (.tmp 7)⟩,⟨some 33,none,.len (.tmp 32)⟩,⟨some 34,none,.slc 1 (.tmp 29) none (some (.tmp 31)) (some (.tmp 33))⟩,⟨some 2,none,.mov (.tmp 34)⟩,⟨some 3,none,.mov (.cst (I 0))⟩])
 .ret) .skip)))))
 (.ops false [⟨some 35,none,.bin .add (.tmp 19) (.cst (I 1))⟩,⟨some 19,none,.mov (.tmp 35)⟩]))))
def keep26_0 : Option (List Nat) := some [5, 18, 19]
def code26 : MF := ⟨36, [(2, none), (3, none)], (.seq (.ops false [⟨some 1,none,.box (.tmp 0)⟩,⟨some 2,none,.mov (.cst .nils)⟩,⟨some 3,none,.mov (.cst (I 0))⟩])
 (.seq (.seq (.ops false [⟨some 9,none,.load (some 8) (.tmp 1)⟩,⟨some 10,none,.call (.cst (.fn (.func 43) [] [])) [(.tmp 9)]⟩,⟨some 4,none,.mov (.tmp 10)⟩])
 (.seq (.ops false [⟨some 11,none,.mov (.tmp 4)⟩,⟨some 12,none,.bin .neq (.tmp 11) (.cst (I 0))⟩])
 (.cond (.tmp 12) (.seq (.ops false [⟨some 13,none,.mov (.tmp 4)⟩,⟨some 2,none,.mov (.cst .nils)⟩,⟨some 3,none,.mov (.tmp 13)⟩])
 .ret) .skip)))
 (.seq (.ops false [⟨some 5,none,.alloc [.nilf]⟩])
 (.seq (.ops false [⟨some 14,none,.mkf (.func 57) [] [(.tmp 1), (.tmp 5)]⟩,⟨none,none,.store 1 (.tmp 5) (.tmp 14)⟩])
 (.seq (.seq (.ops false [⟨some 15,none,.fad (.tmp 1) 7⟩,⟨some 16,none,.load none (.tmp 15)⟩,⟨some 17,none,.len (.tmp 16)⟩,⟨some 18,none,.bin .add (.tmp 17) (.cst (I 1))⟩,⟨some 19,none,.mov (.cst (I 0))⟩])
 (.block 0 (.loop keep26_0 body26_0)))
 (.seq (.ops false [⟨some 2,none,.mov (.cst .nils)⟩,⟨some 3,none,.mov (.cst (I 0))⟩])
 .ret))))))⟩
theorem comp26 : compF Cv 26 = some code26 := by kernel_rfl

def code27 : MF := ⟨26, [(6, none), (7, none)], (.seq (.ops false [⟨some 3,none,.box (.tmp 0)⟩,⟨some 4,none,.box (.tmp 1)⟩,⟨some 5,none,.box (.tmp 2)⟩,⟨some 6,none,.mov (.cst .nils)⟩,⟨some 7,none,.mov (.cst (I 0))⟩])
 (.seq (.ops true [⟨some 11,none,.load (some 8) (.tmp 3)⟩,⟨some 12,none,.load (some 8) (.tmp 3)⟩,⟨some 13,none,.load none (.tmp 4)⟩,⟨some 14,none,.load none (.tmp 5)⟩,⟨some 15,none,.call (.cst (.fn (.func 47) [] [])) [(.tmp 12), (.tmp 13), (.tmp 14)]⟩,⟨some 16,none,.call (.cst (.fn (.func 46) [] [])) [(.tmp 11), (.tmp 15)]⟩,⟨some 10,none,.mov (.tmp 16)⟩,⟨some 17,none,.ext (.tmp 10) 0⟩,⟨some 18,none,.ext (.tmp 10) 1⟩,⟨some 8,none,.alloc [(I 0),(I 0), .nils, .nils, (.bool false), .nils, (.bool false), .nils, .nils]⟩,⟨none,none,.store 9 (.tmp 8) (.tmp 17)⟩,⟨some 9,none,.mov (.tmp 18)⟩])
 (.seq (.seq (.ops false [⟨some 19,none,.mov (.tmp 9)⟩,⟨some 20,none,.bin .neq (.tmp 19) (.cst (I 0))⟩])
 (.cond (.tmp 20) (.seq (.ops false [⟨some 21,none,.mov (.tmp 9)⟩,⟨some 6,none,.mov (.cst .nils)⟩,⟨some 7,none,.mov (.tmp 21)⟩])
 .ret) .skip))
 (.seq (.ops false [⟨some 22,none,.load (some 9) (.tmp 8)⟩,⟨some 23,none,.mkf (.func 58) [] [(.tmp 4), (.tmp 5)]⟩,⟨some 24,none,.bld [.nilf] [(0, 1, (.tmp 23))]⟩,⟨some 25,none,.call (.cst (.fn (.func 48) [] [])) [(.tmp 22), (.tmp 24)]⟩,⟨some 6,none,.mov (.tmp 25)⟩,⟨some 7,none,.mov (.cst (I 0))⟩])
 .ret))))⟩
theorem comp27 : compF Cv 27 = some code27 := by kernel_rfl

def code28 : MF := ⟨24, [(4, none), (5, none)], (.seq (.ops false [⟨some 2,none,.box (.tmp 0)⟩,⟨some 3,none,.box (.tmp 1)⟩,⟨some 4,none,.mov (.cst (I 0))⟩,⟨some 5,none,.mov (.cst (I 0))⟩])
 (.seq (.ops true [⟨some 9,none,.load (some 8) (.tmp 2)⟩,⟨some 10,none,.load none (.tmp 3)⟩,⟨some 11,none,.fad (.tmp 2) 0⟩,⟨some 12,none,.load none (.tmp 11)⟩,⟨some 13,none,.bin .sub (.tmp 12) (.cst (I 1))⟩,⟨some 14,none,.call (.cst (.fn (.func 54) [] [])) [(.tmp 10), (.cst (I 0)), (.tmp 13)]⟩,⟨some 15,none,.call (.cst (.fn (.func 46) [] [])) [(.tmp 9), (.tmp 14)]⟩,⟨some 8,none,.mov (.tmp 15)⟩,⟨some 16,none,.ext (.tmp 8) 0⟩,⟨some 17,none,.ext (.tmp 8) 1⟩,⟨some 6,none,.alloc [(I 0),(I 0), .nils, .nils, (.bool false), .nils, (.bool false), .nils, .nils]⟩,⟨none,none,.store 9 (.tmp 6) (.tmp 16)⟩,⟨some 7,none,.mov (.tmp 17)⟩])
 (.seq (.seq (.ops false [⟨some 18,none,.mov (.tmp 7)⟩,⟨some 19,none,.bin .neq (.tmp 18) (.cst (I 0))⟩])
 (.cond (.tmp 19) (.seq (.ops false [⟨some 20,none,.mov (.tmp 7)⟩,⟨some 4,none,.mov (.cst (I 0))⟩,⟨some 5,none,.mov (.tmp 20)⟩])
 .ret) .skip))
 (.seq (.ops false [⟨some 21,none,.load (some 9) (.tmp 6)⟩,⟨some 22,none,.mkf (.func 60) [] [(.tmp 3)]⟩,⟨some 23,none,.call (.cst (.fn (.func 59) [] [])) [(.tmp 21), (.tmp 22)]⟩,⟨some 4,none,.mov (.tmp 23)⟩,⟨some 5,none,.mov (.cst (I 0))⟩])
 .ret))))⟩
theorem comp28 : compF Cv 28 = some code28 := by kernel_rfl

def code29 : MF := ⟨36, [(6, none), (7, none)], (.seq (.ops false [⟨some 3,none,.box (.tmp 0)⟩,⟨some 6,none,.mov (.cst (I 0))⟩,⟨some 7,none,.mov (.cst (I 0))⟩])
 (.seq (.ops true [⟨some 12,none,.load (some 8) (.tmp 3)⟩,⟨some 13,none,.mov (.tmp 1)⟩,⟨some 14,none,.call (.cst (.fn (.func 54) [] [])) [(.tmp 13), (.cst (I 0)), (.cst (I 1))]⟩,⟨some 15,none,.mov (.tmp 14)⟩,⟨some 16,some ((some 15), true),.mov (.tmp 2)⟩,⟨some 17,some ((some 15), true),.fad (.tmp 3) 2⟩,⟨some 18,some ((some 15), true),.load none (.tmp 17)⟩,⟨some 19,some ((some 15), true),.len (.tmp 18)⟩,⟨some 20,some ((some 15), true),.bin .sub (.tmp 19) (.cst (I 1))⟩,⟨some 21,some ((some 15), true),.call (.cst (.fn (.func 54) [] [])) [(.tmp 16), (.cst (I 0)), (.tmp 20)]⟩,⟨some 22,none,.pick (.tmp 15) (.tmp 21) (.cst (.bool false))⟩,⟨some 23,none,.call (.cst (.fn (.func 46) [] [])) [(.tmp 12), (.tmp 22)]⟩,⟨some 11,none,.mov (.tmp 23)⟩,⟨some 24,none,.ext (.tmp 11) 0⟩,⟨some 25,none,.ext (.tmp 11) 1⟩,⟨some 8,none,.alloc [(I 0),(I 0), .nils, .nils, (.bool false), .nils, (.bool false), .nils, .nils]⟩,⟨none,none,.store 9 (.tmp 8) (.tmp 24)⟩,⟨some 9,none,.mov (.tmp 25)⟩])
 (.seq (.seq (.ops false [⟨some 26,none,.mov (.tmp 9)⟩,⟨some 27,none,.bin .neq (.tmp 26) (.cst (I 0))⟩])
 (.cond (.tmp 27) (.seq (.ops false [⟨some 28,none,.mov (.tmp 9)⟩,⟨some 6,none,.mov (.cst (I 0))⟩,⟨some 7,none,.mov (.tmp 28)⟩])
 .ret) .skip))
 (.seq (.ops false [⟨some 29,none,.load (some 9) (.tmp 8)⟩,⟨some 30,none,.mov (.tmp 1)⟩,⟨some 31,none,.mov (.tmp 2)⟩,⟨some 32,none,.call (.cst (.fn (.func 61) [] [])) [(.tmp 29), (.tmp 30), (.tmp 31)]⟩,⟨some 10,none,.alloc [.nilf]⟩,⟨none,none,.store 1 (.tmp 10) (.tmp 32)⟩])
 (.seq (.ops false [⟨some 33,none,.load (some 9) (.tmp 8)⟩,⟨some 34,none,.mkf (.func 62) [] [(.tmp 10)]⟩,⟨some 35,none,.call (.cst (.fn (.func 59) [] [])) [(.tmp 33), (.tmp 34)]⟩,⟨some 6,none,.mov (.tmp 35)⟩,⟨some 7,none,.mov (.cst (I 0))⟩])
 .ret)))))⟩
theorem comp29 : compF Cv 29 = some code29 := by kernel_rfl

def code30 : MF := ⟨38, [(6, some (some 2)), (7, none)], (.seq (.ops false [⟨some 3,none,.box (.tmp 0)⟩,⟨some 6,none,.alloc [(I 0),(I 0)]⟩,⟨some 7,none,.mov (.cst (I 0))⟩])
 (.seq (.ops true [⟨some 11,none,.load (some 8) (.tmp 3)⟩,⟨some 12,none,.mov (.tmp 1)⟩,⟨some 13,none,.call (.cst (.fn (.func 54) [] [])) [(.tmp 12), (.cst (I 0)), (.cst (I 1))]⟩,⟨some 14,none,.mov (.tmp 13)⟩,⟨some 15,some ((some 14), true),.mov (.tmp 2)⟩,⟨some 16,some ((some 14), true),.fad (.tmp 3) 2⟩,⟨some 17,some ((some 14), true),.load none (.tmp 16)⟩,⟨some 18,some ((some 14), true),.len (.tmp 17)⟩,⟨some 19,some ((some 14), true),.bin .sub (.tmp 18) (.cst (I 1))⟩,⟨some 20,some ((some 14), true),.call (.cst (.fn (.func 54) [] [])) [(.tmp 15), (.cst (I 0)), (.tmp 19)]⟩,⟨some 21,none,.pick (.tmp 14) (.tmp 20) (.cst (.bool false))⟩,⟨some 22,none,.call (.cst (.fn (.func 46) [] [])) [(.tmp 11), (.tmp 21)]⟩,⟨some 10,none,.mov (.tmp 22)⟩,⟨some 23,none,.ext (.tmp 10) 0⟩,⟨some 24,none,.ext (.tmp 10) 1⟩,⟨some 8,none,.alloc [(I 0),(I 0), .nils, .nils, (.bool false), .nils, (.bool false), .nils, .nils]⟩,⟨none,none,.store 9 (.tmp 8) (.tmp 23)⟩,⟨some 9,none,.mov (.tmp 24)⟩])
 (.seq (.seq (.ops false [⟨some 25,none,.mov (.tmp 9)⟩,⟨some 26,none,.bin .neq (.tmp 25) (.cst (I 0))⟩])
 (.cond (.tmp 26) (.seq (.ops false [⟨some 27,none,.bld [(I 0),(I 0)] []⟩,⟨some 28,none,.mov (.tmp 9)⟩,⟨none,none,.store 2 (.tmp 6) (.tmp 27)⟩,⟨some 7,none,.mov (.tmp 28)⟩])
 .ret) .skip))
 (.seq (.ops true [⟨some 29,none,.load (some 9) (.tmp 8)⟩,⟨some 30,none,.load (some 9) (.tmp 8)⟩,⟨some 31,none,.mov (.tmp 1)⟩,⟨some 32,none,.mov (.tmp 2)⟩,⟨some 33,none,.call (.cst (.fn (.func 61) [] [])) [(.tmp 30), (.tmp 31), (.tmp 32)]⟩,⟨some 34,none,.call (.cst (.fn (.func 48) [] [])) [(.tmp 29), (.tmp 33)]⟩,⟨some 35,none,.call (.cst (.fn (.func 55) [] [])) [(.tmp 34)]⟩,⟨some 36,none,.ext (.tmp 35) 0⟩,⟨some 37,none,.ext (.tmp 35) 1⟩,⟨none,none,.store 2 (.tmp 6) (.tmp 36)⟩,⟨some 7,none,.mov (.tmp 37)⟩])
 .ret))))⟩
theorem comp30 : compF Cv 30 = some code30 := by kernel_rfl

def code31 : MF := ⟨35, [(8, none)], (.seq (.ops false [⟨some 4,none,.box (.tmp 0)⟩,⟨some 8,none,.mov (.cst (.bool false))⟩])
 (.seq (.ops false [⟨some 9,none,.mov (.tmp 1)⟩,⟨some 10,none,.fad (.tmp 4) 0⟩,⟨some 11,none,.load none (.tmp 10)⟩,⟨some 12,none,.bin .leq (.tmp 9) (.tmp 11)⟩,⟨some 13,none,.mov (.tmp 12)⟩,⟨some 14,some ((some 13), true),.fad (.tmp 4) 0⟩,⟨some 15,some ((some 13), true),.load none (.tmp 14)⟩,⟨some 16,some ((some 13), true),.fad (.tmp 4) 1⟩,⟨some 17,some ((some 13), true),.load none (.tmp 16)⟩,⟨some 18,some ((some 13), true),.bin .leq (.tmp 15) (.tmp 17)⟩,⟨some 19,none,.pick (.tmp 13) (.tmp 18) (.cst (.bool false))⟩,⟨some 20,none,.mov (.tmp 19)⟩,⟨some 21,some ((some 20), true),.fad (.tmp 4) 1⟩,⟨some 22,some ((some 20), true),.load none (.tmp 21)⟩,⟨some 23,some ((some 20), true),.mov (.tmp 2)⟩,⟨some 24,some ((some 20), true),.bin .leq (.tmp 22) (.tmp 23)⟩,⟨some 25,none,.pick (.tmp 20) (.tmp 24) (.cst (.bool false))⟩,⟨some 26,none,.mov (.tmp 25)⟩,⟨some 27,some ((some 26), true),.fad (.tmp 4) 1⟩,⟨some 28,some ((some 26), true),.load none (.tmp 27)⟩,⟨some 29,some ((some 26), true),.fad (.tmp 4) 0⟩,⟨some 30,some ((some 26), true),.load none (.tmp 29)⟩,⟨some 31,some ((some 26), true),.bin .sub (.tmp 28) (.tmp 30)⟩,⟨some 32,some ((some 26), true),.mov (.tmp 3)⟩,⟨some 33,some ((some 26), true),.bin .leq (.tmp 31) (.tmp 32)⟩,⟨some 34,none,.pick (.tmp 26) (.tmp 33) (.cst (.bool false))⟩,⟨some 8,none,.mov (.tmp 34)⟩])
 .ret))⟩
theorem comp31 : compF Cv 31 = some code31 := by kernel_rfl

def code32 : MF := ⟨11, [(4, none)], (.seq (.ops false [⟨some 2,none,.box (.tmp 0)⟩,⟨some 4,none,.mov (.cst (.bool false))⟩])
 (.seq (.ops false [⟨some 5,none,.mov (.tmp 1)⟩,⟨some 6,none,.fad (.tmp 2) 0⟩,⟨some 7,none,.load none (.tmp 6)⟩,⟨some 8,none,.fad (.tmp 2) 1⟩,⟨some 9,none,.load none (.tmp 8)⟩,⟨some 10,none,.call (.cst (.fn (.func 34) [] [])) [(.tmp 5), (.tmp 7), (.tmp 9)]⟩,⟨some 4,none,.mov (.tmp 10)⟩])
 .ret))⟩
theorem comp32 : compF Cv 32 = some code32 := by kernel_rfl

def body33_0 : MC := (.seq (.ops false [⟨some 37,none,.bin .lss (.tmp 36) (.tmp 35)⟩])
 (.seq (.cond (.tmp 37) .skip (.exit 2))
 (.seq (.block 3 (.seq (.ops false [⟨some 38,none,.ixs 3 (.tmp 34) (.tmp 36)⟩,⟨some 39,none,.load (some 3) (.tmp 38)⟩,⟨some 11,none,.alloc [(I 0),(I 0),(I 0)]⟩,⟨none,none,.store 3 (.tmp 11) (.tmp 39)⟩])
 (.seq (.ops false [⟨some 41,none,.load (some 9) (.tmp 6)⟩,⟨some 42,none,.load (some 3) (.tmp 11)⟩,⟨some 43,none,.call (.cst (.fn (.func 63) [] [])) [(.tmp 41), (.cst (I 0)), (.tmp 42)]⟩,⟨some 40,none,.mov (.tmp 43)⟩,⟨some 44,none,.ext (.tmp 40) 0⟩,⟨some 45,none,.ext (.tmp 40) 1⟩,⟨some 12,none,.mov (.tmp 44)⟩,⟨some 13,none,.mov (.tmp 45)⟩])
 (.seq (.ops false [⟨some 47,none,.load (some 9) (.tmp 6)⟩,⟨some 48,none,.load (some 3) (.tmp 11)⟩,⟨some 49,none,.call (.cst (.fn (.func 63) [] [])) [(.tmp 47), (.cst (I 1)), (.tmp 48)]⟩,⟨some 46,none,.mov (.tmp 49)⟩,⟨some 50,none,.ext (.tmp 46) 0⟩,⟨some 51,none,.ext (.tmp 46) 1⟩,⟨some 14,none,.mov (.tmp 50)⟩,⟨some 15,none,.mov (.tmp 51)⟩])
 (.seq (.seq (.ops false [⟨some 52,none,.mov (.tmp 13)⟩,⟨some 53,none,.mov (.tmp 15)⟩,⟨some 54,none,.bin .eql (.tmp 52) (.tmp 53)⟩])
 (.cond (.tmp 54) (.exit 3) .skip))
 (.seq (.seq (.ops false [⟨some 55,none,.fad (.tmp 11) 0⟩,⟨some 56,none,.load none (.tmp 55)⟩,⟨some 57,none,.mov (.tmp 12)⟩,⟨some 58,none,.mov (.tmp 14)⟩,⟨some 59,none,.bsl 1 false (I 0) 3 [(0, (.tmp 56)), (1, (.tmp 57)), (2, (.tmp 58))]⟩,⟨some 16,none,.mov (.tmp 59)⟩])
 (.seq (.ops false [⟨some 60,none,.mov (.tmp 7)⟩,⟨some 61,none,.eqn false (.tmp 60)⟩,⟨some 62,none,.mov (.tmp 61)⟩,⟨some 63,some ((some 62), false),.mov (.tmp 16)⟩,⟨some 64,some ((some 62), false),.mov (.tmp 7)⟩,⟨some 65,some ((some 62), false),.call (.cst (.fn (.func 64) [] [])) [(.tmp 63), (.tmp 64)]⟩,⟨some 66,some ((some 62), false),.bin .lss (.tmp 65) (.cst (I 0))⟩,⟨some 67,none,.pick (.tmp 62) (.cst (.bool true)) (.tmp 66)⟩])
 (.cond (.tmp 67) (.ops false [⟨some 68,none,.mov (.tmp 16)⟩,⟨some 7,none,.mov (.tmp 68)⟩]) .skip)))
 (.exit 2)))))))
 (.ops false [⟨some 69,none,.bin .add (.tmp 36) (.cst (I 1))⟩,⟨some 36,none,.mov (.tmp 69)⟩]))))
def keep33_0 : Option (List Nat) := some [6, 7, 26, 27, 28, 34, 35, 36]
def body33_1 : MC := (.seq (.ops false [⟨some 29,none,.bin .lss (.tmp 28) (.tmp 27)⟩])
 (.seq (.cond (.tmp 29) .skip (.exit 0))
 (.seq (.block 1 (.seq (.ops false [⟨some 30,none,.ixs 7 (.tmp 26) (.tmp 28)⟩,⟨some 31,none,.load (some 7) (.tmp 30)⟩,⟨some 9,none,.alloc [(I 0),(I 0),(I 0),(I 0), .nilm, .nils, .nils]⟩,⟨none,none,.store 7 (.tmp 9) (.tmp 31)⟩])
 (.seq (.ops false [⟨some 32,none,.fad (.tmp 9) 5⟩,⟨some 33,none,.ixa 2 1 (.tmp 32) (.cst (I 0))⟩,⟨some 34,none,.load none (.tmp 33)⟩,⟨some 35,none,.len (.tmp 34)⟩,⟨some 36,none,.mov (.cst (I 0))⟩])
 (.block 2 (.loop keep33_0 body33_0)))))
 (.ops false [⟨some 70,none,.bin .add (.tmp 28) (.cst (I 1))⟩,⟨some 28,none,.mov (.tmp 70)⟩]))))
def keep33_1 : Option (List Nat) := some [6, 7, 26, 27, 28]
def code33 : MF := ⟨82, [(2, none), (3, none), (4, none), (5, none)], (.seq (.ops false [⟨some 1,none,.box (.tmp 0)⟩,⟨some 2,none,.mov (.cst (I 0))⟩,⟨some 3,none,.mov (.cst (I 0))⟩,⟨some 4,none,.mov (.cst (I 0))⟩,⟨some 5,none,.mov (.cst (I 0))⟩])
 (.seq (.ops false [⟨some 18,none,.load (some 8) (.tmp 1)⟩,⟨some 19,none,.call (.cst (.fn (.func 46) [] [])) [(.tmp 18), (.cst (.bool true))]⟩,⟨some 17,none,.mov (.tmp 19)⟩,⟨some 20,none,.ext (.tmp 17) 0⟩,⟨some 21,none,.ext (.tmp 17) 1⟩,⟨some 6,none,.alloc [(I 0),(I 0), .nils, .nils, (.bool false), .nils, (.bool false), .nils, .nils]⟩,⟨none,none,.store 9 (.tmp 6) (.tmp 20)⟩,⟨some 5,none,.mov (.tmp 21)⟩])
 (.seq (.seq (.ops false [⟨some 22,none,.mov (.tmp 5)⟩,⟨some 23,none,.bin .neq (.tmp 22) (.cst (I 0))⟩])
 (.cond (.tmp 23) (.seq (.ops false [⟨some 24,none,.mov (.tmp 5)⟩,⟨some 2,none,.mov (.cst (I 0))⟩,⟨some 3,none,.mov (.cst (I 0))⟩,⟨some 4,none,.mov (.cst (I 0))⟩,⟨some 5,none,.mov (.tmp 24)⟩])
 .ret) .skip))
 (.seq (.ops false [⟨some 7,none,.mov (.cst .nils)⟩])
 (.seq (.seq (.ops false [⟨some 25,none,.fad (.tmp 6) 8⟩,⟨some 26,none,.load none (.tmp 25)⟩,⟨some 27,none,.len (.tmp 26)⟩,⟨some 28,none,.mov (.cst (I 0))⟩])
 (.block 0 (.loop keep33_1 body33_1)))
 (.seq (.seq (.ops false [⟨some 71,none,.mov (.tmp 7)⟩,⟨some 72,none,.eqn false (.tmp 71)⟩])
 (.cond (.tmp 72) (.seq (.ops false [⟨some 2,none,.mov (.cst (I 0))⟩,⟨some 3,none,.mov (.cst (I 0))⟩,⟨some 4,none,.mov (.cst (I 0))⟩,⟨some 5,none,.mov (.cst (I 4))⟩])
 .ret) .skip))
 (.seq (.ops false [⟨some 73,none,.mov (.tmp 7)⟩,⟨some 74,none,.ixs 1 (.tmp 73) (.cst (I 0))⟩,⟨some 75,none,.load none (.tmp 74)⟩,⟨some 76,none,.mov (.tmp 7)⟩,⟨some 77,none,.ixs 1 (.tmp 76) (.cst (I 1))⟩,⟨some 78,none,.load none (.tmp 77)⟩,⟨some 79,none,.mov (.tmp 7)⟩,⟨some 80,none,.ixs 1 (.tmp 79) (.cst (I 2))⟩,⟨some 81,none,.load none (.tmp 80)⟩,⟨some 2,none,.mov (.tmp 75)⟩,⟨some 3,none,.mov (.tmp 78)⟩,⟨some 4,none,.mov (.tmp 81)⟩,⟨some 5,none,.mov (.cst (I 0))⟩])
 .ret)))))))⟩
theorem comp33 : compF Cv 33 = some code33 := by kernel_rfl

def code34 : MF := ⟨15, [(6, none)], (.seq (.ops false [⟨some 6,none,.mov (.cst (.bool false))⟩])
 (.seq (.ops false [⟨some 7,none,.mov (.tmp 1)⟩,⟨some 8,none,.mov (.tmp 0)⟩,⟨some 9,none,.bin .leq (.tmp 7) (.tmp 8)⟩,⟨some 10,none,.mov (.tmp 9)⟩,⟨some 11,some ((some 10), true),.mov (.tmp 0)⟩,⟨some 12,some ((some 10), true),.mov (.tmp 2)⟩,⟨some 13,some ((some 10), true),.bin .leq (.tmp 11) (.tmp 12)⟩,⟨some 14,none,.pick (.tmp 10) (.tmp 13) (.cst (.bool false))⟩,⟨some 6,none,.mov (.tmp 14)⟩])
 .ret))⟩
theorem comp34 : compF Cv 34 = some code34 := by kernel_rfl

def code35 : MF := ⟨18, [(6, none)], (.seq (.ops false [⟨some 3,none,.box (.tmp 0)⟩,⟨some 6,none,.mov (.cst (I 0))⟩])
 (.seq (.seq (.ops false [⟨some 7,none,.mov (.tmp 2)⟩,⟨some 8,none,.bin .lss (.tmp 7) (.cst (I 0))⟩])
 (.cond (.tmp 8) (.seq (.ops false [⟨some 6,none,.mov (.cst (I 0))⟩])
 .ret) .skip))
 (.seq (.ops false [⟨some 9,none,.mov (.tmp 1)⟩,⟨some 10,none,.fad (.tmp 3) 3⟩,⟨some 11,none,.ixa 2 2 (.tmp 10) (.tmp 9)⟩,⟨some 12,none,.fad (.tmp 11) 0⟩,⟨some 13,none,.load none (.tmp 12)⟩,⟨some 14,none,.mov (.tmp 2)⟩,⟨some 15,none,.ixs 3 (.tmp 13) (.tmp 14)⟩,⟨some 16,none,.fad (.tmp 15) 2⟩,⟨some 17,none,.load none (.tmp 16)⟩,⟨some 6,none,.mov (.tmp 17)⟩])
 .ret)))⟩
theorem comp35 : compF Cv 35 = some code35 := by kernel_rfl

def body36_0 : MC := (.seq (.seq (.ops false [⟨some 6,none,.mov (.tmp 5)⟩,⟨some 7,none,.mov (.tmp 0)⟩,⟨some 8,none,.len (.tmp 7)⟩,⟨some 9,none,.bin .lss (.tmp 6) (.tmp 8)⟩])
 (.cond (.tmp 9) .skip (.exit 0)))
 (.seq (.block 1 (.seq (.ops false [⟨some 12,none,.mov (.tmp 0)⟩,⟨some 13,none,.mov (.tmp 5)⟩,⟨some 14,none,.ixs 1 (.tmp 12) (.tmp 13)⟩,⟨some 15,none,.load none (.tmp 14)⟩,⟨some 16,none,.mov (.tmp 1)⟩,⟨some 17,none,.bin .sub (.tmp 16) (.cst (I 1))⟩,⟨some 18,none,.call (.cst (.fn (.func 34) [] [])) [(.tmp 15), (.cst (I 0)), (.tmp 17)]⟩,⟨some 19,none,.lnot (.tmp 18)⟩,⟨some 20,none,.mov (.tmp 19)⟩,⟨some 21,some ((some 20), false),.mov (.tmp 5)⟩,⟨some 22,some ((some 20), false),.bin .gtr (.tmp 21) (.cst (I 0))⟩,⟨some 23,some ((some 20), false),.mov (.tmp 22)⟩,⟨some 24,some ((some 23), true),.mov (.tmp 0)⟩,⟨some 25,some ((some 23), true),.mov (.tmp 5)⟩,⟨some 26,some ((some 23), true),.ixs 1 (.tmp 24) (.tmp 25)⟩,⟨some 27,some ((some 23), true),.load none (.tmp 26)⟩,⟨some 28,some ((some 23), true),.mov (.tmp 0)⟩,⟨some 29,some ((some 23), true),.mov (.tmp 5)⟩,⟨some 30,some ((some 23), true),.bin .sub (.tmp 29) (.cst (I 1))⟩,⟨some 31,some ((some 23), true),.ixs 1 (.tmp 28) (.tmp 30)⟩,⟨some 32,some ((some 23), true),.load none (.tmp 31)⟩,⟨some 33,some ((some 23), true),.bin .leq (.tmp 27) (.tmp 32)⟩,⟨some 34,some ((some 20), false),.pick (.tmp 23) (.tmp 33) (.cst (.bool false))⟩,⟨some 35,none,.pick (.tmp 20) (.cst (.bool true)) (.tmp 34)⟩])
 (.cond (.tmp 35) (.seq (.ops false [⟨some 4,none,.mov (.cst (.bool false))⟩])
 .ret) .skip)))
 (.ops false [⟨some 10,none,.mov (.tmp 5)⟩,⟨some 11,none,.bin .add (.tmp 10) (.cst (I 1))⟩,⟨some 5,none,.mov (.tmp 11)⟩])))
def keep36_0 : Option (List Nat) := some [0, 1, 5]
def code36 : MF := ⟨36, [(4, none)], (.seq (.ops false [⟨some 4,none,.mov (.cst (.bool false))⟩])
 (.seq (.seq (.ops false [⟨some 5,none,.mov (.cst (I 0))⟩])
 (.block 0 (.loop keep36_0 body36_0)))
 (.seq (.ops false [⟨some 4,none,.mov (.cst (.bool true))⟩])
 .ret)))⟩
theorem comp36 : compF Cv 36 = some code36 := by kernel_rfl

def body37_0 : MC := (.seq (.seq (.ops false [⟨some 8,none,.mov (.tmp 6)⟩,⟨some 9,none,.mov (.tmp 1)⟩,⟨some 10,none,.bin .lss (.tmp 8) (.tmp 9)⟩])
 (.cond (.tmp 10) .skip (.exit 0)))
 (.seq (.block 1 (.seq (.ops false [⟨some 13,none,.mov (.tmp 0)⟩,⟨some 14,none,.mov (.tmp 6)⟩,⟨some 15,none,.call (.cst (.fn (.func 65) [] [])) [(.tmp 13), (.tmp 14)]⟩])
 (.cond (.tmp 15) (.ops false [⟨some 16,none,.mov (.tmp 5)⟩,⟨some 17,none,.mov (.tmp 6)⟩,⟨some 18,none,.bsl 1 false (I 0) 1 [(0, (.tmp 17))]⟩,⟨some 19,none,.app false 1 8 false (.tmp 16) (.tmp 18)⟩,⟨some 5,none,.mov (.tmp 19)⟩]) .skip)))
 (.ops false [⟨some 11,none,.mov (.tmp 6)⟩,⟨some 12,none,.bin .add (.tmp 11) (.cst (I 1))⟩,⟨some 6,none,.mov (.tmp 12)⟩])))
def keep37_0 : Option (List Nat) := some [0, 1, 5, 6]
def code37 : MF := ⟨21, [(4, none)], (.seq (.ops false [⟨some 4,none,.mov (.cst .nils)⟩])
 (.seq (.ops false [⟨some 7,none,.bsl 1 false (I 0) 0 []⟩,⟨some 5,none,.mov (.tmp 7)⟩])
 (.seq (.seq (.ops false [⟨some 6,none,.mov (.cst (I 0))⟩])
 (.block 0 (.loop keep37_0 body37_0)))
 (.seq (.ops false [⟨some 20,none,.mov (.tmp 5)⟩,⟨some 4,none,.mov (.tmp 20)⟩])
 .ret))))⟩
theorem comp37 : compF Cv 37 = some code37 := by kernel_rfl

def body38_0 : MC := (.seq (.seq (.ops false [⟨some 9,none,.mov (.tmp 6)⟩,⟨some 10,none,.fad (.tmp 2) 7⟩,⟨some 11,none,.load none (.tmp 10)⟩,⟨some 12,none,.len (.tmp 11)⟩,⟨some 13,none,.bin .lss (.tmp 9) (.tmp 12)⟩])
 (.cond (.tmp 13) .skip (.exit 0)))
 (.seq (.block 1 (.seq (.ops false [⟨some 16,none,.mov (.tmp 1)⟩,⟨some 17,none,.mov (.tmp 6)⟩,⟨some 18,none,.call (.cst (.fn (.func 21) [] [])) [(.tmp 16), (.tmp 17)]⟩,⟨some 19,none,.bin .lss (.tmp 18) (.cst (I 0))⟩])
 (.cond (.tmp 19) (.ops false [⟨some 20,none,.fad (.tmp 5) 7⟩,⟨some 21,none,.load none (.tmp 20)⟩,⟨some 22,none,.fad (.tmp 2) 7⟩,⟨some 23,none,.load none (.tmp 22)⟩,⟨some 24,none,.mov (.tmp 6)⟩,⟨some 25,none,.ixs 3 (.tmp 23) (.tmp 24)⟩,⟨some 26,none,.load (some 3) (.tmp 25)⟩,⟨some 27,none,.bsl 3 true (.agg [(I 0),(I 0),(I 0)]) 1 [(0, (.tmp 26))]⟩,⟨some 28,none,.app false 3 24 true (.tmp 21) (.tmp 27)⟩,⟨some 29,none,.fad (.tmp 5) 7⟩,⟨none,none,.store 1 (.tmp 29) (.tmp 28)⟩]) .skip)))
 (.ops false [⟨some 14,none,.mov (.tmp 6)⟩,⟨some 15,none,.bin .add (.tmp 14) (.cst (I 1))⟩,⟨some 6,none,.mov (.tmp 15)⟩])))
def keep38_0 : Option (List Nat) := some [1, 2, 4, 5, 6]
def code38 : MF := ⟨31, [(4, some (some 8))], (.seq (.ops false [⟨some 2,none,.box (.tmp 0)⟩,⟨some 4,none,.alloc [(I 0),(I 0), .nils, .nils, (.bool false), .nils, (.bool false), .nils]⟩])
 (.seq (.ops false [⟨some 7,none,.load (some 8) (.tmp 2)⟩,⟨some 5,none,.alloc [(I 0),(I 0), .nils, .nils, (.bool false), .nils, (.bool false), .nils]⟩,⟨none,none,.store 8 (.tmp 5) (.tmp 7)⟩])
 (.seq (.ops false [⟨some 8,none,.fad (.tmp 5) 7⟩,⟨none,none,.store 1 (.tmp 8) (.cst .nils)⟩])
 (.seq (.seq (.ops false [⟨some 6,none,.mov (.cst (I 0))⟩])
 (.block 0 (.loop keep38_0 body38_0)))
 (.seq (.ops false [⟨some 30,none,.load (some 8) (.tmp 5)⟩,⟨none,none,.store 8 (.tmp 4) (.tmp 30)⟩])
 .ret)))))⟩
theorem comp38 : compF Cv 38 = some code38 := by kernel_rfl

def code39 : MF := ⟨22, [(4, none)], (.seq (.ops false [⟨some 4,none,.mov (.cst (.bool false))⟩])
 (.seq (.ops false [⟨some 5,none,.mov (.tmp 0)⟩,⟨some 6,none,.len (.tmp 5)⟩,⟨some 7,none,.mov (.tmp 1)⟩,⟨some 8,none,.len (.tmp 7)⟩,⟨some 9,none,.bin .lss (.tmp 6) (.tmp 8)⟩,⟨some 10,none,.mov (.tmp 9)⟩,⟨some 11,some ((some 10), false),.mov (.tmp 0)⟩,⟨some 12,some ((some 10), false),.len (.tmp 11)⟩,⟨some 13,some ((some 10), false),.mov (.tmp 1)⟩,⟨some 14,some ((some 10), false),.len (.tmp 13)⟩,⟨some 15,some ((some 10), false),.bin .eql (.tmp 12) (.tmp 14)⟩,⟨some 16,some ((some 10), false),.mov (.tmp 15)⟩,⟨some 17,some ((some 16), true),.mov (.tmp 0)⟩,⟨some 18,some ((some 16), true),.mov (.tmp 1)⟩,⟨some 19,some ((some 16), true),.call (.cst (.fn (.func 66) [] [])) [(.tmp 17), (.tmp 18)]⟩,⟨some 20,some ((some 10), false),.pick (.tmp 16) (.tmp 19) (.cst (.bool false))⟩,⟨some 21,none,.pick (.tmp 10) (.cst (.bool true)) (.tmp 20)⟩,⟨some 4,none,.mov (.tmp 21)⟩])
 .ret))⟩
theorem comp39 : compF Cv 39 = some code39 := by kernel_rfl

def code40 : MF := ⟨2, [(0, some (some 8))], (.seq (.ops false [⟨some 0,none,.alloc [(I 0),(I 0), .nils, .nils, (.bool false), .nils, (.bool false), .nils]⟩])
 (.seq (.ops false [⟨some 1,none,.call (.cst (.fn (.func 41) [] [])) [(.cst .nils)]⟩,⟨none,none,.store 8 (.tmp 0) (.tmp 1)⟩])
 .ret))⟩
theorem comp40 : compF Cv 40 = some code40 := by kernel_rfl

def code41 : MF := ⟨17, [(2, some (some 8))], (.seq (.ops false [⟨some 2,none,.alloc [(I 0),(I 0), .nils, .nils, (.bool false), .nils, (.bool false), .nils]⟩])
 (.seq (.ops false [⟨some 3,none,.call (.cst (.fn (.func 67) [] [])) [(.cst (I 1)), (.cst (I 2)), (.cst (I 2))]⟩,⟨some 4,none,.call (.cst (.fn (.func 67) [] [])) [(.cst (I 1)), (.cst (I 1)), (.cst (I 1))]⟩,⟨some 5,none,.call (.cst (.fn (.func 67) [] [])) [(.cst (I 2)), (.cst (I 2)), (.cst (I 1))]⟩,⟨some 6,none,.bsl 3 true (.agg [(I 0),(I 0),(I 0)]) 3 [(0, (.tmp 3)), (1, (.tmp 4)), (2, (.tmp 5))]⟩,⟨some 7,none,.call (.cst (.fn (.func 68) [] [])) [(.cst (I 1)), (.cst (I 2)), (.cst (I 1))]⟩,⟨some 8,none,.call (.cst (.fn (.func 68) [] [])) [(.cst (I 1)), (.cst (I 1)), (.cst (I 2))]⟩,⟨some 9,none,.bsl 3 true (.agg [(I 0),(I 0),(I 0)]) 2 [(0, (.tmp 7)), (1, (.tmp 8))]⟩,⟨some 10,none,.bld [.nils, (.bool false)] [(0, 1, (.tmp 9))]⟩,⟨some 11,none,.call (.cst (.fn (.func 68) [] [])) [(.cst (I 1)), (.cst (I 2)), (.cst (I 2))]⟩,⟨some 12,none,.bsl 3 true (.agg [(I 0),(I 0),(I 0)]) 1 [(0, (.tmp 11))]⟩,⟨some 13,none,.bld [.nils, (.bool false)] [(0, 1, (.tmp 12)), (1, 1, (.cst (.bool true)))]⟩,⟨some 14,none,.bld [.nils, (.bool false), .nils, (.bool false)] [(0, 2, (.tmp 10)), (2, 2, (.tmp 13))]⟩,⟨some 15,none,.mov (.tmp 0)⟩,⟨some 16,none,.bld [(I 0),(I 0), .nils, .nils, (.bool false), .nils, (.bool false), .nils] [(0, 1, (.cst (I 4))), (1, 1, (.cst (I 28))), (2, 1, (.tmp 6)), (3, 4, (.tmp 14)), (7, 1, (.tmp 15))]⟩,⟨none,none,.store 8 (.tmp 2) (.tmp 16)⟩])
 .ret))⟩
theorem comp41 : compF Cv 41 = some code41 := by kernel_rfl

def code42 : MF := ⟨8, [(4, some (some 2))], (.seq (.ops false [⟨some 4,none,.alloc [(I 0),(I 0)]⟩])
 (.seq (.ops false [⟨some 5,none,.mov (.tmp 0)⟩,⟨some 6,none,.mov (.tmp 1)⟩,⟨some 7,none,.bld [(I 0),(I 0)] [(0, 1, (.tmp 5)), (1, 1, (.tmp 6))]⟩,⟨none,none,.store 2 (.tmp 4) (.tmp 7)⟩])
 .ret))⟩
theorem comp42 : compF Cv 42 = some code42 := by kernel_rfl

def body43_0 : MC := (.seq (.ops false [⟨some 37,none,.bin .lss (.tmp 36) (.tmp 35)⟩])
 (.seq (.cond (.tmp 37) .skip (.exit 0))
 (.seq (.block 1 (.seq (.ops false [⟨some 38,none,.ixs 3 (.tmp 34) (.tmp 36)⟩,⟨some 39,none,.load (some 3) (.tmp 38)⟩,⟨some 5,none,.alloc [(I 0),(I 0),(I 0)]⟩,⟨none,none,.store 3 (.tmp 5) (.tmp 39)⟩])
 (.seq (.ops false [⟨some 40,none,.fad (.tmp 5) 0⟩,⟨some 41,none,.load (some 2) (.tmp 40)⟩,⟨some 6,none,.alloc [(I 0),(I 0)]⟩,⟨none,none,.store 2 (.tmp 6) (.tmp 41)⟩])
 (.ops false [⟨some 42,none,.mov (.tmp 3)⟩,⟨some 43,none,.mov (.tmp 42)⟩,⟨some 44,some ((some 43), true),.fad (.tmp 6) 0⟩,⟨some 45,some ((some 43), true),.load none (.tmp 44)⟩,⟨some 46,some ((some 43), true),.fad (.tmp 6) 1⟩,⟨some 47,some ((some 43), true),.load none (.tmp 46)⟩,⟨some 48,some ((some 43), true),.call (.cst (.fn (.func 54) [] [])) [(.tmp 45), (.cst (I 0)), (.tmp 47)]⟩,⟨some 49,none,.pick (.tmp 43) (.tmp 48) (.cst (.bool false))⟩,⟨some 50,none,.mov (.tmp 49)⟩,⟨some 51,some ((some 50), true),.fad (.tmp 6) 1⟩,⟨some 52,some ((some 50), true),.load none (.tmp 51)⟩,⟨some 53,some ((some 50), true),.fad (.tmp 1) 0⟩,⟨some 54,some ((some 50), true),.load none (.tmp 53)⟩,⟨some 55,some ((some 50), true),.bin .lss (.tmp 52) (.tmp 54)⟩,⟨some 56,none,.pick (.tmp 50) (.tmp 55) (.cst (.bool false))⟩,⟨some 57,none,.mov (.tmp 56)⟩,⟨some 58,some ((some 57), true),.fad (.tmp 6) 1⟩,⟨some 59,some ((some 57), true),.load none (.tmp 58)⟩,⟨some 60,some ((some 57), true),.fad (.tmp 6) 0⟩,⟨some 61,some ((some 57), true),.load none (.tmp 60)⟩,⟨some 62,some ((some 57), true),.bin .sub (.tmp 59) (.tmp 61)⟩,⟨some 63,some ((some 57), true),.bin .leq (.tmp 62) (.cst (I 3))⟩,⟨some 64,none,.pick (.tmp 57) (.tmp 63) (.cst (.bool false))⟩,⟨some 65,none,.mov (.tmp 64)⟩,⟨some 66,some ((some 65), true),.fad (.tmp 5) 2⟩,⟨some 67,some ((some 65), true),.load none (.tmp 66)⟩,⟨some 68,some ((some 65), true),.call (.cst (.fn (.func 54) [] [])) [(.tmp 67), (.cst (I 0)), (.cst (I 3))]⟩,⟨some 69,none,.pick (.tmp 65) (.tmp 68) (.cst (.bool false))⟩,⟨some 3,none,.mov (.tmp 69)⟩]))))
 (.ops false [⟨some 70,none,.bin .add (.tmp 36) (.cst (I 1))⟩,⟨some 36,none,.mov (.tmp 70)⟩]))))
def keep43_0 : Option (List Nat) := some [1, 3, 34, 35, 36]
def body43_1 : MC := (.seq (.ops false [⟨some 87,none,.bin .lss (.tmp 86) (.tmp 85)⟩])
 (.seq (.cond (.tmp 87) .skip (.exit 4))
 (.seq (.block 5 (.seq (.ops false [⟨some 88,none,.ixs 3 (.tmp 84) (.tmp 86)⟩,⟨some 89,none,.load (some 3) (.tmp 88)⟩,⟨some 10,none,.alloc [(I 0),(I 0),(I 0)]⟩,⟨none,none,.store 3 (.tmp 10) (.tmp 89)⟩])
 (.ops false [⟨some 90,none,.mov (.tmp 3)⟩,⟨some 91,none,.mov (.tmp 90)⟩,⟨some 92,some ((some 91), true),.fad (.tmp 10) 0⟩,⟨some 93,some ((some 91), true),.load none (.tmp 92)⟩,⟨some 94,some ((some 91), true),.call (.cst (.fn (.func 54) [] [])) [(.tmp 93), (.cst (I 0)), (.cst (I 3))]⟩,⟨some 95,none,.pick (.tmp 91) (.tmp 94) (.cst (.bool false))⟩,⟨some 96,none,.mov (.tmp 95)⟩,⟨some 97,some ((some 96), true),.fad (.tmp 10) 1⟩,⟨some 98,some ((some 96), true),.load none (.tmp 97)⟩,⟨some 99,some ((some 96), true),.call (.cst (.fn (.func 54) [] [])) [(.tmp 98), (.cst (I 0)), (.cst (I 3))]⟩,⟨some 100,none,.pick (.tmp 96) (.tmp 99) (.cst (.bool false))⟩,⟨some 101,none,.mov (.tmp 100)⟩,⟨some 102,some ((some 101), true),.fad (.tmp 10) 2⟩,⟨some 103,some ((some 101), true),.load none (.tmp 102)⟩,⟨some 104,some ((some 101), true),.call (.cst (.fn (.func 54) [] [])) [(.tmp 103), (.cst (I 0)), (.cst (I 2))]⟩,⟨some 105,none,.pick (.tmp 101) (.tmp 104) (.cst (.bool false))⟩,⟨some 3,none,.mov (.tmp 105)⟩])))
 (.ops false [⟨some 106,none,.bin .add (.tmp 86) (.cst (I 1))⟩,⟨some 86,none,.mov (.tmp 106)⟩]))))
def keep43_1 : Option (List Nat) := some [1, 3, 72, 73, 84, 85, 86]
def body43_2 : MC := (.seq (.ops false [⟨some 74,none,.bin .lss (.tmp 73) (.cst (I 2))⟩])
 (.seq (.cond (.tmp 74) .skip (.exit 2))
 (.seq (.block 3 (.seq (.ops false [⟨some 75,none,.ixv 2 2 (some 2) (.tmp 72) (.tmp 73)⟩,⟨some 8,none,.alloc [.nils, (.bool false)]⟩,⟨none,none,.store 2 (.tmp 8) (.tmp 75)⟩])
 (.seq (.ops false [⟨some 76,none,.mov (.tmp 3)⟩,⟨some 77,none,.mov (.tmp 76)⟩,⟨some 78,some ((some 77), true),.fad (.tmp 8) 0⟩,⟨some 79,some ((some 77), true),.load none (.tmp 78)⟩,⟨some 80,some ((some 77), true),.len (.tmp 79)⟩,⟨some 81,some ((some 77), true),.bin .leq (.tmp 80) (.cst (I 5))⟩,⟨some 82,none,.pick (.tmp 77) (.tmp 81) (.cst (.bool false))⟩,⟨some 3,none,.mov (.tmp 82)⟩])
 (.seq (.ops false [⟨some 83,none,.fad (.tmp 8) 0⟩,⟨some 84,none,.load none (.tmp 83)⟩,⟨some 85,none,.len (.tmp 84)⟩,⟨some 86,none,.mov (.cst (I 0))⟩])
 (.block 4 (.loop keep43_1 body43_1))))))
 (.ops false [⟨some 107,none,.bin .add (.tmp 73) (.cst (I 1))⟩,⟨some 73,none,.mov (.tmp 107)⟩]))))
def keep43_2 : Option (List Nat) := some [1, 3, 72, 73]
def body43_3 : MC := (.seq (.ops false [⟨some 112,none,.bin .lss (.tmp 111) (.tmp 110)⟩])
 (.seq (.cond (.tmp 112) .skip (.exit 6))
 (.seq (.block 7 (.seq (.ops false [⟨some 113,none,.ixs 3 (.tmp 109) (.tmp 111)⟩,⟨some 114,none,.load (some 3) (.tmp 113)⟩,⟨some 12,none,.alloc [(I 0),(I 0),(I 0)]⟩,⟨none,none,.store 3 (.tmp 12) (.tmp 114)⟩])
 (.ops false [⟨some 115,none,.mov (.tmp 3)⟩,⟨some 116,none,.mov (.tmp 115)⟩,⟨some 117,some ((some 116), true),.load (some 8) (.tmp 1)⟩,⟨some 118,some ((some 116), true),.load (some 3) (.tmp 12)⟩,⟨some 119,some ((some 116), true),.call (.cst (.fn (.func 50) [] [])) [(.tmp 117), (.tmp 118)]⟩,⟨some 120,none,.pick (.tmp 116) (.tmp 119) (.cst (.bool false))⟩,⟨some 3,none,.mov (.tmp 120)⟩])))
 (.ops false [⟨some 121,none,.bin .add (.tmp 111) (.cst (I 1))⟩,⟨some 111,none,.mov (.tmp 121)⟩]))))
def keep43_3 : Option (List Nat) := some [1, 3, 109, 110, 111]
def code43 : MF := ⟨124, [(2, none)], (.seq (.ops false [⟨some 1,none,.box (.tmp 0)⟩,⟨some 2,none,.mov (.cst (I 0))⟩])
 (.seq (.ops false [⟨some 13,none,.fad (.tmp 1) 0⟩,⟨some 14,none,.load none (.tmp 13)⟩,⟨some 15,none,.call (.cst (.fn (.func 54) [] [])) [(.tmp 14), (.cst (I 1)), (.cst (I 6))]⟩,⟨some 16,none,.mov (.tmp 15)⟩,⟨some 17,some ((some 16), true),.fad (.tmp 1) 1⟩,⟨some 18,some ((some 16), true),.load none (.tmp 17)⟩,⟨some 19,some ((some 16), true),.call (.cst (.fn (.func 54) [] [])) [(.tmp 18), (.cst (I 0)), (.cst (I 29))]⟩,⟨some 20,none,.pick (.tmp 16) (.tmp 19) (.cst (.bool false))⟩,⟨some 21,none,.mov (.tmp 20)⟩,⟨some 22,some ((some 21), true),.fad (.tmp 1) 2⟩,⟨some 23,some ((some 21), true),.load none (.tmp 22)⟩,⟨some 24,some ((some 21), true),.len (.tmp 23)⟩,⟨some 25,some ((some 21), true),.bin .leq (.tmp 24) (.cst (I 4))⟩,⟨some 26,none,.pick (.tmp 21) (.tmp 25) (.cst (.bool false))⟩,⟨some 27,none,.mov (.tmp 26)⟩,⟨some 28,some ((some 27), true),.fad (.tmp 1) 7⟩,⟨some 29,some ((some 27), true),.load none (.tmp 28)⟩,⟨some 30,some ((some 27), true),.len (.tmp 29)⟩,⟨some 31,some ((some 27), true),.bin .leq (.tmp 30) (.cst (I 4))⟩,⟨some 32,none,.pick (.tmp 27) (.tmp 31) (.cst (.bool false))⟩,⟨some 3,none,.mov (.tmp 32)⟩])
 (.seq (.seq (.ops false [⟨some 33,none,.fad (.tmp 1) 2⟩,⟨some 34,none,.load none (.tmp 33)⟩,⟨some 35,none,.len (.tmp 34)⟩,⟨some 36,none,.mov (.cst (I 0))⟩])
 (.block 0 (.loop keep43_0 body43_0)))
 (.seq (.seq (.ops false [⟨some 71,none,.fad (.tmp 1) 3⟩,⟨some 72,none,.load (some 4) (.tmp 71)⟩,⟨some 73,none,.mov (.cst (I 0))⟩])
 (.block 2 (.loop keep43_2 body43_2)))
 (.seq (.seq (.ops false [⟨some 108,none,.fad (.tmp 1) 7⟩,⟨some 109,none,.load none (.tmp 108)⟩,⟨some 110,none,.len (.tmp 109)⟩,⟨some 111,none,.mov (.cst (I 0))⟩])
 (.block 6 (.loop keep43_3 body43_3)))
 (.seq (.seq (.ops false [⟨some 122,none,.mov (.tmp 3)⟩,⟨some 123,none,.lnot (.tmp 122)⟩])
 (.cond (.tmp 123) (.seq (.ops false [⟨some 2,none,.mov (.cst (I 10))⟩])
 .ret) .skip))
 (.seq (.ops false [⟨some 2,none,.mov (.cst (I 0))⟩])
 .ret)))))))⟩
theorem comp43 : compF Cv 43 = some code43 := by kernel_rfl

def code44 : MF := ⟨5, [(0, some (some 8))], (.seq (.ops false [⟨some 0,none,.alloc [(I 0),(I 0), .nils, .nils, (.bool false), .nils, (.bool false), .nils]⟩])
 (.seq (.ops false [⟨some 1,none,.call (.cst (.fn (.func 17) [] [])) [(.cst (I 0)), (.cst (I 3)), (.cst (I 2))]⟩,⟨some 2,none,.call (.cst (.fn (.func 17) [] [])) [(.cst (I 1)), (.cst (I 1)), (.cst (I 0))]⟩,⟨some 3,none,.bsl 3 true (.agg [(I 0),(I 0),(I 0)]) 2 [(0, (.tmp 1)), (1, (.tmp 2))]⟩,⟨some 4,none,.call (.cst (.fn (.func 41) [] [])) [(.tmp 3)]⟩,⟨none,none,.store 8 (.tmp 0) (.tmp 4)⟩])
 .ret))⟩
theorem comp44 : compF Cv 44 = some code44 := by kernel_rfl

def code45 : MF := ⟨4, [(0, some (some 8))], (.seq (.ops false [⟨some 0,none,.alloc [(I 0),(I 0), .nils, .nils, (.bool false), .nils, (.bool false), .nils]⟩])
 (.seq (.ops false [⟨some 1,none,.call (.cst (.fn (.func 17) [] [])) [(.cst (I 0)), (.cst (I 3)), (.cst (I 2))]⟩,⟨some 2,none,.bsl 3 true (.agg [(I 0),(I 0),(I 0)]) 1 [(0, (.tmp 1))]⟩,⟨some 3,none,.call (.cst (.fn (.func 41) [] [])) [(.tmp 2)]⟩,⟨none,none,.store 8 (.tmp 0) (.tmp 3)⟩])
 .ret))⟩
theorem comp45 : compF Cv 45 = some code45 := by kernel_rfl

def code46 : MF := ⟨25, [(4, some (some 9)), (5, none)], (.seq (.ops false [⟨some 2,none,.box (.tmp 0)⟩,⟨some 4,none,.alloc [(I 0),(I 0), .nils, .nils, (.bool false), .nils, (.bool false), .nils, .nils]⟩,⟨some 5,none,.mov (.cst (I 0))⟩])
 (.seq (.seq (.ops false [⟨some 8,none,.load (some 8) (.tmp 2)⟩,⟨some 9,none,.call (.cst (.fn (.func 43) [] [])) [(.tmp 8)]⟩,⟨some 6,none,.mov (.tmp 9)⟩])
 (.seq (.ops false [⟨some 10,none,.mov (.tmp 6)⟩,⟨some 11,none,.bin .neq (.tmp 10) (.cst (I 0))⟩])
 (.cond (.tmp 11) (.seq (.ops false [⟨some 12,none,.bld [(I 0),(I 0), .nils, .nils, (.bool false), .nils, (.bool false), .nils, .nils] []⟩,⟨some 13,none,.mov (.tmp 6)⟩,⟨none,none,.store 9 (.tmp 4) (.tmp 12)⟩,⟨some 5,none,.mov (.tmp 13)⟩])
 .ret) .skip)))
 (.seq (.seq (.ops false [⟨some 14,none,.mov (.tmp 1)⟩,⟨some 15,none,.lnot (.tmp 14)⟩])
 (.cond (.tmp 15) (.seq (.ops false [⟨some 16,none,.bld [(I 0),(I 0), .nils, .nils, (.bool false), .nils, (.bool false), .nils, .nils] []⟩,⟨none,none,.store 9 (.tmp 4) (.tmp 16)⟩,⟨some 5,none,.mov (.cst (I 11))⟩])
 .ret) .skip))
 (.seq (.ops false [⟨some 17,none,.load (some 8) (.tmp 2)⟩,⟨some 18,none,.call (.cst (.fn (.func 53) [] [])) [(.tmp 17), (.cst .nils)]⟩,⟨some 7,none,.alloc [(I 0),(I 0), .nils, .nils, (.bool false), .nils, (.bool false), .nils, .nils]⟩,⟨none,none,.store 9 (.tmp 7) (.tmp 18)⟩])
 (.seq (.seq (.ops false [⟨some 19,none,.fad (.tmp 7) 8⟩,⟨some 20,none,.load none (.tmp 19)⟩,⟨some 21,none,.len (.tmp 20)⟩,⟨some 22,none,.bin .eql (.tmp 21) (.cst (I 0))⟩])
 (.cond (.tmp 22) (.seq (.ops false [⟨some 23,none,.load (some 9) (.tmp 7)⟩,⟨none,none,.store 9 (.tmp 4) (.tmp 23)⟩,⟨some 5,none,.mov (.cst (I 12))⟩])
 .ret) .skip))
 (.seq (.ops false [⟨some 24,none,.load (some 9) (.tmp 7)⟩,⟨none,none,.store 9 (.tmp 4) (.tmp 24)⟩,⟨some 5,none,.mov (.cst (I 0))⟩])
 .ret))))))⟩
theorem comp46 : compF Cv 46 = some code46 := by kernel_rfl

def code47 : MF := ⟨16, [(6, none)], (.seq (.ops false [⟨some 3,none,.box (.tmp 0)⟩,⟨some 6,none,.mov (.cst (.bool false))⟩])
 (.seq (.ops false [⟨some 7,none,.mov (.tmp 1)⟩,⟨some 8,none,.call (.cst (.fn (.func 54) [] [])) [(.tmp 7), (.cst (I 0)), (.cst (I 1))]⟩,⟨some 9,none,.mov (.tmp 8)⟩,⟨some 10,some ((some 9), true),.mov (.tmp 2)⟩,⟨some 11,some ((some 9), true),.fad (.tmp 3) 0⟩,⟨some 12,some ((some 9), true),.load none (.tmp 11)⟩,⟨some 13,some ((some 9), true),.bin .sub (.tmp 12) (.cst (I 1))⟩,⟨some 14,some ((some 9), true),.call (.cst (.fn (.func 54) [] [])) [(.tmp 10), (.cst (I 0)), (.tmp 13)]⟩,⟨some 15,none,.pick (.tmp 9) (.tmp 14) (.cst (.bool false))⟩,⟨some 6,none,.mov (.tmp 15)⟩])
 .ret))⟩
theorem comp47 : compF Cv 47 = some code47 := by kernel_rfl

def body48_0 : MC := (.seq (.ops false [⟨some 12,none,.bin .lss (.tmp 11) (.tmp 10)⟩])
 (.seq (.cond (.tmp 12) .skip (.exit 0))
 (.seq (.block 1 (.seq (.ops false [⟨some 13,none,.ixs 7 (.tmp 9) (.tmp 11)⟩,⟨some 14,none,.load (some 7) (.tmp 13)⟩,⟨some 7,none,.alloc [(I 0),(I 0),(I 0),(I 0), .nilm, .nils, .nils]⟩,⟨none,none,.store 7 (.tmp 7) (.tmp 14)⟩])
 (.ops false [⟨some 15,none,.mov (.tmp 5)⟩,⟨some 16,none,.fad (.tmp 3) 0⟩,⟨some 17,none,.load none (.tmp 16)⟩,⟨some 18,none,.load (some 7) (.tmp 7)⟩,⟨some 19,none,.call (.tmp 17) [(.tmp 18)]⟩,⟨some 20,none,.bsl 1 false (I 0) 1 [(0, (.tmp 19))]⟩,⟨some 21,none,.app true 1 8 false (.tmp 15) (.tmp 20)⟩,⟨some 5,none,.mov (.tmp 21)⟩])))
 (.ops false [⟨some 22,none,.bin .add (.tmp 11) (.cst (I 1))⟩,⟨some 11,none,.mov (.tmp 22)⟩]))))
def keep48_0 : Option (List Nat) := some [3, 5, 9, 10, 11]
def code48 : MF := ⟨33, [(4, none)], (.seq (.ops false [⟨some 2,none,.box (.tmp 0)⟩,⟨some 3,none,.box (.tmp 1)⟩,⟨some 4,none,.mov (.cst .nils)⟩])
 (.seq (.ops false [⟨some 5,none,.mov (.cst .nils)⟩])
 (.seq (.seq (.ops false [⟨some 8,none,.fad (.tmp 2) 8⟩,⟨some 9,none,.load none (.tmp 8)⟩,⟨some 10,none,.len (.tmp 9)⟩,⟨some 11,none,.mov (.cst (I 0))⟩])
 (.block 0 (.loop keep48_0 body48_0)))
 (.seq (.ops false [⟨some 23,none,.mov (.tmp 5)⟩,⟨some 24,none,.call (.cst (.fn (.func 69) [] [])) [(.tmp 23)]⟩])
 (.seq (.ops false [⟨some 25,none,.mov (.tmp 5)⟩,⟨some 26,none,.call (.cst (.fn (.func 70) [] [])) [(.tmp 25)]⟩,⟨some 5,none,.mov (.tmp 26)⟩])
 (.seq (.ops false [⟨some 27,none,.mov (.tmp 5)⟩,⟨some 28,none,.mov (.tmp 5)⟩,⟨some 29,none,.len (.tmp 28)⟩,⟨some 30,none,.mov (.tmp 5)⟩,⟨some 31,none,.len (.tmp 30)⟩,⟨some 32,none,.slc 1 (.tmp 27) none (some (.tmp 29)) (some (.tmp 31))⟩,⟨some 4,none,.mov (.tmp 32)⟩])
 .ret))))))⟩
theorem comp48 : compF Cv 48 = some code48 := by kernel_rfl

def code49 : MF := ⟨12, [(4, none)], (.seq (.ops false [⟨some 3,none,.box (.tmp 0)⟩,⟨some 4,none,.mov (.cst (I 0))⟩])
 (.seq (.ops false [⟨some 5,none,.fad (.tmp 3) 4⟩,⟨some 6,none,.load none (.tmp 5)⟩,⟨some 7,none,.load none (.tmp 1)⟩,⟨some 8,none,.load none (.tmp 2)⟩,⟨some 9,none,.bld [(I 0),(I 0)] [(0, 1, (.tmp 7)), (1, 1, (.tmp 8))]⟩,⟨some 10,none,.lkp (some 2) (.agg [(I 0),(I 0),(I 0),(I 0)]) (.tmp 6) (.tmp 9) false⟩,⟨some 11,none,.fld none (.tmp 10) 0⟩,⟨some 4,none,.mov (.tmp 11)⟩])
 .ret))⟩
theorem comp49 : compF Cv 49 = some code49 := by kernel_rfl

def code50 : MF := ⟨25, [(4, none)], (.seq (.ops false [⟨some 2,none,.box (.tmp 0)⟩,⟨some 3,none,.box (.tmp 1)⟩,⟨some 4,none,.mov (.cst (.bool false))⟩])
 (.seq (.ops false [⟨some 5,none,.fad (.tmp 3) 0⟩,⟨some 6,none,.load none (.tmp 5)⟩,⟨some 7,none,.call (.cst (.fn (.func 54) [] [])) [(.tmp 6), (.cst (I 0)), (.cst (I 1))]⟩,⟨some 8,none,.mov (.tmp 7)⟩,⟨some 9,some ((some 8), true),.fad (.tmp 3) 1⟩,⟨some 10,some ((some 8), true),.load none (.tmp 9)⟩,⟨some 11,some ((some 8), true),.fad (.tmp 2) 0⟩,⟨some 12,some ((some 8), true),.load none (.tmp 11)⟩,⟨some 13,some ((some 8), true),.bin .sub (.tmp 12) (.cst (I 1))⟩,⟨some 14,some ((some 8), true),.call (.cst (.fn (.func 54) [] [])) [(.tmp 10), (.cst (I 0)), (.tmp 13)]⟩,⟨some 15,none,.pick (.tmp 8) (.tmp 14) (.cst (.bool false))⟩,⟨some 16,none,.mov (.tmp 15)⟩,⟨some 17,some ((some 16), true),.fad (.tmp 3) 2⟩,⟨some 18,some ((some 16), true),.load none (.tmp 17)⟩,⟨some 19,some ((some 16), true),.fad (.tmp 2) 2⟩,⟨some 20,some ((some 16), true),.load none (.tmp 19)⟩,⟨some 21,some ((some 16), true),.len (.tmp 20)⟩,⟨some 22,some ((some 16), true),.bin .sub (.tmp 21) (.cst (I 1))⟩,⟨some 23,some ((some 16), true),.call (.cst (.fn (.func 54) [] [])) [(.tmp 18), (.cst (I (-1))), (.tmp 22)]⟩,⟨some 24,none,.pick (.tmp 16) (.tmp 23) (.cst (.bool false))⟩,⟨some 4,none,.mov (.tmp 24)⟩])
 .ret))⟩
theorem comp50 : compF Cv 50 = some code50 := by kernel_rfl

def code51 : MF := ⟨9, [(4, none)], (.seq (.ops false [⟨some 4,none,.mov (.cst (.bool false))⟩])
 (.seq (.ops false [⟨some 5,none,.mov (.tmp 0)⟩,⟨some 6,none,.mov (.tmp 1)⟩,⟨some 7,none,.call (.cst (.fn (.func 71) [] [])) [(.tmp 5), (.tmp 6)]⟩,⟨some 8,none,.bin .geq (.tmp 7) (.cst (I 0))⟩,⟨some 4,none,.mov (.tmp 8)⟩])
 .ret))⟩
theorem comp51 : compF Cv 51 = some code51 := by kernel_rfl

def code52 : MF := ⟨16, [(3, none)], (.seq (.ops false [⟨some 2,none,.box (.tmp 0)⟩,⟨some 3,none,.mov (.cst (.bool false))⟩])
 (.seq (.ops false [⟨some 4,none,.fad (.tmp 2) 4⟩,⟨some 5,none,.load none (.tmp 4)⟩,⟨some 6,none,.fad (.tmp 1) 0⟩,⟨some 7,none,.load none (.tmp 6)⟩,⟨some 8,none,.fad (.tmp 1) 1⟩,⟨some 9,none,.load none (.tmp 8)⟩,⟨some 10,none,.bld [(I 0),(I 0)] [(0, 1, (.tmp 7)), (1, 1, (.tmp 9))]⟩,⟨some 11,none,.lkp (some 2) (.agg [(I 0),(I 0),(I 0),(I 0)]) (.tmp 5) (.tmp 10) false⟩,⟨some 12,none,.fld none (.tmp 11) 0⟩,⟨some 13,none,.fad (.tmp 1) 2⟩,⟨some 14,none,.load none (.tmp 13)⟩,⟨some 15,none,.bin .eql (.tmp 12) (.tmp 14)⟩,⟨some 3,none,.mov (.tmp 15)⟩])
 .ret))⟩
theorem comp52 : compF Cv 52 = some code52 := by kernel_rfl

def body53_0 : MC := (.seq (.ops false [⟨some 17,none,.bin .lss (.tmp 16) (.tmp 15)⟩])
 (.seq (.cond (.tmp 17) .skip (.exit 0))
 (.seq (.block 1 (.seq (.ops false [⟨some 18,none,.mov (.tmp 16)⟩,⟨some 19,none,.ixs 3 (.tmp 14) (.tmp 16)⟩,⟨some 20,none,.load (some 3) (.tmp 19)⟩,⟨some 7,none,.alloc [(I 0),(I 0),(I 0)]⟩,⟨some 6,none,.mov (.tmp 18)⟩,⟨none,none,.store 3 (.tmp 7) (.tmp 20)⟩])
 (.seq (.ops false [⟨some 21,none,.mov (.tmp 1)⟩,⟨some 22,none,.mov (.tmp 6)⟩,⟨some 23,none,.call (.cst (.fn (.func 72) [] [])) [(.tmp 21), (.tmp 22)]⟩,⟨some 24,none,.lnot (.tmp 23)⟩])
 (.cond (.tmp 24) (.ops false [⟨some 25,none,.fad (.tmp 5) 0⟩,⟨some 26,none,.fad (.tmp 25) 7⟩,⟨some 27,none,.load none (.tmp 26)⟩,⟨some 28,none,.load (some 3) (.tmp 7)⟩,⟨some 29,none,.bsl 3 true (.agg [(I 0),(I 0),(I 0)]) 1 [(0, (.tmp 28))]⟩,⟨some 30,none,.app false 3 24 true (.tmp 27) (.tmp 29)⟩,⟨some 31,none,.fad (.tmp 5) 0⟩,⟨some 32,none,.fad (.tmp 31) 7⟩,⟨none,none,.store 1 (.tmp 32) (.tmp 30)⟩]) .skip))))
 (.ops false [⟨some 33,none,.bin .add (.tmp 16) (.cst (I 1))⟩,⟨some 16,none,.mov (.tmp 33)⟩]))))
def keep53_0 : Option (List Nat) := some [1, 4, 5, 14, 15, 16]
def asg53_1 : MC := (.ops false [⟨some 8,none,.alloc [(I 0),(I 0),(I 0),(I 0), .nilm, .nils, .nils]⟩,⟨none,none,.store 7 (.tmp 8) (.tmp 36)⟩])
def body53_1 : MC := (.block 3 (.ops false [⟨some 37,none,.fad (.tmp 5) 8⟩,⟨some 38,none,.load none (.tmp 37)⟩,⟨some 39,none,.load (some 7) (.tmp 8)⟩,⟨some 40,none,.bsf 7 true (.agg [(I 0),(I 0),(I 0),(I 0), .nilm, .nils, .nils]) 1 [(0, (.tmp 39))]⟩,⟨some 41,none,.app false 7 88 true (.tmp 38) (.tmp 40)⟩,⟨some 42,none,.fad (.tmp 5) 8⟩,⟨none,none,.store 1 (.tmp 42) (.tmp 41)⟩]))
def code53 : MF := ⟨44, [(4, some (some 9))], (.seq (.ops false [⟨some 2,none,.box (.tmp 0)⟩,⟨some 4,none,.alloc [(I 0),(I 0), .nils, .nils, (.bool false), .nils, (.bool false), .nils, .nils]⟩])
 (.seq (.ops false [⟨some 9,none,.load (some 8) (.tmp 2)⟩,⟨some 10,none,.bld [(I 0),(I 0), .nils, .nils, (.bool false), .nils, (.bool false), .nils, .nils] [(0, 8, (.tmp 9))]⟩,⟨some 5,none,.alloc [(I 0),(I 0), .nils, .nils, (.bool false), .nils, (.bool false), .nils, .nils]⟩,⟨none,none,.store 9 (.tmp 5) (.tmp 10)⟩])
 (.seq (.ops false [⟨some 11,none,.fad (.tmp 5) 0⟩,⟨some 12,none,.fad (.tmp 11) 7⟩,⟨none,none,.store 1 (.tmp 12) (.cst .nils)⟩])
 (.seq (.seq (.ops false [⟨some 13,none,.fad (.tmp 2) 7⟩,⟨some 14,none,.load none (.tmp 13)⟩,⟨some 15,none,.len (.tmp 14)⟩,⟨some 16,none,.mov (.cst (I 0))⟩])
 (.block 0 (.loop keep53_0 body53_0)))
 (.seq (.seq (.ops false [⟨some 34,none,.load (some 9) (.tmp 5)⟩,⟨some 35,none,.call (.cst (.fn (.func 73) [] [])) [(.tmp 34)]⟩])
 (.block 2 (.range (.tmp 35) [36] asg53_1 body53_1)))
 (.seq (.ops false [⟨some 43,none,.load (some 9) (.tmp 5)⟩,⟨none,none,.store 9 (.tmp 4) (.tmp 43)⟩])
 .ret))))))⟩
theorem comp53 : compF Cv 53 = some code53 := by kernel_rfl

def code54 : MF := ⟨15, [(6, none)], (.seq (.ops false [⟨some 6,none,.mov (.cst (.bool false))⟩])
 (.seq (.ops false [⟨some 7,none,.mov (.tmp 1)⟩,⟨some 8,none,.mov (.tmp 0)⟩,⟨some 9,none,.bin .leq (.tmp 7) (.tmp 8)⟩,⟨some 10,none,.mov (.tmp 9)⟩,⟨some 11,some ((some 10), true),.mov (.tmp 0)⟩,⟨some 12,some ((some 10), true),.mov (.tmp 2)⟩,⟨some 13,some ((some 10), true),.bin .leq (.tmp 11) (.tmp 12)⟩,⟨some 14,none,.pick (.tmp 10) (.tmp 13) (.cst (.bool false))⟩,⟨some 6,none,.mov (.tmp 14)⟩])
 .ret))⟩
theorem comp54 : compF Cv 54 = some code54 := by kernel_rfl

def code55 : MF := ⟨19, [(2, some (some 2)), (3, none)], (.seq (.ops false [⟨some 2,none,.alloc [(I 0),(I 0)]⟩,⟨some 3,none,.mov (.cst (I 0))⟩])
 (.seq (.ops false [⟨some 4,none,.mov (.tmp 0)⟩,⟨some 5,none,.call (.cst (.fn (.func 75) [] [])) [(.tmp 4)]⟩,⟨some 6,none,.call (.cst (.fn (.func 74) [] [])) [(.tmp 5), (.cst (.fn (.func 76) [] []))]⟩,⟨some 0,none,.mov (.tmp 6)⟩])
 (.seq (.seq (.ops false [⟨some 7,none,.mov (.tmp 0)⟩,⟨some 8,none,.len (.tmp 7)⟩,⟨some 9,none,.bin .eql (.tmp 8) (.cst (I 0))⟩])
 (.cond (.tmp 9) (.seq (.ops false [⟨some 10,none,.bld [(I 0),(I 0)] []⟩,⟨none,none,.store 2 (.tmp 2) (.tmp 10)⟩,⟨some 3,none,.mov (.cst (I 4))⟩])
 .ret) .skip))
 (.seq (.ops false [⟨some 11,none,.mov (.tmp 0)⟩,⟨some 12,none,.ixs 1 (.tmp 11) (.cst (I 0))⟩,⟨some 13,none,.load none (.tmp 12)⟩,⟨some 14,none,.mov (.tmp 0)⟩,⟨some 15,none,.call (.cst (.fn (.func 77) [] [])) [(.tmp 13), (.tmp 14)]⟩,⟨some 16,none,.mov (.tmp 0)⟩,⟨some 17,none,.call (.cst (.fn (.func 78) [] [])) [(.tmp 16)]⟩,⟨some 18,none,.bld [(I 0),(I 0)] [(0, 1, (.tmp 15)), (1, 1, (.tmp 17))]⟩,⟨none,none,.store 2 (.tmp 2) (.tmp 18)⟩,⟨some 3,none,.mov (.cst (I 0))⟩])
 .ret))))⟩
theorem comp55 : compF Cv 55 = some code55 := by kernel_rfl

def code56 : MF := ⟨8, [(3, none)], (.seq (.ops false [⟨some 2,none,.box (.tmp 0)⟩,⟨some 3,none,.mov (.cst (I 0))⟩])
 (.seq (.ops false [⟨some 4,none,.load none (.tmp 1)⟩,⟨some 5,none,.fad (.tmp 2) 0⟩,⟨some 6,none,.ixa 4 1 (.tmp 5) (.tmp 4)⟩,⟨some 7,none,.load none (.tmp 6)⟩,⟨some 3,none,.mov (.tmp 7)⟩])
 .ret))⟩
theorem comp56 : compF Cv 56 = some code56 := by kernel_rfl

def body57_0 : MC := (.seq (.seq (.ops false [⟨some 34,none,.mov (.tmp 10)⟩,⟨some 35,none,.fad (.tmp 2) 7⟩,⟨some 36,none,.load none (.tmp 35)⟩,⟨some 37,none,.len (.tmp 36)⟩,⟨some 38,none,.bin .lss (.tmp 34) (.tmp 37)⟩])
 (.cond (.tmp 38) .skip (.exit 0)))
 (.seq (.block 1 (.seq (.ops false [⟨some 42,none,.load none (.tmp 3)⟩,⟨some 43,none,.mov (.tmp 0)⟩,⟨some 44,none,.mov (.tmp 8)⟩,⟨some 45,none,.mov (.tmp 8)⟩,⟨some 46,none,.slc 1 (.tmp 43) none (some (.tmp 44)) (some (.tmp 45))⟩,⟨some 47,none,.mov (.tmp 10)⟩,⟨some 48,none,.bsl 1 false (I 0) 1 [(0, (.tmp 47))]⟩,⟨some 49,none,.app false 1 8 false (.tmp 46) (.tmp 48)⟩,⟨some 50,none,.mov (.tmp 1)⟩,⟨some 51,none,.call (.tmp 42) [(.tmp 49), (.tmp 50)]⟩,⟨some 41,none,.mov (.tmp 51)⟩,⟨some 52,none,.ext (.tmp 41) 0⟩,⟨some 53,none,.ext (.tmp 41) 1⟩,⟨some 11,none,.mov (.tmp 52)⟩,⟨some 12,none,.mov (.tmp 53)⟩])
 (.seq (.ops false [⟨some 54,none,.mov (.tmp 12)⟩])
 (.cond (.tmp 54) (.seq (.ops false [⟨some 55,none,.mov (.tmp 11)⟩,⟨some 6,none,.mov (.tmp 55)⟩,⟨some 7,none,.mov (.cst (.bool true))⟩])
 .ret) .skip))))
 (.ops false [⟨some 39,none,.mov (.tmp 10)⟩,⟨some 40,none,.bin .add (.tmp 39) (.cst (I 1))⟩,⟨some 10,none,.mov (.tmp 40)⟩])))
def keep57_0 : Option (List Nat) := some [0, 1, 2, 3, 8, 10]
def code57 : MF := ⟨56, [(6, none), (7, none)], (.seq (.ops false [⟨some 6,none,.mov (.cst .nils)⟩,⟨some 7,none,.mov (.cst (.bool false))⟩])
 (.seq (.ops false [⟨some 13,none,.mov (.tmp 0)⟩,⟨some 14,none,.len (.tmp 13)⟩,⟨some 8,none,.mov (.tmp 14)⟩])
 (.seq (.seq (.ops false [⟨some 15,none,.mov (.tmp 8)⟩,⟨some 16,none,.mov (.tmp 1)⟩,⟨some 17,none,.bin .eql (.tmp 15) (.tmp 16)⟩])
 (.cond (.tmp 17) (.seq (.ops false [⟨some 18,none,.mov (.tmp 0)⟩,⟨some 19,none,.load (some 8) (.tmp 2)⟩,⟨some 20,none,.mov (.tmp 0)⟩,⟨some 21,none,.call (.cst (.fn (.func 53) [] [])) [(.tmp 19), (.tmp 20)]⟩,⟨some 22,none,.fld none (.tmp 21) 8⟩,⟨some 23,none,.len (.tmp 22)⟩,⟨some 24,none,.bin .gtr (.tmp 23) (.cst (I 0))⟩,⟨some 6,none,.mov (.tmp 18)⟩,⟨some 7,none,.mov (.tmp 24)⟩])
 .ret) .skip))
 (.seq (.ops false [⟨some 9,none,.mov (.cst (I 0))⟩])
 (.seq (.seq (.ops false [⟨some 25,none,.mov (.tmp 8)⟩,⟨some 26,none,.bin .gtr (.tmp 25) (.cst (I 0))⟩])
 (.cond (.tmp 26) (.ops false [⟨some 27,none,.mov (.tmp 0)⟩,⟨some 28,none,.mov (.tmp 8)⟩,⟨some 29,none,.bin .sub (.tmp 28) (.cst (I 1))⟩,⟨some 30,none,.ixs 1 (.tmp 27) (.tmp 29)⟩,⟨some 31,none,.load none (.tmp 30)⟩,⟨some 32,none,.bin .add (.tmp 31) (.cst (I 1))⟩,⟨some 9,none,.mov (.tmp 32)⟩]) .skip))
 (.seq (.seq (.ops false [⟨some 33,none,.mov (.tmp 9)⟩,⟨some 10,none,.mov (.tmp 33)⟩])
 (.block 0 (.loop keep57_0 body57_0)))
 (.seq (.ops false [⟨some 6,none,.mov (.cst .nils)⟩,⟨some 7,none,.mov (.cst (.bool false))⟩])
 .ret)))))))⟩
theorem comp57 : compF Cv 57 = some code57 := by kernel_rfl

def code58 : MF := ⟨12, [(4, none)], (.seq (.ops false [⟨some 3,none,.box (.tmp 0)⟩,⟨some 4,none,.mov (.cst (I 0))⟩])
 (.seq (.ops false [⟨some 5,none,.fad (.tmp 3) 4⟩,⟨some 6,none,.load none (.tmp 5)⟩,⟨some 7,none,.load none (.tmp 1)⟩,⟨some 8,none,.load none (.tmp 2)⟩,⟨some 9,none,.bld [(I 0),(I 0)] [(0, 1, (.tmp 7)), (1, 1, (.tmp 8))]⟩,⟨some 10,none,.lkp (some 2) (.agg [(I 0),(I 0),(I 0),(I 0)]) (.tmp 6) (.tmp 9) false⟩,⟨some 11,none,.fld none (.tmp 10) 3⟩,⟨some 4,none,.mov (.tmp 11)⟩])
 .ret))⟩
theorem comp58 : compF Cv 58 = some code58 := by kernel_rfl

def body59_0 : MC := (.seq (.ops false [⟨some 13,none,.bin .lss (.tmp 12) (.tmp 11)⟩])
 (.seq (.cond (.tmp 13) .skip (.exit 0))
 (.seq (.block 1 (.seq (.ops false [⟨some 14,none,.ixs 7 (.tmp 10) (.tmp 12)⟩,⟨some 15,none,.load (some 7) (.tmp 14)⟩,⟨some 8,none,.alloc [(I 0),(I 0),(I 0),(I 0), .nilm, .nils, .nils]⟩,⟨none,none,.store 7 (.tmp 8) (.tmp 15)⟩])
 (.seq (.ops false [⟨some 16,none,.mov (.tmp 1)⟩,⟨some 17,none,.load (some 7) (.tmp 8)⟩,⟨some 18,none,.call (.tmp 16) [(.tmp 17)]⟩])
 (.cond (.tmp 18) (.ops false [⟨some 5,none,.mov (.cst (.bool true))⟩]) (.ops false [⟨some 6,none,.mov (.cst (.bool true))⟩])))))
 (.ops false [⟨some 19,none,.bin .add (.tmp 12) (.cst (I 1))⟩,⟨some 12,none,.mov (.tmp 19)⟩]))))
def keep59_0 : Option (List Nat) := some [1, 5, 6, 10, 11, 12]
def code59 : MF := ⟨25, [(4, none)], (.seq (.ops false [⟨some 2,none,.box (.tmp 0)⟩,⟨some 4,none,.mov (.cst (I 0))⟩])
 (.seq (.ops false [⟨some 5,none,.mov (.cst (.bool false))⟩,⟨some 6,none,.mov (.cst (.bool false))⟩])
 (.seq (.seq (.ops false [⟨some 9,none,.fad (.tmp 2) 8⟩,⟨some 10,none,.load none (.tmp 9)⟩,⟨some 11,none,.len (.tmp 10)⟩,⟨some 12,none,.mov (.cst (I 0))⟩])
 (.block 0 (.loop keep59_0 body59_0)))
 (.seq (.block 2 (.seq (.ops false [⟨some 21,none,.mov (.tmp 5)⟩,⟨some 22,none,.lnot (.tmp 21)⟩,⟨some 20,none,.mov (.tmp 22)⟩])
 (.cond (.tmp 20) (.seq (.ops false [⟨some 4,none,.mov (.cst (I 0))⟩])
 .ret) (.seq (.ops false [⟨some 24,none,.mov (.tmp 6)⟩,⟨some 23,none,.mov (.tmp 24)⟩])
 (.cond (.tmp 23) (.seq (.ops false [⟨some 4,none,.mov (.cst (I 1))⟩])
 .ret) .skip)))))
 (.seq (.ops false [⟨some 4,none,.mov (.cst (I 2))⟩])
 .ret)))))⟩
theorem comp59 : compF Cv 59 = some code59 := by kernel_rfl

def code60 : MF := ⟨28, [(3, none)], (.seq (.ops false [⟨some 2,none,.box (.tmp 0)⟩,⟨some 3,none,.mov (.cst (.bool false))⟩])
 (.seq (.ops true [⟨some 4,none,.mov (.cst .any)⟩,⟨some 5,none,.mov (.cst .any)⟩,⟨some 6,none,.fad (.tmp 2) 4⟩,⟨some 7,none,.load none (.tmp 6)⟩,⟨some 8,none,.load none (.tmp 1)⟩,⟨some 9,none,.bld [(I 0),(I 0)] [(0, 1, (.cst (I 0))), (1, 1, (.tmp 8))]⟩,⟨some 10,none,.lkp (some 2) (.agg [(I 0),(I 0),(I 0),(I 0)]) (.tmp 7) (.tmp 9) false⟩,⟨some 11,none,.fad (.tmp 2) 4⟩,⟨some 12,none,.load none (.tmp 11)⟩,⟨some 13,none,.load none (.tmp 1)⟩,⟨some 14,none,.bld [(I 0),(I 0)] [(0, 1, (.cst (I 1))), (1, 1, (.tmp 13))]⟩,⟨some 15,none,.lkp (some 2) (.agg [(I 0),(I 0),(I 0),(I 0)]) (.tmp 12) (.tmp 14) false⟩,⟨some 4,none,.alloc [(I 0),(I 0),(I 0),(I 0)]⟩,⟨none,none,.store 4 (.tmp 4) (.tmp 10)⟩,⟨some 5,none,.alloc [(I 0),(I 0),(I 0),(I 0)]⟩,⟨none,none,.store 4 (.tmp 5) (.tmp 15)⟩])
 (.seq (.ops false [⟨some 16,none,.fad (.tmp 4) 0⟩,⟨some 17,none,.load none (.tmp 16)⟩,⟨some 18,none,.fad (.tmp 5) 0⟩,⟨some 19,none,.load none (.tmp 18)⟩,⟨some 20,none,.bin .eql (.tmp 17) (.tmp 19)⟩,⟨some 21,none,.mov (.tmp 20)⟩,⟨some 22,some ((some 21), true),.fad (.tmp 4) 1⟩,⟨some 23,some ((some 21), true),.load none (.tmp 22)⟩,⟨some 24,some ((some 21), true),.fad (.tmp 5) 1⟩,⟨some 25,some ((some 21), true),.load none (.tmp 24)⟩,⟨some 26,some ((some 21), true),.bin .eql (.tmp 23) (.tmp 25)⟩,⟨some 27,none,.pick (.tmp 21) (.tmp 26) (.cst (.bool false))⟩,⟨some 3,none,.mov (.tmp 27)⟩])
 .ret)))⟩
theorem comp60 : compF Cv 60 = some code60 := by kernel_rfl

def code61 : MF := ⟨9, [(6, some (some 1))], (.seq (.ops false [⟨some 3,none,.box (.tmp 0)⟩,⟨some 4,none,.box (.tmp 1)⟩,⟨some 5,none,.box (.tmp 2)⟩,⟨some 6,none,.alloc [.nilf]⟩])
 (.seq (.ops false [⟨some 7,none,.mkf (.func 79) [] [(.tmp 3), (.tmp 4), (.tmp 5)]⟩,⟨some 8,none,.bld [.nilf] [(0, 1, (.tmp 7))]⟩,⟨none,none,.store 1 (.tmp 6) (.tmp 8)⟩])
 .ret))⟩
theorem comp61 : compF Cv 61 = some code61 := by kernel_rfl

def code62 : MF := ⟨9, [(3, none)], (.seq (.ops false [⟨some 2,none,.box (.tmp 0)⟩,⟨some 3,none,.mov (.cst (.bool false))⟩])
 (.seq (.ops false [⟨some 4,none,.fad (.tmp 1) 0⟩,⟨some 5,none,.load none (.tmp 4)⟩,⟨some 6,none,.load (some 7) (.tmp 2)⟩,⟨some 7,none,.call (.tmp 5) [(.tmp 6)]⟩,⟨some 8,none,.bin .geq (.tmp 7) (.cst (I 0))⟩,⟨some 3,none,.mov (.tmp 8)⟩])
 .ret))⟩
theorem comp62 : compF Cv 62 = some code62 := by kernel_rfl

def code63 : MF := ⟨27, [(6, none), (7, none)], (.seq (.ops false [⟨some 3,none,.box (.tmp 0)⟩,⟨some 5,none,.box (.tmp 2)⟩,⟨some 6,none,.mov (.cst (I 0))⟩,⟨some 7,none,.mov (.cst (I 0))⟩])
 (.seq (.ops false [⟨some 9,none,.mov (.tmp 1)⟩,⟨some 10,none,.fad (.tmp 3) 0⟩,⟨some 11,none,.fad (.tmp 10) 3⟩,⟨some 12,none,.ixa 2 2 (.tmp 11) (.tmp 9)⟩,⟨some 13,none,.fad (.tmp 12) 0⟩,⟨some 14,none,.load none (.tmp 13)⟩,⟨some 8,none,.mov (.tmp 14)⟩])
 (.seq (.ops false [⟨some 15,none,.mov (.tmp 8)⟩,⟨some 16,none,.mkf (.func 81) [] [(.tmp 3), (.tmp 5)]⟩,⟨some 17,none,.call (.cst (.fn (.func 80) [] [])) [(.tmp 15), (.tmp 16)]⟩,⟨some 6,none,.mov (.tmp 17)⟩])
 (.seq (.seq (.ops false [⟨some 18,none,.mov (.tmp 6)⟩,⟨some 19,none,.bin .lss (.tmp 18) (.cst (I 0))⟩])
 (.cond (.tmp 19) (.seq (.ops false [⟨some 20,none,.mov (.tmp 6)⟩,⟨some 6,none,.mov (.tmp 20)⟩,⟨some 7,none,.mov (.cst (I 0))⟩])
 .ret) .skip))
 (.seq (.ops false [⟨some 21,none,.mov (.tmp 6)⟩,⟨some 22,none,.mov (.tmp 8)⟩,⟨some 23,none,.mov (.tmp 6)⟩,⟨some 24,none,.ixs 3 (.tmp 22) (.tmp 23)⟩,⟨some 25,none,.fad (.tmp 24) 2⟩,⟨some 26,none,.load none (.tmp 25)⟩,⟨some 6,none,.mov (.tmp 21)⟩,⟨some 7,none,.mov (.tmp 26)⟩])
 .ret)))))⟩
theorem comp63 : compF Cv 63 = some code63 := by kernel_rfl

def body64_0 : MC := (.seq (.ops false [⟨some 12,none,.bin .lss (.tmp 11) (.tmp 10)⟩])
 (.seq (.cond (.tmp 12) .skip (.exit 0))
 (.seq (.block 1 (.seq (.ops false [⟨some 13,none,.mov (.tmp 11)⟩,⟨some 14,none,.ixs 1 (.tmp 9) (.tmp 11)⟩,⟨some 15,none,.load none (.tmp 14)⟩,⟨some 5,none,.mov (.tmp 13)⟩,⟨some 6,none,.mov (.tmp 15)⟩])
 (.seq (.seq (.ops false [⟨some 16,none,.mov (.tmp 5)⟩,⟨some 17,none,.mov (.tmp 1)⟩,⟨some 18,none,.len (.tmp 17)⟩,⟨some 19,none,.bin .geq (.tmp 16) (.tmp 18)⟩])
 (.cond (.tmp 19) (.seq (.ops false [⟨some 4,none,.mov (.cst (I 1))⟩])
 .ret) .skip))
 (.seq (.ops false [⟨some 20,none,.mov (.tmp 1)⟩,⟨some 21,none,.mov (.tmp 5)⟩,⟨some 22,none,.ixs 1 (.tmp 20) (.tmp 21)⟩,⟨some 23,none,.load none (.tmp 22)⟩,⟨some 7,none,.mov (.tmp 23)⟩])
 (.seq (.ops false [⟨some 24,none,.mov (.tmp 6)⟩,⟨some 25,none,.mov (.tmp 7)⟩,⟨some 26,none,.call (.cst (.fn (.func 82) [] [])) [(.tmp 24), (.tmp 25)]⟩,⟨some 8,none,.mov (.tmp 26)⟩])
 (.seq (.ops false [⟨some 27,none,.mov (.tmp 8)⟩,⟨some 28,none,.bin .neq (.tmp 27) (.cst (I 0))⟩])
 (.cond (.tmp 28) (.seq (.ops false [⟨some 29,none,.mov (.tmp 8)⟩,⟨some 4,none,.mov (.tmp 29)⟩])
 .ret) .skip)))))))
 (.ops false [⟨some 30,none,.bin .add (.tmp 11) (.cst (I 1))⟩,⟨some 11,none,.mov (.tmp 30)⟩]))))
def keep64_0 : Option (List Nat) := some [0, 1, 9, 10, 11]
def code64 : MF := ⟨36, [(4, none)], (.seq (.ops false [⟨some 4,none,.mov (.cst (I 0))⟩])
 (.seq (.seq (.ops false [⟨some 9,none,.mov (.tmp 0)⟩,⟨some 10,none,.len (.tmp 9)⟩,⟨some 11,none,.mov (.cst (I 0))⟩])
 (.block 0 (.loop keep64_0 body64_0)))
 (.seq (.seq (.ops false [⟨some 31,none,.mov (.tmp 0)⟩,⟨some 32,none,.len (.tmp 31)⟩,⟨some 33,none,.mov (.tmp 1)⟩,⟨some 34,none,.len (.tmp 33)⟩,⟨some 35,none,.bin .lss (.tmp 32) (.tmp 34)⟩])
 (.cond (.tmp 35) (.seq (.ops false [⟨some 4,none,.mov (.cst (I (-1)))⟩])
 .ret) .skip))
 (.seq (.ops false [⟨some 4,none,.mov (.cst (I 0))⟩])
 .ret))))⟩
theorem comp64 : compF Cv 64 = some code64 := by kernel_rfl

def code65 : MF := ⟨18, [(4, none)], (.seq (.ops false [⟨some 4,none,.mov (.cst (.bool false))⟩])
 (.seq (.ops false [⟨some 5,none,.mov (.tmp 1)⟩,⟨some 6,none,.bin .geq (.tmp 5) (.cst (I 0))⟩,⟨some 7,none,.mov (.tmp 6)⟩,⟨some 8,some ((some 7), true),.mov (.tmp 1)⟩,⟨some 9,some ((some 7), true),.bin .lss (.tmp 8) (.cst (I 62))⟩,⟨some 10,none,.pick (.tmp 7) (.tmp 9) (.cst (.bool false))⟩,⟨some 11,none,.mov (.tmp 10)⟩,⟨some 12,some ((some 11), true),.mov (.tmp 0)⟩,⟨some 13,some ((some 11), true),.mov (.tmp 1)⟩,⟨some 14,some ((some 11), true),.bin .shr (.tmp 12) (.tmp 13)⟩,⟨some 15,some ((some 11), true),.bin .and (.tmp 14) (.cst (I 1))⟩,⟨some 16,some ((some 11), true),.bin .eql (.tmp 15) (.cst (I 1))⟩,⟨some 17,none,.pick (.tmp 11) (.tmp 16) (.cst (.bool false))⟩,⟨some 4,none,.mov (.tmp 17)⟩])
 .ret))⟩
theorem comp65 : compF Cv 65 = some code65 := by kernel_rfl

def body66_0 : MC := (.seq (.seq (.ops false [⟨some 6,none,.mov (.tmp 5)⟩,⟨some 7,none,.mov (.tmp 0)⟩,⟨some 8,none,.len (.tmp 7)⟩,⟨some 9,none,.bin .lss (.tmp 6) (.tmp 8)⟩,⟨some 10,none,.mov (.tmp 9)⟩,⟨some 11,some ((some 10), true),.mov (.tmp 5)⟩,⟨some 12,some ((some 10), true),.mov (.tmp 1)⟩,⟨some 13,some ((some 10), true),.len (.tmp 12)⟩,⟨some 14,some ((some 10), true),.bin .lss (.tmp 11) (.tmp 13)⟩,⟨some 15,none,.pick (.tmp 10) (.tmp 14) (.cst (.bool false))⟩])
 (.cond (.tmp 15) .skip (.exit 0)))
 (.seq (.block 1 (.seq (.ops false [⟨some 18,none,.mov (.tmp 0)⟩,⟨some 19,none,.mov (.tmp 5)⟩,⟨some 20,none,.ixs 1 (.tmp 18) (.tmp 19)⟩,⟨some 21,none,.load none (.tmp 20)⟩,⟨some 22,none,.mov (.tmp 1)⟩,⟨some 23,none,.mov (.tmp 5)⟩,⟨some 24,none,.ixs 1 (.tmp 22) (.tmp 23)⟩,⟨some 25,none,.load none (.tmp 24)⟩,⟨some 26,none,.bin .neq (.tmp 21) (.tmp 25)⟩])
 (.cond (.tmp 26) (.seq (.ops false [⟨some 27,none,.mov (.tmp 0)⟩,⟨some 28,none,.mov (.tmp 5)⟩,⟨some 29,none,.ixs 1 (.tmp 27) (.tmp 28)⟩,⟨some 30,none,.load none (.tmp 29)⟩,⟨some 31,none,.mov (.tmp 1)⟩,⟨some 32,none,.mov (.tmp 5)⟩,⟨some 33,none,.ixs 1 (.tmp 31) (.tmp 32)⟩,⟨some 34,none,.load none (.tmp 33)⟩,⟨some 35,none,.bin .lss (.tmp 30) (.tmp 34)⟩,⟨some 4,none,.mov (.tmp 35)⟩])
 .ret) .skip)))
 (.ops false [⟨some 16,none,.mov (.tmp 5)⟩,⟨some 17,none,.bin .add (.tmp 16) (.cst (I 1))⟩,⟨some 5,none,.mov (.tmp 17)⟩])))
def keep66_0 : Option (List Nat) := some [0, 1, 5]
def code66 : MF := ⟨41, [(4, none)], (.seq (.ops false [⟨some 4,none,.mov (.cst (.bool false))⟩])
 (.seq (.seq (.ops false [⟨some 5,none,.mov (.cst (I 0))⟩])
 (.block 0 (.loop keep66_0 body66_0)))
 (.seq (.ops false [⟨some 36,none,.mov (.tmp 0)⟩,⟨some 37,none,.len (.tmp 36)⟩,⟨some 38,none,.mov (.tmp 1)⟩,⟨some 39,none,.len (.tmp 38)⟩,⟨some 40,none,.bin .lss (.tmp 37) (.tmp 39)⟩,⟨some 4,none,.mov (.tmp 40)⟩])
 .ret)))⟩
theorem comp66 : compF Cv 66 = some code66 := by kernel_rfl

def code67 : MF := ⟨12, [(6, some (some 3))], (.seq (.ops false [⟨some 6,none,.alloc [(I 0),(I 0),(I 0)]⟩])
 (.seq (.ops false [⟨some 7,none,.mov (.tmp 0)⟩,⟨some 8,none,.mov (.tmp 1)⟩,⟨some 9,none,.call (.cst (.fn (.func 42) [] [])) [(.tmp 7), (.tmp 8)]⟩,⟨some 10,none,.mov (.tmp 2)⟩,⟨some 11,none,.bld [(I 0),(I 0),(I 0)] [(0, 2, (.tmp 9)), (2, 1, (.tmp 10))]⟩,⟨none,none,.store 3 (.tmp 6) (.tmp 11)⟩])
 .ret))⟩
theorem comp67 : compF Cv 67 = some code67 := by kernel_rfl

def code68 : MF := ⟨11, [(6, some (some 3))], (.seq (.ops false [⟨some 6,none,.alloc [(I 0),(I 0),(I 0)]⟩])
 (.seq (.ops false [⟨some 7,none,.mov (.tmp 0)⟩,⟨some 8,none,.mov (.tmp 1)⟩,⟨some 9,none,.mov (.tmp 2)⟩,⟨some 10,none,.bld [(I 0),(I 0),(I 0)] [(0, 1, (.tmp 7)), (1, 1, (.tmp 8)), (2, 1, (.tmp 9))]⟩,⟨none,none,.store 3 (.tmp 6) (.tmp 10)⟩])
 .ret))⟩
theorem comp68 : compF Cv 68 = some code68 := by kernel_rfl

def body70_0 : MC := (.seq (.seq (.ops false [⟨some 29,none,.mov (.tmp 5)⟩,⟨some 30,none,.mov (.tmp 4)⟩,⟨some 31,none,.len (.tmp 30)⟩,⟨some 32,none,.bin .lss (.tmp 29) (.tmp 31)⟩])
 (.cond (.tmp 32) .skip (.exit 2)))
 (.seq (.block 3 (.seq (.ops false [⟨some 35,none,.mov (.tmp 4)⟩,⟨some 36,none,.mov (.tmp 5)⟩,⟨some 37,none,.ixs 1 (.tmp 35) (.tmp 36)⟩,⟨some 38,none,.load none (.tmp 37)⟩,⟨some 39,none,.mov (.tmp 4)⟩,⟨some 40,none,.mov (.tmp 5)⟩,⟨some 41,none,.bin .sub (.tmp 40) (.cst (I 1))⟩,⟨some 42,none,.ixs 1 (.tmp 39) (.tmp 41)⟩,⟨some 43,none,.load none (.tmp 42)⟩,⟨some 44,none,.bin .neq (.tmp 38) (.tmp 43)⟩])
 (.cond (.tmp 44) (.seq (.ops false [⟨some 45,none,.mov (.tmp 0)⟩,⟨some 46,none,.mov (.tmp 3)⟩,⟨some 47,none,.mov (.tmp 4)⟩,⟨some 48,none,.mov (.tmp 5)⟩,⟨some 49,none,.ixs 1 (.tmp 47) (.tmp 48)⟩,⟨some 50,none,.load none (.tmp 49)⟩,⟨some 51,none,.ixs 1 (.tmp 45) (.tmp 46)⟩,⟨none,none,.store 1 (.tmp 51) (.tmp 50)⟩])
 (.ops false [⟨some 52,none,.mov (.tmp 3)⟩,⟨some 53,none,.bin .add (.tmp 52) (.cst (I 1))⟩,⟨some 3,none,.mov (.tmp 53)⟩])) .skip)))
 (.ops false [⟨some 33,none,.mov (.tmp 5)⟩,⟨some 34,none,.bin .add (.tmp 33) (.cst (I 1))⟩,⟨some 5,none,.mov (.tmp 34)⟩])))
def keep70_0 : Option (List Nat) := some [0, 3, 4, 5]
def body70_1 : MC := (.seq (.seq (.ops false [⟨some 10,none,.mov (.tmp 3)⟩,⟨some 11,none,.mov (.tmp 0)⟩,⟨some 12,none,.len (.tmp 11)⟩,⟨some 13,none,.bin .lss (.tmp 10) (.tmp 12)⟩])
 (.cond (.tmp 13) .skip (.exit 0)))
 (.seq (.block 1 (.seq (.ops false [⟨some 16,none,.mov (.tmp 0)⟩,⟨some 17,none,.mov (.tmp 3)⟩,⟨some 18,none,.ixs 1 (.tmp 16) (.tmp 17)⟩,⟨some 19,none,.load none (.tmp 18)⟩,⟨some 20,none,.mov (.tmp 0)⟩,⟨some 21,none,.mov (.tmp 3)⟩,⟨some 22,none,.bin .sub (.tmp 21) (.cst (I 1))⟩,⟨some 23,none,.ixs 1 (.tmp 20) (.tmp 22)⟩,⟨some 24,none,.load none (.tmp 23)⟩,⟨some 25,none,.bin .eql (.tmp 19) (.tmp 24)⟩])
 (.cond (.tmp 25) (.seq (.ops false [⟨some 26,none,.mov (.tmp 0)⟩,⟨some 27,none,.mov (.tmp 3)⟩,⟨some 28,none,.slc 1 (.tmp 26) (some (.tmp 27)) none none⟩,⟨some 4,none,.mov (.tmp 28)⟩])
 (.seq (.seq (.ops false [⟨some 5,none,.mov (.cst (I 1))⟩])
 (.block 2 (.loop keep70_0 body70_0)))
 (.seq (.ops false [⟨some 54,none,.mov (.tmp 0)⟩,⟨some 55,none,.mov (.tmp 3)⟩,⟨some 56,none,.slc 1 (.tmp 54) (some (.tmp 55)) none none⟩,⟨none,none,.clr 1 [(I 0)] (.tmp 56)⟩])
 (.seq (.ops false [⟨some 57,none,.mov (.tmp 0)⟩,⟨some 58,none,.mov (.tmp 3)⟩,⟨some 59,none,.slc 1 (.tmp 57) none (some (.tmp 58)) none⟩,⟨some 2,none,.mov (.tmp 59)⟩])
 .ret)))) .skip)))
 (.ops false [⟨some 14,none,.mov (.tmp 3)⟩,⟨some 15,none,.bin .add (.tmp 14) (.cst (I 1))⟩,⟨some 3,none,.mov (.tmp 15)⟩])))
def keep70_1 : Option (List Nat) := some [0, 3]
def code70 : MF := ⟨61, [(2, none)], (.seq (.ops false [⟨some 2,none,.mov (.cst .nils)⟩])
 (.seq (.seq (.ops false [⟨some 6,none,.mov (.tmp 0)⟩,⟨some 7,none,.len (.tmp 6)⟩,⟨some 8,none,.bin .lss (.tmp 7) (.cst (I 2))⟩])
 (.cond (.tmp 8) (.seq (.ops false [⟨some 9,none,.mov (.tmp 0)⟩,⟨some 2,none,.mov (.tmp 9)⟩])
 .ret) .skip))
 (.seq (.seq (.ops false [⟨some 3,none,.mov (.cst (I 1))⟩])
 (.block 0 (.loop keep70_1 body70_1)))
 (.seq (.ops false [⟨some 60,none,.mov (.tmp 0)⟩,⟨some 2,none,.mov (.tmp 60)⟩])
 .ret))))⟩
theorem comp70 : compF Cv 70 = some code70 := by kernel_rfl

def body71_0 : MC := (.seq (.ops false [⟨some 9,none,.bin .lss (.tmp 8) (.tmp 7)⟩])
 (.seq (.cond (.tmp 9) .skip (.exit 0))
 (.seq (.block 1 (.seq (.ops false [⟨some 10,none,.mov (.tmp 8)⟩,⟨some 5,none,.mov (.tmp 10)⟩])
 (.seq (.ops false [⟨some 11,none,.mov (.tmp 1)⟩,⟨some 12,none,.mov (.tmp 0)⟩,⟨some 13,none,.mov (.tmp 5)⟩,⟨some 14,none,.ixs 7 (.tmp 12) (.tmp 13)⟩,⟨some 15,none,.load (some 7) (.tmp 14)⟩,⟨some 16,none,.call (.tmp 11) [(.tmp 15)]⟩])
 (.cond (.tmp 16) (.seq (.ops false [⟨some 17,none,.mov (.tmp 5)⟩,⟨some 4,none,.mov (.tmp 17)⟩])
 .ret) .skip))))
 (.ops false [⟨some 18,none,.bin .add (.tmp 8) (.cst (I 1))⟩,⟨some 8,none,.mov (.tmp 18)⟩]))))
def keep71_0 : Option (List Nat) := some [0, 1, 7, 8]
def code71 : MF := ⟨19, [(4, none)], (.seq (.ops false [⟨some 4,none,.mov (.cst (I 0))⟩])
 (.seq (.seq (.ops false [⟨some 6,none,.mov (.tmp 0)⟩,⟨some 7,none,.len (.tmp 6)⟩,⟨some 8,none,.mov (.cst (I 0))⟩])
 (.block 0 (.loop keep71_0 body71_0)))
 (.seq (.ops false [⟨some 4,none,.mov (.cst (I (-1)))⟩])
 .ret)))⟩
theorem comp71 : compF Cv 71 = some code71 := by kernel_rfl

def code72 : MF := ⟨9, [(4, none)], (.seq (.ops false [⟨some 4,none,.mov (.cst (.bool false))⟩])
 (.seq (.ops false [⟨some 5,none,.mov (.tmp 0)⟩,⟨some 6,none,.mov (.tmp 1)⟩,⟨some 7,none,.call (.cst (.fn (.func 85) [] [])) [(.tmp 5), (.tmp 6)]⟩,⟨some 8,none,.bin .geq (.tmp 7) (.cst (I 0))⟩,⟨some 4,none,.mov (.tmp 8)⟩])
 .ret))⟩
theorem comp72 : compF Cv 72 = some code72 := by kernel_rfl

def code73 : MF := ⟨4, [(2, none)], (.seq (.ops false [⟨some 1,none,.box (.tmp 0)⟩,⟨some 2,none,.mov (.cst .nilf)⟩])
 (.seq (.ops false [⟨some 3,none,.mkf (.func 86) [] [(.tmp 1)]⟩,⟨some 2,none,.mov (.tmp 3)⟩])
 .ret))⟩
theorem comp73 : compF Cv 73 = some code73 := by kernel_rfl

def body74_0 : MC := (.seq (.seq (.ops false [⟨some 16,none,.mov (.tmp 6)⟩,⟨some 17,none,.mov (.tmp 0)⟩,⟨some 18,none,.len (.tmp 17)⟩,⟨some 19,none,.bin .lss (.tmp 16) (.tmp 18)⟩])
 (.cond (.tmp 19) .skip (.exit 0)))
 (.seq (.block 1 (.seq (.ops false [⟨some 22,none,.mov (.tmp 0)⟩,⟨some 23,none,.mov (.tmp 6)⟩,⟨some 24,none,.ixs 1 (.tmp 22) (.tmp 23)⟩,⟨some 25,none,.load none (.tmp 24)⟩,⟨some 7,none,.mov (.tmp 25)⟩])
 (.seq (.ops false [⟨some 26,none,.mov (.tmp 1)⟩,⟨some 27,none,.mov (.tmp 7)⟩,⟨some 28,none,.call (.tmp 26) [(.tmp 27)]⟩,⟨some 29,none,.lnot (.tmp 28)⟩])
 (.cond (.tmp 29) (.seq (.ops false [⟨some 30,none,.mov (.tmp 0)⟩,⟨some 31,none,.mov (.tmp 5)⟩,⟨some 32,none,.mov (.tmp 7)⟩,⟨some 33,none,.ixs 1 (.tmp 30) (.tmp 31)⟩,⟨none,none,.store 1 (.tmp 33) (.tmp 32)⟩])
 (.ops false [⟨some 34,none,.mov (.tmp 5)⟩,⟨some 35,none,.bin .add (.tmp 34) (.cst (I 1))⟩,⟨some 5,none,.mov (.tmp 35)⟩])) .skip))))
 (.ops false [⟨some 20,none,.mov (.tmp 6)⟩,⟨some 21,none,.bin .add (.tmp 20) (.cst (I 1))⟩,⟨some 6,none,.mov (.tmp 21)⟩])))
def keep74_0 : Option (List Nat) := some [0, 1, 5, 6]
def code74 : MF := ⟨42, [(4, none)], (.seq (.ops false [⟨some 4,none,.mov (.cst .nils)⟩])
 (.seq (.ops false [⟨some 8,none,.mov (.tmp 0)⟩,⟨some 9,none,.mov (.tmp 1)⟩,⟨some 10,none,.call (.cst (.fn (.func 90) [] [])) [(.tmp 8), (.tmp 9)]⟩,⟨some 5,none,.mov (.tmp 10)⟩])
 (.seq (.seq (.ops false [⟨some 11,none,.mov (.tmp 5)⟩,⟨some 12,none,.bin .eql (.tmp 11) (.cst (I (-1)))⟩])
 (.cond (.tmp 12) (.seq (.ops false [⟨some 13,none,.mov (.tmp 0)⟩,⟨some 4,none,.mov (.tmp 13)⟩])
 .ret) .skip))
 (.seq (.seq (.ops false [⟨some 14,none,.mov (.tmp 5)⟩,⟨some 15,none,.bin .add (.tmp 14) (.cst (I 1))⟩,⟨some 6,none,.mov (.tmp 15)⟩])
 (.block 0 (.loop keep74_0 body74_0)))
 (.seq (.ops false [⟨some 36,none,.mov (.tmp 0)⟩,⟨some 37,none,.mov (.tmp 5)⟩,⟨some 38,none,.slc 1 (.tmp 36) (some (.tmp 37)) none none⟩,⟨none,none,.clr 1 [(I 0)] (.tmp 38)⟩])
 (.seq (.ops false [⟨some 39,none,.mov (.tmp 0)⟩,⟨some 40,none,.mov (.tmp 5)⟩,⟨some 41,none,.slc 1 (.tmp 39) none (some (.tmp 40)) none⟩,⟨some 4,none,.mov (.tmp 41)⟩])
 .ret))))))⟩
theorem comp74 : compF Cv 74 = some code74 := by kernel_rfl

def code75 : MF := ⟨8, [(2, none)], (.seq (.ops false [⟨some 2,none,.mov (.cst .nils)⟩])
 (.seq (.seq (.ops false [⟨some 3,none,.mov (.tmp 0)⟩,⟨some 4,none,.eqn false (.tmp 3)⟩])
 (.cond (.tmp 4) (.seq (.ops false [⟨some 2,none,.mov (.cst .nils)⟩])
 .ret) .skip))
 (.seq (.ops false [⟨some 5,none,.bsl 1 false (I 0) 0 []⟩,⟨some 6,none,.mov (.tmp 0)⟩,⟨some 7,none,.app true 1 8 false (.tmp 5) (.tmp 6)⟩,⟨some 2,none,.mov (.tmp 7)⟩])
 .ret)))⟩
theorem comp75 : compF Cv 75 = some code75 := by kernel_rfl

def code76 : MF := ⟨5, [(2, none)], (.seq (.ops false [⟨some 2,none,.mov (.cst (.bool false))⟩])
 (.seq (.ops false [⟨some 3,none,.mov (.tmp 0)⟩,⟨some 4,none,.bin .lss (.tmp 3) (.cst (I 0))⟩,⟨some 2,none,.mov (.tmp 4)⟩])
 .ret))⟩
theorem comp76 : compF Cv 76 = some code76 := by kernel_rfl

def body77_0 : MC := (.seq (.ops false [⟨some 10,none,.bin .lss (.tmp 9) (.tmp 8)⟩])
 (.seq (.cond (.tmp 10) .skip (.exit 0))
 (.seq (.block 1 (.seq (.ops false [⟨some 11,none,.ixs 1 (.tmp 7) (.tmp 9)⟩,⟨some 12,none,.load none (.tmp 11)⟩,⟨some 6,none,.mov (.tmp 12)⟩])
 (.ops false [⟨some 13,none,.mov (.tmp 0)⟩,⟨some 14,none,.mov (.tmp 6)⟩,⟨some 15,none,.mn (.tmp 13) [(.tmp 14)]⟩,⟨some 0,none,.mov (.tmp 15)⟩])))
 (.ops false [⟨some 16,none,.bin .add (.tmp 9) (.cst (I 1))⟩,⟨some 9,none,.mov (.tmp 16)⟩]))))
def keep77_0 : Option (List Nat) := some [0, 7, 8, 9]
def code77 : MF := ⟨18, [(4, none)], (.seq (.ops false [⟨some 4,none,.mov (.cst (I 0))⟩])
 (.seq (.seq (.ops false [⟨some 7,none,.mov (.tmp 1)⟩,⟨some 8,none,.len (.tmp 7)⟩,⟨some 9,none,.mov (.cst (I 0))⟩])
 (.block 0 (.loop keep77_0 body77_0)))
 (.seq (.ops false [⟨some 17,none,.mov (.tmp 0)⟩,⟨some 4,none,.mov (.tmp 17)⟩])
 .ret)))⟩
theorem comp77 : compF Cv 77 = some code77 := by kernel_rfl

def body78_0 : MC := (.seq (.seq (.ops false [⟨some 12,none,.mov (.tmp 4)⟩,⟨some 13,none,.mov (.tmp 0)⟩,⟨some 14,none,.len (.tmp 13)⟩,⟨some 15,none,.bin .lss (.tmp 12) (.tmp 14)⟩])
 (.cond (.tmp 15) .skip (.exit 0)))
 (.seq (.block 1 (.ops false [⟨some 18,none,.mov (.tmp 3)⟩,⟨some 19,none,.mov (.tmp 0)⟩,⟨some 20,none,.mov (.tmp 4)⟩,⟨some 21,none,.ixs 1 (.tmp 19) (.tmp 20)⟩,⟨some 22,none,.load none (.tmp 21)⟩,⟨some 23,none,.mx (.tmp 18) [(.tmp 22)]⟩,⟨some 3,none,.mov (.tmp 23)⟩]))
 (.ops false [⟨some 16,none,.mov (.tmp 4)⟩,⟨some 17,none,.bin .add (.tmp 16) (.cst (I 1))⟩,⟨some 4,none,.mov (.tmp 17)⟩])))
def keep78_0 : Option (List Nat) := some [0, 3, 4]
def code78 : MF := ⟨25, [(2, none)], (.seq (.ops false [⟨some 2,none,.mov (.cst (I 0))⟩])
 (.seq (.seq (.ops false [⟨some 5,none,.mov (.tmp 0)⟩,⟨some 6,none,.len (.tmp 5)⟩,⟨some 7,none,.bin .lss (.tmp 6) (.cst (I 1))⟩])
 (.cond (.tmp 7) (.ops false [⟨some 8,none,.bad⟩,⟨none,none,.bad⟩]) .skip))
 (.seq (.ops false [⟨some 9,none,.mov (.tmp 0)⟩,⟨some 10,none,.ixs 1 (.tmp 9) (.cst (I 0))⟩,⟨some 11,none,.load none (.tmp 10)⟩,⟨some 3,none,.mov (.tmp 11)⟩])
 (.seq (.seq (.ops false [⟨some 4,none,.mov (.cst (I 1))⟩])
 (.block 0 (.loop keep78_0 body78_0)))
 (.seq (.ops false [⟨some 24,none,.mov (.tmp 3)⟩,⟨some 2,none,.mov (.tmp 24)⟩])
 .ret)))))⟩
theorem comp78 : compF Cv 78 = some code78 := by kernel_rfl

def body79_0 : MC := (.seq (.ops false [⟨some 11,none,.bin .lss (.tmp 10) (.tmp 9)⟩])
 (.seq (.cond (.tmp 11) .skip (.exit 0))
 (.seq (.block 1 (.seq (.ops false [⟨some 12,none,.mov (.tmp 10)⟩,⟨some 6,none,.mov (.tmp 12)⟩])
 (.seq (.ops false [⟨some 13,none,.fad (.tmp 4) 4⟩,⟨some 14,none,.load none (.tmp 13)⟩,⟨some 15,none,.load none (.tmp 2)⟩,⟨some 16,none,.mov (.tmp 6)⟩,⟨some 17,none,.bld [(I 0),(I 0)] [(0, 1, (.tmp 15)), (1, 1, (.tmp 16))]⟩,⟨some 18,none,.lkp (some 2) (.agg [(I 0),(I 0),(I 0),(I 0)]) (.tmp 14) (.tmp 17) false⟩,⟨some 19,none,.fld none (.tmp 18) 1⟩,⟨some 20,none,.load none (.tmp 3)⟩,⟨some 21,none,.bin .shr (.tmp 19) (.tmp 20)⟩,⟨some 22,none,.bin .and (.tmp 21) (.cst (I 1))⟩,⟨some 23,none,.bin .eql (.tmp 22) (.cst (I 1))⟩])
 (.cond (.tmp 23) (.seq (.ops false [⟨some 24,none,.mov (.tmp 6)⟩,⟨some 5,none,.mov (.tmp 24)⟩])
 .ret) .skip))))
 (.ops false [⟨some 25,none,.bin .add (.tmp 10) (.cst (I 1))⟩,⟨some 10,none,.mov (.tmp 25)⟩]))))
def keep79_0 : Option (List Nat) := some [2, 3, 4, 9, 10]
def code79 : MF := ⟨26, [(5, none)], (.seq (.ops false [⟨some 4,none,.box (.tmp 0)⟩,⟨some 5,none,.mov (.cst (I 0))⟩])
 (.seq (.seq (.ops false [⟨some 7,none,.fad (.tmp 1) 0⟩,⟨some 8,none,.fad (.tmp 7) 0⟩,⟨some 9,none,.load none (.tmp 8)⟩,⟨some 10,none,.mov (.cst (I 0))⟩])
 (.block 0 (.loop keep79_0 body79_0)))
 (.seq (.ops false [⟨some 5,none,.mov (.cst (I (-1)))⟩])
 .ret)))⟩
theorem comp79 : compF Cv 79 = some code79 := by kernel_rfl

def body80_0 : MC := (.seq (.ops false [⟨some 9,none,.bin .lss (.tmp 8) (.tmp 7)⟩])
 (.seq (.cond (.tmp 9) .skip (.exit 0))
 (.seq (.block 1 (.seq (.ops false [⟨some 10,none,.mov (.tmp 8)⟩,⟨some 5,none,.mov (.tmp 10)⟩])
 (.seq (.ops false [⟨some 11,none,.mov (.tmp 1)⟩,⟨some 12,none,.mov (.tmp 0)⟩,⟨some 13,none,.mov (.tmp 5)⟩,⟨some 14,none,.ixs 3 (.tmp 12) (.tmp 13)⟩,⟨some 15,none,.load (some 3) (.tmp 14)⟩,⟨some 16,none,.call (.tmp 11) [(.tmp 15)]⟩])
 (.cond (.tmp 16) (.seq (.ops false [⟨some 17,none,.mov (.tmp 5)⟩,⟨some 4,none,.mov (.tmp 17)⟩])
 .ret) .skip))))
 (.ops false [⟨some 18,none,.bin .add (.tmp 8) (.cst (I 1))⟩,⟨some 8,none,.mov (.tmp 18)⟩]))))
def keep80_0 : Option (List Nat) := some [0, 1, 7, 8]
def code80 : MF := ⟨19, [(4, none)], (.seq (.ops false [⟨some 4,none,.mov (.cst (I 0))⟩])
 (.seq (.seq (.ops false [⟨some 6,none,.mov (.tmp 0)⟩,⟨some 7,none,.len (.tmp 6)⟩,⟨some 8,none,.mov (.cst (I 0))⟩])
 (.block 0 (.loop keep80_0 body80_0)))
 (.seq (.ops false [⟨some 4,none,.mov (.cst (I (-1)))⟩])
 .ret)))⟩
theorem comp80 : compF Cv 80 = some code80 := by kernel_rfl

def code81 : MF := ⟨29, [(4, none)], (.seq (.ops false [⟨some 3,none,.box (.tmp 0)⟩,⟨some 4,none,.mov (.cst (.bool false))⟩])
 (.seq (.ops false [⟨some 5,none,.fad (.tmp 3) 0⟩,⟨some 6,none,.load none (.tmp 5)⟩,⟨some 7,none,.fad (.tmp 1) 0⟩,⟨some 8,none,.fad (.tmp 7) 2⟩,⟨some 9,none,.load none (.tmp 8)⟩,⟨some 10,none,.fad (.tmp 2) 1⟩,⟨some 11,none,.load none (.tmp 10)⟩,⟨some 12,none,.ixs 3 (.tmp 9) (.tmp 11)⟩,⟨some 13,none,.fad (.tmp 12) 2⟩,⟨some 14,none,.load none (.tmp 13)⟩,⟨some 15,none,.bin .eql (.tmp 6) (.tmp 14)⟩,⟨some 16,none,.mov (.tmp 15)⟩,⟨some 17,some ((some 16), true),.fad (.tmp 3) 1⟩,⟨some 18,some ((some 16), true),.load none (.tmp 17)⟩,⟨some 19,some ((some 16), true),.fad (.tmp 1) 0⟩,⟨some 20,some ((some 16), true),.fad (.tmp 19) 2⟩,⟨some 21,some ((some 16), true),.load none (.tmp 20)⟩,⟨some 22,some ((some 16), true),.fad (.tmp 2) 2⟩,⟨some 23,some ((some 16), true),.load none (.tmp 22)⟩,⟨some 24,some ((some 16), true),.ixs 3 (.tmp 21) (.tmp 23)⟩,⟨some 25,some ((some 16), true),.fad (.tmp 24) 2⟩,⟨some 26,some ((some 16), true),.load none (.tmp 25)⟩,⟨some 27,some ((some 16), true),.bin .eql (.tmp 18) (.tmp 26)⟩,⟨some 28,none,.pick (.tmp 16) (.tmp 27) (.cst (.bool false))⟩,⟨some 4,none,.mov (.tmp 28)⟩])
 .ret))⟩
theorem comp81 : compF Cv 81 = some code81 := by kernel_rfl

def code82 : MF := ⟨20, [(4, none)], (.seq (.ops false [⟨some 4,none,.mov (.cst (I 0))⟩])
 (.seq (.ops false [⟨some 7,none,.mov (.tmp 0)⟩,⟨some 8,none,.call (.cst (.fn (.func 91) [] [])) [(.tmp 7)]⟩,⟨some 5,none,.mov (.tmp 8)⟩])
 (.seq (.ops false [⟨some 9,none,.mov (.tmp 1)⟩,⟨some 10,none,.call (.cst (.fn (.func 91) [] [])) [(.tmp 9)]⟩,⟨some 6,none,.mov (.tmp 10)⟩])
 (.seq (.seq (.ops false [⟨some 11,none,.mov (.tmp 5)⟩])
 (.cond (.tmp 11) (.seq (.seq (.ops false [⟨some 12,none,.mov (.tmp 6)⟩])
 (.cond (.tmp 12) (.seq (.ops false [⟨some 4,none,.mov (.cst (I 0))⟩])
 .ret) .skip))
 (.seq (.ops false [⟨some 4,none,.mov (.cst (I (-1)))⟩])
 .ret)) .skip))
 (.seq (.seq (.ops false [⟨some 13,none,.mov (.tmp 6)⟩])
 (.cond (.tmp 13) (.seq (.ops false [⟨some 4,none,.mov (.cst (I 1))⟩])
 .ret) .skip))
 (.seq (.seq (.ops false [⟨some 14,none,.mov (.tmp 0)⟩,⟨some 15,none,.mov (.tmp 1)⟩,⟨some 16,none,.bin .lss (.tmp 14) (.tmp 15)⟩])
 (.cond (.tmp 16) (.seq (.ops false [⟨some 4,none,.mov (.cst (I (-1)))⟩])
 .ret) .skip))
 (.seq (.seq (.ops false [⟨some 17,none,.mov (.tmp 0)⟩,⟨some 18,none,.mov (.tmp 1)⟩,⟨some 19,none,.bin .gtr (.tmp 17) (.tmp 18)⟩])
 (.cond (.tmp 19) (.seq (.ops false [⟨some 4,none,.mov (.cst (I 1))⟩])
 .ret) .skip))
 (.seq (.ops false [⟨some 4,none,.mov (.cst (I 0))⟩])
 .ret))))))))⟩
theorem comp82 : compF Cv 82 = some code82 := by kernel_rfl

def body85_0 : MC := (.seq (.ops false [⟨some 9,none,.bin .lss (.tmp 8) (.tmp 7)⟩])
 (.seq (.cond (.tmp 9) .skip (.exit 0))
 (.seq (.block 1 (.seq (.ops false [⟨some 10,none,.mov (.tmp 8)⟩,⟨some 5,none,.mov (.tmp 10)⟩])
 (.seq (.ops false [⟨some 11,none,.mov (.tmp 1)⟩,⟨some 12,none,.mov (.tmp 0)⟩,⟨some 13,none,.mov (.tmp 5)⟩,⟨some 14,none,.ixs 1 (.tmp 12) (.tmp 13)⟩,⟨some 15,none,.load none (.tmp 14)⟩,⟨some 16,none,.bin .eql (.tmp 11) (.tmp 15)⟩])
 (.cond (.tmp 16) (.seq (.ops false [⟨some 17,none,.mov (.tmp 5)⟩,⟨some 4,none,.mov (.tmp 17)⟩])
 .ret) .skip))))
 (.ops false [⟨some 18,none,.bin .add (.tmp 8) (.cst (I 1))⟩,⟨some 8,none,.mov (.tmp 18)⟩]))))
def keep85_0 : Option (List Nat) := some [0, 1, 7, 8]
def code85 : MF := ⟨19, [(4, none)], (.seq (.ops false [⟨some 4,none,.mov (.cst (I 0))⟩])
 (.seq (.seq (.ops false [⟨some 6,none,.mov (.tmp 0)⟩,⟨some 7,none,.len (.tmp 6)⟩,⟨some 8,none,.mov (.cst (I 0))⟩])
 (.block 0 (.loop keep85_0 body85_0)))
 (.seq (.ops false [⟨some 4,none,.mov (.cst (I (-1)))⟩])
 .ret)))⟩
theorem comp85 : compF Cv 85 = some code85 := by kernel_rfl

def code86 : MF := ⟨11, [], (.seq (.ops false [⟨some 2,none,.box (.tmp 0)⟩])
 (.seq (.ops false [⟨some 5,none,.load (some 9) (.tmp 1)⟩,⟨some 6,none,.mkf (.func 87) [(.tmp 5)] []⟩,⟨some 3,none,.alloc [.nilf]⟩,⟨none,none,.store 1 (.tmp 3) (.tmp 6)⟩])
 (.seq (.ops false [⟨some 4,none,.alloc [.nilf]⟩])
 (.seq (.ops false [⟨some 7,none,.mkf (.func 88) [] [(.tmp 1), (.tmp 3), (.tmp 2), (.tmp 4)]⟩,⟨none,none,.store 1 (.tmp 4) (.tmp 7)⟩])
 (.ops false [⟨some 8,none,.load none (.tmp 4)⟩,⟨some 9,none,.load (some 4) (.cst (.rp [(I (-1)), (I (-1)), (I (-1)), (I (-1))] 0))⟩,⟨some 10,none,.call (.tmp 8) [(.tmp 9), (.cst (I 0))]⟩])))))⟩
theorem comp86 : compF Cv 86 = some code86 := by kernel_rfl

def code87 : MF := ⟨11, [(4, none)], (.seq (.ops false [⟨some 2,none,.box (.tmp 0)⟩,⟨some 3,none,.box (.tmp 1)⟩,⟨some 4,none,.mov (.cst (.bool false))⟩])
 (.seq (.ops false [⟨some 5,none,.fad (.tmp 2) 0⟩,⟨some 6,none,.fad (.tmp 5) 7⟩,⟨some 7,none,.load none (.tmp 6)⟩,⟨some 8,none,.mkf (.func 104) [] [(.tmp 3)]⟩,⟨some 9,none,.call (.cst (.fn (.func 103) [] [])) [(.tmp 7), (.tmp 8)]⟩,⟨some 10,none,.lnot (.tmp 9)⟩,⟨some 4,none,.mov (.tmp 10)⟩])
 .ret))⟩
theorem comp87 : compF Cv 87 = some code87 := by kernel_rfl

def body88_0 : MC := (.seq (.ops false [⟨some 26,none,.bin .lss (.tmp 25) (.cst (I 2))⟩])
 (.seq (.cond (.tmp 26) .skip (.exit 0))
 (.seq (.block 1 (.seq (.ops false [⟨some 27,none,.mov (.tmp 25)⟩,⟨some 10,none,.mov (.tmp 27)⟩])
 (.ops false [⟨some 28,none,.load (some 9) (.tmp 2)⟩,⟨some 29,none,.mov (.tmp 10)⟩,⟨some 30,none,.call (.cst (.fn (.func 89) [] [])) [(.tmp 28), (.tmp 9), (.tmp 29)]⟩])))
 (.ops false [⟨some 31,none,.bin .add (.tmp 25) (.cst (I 1))⟩,⟨some 25,none,.mov (.tmp 31)⟩]))))
def keep88_0 : Option (List Nat) := some [2, 3, 4, 6, 9, 25]
def body88_1 : MC := (.seq (.ops false [⟨some 65,none,.bin .lss (.tmp 64) (.tmp 63)⟩])
 (.seq (.cond (.tmp 65) .skip (.exit 2))
 (.seq (.block 3 (.seq (.ops false [⟨some 66,none,.mov (.tmp 64)⟩,⟨some 12,none,.mov (.tmp 66)⟩])
 (.seq (.ops false [⟨some 67,none,.mov (.tmp 1)⟩,⟨some 68,none,.fad (.tmp 11) 0⟩,⟨some 69,none,.load none (.tmp 68)⟩,⟨some 70,none,.mov (.tmp 12)⟩,⟨some 71,none,.bin .add (.tmp 69) (.tmp 70)⟩,⟨some 72,none,.ixa 4 1 (.tmp 6) (.tmp 67)⟩,⟨none,none,.store 1 (.tmp 72) (.tmp 71)⟩])
 (.seq (.seq (.ops false [⟨some 73,none,.mov (.tmp 1)⟩,⟨some 74,none,.ixa 4 1 (.tmp 6) (.tmp 73)⟩,⟨some 75,none,.load none (.tmp 74)⟩,⟨some 76,none,.fad (.tmp 2) 0⟩,⟨some 77,none,.fad (.tmp 76) 0⟩,⟨some 78,none,.load none (.tmp 77)⟩,⟨some 79,none,.bin .geq (.tmp 75) (.tmp 78)⟩])
 (.cond (.tmp 79) (.exit 3) .skip))
 (.seq (.ops false [⟨some 80,none,.load none (.tmp 5)⟩,⟨some 81,none,.load (some 4) (.tmp 6)⟩,⟨some 82,none,.mov (.tmp 1)⟩,⟨some 83,none,.bin .add (.tmp 82) (.cst (I 1))⟩,⟨some 84,none,.call (.tmp 80) [(.tmp 81), (.tmp 83)]⟩,⟨some 85,none,.lnot (.tmp 84)⟩])
 (.cond (.tmp 85) (.seq (.ops false [⟨some 8,none,.mov (.cst (.bool false))⟩])
 .ret) .skip))))))
 (.ops false [⟨some 86,none,.bin .add (.tmp 64) (.cst (I 1))⟩,⟨some 64,none,.mov (.tmp 86)⟩]))))
def keep88_1 : Option (List Nat) := some [1, 2, 5, 6, 11, 63, 64]
def code88 : MF := ⟨87, [(8, none)], (.seq (.ops false [⟨some 6,none,.box (.tmp 0)⟩,⟨some 8,none,.mov (.cst (.bool false))⟩])
 (.scope (.seq (.seq (.ops false [⟨some 13,none,.mov (.tmp 1)⟩,⟨some 14,none,.fad (.tmp 2) 0⟩,⟨some 15,none,.fad (.tmp 14) 2⟩,⟨some 16,none,.load none (.tmp 15)⟩,⟨some 17,none,.len (.tmp 16)⟩,⟨some 18,none,.bin .eql (.tmp 13) (.tmp 17)⟩])
 (.cond (.tmp 18) (.seq (.ops true [⟨some 9,none,.mov (.cst .any)⟩,⟨some 19,none,.load (some 4) (.tmp 6)⟩,⟨some 20,none,.mkm⟩,⟨some 21,none,.load (some 2) (.cst (.rp [(I (-1)), (I (-1))] 0))⟩,⟨some 22,none,.bld [(I 0),(I 0),(I 0),(I 0)] []⟩,⟨none,none,.mput (some 2) (.tmp 20) (.tmp 21) (.tmp 22)⟩,⟨some 23,none,.mov (.tmp 20)⟩,⟨some 24,none,.bld [(I 0),(I 0),(I 0),(I 0), .nilm, .nils, .nils] [(0, 4, (.tmp 19)), (4, 1, (.tmp 23))]⟩,⟨some 9,none,.alloc [(I 0),(I 0),(I 0),(I 0), .nilm, .nils, .nils]⟩,⟨none,none,.store 7 (.tmp 9) (.tmp 24)⟩])
 (.seq (.seq (.ops false [⟨some 25,none,.mov (.cst (I 0))⟩])
 (.block 0 (.loop keep88_0 body88_0)))
 (.seq (.seq (.ops false [⟨some 32,none,.load (some 4) (.tmp 6)⟩,⟨some 33,none,.load (some 4) (.cst (.rp [(I (-1)), (I (-1)), (I (-1)), (I (-1))] 0))⟩,⟨some 34,none,.eqa 4 false (.tmp 32) (.tmp 33)⟩,⟨some 35,none,.mov (.tmp 34)⟩,⟨some 36,some ((some 35), true),.fad (.tmp 2) 0⟩,⟨some 37,some ((some 35), true),.fad (.tmp 36) 2⟩,⟨some 38,some ((some 35), true),.load none (.tmp 37)⟩,⟨some 39,some ((some 35), true),.len (.tmp 38)⟩,⟨some 40,some ((some 35), true),.bin .gtr (.tmp 39) (.cst (I 0))⟩,⟨some 41,none,.pick (.tmp 35) (.tmp 40) (.cst (.bool false))⟩,⟨some 42,none,.mov (.tmp 41)⟩,⟨some 43,some ((some 42), false),.load none (.tmp 3)⟩,⟨some 44,some ((some 42), false),.load (some 7) (.tmp 9)⟩,⟨some 45,some ((some 42), false),.call (.tmp 43) [(.tmp 44)]⟩,⟨some 46,some ((some 42), false),.lnot (.tmp 45)⟩,⟨some 47,none,.pick (.tmp 42) (.cst (.bool true)) (.tmp 46)⟩])
 (.cond (.tmp 47) (.seq (.ops false [⟨some 8,none,.mov (.cst (.bool true))⟩])
 .ret) .skip))
 (.seq (.ops false [⟨some 48,none,.load none (.tmp 4)⟩,⟨some 49,none,.load (some 7) (.tmp 9)⟩,⟨some 50,none,.call (.tmp 48) [(.tmp 49)]⟩,⟨some 8,none,.mov (.tmp 50)⟩])
 .ret)))) .skip))
 (.seq (.ops false [⟨some 51,none,.fad (.tmp 2) 0⟩,⟨some 52,none,.fad (.tmp 51) 2⟩,⟨some 53,none,.load none (.tmp 52)⟩,⟨some 54,none,.mov (.tmp 1)⟩,⟨some 55,none,.ixs 3 (.tmp 53) (.tmp 54)⟩,⟨some 56,none,.fad (.tmp 55) 0⟩,⟨some 57,none,.load (some 2) (.tmp 56)⟩,⟨some 11,none,.alloc [(I 0),(I 0)]⟩,⟨none,none,.store 2 (.tmp 11) (.tmp 57)⟩])
 (.seq .skip
 (.seq (.seq (.ops false [⟨some 58,none,.fad (.tmp 11) 1⟩,⟨some 59,none,.load none (.tmp 58)⟩,⟨some 60,none,.fad (.tmp 11) 0⟩,⟨some 61,none,.load none (.tmp 60)⟩,⟨some 62,none,.bin .sub (.tmp 59) (.tmp 61)⟩,⟨some 63,none,.bin .add (.tmp 62) (.cst (I 1))⟩,⟨some 64,none,.mov (.cst (I 0))⟩])
 (.block 2 (.loop keep88_1 body88_1)))
 (.seq (.ops false [⟨some 8,none,.mov (.cst (.bool true))⟩])
 .ret)))))))⟩
theorem comp88 : compF Cv 88 = some code88 := by kernel_rfl

def body89_0 : MC := (.seq (.ops false [⟨some 31,none,.bin .lss (.tmp 30) (.tmp 29)⟩])
 (.seq (.cond (.tmp 31) .skip (.exit 2))
 (.seq (.block 3 (.seq (.ops false [⟨some 32,none,.mov (.tmp 30)⟩,⟨some 10,none,.mov (.tmp 32)⟩])
 (.seq (.seq (.ops false [⟨some 33,none,.mov (.tmp 10)⟩,⟨some 34,none,.ixa 4 1 (.tmp 6) (.tmp 33)⟩,⟨some 35,none,.load none (.tmp 34)⟩,⟨some 36,none,.mov (.tmp 8)⟩,⟨some 37,none,.bin .neq (.tmp 35) (.tmp 36)⟩])
 (.cond (.tmp 37) (.exit 3) .skip))
 (.seq (.seq (.ops false [⟨some 38,none,.fad (.tmp 9) 0⟩,⟨some 39,none,.load none (.tmp 38)⟩,⟨some 40,none,.bin .lss (.tmp 39) (.cst (I 0))⟩])
 (.cond (.tmp 40) (.seq (.ops false [⟨some 41,none,.load (some 4) (.tmp 9)⟩,⟨some 42,none,.mov (.tmp 10)⟩,⟨some 43,none,.call (.cst (.fn (.func 105) [] [])) [(.tmp 41), (.tmp 42)]⟩,⟨none,none,.store 4 (.tmp 9) (.tmp 43)⟩])
 (.seq (.ops false [⟨some 44,none,.mov (.tmp 10)⟩,⟨some 45,none,.fad (.tmp 9) 0⟩,⟨none,none,.store 1 (.tmp 45) (.tmp 44)⟩])
 (.exit 3))) .skip))
 (.seq (.ops false [⟨some 46,none,.mov (.tmp 8)⟩,⟨some 47,none,.mov (.tmp 10)⟩,⟨some 48,none,.fad (.tmp 9) 0⟩,⟨some 49,none,.load none (.tmp 48)⟩,⟨some 50,none,.bld [(I 0),(I 0),(I 0)] [(0, 1, (.tmp 46)), (1, 1, (.tmp 47)), (2, 1, (.tmp 49))]⟩,⟨some 11,none,.alloc [(I 0),(I 0),(I 0)]⟩,⟨none,none,.store 3 (.tmp 11) (.tmp 50)⟩])
 (.seq (.seq (.ops false [⟨some 51,none,.fad (.tmp 3) 0⟩,⟨some 52,none,.fad (.tmp 51) 2⟩,⟨some 53,none,.load none (.tmp 52)⟩,⟨some 54,none,.mov (.tmp 10)⟩,⟨some 55,none,.ixs 3 (.tmp 53) (.tmp 54)⟩,⟨some 56,none,.fad (.tmp 55) 2⟩,⟨some 57,none,.load none (.tmp 56)⟩,⟨some 58,none,.fad (.tmp 3) 0⟩,⟨some 59,none,.fad (.tmp 58) 2⟩,⟨some 60,none,.load none (.tmp 59)⟩,⟨some 61,none,.fad (.tmp 9) 0⟩,⟨some 62,none,.load none (.tmp 61)⟩,⟨some 63,none,.ixs 3 (.tmp 60) (.tmp 62)⟩,⟨some 64,none,.fad (.tmp 63) 2⟩,⟨some 65,none,.load none (.tmp 64)⟩,⟨some 66,none,.bin .gtr (.tmp 57) (.tmp 65)⟩])
 (.cond (.tmp 66) (.ops false [⟨some 67,none,.mov (.tmp 8)⟩,⟨some 68,none,.fad (.tmp 9) 0⟩,⟨some 69,none,.load none (.tmp 68)⟩,⟨some 70,none,.mov (.tmp 10)⟩,⟨some 71,none,.bld [(I 0),(I 0),(I 0)] [(0, 1, (.tmp 67)), (1, 1, (.tmp 69)), (2, 1, (.tmp 70))]⟩,⟨none,none,.store 3 (.tmp 11) (.tmp 71)⟩]) .skip))
 (.seq (.ops false [⟨some 73,none,.load (some 9) (.tmp 3)⟩,⟨some 74,none,.mov (.tmp 2)⟩,⟨some 75,none,.load (some 3) (.tmp 11)⟩,⟨some 76,none,.call (.cst (.fn (.func 63) [] [])) [(.tmp 73), (.tmp 74), (.tmp 75)]⟩,⟨some 72,none,.mov (.tmp 76)⟩,⟨some 77,none,.ext (.tmp 72) 0⟩,⟨some 78,none,.ext (.tmp 72) 1⟩,⟨some 12,none,.mov (.tmp 77)⟩,⟨some 13,none,.mov (.tmp 78)⟩])
 (.seq (.ops true [⟨some 79,none,.mov (.tmp 13)⟩,⟨some 80,none,.ixa 3 1 (.cst (.rp [(.fn (.func 130) [] []), (.fn (.func 128) [] []), (.fn (.func 105) [] [])] 0)) (.tmp 79)⟩,⟨some 81,none,.load none (.tmp 80)⟩,⟨some 82,none,.load (some 4) (.tmp 9)⟩,⟨some 83,none,.mov (.tmp 10)⟩,⟨some 84,none,.call (.cst (.fn (.func 105) [] [])) [(.tmp 82), (.tmp 83)]⟩,⟨some 85,none,.fad (.tmp 11) 1⟩,⟨some 86,none,.load none (.tmp 85)⟩,⟨some 87,none,.call (.tmp 81) [(.tmp 84), (.tmp 86)]⟩,⟨none,none,.store 4 (.tmp 9) (.tmp 87)⟩])
 (.seq (.ops false [⟨some 88,none,.fad (.tmp 11) 2⟩,⟨some 89,none,.load none (.tmp 88)⟩,⟨some 90,none,.fad (.tmp 9) 0⟩,⟨none,none,.store 1 (.tmp 90) (.tmp 89)⟩])
 (.ops false [⟨some 91,none,.mov (.tmp 1)⟩,⟨some 92,none,.mov (.tmp 2)⟩,⟨some 93,none,.mov (.tmp 1)⟩,⟨some 94,none,.mov (.tmp 2)⟩,⟨some 95,none,.nck (.tmp 93)⟩,⟨some 96,none,.fad (.tmp 95) 5⟩,⟨some 97,none,.ixa 2 1 (.tmp 96) (.tmp 94)⟩,⟨some 98,none,.load none (.tmp 97)⟩,⟨some 99,none,.load (some 3) (.tmp 11)⟩,⟨some 100,none,.bsl 3 true (.agg [(I 0),(I 0),(I 0)]) 1 [(0, (.tmp 99))]⟩,⟨some 101,none,.app false 3 24 true (.tmp 98) (.tmp 100)⟩,⟨some 102,none,.nck (.tmp 91)⟩,⟨some 103,none,.fad (.tmp 102) 5⟩,⟨some 104,none,.ixa 2 1 (.tmp 103) (.tmp 92)⟩,⟨none,none,.store 1 (.tmp 104) (.tmp 101)⟩]))))))))))
 (.ops false [⟨some 105,none,.bin .add (.tmp 30) (.cst (I 1))⟩,⟨some 30,none,.mov (.tmp 105)⟩]))))
def keep89_0 : Option (List Nat) := some [1, 2, 3, 6, 7, 8, 9, 21, 22, 29, 30]
def body89_1 : MC := (.seq (.ops false [⟨some 111,none,.bin .lss (.tmp 110) (.tmp 109)⟩])
 (.seq (.cond (.tmp 111) .skip (.exit 4))
 (.seq (.block 5 (.seq (.ops false [⟨some 112,none,.mov (.tmp 110)⟩,⟨some 14,none,.mov (.tmp 112)⟩])
 (.seq (.ops false [⟨some 113,none,.fad (.tmp 9) 2⟩,⟨some 114,none,.load none (.tmp 113)⟩,⟨some 115,none,.mov (.tmp 14)⟩,⟨some 116,none,.bin .shr (.tmp 114) (.tmp 115)⟩,⟨some 117,none,.bin .and (.tmp 116) (.cst (I 1))⟩,⟨some 118,none,.bin .eql (.tmp 117) (.cst (I 1))⟩])
 (.cond (.tmp 118) (.ops false [⟨some 119,none,.mov (.tmp 14)⟩,⟨some 120,none,.mov (.tmp 8)⟩,⟨some 121,none,.bin .add (.tmp 120) (.cst (I 1))⟩,⟨some 122,none,.ixa 4 1 (.tmp 6) (.tmp 119)⟩,⟨none,none,.store 1 (.tmp 122) (.tmp 121)⟩]) .skip))))
 (.ops false [⟨some 123,none,.bin .add (.tmp 110) (.cst (I 1))⟩,⟨some 110,none,.mov (.tmp 123)⟩]))))
def keep89_1 : Option (List Nat) := some [1, 2, 3, 6, 7, 8, 9, 21, 22, 109, 110]
def body89_2 : MC := (.seq (.ops false [⟨some 23,none,.bin .lss (.tmp 22) (.tmp 21)⟩])
 (.seq (.cond (.tmp 23) .skip (.exit 0))
 (.seq (.block 1 (.seq (.ops false [⟨some 24,none,.mov (.tmp 22)⟩,⟨some 8,none,.mov (.tmp 24)⟩])
 (.seq (.ops false [⟨some 25,none,.bld [(I 0),(I 0),(I 0),(I 0)] [(0, 1, (.cst (I (-1)))), (3, 1, (.cst (I (-1))))]⟩,⟨some 9,none,.alloc [(I 0),(I 0),(I 0),(I 0)]⟩,⟨none,none,.store 4 (.tmp 9) (.tmp 25)⟩])
 (.seq (.seq (.ops false [⟨some 26,none,.fad (.tmp 3) 0⟩,⟨some 27,none,.fad (.tmp 26) 2⟩,⟨some 28,none,.load none (.tmp 27)⟩,⟨some 29,none,.len (.tmp 28)⟩,⟨some 30,none,.mov (.cst (I 0))⟩])
 (.block 2 (.loop keep89_0 body89_0)))
 (.seq (.seq (.ops false [⟨some 106,none,.fad (.tmp 3) 0⟩,⟨some 107,none,.fad (.tmp 106) 2⟩,⟨some 108,none,.load none (.tmp 107)⟩,⟨some 109,none,.len (.tmp 108)⟩,⟨some 110,none,.mov (.cst (I 0))⟩])
 (.block 4 (.loop keep89_1 body89_1)))
 (.seq (.seq (.ops false [⟨some 124,none,.fad (.tmp 9) 0⟩,⟨some 125,none,.load none (.tmp 124)⟩,⟨some 126,none,.bin .lss (.tmp 125) (.cst (I 0))⟩,⟨some 127,none,.mov (.tmp 126)⟩,⟨some 128,some ((some 127), false),.fad (.tmp 3) 0⟩,⟨some 129,some ((some 127), false),.fad (.tmp 128) 2⟩,⟨some 130,some ((some 127), false),.load none (.tmp 129)⟩,⟨some 131,some ((some 127), false),.fad (.tmp 9) 0⟩,⟨some 132,some ((some 127), false),.load none (.tmp 131)⟩,⟨some 133,some ((some 127), false),.ixs 3 (.tmp 130) (.tmp 132)⟩,⟨some 134,some ((some 127), false),.fad (.tmp 133) 2⟩,⟨some 135,some ((some 127), false),.load none (.tmp 134)⟩,⟨some 136,some ((some 127), false),.bin .eql (.tmp 135) (.cst (I 0))⟩,⟨some 137,none,.pick (.tmp 127) (.cst (.bool true)) (.tmp 136)⟩])
 (.cond (.tmp 137) (.seq (.ops false [⟨some 138,none,.fad (.tmp 3) 0⟩,⟨some 139,none,.fad (.tmp 138) 1⟩,⟨some 140,none,.load none (.tmp 139)⟩,⟨some 141,none,.mov (.tmp 8)⟩,⟨some 142,none,.bin .add (.tmp 140) (.tmp 141)⟩,⟨some 143,none,.bin .rem (.tmp 142) (.cst (I 30))⟩,⟨some 144,none,.fad (.tmp 9) 3⟩,⟨none,none,.store 1 (.tmp 144) (.tmp 143)⟩])
 (.seq (.seq (.ops false [⟨some 145,none,.mov (.tmp 2)⟩,⟨some 146,none,.fad (.tmp 3) 0⟩,⟨some 147,none,.fad (.tmp 146) 3⟩,⟨some 148,none,.ixa 2 2 (.tmp 147) (.tmp 145)⟩,⟨some 149,none,.fad (.tmp 148) 1⟩,⟨some 150,none,.load none (.tmp 149)⟩])
 (.cond (.tmp 150) (.ops false [⟨some 151,none,.fad (.tmp 3) 0⟩,⟨some 152,none,.fad (.tmp 151) 1⟩,⟨some 153,none,.load none (.tmp 152)⟩,⟨some 154,none,.mov (.tmp 7)⟩,⟨some 155,none,.bin .add (.tmp 153) (.tmp 154)⟩,⟨some 156,none,.bin .rem (.tmp 155) (.cst (I 30))⟩,⟨some 157,none,.fad (.tmp 9) 3⟩,⟨none,none,.store 1 (.tmp 157) (.tmp 156)⟩]) .skip))
 (.ops false [⟨some 158,none,.mov (.tmp 7)⟩,⟨some 159,none,.bin .add (.tmp 158) (.cst (I 1))⟩,⟨some 7,none,.mov (.tmp 159)⟩]))) .skip))
 (.ops false [⟨some 160,none,.mov (.tmp 1)⟩,⟨some 161,none,.nck (.tmp 160)⟩,⟨some 162,none,.fad (.tmp 161) 4⟩,⟨some 163,none,.load none (.tmp 162)⟩,⟨some 164,none,.mov (.tmp 2)⟩,⟨some 165,none,.mov (.tmp 8)⟩,⟨some 166,none,.bld [(I 0),(I 0)] [(0, 1, (.tmp 164)), (1, 1, (.tmp 165))]⟩,⟨some 167,none,.load (some 4) (.tmp 9)⟩,⟨none,none,.mput (some 2) (.tmp 163) (.tmp 166) (.tmp 167)⟩])))))))
 (.ops false [⟨some 168,none,.bin .add (.tmp 22) (.cst (I 1))⟩,⟨some 22,none,.mov (.tmp 168)⟩]))))
def keep89_2 : Option (List Nat) := some [1, 2, 3, 6, 7, 21, 22]
def code89 : MF := ⟨169, [], (.seq (.ops false [⟨some 3,none,.box (.tmp 0)⟩])
 (.seq (.ops false [⟨some 15,none,.mov (.tmp 1)⟩,⟨some 16,none,.nck (.tmp 15)⟩,⟨some 17,none,.fad (.tmp 16) 0⟩,⟨some 18,none,.load (some 4) (.tmp 17)⟩,⟨some 6,none,.alloc [(I 0),(I 0),(I 0),(I 0)]⟩,⟨none,none,.store 4 (.tmp 6) (.tmp 18)⟩,⟨some 7,none,.mov (.cst (I 0))⟩])
 (.seq (.ops false [⟨some 19,none,.fad (.tmp 3) 0⟩,⟨some 20,none,.fad (.tmp 19) 0⟩,⟨some 21,none,.load none (.tmp 20)⟩,⟨some 22,none,.mov (.cst (I 0))⟩])
 (.block 0 (.loop keep89_2 body89_2)))))⟩
theorem comp89 : compF Cv 89 = some code89 := by kernel_rfl

def body90_0 : MC := (.seq (.ops false [⟨some 9,none,.bin .lss (.tmp 8) (.tmp 7)⟩])
 (.seq (.cond (.tmp 9) .skip (.exit 0))
 (.seq (.block 1 (.seq (.ops false [⟨some 10,none,.mov (.tmp 8)⟩,⟨some 5,none,.mov (.tmp 10)⟩])
 (.seq (.ops false [⟨some 11,none,.mov (.tmp 1)⟩,⟨some 12,none,.mov (.tmp 0)⟩,⟨some 13,none,.mov (.tmp 5)⟩,⟨some 14,none,.ixs 1 (.tmp 12) (.tmp 13)⟩,⟨some 15,none,.load none (.tmp 14)⟩,⟨some 16,none,.call (.tmp 11) [(.tmp 15)]⟩])
 (.cond (.tmp 16) (.seq (.ops false [⟨some 17,none,.mov (.tmp 5)⟩,⟨some 4,none,.mov (.tmp 17)⟩])
 .ret) .skip))))
 (.ops false [⟨some 18,none,.bin .add (.tmp 8) (.cst (I 1))⟩,⟨some 8,none,.mov (.tmp 18)⟩]))))
def keep90_0 : Option (List Nat) := some [0, 1, 7, 8]
def code90 : MF := ⟨19, [(4, none)], (.seq (.ops false [⟨some 4,none,.mov (.cst (I 0))⟩])
 (.seq (.seq (.ops false [⟨some 6,none,.mov (.tmp 0)⟩,⟨some 7,none,.len (.tmp 6)⟩,⟨some 8,none,.mov (.cst (I 0))⟩])
 (.block 0 (.loop keep90_0 body90_0)))
 (.seq (.ops false [⟨some 4,none,.mov (.cst (I (-1)))⟩])
 .ret)))⟩
theorem comp90 : compF Cv 90 = some code90 := by kernel_rfl

def code91 : MF := ⟨6, [(2, none)], (.seq (.ops false [⟨some 2,none,.mov (.cst (.bool false))⟩])
 (.seq (.ops false [⟨some 3,none,.mov (.tmp 0)⟩,⟨some 4,none,.mov (.tmp 0)⟩,⟨some 5,none,.bin .neq (.tmp 3) (.tmp 4)⟩,⟨some 2,none,.mov (.tmp 5)⟩])
 .ret))⟩
theorem comp91 : compF Cv 91 = some code91 := by kernel_rfl

def code103 : MF := ⟨9, [(4, none)], (.seq (.ops false [⟨some 4,none,.mov (.cst (.bool false))⟩])
 (.seq (.ops false [⟨some 5,none,.mov (.tmp 0)⟩,⟨some 6,none,.mov (.tmp 1)⟩,⟨some 7,none,.call (.cst (.fn (.func 111) [] [])) [(.tmp 5), (.tmp 6)]⟩,⟨some 8,none,.bin .geq (.tmp 7) (.cst (I 0))⟩,⟨some 4,none,.mov (.tmp 8)⟩])
 .ret))⟩
theorem comp103 : compF Cv 103 = some code103 := by kernel_rfl

def code104 : MF := ⟨26, [(3, none)], (.seq (.ops false [⟨some 2,none,.box (.tmp 0)⟩,⟨some 3,none,.mov (.cst (.bool false))⟩])
 (.seq (.ops false [⟨some 7,none,.fad (.tmp 1) 4⟩,⟨some 8,none,.load none (.tmp 7)⟩,⟨some 9,none,.fad (.tmp 2) 0⟩,⟨some 10,none,.load none (.tmp 9)⟩,⟨some 11,none,.fad (.tmp 2) 1⟩,⟨some 12,none,.load none (.tmp 11)⟩,⟨some 13,none,.bld [(I 0),(I 0)] [(0, 1, (.tmp 10)), (1, 1, (.tmp 12))]⟩,⟨some 14,none,.lkp (some 2) (.agg [(I 0),(I 0),(I 0),(I 0)]) (.tmp 8) (.tmp 13) true⟩,⟨some 6,none,.mov (.tmp 14)⟩,⟨some 15,none,.ext (.tmp 6) 0⟩,⟨some 16,none,.ext (.tmp 6) 1⟩,⟨some 4,none,.alloc [(I 0),(I 0),(I 0),(I 0)]⟩,⟨none,none,.store 4 (.tmp 4) (.tmp 15)⟩,⟨some 5,none,.mov (.tmp 16)⟩])
 (.seq (.ops false [⟨some 17,none,.mov (.tmp 5)⟩,⟨some 18,none,.lnot (.tmp 17)⟩,⟨some 19,none,.mov (.tmp 18)⟩,⟨some 20,some ((some 19), false),.fad (.tmp 4) 0⟩,⟨some 21,some ((some 19), false),.load none (.tmp 20)⟩,⟨some 22,some ((some 19), false),.fad (.tmp 2) 2⟩,⟨some 23,some ((some 19), false),.load none (.tmp 22)⟩,⟨some 24,some ((some 19), false),.bin .neq (.tmp 21) (.tmp 23)⟩,⟨some 25,none,.pick (.tmp 19) (.cst (.bool true)) (.tmp 24)⟩,⟨some 3,none,.mov (.tmp 25)⟩])
 .ret)))⟩
theorem comp104 : compF Cv 104 = some code104 := by kernel_rfl

def code105 : MF := ⟨12, [(4, some (some 4))], (.seq (.ops false [⟨some 2,none,.box (.tmp 0)⟩,⟨some 4,none,.alloc [(I 0),(I 0),(I 0),(I 0)]⟩])
 (.seq (.ops false [⟨some 5,none,.fad (.tmp 2) 1⟩,⟨some 6,none,.load none (.tmp 5)⟩,⟨some 7,none,.mov (.tmp 1)⟩,⟨some 8,none,.bin .shl (.cst (I 1)) (.tmp 7)⟩,⟨some 9,none,.bin .or (.tmp 6) (.tmp 8)⟩,⟨some 10,none,.fad (.tmp 2) 1⟩,⟨none,none,.store 1 (.tmp 10) (.tmp 9)⟩])
 (.seq (.ops false [⟨some 11,none,.load (some 4) (.tmp 2)⟩,⟨none,none,.store 4 (.tmp 4) (.tmp 11)⟩])
 .ret)))⟩
theorem comp105 : compF Cv 105 = some code105 := by kernel_rfl

def body111_0 : MC := (.seq (.ops false [⟨some 9,none,.bin .lss (.tmp 8) (.tmp 7)⟩])
 (.seq (.cond (.tmp 9) .skip (.exit 0))
 (.seq (.block 1 (.seq (.ops false [⟨some 10,none,.mov (.tmp 8)⟩,⟨some 5,none,.mov (.tmp 10)⟩])
 (.seq (.ops false [⟨some 11,none,.mov (.tmp 1)⟩,⟨some 12,none,.mov (.tmp 0)⟩,⟨some 13,none,.mov (.tmp 5)⟩,⟨some 14,none,.ixs 3 (.tmp 12) (.tmp 13)⟩,⟨some 15,none,.load (some 3) (.tmp 14)⟩,⟨some 16,none,.call (.tmp 11) [(.tmp 15)]⟩])
 (.cond (.tmp 16) (.seq (.ops false [⟨some 17,none,.mov (.tmp 5)⟩,⟨some 4,none,.mov (.tmp 17)⟩])
 .ret) .skip))))
 (.ops false [⟨some 18,none,.bin .add (.tmp 8) (.cst (I 1))⟩,⟨some 8,none,.mov (.tmp 18)⟩]))))
def keep111_0 : Option (List Nat) := some [0, 1, 7, 8]
def code111 : MF := ⟨19, [(4, none)], (.seq (.ops false [⟨some 4,none,.mov (.cst (I 0))⟩])
 (.seq (.seq (.ops false [⟨some 6,none,.mov (.tmp 0)⟩,⟨some 7,none,.len (.tmp 6)⟩,⟨some 8,none,.mov (.cst (I 0))⟩])
 (.block 0 (.loop keep111_0 body111_0)))
 (.seq (.ops false [⟨some 4,none,.mov (.cst (I (-1)))⟩])
 .ret)))⟩
theorem comp111 : compF Cv 111 = some code111 := by kernel_rfl

def code128 : MF := ⟨15, [(4, some (some 4))], (.seq (.ops false [⟨some 2,none,.box (.tmp 0)⟩,⟨some 4,none,.alloc [(I 0),(I 0),(I 0),(I 0)]⟩])
 (.seq (.ops false [⟨some 5,none,.load (some 4) (.tmp 2)⟩,⟨some 6,none,.mov (.tmp 1)⟩,⟨some 7,none,.call (.cst (.fn (.func 130) [] [])) [(.tmp 5), (.tmp 6)]⟩,⟨none,none,.store 4 (.tmp 2) (.tmp 7)⟩])
 (.seq (.ops false [⟨some 8,none,.fad (.tmp 2) 2⟩,⟨some 9,none,.load none (.tmp 8)⟩,⟨some 10,none,.mov (.tmp 1)⟩,⟨some 11,none,.bin .shl (.cst (I 1)) (.tmp 10)⟩,⟨some 12,none,.bin .or (.tmp 9) (.tmp 11)⟩,⟨some 13,none,.fad (.tmp 2) 2⟩,⟨none,none,.store 1 (.tmp 13) (.tmp 12)⟩])
 (.seq (.ops false [⟨some 14,none,.load (some 4) (.tmp 2)⟩,⟨none,none,.store 4 (.tmp 4) (.tmp 14)⟩])
 .ret))))⟩
theorem comp128 : compF Cv 128 = some code128 := by kernel_rfl

def code130 : MF := ⟨12, [(4, some (some 4))], (.seq (.ops false [⟨some 2,none,.box (.tmp 0)⟩,⟨some 4,none,.alloc [(I 0),(I 0),(I 0),(I 0)]⟩])
 (.seq (.ops false [⟨some 5,none,.fad (.tmp 2) 1⟩,⟨some 6,none,.load none (.tmp 5)⟩,⟨some 7,none,.mov (.tmp 1)⟩,⟨some 8,none,.bin .shl (.cst (I 1)) (.tmp 7)⟩,⟨some 9,none,.bin .andNot (.tmp 6) (.tmp 8)⟩,⟨some 10,none,.fad (.tmp 2) 1⟩,⟨none,none,.store 1 (.tmp 10) (.tmp 9)⟩])
 (.seq (.ops false [⟨some 11,none,.load (some 4) (.tmp 2)⟩,⟨none,none,.store 4 (.tmp 4) (.tmp 11)⟩])
 .ret)))⟩
theorem comp130 : compF Cv 130 = some code130 := by kernel_rfl
@[simp] theorem srt_Cv {f : Nat} : Cv.srt f = (f == 69) := rfl
@[simp] theorem imp_Cv {f : Nat} : Cv.imp f = (f == 48 || f == 55 || f == 57 || f == 69 || f == 70 || f == 73 || f == 74 || f == 75 || f == 86 || f == 88 || f == 89) := rfl
end Go.Ai
