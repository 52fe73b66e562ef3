/- This text shows the codes of functions of the program, each by the kernel. No conditions of its own. -/
import Derived.Test.YtbjdaefdifofkaaDoorSimp
import Derived.Test.YtbjdaefdifofkaaDoorProg
import Derived.KernelRfl
set_option linter.unusedSimpArgs false
set_option linter.unusedVariables false
set_option maxRecDepth 100000
namespace Go.Ai
def keeps : List ((Nat × Nat) × List Nat) := [((7, 14), [2, 5, 6, 8, 9, 11, 12, 13, 15, 16]),
  ((7, 22), [9, 11, 12, 19, 20, 21]),
  ((8, 12), [2, 5, 6, 7, 9, 11, 12]),
  ((8, 21), [2, 5, 17, 18]),
  ((9, 27), [23, 24, 25]),
  ((11, 20), [9, 16, 18, 20]),
  ((12, 7), [2, 5, 6, 7, 8, 9]),
  ((12, 15), [2, 5, 6, 7, 8, 11]),
  ((14, 13), [1, 2]),
  ((14, 43), [43, 44]),
  ((17, 3), [1, 3, 30, 31, 32]),
  ((17, 8), [1, 3, 44, 45, 46]),
  ((18, 3), [1, 3, 4]),
  ((18, 7), [1, 3, 5]),
  ((26, 8), [1, 2, 11, 12, 13, 14]),
  ((26, 11), [1, 2, 11, 12, 13, 14, 51, 52, 53]),
  ((27, 6), [1, 2, 3, 10, 11, 12]),
  ((27, 10), [1, 2, 3, 10, 11, 12, 13, 14]),
  ((28, 3), [0, 1, 5, 6]),
  ((29, 8), [10, 11, 31, 32, 33]),
  ((30, 8), [8, 10, 11]),
  ((33, 8), [5, 6, 26, 27]),
  ((34, 11), [1, 5, 6, 11]),
  ((35, 3), [1, 3, 4]),
  ((35, 8), [1, 3, 6]),
  ((36, 3), [1, 2, 5, 6]),
  ((37, 4), [1, 2, 3, 6, 7, 8]),
  ((37, 10), [1, 2, 3, 6, 7, 10]),
  ((42, 2), [0, 1, 5]),
  ((51, 2), [0, 1, 5]),
  ((52, 3), [0, 1, 5, 6]),
  ((53, 4), [1, 2, 4, 5, 6]),
  ((59, 3), [1, 2, 4, 6, 7]),
  ((59, 6), [1, 2, 4, 6, 7, 8]),
  ((59, 11), [1, 2, 4, 6, 9]),
  ((59, 15), [1, 2, 4, 6, 10]),
  ((59, 20), [1, 2, 4, 6, 12]),
  ((59, 26), [4, 6, 14]),
  ((59, 29), [4, 6, 14, 15]),
  ((59, 32), [4, 6, 14, 15, 16]),
  ((59, 36), [4, 6, 17]),
  ((61, 3), [1, 3, 24, 25, 26]),
  ((61, 10), [1, 3, 65, 66, 67]),
  ((64, 3), [1, 3, 4]),
  ((64, 8), [1, 3, 6]),
  ((72, 3), [1, 2, 3, 11, 12]),
  ((73, 3), [2, 3, 4, 5, 6]),
  ((77, 2), [2, 3, 5, 6, 9, 11]),
  ((78, 3), [1, 2, 5, 6]),
  ((79, 2), [1, 3, 5, 7, 9, 11]),
  ((81, 4), [1, 2, 4, 5, 6, 25, 26]),
  ((81, 9), [1, 4, 5, 6, 34, 35, 36]),
  ((81, 17), [4, 5, 63]),
  ((81, 21), [4, 5, 11, 63, 70]),
  ((81, 31), [4, 5, 102]),
  ((81, 34), [4, 5, 15, 102, 105]),
  ((81, 37), [4, 5, 15, 16, 102, 105, 108]),
  ((81, 44), [4, 5, 140]),
  ((82, 8), [0, 1, 2, 3, 8, 10]),
  ((90, 3), [1, 2, 3, 4, 8, 9, 24, 25, 26]),
  ((91, 3), [1, 3, 6, 7]),
  ((93, 2), [0, 1, 5]),
  ((95, 2), [1, 2, 5]),
  ((101, 2), [0, 7, 8, 9]),
  ((104, 2), [0, 1, 7, 8]),
  ((107, 2), [5, 28, 29]),
  ((109, 3), [1, 2, 4, 5, 16, 17]),
  ((109, 10), [5, 6, 8, 34, 35]),
  ((112, 5), [1, 2, 3, 7, 8, 9]),
  ((112, 8), [1, 2, 3, 7, 8, 9]),
  ((112, 11), [1, 2, 3, 7, 8, 9]),
  ((112, 14), [1, 2, 3, 7, 8, 9]),
  ((112, 17), [1, 2, 3, 7, 8, 9]),
  ((117, 3), [2, 3, 9, 10, 11]),
  ((118, 1), [0, 2, 8, 9, 10]),
  ((121, 2), [0, 7, 8, 9]),
  ((125, 2), [1, 3, 4, 6, 9]),
  ((127, 2), [0, 1, 7, 8]),
  ((129, 2), [1, 3, 4, 6, 13, 14, 15]),
  ((130, 3), [1, 3, 4, 5, 6, 7, 8, 11, 21, 22]),
  ((131, 2), [0, 1, 7, 8])]
def keepOf (f i : Nat) : Option (List Nat) := keeps.lookup (f, i)

noncomputable def Cv : Cfg := { P := Go.Proofs.Tryd.prog, glob := fun g => if g = 0 then some [.fn (.func 149) [] [], .fn (.func 150) [] []] else if g = 1 then some [I 1048576, I 1048576, I 1048576, I 1048576, I 1048576, I 1048576] else if g = 2 then some [.fn (.func 151) [] [], .fn (.func 152) [] []] else if g = 3 then some [I (-1), I (-1)] else if g = 4 then some [I (-1), I (-1)] else if g = 5 then some [I (-1), I (-1), I (-1), I (-1), I (-1)] else none, wsite := fun f t => f == 11 && t == 88, imp := fun f => f == 82 || f == 107 || f == 108 || f == 118 || f == 120 || f == 128 || f == 130, keep := keepOf }

def code15 : MF := ⟨12, [(2, none), (3, none)], (.seq (.ops false [⟨some 1,none,.box (.tmp 0)⟩,⟨some 2,none,.mov (.cst (.bool false))⟩,⟨some 3,none,.mov (.cst (I 0))⟩])
 (.seq (.seq (.ops false [⟨some 5,none,.load (some 6) (.tmp 1)⟩,⟨some 6,none,.call (.cst (.fn (.func 17) [] [])) [(.tmp 5)]⟩,⟨some 4,none,.mov (.tmp 6)⟩])
 (.seq (.ops false [⟨some 7,none,.mov (.tmp 4)⟩,⟨some 8,none,.bin .neq (.tmp 7) (.cst (I 0))⟩])
 (.cond (.tmp 8) (.seq (.ops false [⟨some 9,none,.mov (.tmp 4)⟩,⟨some 2,none,.mov (.cst (.bool false))⟩,⟨some 3,none,.mov (.tmp 9)⟩])
 .ret) .skip)))
 (.seq (.ops false [⟨some 10,none,.load (some 6) (.tmp 1)⟩,⟨some 11,none,.call (.cst (.fn (.func 57) [] [])) [(.tmp 10)]⟩,⟨some 2,none,.mov (.tmp 11)⟩,⟨some 3,none,.mov (.cst (I 0))⟩])
 .ret)))⟩
theorem comp15 : compF Cv 15 = some code15 := by kernel_rfl
def body17_0 : MC := (.seq (.ops false [⟨some 33,none,.bin .lss (.tmp 32) (.tmp 31)⟩])
 (.seq (.cond (.tmp 33) .skip (.exit 0))
 (.seq (.block 1 (.seq (.ops false [⟨some 34,none,.ixs 4 (.tmp 30) (.tmp 32)⟩,⟨some 35,none,.load (some 4) (.tmp 34)⟩,⟨some 5,none,.alloc [(I 0),(I 0),(I 0),(I 0)]⟩,⟨none,none,.store 4 (.tmp 5) (.tmp 35)⟩])
 (.ops false [⟨some 36,none,.mov (.tmp 3)⟩,⟨some 37,none,.mov (.tmp 36)⟩,⟨some 38,some ((some 37), true),.load (some 6) (.tmp 1)⟩,⟨some 39,some ((some 37), true),.load (some 4) (.tmp 5)⟩,⟨some 40,some ((some 37), true),.call (.cst (.fn (.func 62) [] [])) [(.tmp 38), (.tmp 39)]⟩,⟨some 41,none,.pick (.tmp 37) (.tmp 40) (.cst (.bool false))⟩,⟨some 3,none,.mov (.tmp 41)⟩])))
 (.ops false [⟨some 42,none,.bin .add (.tmp 32) (.cst (I 1))⟩,⟨some 32,none,.mov (.tmp 42)⟩]))))
def keep17_0 : Option (List Nat) := some [1, 3, 30, 31, 32]
def body17_1 : MC := (.seq (.ops false [⟨some 47,none,.bin .lss (.tmp 46) (.tmp 45)⟩])
 (.seq (.cond (.tmp 47) .skip (.exit 2))
 (.seq (.block 3 (.seq (.ops false [⟨some 48,none,.ixs 3 (.tmp 44) (.tmp 46)⟩,⟨some 49,none,.load (some 3) (.tmp 48)⟩,⟨some 7,none,.alloc [(I 0),(I 0),(I 0)]⟩,⟨none,none,.store 3 (.tmp 7) (.tmp 49)⟩])
 (.ops false [⟨some 50,none,.mov (.tmp 3)⟩,⟨some 51,none,.mov (.tmp 50)⟩,⟨some 52,some ((some 51), true),.load (some 6) (.tmp 1)⟩,⟨some 53,some ((some 51), true),.load (some 3) (.tmp 7)⟩,⟨some 54,some ((some 51), true),.call (.cst (.fn (.func 63) [] [])) [(.tmp 52), (.tmp 53)]⟩,⟨some 55,none,.pick (.tmp 51) (.tmp 54) (.cst (.bool false))⟩,⟨some 3,none,.mov (.tmp 55)⟩])))
 (.ops false [⟨some 56,none,.bin .add (.tmp 46) (.cst (I 1))⟩,⟨some 46,none,.mov (.tmp 56)⟩]))))
def keep17_1 : Option (List Nat) := some [1, 3, 44, 45, 46]
def code17 : MF := ⟨59, [(2, none)], (.seq (.ops false [⟨some 1,none,.box (.tmp 0)⟩,⟨some 2,none,.mov (.cst (I 0))⟩])
 (.seq (.ops false [⟨some 8,none,.fad (.tmp 1) 0⟩,⟨some 9,none,.load none (.tmp 8)⟩,⟨some 10,none,.call (.cst (.fn (.func 60) [] [])) [(.tmp 9), (.cst (I 1)), (.cst (I 5))]⟩,⟨some 11,none,.mov (.tmp 10)⟩,⟨some 12,some ((some 11), true),.fad (.tmp 1) 1⟩,⟨some 13,some ((some 11), true),.load none (.tmp 12)⟩,⟨some 14,some ((some 11), true),.len (.tmp 13)⟩,⟨some 15,some ((some 11), true),.bin .leq (.tmp 14) (.cst (I 6))⟩,⟨some 16,none,.pick (.tmp 11) (.tmp 15) (.cst (.bool false))⟩,⟨some 17,none,.mov (.tmp 16)⟩,⟨some 18,some ((some 17), true),.fad (.tmp 1) 2⟩,⟨some 19,some ((some 17), true),.load none (.tmp 18)⟩,⟨some 20,some ((some 17), true),.len (.tmp 19)⟩,⟨some 21,some ((some 17), true),.bin .leq (.tmp 20) (.cst (I 3))⟩,⟨some 22,none,.pick (.tmp 17) (.tmp 21) (.cst (.bool false))⟩,⟨some 23,none,.mov (.tmp 22)⟩,⟨some 24,some ((some 23), true),.fad (.tmp 1) 3⟩,⟨some 25,some ((some 23), true),.load (some 3) (.tmp 24)⟩,⟨some 26,some ((some 23), true),.call (.cst (.fn (.func 61) [] [])) [(.tmp 25)]⟩,⟨some 27,some ((some 23), true),.bin .eql (.tmp 26) (.cst (I 0))⟩,⟨some 28,none,.pick (.tmp 23) (.tmp 27) (.cst (.bool false))⟩,⟨some 3,none,.mov (.tmp 28)⟩])
 (.seq (.seq (.ops false [⟨some 29,none,.fad (.tmp 1) 1⟩,⟨some 30,none,.load none (.tmp 29)⟩,⟨some 31,none,.len (.tmp 30)⟩,⟨some 32,none,.mov (.cst (I 0))⟩])
 (.block 0 (.loop keep17_0 body17_0)))
 (.seq (.seq (.ops false [⟨some 43,none,.fad (.tmp 1) 2⟩,⟨some 44,none,.load none (.tmp 43)⟩,⟨some 45,none,.len (.tmp 44)⟩,⟨some 46,none,.mov (.cst (I 0))⟩])
 (.block 2 (.loop keep17_1 body17_1)))
 (.seq (.seq (.ops false [⟨some 57,none,.mov (.tmp 3)⟩,⟨some 58,none,.lnot (.tmp 57)⟩])
 (.cond (.tmp 58) (.seq (.ops false [⟨some 2,none,.mov (.cst (I 80))⟩])
 .ret) .skip))
 (.seq (.ops false [⟨some 2,none,.mov (.cst (I 0))⟩])
 .ret))))))⟩
theorem comp17 : compF Cv 17 = some code17 := by kernel_rfl
def code19 : MF := ⟨24, [(4, some (some 2)), (5, none)], (.seq (.ops false [⟨some 2,none,.box (.tmp 0)⟩,⟨some 4,none,.alloc [(I 0),(I 0)]⟩,⟨some 5,none,.mov (.cst (I 0))⟩])
 (.seq (.ops true [⟨some 9,none,.load (some 6) (.tmp 2)⟩,⟨some 10,none,.load (some 6) (.tmp 2)⟩,⟨some 11,none,.mov (.tmp 1)⟩,⟨some 12,none,.call (.cst (.fn (.func 68) [] [])) [(.tmp 10), (.tmp 11)]⟩,⟨some 13,none,.call (.cst (.fn (.func 67) [] [])) [(.tmp 9), (.tmp 12)]⟩,⟨some 8,none,.mov (.tmp 13)⟩,⟨some 14,none,.ext (.tmp 8) 0⟩,⟨some 15,none,.ext (.tmp 8) 1⟩,⟨some 6,none,.alloc [(I 0), .nils, .nils, .nils, (I 0), .nils, .nilm, (I 0),(I 0),(I 0),(I 0),(I 0),(I 0),(I 0),(I 0),(I 0),(I 0),(I 0),(I 0),(I 0),(I 0),(I 0),(I 0),(I 0),(I 0),(I 0),(I 0),(I 0),(I 0),(I 0),(I 0),(I 0),(I 0),(I 0),(I 0),(I 0),(I 0),(I 0),(I 0),(I 0),(I 0),(I 0),(I 0), (.bool false)]⟩,⟨none,none,.store 44 (.tmp 6) (.tmp 14)⟩,⟨some 7,none,.mov (.tmp 15)⟩])
 (.seq (.seq (.ops false [⟨some 16,none,.mov (.tmp 7)⟩,⟨some 17,none,.bin .neq (.tmp 16) (.cst (I 0))⟩])
 (.cond (.tmp 17) (.seq (.ops false [⟨some 18,none,.bld [(I 0),(I 0)] []⟩,⟨some 19,none,.mov (.tmp 7)⟩,⟨none,none,.store 2 (.tmp 4) (.tmp 18)⟩,⟨some 5,none,.mov (.tmp 19)⟩])
 .ret) .skip))
 (.seq (.ops false [⟨some 20,none,.load (some 44) (.tmp 6)⟩,⟨some 21,none,.mov (.tmp 1)⟩,⟨some 22,none,.bld [(I 0),(I 0)] [(0, 1, (.cst (I 5))), (1, 1, (.tmp 21))]⟩,⟨some 23,none,.call (.cst (.fn (.func 69) [] [])) [(.tmp 20), (.tmp 22)]⟩,⟨none,none,.store 2 (.tmp 4) (.tmp 23)⟩,⟨some 5,none,.mov (.cst (I 0))⟩])
 .ret))))⟩
theorem comp19 : compF Cv 19 = some code19 := by kernel_rfl
def code21 : MF := ⟨32, [(6, some (some 2)), (7, none)], (.seq (.ops false [⟨some 3,none,.box (.tmp 0)⟩,⟨some 6,none,.alloc [(I 0),(I 0)]⟩,⟨some 7,none,.mov (.cst (I 0))⟩])
 (.seq (.ops true [⟨some 11,none,.load (some 6) (.tmp 3)⟩,⟨some 12,none,.load (some 6) (.tmp 3)⟩,⟨some 13,none,.mov (.tmp 1)⟩,⟨some 14,none,.call (.cst (.fn (.func 68) [] [])) [(.tmp 12), (.tmp 13)]⟩,⟨some 15,none,.mov (.tmp 14)⟩,⟨some 16,some ((some 15), true),.load (some 6) (.tmp 3)⟩,⟨some 17,some ((some 15), true),.mov (.tmp 2)⟩,⟨some 18,some ((some 15), true),.call (.cst (.fn (.func 68) [] [])) [(.tmp 16), (.tmp 17)]⟩,⟨some 19,none,.pick (.tmp 15) (.tmp 18) (.cst (.bool false))⟩,⟨some 20,none,.call (.cst (.fn (.func 67) [] [])) [(.tmp 11), (.tmp 19)]⟩,⟨some 10,none,.mov (.tmp 20)⟩,⟨some 21,none,.ext (.tmp 10) 0⟩,⟨some 22,none,.ext (.tmp 10) 1⟩,⟨some 8,none,.alloc [(I 0), .nils, .nils, .nils, (I 0), .nils, .nilm, (I 0),(I 0),(I 0),(I 0),(I 0),(I 0),(I 0),(I 0),(I 0),(I 0),(I 0),(I 0),(I 0),(I 0),(I 0),(I 0),(I 0),(I 0),(I 0),(I 0),(I 0),(I 0),(I 0),(I 0),(I 0),(I 0),(I 0),(I 0),(I 0),(I 0),(I 0),(I 0),(I 0),(I 0),(I 0),(I 0), (.bool false)]⟩,⟨none,none,.store 44 (.tmp 8) (.tmp 21)⟩,⟨some 9,none,.mov (.tmp 22)⟩])
 (.seq (.seq (.ops false [⟨some 23,none,.mov (.tmp 9)⟩,⟨some 24,none,.bin .neq (.tmp 23) (.cst (I 0))⟩])
 (.cond (.tmp 24) (.seq (.ops false [⟨some 25,none,.bld [(I 0),(I 0)] []⟩,⟨some 26,none,.mov (.tmp 9)⟩,⟨none,none,.store 2 (.tmp 6) (.tmp 25)⟩,⟨some 7,none,.mov (.tmp 26)⟩])
 .ret) .skip))
 (.seq (.ops false [⟨some 27,none,.load (some 44) (.tmp 8)⟩,⟨some 28,none,.mov (.tmp 1)⟩,⟨some 29,none,.mov (.tmp 2)⟩,⟨some 30,none,.bld [(I 0),(I 0)] [(0, 1, (.tmp 28)), (1, 1, (.tmp 29))]⟩,⟨some 31,none,.call (.cst (.fn (.func 69) [] [])) [(.tmp 27), (.tmp 30)]⟩,⟨none,none,.store 2 (.tmp 6) (.tmp 31)⟩,⟨some 7,none,.mov (.cst (I 0))⟩])
 .ret))))⟩
theorem comp21 : compF Cv 21 = some code21 := by kernel_rfl
def code23 : MF := ⟨17, [(2, some (some 2)), (3, none)], (.seq (.ops false [⟨some 1,none,.box (.tmp 0)⟩,⟨some 2,none,.alloc [(I 0),(I 0)]⟩,⟨some 3,none,.mov (.cst (I 0))⟩])
 (.seq (.ops false [⟨some 7,none,.load (some 6) (.tmp 1)⟩,⟨some 8,none,.call (.cst (.fn (.func 67) [] [])) [(.tmp 7), (.cst (.bool true))]⟩,⟨some 6,none,.mov (.tmp 8)⟩,⟨some 9,none,.ext (.tmp 6) 0⟩,⟨some 10,none,.ext (.tmp 6) 1⟩,⟨some 4,none,.alloc [(I 0), .nils, .nils, .nils, (I 0), .nils, .nilm, (I 0),(I 0),(I 0),(I 0),(I 0),(I 0),(I 0),(I 0),(I 0),(I 0),(I 0),(I 0),(I 0),(I 0),(I 0),(I 0),(I 0),(I 0),(I 0),(I 0),(I 0),(I 0),(I 0),(I 0),(I 0),(I 0),(I 0),(I 0),(I 0),(I 0),(I 0),(I 0),(I 0),(I 0),(I 0),(I 0), (.bool false)]⟩,⟨none,none,.store 44 (.tmp 4) (.tmp 9)⟩,⟨some 5,none,.mov (.tmp 10)⟩])
 (.seq (.seq (.ops false [⟨some 11,none,.mov (.tmp 5)⟩,⟨some 12,none,.bin .neq (.tmp 11) (.cst (I 0))⟩])
 (.cond (.tmp 12) (.seq (.ops false [⟨some 13,none,.bld [(I 0),(I 0)] []⟩,⟨some 14,none,.mov (.tmp 5)⟩,⟨none,none,.store 2 (.tmp 2) (.tmp 13)⟩,⟨some 3,none,.mov (.tmp 14)⟩])
 .ret) .skip))
 (.seq (.ops false [⟨some 15,none,.load (some 44) (.tmp 4)⟩,⟨some 16,none,.call (.cst (.fn (.func 72) [] [])) [(.tmp 15)]⟩,⟨none,none,.store 2 (.tmp 2) (.tmp 16)⟩,⟨some 3,none,.mov (.cst (I 0))⟩])
 .ret))))⟩
theorem comp23 : compF Cv 23 = some code23 := by kernel_rfl
def code25 : MF := ⟨124, [(0, none)], (.seq (.ops false [⟨some 0,none,.mov (.cst (.bool false))⟩])
 (.seq (.ops false [⟨some 15,none,.call (.cst (.fn (.func 55) [] [])) []⟩,⟨some 16,none,.call (.cst (.fn (.func 19) [] [])) [(.tmp 15), (.cst (I 2))]⟩,⟨some 14,none,.mov (.tmp 16)⟩,⟨some 17,none,.ext (.tmp 14) 0⟩,⟨some 18,none,.ext (.tmp 14) 1⟩,⟨some 1,none,.alloc [(I 0),(I 0)]⟩,⟨none,none,.store 2 (.tmp 1) (.tmp 17)⟩,⟨some 2,none,.mov (.tmp 18)⟩])
 (.seq (.ops false [⟨some 20,none,.call (.cst (.fn (.func 55) [] [])) []⟩,⟨some 21,none,.call (.cst (.fn (.func 21) [] [])) [(.tmp 20), (.cst (I 0)), (.cst (I 2))]⟩,⟨some 19,none,.mov (.tmp 21)⟩,⟨some 22,none,.ext (.tmp 19) 0⟩,⟨some 23,none,.ext (.tmp 19) 1⟩,⟨some 3,none,.alloc [(I 0),(I 0)]⟩,⟨none,none,.store 2 (.tmp 3) (.tmp 22)⟩,⟨some 4,none,.mov (.tmp 23)⟩])
 (.seq (.ops false [⟨some 25,none,.call (.cst (.fn (.func 55) [] [])) []⟩,⟨some 26,none,.call (.cst (.fn (.func 23) [] [])) [(.tmp 25)]⟩,⟨some 24,none,.mov (.tmp 26)⟩,⟨some 27,none,.ext (.tmp 24) 0⟩,⟨some 28,none,.ext (.tmp 24) 1⟩,⟨some 5,none,.alloc [(I 0),(I 0)]⟩,⟨none,none,.store 2 (.tmp 5) (.tmp 27)⟩,⟨some 6,none,.mov (.tmp 28)⟩])
 (.seq (.ops false [⟨some 30,none,.call (.cst (.fn (.func 55) [] [])) []⟩,⟨some 31,none,.call (.cst (.fn (.func 40) [] [])) [(.cst (I 0)), (.cst (I 8)), (.cst (I 15))]⟩,⟨some 32,none,.call (.cst (.fn (.func 40) [] [])) [(.cst (I 1)), (.cst (I 10)), (.cst (I 14))]⟩,⟨some 33,none,.bsl 3 true (.agg [(I 0),(I 0),(I 0)]) 2 [(0, (.tmp 31)), (1, (.tmp 32))]⟩,⟨some 34,none,.call (.cst (.fn (.func 26) [] [])) [(.tmp 30), (.cst (I 0)), (.tmp 33)]⟩,⟨some 29,none,.mov (.tmp 34)⟩,⟨some 35,none,.ext (.tmp 29) 0⟩,⟨some 36,none,.ext (.tmp 29) 1⟩,⟨some 7,none,.mov (.tmp 35)⟩,⟨some 8,none,.mov (.tmp 36)⟩])
 (.seq (.ops false [⟨some 38,none,.call (.cst (.fn (.func 55) [] [])) []⟩,⟨some 39,none,.call (.cst (.fn (.func 40) [] [])) [(.cst (I 1)), (.cst (I 10)), (.cst (I 18))]⟩,⟨some 40,none,.bsl 3 true (.agg [(I 0),(I 0),(I 0)]) 1 [(0, (.tmp 39))]⟩,⟨some 41,none,.call (.cst (.fn (.func 29) [] [])) [(.tmp 38), (.cst (I 0)), (.tmp 40)]⟩,⟨some 37,none,.mov (.tmp 41)⟩,⟨some 42,none,.ext (.tmp 37) 0⟩,⟨some 43,none,.ext (.tmp 37) 1⟩,⟨some 9,none,.mov (.tmp 42)⟩,⟨some 10,none,.mov (.tmp 43)⟩])
 (.seq (.seq (.ops true [⟨some 44,none,.mov (.tmp 2)⟩,⟨some 45,none,.bin .neq (.tmp 44) (.cst (I 0))⟩,⟨some 46,none,.mov (.tmp 45)⟩,⟨some 47,some ((some 46), false),.mov (.tmp 4)⟩,⟨some 48,some ((some 46), false),.bin .neq (.tmp 47) (.cst (I 0))⟩,⟨some 49,none,.pick (.tmp 46) (.cst (.bool true)) (.tmp 48)⟩,⟨some 50,none,.mov (.tmp 49)⟩,⟨some 51,some ((some 50), false),.mov (.tmp 6)⟩,⟨some 52,some ((some 50), false),.bin .neq (.tmp 51) (.cst (I 0))⟩,⟨some 53,none,.pick (.tmp 50) (.cst (.bool true)) (.tmp 52)⟩,⟨some 54,none,.mov (.tmp 53)⟩,⟨some 55,some ((some 54), false),.mov (.tmp 8)⟩,⟨some 56,some ((some 54), false),.bin .neq (.tmp 55) (.cst (I 0))⟩,⟨some 57,none,.pick (.tmp 54) (.cst (.bool true)) (.tmp 56)⟩,⟨some 58,none,.mov (.tmp 57)⟩,⟨some 59,some ((some 58), false),.mov (.tmp 10)⟩,⟨some 60,some ((some 58), false),.bin .neq (.tmp 59) (.cst (I 0))⟩,⟨some 61,none,.pick (.tmp 58) (.cst (.bool true)) (.tmp 60)⟩,⟨some 62,none,.mov (.tmp 61)⟩,⟨some 63,some ((some 62), false),.load (some 2) (.tmp 1)⟩,⟨some 64,some ((some 62), false),.call (.cst (.fn (.func 49) [] [])) [(.cst (I 12)), (.cst (I 15))]⟩,⟨some 65,some ((some 62), false),.eqa 2 true (.tmp 63) (.tmp 64)⟩,⟨some 66,none,.pick (.tmp 62) (.cst (.bool true)) (.tmp 65)⟩,⟨some 67,none,.mov (.tmp 66)⟩,⟨some 68,some ((some 67), false),.load (some 2) (.tmp 3)⟩,⟨some 69,some ((some 67), false),.call (.cst (.fn (.func 49) [] [])) [(.cst (I 3)), (.cst (I 4))]⟩,⟨some 70,some ((some 67), false),.eqa 2 true (.tmp 68) (.tmp 69)⟩,⟨some 71,none,.pick (.tmp 67) (.cst (.bool true)) (.tmp 70)⟩,⟨some 72,none,.mov (.tmp 71)⟩,⟨some 73,some ((some 72), false),.load (some 2) (.tmp 5)⟩,⟨some 74,some ((some 72), false),.call (.cst (.fn (.func 49) [] [])) [(.cst (I 0)), (.cst (I 2))]⟩,⟨some 75,some ((some 72), false),.eqa 2 true (.tmp 73) (.tmp 74)⟩,⟨some 76,none,.pick (.tmp 72) (.cst (.bool true)) (.tmp 75)⟩,⟨some 77,none,.mov (.tmp 76)⟩,⟨some 78,some ((some 77), false),.mov (.tmp 7)⟩,⟨some 79,some ((some 77), false),.bsl 1 false (I 0) 5 [(0, (.cst (I (-2)))), (1, (.cst (I (-1)))), (2, (.cst (I 0))), (3, (.cst (I 1))), (4, (.cst (I 2)))]⟩,⟨some 80,some ((some 77), false),.call (.cst (.fn (.func 28) [] [])) [(.tmp 78), (.tmp 79)]⟩,⟨some 81,some ((some 77), false),.lnot (.tmp 80)⟩,⟨some 82,none,.pick (.tmp 77) (.cst (.bool true)) (.tmp 81)⟩,⟨some 83,none,.mov (.tmp 82)⟩,⟨some 84,some ((some 83), false),.mov (.tmp 9)⟩,⟨some 85,some ((some 83), false),.bin .neq (.tmp 84) (.cst (I (-2)))⟩,⟨some 86,none,.pick (.tmp 83) (.cst (.bool true)) (.tmp 85)⟩])
 (.cond (.tmp 86) (.seq (.ops false [⟨some 0,none,.mov (.cst (.bool false))⟩])
 .ret) .skip))
 (.seq (.ops false [⟨some 88,none,.call (.cst (.fn (.func 55) [] [])) []⟩,⟨some 89,none,.call (.cst (.fn (.func 46) [] [])) [(.cst (I 0)), (.cst (I 1)), (.cst (I 4)), (.cst (I 2))]⟩,⟨some 90,none,.call (.cst (.fn (.func 31) [] [])) [(.tmp 88), (.tmp 89)]⟩,⟨some 87,none,.mov (.tmp 90)⟩,⟨some 91,none,.ext (.tmp 87) 0⟩,⟨some 92,none,.ext (.tmp 87) 1⟩,⟨some 11,none,.mov (.tmp 91)⟩,⟨some 2,none,.mov (.tmp 92)⟩])
 (.seq (.ops false [⟨some 94,none,.call (.cst (.fn (.func 56) [] [])) []⟩,⟨some 95,none,.call (.cst (.fn (.func 33) [] [])) [(.tmp 94)]⟩,⟨some 93,none,.mov (.tmp 95)⟩,⟨some 96,none,.ext (.tmp 93) 0⟩,⟨some 97,none,.ext (.tmp 93) 1⟩,⟨some 12,none,.mov (.tmp 96)⟩,⟨some 4,none,.mov (.tmp 97)⟩])
 (.seq (.ops false [⟨some 99,none,.call (.cst (.fn (.func 55) [] [])) []⟩,⟨some 100,none,.call (.cst (.fn (.func 15) [] [])) [(.tmp 99)]⟩,⟨some 98,none,.mov (.tmp 100)⟩,⟨some 101,none,.ext (.tmp 98) 0⟩,⟨some 102,none,.ext (.tmp 98) 1⟩,⟨some 13,none,.mov (.tmp 101)⟩,⟨some 6,none,.mov (.tmp 102)⟩])
 (.seq (.ops false [⟨some 103,none,.mov (.tmp 2)⟩,⟨some 104,none,.bin .eql (.tmp 103) (.cst (I 0))⟩,⟨some 105,none,.mov (.tmp 104)⟩,⟨some 106,some ((some 105), true),.mov (.tmp 4)⟩,⟨some 107,some ((some 105), true),.bin .eql (.tmp 106) (.cst (I 0))⟩,⟨some 108,none,.pick (.tmp 105) (.tmp 107) (.cst (.bool false))⟩,⟨some 109,none,.mov (.tmp 108)⟩,⟨some 110,some ((some 109), true),.mov (.tmp 6)⟩,⟨some 111,some ((some 109), true),.bin .eql (.tmp 110) (.cst (I 0))⟩,⟨some 112,none,.pick (.tmp 109) (.tmp 111) (.cst (.bool false))⟩,⟨some 113,none,.mov (.tmp 112)⟩,⟨some 114,some ((some 113), true),.mov (.tmp 11)⟩,⟨some 115,none,.pick (.tmp 113) (.tmp 114) (.cst (.bool false))⟩,⟨some 116,none,.mov (.tmp 115)⟩,⟨some 117,some ((some 116), true),.mov (.tmp 12)⟩,⟨some 118,some ((some 116), true),.bsl 1 false (I 0) 1 [(0, (.cst (I 3)))]⟩,⟨some 119,some ((some 116), true),.call (.cst (.fn (.func 28) [] [])) [(.tmp 117), (.tmp 118)]⟩,⟨some 120,none,.pick (.tmp 116) (.tmp 119) (.cst (.bool false))⟩,⟨some 121,none,.mov (.tmp 120)⟩,⟨some 122,some ((some 121), true),.mov (.tmp 13)⟩,⟨some 123,none,.pick (.tmp 121) (.tmp 122) (.cst (.bool false))⟩,⟨some 0,none,.mov (.tmp 123)⟩])
 .ret)))))))))))⟩
theorem comp25 : compF Cv 25 = some code25 := by kernel_rfl
def body26_0 : MC := (.seq (.ops false [⟨some 54,none,.bin .lss (.tmp 53) (.tmp 52)⟩])
 (.seq (.cond (.tmp 54) .skip (.exit 2))
 (.seq (.block 3 (.seq (.ops false [⟨some 55,none,.ixs 3 (.tmp 51) (.tmp 53)⟩,⟨some 56,none,.load (some 3) (.tmp 55)⟩,⟨some 16,none,.alloc [(I 0),(I 0),(I 0)]⟩,⟨none,none,.store 3 (.tmp 16) (.tmp 56)⟩])
 (.seq (.ops false [⟨some 57,none,.mov (.tmp 12)⟩,⟨some 58,none,.load (some 3) (.tmp 16)⟩,⟨some 59,none,.mov (.tmp 1)⟩,⟨some 60,none,.mov (.tmp 14)⟩,⟨some 61,none,.load (some 2) (.tmp 13)⟩,⟨some 62,none,.call (.tmp 57) [(.tmp 58), (.tmp 59), (.tmp 60), (.tmp 61)]⟩,⟨some 63,none,.lnot (.tmp 62)⟩])
 (.cond (.tmp 63) (.exit 1) .skip))))
 (.ops false [⟨some 64,none,.bin .add (.tmp 53) (.cst (I 1))⟩,⟨some 53,none,.mov (.tmp 64)⟩]))))
def keep26_0 : Option (List Nat) := some [1, 2, 11, 12, 13, 14, 51, 52, 53]
def body26_1 : MC := (.seq (.seq (.ops false [⟨some 47,none,.mov (.tmp 14)⟩,⟨some 48,none,.bin .leq (.tmp 47) (.cst (I 6))⟩])
 (.cond (.tmp 48) .skip (.exit 0)))
 (.seq (.block 1 (.seq (.seq (.ops false [⟨some 51,none,.mov (.tmp 2)⟩,⟨some 52,none,.len (.tmp 51)⟩,⟨some 53,none,.mov (.cst (I 0))⟩])
 (.block 2 (.loop keep26_0 body26_0)))
 (.ops false [⟨some 65,none,.mov (.tmp 11)⟩,⟨some 66,none,.mov (.tmp 14)⟩,⟨some 67,none,.bsl 1 false (I 0) 1 [(0, (.tmp 66))]⟩,⟨some 68,none,.app false 1 8 false (.tmp 65) (.tmp 67)⟩,⟨some 11,none,.mov (.tmp 68)⟩])))
 (.ops false [⟨some 49,none,.mov (.tmp 14)⟩,⟨some 50,none,.bin .add (.tmp 49) (.cst (I 1))⟩,⟨some 14,none,.mov (.tmp 50)⟩])))
def keep26_1 : Option (List Nat) := some [1, 2, 11, 12, 13, 14]
def code26 : MF := ⟨75, [(6, none), (7, none)], (.seq (.ops false [⟨some 3,none,.box (.tmp 0)⟩,⟨some 6,none,.mov (.cst .nils)⟩,⟨some 7,none,.mov (.cst (I 0))⟩])
 (.scope (.seq (.ops false [⟨some 17,none,.mov (.tmp 2)⟩,⟨some 18,none,.len (.tmp 17)⟩,⟨some 19,none,.call (.cst (.fn (.func 60) [] [])) [(.tmp 18), (.cst (I 1)), (.cst (I 4))]⟩,⟨some 20,none,.mov (.tmp 19)⟩,⟨some 21,some ((some 20), true),.mov (.tmp 2)⟩,⟨some 22,some ((some 20), true),.mkf (.func 75) [] [(.tmp 3)]⟩,⟨some 23,some ((some 20), true),.call (.cst (.fn (.func 74) [] [])) [(.tmp 21), (.tmp 22)]⟩,⟨some 24,some ((some 20), true),.lnot (.tmp 23)⟩,⟨some 25,none,.pick (.tmp 20) (.tmp 24) (.cst (.bool false))⟩,⟨some 8,none,.mov (.tmp 25)⟩])
 (.seq (.ops true [⟨some 27,none,.load (some 6) (.tmp 3)⟩,⟨some 28,none,.mov (.tmp 1)⟩,⟨some 29,none,.fad (.tmp 3) 3⟩,⟨some 30,none,.fad (.tmp 29) 1⟩,⟨some 31,none,.load none (.tmp 30)⟩,⟨some 32,none,.bin .sub (.tmp 31) (.cst (I 1))⟩,⟨some 33,none,.call (.cst (.fn (.func 60) [] [])) [(.tmp 28), (.cst (I 0)), (.tmp 32)]⟩,⟨some 34,none,.mov (.tmp 33)⟩,⟨some 35,some ((some 34), true),.mov (.tmp 8)⟩,⟨some 36,none,.pick (.tmp 34) (.tmp 35) (.cst (.bool false))⟩,⟨some 37,none,.call (.cst (.fn (.func 67) [] [])) [(.tmp 27), (.tmp 36)]⟩,⟨some 26,none,.mov (.tmp 37)⟩,⟨some 38,none,.ext (.tmp 26) 0⟩,⟨some 39,none,.ext (.tmp 26) 1⟩,⟨some 9,none,.alloc [(I 0), .nils, .nils, .nils, (I 0), .nils, .nilm, (I 0),(I 0),(I 0),(I 0),(I 0),(I 0),(I 0),(I 0),(I 0),(I 0),(I 0),(I 0),(I 0),(I 0),(I 0),(I 0),(I 0),(I 0),(I 0),(I 0),(I 0),(I 0),(I 0),(I 0),(I 0),(I 0),(I 0),(I 0),(I 0),(I 0),(I 0),(I 0),(I 0),(I 0),(I 0),(I 0), (.bool false)]⟩,⟨none,none,.store 44 (.tmp 9) (.tmp 38)⟩,⟨some 10,none,.mov (.tmp 39)⟩])
 (.seq (.seq (.ops false [⟨some 40,none,.mov (.tmp 10)⟩,⟨some 41,none,.bin .neq (.tmp 40) (.cst (I 0))⟩])
 (.cond (.tmp 41) (.seq (.ops false [⟨some 42,none,.mov (.tmp 10)⟩,⟨some 6,none,.mov (.cst .nils)⟩,⟨some 7,none,.mov (.tmp 42)⟩])
 .ret) .skip))
 (.seq (.ops false [⟨some 11,none,.mov (.cst .nils)⟩])
 (.seq (.ops true [⟨some 43,none,.load (some 44) (.tmp 9)⟩,⟨some 44,none,.mkf (.func 77) [(.tmp 43)] []⟩,⟨some 45,none,.load (some 44) (.tmp 9)⟩,⟨some 46,none,.call (.cst (.fn (.func 72) [] [])) [(.tmp 45)]⟩,⟨some 13,none,.alloc [(I 0),(I 0)]⟩,⟨some 12,none,.mov (.tmp 44)⟩,⟨none,none,.store 2 (.tmp 13) (.tmp 46)⟩])
 (.seq .skip
 (.seq (.seq (.ops false [⟨some 14,none,.mov (.cst (I (-6)))⟩])
 (.block 0 (.loop keep26_1 body26_1)))
 (.seq (.ops false [⟨some 69,none,.mov (.tmp 11)⟩,⟨some 70,none,.mov (.tmp 11)⟩,⟨some 71,none,.len (.tmp 70)⟩,⟨some 72,none,.mov (.tmp 11)⟩,⟨some 73,none,.len (.tmp 72)⟩,⟨some 74,none,.slc 1 (.tmp 69) none (some (.tmp 71)) (some (.tmp 73))⟩,⟨some 6,none,.mov (.tmp 74)⟩,⟨some 7,none,.mov (.cst (I 0))⟩])
 .ret))))))))))⟩
theorem comp26 : compF Cv 26 = some code26 := by kernel_rfl
def body28_0 : MC := (.seq (.seq (.ops false [⟨some 12,none,.mov (.tmp 5)⟩,⟨some 13,none,.mov (.tmp 12)⟩,⟨some 14,some ((some 13), true),.mov (.tmp 6)⟩,⟨some 15,some ((some 13), true),.mov (.tmp 0)⟩,⟨some 16,some ((some 13), true),.len (.tmp 15)⟩,⟨some 17,some ((some 13), true),.bin .lss (.tmp 14) (.tmp 16)⟩,⟨some 18,none,.pick (.tmp 13) (.tmp 17) (.cst (.bool false))⟩])
 (.cond (.tmp 18) .skip (.exit 0)))
 (.seq (.block 1 (.ops false [⟨some 21,none,.mov (.tmp 0)⟩,⟨some 22,none,.mov (.tmp 6)⟩,⟨some 23,none,.ixs 1 (.tmp 21) (.tmp 22)⟩,⟨some 24,none,.load none (.tmp 23)⟩,⟨some 25,none,.mov (.tmp 1)⟩,⟨some 26,none,.mov (.tmp 6)⟩,⟨some 27,none,.ixs 1 (.tmp 25) (.tmp 26)⟩,⟨some 28,none,.load none (.tmp 27)⟩,⟨some 29,none,.bin .eql (.tmp 24) (.tmp 28)⟩,⟨some 5,none,.mov (.tmp 29)⟩]))
 (.ops false [⟨some 19,none,.mov (.tmp 6)⟩,⟨some 20,none,.bin .add (.tmp 19) (.cst (I 1))⟩,⟨some 6,none,.mov (.tmp 20)⟩])))
def keep28_0 : Option (List Nat) := some [0, 1, 5, 6]
def code28 : MF := ⟨31, [(4, none)], (.seq (.ops false [⟨some 4,none,.mov (.cst (.bool false))⟩])
 (.seq (.ops false [⟨some 7,none,.mov (.tmp 0)⟩,⟨some 8,none,.len (.tmp 7)⟩,⟨some 9,none,.mov (.tmp 1)⟩,⟨some 10,none,.len (.tmp 9)⟩,⟨some 11,none,.bin .eql (.tmp 8) (.tmp 10)⟩,⟨some 5,none,.mov (.tmp 11)⟩])
 (.seq (.seq (.ops false [⟨some 6,none,.mov (.cst (I 0))⟩])
 (.block 0 (.loop keep28_0 body28_0)))
 (.seq (.ops false [⟨some 30,none,.mov (.tmp 5)⟩,⟨some 4,none,.mov (.tmp 30)⟩])
 .ret))))⟩
theorem comp28 : compF Cv 28 = some code28 := by kernel_rfl
def body29_0 : MC := (.seq (.ops false [⟨some 34,none,.bin .lss (.tmp 33) (.tmp 32)⟩])
 (.seq (.cond (.tmp 34) .skip (.exit 0))
 (.seq (.block 1 (.seq (.ops false [⟨some 35,none,.ixs 1 (.tmp 31) (.tmp 33)⟩,⟨some 36,none,.load none (.tmp 35)⟩,⟨some 13,none,.mov (.tmp 36)⟩])
 (.seq (.ops false [⟨some 37,none,.fad (.tmp 11) 0⟩,⟨some 38,none,.load none (.tmp 37)⟩,⟨some 39,none,.mov (.tmp 13)⟩,⟨some 40,none,.mov (.tmp 10)⟩,⟨some 41,none,.call (.tmp 38) [(.tmp 39), (.tmp 40)]⟩])
 (.cond (.tmp 41) (.ops false [⟨some 42,none,.mov (.tmp 13)⟩,⟨some 10,none,.mov (.tmp 42)⟩]) .skip))))
 (.ops false [⟨some 43,none,.bin .add (.tmp 33) (.cst (I 1))⟩,⟨some 33,none,.mov (.tmp 43)⟩]))))
def keep29_0 : Option (List Nat) := some [10, 11, 31, 32, 33]
def code29 : MF := ⟨45, [(6, none), (7, none)], (.seq (.ops false [⟨some 3,none,.box (.tmp 0)⟩,⟨some 6,none,.mov (.cst (I 0))⟩,⟨some 7,none,.mov (.cst (I 0))⟩])
 (.seq (.ops false [⟨some 15,none,.load (some 6) (.tmp 3)⟩,⟨some 16,none,.mov (.tmp 1)⟩,⟨some 17,none,.mov (.tmp 2)⟩,⟨some 18,none,.call (.cst (.fn (.func 26) [] [])) [(.tmp 15), (.tmp 16), (.tmp 17)]⟩,⟨some 14,none,.mov (.tmp 18)⟩,⟨some 19,none,.ext (.tmp 14) 0⟩,⟨some 20,none,.ext (.tmp 14) 1⟩,⟨some 8,none,.mov (.tmp 19)⟩,⟨some 9,none,.mov (.tmp 20)⟩])
 (.seq (.seq (.ops false [⟨some 21,none,.mov (.tmp 9)⟩,⟨some 22,none,.bin .neq (.tmp 21) (.cst (I 0))⟩])
 (.cond (.tmp 22) (.seq (.ops false [⟨some 23,none,.mov (.tmp 9)⟩,⟨some 6,none,.mov (.cst (I 0))⟩,⟨some 7,none,.mov (.tmp 23)⟩])
 .ret) .skip))
 (.seq (.seq (.ops false [⟨some 24,none,.mov (.tmp 8)⟩,⟨some 25,none,.len (.tmp 24)⟩,⟨some 26,none,.bin .eql (.tmp 25) (.cst (I 0))⟩])
 (.cond (.tmp 26) (.seq (.ops false [⟨some 6,none,.mov (.cst (I 0))⟩,⟨some 7,none,.mov (.cst (I 4))⟩])
 .ret) .skip))
 (.seq (.ops true [⟨some 27,none,.mov (.tmp 8)⟩,⟨some 28,none,.ixs 1 (.tmp 27) (.cst (I 0))⟩,⟨some 29,none,.load none (.tmp 28)⟩,⟨some 30,none,.call (.cst (.fn (.func 80) [] [])) []⟩,⟨some 11,none,.alloc [.nilf]⟩,⟨some 10,none,.mov (.tmp 29)⟩,⟨none,none,.store 1 (.tmp 11) (.tmp 30)⟩])
 (.seq (.seq (.ops false [⟨some 31,none,.mov (.tmp 8)⟩,⟨some 32,none,.len (.tmp 31)⟩,⟨some 33,none,.mov (.cst (I 0))⟩])
 (.block 0 (.loop keep29_0 body29_0)))
 (.seq (.ops false [⟨some 44,none,.mov (.tmp 10)⟩,⟨some 6,none,.mov (.tmp 44)⟩,⟨some 7,none,.mov (.cst (I 0))⟩])
 .ret)))))))⟩
theorem comp29 : compF Cv 29 = some code29 := by kernel_rfl
def code31 : MF := ⟨35, [(4, none), (5, none)], (.seq (.ops false [⟨some 2,none,.box (.tmp 0)⟩,⟨some 3,none,.box (.tmp 1)⟩,⟨some 4,none,.mov (.cst (.bool false))⟩,⟨some 5,none,.mov (.cst (I 0))⟩])
 (.seq (.seq (.ops true [⟨some 9,none,.load (some 6) (.tmp 2)⟩,⟨some 10,none,.load (some 6) (.tmp 2)⟩,⟨some 11,none,.load (some 4) (.tmp 3)⟩,⟨some 12,none,.call (.cst (.fn (.func 62) [] [])) [(.tmp 10), (.tmp 11)]⟩,⟨some 13,none,.call (.cst (.fn (.func 67) [] [])) [(.tmp 9), (.tmp 12)]⟩,⟨some 8,none,.mov (.tmp 13)⟩,⟨some 14,none,.ext (.tmp 8) 0⟩,⟨some 15,none,.ext (.tmp 8) 1⟩,⟨some 6,none,.alloc [(I 0), .nils, .nils, .nils, (I 0), .nils, .nilm, (I 0),(I 0),(I 0),(I 0),(I 0),(I 0),(I 0),(I 0),(I 0),(I 0),(I 0),(I 0),(I 0),(I 0),(I 0),(I 0),(I 0),(I 0),(I 0),(I 0),(I 0),(I 0),(I 0),(I 0),(I 0),(I 0),(I 0),(I 0),(I 0),(I 0),(I 0),(I 0),(I 0),(I 0),(I 0),(I 0), (.bool false)]⟩,⟨none,none,.store 44 (.tmp 6) (.tmp 14)⟩,⟨some 7,none,.mov (.tmp 15)⟩])
 (.seq (.ops false [⟨some 16,none,.mov (.tmp 7)⟩,⟨some 17,none,.bin .neq (.tmp 16) (.cst (I 0))⟩])
 (.cond (.tmp 17) (.seq (.ops false [⟨some 18,none,.mov (.tmp 7)⟩,⟨some 4,none,.mov (.cst (.bool false))⟩,⟨some 5,none,.mov (.tmp 18)⟩])
 .ret) .skip)))
 (.seq (.ops false [⟨some 19,none,.fad (.tmp 2) 1⟩,⟨some 20,none,.load none (.tmp 19)⟩,⟨some 21,none,.fad (.tmp 2) 1⟩,⟨some 22,none,.load none (.tmp 21)⟩,⟨some 23,none,.len (.tmp 22)⟩,⟨some 24,none,.fad (.tmp 2) 1⟩,⟨some 25,none,.load none (.tmp 24)⟩,⟨some 26,none,.len (.tmp 25)⟩,⟨some 27,none,.slc 4 (.tmp 20) none (some (.tmp 23)) (some (.tmp 26))⟩,⟨some 28,none,.load (some 4) (.tmp 3)⟩,⟨some 29,none,.bsl 4 true (.agg [(I 0),(I 0),(I 0),(I 0)]) 1 [(0, (.tmp 28))]⟩,⟨some 30,none,.app false 4 32 true (.tmp 27) (.tmp 29)⟩,⟨some 31,none,.fad (.tmp 2) 1⟩,⟨none,none,.store 1 (.tmp 31) (.tmp 30)⟩])
 (.seq (.ops false [⟨some 32,none,.load (some 6) (.tmp 2)⟩,⟨some 33,none,.call (.cst (.fn (.func 81) [] [])) [(.tmp 32), (.cst .nils)]⟩,⟨some 34,none,.fld none (.tmp 33) 43⟩,⟨some 4,none,.mov (.tmp 34)⟩,⟨some 5,none,.mov (.cst (I 0))⟩])
 .ret))))⟩
theorem comp31 : compF Cv 31 = some code31 := by kernel_rfl
def body33_0 : MC := (.seq (.ops false [⟨some 28,none,.bin .lss (.tmp 27) (.tmp 26)⟩])
 (.seq (.cond (.tmp 28) .skip (.exit 0))
 (.seq (.block 1 (.seq (.ops false [⟨some 29,none,.mov (.tmp 27)⟩,⟨some 8,none,.mov (.tmp 29)⟩])
 (.seq (.ops false [⟨some 31,none,.load none (.tmp 5)⟩,⟨some 32,none,.mov (.tmp 8)⟩,⟨some 33,none,.call (.tmp 31) [(.cst .nils), (.tmp 32)]⟩,⟨some 30,none,.mov (.tmp 33)⟩,⟨some 34,none,.ext (.tmp 30) 0⟩,⟨some 35,none,.ext (.tmp 30) 1⟩,⟨some 9,none,.mov (.tmp 34)⟩,⟨some 10,none,.mov (.tmp 35)⟩])
 (.seq (.ops false [⟨some 36,none,.mov (.tmp 10)⟩,⟨some 37,none,.mov (.tmp 36)⟩,⟨some 38,some ((some 37), true),.mov (.tmp 6)⟩,⟨some 39,none,.pick (.tmp 37) (.tmp 38) (.cst (.bool false))⟩])
 (.cond (.tmp 39) (.seq (.ops false [⟨some 40,none,.mov (.tmp 9)⟩,⟨some 41,none,.mov (.tmp 9)⟩,⟨some 42,none,.len (.tmp 41)⟩,⟨some 43,none,.mov (.tmp 9)⟩,⟨some 44,none,.len (.tmp 43)⟩,⟨some 45,none,.slc 1 (.tmp 40) none (some (.tmp 42)) (some (.tmp 44))⟩,⟨some 2,none,.mov (.tmp 45)⟩,⟨some 3,none,.mov (.cst (I 0))⟩])
 .ret) .skip)))))
 (.ops false [⟨some 46,none,.bin .add (.tmp 27) (.cst (I 1))⟩,⟨some 27,none,.mov (.tmp 46)⟩]))))
def keep33_0 : Option (List Nat) := some [5, 6, 26, 27]
def code33 : MF := ⟨47, [(2, none), (3, none)], (.seq (.ops false [⟨some 1,none,.box (.tmp 0)⟩,⟨some 2,none,.mov (.cst .nils)⟩,⟨some 3,none,.mov (.cst (I 0))⟩])
 (.seq (.seq (.ops false [⟨some 11,none,.load (some 6) (.tmp 1)⟩,⟨some 12,none,.call (.cst (.fn (.func 17) [] [])) [(.tmp 11)]⟩,⟨some 4,none,.mov (.tmp 12)⟩])
 (.seq (.ops false [⟨some 13,none,.mov (.tmp 4)⟩,⟨some 14,none,.bin .neq (.tmp 13) (.cst (I 0))⟩])
 (.cond (.tmp 14) (.seq (.ops false [⟨some 15,none,.mov (.tmp 4)⟩,⟨some 2,none,.mov (.cst .nils)⟩,⟨some 3,none,.mov (.tmp 15)⟩])
 .ret) .skip)))
 (.seq (.ops false [⟨some 5,none,.alloc [.nilf]⟩])
 (.seq (.ops false [⟨some 16,none,.mkf (.func 82) [] [(.tmp 1), (.tmp 5)]⟩,⟨none,none,.store 1 (.tmp 5) (.tmp 16)⟩])
 (.seq (.ops false [⟨some 18,none,.fad (.tmp 1) 3⟩,⟨some 19,none,.load (some 3) (.tmp 18)⟩,⟨some 20,none,.call (.cst (.fn (.func 83) [] [])) [(.tmp 19)]⟩,⟨some 17,none,.mov (.tmp 20)⟩,⟨some 21,none,.ext (.tmp 17) 0⟩,⟨some 22,none,.ext (.tmp 17) 1⟩,⟨some 6,none,.mov (.tmp 21)⟩,⟨some 7,none,.mov (.tmp 22)⟩])
 (.seq (.seq (.ops false [⟨some 23,none,.fad (.tmp 1) 1⟩,⟨some 24,none,.load none (.tmp 23)⟩,⟨some 25,none,.len (.tmp 24)⟩,⟨some 26,none,.bin .add (.tmp 25) (.cst (I 1))⟩,⟨some 27,none,.mov (.cst (I 0))⟩])
 (.block 0 (.loop keep33_0 body33_0)))
 (.seq (.ops false [⟨some 2,none,.mov (.cst .nils)⟩,⟨some 3,none,.mov (.cst (I 82))⟩])
 .ret)))))))⟩
theorem comp33 : compF Cv 33 = some code33 := by kernel_rfl
def code38 : MF := ⟨17, [(4, none)], (.seq (.ops false [⟨some 4,none,.mov (.cst (I 0))⟩])
 (.seq (.seq (.ops false [⟨some 6,none,.mov (.tmp 1)⟩,⟨some 7,none,.bin .lss (.tmp 6) (.cst (I 1))⟩])
 (.cond (.tmp 7) (.seq (.ops false [⟨some 4,none,.mov (.cst (I 0))⟩])
 .ret) .skip))
 (.seq (.ops false [⟨some 8,none,.mov (.tmp 0)⟩,⟨some 9,none,.mov (.tmp 1)⟩,⟨some 10,none,.bin .rem (.tmp 8) (.tmp 9)⟩,⟨some 5,none,.mov (.tmp 10)⟩])
 (.seq (.seq (.ops false [⟨some 11,none,.mov (.tmp 5)⟩,⟨some 12,none,.bin .lss (.tmp 11) (.cst (I 0))⟩])
 (.cond (.tmp 12) (.ops false [⟨some 13,none,.mov (.tmp 5)⟩,⟨some 14,none,.mov (.tmp 1)⟩,⟨some 15,none,.bin .add (.tmp 13) (.tmp 14)⟩,⟨some 5,none,.mov (.tmp 15)⟩]) .skip))
 (.seq (.ops false [⟨some 16,none,.mov (.tmp 5)⟩,⟨some 4,none,.mov (.tmp 16)⟩])
 .ret)))))⟩
theorem comp38 : compF Cv 38 = some code38 := by kernel_rfl
def code40 : MF := ⟨12, [(6, some (some 3))], (.seq (.ops false [⟨some 6,none,.alloc [(I 0),(I 0),(I 0)]⟩])
 (.seq (.ops false [⟨some 7,none,.mov (.tmp 0)⟩,⟨some 8,none,.mov (.tmp 1)⟩,⟨some 9,none,.mov (.tmp 2)⟩,⟨some 10,none,.call (.cst (.fn (.func 49) [] [])) [(.tmp 8), (.tmp 9)]⟩,⟨some 11,none,.bld [(I 0),(I 0),(I 0)] [(0, 1, (.tmp 7)), (1, 2, (.tmp 10))]⟩,⟨none,none,.store 3 (.tmp 6) (.tmp 11)⟩])
 .ret))⟩
theorem comp40 : compF Cv 40 = some code40 := by kernel_rfl
def code41 : MF := ⟨38, [(8, none), (9, none)], (.seq (.ops false [⟨some 4,none,.box (.tmp 0)⟩,⟨some 8,none,.mov (.cst (I 0))⟩,⟨some 9,none,.mov (.cst (I 0))⟩])
 (.seq (.ops true [⟨some 13,none,.load (some 3) (.tmp 4)⟩,⟨some 14,none,.load (some 3) (.tmp 4)⟩,⟨some 15,none,.mov (.tmp 1)⟩,⟨some 16,none,.call (.cst (.fn (.func 87) [] [])) [(.tmp 14), (.tmp 15)]⟩,⟨some 17,none,.mov (.tmp 16)⟩,⟨some 18,some ((some 17), true),.load (some 3) (.tmp 4)⟩,⟨some 19,some ((some 17), true),.mov (.tmp 2)⟩,⟨some 20,some ((some 17), true),.call (.cst (.fn (.func 88) [] [])) [(.tmp 18), (.tmp 19)]⟩,⟨some 21,none,.pick (.tmp 17) (.tmp 20) (.cst (.bool false))⟩,⟨some 22,none,.mov (.tmp 21)⟩,⟨some 23,some ((some 22), true),.mov (.tmp 3)⟩,⟨some 24,some ((some 22), true),.call (.cst (.fn (.func 89) [] [])) [(.tmp 23)]⟩,⟨some 25,none,.pick (.tmp 22) (.tmp 24) (.cst (.bool false))⟩,⟨some 26,none,.call (.cst (.fn (.func 86) [] [])) [(.tmp 13), (.tmp 25)]⟩,⟨some 12,none,.mov (.tmp 26)⟩,⟨some 27,none,.ext (.tmp 12) 0⟩,⟨some 28,none,.ext (.tmp 12) 1⟩,⟨some 10,none,.alloc [.nils, (I 0), .nils, .nils, .nilm]⟩,⟨none,none,.store 5 (.tmp 10) (.tmp 27)⟩,⟨some 11,none,.mov (.tmp 28)⟩])
 (.seq (.seq (.ops false [⟨some 29,none,.mov (.tmp 11)⟩,⟨some 30,none,.bin .neq (.tmp 29) (.cst (I 0))⟩])
 (.cond (.tmp 30) (.seq (.ops false [⟨some 31,none,.mov (.tmp 11)⟩,⟨some 8,none,.mov (.cst (I 0))⟩,⟨some 9,none,.mov (.tmp 31)⟩])
 .ret) .skip))
 (.seq (.ops false [⟨some 32,none,.load (some 5) (.tmp 10)⟩,⟨some 33,none,.mov (.tmp 1)⟩,⟨some 34,none,.mov (.tmp 2)⟩,⟨some 35,none,.mov (.tmp 3)⟩,⟨some 36,none,.call (.cst (.fn (.func 90) [] [])) [(.tmp 32), (.tmp 33), (.tmp 34), (.tmp 35)]⟩,⟨some 37,none,.call (.cst (.fn (.func 91) [] [])) [(.tmp 36)]⟩,⟨some 8,none,.mov (.tmp 37)⟩,⟨some 9,none,.mov (.cst (I 0))⟩])
 .ret))))⟩
theorem comp41 : compF Cv 41 = some code41 := by kernel_rfl
def body42_0 : MC := (.seq (.seq (.ops false [⟨some 6,none,.mov (.tmp 5)⟩,⟨some 7,none,.mov (.tmp 0)⟩,⟨some 8,none,.len (.tmp 7)⟩,⟨some 9,none,.bin .lss (.tmp 6) (.tmp 8)⟩])
 (.cond (.tmp 9) .skip (.exit 0)))
 (.seq (.block 1 (.seq (.ops false [⟨some 12,none,.mov (.tmp 0)⟩,⟨some 13,none,.mov (.tmp 5)⟩,⟨some 14,none,.ixs 1 (.tmp 12) (.tmp 13)⟩,⟨some 15,none,.load none (.tmp 14)⟩,⟨some 16,none,.mov (.tmp 1)⟩,⟨some 17,none,.bin .eql (.tmp 15) (.tmp 16)⟩])
 (.cond (.tmp 17) (.seq (.ops false [⟨some 18,none,.mov (.tmp 5)⟩,⟨some 4,none,.mov (.tmp 18)⟩])
 .ret) .skip)))
 (.ops false [⟨some 10,none,.mov (.tmp 5)⟩,⟨some 11,none,.bin .add (.tmp 10) (.cst (I 1))⟩,⟨some 5,none,.mov (.tmp 11)⟩])))
def keep42_0 : Option (List Nat) := some [0, 1, 5]
def code42 : MF := ⟨19, [(4, none)], (.seq (.ops false [⟨some 4,none,.mov (.cst (I 0))⟩])
 (.seq (.seq (.ops false [⟨some 5,none,.mov (.cst (I 0))⟩])
 (.block 0 (.loop keep42_0 body42_0)))
 (.seq (.ops false [⟨some 4,none,.mov (.cst (I (-1)))⟩])
 .ret)))⟩
theorem comp42 : compF Cv 42 = some code42 := by kernel_rfl
def code43 : MF := ⟨15, [(6, none)], (.seq (.ops false [⟨some 6,none,.mov (.cst (.bool false))⟩])
 (.seq (.ops false [⟨some 7,none,.mov (.tmp 1)⟩,⟨some 8,none,.mov (.tmp 0)⟩,⟨some 9,none,.bin .leq (.tmp 7) (.tmp 8)⟩,⟨some 10,none,.mov (.tmp 9)⟩,⟨some 11,some ((some 10), true),.mov (.tmp 0)⟩,⟨some 12,some ((some 10), true),.mov (.tmp 2)⟩,⟨some 13,some ((some 10), true),.bin .leq (.tmp 11) (.tmp 12)⟩,⟨some 14,none,.pick (.tmp 10) (.tmp 13) (.cst (.bool false))⟩,⟨some 6,none,.mov (.tmp 14)⟩])
 .ret))⟩
theorem comp43 : compF Cv 43 = some code43 := by kernel_rfl
def code44 : MF := ⟨6, [(2, some (some 2))], (.seq (.ops false [⟨some 2,none,.alloc [(I 0),(I 0)]⟩])
 (.seq (.ops false [⟨some 3,none,.mov (.tmp 0)⟩,⟨some 4,none,.mov (.tmp 0)⟩,⟨some 5,none,.bld [(I 0),(I 0)] [(0, 1, (.tmp 3)), (1, 1, (.tmp 4))]⟩,⟨none,none,.store 2 (.tmp 2) (.tmp 5)⟩])
 .ret))⟩
theorem comp44 : compF Cv 44 = some code44 := by kernel_rfl
def code45 : MF := ⟨35, [(8, none)], (.seq (.ops false [⟨some 4,none,.box (.tmp 0)⟩,⟨some 8,none,.mov (.cst (.bool false))⟩])
 (.seq (.ops false [⟨some 9,none,.mov (.tmp 1)⟩,⟨some 10,none,.fad (.tmp 4) 0⟩,⟨some 11,none,.load none (.tmp 10)⟩,⟨some 12,none,.bin .leq (.tmp 9) (.tmp 11)⟩,⟨some 13,none,.mov (.tmp 12)⟩,⟨some 14,some ((some 13), true),.fad (.tmp 4) 0⟩,⟨some 15,some ((some 13), true),.load none (.tmp 14)⟩,⟨some 16,some ((some 13), true),.fad (.tmp 4) 1⟩,⟨some 17,some ((some 13), true),.load none (.tmp 16)⟩,⟨some 18,some ((some 13), true),.bin .leq (.tmp 15) (.tmp 17)⟩,⟨some 19,none,.pick (.tmp 13) (.tmp 18) (.cst (.bool false))⟩,⟨some 20,none,.mov (.tmp 19)⟩,⟨some 21,some ((some 20), true),.fad (.tmp 4) 1⟩,⟨some 22,some ((some 20), true),.load none (.tmp 21)⟩,⟨some 23,some ((some 20), true),.mov (.tmp 2)⟩,⟨some 24,some ((some 20), true),.bin .leq (.tmp 22) (.tmp 23)⟩,⟨some 25,none,.pick (.tmp 20) (.tmp 24) (.cst (.bool false))⟩,⟨some 26,none,.mov (.tmp 25)⟩,⟨some 27,some ((some 26), true),.fad (.tmp 4) 1⟩,⟨some 28,some ((some 26), true),.load none (.tmp 27)⟩,⟨some 29,some ((some 26), true),.fad (.tmp 4) 0⟩,⟨some 30,some ((some 26), true),.load none (.tmp 29)⟩,⟨some 31,some ((some 26), true),.bin .sub (.tmp 28) (.tmp 30)⟩,⟨some 32,some ((some 26), true),.mov (.tmp 3)⟩,⟨some 33,some ((some 26), true),.bin .leq (.tmp 31) (.tmp 32)⟩,⟨some 34,none,.pick (.tmp 26) (.tmp 33) (.cst (.bool false))⟩,⟨some 8,none,.mov (.tmp 34)⟩])
 .ret))⟩
theorem comp45 : compF Cv 45 = some code45 := by kernel_rfl
def code46 : MF := ⟨14, [(8, some (some 4))], (.seq (.ops false [⟨some 8,none,.alloc [(I 0),(I 0),(I 0),(I 0)]⟩])
 (.seq (.ops false [⟨some 9,none,.mov (.tmp 0)⟩,⟨some 10,none,.mov (.tmp 1)⟩,⟨some 11,none,.mov (.tmp 2)⟩,⟨some 12,none,.mov (.tmp 3)⟩,⟨some 13,none,.bld [(I 0),(I 0),(I 0),(I 0)] [(0, 1, (.tmp 9)), (1, 1, (.tmp 10)), (2, 1, (.tmp 11)), (3, 1, (.tmp 12))]⟩,⟨none,none,.store 4 (.tmp 8) (.tmp 13)⟩])
 .ret))⟩
theorem comp46 : compF Cv 46 = some code46 := by kernel_rfl
def code49 : MF := ⟨8, [(4, some (some 2))], (.seq (.ops false [⟨some 4,none,.alloc [(I 0),(I 0)]⟩])
 (.seq (.ops false [⟨some 5,none,.mov (.tmp 0)⟩,⟨some 6,none,.mov (.tmp 1)⟩,⟨some 7,none,.bld [(I 0),(I 0)] [(0, 1, (.tmp 5)), (1, 1, (.tmp 6))]⟩,⟨none,none,.store 2 (.tmp 4) (.tmp 7)⟩])
 .ret))⟩
theorem comp49 : compF Cv 49 = some code49 := by kernel_rfl
def body51_0 : MC := (.seq (.seq (.ops false [⟨some 6,none,.mov (.tmp 5)⟩,⟨some 7,none,.mov (.tmp 0)⟩,⟨some 8,none,.len (.tmp 7)⟩,⟨some 9,none,.bin .lss (.tmp 6) (.tmp 8)⟩])
 (.cond (.tmp 9) .skip (.exit 0)))
 (.seq (.block 1 (.seq (.ops false [⟨some 12,none,.mov (.tmp 0)⟩,⟨some 13,none,.mov (.tmp 5)⟩,⟨some 14,none,.ixs 1 (.tmp 12) (.tmp 13)⟩,⟨some 15,none,.load none (.tmp 14)⟩,⟨some 16,none,.mov (.tmp 1)⟩,⟨some 17,none,.bin .sub (.tmp 16) (.cst (I 1))⟩,⟨some 18,none,.call (.cst (.fn (.func 43) [] [])) [(.tmp 15), (.cst (I 0)), (.tmp 17)]⟩,⟨some 19,none,.lnot (.tmp 18)⟩,⟨some 20,none,.mov (.tmp 19)⟩,⟨some 21,some ((some 20), false),.mov (.tmp 5)⟩,⟨some 22,some ((some 20), false),.bin .gtr (.tmp 21) (.cst (I 0))⟩,⟨some 23,some ((some 20), false),.mov (.tmp 22)⟩,⟨some 24,some ((some 23), true),.mov (.tmp 0)⟩,⟨some 25,some ((some 23), true),.mov (.tmp 5)⟩,⟨some 26,some ((some 23), true),.ixs 1 (.tmp 24) (.tmp 25)⟩,⟨some 27,some ((some 23), true),.load none (.tmp 26)⟩,⟨some 28,some ((some 23), true),.mov (.tmp 0)⟩,⟨some 29,some ((some 23), true),.mov (.tmp 5)⟩,⟨some 30,some ((some 23), true),.bin .sub (.tmp 29) (.cst (I 1))⟩,⟨some 31,some ((some 23), true),.ixs 1 (.tmp 28) (.tmp 30)⟩,⟨some 32,some ((some 23), true),.load none (.tmp 31)⟩,⟨some 33,some ((some 23), true),.bin .leq (.tmp 27) (.tmp 32)⟩,⟨some 34,some ((some 20), false),.pick (.tmp 23) (.tmp 33) (.cst (.bool false))⟩,⟨some 35,none,.pick (.tmp 20) (.cst (.bool true)) (.tmp 34)⟩])
 (.cond (.tmp 35) (.seq (.ops false [⟨some 4,none,.mov (.cst (.bool false))⟩])
 .ret) .skip)))
 (.ops false [⟨some 10,none,.mov (.tmp 5)⟩,⟨some 11,none,.bin .add (.tmp 10) (.cst (I 1))⟩,⟨some 5,none,.mov (.tmp 11)⟩])))
def keep51_0 : Option (List Nat) := some [0, 1, 5]
def code51 : MF := ⟨36, [(4, none)], (.seq (.ops false [⟨some 4,none,.mov (.cst (.bool false))⟩])
 (.seq (.seq (.ops false [⟨some 5,none,.mov (.cst (I 0))⟩])
 (.block 0 (.loop keep51_0 body51_0)))
 (.seq (.ops false [⟨some 4,none,.mov (.cst (.bool true))⟩])
 .ret)))⟩
theorem comp51 : compF Cv 51 = some code51 := by kernel_rfl
def body52_0 : MC := (.seq (.seq (.ops false [⟨some 8,none,.mov (.tmp 6)⟩,⟨some 9,none,.mov (.tmp 1)⟩,⟨some 10,none,.bin .lss (.tmp 8) (.tmp 9)⟩])
 (.cond (.tmp 10) .skip (.exit 0)))
 (.seq (.block 1 (.seq (.ops false [⟨some 13,none,.mov (.tmp 0)⟩,⟨some 14,none,.mov (.tmp 6)⟩,⟨some 15,none,.call (.cst (.fn (.func 92) [] [])) [(.tmp 13), (.tmp 14)]⟩])
 (.cond (.tmp 15) (.ops false [⟨some 16,none,.mov (.tmp 5)⟩,⟨some 17,none,.mov (.tmp 6)⟩,⟨some 18,none,.bsl 1 false (I 0) 1 [(0, (.tmp 17))]⟩,⟨some 19,none,.app false 1 8 false (.tmp 16) (.tmp 18)⟩,⟨some 5,none,.mov (.tmp 19)⟩]) .skip)))
 (.ops false [⟨some 11,none,.mov (.tmp 6)⟩,⟨some 12,none,.bin .add (.tmp 11) (.cst (I 1))⟩,⟨some 6,none,.mov (.tmp 12)⟩])))
def keep52_0 : Option (List Nat) := some [0, 1, 5, 6]
def code52 : MF := ⟨21, [(4, none)], (.seq (.ops false [⟨some 4,none,.mov (.cst .nils)⟩])
 (.seq (.ops false [⟨some 7,none,.bsl 1 false (I 0) 0 []⟩,⟨some 5,none,.mov (.tmp 7)⟩])
 (.seq (.seq (.ops false [⟨some 6,none,.mov (.cst (I 0))⟩])
 (.block 0 (.loop keep52_0 body52_0)))
 (.seq (.ops false [⟨some 20,none,.mov (.tmp 5)⟩,⟨some 4,none,.mov (.tmp 20)⟩])
 .ret))))⟩
theorem comp52 : compF Cv 52 = some code52 := by kernel_rfl
def code54 : MF := ⟨22, [(4, none)], (.seq (.ops false [⟨some 4,none,.mov (.cst (.bool false))⟩])
 (.seq (.ops false [⟨some 5,none,.mov (.tmp 0)⟩,⟨some 6,none,.len (.tmp 5)⟩,⟨some 7,none,.mov (.tmp 1)⟩,⟨some 8,none,.len (.tmp 7)⟩,⟨some 9,none,.bin .lss (.tmp 6) (.tmp 8)⟩,⟨some 10,none,.mov (.tmp 9)⟩,⟨some 11,some ((some 10), false),.mov (.tmp 0)⟩,⟨some 12,some ((some 10), false),.len (.tmp 11)⟩,⟨some 13,some ((some 10), false),.mov (.tmp 1)⟩,⟨some 14,some ((some 10), false),.len (.tmp 13)⟩,⟨some 15,some ((some 10), false),.bin .eql (.tmp 12) (.tmp 14)⟩,⟨some 16,some ((some 10), false),.mov (.tmp 15)⟩,⟨some 17,some ((some 16), true),.mov (.tmp 0)⟩,⟨some 18,some ((some 16), true),.mov (.tmp 1)⟩,⟨some 19,some ((some 16), true),.call (.cst (.fn (.func 93) [] [])) [(.tmp 17), (.tmp 18)]⟩,⟨some 20,some ((some 10), false),.pick (.tmp 16) (.tmp 19) (.cst (.bool false))⟩,⟨some 21,none,.pick (.tmp 10) (.cst (.bool true)) (.tmp 20)⟩,⟨some 4,none,.mov (.tmp 21)⟩])
 .ret))⟩
theorem comp54 : compF Cv 54 = some code54 := by kernel_rfl
def code55 : MF := ⟨9, [(0, some (some 6))], (.seq (.ops false [⟨some 0,none,.alloc [(I 0), .nils, .nils, .nils, (I 0), .nils]⟩])
 (.seq (.ops false [⟨some 1,none,.call (.cst (.fn (.func 46) [] [])) [(.cst (I 0)), (.cst (I 1)), (.cst (I 0)), (.cst (I 2))]⟩,⟨some 2,none,.call (.cst (.fn (.func 46) [] [])) [(.cst (I 1)), (.cst (I 2)), (.cst (I 1)), (.cst (I 1))]⟩,⟨some 3,none,.call (.cst (.fn (.func 46) [] [])) [(.cst (I 0)), (.cst (I 2)), (.cst (I 4)), (.cst (I 1))]⟩,⟨some 4,none,.bsl 4 true (.agg [(I 0),(I 0),(I 0),(I 0)]) 3 [(0, (.tmp 1)), (1, (.tmp 2)), (2, (.tmp 3))]⟩,⟨some 5,none,.bld [(I 0),(I 0),(I 0)] [(1, 1, (.cst (I 10))), (2, 1, (.cst (I 1)))]⟩,⟨some 6,none,.bsl 3 true (.agg [(I 0),(I 0),(I 0)]) 1 [(0, (.tmp 5))]⟩,⟨some 7,none,.call (.cst (.fn (.func 94) [] [])) []⟩,⟨some 8,none,.bld [(I 0), .nils, .nils, .nils, (I 0), .nils] [(0, 1, (.cst (I 3))), (1, 1, (.tmp 4)), (2, 1, (.tmp 6)), (3, 3, (.tmp 7))]⟩,⟨none,none,.store 6 (.tmp 0) (.tmp 8)⟩])
 .ret))⟩
theorem comp55 : compF Cv 55 = some code55 := by kernel_rfl
def code56 : MF := ⟨10, [(0, some (some 6))], (.seq (.ops false [⟨some 0,none,.alloc [(I 0), .nils, .nils, .nils, (I 0), .nils]⟩])
 (.seq (.ops false [⟨some 2,none,.call (.cst (.fn (.func 55) [] [])) []⟩,⟨some 1,none,.alloc [(I 0), .nils, .nils, .nils, (I 0), .nils]⟩,⟨none,none,.store 6 (.tmp 1) (.tmp 2)⟩])
 (.seq (.ops true [⟨some 3,none,.fad (.tmp 1) 1⟩,⟨some 4,none,.load none (.tmp 3)⟩,⟨some 5,none,.call (.cst (.fn (.func 46) [] [])) [(.cst (I 0)), (.cst (I 1)), (.cst (I 10)), (.cst (I 1))]⟩,⟨some 6,none,.bsl 4 true (.agg [(I 0),(I 0),(I 0),(I 0)]) 1 [(0, (.tmp 5))]⟩,⟨some 7,none,.app false 4 32 true (.tmp 4) (.tmp 6)⟩,⟨some 8,none,.fad (.tmp 1) 1⟩,⟨none,none,.store 1 (.tmp 8) (.tmp 7)⟩])
 (.seq (.ops false [⟨some 9,none,.load (some 6) (.tmp 1)⟩,⟨none,none,.store 6 (.tmp 0) (.tmp 9)⟩])
 .ret))))⟩
theorem comp56 : compF Cv 56 = some code56 := by kernel_rfl
def code57 : MF := ⟨17, [(2, none)], (.seq (.ops false [⟨some 1,none,.box (.tmp 0)⟩,⟨some 2,none,.mov (.cst (.bool false))⟩])
 (.seq (.ops false [⟨some 6,none,.fad (.tmp 1) 3⟩,⟨some 7,none,.load (some 3) (.tmp 6)⟩,⟨some 8,none,.call (.cst (.fn (.func 83) [] [])) [(.tmp 7)]⟩,⟨some 5,none,.mov (.tmp 8)⟩,⟨some 9,none,.ext (.tmp 5) 0⟩,⟨some 10,none,.ext (.tmp 5) 1⟩,⟨some 3,none,.mov (.tmp 9)⟩,⟨some 4,none,.mov (.tmp 10)⟩])
 (.seq (.ops false [⟨some 11,none,.mov (.tmp 3)⟩,⟨some 12,none,.mov (.tmp 11)⟩,⟨some 13,some ((some 12), true),.load (some 6) (.tmp 1)⟩,⟨some 14,some ((some 12), true),.call (.cst (.fn (.func 81) [] [])) [(.tmp 13), (.cst .nils)]⟩,⟨some 15,some ((some 12), true),.fld none (.tmp 14) 43⟩,⟨some 16,none,.pick (.tmp 12) (.tmp 15) (.cst (.bool false))⟩,⟨some 2,none,.mov (.tmp 16)⟩])
 .ret)))⟩
theorem comp57 : compF Cv 57 = some code57 := by kernel_rfl
def code60 : MF := ⟨15, [(6, none)], (.seq (.ops false [⟨some 6,none,.mov (.cst (.bool false))⟩])
 (.seq (.ops false [⟨some 7,none,.mov (.tmp 1)⟩,⟨some 8,none,.mov (.tmp 0)⟩,⟨some 9,none,.bin .leq (.tmp 7) (.tmp 8)⟩,⟨some 10,none,.mov (.tmp 9)⟩,⟨some 11,some ((some 10), true),.mov (.tmp 0)⟩,⟨some 12,some ((some 10), true),.mov (.tmp 2)⟩,⟨some 13,some ((some 10), true),.bin .leq (.tmp 11) (.tmp 12)⟩,⟨some 14,none,.pick (.tmp 10) (.tmp 13) (.cst (.bool false))⟩,⟨some 6,none,.mov (.tmp 14)⟩])
 .ret))⟩
theorem comp60 : compF Cv 60 = some code60 := by kernel_rfl
def body61_0 : MC := (.seq (.ops false [⟨some 27,none,.bin .lss (.tmp 26) (.tmp 25)⟩])
 (.seq (.cond (.tmp 27) .skip (.exit 0))
 (.seq (.block 1 (.seq (.ops false [⟨some 28,none,.ixs 11 (.tmp 24) (.tmp 26)⟩,⟨some 29,none,.load (some 11) (.tmp 28)⟩,⟨some 5,none,.alloc [(I 0),(I 0),(I 0),(I 0),(I 0),(I 0),(I 0),(I 0),(I 0),(I 0),(I 0)]⟩,⟨none,none,.store 11 (.tmp 5) (.tmp 29)⟩])
 (.seq (.ops false [⟨some 30,none,.mov (.tmp 3)⟩,⟨some 31,none,.mov (.tmp 30)⟩,⟨some 32,some ((some 31), true),.fad (.tmp 5) 0⟩,⟨some 33,some ((some 31), true),.load (some 2) (.tmp 32)⟩,⟨some 34,some ((some 31), true),.call (.cst (.fn (.func 98) [] [])) [(.tmp 33), (.cst (I 40)), (.cst (I 2))]⟩,⟨some 35,none,.pick (.tmp 31) (.tmp 34) (.cst (.bool false))⟩,⟨some 36,none,.mov (.tmp 35)⟩,⟨some 37,some ((some 36), true),.fad (.tmp 5) 2⟩,⟨some 38,some ((some 36), true),.load (some 2) (.tmp 37)⟩,⟨some 39,some ((some 36), true),.call (.cst (.fn (.func 98) [] [])) [(.tmp 38), (.cst (I 40)), (.cst (I 2))]⟩,⟨some 40,none,.pick (.tmp 36) (.tmp 39) (.cst (.bool false))⟩,⟨some 3,none,.mov (.tmp 40)⟩])
 (.seq (.ops false [⟨some 41,none,.mov (.tmp 3)⟩,⟨some 42,none,.mov (.tmp 41)⟩,⟨some 43,some ((some 42), true),.fad (.tmp 5) 4⟩,⟨some 44,some ((some 42), true),.load (some 2) (.tmp 43)⟩,⟨some 45,some ((some 42), true),.call (.cst (.fn (.func 98) [] [])) [(.tmp 44), (.cst (I 2)), (.cst (I 1))]⟩,⟨some 46,none,.pick (.tmp 42) (.tmp 45) (.cst (.bool false))⟩,⟨some 47,none,.mov (.tmp 46)⟩,⟨some 48,some ((some 47), true),.fad (.tmp 5) 8⟩,⟨some 49,some ((some 47), true),.load none (.tmp 48)⟩,⟨some 50,some ((some 47), true),.call (.cst (.fn (.func 97) [] [])) [(.tmp 49), (.cst (I 0)), (.cst (I 2))]⟩,⟨some 51,none,.pick (.tmp 47) (.tmp 50) (.cst (.bool false))⟩,⟨some 3,none,.mov (.tmp 51)⟩])
 (.ops false [⟨some 52,none,.mov (.tmp 3)⟩,⟨some 53,none,.mov (.tmp 52)⟩,⟨some 54,some ((some 53), true),.fad (.tmp 5) 6⟩,⟨some 55,some ((some 53), true),.load (some 2) (.tmp 54)⟩,⟨some 56,some ((some 53), true),.call (.cst (.fn (.func 98) [] [])) [(.tmp 55), (.cst (I 6)), (.cst (I 2))]⟩,⟨some 57,none,.pick (.tmp 53) (.tmp 56) (.cst (.bool false))⟩,⟨some 58,none,.mov (.tmp 57)⟩,⟨some 59,some ((some 58), true),.fad (.tmp 5) 9⟩,⟨some 60,some ((some 58), true),.load (some 2) (.tmp 59)⟩,⟨some 61,some ((some 58), true),.call (.cst (.fn (.func 98) [] [])) [(.tmp 60), (.cst (I 9)), (.cst (I 3))]⟩,⟨some 62,none,.pick (.tmp 58) (.tmp 61) (.cst (.bool false))⟩,⟨some 3,none,.mov (.tmp 62)⟩])))))
 (.ops false [⟨some 63,none,.bin .add (.tmp 26) (.cst (I 1))⟩,⟨some 26,none,.mov (.tmp 63)⟩]))))
def keep61_0 : Option (List Nat) := some [1, 3, 24, 25, 26]
def body61_1 : MC := (.seq (.ops false [⟨some 68,none,.bin .lss (.tmp 67) (.tmp 66)⟩])
 (.seq (.cond (.tmp 68) .skip (.exit 2))
 (.seq (.block 3 (.seq (.ops false [⟨some 69,none,.ixs 4 (.tmp 65) (.tmp 67)⟩,⟨some 70,none,.load (some 4) (.tmp 69)⟩,⟨some 7,none,.alloc [(I 0),(I 0),(I 0),(I 0)]⟩,⟨none,none,.store 4 (.tmp 7) (.tmp 70)⟩])
 (.ops false [⟨some 71,none,.mov (.tmp 3)⟩,⟨some 72,none,.mov (.tmp 71)⟩,⟨some 73,some ((some 72), true),.load (some 3) (.tmp 1)⟩,⟨some 74,some ((some 72), true),.load (some 4) (.tmp 7)⟩,⟨some 75,some ((some 72), true),.call (.cst (.fn (.func 99) [] [])) [(.tmp 73), (.tmp 74)]⟩,⟨some 76,none,.pick (.tmp 72) (.tmp 75) (.cst (.bool false))⟩,⟨some 3,none,.mov (.tmp 76)⟩])))
 (.ops false [⟨some 77,none,.bin .add (.tmp 67) (.cst (I 1))⟩,⟨some 67,none,.mov (.tmp 77)⟩]))))
def keep61_1 : Option (List Nat) := some [1, 3, 65, 66, 67]
def code61 : MF := ⟨80, [(2, none)], (.seq (.ops false [⟨some 1,none,.box (.tmp 0)⟩,⟨some 2,none,.mov (.cst (I 0))⟩])
 (.seq (.ops false [⟨some 8,none,.fad (.tmp 1) 0⟩,⟨some 9,none,.load none (.tmp 8)⟩,⟨some 10,none,.len (.tmp 9)⟩,⟨some 11,none,.call (.cst (.fn (.func 97) [] [])) [(.tmp 10), (.cst (I 1)), (.cst (I 4))]⟩,⟨some 12,none,.mov (.tmp 11)⟩,⟨some 13,some ((some 12), true),.fad (.tmp 1) 1⟩,⟨some 14,some ((some 12), true),.load none (.tmp 13)⟩,⟨some 15,some ((some 12), true),.call (.cst (.fn (.func 97) [] [])) [(.tmp 14), (.cst (I 1)), (.cst (I 6))]⟩,⟨some 16,none,.pick (.tmp 12) (.tmp 15) (.cst (.bool false))⟩,⟨some 17,none,.mov (.tmp 16)⟩,⟨some 18,some ((some 17), true),.fad (.tmp 1) 2⟩,⟨some 19,some ((some 17), true),.load none (.tmp 18)⟩,⟨some 20,some ((some 17), true),.len (.tmp 19)⟩,⟨some 21,some ((some 17), true),.bin .leq (.tmp 20) (.cst (I 6))⟩,⟨some 22,none,.pick (.tmp 17) (.tmp 21) (.cst (.bool false))⟩,⟨some 3,none,.mov (.tmp 22)⟩])
 (.seq (.seq (.ops false [⟨some 23,none,.fad (.tmp 1) 0⟩,⟨some 24,none,.load none (.tmp 23)⟩,⟨some 25,none,.len (.tmp 24)⟩,⟨some 26,none,.mov (.cst (I 0))⟩])
 (.block 0 (.loop keep61_0 body61_0)))
 (.seq (.seq (.ops false [⟨some 64,none,.fad (.tmp 1) 2⟩,⟨some 65,none,.load none (.tmp 64)⟩,⟨some 66,none,.len (.tmp 65)⟩,⟨some 67,none,.mov (.cst (I 0))⟩])
 (.block 2 (.loop keep61_1 body61_1)))
 (.seq (.seq (.ops false [⟨some 78,none,.mov (.tmp 3)⟩,⟨some 79,none,.lnot (.tmp 78)⟩])
 (.cond (.tmp 79) (.seq (.ops false [⟨some 2,none,.mov (.cst (I 20))⟩])
 .ret) .skip))
 (.seq (.ops false [⟨some 2,none,.mov (.cst (I 0))⟩])
 .ret))))))⟩
theorem comp61 : compF Cv 61 = some code61 := by kernel_rfl
def code62 : MF := ⟨32, [(4, none)], (.seq (.ops false [⟨some 2,none,.box (.tmp 0)⟩,⟨some 3,none,.box (.tmp 1)⟩,⟨some 4,none,.mov (.cst (.bool false))⟩])
 (.seq (.ops false [⟨some 5,none,.load (some 6) (.tmp 2)⟩,⟨some 6,none,.fad (.tmp 3) 0⟩,⟨some 7,none,.load none (.tmp 6)⟩,⟨some 8,none,.call (.cst (.fn (.func 68) [] [])) [(.tmp 5), (.tmp 7)]⟩,⟨some 9,none,.mov (.tmp 8)⟩,⟨some 10,some ((some 9), true),.load (some 6) (.tmp 2)⟩,⟨some 11,some ((some 9), true),.fad (.tmp 3) 1⟩,⟨some 12,some ((some 9), true),.load none (.tmp 11)⟩,⟨some 13,some ((some 9), true),.call (.cst (.fn (.func 68) [] [])) [(.tmp 10), (.tmp 12)]⟩,⟨some 14,none,.pick (.tmp 9) (.tmp 13) (.cst (.bool false))⟩,⟨some 15,none,.mov (.tmp 14)⟩,⟨some 16,some ((some 15), true),.fad (.tmp 3) 0⟩,⟨some 17,some ((some 15), true),.load none (.tmp 16)⟩,⟨some 18,some ((some 15), true),.fad (.tmp 3) 1⟩,⟨some 19,some ((some 15), true),.load none (.tmp 18)⟩,⟨some 20,some ((some 15), true),.bin .neq (.tmp 17) (.tmp 19)⟩,⟨some 21,none,.pick (.tmp 15) (.tmp 20) (.cst (.bool false))⟩,⟨some 22,none,.mov (.tmp 21)⟩,⟨some 23,some ((some 22), true),.fad (.tmp 3) 2⟩,⟨some 24,some ((some 22), true),.load none (.tmp 23)⟩,⟨some 25,some ((some 22), true),.call (.cst (.fn (.func 60) [] [])) [(.tmp 24), (.cst (I (-30))), (.cst (I 30))]⟩,⟨some 26,none,.pick (.tmp 22) (.tmp 25) (.cst (.bool false))⟩,⟨some 27,none,.mov (.tmp 26)⟩,⟨some 28,some ((some 27), true),.fad (.tmp 3) 3⟩,⟨some 29,some ((some 27), true),.load none (.tmp 28)⟩,⟨some 30,some ((some 27), true),.call (.cst (.fn (.func 60) [] [])) [(.tmp 29), (.cst (I 0)), (.cst (I 5))]⟩,⟨some 31,none,.pick (.tmp 27) (.tmp 30) (.cst (.bool false))⟩,⟨some 4,none,.mov (.tmp 31)⟩])
 .ret))⟩
theorem comp62 : compF Cv 62 = some code62 := by kernel_rfl
def code63 : MF := ⟨19, [(4, none)], (.seq (.ops false [⟨some 2,none,.box (.tmp 0)⟩,⟨some 3,none,.box (.tmp 1)⟩,⟨some 4,none,.mov (.cst (.bool false))⟩])
 (.seq (.ops false [⟨some 5,none,.load (some 6) (.tmp 2)⟩,⟨some 6,none,.fad (.tmp 3) 0⟩,⟨some 7,none,.load none (.tmp 6)⟩,⟨some 8,none,.call (.cst (.fn (.func 68) [] [])) [(.tmp 5), (.tmp 7)]⟩,⟨some 9,none,.mov (.tmp 8)⟩,⟨some 10,some ((some 9), true),.fad (.tmp 3) 1⟩,⟨some 11,some ((some 9), true),.load none (.tmp 10)⟩,⟨some 12,some ((some 9), true),.call (.cst (.fn (.func 60) [] [])) [(.tmp 11), (.cst (I (-60))), (.cst (I 60))]⟩,⟨some 13,none,.pick (.tmp 9) (.tmp 12) (.cst (.bool false))⟩,⟨some 14,none,.mov (.tmp 13)⟩,⟨some 15,some ((some 14), true),.fad (.tmp 3) 2⟩,⟨some 16,some ((some 14), true),.load none (.tmp 15)⟩,⟨some 17,some ((some 14), true),.call (.cst (.fn (.func 60) [] [])) [(.tmp 16), (.cst (I 0)), (.cst (I 5))]⟩,⟨some 18,none,.pick (.tmp 14) (.tmp 17) (.cst (.bool false))⟩,⟨some 4,none,.mov (.tmp 18)⟩])
 .ret))⟩
theorem comp63 : compF Cv 63 = some code63 := by kernel_rfl
def body64_0 : MC := (.seq (.seq (.ops false [⟨some 22,none,.mov (.tmp 3)⟩,⟨some 23,none,.mov (.tmp 22)⟩,⟨some 24,some ((some 23), true),.mov (.tmp 4)⟩,⟨some 25,some ((some 23), true),.fad (.tmp 1) 0⟩,⟨some 26,some ((some 23), true),.load none (.tmp 25)⟩,⟨some 27,some ((some 23), true),.len (.tmp 26)⟩,⟨some 28,some ((some 23), true),.bin .lss (.tmp 24) (.tmp 27)⟩,⟨some 29,none,.pick (.tmp 23) (.tmp 28) (.cst (.bool false))⟩])
 (.cond (.tmp 29) .skip (.exit 0)))
 (.seq (.block 1 (.seq (.ops false [⟨some 32,none,.fad (.tmp 1) 0⟩,⟨some 33,none,.load none (.tmp 32)⟩,⟨some 34,none,.mov (.tmp 4)⟩,⟨some 35,none,.ixs 11 (.tmp 33) (.tmp 34)⟩,⟨some 36,none,.load (some 11) (.tmp 35)⟩,⟨some 5,none,.alloc [(I 0),(I 0),(I 0),(I 0),(I 0),(I 0),(I 0),(I 0),(I 0),(I 0),(I 0)]⟩,⟨none,none,.store 11 (.tmp 5) (.tmp 36)⟩])
 (.ops false [⟨some 37,none,.fad (.tmp 5) 0⟩,⟨some 38,none,.load (some 2) (.tmp 37)⟩,⟨some 39,none,.call (.cst (.fn (.func 45) [] [])) [(.tmp 38), (.cst (I 0)), (.cst (I 40)), (.cst (I 2))]⟩,⟨some 40,none,.mov (.tmp 39)⟩,⟨some 41,some ((some 40), true),.fad (.tmp 5) 2⟩,⟨some 42,some ((some 40), true),.load (some 2) (.tmp 41)⟩,⟨some 43,some ((some 40), true),.call (.cst (.fn (.func 45) [] [])) [(.tmp 42), (.cst (I 0)), (.cst (I 40)), (.cst (I 2))]⟩,⟨some 44,none,.pick (.tmp 40) (.tmp 43) (.cst (.bool false))⟩,⟨some 45,none,.mov (.tmp 44)⟩,⟨some 46,some ((some 45), true),.fad (.tmp 5) 4⟩,⟨some 47,some ((some 45), true),.load (some 2) (.tmp 46)⟩,⟨some 48,some ((some 45), true),.call (.cst (.fn (.func 45) [] [])) [(.tmp 47), (.cst (I 0)), (.cst (I 2)), (.cst (I 1))]⟩,⟨some 49,none,.pick (.tmp 45) (.tmp 48) (.cst (.bool false))⟩,⟨some 50,none,.mov (.tmp 49)⟩,⟨some 51,some ((some 50), true),.fad (.tmp 5) 6⟩,⟨some 52,some ((some 50), true),.load (some 2) (.tmp 51)⟩,⟨some 53,some ((some 50), true),.call (.cst (.fn (.func 45) [] [])) [(.tmp 52), (.cst (I 0)), (.cst (I 6)), (.cst (I 2))]⟩,⟨some 54,none,.pick (.tmp 50) (.tmp 53) (.cst (.bool false))⟩,⟨some 55,none,.mov (.tmp 54)⟩,⟨some 56,some ((some 55), true),.fad (.tmp 5) 8⟩,⟨some 57,some ((some 55), true),.load none (.tmp 56)⟩,⟨some 58,some ((some 55), true),.call (.cst (.fn (.func 43) [] [])) [(.tmp 57), (.cst (I 0)), (.cst (I 2))]⟩,⟨some 59,none,.pick (.tmp 55) (.tmp 58) (.cst (.bool false))⟩,⟨some 60,none,.mov (.tmp 59)⟩,⟨some 61,some ((some 60), true),.fad (.tmp 5) 9⟩,⟨some 62,some ((some 60), true),.load (some 2) (.tmp 61)⟩,⟨some 63,some ((some 60), true),.call (.cst (.fn (.func 45) [] [])) [(.tmp 62), (.cst (I 0)), (.cst (I 9)), (.cst (I 3))]⟩,⟨some 64,none,.pick (.tmp 60) (.tmp 63) (.cst (.bool false))⟩,⟨some 3,none,.mov (.tmp 64)⟩])))
 (.ops false [⟨some 30,none,.mov (.tmp 4)⟩,⟨some 31,none,.bin .add (.tmp 30) (.cst (I 1))⟩,⟨some 4,none,.mov (.tmp 31)⟩])))
def keep64_0 : Option (List Nat) := some [1, 3, 4]
def body64_1 : MC := (.seq (.seq (.ops false [⟨some 65,none,.mov (.tmp 3)⟩,⟨some 66,none,.mov (.tmp 65)⟩,⟨some 67,some ((some 66), true),.mov (.tmp 6)⟩,⟨some 68,some ((some 66), true),.fad (.tmp 1) 2⟩,⟨some 69,some ((some 66), true),.load none (.tmp 68)⟩,⟨some 70,some ((some 66), true),.len (.tmp 69)⟩,⟨some 71,some ((some 66), true),.bin .lss (.tmp 67) (.tmp 70)⟩,⟨some 72,none,.pick (.tmp 66) (.tmp 71) (.cst (.bool false))⟩])
 (.cond (.tmp 72) .skip (.exit 2)))
 (.seq (.block 3 (.ops false [⟨some 75,none,.load (some 3) (.tmp 1)⟩,⟨some 76,none,.fad (.tmp 1) 2⟩,⟨some 77,none,.load none (.tmp 76)⟩,⟨some 78,none,.mov (.tmp 6)⟩,⟨some 79,none,.ixs 4 (.tmp 77) (.tmp 78)⟩,⟨some 80,none,.load (some 4) (.tmp 79)⟩,⟨some 81,none,.call (.cst (.fn (.func 100) [] [])) [(.tmp 75), (.tmp 80)]⟩,⟨some 3,none,.mov (.tmp 81)⟩]))
 (.ops false [⟨some 73,none,.mov (.tmp 6)⟩,⟨some 74,none,.bin .add (.tmp 73) (.cst (I 1))⟩,⟨some 6,none,.mov (.tmp 74)⟩])))
def keep64_1 : Option (List Nat) := some [1, 3, 6]
def code64 : MF := ⟨84, [(2, none)], (.seq (.ops false [⟨some 1,none,.box (.tmp 0)⟩,⟨some 2,none,.mov (.cst (I 0))⟩])
 (.seq (.ops false [⟨some 7,none,.fad (.tmp 1) 0⟩,⟨some 8,none,.load none (.tmp 7)⟩,⟨some 9,none,.len (.tmp 8)⟩,⟨some 10,none,.call (.cst (.fn (.func 43) [] [])) [(.tmp 9), (.cst (I 1)), (.cst (I 4))]⟩,⟨some 11,none,.mov (.tmp 10)⟩,⟨some 12,some ((some 11), true),.fad (.tmp 1) 1⟩,⟨some 13,some ((some 11), true),.load none (.tmp 12)⟩,⟨some 14,some ((some 11), true),.call (.cst (.fn (.func 43) [] [])) [(.tmp 13), (.cst (I 1)), (.cst (I 6))]⟩,⟨some 15,none,.pick (.tmp 11) (.tmp 14) (.cst (.bool false))⟩,⟨some 16,none,.mov (.tmp 15)⟩,⟨some 17,some ((some 16), true),.fad (.tmp 1) 2⟩,⟨some 18,some ((some 16), true),.load none (.tmp 17)⟩,⟨some 19,some ((some 16), true),.len (.tmp 18)⟩,⟨some 20,some ((some 16), true),.bin .leq (.tmp 19) (.cst (I 6))⟩,⟨some 21,none,.pick (.tmp 16) (.tmp 20) (.cst (.bool false))⟩,⟨some 3,none,.mov (.tmp 21)⟩])
 (.seq (.seq (.ops false [⟨some 4,none,.mov (.cst (I 0))⟩])
 (.block 0 (.loop keep64_0 body64_0)))
 (.seq (.seq (.ops false [⟨some 6,none,.mov (.cst (I 0))⟩])
 (.block 2 (.loop keep64_1 body64_1)))
 (.seq (.seq (.ops false [⟨some 82,none,.mov (.tmp 3)⟩,⟨some 83,none,.lnot (.tmp 82)⟩])
 (.cond (.tmp 83) (.seq (.ops false [⟨some 2,none,.mov (.cst (I 20))⟩])
 .ret) .skip))
 (.seq (.ops false [⟨some 2,none,.mov (.cst (I 0))⟩])
 .ret))))))⟩
theorem comp64 : compF Cv 64 = some code64 := by kernel_rfl
def code67 : MF := ⟨22, [(4, some (some 44)), (5, none)], (.seq (.ops false [⟨some 2,none,.box (.tmp 0)⟩,⟨some 4,none,.alloc [(I 0), .nils, .nils, .nils, (I 0), .nils, .nilm, (I 0),(I 0),(I 0),(I 0),(I 0),(I 0),(I 0),(I 0),(I 0),(I 0),(I 0),(I 0),(I 0),(I 0),(I 0),(I 0),(I 0),(I 0),(I 0),(I 0),(I 0),(I 0),(I 0),(I 0),(I 0),(I 0),(I 0),(I 0),(I 0),(I 0),(I 0),(I 0),(I 0),(I 0),(I 0),(I 0), (.bool false)]⟩,⟨some 5,none,.mov (.cst (I 0))⟩])
 (.seq (.seq (.ops false [⟨some 7,none,.load (some 6) (.tmp 2)⟩,⟨some 8,none,.call (.cst (.fn (.func 17) [] [])) [(.tmp 7)]⟩,⟨some 6,none,.mov (.tmp 8)⟩])
 (.seq (.ops false [⟨some 9,none,.mov (.tmp 6)⟩,⟨some 10,none,.bin .neq (.tmp 9) (.cst (I 0))⟩])
 (.cond (.tmp 10) (.seq (.ops false [⟨some 11,none,.bld [(I 0), .nils, .nils, .nils, (I 0), .nils, .nilm, (I 0),(I 0),(I 0),(I 0),(I 0),(I 0),(I 0),(I 0),(I 0),(I 0),(I 0),(I 0),(I 0),(I 0),(I 0),(I 0),(I 0),(I 0),(I 0),(I 0),(I 0),(I 0),(I 0),(I 0),(I 0),(I 0),(I 0),(I 0),(I 0),(I 0),(I 0),(I 0),(I 0),(I 0),(I 0),(I 0), (.bool false)] []⟩,⟨some 12,none,.mov (.tmp 6)⟩,⟨none,none,.store 44 (.tmp 4) (.tmp 11)⟩,⟨some 5,none,.mov (.tmp 12)⟩])
 .ret) .skip)))
 (.seq (.seq (.ops false [⟨some 13,none,.mov (.tmp 1)⟩,⟨some 14,none,.lnot (.tmp 13)⟩])
 (.cond (.tmp 14) (.seq (.ops false [⟨some 15,none,.bld [(I 0), .nils, .nils, .nils, (I 0), .nils, .nilm, (I 0),(I 0),(I 0),(I 0),(I 0),(I 0),(I 0),(I 0),(I 0),(I 0),(I 0),(I 0),(I 0),(I 0),(I 0),(I 0),(I 0),(I 0),(I 0),(I 0),(I 0),(I 0),(I 0),(I 0),(I 0),(I 0),(I 0),(I 0),(I 0),(I 0),(I 0),(I 0),(I 0),(I 0),(I 0),(I 0), (.bool false)] []⟩,⟨none,none,.store 44 (.tmp 4) (.tmp 15)⟩,⟨some 5,none,.mov (.cst (I 81))⟩])
 .ret) .skip))
 (.seq (.seq (.ops false [⟨some 16,none,.load (some 6) (.tmp 2)⟩,⟨some 17,none,.call (.cst (.fn (.func 57) [] [])) [(.tmp 16)]⟩,⟨some 18,none,.lnot (.tmp 17)⟩])
 (.cond (.tmp 18) (.seq (.ops false [⟨some 19,none,.bld [(I 0), .nils, .nils, .nils, (I 0), .nils, .nilm, (I 0),(I 0),(I 0),(I 0),(I 0),(I 0),(I 0),(I 0),(I 0),(I 0),(I 0),(I 0),(I 0),(I 0),(I 0),(I 0),(I 0),(I 0),(I 0),(I 0),(I 0),(I 0),(I 0),(I 0),(I 0),(I 0),(I 0),(I 0),(I 0),(I 0),(I 0),(I 0),(I 0),(I 0),(I 0),(I 0), (.bool false)] []⟩,⟨none,none,.store 44 (.tmp 4) (.tmp 19)⟩,⟨some 5,none,.mov (.cst (I 82))⟩])
 .ret) .skip))
 (.seq (.ops false [⟨some 20,none,.load (some 6) (.tmp 2)⟩,⟨some 21,none,.call (.cst (.fn (.func 81) [] [])) [(.tmp 20), (.cst .nils)]⟩,⟨none,none,.store 44 (.tmp 4) (.tmp 21)⟩,⟨some 5,none,.mov (.cst (I 0))⟩])
 .ret)))))⟩
theorem comp67 : compF Cv 67 = some code67 := by kernel_rfl
def code68 : MF := ⟨10, [(4, none)], (.seq (.ops false [⟨some 2,none,.box (.tmp 0)⟩,⟨some 4,none,.mov (.cst (.bool false))⟩])
 (.seq (.ops false [⟨some 5,none,.mov (.tmp 1)⟩,⟨some 6,none,.fad (.tmp 2) 0⟩,⟨some 7,none,.load none (.tmp 6)⟩,⟨some 8,none,.bin .sub (.tmp 7) (.cst (I 1))⟩,⟨some 9,none,.call (.cst (.fn (.func 60) [] [])) [(.tmp 5), (.cst (I 0)), (.tmp 8)]⟩,⟨some 4,none,.mov (.tmp 9)⟩])
 .ret))⟩
theorem comp68 : compF Cv 68 = some code68 := by kernel_rfl
def code69 : MF := ⟨16, [(4, some (some 2))], (.seq (.ops false [⟨some 2,none,.box (.tmp 0)⟩,⟨some 3,none,.box (.tmp 1)⟩,⟨some 4,none,.alloc [(I 0),(I 0)]⟩])
 (.seq (.ops true [⟨some 5,none,.ixa 2 1 (.cst (.rp [(.fn (.func 149) [] []), (.fn (.func 150) [] [])] 0)) (.cst (I 0))⟩,⟨some 6,none,.load none (.tmp 5)⟩,⟨some 7,none,.load (some 44) (.tmp 2)⟩,⟨some 8,none,.load (some 2) (.tmp 3)⟩,⟨some 9,none,.call (.tmp 6) [(.tmp 7), (.tmp 8)]⟩,⟨some 10,none,.ixa 2 1 (.cst (.rp [(.fn (.func 149) [] []), (.fn (.func 150) [] [])] 0)) (.cst (I 1))⟩,⟨some 11,none,.load none (.tmp 10)⟩,⟨some 12,none,.load (some 44) (.tmp 2)⟩,⟨some 13,none,.load (some 2) (.tmp 3)⟩,⟨some 14,none,.call (.tmp 11) [(.tmp 12), (.tmp 13)]⟩,⟨some 15,none,.bld [(I 0),(I 0)] [(0, 1, (.tmp 9)), (1, 1, (.tmp 14))]⟩,⟨none,none,.store 2 (.tmp 4) (.tmp 15)⟩])
 .ret))⟩
theorem comp69 : compF Cv 69 = some code69 := by kernel_rfl
def body72_0 : MC := (.seq (.ops false [⟨some 13,none,.bin .lss (.tmp 12) (.tmp 11)⟩])
 (.seq (.cond (.tmp 13) .skip (.exit 0))
 (.seq (.block 1 (.seq (.ops false [⟨some 14,none,.mov (.tmp 12)⟩,⟨some 4,none,.mov (.tmp 14)⟩])
 (.seq (.ops false [⟨some 15,none,.load (some 44) (.tmp 1)⟩,⟨some 16,none,.mov (.tmp 4)⟩,⟨some 17,none,.bld [(I 0),(I 0)] [(0, 1, (.cst (I 5))), (1, 1, (.tmp 16))]⟩,⟨some 18,none,.call (.cst (.fn (.func 69) [] [])) [(.tmp 15), (.tmp 17)]⟩,⟨some 5,none,.alloc [(I 0),(I 0)]⟩,⟨none,none,.store 2 (.tmp 5) (.tmp 18)⟩])
 (.ops true [⟨some 19,none,.fad (.tmp 3) 0⟩,⟨some 20,none,.load none (.tmp 19)⟩,⟨some 21,none,.fad (.tmp 5) 0⟩,⟨some 22,none,.load none (.tmp 21)⟩,⟨some 23,none,.bsl 1 false (I 0) 1 [(0, (.tmp 22))]⟩,⟨some 24,none,.call (.cst (.fn (.func 101) [] [])) [(.tmp 20), (.tmp 23)]⟩,⟨some 25,none,.fad (.tmp 3) 1⟩,⟨some 26,none,.load none (.tmp 25)⟩,⟨some 27,none,.fad (.tmp 5) 1⟩,⟨some 28,none,.load none (.tmp 27)⟩,⟨some 29,none,.mx (.tmp 26) [(.tmp 28)]⟩,⟨some 30,none,.bld [(I 0),(I 0)] [(0, 1, (.tmp 24)), (1, 1, (.tmp 29))]⟩,⟨none,none,.store 2 (.tmp 3) (.tmp 30)⟩]))))
 (.ops false [⟨some 31,none,.bin .add (.tmp 12) (.cst (I 1))⟩,⟨some 12,none,.mov (.tmp 31)⟩]))))
def keep72_0 : Option (List Nat) := some [1, 2, 3, 11, 12]
def code72 : MF := ⟨44, [(2, some (some 2))], (.seq (.ops false [⟨some 1,none,.box (.tmp 0)⟩,⟨some 2,none,.alloc [(I 0),(I 0)]⟩])
 (.seq (.ops false [⟨some 6,none,.load (some 44) (.tmp 1)⟩,⟨some 7,none,.bld [(I 0),(I 0)] [(0, 1, (.cst (I 5))), (1, 1, (.cst (I 0)))]⟩,⟨some 8,none,.call (.cst (.fn (.func 69) [] [])) [(.tmp 6), (.tmp 7)]⟩,⟨some 3,none,.alloc [(I 0),(I 0)]⟩,⟨none,none,.store 2 (.tmp 3) (.tmp 8)⟩])
 (.seq (.seq (.ops false [⟨some 9,none,.fad (.tmp 1) 0⟩,⟨some 10,none,.fad (.tmp 9) 0⟩,⟨some 11,none,.load none (.tmp 10)⟩,⟨some 12,none,.mov (.cst (I 0))⟩])
 (.block 0 (.loop keep72_0 body72_0)))
 (.seq (.ops false [⟨some 32,none,.fad (.tmp 3) 0⟩,⟨some 33,none,.load none (.tmp 32)⟩,⟨some 34,none,.bin .add (.tmp 33) (.cst (I 60))⟩,⟨some 35,none,.bin .quo (.tmp 34) (.cst (I 10))⟩,⟨some 36,none,.bin .sub (.tmp 35) (.cst (I 6))⟩,⟨some 37,none,.fad (.tmp 3) 1⟩,⟨some 38,none,.load none (.tmp 37)⟩,⟨some 39,none,.bin .add (.tmp 38) (.cst (I 60))⟩,⟨some 40,none,.bin .add (.tmp 39) (.cst (I 9))⟩,⟨some 41,none,.bin .quo (.tmp 40) (.cst (I 10))⟩,⟨some 42,none,.bin .sub (.tmp 41) (.cst (I 6))⟩,⟨some 43,none,.bld [(I 0),(I 0)] [(0, 1, (.tmp 36)), (1, 1, (.tmp 42))]⟩,⟨none,none,.store 2 (.tmp 2) (.tmp 43)⟩])
 .ret))))⟩
theorem comp72 : compF Cv 72 = some code72 := by kernel_rfl
def code74 : MF := ⟨9, [(4, none)], (.seq (.ops false [⟨some 4,none,.mov (.cst (.bool false))⟩])
 (.seq (.ops false [⟨some 5,none,.mov (.tmp 0)⟩,⟨some 6,none,.mov (.tmp 1)⟩,⟨some 7,none,.call (.cst (.fn (.func 104) [] [])) [(.tmp 5), (.tmp 6)]⟩,⟨some 8,none,.bin .geq (.tmp 7) (.cst (I 0))⟩,⟨some 4,none,.mov (.tmp 8)⟩])
 .ret))⟩
theorem comp74 : compF Cv 74 = some code74 := by kernel_rfl
def code75 : MF := ⟨8, [(3, none)], (.seq (.ops false [⟨some 2,none,.box (.tmp 0)⟩,⟨some 3,none,.mov (.cst (.bool false))⟩])
 (.seq (.ops false [⟨some 4,none,.load (some 6) (.tmp 1)⟩,⟨some 5,none,.load (some 3) (.tmp 2)⟩,⟨some 6,none,.call (.cst (.fn (.func 76) [] [])) [(.tmp 4), (.tmp 5)]⟩,⟨some 7,none,.lnot (.tmp 6)⟩,⟨some 3,none,.mov (.tmp 7)⟩])
 .ret))⟩
theorem comp75 : compF Cv 75 = some code75 := by kernel_rfl
def code76 : MF := ⟨34, [(4, none)], (.seq (.ops false [⟨some 2,none,.box (.tmp 0)⟩,⟨some 3,none,.box (.tmp 1)⟩,⟨some 4,none,.mov (.cst (.bool false))⟩])
 (.seq (.ops false [⟨some 5,none,.fad (.tmp 3) 0⟩,⟨some 6,none,.load none (.tmp 5)⟩,⟨some 7,none,.fad (.tmp 2) 3⟩,⟨some 8,none,.fad (.tmp 7) 0⟩,⟨some 9,none,.load none (.tmp 8)⟩,⟨some 10,none,.len (.tmp 9)⟩,⟨some 11,none,.bin .sub (.tmp 10) (.cst (I 1))⟩,⟨some 12,none,.call (.cst (.fn (.func 60) [] [])) [(.tmp 6), (.cst (I 0)), (.tmp 11)]⟩,⟨some 13,none,.mov (.tmp 12)⟩,⟨some 14,some ((some 13), true),.fad (.tmp 3) 1⟩,⟨some 15,some ((some 13), true),.fad (.tmp 14) 0⟩,⟨some 16,some ((some 13), true),.load none (.tmp 15)⟩,⟨some 17,some ((some 13), true),.bin .leq (.cst (I 0)) (.tmp 16)⟩,⟨some 18,none,.pick (.tmp 13) (.tmp 17) (.cst (.bool false))⟩,⟨some 19,none,.mov (.tmp 18)⟩,⟨some 20,some ((some 19), true),.fad (.tmp 3) 1⟩,⟨some 21,some ((some 19), true),.fad (.tmp 20) 0⟩,⟨some 22,some ((some 19), true),.load none (.tmp 21)⟩,⟨some 23,some ((some 19), true),.fad (.tmp 3) 1⟩,⟨some 24,some ((some 19), true),.fad (.tmp 23) 1⟩,⟨some 25,some ((some 19), true),.load none (.tmp 24)⟩,⟨some 26,some ((some 19), true),.bin .leq (.tmp 22) (.tmp 25)⟩,⟨some 27,none,.pick (.tmp 19) (.tmp 26) (.cst (.bool false))⟩,⟨some 28,none,.mov (.tmp 27)⟩,⟨some 29,some ((some 28), true),.fad (.tmp 3) 1⟩,⟨some 30,some ((some 28), true),.fad (.tmp 29) 1⟩,⟨some 31,some ((some 28), true),.load none (.tmp 30)⟩,⟨some 32,some ((some 28), true),.bin .leq (.tmp 31) (.cst (I 40))⟩,⟨some 33,none,.pick (.tmp 28) (.tmp 32) (.cst (.bool false))⟩,⟨some 4,none,.mov (.tmp 33)⟩])
 .ret))⟩
theorem comp76 : compF Cv 76 = some code76 := by kernel_rfl
def body77_0 : MC := (.seq (.seq (.ops false [⟨some 22,none,.mov (.tmp 11)⟩,⟨some 23,none,.fad (.tmp 6) 1⟩,⟨some 24,none,.fad (.tmp 23) 1⟩,⟨some 25,none,.load none (.tmp 24)⟩,⟨some 26,none,.mov (.tmp 3)⟩,⟨some 27,none,.bin .add (.tmp 25) (.tmp 26)⟩,⟨some 28,none,.fad (.tmp 9) 1⟩,⟨some 29,none,.load none (.tmp 28)⟩,⟨some 30,none,.bin .add (.tmp 27) (.tmp 29)⟩,⟨some 31,none,.bin .leq (.tmp 22) (.tmp 30)⟩])
 (.cond (.tmp 31) .skip (.exit 0)))
 (.seq (.block 1 (.seq (.ops false [⟨some 35,none,.fad (.tmp 5) 0⟩,⟨some 36,none,.fad (.tmp 35) 3⟩,⟨some 37,none,.load (some 3) (.tmp 36)⟩,⟨some 38,none,.fad (.tmp 6) 0⟩,⟨some 39,none,.load none (.tmp 38)⟩,⟨some 40,none,.mov (.tmp 2)⟩,⟨some 41,none,.mov (.tmp 11)⟩,⟨some 42,none,.call (.cst (.fn (.func 41) [] [])) [(.tmp 37), (.tmp 39), (.tmp 40), (.tmp 41)]⟩,⟨some 34,none,.mov (.tmp 42)⟩,⟨some 43,none,.ext (.tmp 34) 0⟩,⟨some 44,none,.ext (.tmp 34) 1⟩,⟨some 12,none,.mov (.tmp 43)⟩,⟨some 13,none,.mov (.tmp 44)⟩])
 (.seq (.ops false [⟨some 45,none,.mov (.tmp 13)⟩,⟨some 46,none,.bin .neq (.tmp 45) (.cst (I 0))⟩,⟨some 47,none,.mov (.tmp 46)⟩,⟨some 48,some ((some 47), false),.mov (.tmp 12)⟩,⟨some 49,some ((some 47), false),.bin .neq (.tmp 48) (.cst (I 2))⟩,⟨some 50,none,.pick (.tmp 47) (.cst (.bool true)) (.tmp 49)⟩])
 (.cond (.tmp 50) (.seq (.ops false [⟨some 10,none,.mov (.cst (.bool false))⟩])
 .ret) .skip))))
 (.ops false [⟨some 32,none,.mov (.tmp 11)⟩,⟨some 33,none,.bin .add (.tmp 32) (.cst (I 1))⟩,⟨some 11,none,.mov (.tmp 33)⟩])))
def keep77_0 : Option (List Nat) := some [2, 3, 5, 6, 9, 11]
def code77 : MF := ⟨51, [(10, none)], (.seq (.ops false [⟨some 5,none,.box (.tmp 0)⟩,⟨some 6,none,.box (.tmp 1)⟩,⟨some 9,none,.box (.tmp 4)⟩,⟨some 10,none,.mov (.cst (.bool false))⟩])
 (.seq (.seq (.ops false [⟨some 14,none,.fad (.tmp 6) 1⟩,⟨some 15,none,.fad (.tmp 14) 0⟩,⟨some 16,none,.load none (.tmp 15)⟩,⟨some 17,none,.mov (.tmp 3)⟩,⟨some 18,none,.bin .add (.tmp 16) (.tmp 17)⟩,⟨some 19,none,.fad (.tmp 9) 0⟩,⟨some 20,none,.load none (.tmp 19)⟩,⟨some 21,none,.bin .add (.tmp 18) (.tmp 20)⟩,⟨some 11,none,.mov (.tmp 21)⟩])
 (.block 0 (.loop keep77_0 body77_0)))
 (.seq (.ops false [⟨some 10,none,.mov (.cst (.bool true))⟩])
 .ret)))⟩
theorem comp77 : compF Cv 77 = some code77 := by kernel_rfl
def code80 : MF := ⟨2, [(0, some (some 1))], (.seq (.ops false [⟨some 0,none,.alloc [.nilf]⟩])
 (.seq (.ops false [⟨some 1,none,.bld [.nilf] [(0, 1, (.cst (.fn (.func 106) [] [])))]⟩,⟨none,none,.store 1 (.tmp 0) (.tmp 1)⟩])
 .ret))⟩
theorem comp80 : compF Cv 80 = some code80 := by kernel_rfl
def body81_0 : MC := (.seq (.ops false [⟨some 27,none,.bin .lss (.tmp 26) (.tmp 25)⟩])
 (.seq (.cond (.tmp 27) .skip (.exit 0))
 (.seq (.block 1 (.seq (.ops false [⟨some 28,none,.mov (.tmp 26)⟩,⟨some 7,none,.mov (.tmp 28)⟩])
 (.ops false [⟨some 29,none,.load none (.tmp 6)⟩,⟨some 30,none,.mov (.tmp 7)⟩,⟨some 31,none,.call (.tmp 29) [(.cst (I 5)), (.tmp 30), (.cst (I 0)), (.cst (I 60))]⟩])))
 (.ops false [⟨some 32,none,.bin .add (.tmp 26) (.cst (I 1))⟩,⟨some 26,none,.mov (.tmp 32)⟩]))))
def keep81_0 : Option (List Nat) := some [1, 2, 4, 5, 6, 25, 26]
def body81_1 : MC := (.seq (.ops false [⟨some 37,none,.bin .lss (.tmp 36) (.tmp 35)⟩])
 (.seq (.cond (.tmp 37) .skip (.exit 2))
 (.seq (.block 3 (.seq (.ops false [⟨some 38,none,.ixs 3 (.tmp 34) (.tmp 36)⟩,⟨some 39,none,.load (some 3) (.tmp 38)⟩,⟨some 9,none,.alloc [(I 0),(I 0),(I 0)]⟩,⟨none,none,.store 3 (.tmp 9) (.tmp 39)⟩])
 (.ops false [⟨some 40,none,.load none (.tmp 6)⟩,⟨some 41,none,.fad (.tmp 9) 0⟩,⟨some 42,none,.load none (.tmp 41)⟩,⟨some 43,none,.fad (.tmp 9) 1⟩,⟨some 44,none,.load none (.tmp 43)⟩,⟨some 45,none,.fad (.tmp 9) 2⟩,⟨some 46,none,.load none (.tmp 45)⟩,⟨some 47,none,.call (.tmp 40) [(.cst (I 5)), (.tmp 42), (.tmp 44), (.tmp 46)]⟩])))
 (.ops false [⟨some 48,none,.bin .add (.tmp 36) (.cst (I 1))⟩,⟨some 36,none,.mov (.tmp 48)⟩]))))
def keep81_1 : Option (List Nat) := some [1, 4, 5, 6, 34, 35, 36]
def asg81_2 : MC := (.ops false [⟨some 10,none,.alloc [(I 0),(I 0),(I 0),(I 0)]⟩,⟨none,none,.store 4 (.tmp 10) (.tmp 52)⟩])
def body81_2 : MC := (.block 5 (.ops false [⟨some 53,none,.load none (.tmp 6)⟩,⟨some 54,none,.fad (.tmp 10) 0⟩,⟨some 55,none,.load none (.tmp 54)⟩,⟨some 56,none,.fad (.tmp 10) 1⟩,⟨some 57,none,.load none (.tmp 56)⟩,⟨some 58,none,.fad (.tmp 10) 2⟩,⟨some 59,none,.load none (.tmp 58)⟩,⟨some 60,none,.fad (.tmp 10) 3⟩,⟨some 61,none,.load none (.tmp 60)⟩,⟨some 62,none,.call (.tmp 53) [(.tmp 55), (.tmp 57), (.tmp 59), (.tmp 61)]⟩]))
def body81_3 : MC := (.seq (.ops false [⟨some 71,none,.bin .lss (.tmp 70) (.cst (I 6))⟩])
 (.seq (.cond (.tmp 71) .skip (.exit 8))
 (.seq (.block 9 (.seq (.ops false [⟨some 72,none,.mov (.tmp 70)⟩,⟨some 12,none,.mov (.tmp 72)⟩])
 (.seq (.ops false [⟨some 74,none,.fad (.tmp 5) 6⟩,⟨some 75,none,.load none (.tmp 74)⟩,⟨some 76,none,.mov (.tmp 11)⟩,⟨some 77,none,.mov (.tmp 12)⟩,⟨some 78,none,.bld [(I 0),(I 0)] [(0, 1, (.tmp 76)), (1, 1, (.tmp 77))]⟩,⟨some 79,none,.lkp (some 2) (I 0) (.tmp 75) (.tmp 78) true⟩,⟨some 73,none,.mov (.tmp 79)⟩,⟨some 80,none,.ext (.tmp 73) 0⟩,⟨some 81,none,.ext (.tmp 73) 1⟩,⟨some 13,none,.mov (.tmp 80)⟩,⟨some 14,none,.mov (.tmp 81)⟩])
 (.seq (.ops false [⟨some 82,none,.mov (.tmp 14)⟩])
 (.cond (.tmp 82) (.ops false [⟨some 83,none,.mov (.tmp 11)⟩,⟨some 84,none,.mov (.tmp 12)⟩,⟨some 85,none,.mov (.tmp 13)⟩,⟨some 86,none,.fad (.tmp 5) 7⟩,⟨some 87,none,.ixa 6 6 (.tmp 86) (.tmp 83)⟩,⟨some 88,none,.ixa 6 1 (.tmp 87) (.tmp 84)⟩,⟨none,none,.store 1 (.tmp 88) (.tmp 85)⟩]) .skip)))))
 (.ops false [⟨some 89,none,.bin .add (.tmp 70) (.cst (I 1))⟩,⟨some 70,none,.mov (.tmp 89)⟩]))))
def keep81_3 : Option (List Nat) := some [4, 5, 11, 63, 70]
def body81_4 : MC := (.seq (.ops false [⟨some 64,none,.bin .lss (.tmp 63) (.cst (I 6))⟩])
 (.seq (.cond (.tmp 64) .skip (.exit 6))
 (.seq (.block 7 (.seq (.ops false [⟨some 65,none,.mov (.tmp 63)⟩,⟨some 11,none,.mov (.tmp 65)⟩])
 (.seq (.ops false [⟨some 66,none,.mov (.tmp 11)⟩,⟨some 67,none,.load (some 6) (.cst (.rp [(I 1048576), (I 1048576), (I 1048576), (I 1048576), (I 1048576), (I 1048576)] 0))⟩,⟨some 68,none,.fad (.tmp 5) 7⟩,⟨some 69,none,.ixa 6 6 (.tmp 68) (.tmp 66)⟩,⟨none,none,.store 6 (.tmp 69) (.tmp 67)⟩])
 (.seq (.seq (.ops false [⟨some 70,none,.mov (.cst (I 0))⟩])
 (.block 8 (.loop keep81_3 body81_3)))
 (.seq (.ops false [⟨some 90,none,.mov (.tmp 11)⟩,⟨some 91,none,.fad (.tmp 5) 7⟩,⟨some 92,none,.ixa 6 6 (.tmp 91) (.tmp 90)⟩,⟨some 93,none,.load (some 6) (.tmp 92)⟩,⟨some 94,none,.load (some 6) (.cst (.rp [(I 1048576), (I 1048576), (I 1048576), (I 1048576), (I 1048576), (I 1048576)] 0))⟩,⟨some 95,none,.eqa 6 true (.tmp 93) (.tmp 94)⟩])
 (.cond (.tmp 95) (.ops false [⟨some 96,none,.mov (.tmp 11)⟩,⟨some 97,none,.mov (.tmp 11)⟩,⟨some 98,none,.fad (.tmp 5) 7⟩,⟨some 99,none,.ixa 6 6 (.tmp 98) (.tmp 96)⟩,⟨some 100,none,.ixa 6 1 (.tmp 99) (.tmp 97)⟩,⟨none,none,.store 1 (.tmp 100) (.cst (I 0))⟩]) .skip))))))
 (.ops false [⟨some 101,none,.bin .add (.tmp 63) (.cst (I 1))⟩,⟨some 63,none,.mov (.tmp 101)⟩]))))
def keep81_4 : Option (List Nat) := some [4, 5, 63]
def body81_5 : MC := (.seq (.ops false [⟨some 109,none,.bin .lss (.tmp 108) (.cst (I 6))⟩])
 (.seq (.cond (.tmp 109) .skip (.exit 14))
 (.seq (.block 15 (.seq (.ops false [⟨some 110,none,.mov (.tmp 108)⟩,⟨some 17,none,.mov (.tmp 110)⟩])
 (.ops false [⟨some 111,none,.mov (.tmp 16)⟩,⟨some 112,none,.mov (.tmp 17)⟩,⟨some 113,none,.mov (.tmp 16)⟩,⟨some 114,none,.mov (.tmp 17)⟩,⟨some 115,none,.fad (.tmp 5) 7⟩,⟨some 116,none,.ixa 6 6 (.tmp 115) (.tmp 113)⟩,⟨some 117,none,.ixa 6 1 (.tmp 116) (.tmp 114)⟩,⟨some 118,none,.load none (.tmp 117)⟩,⟨some 119,none,.mov (.tmp 16)⟩,⟨some 120,none,.mov (.tmp 15)⟩,⟨some 121,none,.fad (.tmp 5) 7⟩,⟨some 122,none,.ixa 6 6 (.tmp 121) (.tmp 119)⟩,⟨some 123,none,.ixa 6 1 (.tmp 122) (.tmp 120)⟩,⟨some 124,none,.load none (.tmp 123)⟩,⟨some 125,none,.mov (.tmp 15)⟩,⟨some 126,none,.mov (.tmp 17)⟩,⟨some 127,none,.fad (.tmp 5) 7⟩,⟨some 128,none,.ixa 6 6 (.tmp 127) (.tmp 125)⟩,⟨some 129,none,.ixa 6 1 (.tmp 128) (.tmp 126)⟩,⟨some 130,none,.load none (.tmp 129)⟩,⟨some 131,none,.bin .add (.tmp 124) (.tmp 130)⟩,⟨some 132,none,.bsl 1 false (I 0) 1 [(0, (.tmp 131))]⟩,⟨some 133,none,.call (.cst (.fn (.func 101) [] [])) [(.tmp 118), (.tmp 132)]⟩,⟨some 134,none,.fad (.tmp 5) 7⟩,⟨some 135,none,.ixa 6 6 (.tmp 134) (.tmp 111)⟩,⟨some 136,none,.ixa 6 1 (.tmp 135) (.tmp 112)⟩,⟨none,none,.store 1 (.tmp 136) (.tmp 133)⟩])))
 (.ops false [⟨some 137,none,.bin .add (.tmp 108) (.cst (I 1))⟩,⟨some 108,none,.mov (.tmp 137)⟩]))))
def keep81_5 : Option (List Nat) := some [4, 5, 15, 16, 102, 105, 108]
def body81_6 : MC := (.seq (.ops false [⟨some 106,none,.bin .lss (.tmp 105) (.cst (I 6))⟩])
 (.seq (.cond (.tmp 106) .skip (.exit 12))
 (.seq (.block 13 (.seq (.ops false [⟨some 107,none,.mov (.tmp 105)⟩,⟨some 16,none,.mov (.tmp 107)⟩])
 (.seq (.ops false [⟨some 108,none,.mov (.cst (I 0))⟩])
 (.block 14 (.loop keep81_5 body81_5)))))
 (.ops false [⟨some 138,none,.bin .add (.tmp 105) (.cst (I 1))⟩,⟨some 105,none,.mov (.tmp 138)⟩]))))
def keep81_6 : Option (List Nat) := some [4, 5, 15, 102, 105]
def body81_7 : MC := (.seq (.ops false [⟨some 103,none,.bin .lss (.tmp 102) (.cst (I 6))⟩])
 (.seq (.cond (.tmp 103) .skip (.exit 10))
 (.seq (.block 11 (.seq (.ops false [⟨some 104,none,.mov (.tmp 102)⟩,⟨some 15,none,.mov (.tmp 104)⟩])
 (.seq (.ops false [⟨some 105,none,.mov (.cst (I 0))⟩])
 (.block 12 (.loop keep81_6 body81_6)))))
 (.ops false [⟨some 139,none,.bin .add (.tmp 102) (.cst (I 1))⟩,⟨some 102,none,.mov (.tmp 139)⟩]))))
def keep81_7 : Option (List Nat) := some [4, 5, 102]
def body81_8 : MC := (.seq (.ops false [⟨some 141,none,.bin .lss (.tmp 140) (.cst (I 6))⟩])
 (.seq (.cond (.tmp 141) .skip (.exit 16))
 (.seq (.block 17 (.seq (.ops false [⟨some 142,none,.mov (.tmp 140)⟩,⟨some 18,none,.mov (.tmp 142)⟩])
 (.ops false [⟨some 143,none,.fad (.tmp 5) 43⟩,⟨some 144,none,.load none (.tmp 143)⟩,⟨some 145,none,.mov (.tmp 144)⟩,⟨some 146,some ((some 145), true),.mov (.tmp 18)⟩,⟨some 147,some ((some 145), true),.mov (.tmp 18)⟩,⟨some 148,some ((some 145), true),.fad (.tmp 5) 7⟩,⟨some 149,some ((some 145), true),.ixa 6 6 (.tmp 148) (.tmp 146)⟩,⟨some 150,some ((some 145), true),.ixa 6 1 (.tmp 149) (.tmp 147)⟩,⟨some 151,some ((some 145), true),.load none (.tmp 150)⟩,⟨some 152,some ((some 145), true),.bin .geq (.tmp 151) (.cst (I 0))⟩,⟨some 153,none,.pick (.tmp 145) (.tmp 152) (.cst (.bool false))⟩,⟨some 154,none,.fad (.tmp 5) 43⟩,⟨none,none,.store 1 (.tmp 154) (.tmp 153)⟩])))
 (.ops false [⟨some 155,none,.bin .add (.tmp 140) (.cst (I 1))⟩,⟨some 140,none,.mov (.tmp 155)⟩]))))
def keep81_8 : Option (List Nat) := some [4, 5, 140]
def code81 : MF := ⟨157, [(4, some (some 44))], (.seq (.ops false [⟨some 2,none,.box (.tmp 0)⟩,⟨some 4,none,.alloc [(I 0), .nils, .nils, .nils, (I 0), .nils, .nilm, (I 0),(I 0),(I 0),(I 0),(I 0),(I 0),(I 0),(I 0),(I 0),(I 0),(I 0),(I 0),(I 0),(I 0),(I 0),(I 0),(I 0),(I 0),(I 0),(I 0),(I 0),(I 0),(I 0),(I 0),(I 0),(I 0),(I 0),(I 0),(I 0),(I 0),(I 0),(I 0),(I 0),(I 0),(I 0),(I 0), (.bool false)]⟩])
 (.seq (.ops false [⟨some 19,none,.load (some 6) (.tmp 2)⟩,⟨some 20,none,.mkm⟩,⟨some 21,none,.bld [(I 0), .nils, .nils, .nils, (I 0), .nils, .nilm, (I 0),(I 0),(I 0),(I 0),(I 0),(I 0),(I 0),(I 0),(I 0),(I 0),(I 0),(I 0),(I 0),(I 0),(I 0),(I 0),(I 0),(I 0),(I 0),(I 0),(I 0),(I 0),(I 0),(I 0),(I 0),(I 0),(I 0),(I 0),(I 0),(I 0),(I 0),(I 0),(I 0),(I 0),(I 0),(I 0), (.bool false)] [(0, 6, (.tmp 19)), (6, 1, (.tmp 20)), (43, 1, (.cst (.bool true)))]⟩,⟨some 5,none,.alloc [(I 0), .nils, .nils, .nils, (I 0), .nils, .nilm, (I 0),(I 0),(I 0),(I 0),(I 0),(I 0),(I 0),(I 0),(I 0),(I 0),(I 0),(I 0),(I 0),(I 0),(I 0),(I 0),(I 0),(I 0),(I 0),(I 0),(I 0),(I 0),(I 0),(I 0),(I 0),(I 0),(I 0),(I 0),(I 0),(I 0),(I 0),(I 0),(I 0),(I 0),(I 0),(I 0), (.bool false)]⟩,⟨none,none,.store 44 (.tmp 5) (.tmp 21)⟩])
 (.seq (.ops false [⟨some 22,none,.load (some 44) (.tmp 5)⟩,⟨some 23,none,.mkf (.func 107) [(.tmp 22)] []⟩,⟨some 6,none,.alloc [.nilf]⟩,⟨none,none,.store 1 (.tmp 6) (.tmp 23)⟩])
 (.seq (.seq (.ops false [⟨some 24,none,.fad (.tmp 2) 0⟩,⟨some 25,none,.load none (.tmp 24)⟩,⟨some 26,none,.mov (.cst (I 0))⟩])
 (.block 0 (.loop keep81_0 body81_0)))
 (.seq (.seq (.ops false [⟨some 33,none,.fad (.tmp 2) 2⟩,⟨some 34,none,.load none (.tmp 33)⟩,⟨some 35,none,.len (.tmp 34)⟩,⟨some 36,none,.mov (.cst (I 0))⟩])
 (.block 2 (.loop keep81_1 body81_1)))
 (.seq (.seq (.ops false [⟨some 49,none,.load (some 44) (.tmp 5)⟩,⟨some 50,none,.mov (.tmp 1)⟩,⟨some 51,none,.call (.cst (.fn (.func 108) [] [])) [(.tmp 49), (.tmp 50)]⟩])
 (.block 4 (.range (.tmp 51) [52] asg81_2 body81_2)))
 (.seq (.seq (.ops false [⟨some 63,none,.mov (.cst (I 0))⟩])
 (.block 6 (.loop keep81_4 body81_4)))
 (.seq (.seq (.ops false [⟨some 102,none,.mov (.cst (I 0))⟩])
 (.block 10 (.loop keep81_7 body81_7)))
 (.seq (.seq (.ops false [⟨some 140,none,.mov (.cst (I 0))⟩])
 (.block 16 (.loop keep81_8 body81_8)))
 (.seq (.ops false [⟨some 156,none,.load (some 44) (.tmp 5)⟩,⟨none,none,.store 44 (.tmp 4) (.tmp 156)⟩])
 .ret))))))))))⟩
theorem comp81 : compF Cv 81 = some code81 := by kernel_rfl
def body82_0 : MC := (.seq (.seq (.ops false [⟨some 32,none,.mov (.tmp 10)⟩,⟨some 33,none,.fad (.tmp 2) 1⟩,⟨some 34,none,.load none (.tmp 33)⟩,⟨some 35,none,.len (.tmp 34)⟩,⟨some 36,none,.bin .lss (.tmp 32) (.tmp 35)⟩])
 (.cond (.tmp 36) .skip (.exit 0)))
 (.seq (.block 1 (.seq (.ops false [⟨some 40,none,.load none (.tmp 3)⟩,⟨some 41,none,.mov (.tmp 0)⟩,⟨some 42,none,.mov (.tmp 8)⟩,⟨some 43,none,.mov (.tmp 8)⟩,⟨some 44,none,.slc 1 (.tmp 41) none (some (.tmp 42)) (some (.tmp 43))⟩,⟨some 45,none,.mov (.tmp 10)⟩,⟨some 46,none,.bsl 1 false (I 0) 1 [(0, (.tmp 45))]⟩,⟨some 47,none,.app false 1 8 false (.tmp 44) (.tmp 46)⟩,⟨some 48,none,.mov (.tmp 1)⟩,⟨some 49,none,.call (.tmp 40) [(.tmp 47), (.tmp 48)]⟩,⟨some 39,none,.mov (.tmp 49)⟩,⟨some 50,none,.ext (.tmp 39) 0⟩,⟨some 51,none,.ext (.tmp 39) 1⟩,⟨some 11,none,.mov (.tmp 50)⟩,⟨some 12,none,.mov (.tmp 51)⟩])
 (.seq (.ops false [⟨some 52,none,.mov (.tmp 12)⟩])
 (.cond (.tmp 52) (.seq (.ops false [⟨some 53,none,.mov (.tmp 11)⟩,⟨some 6,none,.mov (.tmp 53)⟩,⟨some 7,none,.mov (.cst (.bool true))⟩])
 .ret) .skip))))
 (.ops false [⟨some 37,none,.mov (.tmp 10)⟩,⟨some 38,none,.bin .add (.tmp 37) (.cst (I 1))⟩,⟨some 10,none,.mov (.tmp 38)⟩])))
def keep82_0 : Option (List Nat) := some [0, 1, 2, 3, 8, 10]
def code82 : MF := ⟨54, [(6, none), (7, none)], (.seq (.ops false [⟨some 6,none,.mov (.cst .nils)⟩,⟨some 7,none,.mov (.cst (.bool false))⟩])
 (.seq (.ops false [⟨some 13,none,.mov (.tmp 0)⟩,⟨some 14,none,.len (.tmp 13)⟩,⟨some 8,none,.mov (.tmp 14)⟩])
 (.seq (.seq (.ops false [⟨some 15,none,.mov (.tmp 8)⟩,⟨some 16,none,.mov (.tmp 1)⟩,⟨some 17,none,.bin .eql (.tmp 15) (.tmp 16)⟩])
 (.cond (.tmp 17) (.seq (.ops false [⟨some 18,none,.mov (.tmp 0)⟩,⟨some 19,none,.load (some 6) (.tmp 2)⟩,⟨some 20,none,.mov (.tmp 0)⟩,⟨some 21,none,.call (.cst (.fn (.func 81) [] [])) [(.tmp 19), (.tmp 20)]⟩,⟨some 22,none,.fld none (.tmp 21) 43⟩,⟨some 6,none,.mov (.tmp 18)⟩,⟨some 7,none,.mov (.tmp 22)⟩])
 .ret) .skip))
 (.seq (.ops false [⟨some 9,none,.mov (.cst (I 0))⟩])
 (.seq (.seq (.ops false [⟨some 23,none,.mov (.tmp 8)⟩,⟨some 24,none,.bin .gtr (.tmp 23) (.cst (I 0))⟩])
 (.cond (.tmp 24) (.ops false [⟨some 25,none,.mov (.tmp 0)⟩,⟨some 26,none,.mov (.tmp 8)⟩,⟨some 27,none,.bin .sub (.tmp 26) (.cst (I 1))⟩,⟨some 28,none,.ixs 1 (.tmp 25) (.tmp 27)⟩,⟨some 29,none,.load none (.tmp 28)⟩,⟨some 30,none,.bin .add (.tmp 29) (.cst (I 1))⟩,⟨some 9,none,.mov (.tmp 30)⟩]) .skip))
 (.seq (.seq (.ops false [⟨some 31,none,.mov (.tmp 9)⟩,⟨some 10,none,.mov (.tmp 31)⟩])
 (.block 0 (.loop keep82_0 body82_0)))
 (.seq (.ops false [⟨some 6,none,.mov (.cst .nils)⟩,⟨some 7,none,.mov (.cst (.bool false))⟩])
 .ret)))))))⟩
theorem comp82 : compF Cv 82 = some code82 := by kernel_rfl
def code83 : MF := ⟨13, [(2, none), (3, none)], (.seq (.ops false [⟨some 1,none,.box (.tmp 0)⟩,⟨some 2,none,.mov (.cst (.bool false))⟩,⟨some 3,none,.mov (.cst (I 0))⟩])
 (.seq (.seq (.ops false [⟨some 5,none,.load (some 3) (.tmp 1)⟩,⟨some 6,none,.call (.cst (.fn (.func 61) [] [])) [(.tmp 5)]⟩,⟨some 4,none,.mov (.tmp 6)⟩])
 (.seq (.ops false [⟨some 7,none,.mov (.tmp 4)⟩,⟨some 8,none,.bin .neq (.tmp 7) (.cst (I 0))⟩])
 (.cond (.tmp 8) (.seq (.ops false [⟨some 9,none,.mov (.tmp 4)⟩,⟨some 2,none,.mov (.cst (.bool false))⟩,⟨some 3,none,.mov (.tmp 9)⟩])
 .ret) .skip)))
 (.seq (.ops false [⟨some 10,none,.load (some 3) (.tmp 1)⟩,⟨some 11,none,.call (.cst (.fn (.func 109) [] [])) [(.tmp 10), (.cst .nils)]⟩,⟨some 12,none,.call (.cst (.fn (.func 110) [] [])) [(.tmp 11)]⟩,⟨some 2,none,.mov (.tmp 12)⟩,⟨some 3,none,.mov (.cst (I 0))⟩])
 .ret)))⟩
theorem comp83 : compF Cv 83 = some code83 := by kernel_rfl
def code84 : MF := ⟨16, [(4, none)], (.seq (.ops false [⟨some 2,none,.box (.tmp 0)⟩,⟨some 4,none,.mov (.cst (I 0))⟩])
 (.seq (.ops true [⟨some 5,none,.fad (.tmp 2) 0⟩,⟨some 6,none,.load none (.tmp 5)⟩,⟨some 7,none,.mov (.tmp 1)⟩,⟨some 8,none,.fad (.tmp 2) 1⟩,⟨some 9,none,.load none (.tmp 8)⟩,⟨some 10,none,.fad (.tmp 2) 0⟩,⟨some 11,none,.load none (.tmp 10)⟩,⟨some 12,none,.bin .sub (.tmp 9) (.tmp 11)⟩,⟨some 13,none,.bin .add (.tmp 12) (.cst (I 1))⟩,⟨some 14,none,.call (.cst (.fn (.func 38) [] [])) [(.tmp 7), (.tmp 13)]⟩,⟨some 15,none,.bin .add (.tmp 6) (.tmp 14)⟩,⟨some 4,none,.mov (.tmp 15)⟩])
 .ret))⟩
theorem comp84 : compF Cv 84 = some code84 := by kernel_rfl
def code85 : MF := ⟨15, [(4, none)], (.seq (.ops false [⟨some 4,none,.mov (.cst (I 0))⟩])
 (.seq (.seq (.ops false [⟨some 5,none,.mov (.tmp 0)⟩,⟨some 6,none,.len (.tmp 5)⟩,⟨some 7,none,.bin .eql (.tmp 6) (.cst (I 0))⟩])
 (.cond (.tmp 7) (.seq (.ops false [⟨some 4,none,.mov (.cst (I 0))⟩])
 .ret) .skip))
 (.seq (.ops false [⟨some 8,none,.mov (.tmp 0)⟩,⟨some 9,none,.mov (.tmp 1)⟩,⟨some 10,none,.mov (.tmp 0)⟩,⟨some 11,none,.len (.tmp 10)⟩,⟨some 12,none,.call (.cst (.fn (.func 38) [] [])) [(.tmp 9), (.tmp 11)]⟩,⟨some 13,none,.ixs 1 (.tmp 8) (.tmp 12)⟩,⟨some 14,none,.load none (.tmp 13)⟩,⟨some 4,none,.mov (.tmp 14)⟩])
 .ret)))⟩
theorem comp85 : compF Cv 85 = some code85 := by kernel_rfl
def code86 : MF := ⟨24, [(4, some (some 5)), (5, none)], (.seq (.ops false [⟨some 2,none,.box (.tmp 0)⟩,⟨some 4,none,.alloc [.nils, (I 0), .nils, .nils, .nilm]⟩,⟨some 5,none,.mov (.cst (I 0))⟩])
 (.seq (.seq (.ops false [⟨some 8,none,.load (some 3) (.tmp 2)⟩,⟨some 9,none,.call (.cst (.fn (.func 61) [] [])) [(.tmp 8)]⟩,⟨some 6,none,.mov (.tmp 9)⟩])
 (.seq (.ops false [⟨some 10,none,.mov (.tmp 6)⟩,⟨some 11,none,.bin .neq (.tmp 10) (.cst (I 0))⟩])
 (.cond (.tmp 11) (.seq (.ops false [⟨some 12,none,.bld [.nils, (I 0), .nils, .nils, .nilm] []⟩,⟨some 13,none,.mov (.tmp 6)⟩,⟨none,none,.store 5 (.tmp 4) (.tmp 12)⟩,⟨some 5,none,.mov (.tmp 13)⟩])
 .ret) .skip)))
 (.seq (.seq (.ops false [⟨some 14,none,.mov (.tmp 1)⟩,⟨some 15,none,.lnot (.tmp 14)⟩])
 (.cond (.tmp 15) (.seq (.ops false [⟨some 16,none,.bld [.nils, (I 0), .nils, .nils, .nilm] []⟩,⟨none,none,.store 5 (.tmp 4) (.tmp 16)⟩,⟨some 5,none,.mov (.cst (I 21))⟩])
 .ret) .skip))
 (.seq (.ops false [⟨some 17,none,.load (some 3) (.tmp 2)⟩,⟨some 18,none,.call (.cst (.fn (.func 109) [] [])) [(.tmp 17), (.cst .nils)]⟩,⟨some 7,none,.alloc [.nils, (I 0), .nils, .nils, .nilm]⟩,⟨none,none,.store 5 (.tmp 7) (.tmp 18)⟩])
 (.seq (.seq (.ops false [⟨some 19,none,.load (some 5) (.tmp 7)⟩,⟨some 20,none,.call (.cst (.fn (.func 110) [] [])) [(.tmp 19)]⟩,⟨some 21,none,.lnot (.tmp 20)⟩])
 (.cond (.tmp 21) (.seq (.ops false [⟨some 22,none,.load (some 5) (.tmp 7)⟩,⟨none,none,.store 5 (.tmp 4) (.tmp 22)⟩,⟨some 5,none,.mov (.cst (I 22))⟩])
 .ret) .skip))
 (.seq (.ops false [⟨some 23,none,.load (some 5) (.tmp 7)⟩,⟨none,none,.store 5 (.tmp 4) (.tmp 23)⟩,⟨some 5,none,.mov (.cst (I 0))⟩])
 .ret))))))⟩
theorem comp86 : compF Cv 86 = some code86 := by kernel_rfl
def code87 : MF := ⟨11, [(4, none)], (.seq (.ops false [⟨some 2,none,.box (.tmp 0)⟩,⟨some 4,none,.mov (.cst (.bool false))⟩])
 (.seq (.ops false [⟨some 5,none,.mov (.tmp 1)⟩,⟨some 6,none,.fad (.tmp 2) 0⟩,⟨some 7,none,.load none (.tmp 6)⟩,⟨some 8,none,.len (.tmp 7)⟩,⟨some 9,none,.bin .sub (.tmp 8) (.cst (I 1))⟩,⟨some 10,none,.call (.cst (.fn (.func 97) [] [])) [(.tmp 5), (.cst (I 0)), (.tmp 9)]⟩,⟨some 4,none,.mov (.tmp 10)⟩])
 .ret))⟩
theorem comp87 : compF Cv 87 = some code87 := by kernel_rfl
def code88 : MF := ⟨10, [(4, none)], (.seq (.ops false [⟨some 2,none,.box (.tmp 0)⟩,⟨some 4,none,.mov (.cst (.bool false))⟩])
 (.seq (.ops false [⟨some 5,none,.mov (.tmp 1)⟩,⟨some 6,none,.fad (.tmp 2) 1⟩,⟨some 7,none,.load none (.tmp 6)⟩,⟨some 8,none,.bin .sub (.tmp 7) (.cst (I 1))⟩,⟨some 9,none,.call (.cst (.fn (.func 97) [] [])) [(.tmp 5), (.cst (I 0)), (.tmp 8)]⟩,⟨some 4,none,.mov (.tmp 9)⟩])
 .ret))⟩
theorem comp88 : compF Cv 88 = some code88 := by kernel_rfl
def code89 : MF := ⟨5, [(2, none)], (.seq (.ops false [⟨some 2,none,.mov (.cst (.bool false))⟩])
 (.seq (.ops false [⟨some 3,none,.mov (.tmp 0)⟩,⟨some 4,none,.call (.cst (.fn (.func 97) [] [])) [(.tmp 3), (.cst (I 0)), (.cst (I 40))]⟩,⟨some 2,none,.mov (.tmp 4)⟩])
 .ret))⟩
theorem comp89 : compF Cv 89 = some code89 := by kernel_rfl
def body90_0 : MC := (.seq (.ops false [⟨some 27,none,.bin .lss (.tmp 26) (.tmp 25)⟩])
 (.seq (.cond (.tmp 27) .skip (.exit 0))
 (.seq (.block 1 (.seq (.ops false [⟨some 28,none,.ixs 5 (.tmp 24) (.tmp 26)⟩,⟨some 29,none,.load (some 5) (.tmp 28)⟩,⟨some 11,none,.alloc [(I 0),(I 0),(I 0),(I 0),(I 0)]⟩,⟨none,none,.store 5 (.tmp 11) (.tmp 29)⟩])
 (.seq (.ops false [⟨some 30,none,.load (some 5) (.tmp 4)⟩,⟨some 31,none,.mov (.tmp 1)⟩,⟨some 32,none,.load (some 5) (.tmp 11)⟩,⟨some 33,none,.mov (.tmp 2)⟩,⟨some 34,none,.mov (.tmp 3)⟩,⟨some 35,none,.call (.cst (.fn (.func 111) [] [])) [(.tmp 30), (.tmp 31), (.tmp 32), (.tmp 33), (.tmp 34)]⟩])
 (.cond (.tmp 35) (.ops false [⟨some 36,none,.fad (.tmp 9) 0⟩,⟨some 37,none,.load none (.tmp 36)⟩,⟨some 38,none,.bin .add (.tmp 37) (.cst (I 1))⟩,⟨some 39,none,.fad (.tmp 9) 0⟩,⟨none,none,.store 1 (.tmp 39) (.tmp 38)⟩]) .skip))))
 (.ops false [⟨some 40,none,.bin .add (.tmp 26) (.cst (I 1))⟩,⟨some 26,none,.mov (.tmp 40)⟩]))))
def keep90_0 : Option (List Nat) := some [1, 2, 3, 4, 8, 9, 24, 25, 26]
def code90 : MF := ⟨42, [(8, some (some 2))], (.seq (.ops false [⟨some 4,none,.box (.tmp 0)⟩,⟨some 8,none,.alloc [(I 0),(I 0)]⟩])
 (.seq (.ops false [⟨some 12,none,.fad (.tmp 4) 3⟩,⟨some 13,none,.load none (.tmp 12)⟩,⟨some 14,none,.mov (.tmp 1)⟩,⟨some 15,none,.ixs 1 (.tmp 13) (.tmp 14)⟩,⟨some 16,none,.load none (.tmp 15)⟩,⟨some 17,none,.len (.tmp 16)⟩,⟨some 18,none,.bld [(I 0),(I 0)] [(1, 1, (.tmp 17))]⟩,⟨some 9,none,.alloc [(I 0),(I 0)]⟩,⟨none,none,.store 2 (.tmp 9) (.tmp 18)⟩])
 (.seq (.seq (.ops false [⟨some 19,none,.fad (.tmp 4) 4⟩,⟨some 20,none,.load none (.tmp 19)⟩,⟨some 21,none,.mov (.tmp 1)⟩,⟨some 22,none,.mov (.tmp 2)⟩,⟨some 23,none,.bld [(I 0),(I 0)] [(0, 1, (.tmp 21)), (1, 1, (.tmp 22))]⟩,⟨some 24,none,.lkp (some 2) .nils (.tmp 20) (.tmp 23) false⟩,⟨some 25,none,.len (.tmp 24)⟩,⟨some 26,none,.mov (.cst (I 0))⟩])
 (.block 0 (.loop keep90_0 body90_0)))
 (.seq (.ops false [⟨some 41,none,.load (some 2) (.tmp 9)⟩,⟨none,none,.store 2 (.tmp 8) (.tmp 41)⟩])
 .ret))))⟩
theorem comp90 : compF Cv 90 = some code90 := by kernel_rfl
def body91_0 : MC := (.seq (.ops false [⟨some 8,none,.bin .lss (.tmp 7) (.cst (I 2))⟩])
 (.seq (.cond (.tmp 8) .skip (.exit 0))
 (.seq (.block 1 (.seq (.ops false [⟨some 9,none,.ixv 2 1 none (.tmp 6) (.tmp 7)⟩,⟨some 5,none,.mov (.tmp 9)⟩])
 (.seq (.ops false [⟨some 10,none,.mov (.tmp 5)⟩,⟨some 11,none,.load (some 2) (.tmp 1)⟩,⟨some 12,none,.call (.tmp 10) [(.tmp 11)]⟩])
 (.cond (.tmp 12) (.ops false [⟨some 13,none,.mov (.tmp 3)⟩,⟨some 14,none,.bin .add (.tmp 13) (.cst (I 1))⟩,⟨some 3,none,.mov (.tmp 14)⟩]) .skip))))
 (.ops false [⟨some 15,none,.bin .add (.tmp 7) (.cst (I 1))⟩,⟨some 7,none,.mov (.tmp 15)⟩]))))
def keep91_0 : Option (List Nat) := some [1, 3, 6, 7]
def code91 : MF := ⟨17, [(2, none)], (.seq (.ops false [⟨some 1,none,.box (.tmp 0)⟩,⟨some 2,none,.mov (.cst (I 0))⟩])
 (.seq (.ops false [⟨some 3,none,.mov (.cst (I 0))⟩])
 (.seq (.seq (.ops false [⟨some 6,none,.load (some 2) (.cst (.rp [(.fn (.func 151) [] []), (.fn (.func 152) [] [])] 0))⟩,⟨some 7,none,.mov (.cst (I 0))⟩])
 (.block 0 (.loop keep91_0 body91_0)))
 (.seq (.ops false [⟨some 16,none,.mov (.tmp 3)⟩,⟨some 2,none,.mov (.tmp 16)⟩])
 .ret))))⟩
theorem comp91 : compF Cv 91 = some code91 := by kernel_rfl
def code92 : MF := ⟨18, [(4, none)], (.seq (.ops false [⟨some 4,none,.mov (.cst (.bool false))⟩])
 (.seq (.ops false [⟨some 5,none,.mov (.tmp 1)⟩,⟨some 6,none,.bin .geq (.tmp 5) (.cst (I 0))⟩,⟨some 7,none,.mov (.tmp 6)⟩,⟨some 8,some ((some 7), true),.mov (.tmp 1)⟩,⟨some 9,some ((some 7), true),.bin .lss (.tmp 8) (.cst (I 62))⟩,⟨some 10,none,.pick (.tmp 7) (.tmp 9) (.cst (.bool false))⟩,⟨some 11,none,.mov (.tmp 10)⟩,⟨some 12,some ((some 11), true),.mov (.tmp 0)⟩,⟨some 13,some ((some 11), true),.mov (.tmp 1)⟩,⟨some 14,some ((some 11), true),.bin .shr (.tmp 12) (.tmp 13)⟩,⟨some 15,some ((some 11), true),.bin .and (.tmp 14) (.cst (I 1))⟩,⟨some 16,some ((some 11), true),.bin .eql (.tmp 15) (.cst (I 1))⟩,⟨some 17,none,.pick (.tmp 11) (.tmp 16) (.cst (.bool false))⟩,⟨some 4,none,.mov (.tmp 17)⟩])
 .ret))⟩
theorem comp92 : compF Cv 92 = some code92 := by kernel_rfl
def body93_0 : MC := (.seq (.seq (.ops false [⟨some 6,none,.mov (.tmp 5)⟩,⟨some 7,none,.mov (.tmp 0)⟩,⟨some 8,none,.len (.tmp 7)⟩,⟨some 9,none,.bin .lss (.tmp 6) (.tmp 8)⟩,⟨some 10,none,.mov (.tmp 9)⟩,⟨some 11,some ((some 10), true),.mov (.tmp 5)⟩,⟨some 12,some ((some 10), true),.mov (.tmp 1)⟩,⟨some 13,some ((some 10), true),.len (.tmp 12)⟩,⟨some 14,some ((some 10), true),.bin .lss (.tmp 11) (.tmp 13)⟩,⟨some 15,none,.pick (.tmp 10) (.tmp 14) (.cst (.bool false))⟩])
 (.cond (.tmp 15) .skip (.exit 0)))
 (.seq (.block 1 (.seq (.ops false [⟨some 18,none,.mov (.tmp 0)⟩,⟨some 19,none,.mov (.tmp 5)⟩,⟨some 20,none,.ixs 1 (.tmp 18) (.tmp 19)⟩,⟨some 21,none,.load none (.tmp 20)⟩,⟨some 22,none,.mov (.tmp 1)⟩,⟨some 23,none,.mov (.tmp 5)⟩,⟨some 24,none,.ixs 1 (.tmp 22) (.tmp 23)⟩,⟨some 25,none,.load none (.tmp 24)⟩,⟨some 26,none,.bin .neq (.tmp 21) (.tmp 25)⟩])
 (.cond (.tmp 26) (.seq (.ops false [⟨some 27,none,.mov (.tmp 0)⟩,⟨some 28,none,.mov (.tmp 5)⟩,⟨some 29,none,.ixs 1 (.tmp 27) (.tmp 28)⟩,⟨some 30,none,.load none (.tmp 29)⟩,⟨some 31,none,.mov (.tmp 1)⟩,⟨some 32,none,.mov (.tmp 5)⟩,⟨some 33,none,.ixs 1 (.tmp 31) (.tmp 32)⟩,⟨some 34,none,.load none (.tmp 33)⟩,⟨some 35,none,.bin .lss (.tmp 30) (.tmp 34)⟩,⟨some 4,none,.mov (.tmp 35)⟩])
 .ret) .skip)))
 (.ops false [⟨some 16,none,.mov (.tmp 5)⟩,⟨some 17,none,.bin .add (.tmp 16) (.cst (I 1))⟩,⟨some 5,none,.mov (.tmp 17)⟩])))
def keep93_0 : Option (List Nat) := some [0, 1, 5]
def code93 : MF := ⟨41, [(4, none)], (.seq (.ops false [⟨some 4,none,.mov (.cst (.bool false))⟩])
 (.seq (.seq (.ops false [⟨some 5,none,.mov (.cst (I 0))⟩])
 (.block 0 (.loop keep93_0 body93_0)))
 (.seq (.ops false [⟨some 36,none,.mov (.tmp 0)⟩,⟨some 37,none,.len (.tmp 36)⟩,⟨some 38,none,.mov (.tmp 1)⟩,⟨some 39,none,.len (.tmp 38)⟩,⟨some 40,none,.bin .lss (.tmp 37) (.tmp 39)⟩,⟨some 4,none,.mov (.tmp 40)⟩])
 .ret)))⟩
theorem comp93 : compF Cv 93 = some code93 := by kernel_rfl
def code94 : MF := ⟨15, [(0, some (some 3))], (.seq (.ops false [⟨some 0,none,.alloc [.nils, (I 0), .nils]⟩])
 (.seq (.ops false [⟨some 1,none,.call (.cst (.fn (.func 49) [] [])) [(.cst (I 5)), (.cst (I 6))]⟩,⟨some 2,none,.call (.cst (.fn (.func 49) [] [])) [(.cst (I 20)), (.cst (I 21))]⟩,⟨some 3,none,.call (.cst (.fn (.func 49) [] [])) [(.cst (I 1)), (.cst (I 2))]⟩,⟨some 4,none,.call (.cst (.fn (.func 49) [] [])) [(.cst (I 2)), (.cst (I 3))]⟩,⟨some 5,none,.call (.cst (.fn (.func 49) [] [])) [(.cst (I 3)), (.cst (I 5))]⟩,⟨some 6,none,.bld [(I 0),(I 0),(I 0),(I 0),(I 0),(I 0),(I 0),(I 0),(I 0),(I 0),(I 0)] [(0, 2, (.tmp 1)), (2, 2, (.tmp 2)), (4, 2, (.tmp 3)), (6, 2, (.tmp 4)), (8, 1, (.cst (I 1))), (9, 2, (.tmp 5))]⟩,⟨some 7,none,.call (.cst (.fn (.func 44) [] [])) [(.cst (I 8))]⟩,⟨some 8,none,.call (.cst (.fn (.func 44) [] [])) [(.cst (I 18))]⟩,⟨some 9,none,.call (.cst (.fn (.func 49) [] [])) [(.cst (I 0)), (.cst (I 1))]⟩,⟨some 10,none,.call (.cst (.fn (.func 44) [] [])) [(.cst (I 1))]⟩,⟨some 11,none,.call (.cst (.fn (.func 49) [] [])) [(.cst (I 6)), (.cst (I 7))]⟩,⟨some 12,none,.bld [(I 0),(I 0),(I 0),(I 0),(I 0),(I 0),(I 0),(I 0),(I 0),(I 0),(I 0)] [(0, 2, (.tmp 7)), (2, 2, (.tmp 8)), (4, 2, (.tmp 9)), (6, 2, (.tmp 10)), (9, 2, (.tmp 11))]⟩,⟨some 13,none,.bsl 11 true (.agg [(I 0),(I 0),(I 0),(I 0),(I 0),(I 0),(I 0),(I 0),(I 0),(I 0),(I 0)]) 2 [(0, (.tmp 6)), (1, (.tmp 12))]⟩,⟨some 14,none,.bld [.nils, (I 0), .nils] [(0, 1, (.tmp 13)), (1, 1, (.cst (I 4)))]⟩,⟨none,none,.store 3 (.tmp 0) (.tmp 14)⟩])
 .ret))⟩
theorem comp94 : compF Cv 94 = some code94 := by kernel_rfl
def code97 : MF := ⟨15, [(6, none)], (.seq (.ops false [⟨some 6,none,.mov (.cst (.bool false))⟩])
 (.seq (.ops false [⟨some 7,none,.mov (.tmp 1)⟩,⟨some 8,none,.mov (.tmp 0)⟩,⟨some 9,none,.bin .leq (.tmp 7) (.tmp 8)⟩,⟨some 10,none,.mov (.tmp 9)⟩,⟨some 11,some ((some 10), true),.mov (.tmp 0)⟩,⟨some 12,some ((some 10), true),.mov (.tmp 2)⟩,⟨some 13,some ((some 10), true),.bin .leq (.tmp 11) (.tmp 12)⟩,⟨some 14,none,.pick (.tmp 10) (.tmp 13) (.cst (.bool false))⟩,⟨some 6,none,.mov (.tmp 14)⟩])
 .ret))⟩
theorem comp97 : compF Cv 97 = some code97 := by kernel_rfl
def code98 : MF := ⟨32, [(6, none)], (.seq (.ops false [⟨some 3,none,.box (.tmp 0)⟩,⟨some 6,none,.mov (.cst (.bool false))⟩])
 (.seq (.ops false [⟨some 7,none,.fad (.tmp 3) 0⟩,⟨some 8,none,.load none (.tmp 7)⟩,⟨some 9,none,.bin .leq (.cst (I 0)) (.tmp 8)⟩,⟨some 10,none,.mov (.tmp 9)⟩,⟨some 11,some ((some 10), true),.fad (.tmp 3) 0⟩,⟨some 12,some ((some 10), true),.load none (.tmp 11)⟩,⟨some 13,some ((some 10), true),.fad (.tmp 3) 1⟩,⟨some 14,some ((some 10), true),.load none (.tmp 13)⟩,⟨some 15,some ((some 10), true),.bin .leq (.tmp 12) (.tmp 14)⟩,⟨some 16,none,.pick (.tmp 10) (.tmp 15) (.cst (.bool false))⟩,⟨some 17,none,.mov (.tmp 16)⟩,⟨some 18,some ((some 17), true),.fad (.tmp 3) 1⟩,⟨some 19,some ((some 17), true),.load none (.tmp 18)⟩,⟨some 20,some ((some 17), true),.mov (.tmp 1)⟩,⟨some 21,some ((some 17), true),.bin .leq (.tmp 19) (.tmp 20)⟩,⟨some 22,none,.pick (.tmp 17) (.tmp 21) (.cst (.bool false))⟩,⟨some 23,none,.mov (.tmp 22)⟩,⟨some 24,some ((some 23), true),.fad (.tmp 3) 1⟩,⟨some 25,some ((some 23), true),.load none (.tmp 24)⟩,⟨some 26,some ((some 23), true),.fad (.tmp 3) 0⟩,⟨some 27,some ((some 23), true),.load none (.tmp 26)⟩,⟨some 28,some ((some 23), true),.bin .sub (.tmp 25) (.tmp 27)⟩,⟨some 29,some ((some 23), true),.mov (.tmp 2)⟩,⟨some 30,some ((some 23), true),.bin .leq (.tmp 28) (.tmp 29)⟩,⟨some 31,none,.pick (.tmp 23) (.tmp 30) (.cst (.bool false))⟩,⟨some 6,none,.mov (.tmp 31)⟩])
 .ret))⟩
theorem comp98 : compF Cv 98 = some code98 := by kernel_rfl
def code99 : MF := ⟨25, [(4, none)], (.seq (.ops false [⟨some 2,none,.box (.tmp 0)⟩,⟨some 3,none,.box (.tmp 1)⟩,⟨some 4,none,.mov (.cst (.bool false))⟩])
 (.seq (.ops false [⟨some 5,none,.load (some 3) (.tmp 2)⟩,⟨some 6,none,.fad (.tmp 3) 0⟩,⟨some 7,none,.load none (.tmp 6)⟩,⟨some 8,none,.call (.cst (.fn (.func 87) [] [])) [(.tmp 5), (.tmp 7)]⟩,⟨some 9,none,.mov (.tmp 8)⟩,⟨some 10,some ((some 9), true),.load (some 3) (.tmp 2)⟩,⟨some 11,some ((some 9), true),.fad (.tmp 3) 1⟩,⟨some 12,some ((some 9), true),.load none (.tmp 11)⟩,⟨some 13,some ((some 9), true),.call (.cst (.fn (.func 88) [] [])) [(.tmp 10), (.tmp 12)]⟩,⟨some 14,none,.pick (.tmp 9) (.tmp 13) (.cst (.bool false))⟩,⟨some 15,none,.mov (.tmp 14)⟩,⟨some 16,some ((some 15), true),.fad (.tmp 3) 2⟩,⟨some 17,some ((some 15), true),.load none (.tmp 16)⟩,⟨some 18,some ((some 15), true),.call (.cst (.fn (.func 89) [] [])) [(.tmp 17)]⟩,⟨some 19,none,.pick (.tmp 15) (.tmp 18) (.cst (.bool false))⟩,⟨some 20,none,.mov (.tmp 19)⟩,⟨some 21,some ((some 20), true),.fad (.tmp 3) 3⟩,⟨some 22,some ((some 20), true),.load none (.tmp 21)⟩,⟨some 23,some ((some 20), true),.call (.cst (.fn (.func 97) [] [])) [(.tmp 22), (.cst (I 0)), (.cst (I 1))]⟩,⟨some 24,none,.pick (.tmp 20) (.tmp 23) (.cst (.bool false))⟩,⟨some 4,none,.mov (.tmp 24)⟩])
 .ret))⟩
theorem comp99 : compF Cv 99 = some code99 := by kernel_rfl
def code100 : MF := ⟨25, [(4, none)], (.seq (.ops false [⟨some 2,none,.box (.tmp 0)⟩,⟨some 3,none,.box (.tmp 1)⟩,⟨some 4,none,.mov (.cst (.bool false))⟩])
 (.seq (.ops false [⟨some 5,none,.load (some 3) (.tmp 2)⟩,⟨some 6,none,.fad (.tmp 3) 0⟩,⟨some 7,none,.load none (.tmp 6)⟩,⟨some 8,none,.call (.cst (.fn (.func 113) [] [])) [(.tmp 5), (.tmp 7)]⟩,⟨some 9,none,.mov (.tmp 8)⟩,⟨some 10,some ((some 9), true),.load (some 3) (.tmp 2)⟩,⟨some 11,some ((some 9), true),.fad (.tmp 3) 1⟩,⟨some 12,some ((some 9), true),.load none (.tmp 11)⟩,⟨some 13,some ((some 9), true),.call (.cst (.fn (.func 114) [] [])) [(.tmp 10), (.tmp 12)]⟩,⟨some 14,none,.pick (.tmp 9) (.tmp 13) (.cst (.bool false))⟩,⟨some 15,none,.mov (.tmp 14)⟩,⟨some 16,some ((some 15), true),.fad (.tmp 3) 2⟩,⟨some 17,some ((some 15), true),.load none (.tmp 16)⟩,⟨some 18,some ((some 15), true),.call (.cst (.fn (.func 115) [] [])) [(.tmp 17)]⟩,⟨some 19,none,.pick (.tmp 15) (.tmp 18) (.cst (.bool false))⟩,⟨some 20,none,.mov (.tmp 19)⟩,⟨some 21,some ((some 20), true),.fad (.tmp 3) 3⟩,⟨some 22,some ((some 20), true),.load none (.tmp 21)⟩,⟨some 23,some ((some 20), true),.call (.cst (.fn (.func 43) [] [])) [(.tmp 22), (.cst (I 0)), (.cst (I 1))]⟩,⟨some 24,none,.pick (.tmp 20) (.tmp 23) (.cst (.bool false))⟩,⟨some 4,none,.mov (.tmp 24)⟩])
 .ret))⟩
theorem comp100 : compF Cv 100 = some code100 := by kernel_rfl
def body101_0 : MC := (.seq (.ops false [⟨some 10,none,.bin .lss (.tmp 9) (.tmp 8)⟩])
 (.seq (.cond (.tmp 10) .skip (.exit 0))
 (.seq (.block 1 (.seq (.ops false [⟨some 11,none,.ixs 1 (.tmp 7) (.tmp 9)⟩,⟨some 12,none,.load none (.tmp 11)⟩,⟨some 6,none,.mov (.tmp 12)⟩])
 (.ops false [⟨some 13,none,.mov (.tmp 0)⟩,⟨some 14,none,.mov (.tmp 6)⟩,⟨some 15,none,.mn (.tmp 13) [(.tmp 14)]⟩,⟨some 0,none,.mov (.tmp 15)⟩])))
 (.ops false [⟨some 16,none,.bin .add (.tmp 9) (.cst (I 1))⟩,⟨some 9,none,.mov (.tmp 16)⟩]))))
def keep101_0 : Option (List Nat) := some [0, 7, 8, 9]
def code101 : MF := ⟨18, [(4, none)], (.seq (.ops false [⟨some 4,none,.mov (.cst (I 0))⟩])
 (.seq (.seq (.ops false [⟨some 7,none,.mov (.tmp 1)⟩,⟨some 8,none,.len (.tmp 7)⟩,⟨some 9,none,.mov (.cst (I 0))⟩])
 (.block 0 (.loop keep101_0 body101_0)))
 (.seq (.ops false [⟨some 17,none,.mov (.tmp 0)⟩,⟨some 4,none,.mov (.tmp 17)⟩])
 .ret)))⟩
theorem comp101 : compF Cv 101 = some code101 := by kernel_rfl
def code102 : MF := ⟨16, [(4, some (some 2))], (.seq (.ops false [⟨some 2,none,.box (.tmp 0)⟩,⟨some 3,none,.box (.tmp 1)⟩,⟨some 4,none,.alloc [(I 0),(I 0)]⟩])
 (.seq (.ops false [⟨some 5,none,.fad (.tmp 2) 0⟩,⟨some 6,none,.load none (.tmp 5)⟩,⟨some 7,none,.fad (.tmp 3) 0⟩,⟨some 8,none,.load none (.tmp 7)⟩,⟨some 9,none,.mn (.tmp 6) [(.tmp 8)]⟩,⟨some 10,none,.fad (.tmp 2) 1⟩,⟨some 11,none,.load none (.tmp 10)⟩,⟨some 12,none,.fad (.tmp 3) 1⟩,⟨some 13,none,.load none (.tmp 12)⟩,⟨some 14,none,.mx (.tmp 11) [(.tmp 13)]⟩,⟨some 15,none,.call (.cst (.fn (.func 49) [] [])) [(.tmp 9), (.tmp 14)]⟩,⟨none,none,.store 2 (.tmp 4) (.tmp 15)⟩])
 .ret))⟩
theorem comp102 : compF Cv 102 = some code102 := by kernel_rfl
def body104_0 : MC := (.seq (.ops false [⟨some 9,none,.bin .lss (.tmp 8) (.tmp 7)⟩])
 (.seq (.cond (.tmp 9) .skip (.exit 0))
 (.seq (.block 1 (.seq (.ops false [⟨some 10,none,.mov (.tmp 8)⟩,⟨some 5,none,.mov (.tmp 10)⟩])
 (.seq (.ops false [⟨some 11,none,.mov (.tmp 1)⟩,⟨some 12,none,.mov (.tmp 0)⟩,⟨some 13,none,.mov (.tmp 5)⟩,⟨some 14,none,.ixs 3 (.tmp 12) (.tmp 13)⟩,⟨some 15,none,.load (some 3) (.tmp 14)⟩,⟨some 16,none,.call (.tmp 11) [(.tmp 15)]⟩])
 (.cond (.tmp 16) (.seq (.ops false [⟨some 17,none,.mov (.tmp 5)⟩,⟨some 4,none,.mov (.tmp 17)⟩])
 .ret) .skip))))
 (.ops false [⟨some 18,none,.bin .add (.tmp 8) (.cst (I 1))⟩,⟨some 8,none,.mov (.tmp 18)⟩]))))
def keep104_0 : Option (List Nat) := some [0, 1, 7, 8]
def code104 : MF := ⟨19, [(4, none)], (.seq (.ops false [⟨some 4,none,.mov (.cst (I 0))⟩])
 (.seq (.seq (.ops false [⟨some 6,none,.mov (.tmp 0)⟩,⟨some 7,none,.len (.tmp 6)⟩,⟨some 8,none,.mov (.cst (I 0))⟩])
 (.block 0 (.loop keep104_0 body104_0)))
 (.seq (.ops false [⟨some 4,none,.mov (.cst (I (-1)))⟩])
 .ret)))⟩
theorem comp104 : compF Cv 104 = some code104 := by kernel_rfl
def code105 : MF := ⟨33, [(8, none), (9, none)], (.seq (.ops false [⟨some 4,none,.box (.tmp 0)⟩,⟨some 8,none,.mov (.cst (I 0))⟩,⟨some 9,none,.mov (.cst (I 0))⟩])
 (.seq (.seq (.ops true [⟨some 11,none,.load (some 3) (.tmp 4)⟩,⟨some 12,none,.load (some 3) (.tmp 4)⟩,⟨some 13,none,.mov (.tmp 1)⟩,⟨some 14,none,.call (.cst (.fn (.func 113) [] [])) [(.tmp 12), (.tmp 13)]⟩,⟨some 15,none,.mov (.tmp 14)⟩,⟨some 16,some ((some 15), true),.load (some 3) (.tmp 4)⟩,⟨some 17,some ((some 15), true),.mov (.tmp 2)⟩,⟨some 18,some ((some 15), true),.call (.cst (.fn (.func 114) [] [])) [(.tmp 16), (.tmp 17)]⟩,⟨some 19,none,.pick (.tmp 15) (.tmp 18) (.cst (.bool false))⟩,⟨some 20,none,.mov (.tmp 19)⟩,⟨some 21,some ((some 20), true),.mov (.tmp 3)⟩,⟨some 22,some ((some 20), true),.call (.cst (.fn (.func 115) [] [])) [(.tmp 21)]⟩,⟨some 23,none,.pick (.tmp 20) (.tmp 22) (.cst (.bool false))⟩,⟨some 24,none,.call (.cst (.fn (.func 116) [] [])) [(.tmp 11), (.tmp 23)]⟩,⟨some 10,none,.mov (.tmp 24)⟩])
 (.seq (.ops false [⟨some 25,none,.mov (.tmp 10)⟩,⟨some 26,none,.bin .neq (.tmp 25) (.cst (I 0))⟩])
 (.cond (.tmp 26) (.seq (.ops false [⟨some 27,none,.mov (.tmp 10)⟩,⟨some 8,none,.mov (.cst (I 0))⟩,⟨some 9,none,.mov (.tmp 27)⟩])
 .ret) .skip)))
 (.seq (.ops false [⟨some 28,none,.load (some 3) (.tmp 4)⟩,⟨some 29,none,.mov (.tmp 1)⟩,⟨some 30,none,.mov (.tmp 2)⟩,⟨some 31,none,.mov (.tmp 3)⟩,⟨some 32,none,.call (.cst (.fn (.func 117) [] [])) [(.tmp 28), (.tmp 29), (.tmp 30), (.tmp 31)]⟩,⟨some 8,none,.mov (.tmp 32)⟩,⟨some 9,none,.mov (.cst (I 0))⟩])
 .ret)))⟩
theorem comp105 : compF Cv 105 = some code105 := by kernel_rfl
def code106 : MF := ⟨28, [(4, none)], (.seq (.ops false [⟨some 4,none,.mov (.cst (.bool false))⟩])
 (.seq (.ops false [⟨some 7,none,.mov (.tmp 0)⟩,⟨some 8,none,.mov (.tmp 0)⟩,⟨some 9,none,.neg (.tmp 8)⟩,⟨some 10,none,.mx (.tmp 7) [(.tmp 9)]⟩,⟨some 11,none,.mov (.tmp 1)⟩,⟨some 12,none,.mov (.tmp 1)⟩,⟨some 13,none,.neg (.tmp 12)⟩,⟨some 14,none,.mx (.tmp 11) [(.tmp 13)]⟩,⟨some 5,none,.mov (.tmp 10)⟩,⟨some 6,none,.mov (.tmp 14)⟩])
 (.seq (.ops false [⟨some 15,none,.mov (.tmp 5)⟩,⟨some 16,none,.mov (.tmp 6)⟩,⟨some 17,none,.bin .lss (.tmp 15) (.tmp 16)⟩,⟨some 18,none,.mov (.tmp 17)⟩,⟨some 19,some ((some 18), false),.mov (.tmp 5)⟩,⟨some 20,some ((some 18), false),.mov (.tmp 6)⟩,⟨some 21,some ((some 18), false),.bin .eql (.tmp 19) (.tmp 20)⟩,⟨some 22,some ((some 18), false),.mov (.tmp 21)⟩,⟨some 23,some ((some 22), true),.mov (.tmp 0)⟩,⟨some 24,some ((some 22), true),.mov (.tmp 1)⟩,⟨some 25,some ((some 22), true),.bin .lss (.tmp 23) (.tmp 24)⟩,⟨some 26,some ((some 18), false),.pick (.tmp 22) (.tmp 25) (.cst (.bool false))⟩,⟨some 27,none,.pick (.tmp 18) (.cst (.bool true)) (.tmp 26)⟩,⟨some 4,none,.mov (.tmp 27)⟩])
 .ret)))⟩
theorem comp106 : compF Cv 106 = some code106 := by kernel_rfl
def body107_0 : MC := (.seq (.ops false [⟨some 30,none,.bin .lss (.tmp 29) (.cst (I 2))⟩])
 (.seq (.cond (.tmp 30) .skip (.exit 0))
 (.seq (.block 1 (.seq (.ops false [⟨some 31,none,.ixv 2 3 (some 3) (.tmp 28) (.tmp 29)⟩,⟨some 11,none,.alloc [(I 0),(I 0),(I 0)]⟩,⟨none,none,.store 3 (.tmp 11) (.tmp 31)⟩])
 (.seq (.ops false [⟨some 33,none,.fad (.tmp 5) 6⟩,⟨some 34,none,.load none (.tmp 33)⟩,⟨some 35,none,.fad (.tmp 11) 0⟩,⟨some 36,none,.load (some 2) (.tmp 35)⟩,⟨some 37,none,.lkp (some 2) (I 0) (.tmp 34) (.tmp 36) true⟩,⟨some 32,none,.mov (.tmp 37)⟩,⟨some 38,none,.ext (.tmp 32) 0⟩,⟨some 39,none,.ext (.tmp 32) 1⟩,⟨some 12,none,.mov (.tmp 38)⟩,⟨some 13,none,.mov (.tmp 39)⟩])
 (.seq (.ops false [⟨some 40,none,.fad (.tmp 11) 0⟩,⟨some 41,none,.load (some 2) (.tmp 40)⟩,⟨some 42,none,.load (some 2) (.cst (.rp [(I (-1)), (I (-1))] 0))⟩,⟨some 43,none,.eqa 2 true (.tmp 41) (.tmp 42)⟩])
 (.cond (.tmp 43) (.seq (.ops false [⟨some 44,none,.fad (.tmp 5) 6⟩,⟨some 45,none,.load none (.tmp 44)⟩,⟨some 46,none,.fad (.tmp 11) 0⟩,⟨some 47,none,.load (some 2) (.tmp 46)⟩,⟨some 48,none,.fad (.tmp 11) 2⟩,⟨some 49,none,.load none (.tmp 48)⟩,⟨none,none,.mput (some 2) (.tmp 45) (.tmp 47) (.tmp 49)⟩])
 (.seq (.ops false [⟨some 50,none,.mov (.tmp 13)⟩])
 (.cond (.tmp 50) (.ops true [⟨some 51,none,.fad (.tmp 5) 6⟩,⟨some 52,none,.load none (.tmp 51)⟩,⟨some 53,none,.fad (.tmp 11) 0⟩,⟨some 54,none,.load (some 2) (.tmp 53)⟩,⟨some 55,none,.mov (.tmp 12)⟩,⟨some 56,none,.fad (.tmp 11) 2⟩,⟨some 57,none,.load none (.tmp 56)⟩,⟨some 58,none,.bsl 1 false (I 0) 1 [(0, (.tmp 57))]⟩,⟨some 59,none,.call (.cst (.fn (.func 101) [] [])) [(.tmp 55), (.tmp 58)]⟩,⟨none,none,.mput (some 2) (.tmp 52) (.tmp 54) (.tmp 59)⟩]) .skip))) .skip)))))
 (.ops false [⟨some 60,none,.bin .add (.tmp 29) (.cst (I 1))⟩,⟨some 29,none,.mov (.tmp 60)⟩]))))
def keep107_0 : Option (List Nat) := some [5, 28, 29]
def code107 : MF := ⟨61, [], (.seq (.ops false [⟨some 5,none,.box (.tmp 0)⟩])
 (.seq (.ops false [⟨some 14,none,.mov (.tmp 1)⟩,⟨some 15,none,.mov (.tmp 2)⟩,⟨some 16,none,.bld [(I 0),(I 0)] [(0, 1, (.tmp 14)), (1, 1, (.tmp 15))]⟩,⟨some 17,none,.mov (.tmp 3)⟩,⟨some 18,none,.mov (.tmp 4)⟩,⟨some 19,none,.bin .add (.tmp 17) (.tmp 18)⟩,⟨some 20,none,.bld [(I 0),(I 0),(I 0)] [(0, 2, (.tmp 16)), (2, 1, (.tmp 19))]⟩,⟨some 21,none,.mov (.tmp 2)⟩,⟨some 22,none,.mov (.tmp 1)⟩,⟨some 23,none,.bld [(I 0),(I 0)] [(0, 1, (.tmp 21)), (1, 1, (.tmp 22))]⟩,⟨some 24,none,.mov (.tmp 4)⟩,⟨some 25,none,.mov (.tmp 3)⟩,⟨some 26,none,.bin .sub (.tmp 24) (.tmp 25)⟩,⟨some 27,none,.bld [(I 0),(I 0),(I 0)] [(0, 2, (.tmp 23)), (2, 1, (.tmp 26))]⟩,⟨some 28,none,.bld [(I 0),(I 0),(I 0),(I 0),(I 0),(I 0)] [(0, 3, (.tmp 20)), (3, 3, (.tmp 27))]⟩,⟨some 29,none,.mov (.cst (I 0))⟩])
 (.block 0 (.loop keep107_0 body107_0))))⟩
theorem comp107 : compF Cv 107 = some code107 := by kernel_rfl
def code108 : MF := ⟨6, [(4, none)], (.seq (.ops false [⟨some 2,none,.box (.tmp 0)⟩,⟨some 3,none,.box (.tmp 1)⟩,⟨some 4,none,.mov (.cst .nilf)⟩])
 (.seq (.ops false [⟨some 5,none,.mkf (.func 118) [] [(.tmp 2), (.tmp 3)]⟩,⟨some 4,none,.mov (.tmp 5)⟩])
 .ret))⟩
theorem comp108 : compF Cv 108 = some code108 := by kernel_rfl
def body109_0 : MC := (.seq (.ops false [⟨some 36,none,.bin .lss (.tmp 35) (.tmp 34)⟩])
 (.seq (.cond (.tmp 36) .skip (.exit 4))
 (.seq (.block 5 (.seq (.ops false [⟨some 37,none,.mov (.tmp 35)⟩,⟨some 9,none,.mov (.tmp 37)⟩])
 (.seq (.ops false [⟨some 38,none,.load none (.tmp 6)⟩,⟨some 39,none,.mov (.tmp 9)⟩,⟨some 40,none,.bld [(I 0),(I 0)] [(0, 1, (.tmp 38)), (1, 1, (.tmp 39))]⟩,⟨some 10,none,.alloc [(I 0),(I 0)]⟩,⟨none,none,.store 2 (.tmp 10) (.tmp 40)⟩])
 (.seq (.ops false [⟨some 41,none,.load (some 2) (.tmp 10)⟩,⟨some 42,none,.load (some 2) (.cst (.rp [(I (-1)), (I (-1))] 0))⟩,⟨some 43,none,.eqa 2 true (.tmp 41) (.tmp 42)⟩])
 (.cond (.tmp 43) (.ops false [⟨some 44,none,.fad (.tmp 5) 4⟩,⟨some 45,none,.load none (.tmp 44)⟩,⟨some 46,none,.load (some 2) (.tmp 10)⟩,⟨some 48,none,.load (some 5) (.tmp 8)⟩,⟨some 49,none,.bsl 5 true (.agg [(I 0),(I 0),(I 0),(I 0),(I 0)]) 1 [(0, (.tmp 48))]⟩,⟨some 50,none,.ment (some 2) .nils (.tmp 45) (.tmp 46)⟩,⟨some 47,none,.ext (.tmp 50) 0⟩,⟨some 51,none,.app false 5 40 true (.tmp 47) (.tmp 49)⟩,⟨some 52,none,.ext (.tmp 50) 1⟩,⟨none,none,.esto (.tmp 45) (.tmp 52) (.tmp 51)⟩]) .skip)))))
 (.ops false [⟨some 53,none,.bin .add (.tmp 35) (.cst (I 1))⟩,⟨some 35,none,.mov (.tmp 53)⟩]))))
def keep109_0 : Option (List Nat) := some [5, 6, 8, 34, 35]
def asg109_1 : MC := (.ops false [⟨some 8,none,.alloc [(I 0),(I 0),(I 0),(I 0),(I 0)]⟩,⟨none,none,.store 5 (.tmp 8) (.tmp 24)⟩])
def body109_1 : MC := (.block 3 (.seq (.ops false [⟨some 25,none,.load none (.tmp 7)⟩,⟨some 26,none,.load (some 5) (.tmp 8)⟩,⟨some 27,none,.bsl 5 true (.agg [(I 0),(I 0),(I 0),(I 0),(I 0)]) 1 [(0, (.tmp 26))]⟩,⟨some 28,none,.app false 5 40 true (.tmp 25) (.tmp 27)⟩,⟨none,none,.store 1 (.tmp 7) (.tmp 28)⟩])
 (.seq (.ops false [⟨some 29,none,.fad (.tmp 2) 1⟩,⟨some 30,none,.load none (.tmp 29)⟩,⟨some 31,none,.ixa 5 1 (.tmp 8) (.cst (I 4))⟩,⟨some 32,none,.load none (.tmp 31)⟩,⟨some 33,none,.bsl 1 false (I 0) 1 [(0, (.tmp 32))]⟩,⟨some 34,none,.call (.cst (.fn (.func 121) [] [])) [(.tmp 30), (.tmp 33)]⟩,⟨some 35,none,.mov (.cst (I 0))⟩])
 (.block 4 (.loop keep109_0 body109_0)))))
def body109_2 : MC := (.seq (.ops false [⟨some 18,none,.bin .lss (.tmp 17) (.tmp 16)⟩])
 (.seq (.cond (.tmp 18) .skip (.exit 0))
 (.seq (.block 1 (.seq (.ops false [⟨some 19,none,.mov (.tmp 17)⟩,⟨some 6,none,.alloc [(I 0)]⟩,⟨none,none,.store 1 (.tmp 6) (.tmp 19)⟩])
 (.seq (.ops false [⟨some 7,none,.alloc [.nils]⟩])
 (.seq (.seq (.ops false [⟨some 20,none,.load (some 5) (.tmp 5)⟩,⟨some 21,none,.load none (.tmp 6)⟩,⟨some 22,none,.mov (.tmp 1)⟩,⟨some 23,none,.call (.cst (.fn (.func 120) [] [])) [(.tmp 20), (.tmp 21), (.tmp 22)]⟩])
 (.block 2 (.range (.tmp 23) [24] asg109_1 body109_1)))
 (.ops false [⟨some 54,none,.fad (.tmp 5) 3⟩,⟨some 55,none,.load none (.tmp 54)⟩,⟨some 56,none,.load none (.tmp 7)⟩,⟨some 57,none,.bsl 1 false .nils 1 [(0, (.tmp 56))]⟩,⟨some 58,none,.app false 1 24 false (.tmp 55) (.tmp 57)⟩,⟨some 59,none,.fad (.tmp 5) 3⟩,⟨none,none,.store 1 (.tmp 59) (.tmp 58)⟩])))))
 (.ops false [⟨some 60,none,.bin .add (.tmp 17) (.cst (I 1))⟩,⟨some 17,none,.mov (.tmp 60)⟩]))))
def keep109_2 : Option (List Nat) := some [1, 2, 4, 5, 16, 17]
def code109 : MF := ⟨62, [(4, some (some 5))], (.seq (.ops false [⟨some 2,none,.box (.tmp 0)⟩,⟨some 4,none,.alloc [.nils, (I 0), .nils, .nils, .nilm]⟩])
 (.seq (.ops false [⟨some 11,none,.load (some 3) (.tmp 2)⟩,⟨some 12,none,.mkm⟩,⟨some 13,none,.bld [.nils, (I 0), .nils, .nils, .nilm] [(0, 3, (.tmp 11)), (4, 1, (.tmp 12))]⟩,⟨some 5,none,.alloc [.nils, (I 0), .nils, .nils, .nilm]⟩,⟨none,none,.store 5 (.tmp 5) (.tmp 13)⟩])
 (.seq (.seq (.ops false [⟨some 14,none,.fad (.tmp 2) 0⟩,⟨some 15,none,.load none (.tmp 14)⟩,⟨some 16,none,.len (.tmp 15)⟩,⟨some 17,none,.mov (.cst (I 0))⟩])
 (.block 0 (.loop keep109_2 body109_2)))
 (.seq (.ops false [⟨some 61,none,.load (some 5) (.tmp 5)⟩,⟨none,none,.store 5 (.tmp 4) (.tmp 61)⟩])
 .ret))))⟩
theorem comp109 : compF Cv 109 = some code109 := by kernel_rfl
def code110 : MF := ⟨7, [(2, none)], (.seq (.ops false [⟨some 1,none,.box (.tmp 0)⟩,⟨some 2,none,.mov (.cst (.bool false))⟩])
 (.seq (.ops false [⟨some 3,none,.fad (.tmp 1) 3⟩,⟨some 4,none,.load none (.tmp 3)⟩,⟨some 5,none,.call (.cst (.fn (.func 122) [] [])) [(.tmp 4), (.cst (.fn (.func 123) [] []))]⟩,⟨some 6,none,.lnot (.tmp 5)⟩,⟨some 2,none,.mov (.tmp 6)⟩])
 .ret))⟩
theorem comp110 : compF Cv 110 = some code110 := by kernel_rfl
def code111 : MF := ⟨31, [(10, none)], (.seq (.ops false [⟨some 5,none,.box (.tmp 0)⟩,⟨some 7,none,.box (.tmp 2)⟩,⟨some 10,none,.mov (.cst (.bool false))⟩])
 (.seq (.ops true [⟨some 11,none,.load (some 5) (.tmp 7)⟩,⟨some 12,none,.load (some 5) (.cst (.rp [(I (-1)), (I (-1)), (I (-1)), (I (-1)), (I (-1))] 0))⟩,⟨some 13,none,.eqa 5 true (.tmp 11) (.tmp 12)⟩,⟨some 14,none,.mov (.tmp 13)⟩,⟨some 15,some ((some 14), true),.mov (.tmp 3)⟩,⟨some 16,some ((some 14), true),.ixa 5 1 (.tmp 7) (.cst (I 4))⟩,⟨some 17,some ((some 14), true),.load none (.tmp 16)⟩,⟨some 18,some ((some 14), true),.bin .lss (.tmp 15) (.tmp 17)⟩,⟨some 19,none,.pick (.tmp 14) (.tmp 18) (.cst (.bool false))⟩,⟨some 20,none,.mov (.tmp 19)⟩,⟨some 21,some ((some 20), true),.mov (.tmp 4)⟩,⟨some 22,some ((some 20), true),.ixa 5 1 (.tmp 7) (.cst (I 0))⟩,⟨some 23,some ((some 20), true),.load none (.tmp 22)⟩,⟨some 24,some ((some 20), true),.load (some 5) (.tmp 5)⟩,⟨some 25,some ((some 20), true),.mov (.tmp 1)⟩,⟨some 26,some ((some 20), true),.load (some 5) (.tmp 7)⟩,⟨some 27,some ((some 20), true),.mov (.tmp 3)⟩,⟨some 28,some ((some 20), true),.call (.cst (.fn (.func 124) [] [])) [(.tmp 24), (.tmp 25), (.tmp 26), (.tmp 27)]⟩,⟨some 29,some ((some 20), true),.call (.cst (.fn (.func 97) [] [])) [(.tmp 21), (.tmp 23), (.tmp 28)]⟩,⟨some 30,none,.pick (.tmp 20) (.tmp 29) (.cst (.bool false))⟩,⟨some 10,none,.mov (.tmp 30)⟩])
 .ret))⟩
theorem comp111 : compF Cv 111 = some code111 := by kernel_rfl
def code113 : MF := ⟨11, [(4, none)], (.seq (.ops false [⟨some 2,none,.box (.tmp 0)⟩,⟨some 4,none,.mov (.cst (.bool false))⟩])
 (.seq (.ops false [⟨some 5,none,.mov (.tmp 1)⟩,⟨some 6,none,.fad (.tmp 2) 0⟩,⟨some 7,none,.load none (.tmp 6)⟩,⟨some 8,none,.len (.tmp 7)⟩,⟨some 9,none,.bin .sub (.tmp 8) (.cst (I 1))⟩,⟨some 10,none,.call (.cst (.fn (.func 43) [] [])) [(.tmp 5), (.cst (I 0)), (.tmp 9)]⟩,⟨some 4,none,.mov (.tmp 10)⟩])
 .ret))⟩
theorem comp113 : compF Cv 113 = some code113 := by kernel_rfl
def code114 : MF := ⟨10, [(4, none)], (.seq (.ops false [⟨some 2,none,.box (.tmp 0)⟩,⟨some 4,none,.mov (.cst (.bool false))⟩])
 (.seq (.ops false [⟨some 5,none,.mov (.tmp 1)⟩,⟨some 6,none,.fad (.tmp 2) 1⟩,⟨some 7,none,.load none (.tmp 6)⟩,⟨some 8,none,.bin .sub (.tmp 7) (.cst (I 1))⟩,⟨some 9,none,.call (.cst (.fn (.func 43) [] [])) [(.tmp 5), (.cst (I 0)), (.tmp 8)]⟩,⟨some 4,none,.mov (.tmp 9)⟩])
 .ret))⟩
theorem comp114 : compF Cv 114 = some code114 := by kernel_rfl
def code115 : MF := ⟨5, [(2, none)], (.seq (.ops false [⟨some 2,none,.mov (.cst (.bool false))⟩])
 (.seq (.ops false [⟨some 3,none,.mov (.tmp 0)⟩,⟨some 4,none,.call (.cst (.fn (.func 43) [] [])) [(.tmp 3), (.cst (I 0)), (.cst (I 40))]⟩,⟨some 2,none,.mov (.tmp 4)⟩])
 .ret))⟩
theorem comp115 : compF Cv 115 = some code115 := by kernel_rfl
def body117_0 : MC := (.seq (.seq (.ops false [⟨some 15,none,.mov (.tmp 11)⟩,⟨some 16,none,.mov (.tmp 9)⟩,⟨some 17,none,.len (.tmp 16)⟩,⟨some 18,none,.bin .lss (.tmp 15) (.tmp 17)⟩])
 (.cond (.tmp 18) .skip (.exit 0)))
 (.seq (.block 1 (.seq (.ops false [⟨some 21,none,.mov (.tmp 9)⟩,⟨some 22,none,.mov (.tmp 11)⟩,⟨some 23,none,.ixs 6 (.tmp 21) (.tmp 22)⟩,⟨some 24,none,.load (some 6) (.tmp 23)⟩,⟨some 25,none,.mov (.tmp 2)⟩,⟨some 26,none,.mov (.tmp 3)⟩,⟨some 27,none,.call (.cst (.fn (.func 126) [] [])) [(.tmp 24), (.tmp 25), (.tmp 26)]⟩])
 (.cond (.tmp 27) (.ops false [⟨some 28,none,.mov (.tmp 10)⟩,⟨some 29,none,.bin .add (.tmp 28) (.cst (I 1))⟩,⟨some 10,none,.mov (.tmp 29)⟩]) .skip)))
 (.ops false [⟨some 19,none,.mov (.tmp 11)⟩,⟨some 20,none,.bin .add (.tmp 19) (.cst (I 1))⟩,⟨some 11,none,.mov (.tmp 20)⟩])))
def keep117_0 : Option (List Nat) := some [2, 3, 9, 10, 11]
def code117 : MF := ⟨37, [(8, none)], (.seq (.ops false [⟨some 4,none,.box (.tmp 0)⟩,⟨some 8,none,.mov (.cst (I 0))⟩])
 (.seq (.ops false [⟨some 12,none,.load (some 3) (.tmp 4)⟩,⟨some 13,none,.mov (.tmp 1)⟩,⟨some 14,none,.call (.cst (.fn (.func 112) [] [])) [(.tmp 12), (.tmp 13), (.cst (I 0))]⟩,⟨some 9,none,.mov (.tmp 14)⟩,⟨some 10,none,.mov (.cst (I 0))⟩])
 (.seq (.seq (.ops false [⟨some 11,none,.mov (.cst (I 0))⟩])
 (.block 0 (.loop keep117_0 body117_0)))
 (.seq (.seq (.ops false [⟨some 30,none,.mov (.tmp 10)⟩])
 (.block 2 (.seq (.ops false [⟨some 32,none,.bin .eql (.tmp 30) (.cst (I 0))⟩,⟨some 31,none,.mov (.tmp 32)⟩])
 (.cond (.tmp 31) (.seq (.ops false [⟨some 8,none,.mov (.cst (I 0))⟩])
 .ret) (.seq (.ops false [⟨some 34,none,.mov (.tmp 9)⟩,⟨some 35,none,.len (.tmp 34)⟩,⟨some 36,none,.bin .eql (.tmp 30) (.tmp 35)⟩,⟨some 33,none,.mov (.tmp 36)⟩])
 (.cond (.tmp 33) (.seq (.ops false [⟨some 8,none,.mov (.cst (I 2))⟩])
 .ret) .skip))))))
 (.seq (.ops false [⟨some 8,none,.mov (.cst (I 1))⟩])
 .ret)))))⟩
theorem comp117 : compF Cv 117 = some code117 := by kernel_rfl
def body118_0 : MC := (.seq (.ops false [⟨some 11,none,.bin .lss (.tmp 10) (.tmp 9)⟩])
 (.seq (.cond (.tmp 11) .skip (.exit 0))
 (.seq (.block 1 (.seq (.ops false [⟨some 12,none,.mov (.tmp 10)⟩,⟨some 13,none,.ixs 4 (.tmp 8) (.tmp 10)⟩,⟨some 14,none,.load (some 4) (.tmp 13)⟩,⟨some 5,none,.alloc [(I 0),(I 0),(I 0),(I 0)]⟩,⟨some 4,none,.mov (.tmp 12)⟩,⟨none,none,.store 4 (.tmp 5) (.tmp 14)⟩])
 (.seq (.ops false [⟨some 15,none,.load none (.tmp 2)⟩,⟨some 16,none,.mov (.tmp 4)⟩,⟨some 17,none,.call (.cst (.fn (.func 119) [] [])) [(.tmp 15), (.tmp 16)]⟩,⟨some 18,none,.lnot (.tmp 17)⟩,⟨some 19,none,.mov (.tmp 18)⟩,⟨some 20,some ((some 19), true),.mov (.tmp 0)⟩,⟨some 21,some ((some 19), true),.load (some 4) (.tmp 5)⟩,⟨some 22,some ((some 19), true),.call (.tmp 20) [(.tmp 21)]⟩,⟨some 23,some ((some 19), true),.lnot (.tmp 22)⟩,⟨some 24,none,.pick (.tmp 19) (.tmp 23) (.cst (.bool false))⟩])
 (.cond (.tmp 24) .ret .skip))))
 (.ops false [⟨some 25,none,.bin .add (.tmp 10) (.cst (I 1))⟩,⟨some 10,none,.mov (.tmp 25)⟩]))))
def keep118_0 : Option (List Nat) := some [0, 2, 8, 9, 10]
def code118 : MF := ⟨26, [], (.seq (.ops false [⟨some 6,none,.fad (.tmp 1) 0⟩,⟨some 7,none,.fad (.tmp 6) 1⟩,⟨some 8,none,.load none (.tmp 7)⟩,⟨some 9,none,.len (.tmp 8)⟩,⟨some 10,none,.mov (.cst (I 0))⟩])
 (.block 0 (.loop keep118_0 body118_0)))⟩
theorem comp118 : compF Cv 118 = some code118 := by kernel_rfl
def code119 : MF := ⟨9, [(4, none)], (.seq (.ops false [⟨some 4,none,.mov (.cst (.bool false))⟩])
 (.seq (.ops false [⟨some 5,none,.mov (.tmp 0)⟩,⟨some 6,none,.mov (.tmp 1)⟩,⟨some 7,none,.call (.cst (.fn (.func 127) [] [])) [(.tmp 5), (.tmp 6)]⟩,⟨some 8,none,.bin .geq (.tmp 7) (.cst (I 0))⟩,⟨some 4,none,.mov (.tmp 8)⟩])
 .ret))⟩
theorem comp119 : compF Cv 119 = some code119 := by kernel_rfl
def code120 : MF := ⟨8, [(6, none)], (.seq (.ops false [⟨some 3,none,.box (.tmp 0)⟩,⟨some 4,none,.box (.tmp 1)⟩,⟨some 5,none,.box (.tmp 2)⟩,⟨some 6,none,.mov (.cst .nilf)⟩])
 (.seq (.ops false [⟨some 7,none,.mkf (.func 128) [] [(.tmp 3), (.tmp 4), (.tmp 5)]⟩,⟨some 6,none,.mov (.tmp 7)⟩])
 .ret))⟩
theorem comp120 : compF Cv 120 = some code120 := by kernel_rfl
def body121_0 : MC := (.seq (.ops false [⟨some 10,none,.bin .lss (.tmp 9) (.tmp 8)⟩])
 (.seq (.cond (.tmp 10) .skip (.exit 0))
 (.seq (.block 1 (.seq (.ops false [⟨some 11,none,.ixs 1 (.tmp 7) (.tmp 9)⟩,⟨some 12,none,.load none (.tmp 11)⟩,⟨some 6,none,.mov (.tmp 12)⟩])
 (.ops false [⟨some 13,none,.mov (.tmp 0)⟩,⟨some 14,none,.mov (.tmp 6)⟩,⟨some 15,none,.mn (.tmp 13) [(.tmp 14)]⟩,⟨some 0,none,.mov (.tmp 15)⟩])))
 (.ops false [⟨some 16,none,.bin .add (.tmp 9) (.cst (I 1))⟩,⟨some 9,none,.mov (.tmp 16)⟩]))))
def keep121_0 : Option (List Nat) := some [0, 7, 8, 9]
def code121 : MF := ⟨18, [(4, none)], (.seq (.ops false [⟨some 4,none,.mov (.cst (I 0))⟩])
 (.seq (.seq (.ops false [⟨some 7,none,.mov (.tmp 1)⟩,⟨some 8,none,.len (.tmp 7)⟩,⟨some 9,none,.mov (.cst (I 0))⟩])
 (.block 0 (.loop keep121_0 body121_0)))
 (.seq (.ops false [⟨some 17,none,.mov (.tmp 0)⟩,⟨some 4,none,.mov (.tmp 17)⟩])
 .ret)))⟩
theorem comp121 : compF Cv 121 = some code121 := by kernel_rfl
def code122 : MF := ⟨9, [(4, none)], (.seq (.ops false [⟨some 4,none,.mov (.cst (.bool false))⟩])
 (.seq (.ops false [⟨some 5,none,.mov (.tmp 0)⟩,⟨some 6,none,.mov (.tmp 1)⟩,⟨some 7,none,.call (.cst (.fn (.func 131) [] [])) [(.tmp 5), (.tmp 6)]⟩,⟨some 8,none,.bin .geq (.tmp 7) (.cst (I 0))⟩,⟨some 4,none,.mov (.tmp 8)⟩])
 .ret))⟩
theorem comp122 : compF Cv 122 = some code122 := by kernel_rfl
def code123 : MF := ⟨6, [(2, none)], (.seq (.ops false [⟨some 2,none,.mov (.cst (.bool false))⟩])
 (.seq (.ops false [⟨some 3,none,.mov (.tmp 0)⟩,⟨some 4,none,.len (.tmp 3)⟩,⟨some 5,none,.bin .eql (.tmp 4) (.cst (I 0))⟩,⟨some 2,none,.mov (.tmp 5)⟩])
 .ret))⟩
theorem comp123 : compF Cv 123 = some code123 := by kernel_rfl
def code124 : MF := ⟨34, [(8, none)], (.seq (.ops false [⟨some 4,none,.box (.tmp 0)⟩,⟨some 6,none,.box (.tmp 2)⟩,⟨some 8,none,.mov (.cst (I 0))⟩])
 (.seq (.ops false [⟨some 10,none,.mov (.tmp 3)⟩,⟨some 11,none,.ixa 5 1 (.tmp 6) (.cst (I 3))⟩,⟨some 12,none,.load none (.tmp 11)⟩,⟨some 13,none,.bsl 1 false (I 0) 1 [(0, (.tmp 12))]⟩,⟨some 14,none,.call (.cst (.fn (.func 121) [] [])) [(.tmp 10), (.tmp 13)]⟩,⟨some 9,none,.mov (.tmp 14)⟩])
 (.seq (.ops false [⟨some 15,none,.ixa 5 1 (.tmp 6) (.cst (I 1))⟩,⟨some 16,none,.load none (.tmp 15)⟩,⟨some 17,none,.mov (.tmp 9)⟩,⟨some 18,none,.ixa 5 1 (.tmp 6) (.cst (I 2))⟩,⟨some 19,none,.load none (.tmp 18)⟩,⟨some 20,none,.bin .mul (.tmp 17) (.tmp 19)⟩,⟨some 21,none,.bin .add (.tmp 16) (.tmp 20)⟩,⟨some 22,none,.mov (.tmp 3)⟩,⟨some 23,none,.mov (.tmp 9)⟩,⟨some 24,none,.bin .sub (.tmp 22) (.tmp 23)⟩,⟨some 25,none,.fad (.tmp 4) 0⟩,⟨some 26,none,.fad (.tmp 25) 0⟩,⟨some 27,none,.load none (.tmp 26)⟩,⟨some 28,none,.mov (.tmp 1)⟩,⟨some 29,none,.ixs 11 (.tmp 27) (.tmp 28)⟩,⟨some 30,none,.fad (.tmp 29) 8⟩,⟨some 31,none,.load none (.tmp 30)⟩,⟨some 32,none,.bin .mul (.tmp 24) (.tmp 31)⟩,⟨some 33,none,.bin .sub (.tmp 21) (.tmp 32)⟩,⟨some 8,none,.mov (.tmp 33)⟩])
 .ret)))⟩
theorem comp124 : compF Cv 124 = some code124 := by kernel_rfl
def body127_0 : MC := (.seq (.ops false [⟨some 9,none,.bin .lss (.tmp 8) (.tmp 7)⟩])
 (.seq (.cond (.tmp 9) .skip (.exit 0))
 (.seq (.block 1 (.seq (.ops false [⟨some 10,none,.mov (.tmp 8)⟩,⟨some 5,none,.mov (.tmp 10)⟩])
 (.seq (.ops false [⟨some 11,none,.mov (.tmp 1)⟩,⟨some 12,none,.mov (.tmp 0)⟩,⟨some 13,none,.mov (.tmp 5)⟩,⟨some 14,none,.ixs 1 (.tmp 12) (.tmp 13)⟩,⟨some 15,none,.load none (.tmp 14)⟩,⟨some 16,none,.bin .eql (.tmp 11) (.tmp 15)⟩])
 (.cond (.tmp 16) (.seq (.ops false [⟨some 17,none,.mov (.tmp 5)⟩,⟨some 4,none,.mov (.tmp 17)⟩])
 .ret) .skip))))
 (.ops false [⟨some 18,none,.bin .add (.tmp 8) (.cst (I 1))⟩,⟨some 8,none,.mov (.tmp 18)⟩]))))
def keep127_0 : Option (List Nat) := some [0, 1, 7, 8]
def code127 : MF := ⟨19, [(4, none)], (.seq (.ops false [⟨some 4,none,.mov (.cst (I 0))⟩])
 (.seq (.seq (.ops false [⟨some 6,none,.mov (.tmp 0)⟩,⟨some 7,none,.len (.tmp 6)⟩,⟨some 8,none,.mov (.cst (I 0))⟩])
 (.block 0 (.loop keep127_0 body127_0)))
 (.seq (.ops false [⟨some 4,none,.mov (.cst (I (-1)))⟩])
 .ret)))⟩
theorem comp127 : compF Cv 127 = some code127 := by kernel_rfl
def code128 : MF := ⟨32, [], (.seq (.ops false [⟨some 4,none,.box (.tmp 0)⟩])
 (.seq (.ops false [⟨some 9,none,.load (some 5) (.tmp 1)⟩,⟨some 10,none,.mkf (.func 129) [(.tmp 9)] []⟩,⟨some 5,none,.alloc [.nilf]⟩,⟨none,none,.store 1 (.tmp 5) (.tmp 10)⟩])
 (.seq (.ops false [⟨some 11,none,.fad (.tmp 1) 0⟩,⟨some 12,none,.fad (.tmp 11) 0⟩,⟨some 13,none,.load none (.tmp 12)⟩,⟨some 14,none,.load none (.tmp 2)⟩,⟨some 15,none,.ixs 11 (.tmp 13) (.tmp 14)⟩,⟨some 16,none,.load (some 11) (.tmp 15)⟩,⟨some 6,none,.alloc [(I 0),(I 0),(I 0),(I 0),(I 0),(I 0),(I 0),(I 0),(I 0),(I 0),(I 0)]⟩,⟨none,none,.store 11 (.tmp 6) (.tmp 16)⟩])
 (.seq (.ops false [⟨some 17,none,.fad (.tmp 6) 0⟩,⟨some 18,none,.load (some 2) (.tmp 17)⟩,⟨some 19,none,.fad (.tmp 6) 2⟩,⟨some 20,none,.load (some 2) (.tmp 19)⟩,⟨some 21,none,.fad (.tmp 6) 4⟩,⟨some 22,none,.load (some 2) (.tmp 21)⟩,⟨some 23,none,.fad (.tmp 6) 6⟩,⟨some 24,none,.load (some 2) (.tmp 23)⟩,⟨some 25,none,.fad (.tmp 6) 9⟩,⟨some 26,none,.load (some 2) (.tmp 25)⟩,⟨some 27,none,.bld [(I 0),(I 0),(I 0),(I 0),(I 0),(I 0),(I 0),(I 0),(I 0),(I 0)] [(0, 2, (.tmp 18)), (2, 2, (.tmp 20)), (4, 2, (.tmp 22)), (6, 2, (.tmp 24)), (8, 2, (.tmp 26))]⟩,⟨some 7,none,.alloc [(I 0),(I 0),(I 0),(I 0),(I 0),(I 0),(I 0),(I 0),(I 0),(I 0)]⟩,⟨none,none,.store 10 (.tmp 7) (.tmp 27)⟩])
 (.seq (.ops false [⟨some 8,none,.alloc [.nilf]⟩])
 (.seq (.ops false [⟨some 28,none,.mkf (.func 130) [] [(.tmp 7), (.tmp 8), (.tmp 5), (.tmp 2), (.tmp 3), (.tmp 4)]⟩,⟨none,none,.store 1 (.tmp 8) (.tmp 28)⟩])
 (.ops false [⟨some 29,none,.load none (.tmp 8)⟩,⟨some 30,none,.load (some 5) (.cst (.rp [(I (-1)), (I (-1)), (I (-1)), (I (-1)), (I (-1))] 0))⟩,⟨some 31,none,.call (.tmp 29) [(.tmp 30), (.cst (I 0))]⟩])))))))⟩
theorem comp128 : compF Cv 128 = some code128 := by kernel_rfl
def body129_0 : MC := (.seq (.ops false [⟨some 16,none,.bin .lss (.tmp 15) (.tmp 14)⟩])
 (.seq (.cond (.tmp 16) .skip (.exit 0))
 (.seq (.block 1 (.seq (.ops false [⟨some 17,none,.mov (.tmp 15)⟩,⟨some 18,none,.ixs 4 (.tmp 13) (.tmp 15)⟩,⟨some 19,none,.load (some 4) (.tmp 18)⟩,⟨some 10,none,.alloc [(I 0),(I 0),(I 0),(I 0)]⟩,⟨some 9,none,.mov (.tmp 17)⟩,⟨none,none,.store 4 (.tmp 10) (.tmp 19)⟩])
 (.seq (.ops true [⟨some 20,none,.fad (.tmp 10) 0⟩,⟨some 21,none,.load none (.tmp 20)⟩,⟨some 22,none,.mov (.tmp 1)⟩,⟨some 23,none,.bin .eql (.tmp 21) (.tmp 22)⟩,⟨some 24,none,.mov (.tmp 23)⟩,⟨some 25,some ((some 24), true),.mov (.tmp 3)⟩,⟨some 26,some ((some 24), true),.mov (.tmp 9)⟩,⟨some 27,some ((some 24), true),.call (.cst (.fn (.func 119) [] [])) [(.tmp 25), (.tmp 26)]⟩,⟨some 28,some ((some 24), true),.lnot (.tmp 27)⟩,⟨some 29,none,.pick (.tmp 24) (.tmp 28) (.cst (.bool false))⟩,⟨some 30,none,.mov (.tmp 29)⟩,⟨some 31,some ((some 30), true),.load (some 5) (.tmp 4)⟩,⟨some 32,some ((some 30), true),.mov (.tmp 1)⟩,⟨some 33,some ((some 30), true),.load (some 5) (.tmp 6)⟩,⟨some 34,some ((some 30), true),.fad (.tmp 10) 1⟩,⟨some 35,some ((some 30), true),.load none (.tmp 34)⟩,⟨some 36,some ((some 30), true),.fad (.tmp 10) 2⟩,⟨some 37,some ((some 30), true),.load none (.tmp 36)⟩,⟨some 38,some ((some 30), true),.call (.cst (.fn (.func 111) [] [])) [(.tmp 31), (.tmp 32), (.tmp 33), (.tmp 35), (.tmp 37)]⟩,⟨some 39,some ((some 30), true),.fad (.tmp 10) 3⟩,⟨some 40,some ((some 30), true),.load none (.tmp 39)⟩,⟨some 41,some ((some 30), true),.bin .eql (.tmp 40) (.cst (I 1))⟩,⟨some 42,some ((some 30), true),.beq true (.tmp 38) (.tmp 41)⟩,⟨some 43,none,.pick (.tmp 30) (.tmp 42) (.cst (.bool false))⟩])
 (.cond (.tmp 43) (.seq (.ops false [⟨some 8,none,.mov (.cst (.bool false))⟩])
 .ret) .skip))))
 (.ops false [⟨some 44,none,.bin .add (.tmp 15) (.cst (I 1))⟩,⟨some 15,none,.mov (.tmp 44)⟩]))))
def keep129_0 : Option (List Nat) := some [1, 3, 4, 6, 13, 14, 15]
def code129 : MF := ⟨45, [(8, none)], (.seq (.ops false [⟨some 4,none,.box (.tmp 0)⟩,⟨some 6,none,.box (.tmp 2)⟩,⟨some 8,none,.mov (.cst (.bool false))⟩])
 (.seq (.seq (.ops false [⟨some 11,none,.fad (.tmp 4) 0⟩,⟨some 12,none,.fad (.tmp 11) 2⟩,⟨some 13,none,.load none (.tmp 12)⟩,⟨some 14,none,.len (.tmp 13)⟩,⟨some 15,none,.mov (.cst (I 0))⟩])
 (.block 0 (.loop keep129_0 body129_0)))
 (.seq (.ops false [⟨some 8,none,.mov (.cst (.bool true))⟩])
 .ret)))⟩
theorem comp129 : compF Cv 129 = some code129 := by kernel_rfl
def body130_0 : MC := (.seq (.ops false [⟨some 23,none,.bin .lss (.tmp 22) (.tmp 21)⟩])
 (.seq (.cond (.tmp 23) .skip (.exit 0))
 (.seq (.block 1 (.seq (.ops false [⟨some 24,none,.mov (.tmp 22)⟩,⟨some 12,none,.mov (.tmp 24)⟩])
 (.seq (.ops false [⟨some 25,none,.mov (.tmp 1)⟩,⟨some 26,none,.fad (.tmp 11) 0⟩,⟨some 27,none,.load none (.tmp 26)⟩,⟨some 28,none,.mov (.tmp 12)⟩,⟨some 29,none,.bin .add (.tmp 27) (.tmp 28)⟩,⟨some 30,none,.ixa 5 1 (.tmp 8) (.tmp 25)⟩,⟨none,none,.store 1 (.tmp 30) (.tmp 29)⟩])
 (.seq (.seq (.ops false [⟨some 31,none,.mov (.tmp 1)⟩,⟨some 32,none,.bin .lss (.tmp 31) (.cst (I 4))⟩])
 (.cond (.tmp 32) (.seq (.seq (.ops false [⟨some 33,none,.load none (.tmp 3)⟩,⟨some 34,none,.load (some 5) (.tmp 8)⟩,⟨some 35,none,.mov (.tmp 1)⟩,⟨some 36,none,.bin .add (.tmp 35) (.cst (I 1))⟩,⟨some 37,none,.call (.tmp 33) [(.tmp 34), (.tmp 36)]⟩,⟨some 38,none,.lnot (.tmp 37)⟩])
 (.cond (.tmp 38) (.seq (.ops false [⟨some 10,none,.mov (.cst (.bool false))⟩])
 .ret) .skip))
 (.exit 1)) .skip))
 (.seq (.seq (.ops false [⟨some 39,none,.load none (.tmp 4)⟩,⟨some 40,none,.load none (.tmp 5)⟩,⟨some 41,none,.load (some 5) (.tmp 8)⟩,⟨some 42,none,.load none (.tmp 6)⟩,⟨some 43,none,.call (.tmp 39) [(.tmp 40), (.tmp 41), (.tmp 42)]⟩,⟨some 44,none,.lnot (.tmp 43)⟩])
 (.cond (.tmp 44) (.exit 1) .skip))
 (.seq (.ops false [⟨some 45,none,.load none (.tmp 7)⟩,⟨some 46,none,.load (some 5) (.tmp 8)⟩,⟨some 47,none,.call (.tmp 45) [(.tmp 46)]⟩,⟨some 48,none,.lnot (.tmp 47)⟩])
 (.cond (.tmp 48) (.seq (.ops false [⟨some 10,none,.mov (.cst (.bool false))⟩])
 .ret) .skip)))))))
 (.ops false [⟨some 49,none,.bin .add (.tmp 22) (.cst (I 1))⟩,⟨some 22,none,.mov (.tmp 49)⟩]))))
def keep130_0 : Option (List Nat) := some [1, 3, 4, 5, 6, 7, 8, 11, 21, 22]
def code130 : MF := ⟨50, [(10, none)], (.seq (.ops false [⟨some 8,none,.box (.tmp 0)⟩,⟨some 10,none,.mov (.cst (.bool false))⟩])
 (.scope (.seq (.ops false [⟨some 13,none,.mov (.tmp 1)⟩,⟨some 14,none,.ixa 5 2 (.tmp 2) (.tmp 13)⟩,⟨some 15,none,.load (some 2) (.tmp 14)⟩,⟨some 11,none,.alloc [(I 0),(I 0)]⟩,⟨none,none,.store 2 (.tmp 11) (.tmp 15)⟩])
 (.seq .skip
 (.seq (.seq (.ops false [⟨some 16,none,.fad (.tmp 11) 1⟩,⟨some 17,none,.load none (.tmp 16)⟩,⟨some 18,none,.fad (.tmp 11) 0⟩,⟨some 19,none,.load none (.tmp 18)⟩,⟨some 20,none,.bin .sub (.tmp 17) (.tmp 19)⟩,⟨some 21,none,.bin .add (.tmp 20) (.cst (I 1))⟩,⟨some 22,none,.mov (.cst (I 0))⟩])
 (.block 0 (.loop keep130_0 body130_0)))
 (.seq (.ops false [⟨some 10,none,.mov (.cst (.bool true))⟩])
 .ret))))))⟩
theorem comp130 : compF Cv 130 = some code130 := by kernel_rfl
def body131_0 : MC := (.seq (.ops false [⟨some 9,none,.bin .lss (.tmp 8) (.tmp 7)⟩])
 (.seq (.cond (.tmp 9) .skip (.exit 0))
 (.seq (.block 1 (.seq (.ops false [⟨some 10,none,.mov (.tmp 8)⟩,⟨some 5,none,.mov (.tmp 10)⟩])
 (.seq (.ops false [⟨some 11,none,.mov (.tmp 1)⟩,⟨some 12,none,.mov (.tmp 0)⟩,⟨some 13,none,.mov (.tmp 5)⟩,⟨some 14,none,.ixs 1 (.tmp 12) (.tmp 13)⟩,⟨some 15,none,.load none (.tmp 14)⟩,⟨some 16,none,.call (.tmp 11) [(.tmp 15)]⟩])
 (.cond (.tmp 16) (.seq (.ops false [⟨some 17,none,.mov (.tmp 5)⟩,⟨some 4,none,.mov (.tmp 17)⟩])
 .ret) .skip))))
 (.ops false [⟨some 18,none,.bin .add (.tmp 8) (.cst (I 1))⟩,⟨some 8,none,.mov (.tmp 18)⟩]))))
def keep131_0 : Option (List Nat) := some [0, 1, 7, 8]
def code131 : MF := ⟨19, [(4, none)], (.seq (.ops false [⟨some 4,none,.mov (.cst (I 0))⟩])
 (.seq (.seq (.ops false [⟨some 6,none,.mov (.tmp 0)⟩,⟨some 7,none,.len (.tmp 6)⟩,⟨some 8,none,.mov (.cst (I 0))⟩])
 (.block 0 (.loop keep131_0 body131_0)))
 (.seq (.ops false [⟨some 4,none,.mov (.cst (I (-1)))⟩])
 .ret)))⟩
theorem comp131 : compF Cv 131 = some code131 := by kernel_rfl
def code149 : MF := ⟨14, [(4, none)], (.seq (.ops false [⟨some 2,none,.box (.tmp 0)⟩,⟨some 3,none,.box (.tmp 1)⟩,⟨some 4,none,.mov (.cst (I 0))⟩])
 (.seq (.ops false [⟨some 5,none,.fad (.tmp 3) 1⟩,⟨some 6,none,.load none (.tmp 5)⟩,⟨some 7,none,.fad (.tmp 3) 0⟩,⟨some 8,none,.load none (.tmp 7)⟩,⟨some 9,none,.fad (.tmp 2) 7⟩,⟨some 10,none,.ixa 6 6 (.tmp 9) (.tmp 6)⟩,⟨some 11,none,.ixa 6 1 (.tmp 10) (.tmp 8)⟩,⟨some 12,none,.load none (.tmp 11)⟩,⟨some 13,none,.neg (.tmp 12)⟩,⟨some 4,none,.mov (.tmp 13)⟩])
 .ret))⟩
theorem comp149 : compF Cv 149 = some code149 := by kernel_rfl
def code150 : MF := ⟨13, [(4, none)], (.seq (.ops false [⟨some 2,none,.box (.tmp 0)⟩,⟨some 3,none,.box (.tmp 1)⟩,⟨some 4,none,.mov (.cst (I 0))⟩])
 (.seq (.ops false [⟨some 5,none,.fad (.tmp 3) 0⟩,⟨some 6,none,.load none (.tmp 5)⟩,⟨some 7,none,.fad (.tmp 3) 1⟩,⟨some 8,none,.load none (.tmp 7)⟩,⟨some 9,none,.fad (.tmp 2) 7⟩,⟨some 10,none,.ixa 6 6 (.tmp 9) (.tmp 6)⟩,⟨some 11,none,.ixa 6 1 (.tmp 10) (.tmp 8)⟩,⟨some 12,none,.load none (.tmp 11)⟩,⟨some 4,none,.mov (.tmp 12)⟩])
 .ret))⟩
theorem comp150 : compF Cv 150 = some code150 := by kernel_rfl
def code151 : MF := ⟨6, [(2, none)], (.seq (.ops false [⟨some 1,none,.box (.tmp 0)⟩,⟨some 2,none,.mov (.cst (.bool false))⟩])
 (.seq (.ops false [⟨some 3,none,.fad (.tmp 1) 0⟩,⟨some 4,none,.load none (.tmp 3)⟩,⟨some 5,none,.bin .gtr (.tmp 4) (.cst (I 0))⟩,⟨some 2,none,.mov (.tmp 5)⟩])
 .ret))⟩
theorem comp151 : compF Cv 151 = some code151 := by kernel_rfl
def code152 : MF := ⟨8, [(2, none)], (.seq (.ops false [⟨some 1,none,.box (.tmp 0)⟩,⟨some 2,none,.mov (.cst (.bool false))⟩])
 (.seq (.ops false [⟨some 3,none,.fad (.tmp 1) 0⟩,⟨some 4,none,.load none (.tmp 3)⟩,⟨some 5,none,.fad (.tmp 1) 1⟩,⟨some 6,none,.load none (.tmp 5)⟩,⟨some 7,none,.bin .eql (.tmp 4) (.tmp 6)⟩,⟨some 2,none,.mov (.tmp 7)⟩])
 .ret))⟩
theorem comp152 : compF Cv 152 = some code152 := by kernel_rfl
@[simp] theorem imp_Cv {f : Nat} : Cv.imp f = (f == 82 || f == 107 || f == 108 || f == 118 || f == 120 || f == 128 || f == 130) := rfl
end Go.Ai
