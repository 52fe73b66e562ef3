/- This text shows the chapter's books. No conditions of its own. -/
import Derived.Test.YtknklhodhkohlaaDoorFnL
import Derived.Test.YtknklhodhkohlaaDoorFnK
set_option linter.unusedSimpArgs false
set_option linter.unusedVariables false
set_option maxRecDepth 100000
namespace Go.Ai
open Go.Cold (Mv Hd Bk Tr)
def exX (ms : List Mv) (hs : List Hd) (mr hr : AV) : CB := { beds := 4, days := 5, begins := 3, until_ := 0, oL := 1, oH := 2, gL := 1, gH := 1, ms := ms, rooms := 2, hs := hs, mr := mr, hr := hr }
theorem hearing_call (a b : Int) (c : Bool) : call Cv 32 [I a, I b, .bool c] = some (.agg (hdC ⟨a, b, c⟩)) := by
  rw [call_run comp32 (Nat.le_of_ble_eq_true rfl)]
  simp (maxSteps := 10000000) [-List.getD_eq_getElem?_getD, code32, hdC, fillA]
theorem book_call (r : AV) (hc : r.isCell = true) (hp : ∀ σ n, pur σ (n + 1) r = some (r, false)) : call Cv 47 [r] = some (exX [] [] .nils r).av := by
  have h1 := bounds_call 1 2
  have h2 := only_call 1
  have hcc : r.cells = [r] := by cases r <;> first | rfl | cases hc
  rw [call_run comp47 (Nat.le_of_ble_eq_true rfl)]
  simp (maxSteps := 10000000) [-List.getD_eq_getElem?_getD, code47, exX, CB.av, CB.cells, h1, h2, hp, fillA, hc, hcc]
def ownX : CB := exX [] [] .nils .nils
def h1L : List Hd := [⟨0, 1, true⟩]
def heardX : CB := exX [] h1L .nils (.sl 3 [.agg (hdC ⟨0, 1, true⟩)] .full)
def h2L : List Hd := [⟨0, 1, true⟩, ⟨2, 2, true⟩]
def tornX : CB := exX [] h2L .nils (.sl 3 [.agg (hdC ⟨0, 1, true⟩), .agg (hdC ⟨2, 2, true⟩)] .full)
def movedX : CB := exX [⟨1, 1⟩] [] (.sl 2 [.agg (mvC ⟨1, 1⟩)] .full) .nils
theorem ownX_ok : ownX.Ok := ⟨.inl ⟨rfl, rfl⟩, .inl ⟨rfl, rfl⟩, by decide, by decide⟩
theorem heardX_ok : heardX.Ok := ⟨.inl ⟨rfl, rfl⟩, .inr (.inr ⟨.full, rfl, rfl⟩), by decide, by decide⟩
theorem tornX_ok : tornX.Ok := ⟨.inl ⟨rfl, rfl⟩, .inr (.inr ⟨.full, rfl, rfl⟩), by decide, by decide⟩
theorem movedX_ok : movedX.Ok := ⟨.inr (.inr ⟨.full, rfl, rfl⟩), .inl ⟨rfl, rfl⟩, by decide, by decide⟩
theorem own_call : call Cv 45 [] = some ownX.av := by
  have h := book_call .nils rfl (fun _ _ => rfl)
  rw [call_run comp45 (Nat.le_of_ble_eq_true rfl)]
  simp (maxSteps := 10000000) [-List.getD_eq_getElem?_getD, code45, ownX, h, exX, CB.av, CB.cells]
theorem heard_call : call Cv 52 [] = some heardX.av := by
  have h := book_call (.sl 3 [.agg (hdC ⟨0, 1, true⟩)] .full) rfl (fun _ _ => rfl)
  have h1 := hearing_call 0 1 true
  have hf : fillE 3 true [(0, .agg (hdC ⟨0, 1, true⟩))] [.agg [I 0, I 0, .bool false]] = some [.agg (hdC ⟨0, 1, true⟩)] := by
    simp [fillE, depth, hdC, AV.isAgg]
  have hr : List.replicate 1 (AV.agg [I 0, I 0, .bool false]) = [.agg [I 0, I 0, .bool false]] := rfl
  simp only [hdC] at h h1 hf
  rw [call_run comp52 (Nat.le_of_ble_eq_true rfl)]
  simp (maxSteps := 10000000) [-List.getD_eq_getElem?_getD, code52, heardX, h, h1, hf, hr, exX, CB.av, CB.cells, hdC]
theorem torn_call : call Cv 51 [] = some tornX.av := by
  have h := book_call (.sl 3 [.agg (hdC ⟨0, 1, true⟩), .agg (hdC ⟨2, 2, true⟩)] .full) rfl (fun _ _ => rfl)
  have h1 := hearing_call 0 1 true
  have h2 := hearing_call 2 2 true
  have hf : fillE 3 true [(0, .agg (hdC ⟨0, 1, true⟩)), (1, .agg (hdC ⟨2, 2, true⟩))] [.agg [I 0, I 0, .bool false], .agg [I 0, I 0, .bool false]] = some [.agg (hdC ⟨0, 1, true⟩), .agg (hdC ⟨2, 2, true⟩)] := by
    simp [fillE, depth, hdC, AV.isAgg]
  have hr : List.replicate 2 (AV.agg [I 0, I 0, .bool false]) = [.agg [I 0, I 0, .bool false], .agg [I 0, I 0, .bool false]] := rfl
  simp only [hdC] at h h1 h2 hf
  rw [call_run comp51 (Nat.le_of_ble_eq_true rfl)]
  simp (maxSteps := 10000000) [-List.getD_eq_getElem?_getD, code51, tornX, h, h1, h2, hf, hr, exX, CB.av, CB.cells, hdC]
theorem moved_call : call Cv 46 [] = some movedX.av := by
  have h := own_call
  have hf : fillE 2 true [(0, .agg [I 1, I 1])] [.agg [I 0, I 0]] = some [.agg [I 1, I 1]] := by
    simp [fillE, depth, AV.isAgg]
  have hr : List.replicate 1 (AV.agg [I 0, I 0]) = [.agg [I 0, I 0]] := rfl
  simp only [ownX, exX, CB.av, CB.cells] at h
  rw [call_run comp46 (Nat.le_of_ble_eq_true rfl)]
  simp (maxSteps := 10000000) [-List.getD_eq_getElem?_getD, code46, movedX, h, hf, hr, exX, CB.av, CB.cells, mvC]
end Go.Ai

set_option maxRecDepth 100000
namespace Go.Ai
open Go.Cold (Mv Hd Bk Tr)
theorem ex1 : errQ ownX (spotB ownX 2 1) = 0 ∧ ownX.bk.illV 2 1 = 1 := by decide +kernel
theorem ex2 : errQ heardX (spotB heardX 0 1) = 0 ∧ heardX.bk.coughV 0 1 = 2 := by decide +kernel
theorem ex3 : errQ ownX (bedB ownX 3) = 0 ∧ ownX.bk.caughtL 3 ≠ [] ∧ Go.Cold.ends (ownX.bk.caughtL 3) = (2, 3) := by decide +kernel
theorem ex4 : errQ heardX true = 0 ∧ heardX.bk.fromL = [0] := by decide +kernel
theorem ex5 : errQ ownX (lie 0 0 1) = 0 ∧ ownX.bk.takesL 0 ≠ [] ∧ Go.Cold.ends (ownX.bk.takesL 0) = (1, 2) := by decide +kernel
theorem ex6 : errQ movedX true = 0 ∧ movedX.bk.cleanL = [2, 3] := by decide +kernel
theorem ex7 : apartV ownX 1 = [1] ∧ apartE ownX 1 = 0 := by decide +kernel
theorem ex8 : errQ ownX (spotB ownX 3 3) = 0 ∧ ownX.bk.fitsV ⟨3, 3, true⟩ = true := by decide +kernel
theorem ex9 : wrongA tornX = [0] ∧ checkB tornX = true := by decide +kernel
theorem ex10 : checkB ownX = true ∧ ownX.bk.tr.isEmpty = false := by decide +kernel
theorem ex11 : errQ movedX (bedB movedX 2) = 0 ∧ movedX.bk.caughtL 2 = [] := by decide +kernel
theorem sneezed_call : call Cv 14 [] = some (.bool true) := by
  have o1 := own_call
  have o2 := heard_call
  have o3 := torn_call
  have o4 := moved_call
  have c1 := Ill_call ownX ownX_ok 2 1
  have c2 := Coughs_call heardX heardX_ok 0 1
  have c3 := Caught_call ownX ownX_ok 3
  obtain ⟨r4, g4, c4⟩ := From_call heardX heardX_ok
  have c5 := Takes_call ownX ownX_ok 0
  obtain ⟨r6, g6, c6⟩ := Clean_call movedX movedX_ok
  obtain ⟨r7, g7, c7⟩ := Apart_call ownX ownX_ok 1
  have c8 := Fits_call ownX ownX_ok ⟨3, 3, true⟩
  obtain ⟨r9, g9, c9⟩ := Wrong_call tornX tornX_ok
  have c10 := Right_call ownX ownX_ok
  have c11 := Caught_call movedX movedX_ok 2
  have e2 : (2 : Int).toNat = 2 := rfl
  have e0 : (0 : Int).toNat = 0 := rfl
  have e3 : (3 : Int).toNat = 3 := rfl
  simp only [e2, e0, e3, ex1.1, ex1.2, ex2.1, ex2.2, ex3.1, ex4.1, ex4.2, ex5.1, ex6.1, ex6.2, ex7.1, ex7.2, ex8.1, ex8.2, ex9.1, ex9.2, ex10.1, ex10.2, ex11.1, ex11.2, if_true, errL, spanV, decide_true, Bool.and_self, Bool.not_false] at c1 c2 c3 c4 c5 c6 c7 c8 c9 c10 c11 g4 g6 g7 g9
  rw [if_neg ex3.2.1, if_neg ex3.2.1, ex3.2.2] at c3
  rw [if_neg ex5.2.1, ex5.2.2] at c5
  have b1 := bounds_call 2 3
  have b2 := bounds_call 1 2
  have q4 := equal_call [0] [0] r4 (.sl 1 (ints [0]) .full) g4 (.inr (.inr ⟨.full, rfl, rfl⟩)) (by decide) (by decide)
  have q6 := equal_call [2, 3] [2, 3] r6 (.sl 1 (ints [2, 3]) .full) g6 (.inr (.inr ⟨.full, rfl, rfl⟩)) (by decide) (by decide)
  have q7 := equal_call [1] [1] r7 (.sl 1 (ints [1]) .full) g7 (.inr (.inr ⟨.full, rfl, rfl⟩)) (by decide) (by decide)
  have q9 := equal_call [0] [0] r9 (.sl 1 (ints [0]) .full) g9 (.inr (.inr ⟨.full, rfl, rfl⟩)) (by decide) (by decide)
  have h3 := hearing_call 3 3 true
  have p4 := g4.pur
  have p6 := g6.pur
  have p7 := g7.pur
  have p9 := g9.pur
  have u4 := g4.under
  have k4 := g4.cell
  have n1 : ∀ σ n, pur σ (n + 2) ownX.av = some (ownX.av, false) := fun _ _ => rfl
  have n2 : ∀ σ n, pur σ (n + 3) heardX.av = some (heardX.av, false) := fun _ _ => rfl
  have n3 : ∀ σ n, pur σ (n + 3) tornX.av = some (tornX.av, false) := fun _ _ => rfl
  have n4 : ∀ σ n, pur σ (n + 3) movedX.av = some (movedX.av, false) := fun _ _ => rfl
  have hfe1 : ∀ n : Int, fillE 1 false [(0, I n)] [I 0] = some [I n] := fun n => by simp [fillE, depth, AV.isAgg]
  have hrp1 : List.replicate 1 (I 0) = [I 0] := rfl
  have hfe2 : ∀ n m : Int, fillE 1 false [(0, I n), (1, I m)] [I 0, I 0] = some [I n, I m] := fun n m => by simp [fillE, depth, AV.isAgg]
  have hrp2 : List.replicate 2 (I 0) = [I 0, I 0] := rfl
  have i1 : ints [0] = [I 0] := rfl
  have i2 : ints [2, 3] = [I 2, I 3] := rfl
  have i3 : ints [1] = [I 1] := rfl
  simp only [decide_true, i1, i2, i3] at q4 q6 q7 q9
  simp only [hdC] at h3 c8
  rw [call_run comp14 (Nat.le_of_ble_eq_true rfl)]
  simp (maxSteps := 10000000) [-List.getD_eq_getElem?_getD, code14, o1, o2, o3, o4, c1, c2, c3, c4, c5, c6, c7, c8, c9, c10, c11, b1, b2, q4, q6, q7, q9, h3, n1, n2, n3, n4, p4, p6, p7, p9, hfe1, hrp1, hfe2, hrp2, eqCells]
end Go.Ai
