/- This text shows the chapter's books. No conditions of its own. -/
import Derived.Test.YtckbmdbebmkbaaaDoorFnO
set_option linter.unusedSimpArgs false
set_option linter.unusedVariables false
set_option maxRecDepth 100000
namespace Go.Ai
open Go.Office (Ft Rl Us Nt Bk)
def fs0 : List Ft := [⟨1, 2, 2⟩, ⟨1, 1, 1⟩, ⟨2, 2, 1⟩]
def q00 : List Rl := [⟨1, 2, 1⟩, ⟨1, 1, 2⟩]
def q10 : List Rl := [⟨1, 2, 2⟩]
def exX (ns : List Nt) (nr : AV) : OB := { days := 4, first := 28, fs := fs0, r0 := q00, g0 := false, r1 := q10, g1 := true, ns := ns, fr := .sl 3 (fs0.map ftA) .full, q0 := .sl 3 (q00.map rlA) .full, q1 := .sl 3 (q10.map rlA) .full, nr := nr }
theorem exX_ok (ns : List Nt) (nr : AV) (h : IsRow 3 (ns.map ntA) nr) (hl : ns.length < 10) : (exX ns nr).Ok where
  fr := .inr (.inr ⟨.full, rfl, rfl⟩)
  q0 := .inr (.inr ⟨.full, rfl, rfl⟩)
  q1 := .inr (.inr ⟨.full, rfl, rfl⟩)
  nr := h
  lf := by show fs0.length < _; decide
  l0 := by show q00.length < _; decide
  l1 := by show q10.length < _; decide
  ln := by show ns.length < _; omega
theorem note_call (a b c : Int) : call Cv 17 [I a, I b, I c] = some (ntA ⟨a, b, c⟩) := by
  rw [call_run comp17 (Nat.le_of_ble_eq_true rfl)]
  simp (maxSteps := 10000000) [-List.getD_eq_getElem?_getD, code17, ntA, ntC, fillA]
theorem feast_call (a b c : Int) : call Cv 67 [I a, I b, I c] = some (ftA ⟨a, b, c⟩) := by
  have h1 := bounds_call a b
  rw [call_run comp67 (Nat.le_of_ble_eq_true rfl)]
  simp (maxSteps := 10000000) [-List.getD_eq_getElem?_getD, code67, ftA, ftC, fillA, h1]
theorem law_call (a b c : Int) : call Cv 68 [I a, I b, I c] = some (rlA ⟨a, b, c⟩) := by
  rw [call_run comp68 (Nat.le_of_ble_eq_true rfl)]
  simp (maxSteps := 10000000) [-List.getD_eq_getElem?_getD, code68, rlA, rlC, fillA]
theorem book_call (ns : List Nt) (r : AV) (hc : r.isCell = true) (hp : ∀ σ n, pur σ (n + 1) r = some (r, false)) : call Cv 41 [r] = some (exX ns r).av := by
  have h1 := feast_call 1 2 2
  have h2 := feast_call 1 1 1
  have h3 := feast_call 2 2 1
  have h4 := law_call 1 2 1
  have h5 := law_call 1 1 2
  have h6 := law_call 1 2 2
  have hcc : r.cells = [r] := by cases r <;> first | rfl | cases hc
  have f3 : ∀ a b c a' b' c' a'' b'' c'' : Int, fillE 3 true [(0, .agg [I a, I b, I c]), (1, .agg [I a', I b', I c']), (2, .agg [I a'', I b'', I c''])] [.agg [I 0, I 0, I 0], .agg [I 0, I 0, I 0], .agg [I 0, I 0, I 0]] = some [.agg [I a, I b, I c], .agg [I a', I b', I c'], .agg [I a'', I b'', I c'']] := fun a b c a' b' c' a'' b'' c'' => by simp [fillE, depth, AV.isAgg]
  have f2 : ∀ a b c a' b' c' : Int, fillE 3 true [(0, .agg [I a, I b, I c]), (1, .agg [I a', I b', I c'])] [.agg [I 0, I 0, I 0], .agg [I 0, I 0, I 0]] = some [.agg [I a, I b, I c], .agg [I a', I b', I c']] := fun a b c a' b' c' => by simp [fillE, depth, AV.isAgg]
  have f1 : ∀ a b c : Int, fillE 3 true [(0, .agg [I a, I b, I c])] [.agg [I 0, I 0, I 0]] = some [.agg [I a, I b, I c]] := fun a b c => by simp [fillE, depth, AV.isAgg]
  have r3 : List.replicate 3 (AV.agg [I 0, I 0, I 0]) = [.agg [I 0, I 0, I 0], .agg [I 0, I 0, I 0], .agg [I 0, I 0, I 0]] := rfl
  have r2 : List.replicate 2 (AV.agg [I 0, I 0, I 0]) = [.agg [I 0, I 0, I 0], .agg [I 0, I 0, I 0]] := rfl
  have r1 : List.replicate 1 (AV.agg [I 0, I 0, I 0]) = [.agg [I 0, I 0, I 0]] := rfl
  simp only [ftA, ftC, rlA, rlC] at h1 h2 h3 h4 h5 h6
  rw [call_run comp41 (Nat.le_of_ble_eq_true rfl)]
  simp (maxSteps := 10000000) [-List.getD_eq_getElem?_getD, code41, exX, OB.av, OB.cells, fs0, q00, q10, ftA, ftC, rlA, rlC, h1, h2, h3, h4, h5, h6, f1, f2, f3, r1, r2, r3, hp, fillA, hc, hcc]
def ownX : OB := exX [] .nils
def h1L : List Nt := [⟨0, 3, 2⟩]
def heardX : OB := exX h1L (.sl 3 (h1L.map ntA) .full)
def h2L : List Nt := [⟨0, 3, 2⟩, ⟨1, 1, 0⟩]
def tornX : OB := exX h2L (.sl 3 (h2L.map ntA) .full)
theorem ownX_ok : ownX.Ok := exX_ok _ _ (.inl ⟨rfl, rfl⟩) (by decide)
theorem heardX_ok : heardX.Ok := exX_ok _ _ (.inr (.inr ⟨.full, rfl, rfl⟩)) (by decide)
theorem tornX_ok : tornX.Ok := exX_ok _ _ (.inr (.inr ⟨.full, rfl, rfl⟩)) (by decide)
theorem own_call : call Cv 40 [] = some ownX.av := by
  have h := book_call [] .nils rfl (fun _ _ => rfl)
  rw [call_run comp40 (Nat.le_of_ble_eq_true rfl)]
  simp (maxSteps := 10000000) [-List.getD_eq_getElem?_getD, code40, ownX, h, exX, OB.av, OB.cells, fs0, q00, q10]
theorem heard_call : call Cv 45 [] = some heardX.av := by
  have h := book_call h1L (.sl 3 (h1L.map ntA) .full) rfl (fun _ _ => rfl)
  have h1 := note_call 0 3 2
  have hf : fillE 3 true [(0, .agg [I 0, I 3, I 2])] [.agg [I 0, I 0, I 0]] = some [.agg [I 0, I 3, I 2]] := by
    simp [fillE, depth, AV.isAgg]
  have hr : List.replicate 1 (AV.agg [I 0, I 0, I 0]) = [.agg [I 0, I 0, I 0]] := rfl
  have e : h1L.map ntA = [.agg [I 0, I 3, I 2]] := rfl
  simp only [ntA, ntC] at h1
  rw [e] at h
  rw [call_run comp45 (Nat.le_of_ble_eq_true rfl)]
  simp (maxSteps := 10000000) [-List.getD_eq_getElem?_getD, code45, heardX, e, h, h1, hf, hr, exX, OB.av, OB.cells, fs0, q00, q10]
theorem torn_call : call Cv 44 [] = some tornX.av := by
  have h := book_call h2L (.sl 3 (h2L.map ntA) .full) rfl (fun _ _ => rfl)
  have h1 := note_call 0 3 2
  have h2 := note_call 1 1 0
  have hf : fillE 3 true [(0, .agg [I 0, I 3, I 2]), (1, .agg [I 1, I 1, I 0])] [.agg [I 0, I 0, I 0], .agg [I 0, I 0, I 0]] = some [.agg [I 0, I 3, I 2], .agg [I 1, I 1, I 0]] := by
    simp [fillE, depth, AV.isAgg]
  have hr : List.replicate 2 (AV.agg [I 0, I 0, I 0]) = [.agg [I 0, I 0, I 0], .agg [I 0, I 0, I 0]] := rfl
  have e : h2L.map ntA = [.agg [I 0, I 3, I 2], .agg [I 1, I 1, I 0]] := rfl
  simp only [ntA, ntC] at h1 h2
  rw [e] at h
  rw [call_run comp44 (Nat.le_of_ble_eq_true rfl)]
  simp (maxSteps := 10000000) [-List.getD_eq_getElem?_getD, code44, tornX, e, h, h1, h2, hf, hr, exX, OB.av, OB.cells, fs0, q00, q10]
end Go.Ai

set_option maxRecDepth 100000
namespace Go.Ai
open Go.Office (Ft Rl Us Nt Bk vote allI allI_from)
theorem ex1 : errQ heardX (featI heardX 0) = 0 ∧ hullE (heardX.bk.daysL 0) = 0 ∧ hullP (heardX.bk.daysL 0) = (2, 2) := by decide +kernel
theorem ex2 : errQ ownX (spotB ownX 0 3) = 0 ∧ allI (ownX.bk.chiefsL 0 3) = [-1, 2] := by
  refine ⟨by decide +kernel, ?_⟩
  rw [allI_from (by decide +kernel)]
  decide +kernel
theorem ex3 : errQ ownX (useI ownX 0 1) = 0 ∧ hullE (ownX.bk.fallsL 0 1) = 0 ∧ hullP (ownX.bk.fallsL 0 1) = (1, 2) ∧ keptI ownX 0 1 = 2 := by decide +kernel
theorem ex4 : errQ ownX (spotB ownX 1 3) = 0 ∧ allI (ownX.bk.psalmsL 1 3) = [29] := by
  refine ⟨by decide +kernel, ?_⟩
  rw [allI_from (by decide +kernel)]
  decide +kernel
theorem ex5 : errQ ownX (dayI ownX 1) = 0 ∧ agreeI ownX 1 = 1 := by decide +kernel
theorem ex6 : errQ ownX true = 0 ∧ ownX.bk.part = some (1, 0, 0) := by decide +kernel
theorem ex7 : errQ ownX (noteB ownX ⟨1, 2, 2⟩) = 0 ∧ fitsV ownX ⟨1, 2, 2⟩ = true := by decide +kernel
theorem ex8 : wrongA tornX = [0] ∧ checkB tornX = true := by decide +kernel
theorem ex9 : checkB ownX = true ∧ ownX.bk.tr.isEmpty = false := by decide +kernel
theorem chanted_call : call Cv 13 [] = some (.bool true) := by
  have o1 := own_call
  have o2 := heard_call
  have o3 := torn_call
  have c1 := Day_call heardX heardX_ok 0
  obtain ⟨r2, g2, c2⟩ := Chief_call ownX ownX_ok 0 3
  have c3 := Falls_call ownX ownX_ok 0 1
  have c4 := Kept_call ownX ownX_ok 0 1
  obtain ⟨r5, g5, c5⟩ := Psalm_call ownX ownX_ok 1 3
  have c6 := Agree_call ownX ownX_ok 1
  have c7 := Part_call ownX ownX_ok
  have c8 := Fits_call ownX ownX_ok ⟨1, 2, 2⟩
  obtain ⟨r9, g9, c9⟩ := Wrong_call tornX tornX_ok
  have c10 := Right_call ownX ownX_ok
  have e0 : (0 : Int).toNat = 0 := rfl
  have e1 : (1 : Int).toNat = 1 := rfl
  have e3 : (3 : Int).toNat = 3 := rfl
  simp only [dayR, fallsR, partR, pair3, e0, e1, e3, ex1.1, ex1.2.1, ex1.2.2, ex2.1, ex2.2, ex3.1, ex3.2.1, ex3.2.2.1, ex3.2.2.2, ex4.1, ex4.2, ex5.1, ex5.2, ex6.1, ex6.2, ex7.1, ex7.2, ex8.1, ex8.2, ex9.1, ex9.2, if_true, Bool.and_self, Bool.not_false] at c1 c2 c3 c4 c5 c6 c7 c8 c9 c10 g2 g5 g9
  have b1 := bounds_call 1 2
  have b2 := only_call 2
  have n1 := note_call 1 2 2
  have q2 := equal_call [-1, 2] [-1, 2] r2 (.sl 1 (ints [-1, 2]) .full) g2 (.inr (.inr ⟨.full, rfl, rfl⟩)) (by decide) (by decide)
  have q5 := equal_call [29] [29] r5 (.sl 1 (ints [29]) .full) g5 (.inr (.inr ⟨.full, rfl, rfl⟩)) (by decide) (by decide)
  have q9 := equal_call [0] [0] r9 (.sl 1 (ints [0]) .full) g9 (.inr (.inr ⟨.full, rfl, rfl⟩)) (by decide) (by decide)
  have p2 := g2.pur
  have p5 := g5.pur
  have p9 := g9.pur
  have m1 : ∀ σ n, pur σ (n + 4) ownX.av = some (ownX.av, false) := fun _ _ => rfl
  have m2 : ∀ σ n, pur σ (n + 4) heardX.av = some (heardX.av, false) := fun _ _ => rfl
  have m3 : ∀ σ n, pur σ (n + 4) tornX.av = some (tornX.av, false) := fun _ _ => rfl
  have m4 : ∀ σ n a, pur σ (n + 4) (ntA a) = some (ntA a, false) := fun _ _ _ => rfl
  have hfe1 : ∀ n : Int, fillE 1 false [(0, I n)] [I 0] = some [I n] := fun n => by simp [fillE, depth, AV.isAgg]
  have hrp1 : List.replicate 1 (I 0) = [I 0] := rfl
  have hfe2 : ∀ n m : Int, fillE 1 false [(0, I n), (1, I m)] [I 0, I 0] = some [I n, I m] := fun n m => by simp [fillE, depth, AV.isAgg]
  have hrp2 : List.replicate 2 (I 0) = [I 0, I 0] := rfl
  have i1 : ints [-1, 2] = [I (-1), I 2] := rfl
  have i2 : ints [29] = [I 29] := rfl
  have i3 : ints [0] = [I 0] := rfl
  simp only [decide_true, i1, i2, i3] at q2 q5 q9
  rw [call_run comp13 (Nat.le_of_ble_eq_true rfl)]
  simp (maxSteps := 10000000) [-List.getD_eq_getElem?_getD, code13, o1, o2, o3, c1, c2, c3, c4, c5, c6, c7, c8, c9, c10, b1, b2, n1, q2, q5, q9, m1, m2, m3, m4, p2, p5, p9, hfe1, hrp1, hfe2, hrp2, eqCells]
end Go.Ai
