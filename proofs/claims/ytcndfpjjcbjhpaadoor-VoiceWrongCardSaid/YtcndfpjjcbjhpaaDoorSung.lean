/- This text shows the chapter's examples. No conditions of its own. -/
import Derived.Test.YtcndfpjjcbjhpaaDoorRef
import Derived.KernelRfl
set_option linter.unusedSimpArgs false
set_option linter.unusedVariables false
set_option maxRecDepth 100000
set_option linter.unusedSimpArgs false
set_option linter.unusedVariables false
namespace Go.Ai
def boy0 : Boy := ⟨⟨5, 6⟩, ⟨20, 21⟩, ⟨1, 2⟩, ⟨2, 3⟩, 1, ⟨3, 5⟩⟩
def boy1 : Boy := ⟨⟨8, 8⟩, ⟨18, 18⟩, ⟨0, 1⟩, ⟨1, 1⟩, 0, ⟨6, 7⟩⟩
def bookB (l : List Trial) (k : RK) : Book := ⟨[boy0, boy1], 4, l, .full, k⟩
def ownB : Book := bookB [] .nil
def heardB : Book := bookB [⟨0, 3, 15, 0⟩] .full
def tornB : Book := bookB [⟨0, 3, 15, 0⟩, ⟨0, 3, 20, 1⟩] .full
theorem bookB_ok (l : List Trial) (k : RK) (h : k = .nil → l = []) (hl : l.length < 1000) : (bookB l k).Ok where
  boys h := by cases h
  trials := h
  blen := by simp [bookB]
  tlen := by simp [bookB]; omega
theorem book_call (l : List Trial) (k : RK) : call Cv 57 [rowV 4 (l.map Trial.av) k] = some (bookB l k).av := by
  have h1 : ∀ a b, call Cv 51 [I a, I b] = some (.agg [I a, I b]) := bounds_call
  have h2 : ∀ a, call Cv 47 [I a] = some (.agg [I a, I a]) := only_call
  rw [call_def comp57]
  simp [code57, h1, h2, fillA, fillE, AV.isAgg, Book.av, Book.cells, bookB, boy0, boy1, Boy.av, Boy.cells]
  rfl
theorem own_call : call Cv 56 [] = some ownB.av := by
  have h := book_call [] .nil
  simp only [List.map_nil] at h
  rw [show rowV 4 [] .nil = .nils from rfl] at h
  rw [call_def comp56]
  simp [code56, h, Book.av, Book.cells, ownB]
theorem heard_call : call Cv 59 [] = some heardB.av := by
  have h := book_call [⟨0, 3, 15, 0⟩] .full
  rw [show rowV 4 (List.map Trial.av [⟨0, 3, 15, 0⟩]) .full = .sl 4 [.agg [I 0, I 3, I 15, I 0]] .full from rfl] at h
  rw [call_def comp59]
  simp [code59, h, Book.av, Book.cells, heardB, fillA, fillE, AV.isAgg]
theorem torn_call : call Cv 58 [] = some tornB.av := by
  have h := book_call [⟨0, 3, 15, 0⟩, ⟨0, 3, 20, 1⟩] .full
  rw [show rowV 4 (List.map Trial.av [⟨0, 3, 15, 0⟩, ⟨0, 3, 20, 1⟩]) .full = .sl 4 [.agg [I 0, I 3, I 15, I 0], .agg [I 0, I 3, I 20, I 1]] .full from rfl] at h
  rw [call_def comp58]
  simp [code58, h, Book.av, Book.cells, tornB, fillA, fillE, AV.isAgg]
theorem own_ok : ownB.Ok := bookB_ok _ _ (fun _ => rfl) (by decide)
theorem heard_ok : heardB.Ok := bookB_ok _ _ (fun h => by cases h) (by decide)
theorem torn_ok : tornB.Ok := bookB_ok _ _ (fun h => by cases h) (by decide)
theorem fullV_row (l : List Int) : IsRow 1 (ints l) (fullV l) := by
  unfold fullV
  split
  · rename_i h; exact .inl ⟨rfl, by rw [h]; rfl⟩
  · exact .inr ⟨.full, rfl, rfl⟩
theorem sung_call : call Cv 25 [] = some (.bool true) := by
  have c1 : call Cv 19 [ownB.av, I 0] = some (.tup [.agg [I 5, I 6], I 0]) := by rw [Lowest_call _ own_ok]; kernel_rfl
  have c2 : call Cv 23 [ownB.av, I 0, I 3] = some (.tup [.agg [I 21, I 27], I 0]) := by rw [Highest_call _ own_ok]; kernel_rfl
  have c3 : call Cv 21 [heardB.av, I 0] = some (.tup [.agg [I 3, I 3], I 0]) := by rw [Breaks_call _ heard_ok]; kernel_rfl
  have c4 : call Cv 26 [ownB.av, I 0, I 0, I 20] = some (.tup [I 2, I 0]) := by rw [Sings_call _ own_ok]; kernel_rfl
  have c5 : call Cv 28 [ownB.av, I 3, I 18] = some (.tup [.sl 1 [I 1] .full, I 0]) := by rw [Surely_call _ own_ok]; kernel_rfl
  have c6 : call Cv 31 [heardB.av, I 3] = some (.tup [.sl 1 [I 0] .full, I 0]) := by rw [Must_call _ heard_ok]; kernel_rfl
  have c7 : call Cv 33 [heardB.av, I 0, I 3, .agg [I 10, I 18]] = some (.tup [I 1, I 0]) := by
    have := Heir_call heardB heard_ok 0 3 ⟨10, 18⟩
    have e : some (AV.tup [I (heirV heardB 0 3 ⟨10, 18⟩), I (heirE heardB 0 3 ⟨10, 18⟩)]) = some (.tup [I 1, I 0]) := by kernel_rfl
    exact this.trans e
  have c8 : call Cv 35 [ownB.av, .agg [I 0, I 1, I 23, I 1]] = some (.tup [.bool true, I 0]) := by
    have := Fits_call ownB own_ok ⟨0, 1, 23, 1⟩
    have e : some (AV.tup [.bool (fitsB ownB ⟨0, 1, 23, 1⟩), I (askE ownB (trialOk ownB ⟨0, 1, 23, 1⟩))]) = some (.tup [.bool true, I 0]) := by kernel_rfl
    exact this.trans e
  obtain ⟨y, hy, c9⟩ := Wrong_call tornB torn_ok
  have hw : wrongL tornB = [0] := by kernel_rfl
  have hc : (if checkOk tornB = true then (0 : Int) else 20) = 0 := by kernel_rfl
  rw [hw] at hy
  rw [hc] at c9
  have c10 : call Cv 15 [ownB.av] = some (.tup [.bool true, I 0]) := by rw [Right_call _ own_ok]; kernel_rfl
  have q1 : ∀ l : List Int, IsRow 1 (ints l) (.sl 1 (ints l) .full) := fun l => .inr ⟨.full, rfl, rfl⟩
  have d1 : call Cv 30 [.sl 1 [I 1] .full, .sl 1 [I 1] .full] = some (.bool true) := equal_call [1] [1] _ _ (q1 _) (q1 _) (by decide) (by decide)
  have d2 : call Cv 30 [.sl 1 [I 0] .full, .sl 1 [I 0] .full] = some (.bool true) := equal_call [0] [0] _ _ (q1 _) (q1 _) (by decide) (by decide)
  have d3 : call Cv 30 [y, .sl 1 [I 0] .full] = some (.bool true) := equal_call [0] [0] _ _ hy (q1 _) (by decide) (by decide)
  have b1 : ∀ a b, call Cv 51 [I a, I b] = some (.agg [I a, I b]) := bounds_call
  have b2 : ∀ a, call Cv 47 [I a] = some (.agg [I a, I a]) := only_call
  have p1 : ∀ σ, pur σ 12 ownB.av = some (ownB.av, false) := fun σ => by simp [Book.av, Book.cells]
  have p2 : ∀ σ, pur σ 12 heardB.av = some (heardB.av, false) := fun σ => by simp [Book.av, Book.cells]
  have p3 : ∀ σ, pur σ 12 tornB.av = some (tornB.av, false) := fun σ => by simp [Book.av, Book.cells]
  have p4 := hy.pur
  have k1 := own_call
  have k2 := heard_call
  have k3 := torn_call
  generalize ownB.av = o at *
  generalize heardB.av = h at *
  generalize tornB.av = t at *
  rw [call_def comp25]
  simp (maxSteps := 10000000) [code25, k1, k2, k3, c1, c2, c3, c4, c5, c6, c7, c8, c9, c10, d1, d2, d3, b1, b2, p1, p2, p3, p4, fillE, fillA, AV.isAgg, eqCells]
end Go.Ai
