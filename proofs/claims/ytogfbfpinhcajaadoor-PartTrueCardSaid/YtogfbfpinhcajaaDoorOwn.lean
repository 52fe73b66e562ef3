/- This text shows the chapter's examples. No conditions of its own. -/
import Derived.Test.YtogfbfpinhcajaaDoorFnE
import Derived.KernelRfl
set_option linter.unusedSimpArgs false
set_option linter.unusedVariables false
set_option maxRecDepth 100000
set_option linter.unusedSimpArgs false
set_option linter.unusedVariables false
/-! The chapter's examples. -/
namespace Go.Ai
open Go.Part (Sp Cp)
def cpB (v : Int) (l : List Int) : CpV := ⟨⟨v, l⟩, .sl 1 (ints l) .full⟩
def spB : List Sp := [⟨0, 2⟩, ⟨3, 5⟩]
def bookB (more : List CpV) (c : Cap) : PB := ⟨3, spB, 1, 28, 16, cpB 0 [0, 1, 2] :: more, .sl 2 (spB.map spA) .full, .sl 2 ((cpB 0 [0, 1, 2] :: more).map CpV.av) c⟩
def ownB : PB := bookB [] .full
def foundB : PB := bookB [cpB 1 [3, 3, 4]] .no
def tornB : PB := bookB [cpB 1 [4, 5, 5], cpB 0 [0, 1, 2]] .no
theorem cpB_ok (v : Int) (l : List Int) (h : l.length < 10) : (cpB v l).Ok := ⟨.inr (.inr ⟨.full, rfl, rfl⟩), by show l.length < _; omega⟩
theorem bookB_ok (more : List CpV) (c : Cap) (hc : c.pure = c) (hm : ∀ d ∈ more, d.Ok) (hl : more.length < 10) : (bookB more c).Ok where
  vrow := .inr (.inr ⟨.full, rfl, rfl⟩)
  crow := .inr (.inr ⟨c, hc, rfl⟩)
  lv := by show spB.length < _; decide
  lc := by show (cpB 0 [0, 1, 2] :: more).length < _; simp; omega
  cp d hd := by
    rcases List.mem_cons.1 hd with rfl | hd
    · exact cpB_ok _ _ (by decide)
    · exact hm d hd
theorem own_ok : ownB.Ok := bookB_ok _ _ rfl (by simp) (by decide)
theorem found_ok : foundB.Ok := bookB_ok _ _ rfl (by intro d hd; simp only [List.mem_singleton] at hd; subst hd; exact cpB_ok _ _ (by decide)) (by decide)
theorem torn_ok : tornB.Ok := bookB_ok _ _ rfl (by
  intro d hd
  simp only [List.mem_cons, List.not_mem_nil, or_false] at hd
  rcases hd with rfl | rfl <;> exact cpB_ok _ _ (by decide)) (by decide)
theorem scribe_call (v : Int) (l : List Int) (r : AV) (hc : r.isCell = true) (hcs : r.cells = [r]) (hp : ∀ σ n, pur σ (n + 1) r = some (r, false)) : call Cv 46 [I v, r] = some (.agg [I v, r]) := by
  rw [call_run comp46 (Nat.le_of_ble_eq_true rfl)]
  simp (maxSteps := 10000000) [-List.getD_eq_getElem?_getD, code46, fillA, setAt, hc, hcs, hp]
theorem scribe_full (v : Int) (es : List AV) : call Cv 46 [I v, .sl 1 es .full] = some (.agg [I v, .sl 1 es .full]) := scribe_call v [] _ rfl rfl (fun _ _ => rfl)
theorem own_call : call Cv 55 [] = some ownB.av := by
  have h2 := bounds_call
  have h : call Cv 56 [.nils] = some ownB.av := by
    rw [call_run comp56 (Nat.le_of_ble_eq_true rfl)]
    simp (maxSteps := 10000000) [-List.getD_eq_getElem?_getD, code56, fillA, fillE, setAt, h2, scribe_full, AV.isAgg, appA, elemsA, isSl, PB.av, PB.cells, ownB, bookB, spB, cpB, CpV.av, spA, ints]
  simp only [PB.av, PB.cells, ownB, bookB, spB, cpB, CpV.av, spA, ints, List.map_cons, List.map_nil] at h ⊢
  rw [call_run comp55 (Nat.le_of_ble_eq_true rfl)]
  simp (maxSteps := 10000000) [-List.getD_eq_getElem?_getD, code55, h, setAt]
theorem found_call : call Cv 60 [] = some foundB.av := by
  have h2 := bounds_call
  have h : call Cv 56 [.sl 2 [(cpB 1 [3, 3, 4]).av] .full] = some foundB.av := by
    rw [call_run comp56 (Nat.le_of_ble_eq_true rfl)]
    simp (maxSteps := 10000000) [-List.getD_eq_getElem?_getD, code56, fillA, fillE, setAt, h2, scribe_full, AV.isAgg, appA, elemsA, isSl, grown, PB.av, PB.cells, foundB, bookB, spB, cpB, CpV.av, spA, ints]
  simp only [PB.av, PB.cells, foundB, bookB, spB, cpB, CpV.av, spA, ints, List.map_cons, List.map_nil] at h ⊢
  rw [call_run comp60 (Nat.le_of_ble_eq_true rfl)]
  simp (maxSteps := 10000000) [-List.getD_eq_getElem?_getD, code60, h, setAt, fillE, scribe_full, AV.isAgg]
theorem torn_call : call Cv 59 [] = some tornB.av := by
  have h2 := bounds_call
  have h : call Cv 56 [.sl 2 [(cpB 1 [4, 5, 5]).av, (cpB 0 [0, 1, 2]).av] .full] = some tornB.av := by
    rw [call_run comp56 (Nat.le_of_ble_eq_true rfl)]
    simp (maxSteps := 10000000) [-List.getD_eq_getElem?_getD, code56, fillA, fillE, setAt, h2, scribe_full, AV.isAgg, appA, elemsA, isSl, grown, PB.av, PB.cells, tornB, bookB, spB, cpB, CpV.av, spA, ints]
  simp only [PB.av, PB.cells, tornB, bookB, spB, cpB, CpV.av, spA, ints, List.map_cons, List.map_nil] at h ⊢
  rw [call_run comp59 (Nat.le_of_ble_eq_true rfl)]
  simp (maxSteps := 10000000) [-List.getD_eq_getElem?_getD, code59, h, setAt, fillE, scribe_full, AV.isAgg]
theorem noted_call : call Cv 26 [] = some (.bool true) := by
  have c1 : call Cv 19 [ownB.av] = some (.tup [I 6, I 0]) := by rw [ways_call _ own_ok]; kernel_rfl
  have c2 : call Cv 21 [ownB.av, I 1, I 2] = some (.tup [rowF [4, 5], I 0]) := by rw [notesP_call _ own_ok]; kernel_rfl
  have c3 : call Cv 24 [foundB.av, I 1] = some (.tup [rowF [3, 3, 4], I 0]) := by rw [lineP_call _ found_ok]; kernel_rfl
  have c4 : call Cv 27 [ownB.av] = some (.tup [I 1, I 0, I 0]) := by rw [firstP_call _ own_ok]; kernel_rfl
  have c5 : call Cv 29 [ownB.av] = some (.tup [I 1, I 0, I 0]) := by rw [askP_call _ own_ok]; kernel_rfl
  have c6 : call Cv 31 [ownB.av, (cpB 1 [4, 4, 5]).av] = some (.tup [.bool true, I 0]) := by rw [fitsP_call _ own_ok _ (cpB_ok _ _ (by decide))]; kernel_rfl
  obtain ⟨y, hy, hyc, hyp, c7⟩ := wrongP_call tornB torn_ok
  have hw : wrongL tornB = [1] := by kernel_rfl
  have he : wrongE tornB = 0 := by kernel_rfl
  rw [hw] at hy
  rw [he] at c7
  have c8 : call Cv 35 [tornB.av, I 1] = some (.tup [I 1, I 0]) := by rw [barP_call _ torn_ok]; kernel_rfl
  have c9 : call Cv 15 [ownB.av] = some (.tup [.bool true, I 0]) := by rw [rightP_call _ own_ok]; kernel_rfl
  have c10 : call Cv 24 [ownB.av, I 1] = some (.tup [.nils, I 4]) := by rw [lineP_call _ own_ok]; kernel_rfl
  have q1 : ∀ l : List Int, IsRow 1 (ints l) (.sl 1 (ints l) .full) := fun l => .inr (.inr ⟨.full, rfl, rfl⟩)
  have d1 : call Cv 23 [rowF [4, 5], .sl 1 [I 4, I 5] .full] = some (.bool true) := equal_call [4, 5] [4, 5] _ _ (rowF_row _) (q1 _) (by decide) (by decide)
  have d2 : call Cv 23 [rowF [3, 3, 4], .sl 1 [I 3, I 3, I 4] .full] = some (.bool true) := equal_call [3, 3, 4] [3, 3, 4] _ _ (rowF_row _) (q1 _) (by decide) (by decide)
  have d3 : call Cv 23 [y, .sl 1 [I 1] .full] = some (.bool true) := equal_call [1] [1] _ _ hy (q1 _) (by decide) (by decide)
  have hxp : ∀ (x : PB), x.Ok → ∀ σ n, pur σ (n + 2) x.av = some (x.av, false) := fun x hx σ n => by
    simp [PB.av, PB.cells, pur, purAll, hx.vrow.pur, hx.crow.pur]
  have p1 := hxp ownB own_ok
  have p2 := hxp foundB found_ok
  have p3 := hxp tornB torn_ok
  have p4 := hyp
  have p5 := fun σ n => rowF_pur σ n [4, 5]
  have p6 := fun σ n => rowF_pur σ n [3, 3, 4]
  have k1 := own_call
  have k2 := found_call
  have k3 := torn_call
  have e1 : (cpB 1 [4, 4, 5]).av = .agg [I 1, .sl 1 [I 4, I 4, I 5] .full] := rfl
  rw [e1] at c6
  rw [call_run comp26 (Nat.le_of_ble_eq_true rfl)]
  simp (maxSteps := 10000000) [-List.getD_eq_getElem?_getD, code26, k1, k2, k3, p1, p2, p3, p4, p5, p6, c1, c2, c3, c4, c5, c6, c7, c8, c9, c10, d1, d2, d3, scribe_full, fillE, AV.isAgg]
end Go.Ai
