/- This text shows small books; what is told of a valid book. No conditions of its own. -/
import Derived.Test.YtknklhodhkohlaaDoorFnM
set_option linter.unusedSimpArgs false
set_option linter.unusedVariables false
set_option maxRecDepth 100000
namespace Go.Ai
open Go.Cold (Mv Hd Bk Tr)
theorem lies_c (n low high : Int) : call Cv 29 [I n, I low, I high] = some (.bool (lie n low high)) := lies_call n low high
def head13a (ok : Bool) (k : Int) : Env := mkE 131 .any [(4, I k), (3, .bool ok), (1, .box 0 0)]
def head13b (ok : Bool) (k : Int) : Env := mkE 131 .any [(5, I k), (3, .bool ok), (1, .box 0 0)]
def head13c (ok : Bool) (k : Int) : Env := mkE 131 .any [(6, I k), (3, .bool ok), (1, .box 0 0)]
theorem stop13a (x : CB) : ∃ L, run Cv 13 (.loop keep13_0 body13_0) (head13a false 0) (stC x) = some (.ex 0, mkE 131 .any L, stC x) ∧ gt (mkE 131 .any L) 3 = .bool false ∧ gt (mkE 131 .any L) 1 = .box 0 0 := by
  rw [run_loop]
  simp (maxSteps := 10000000) [-List.getD_eq_getElem?_getD, body13_0, keep13_0, head13a]
  exact ⟨_, rfl, by simp (maxSteps := 10000000) [-List.getD_eq_getElem?_getD, ], by simp (maxSteps := 10000000) [-List.getD_eq_getElem?_getD, ]⟩
theorem stop13b (x : CB) : ∃ L, run Cv 13 (.loop keep13_1 body13_1) (head13b false 0) (stC x) = some (.ex 2, mkE 131 .any L, stC x) ∧ gt (mkE 131 .any L) 3 = .bool false ∧ gt (mkE 131 .any L) 1 = .box 0 0 := by
  rw [run_loop]
  simp (maxSteps := 10000000) [-List.getD_eq_getElem?_getD, body13_1, keep13_1, head13b]
  exact ⟨_, rfl, by simp (maxSteps := 10000000) [-List.getD_eq_getElem?_getD, ], by simp (maxSteps := 10000000) [-List.getD_eq_getElem?_getD, ]⟩
theorem stop13c (x : CB) : ∃ L, run Cv 13 (.loop keep13_2 body13_2) (head13c false 0) (stC x) = some (.ex 4, mkE 131 .any L, stC x) ∧ gt (mkE 131 .any L) 3 = .bool false := by
  rw [run_loop]
  simp (maxSteps := 10000000) [-List.getD_eq_getElem?_getD, body13_2, keep13_2, head13c]
  exact ⟨_, rfl, by simp (maxSteps := 10000000) [-List.getD_eq_getElem?_getD, ]⟩
theorem fair_span {a b : Int} (h1 : 1 ≤ a) (h2 : a ≤ b) (h3 : b ≤ 3) (h4 : b - a ≤ 1) : call Cv 53 [.agg [I a, I b], I 1, I 3, I 1] = some (.bool true) := by
  rw [fair_call]
  have w : IntKind.wrap .i64 (b - a) = b - a := wrap_small (by omega) (by omega)
  simp [fairB, h1, h2, h3, h4, w]
theorem loop13a (x : CB) (hx : x.Ok) (f : x.Fine) : ∃ L, run Cv 13 (.loop keep13_0 body13_0) (head13a true 0) (stC x) = some (.ex 0, mkE 131 .any L, stC x) ∧ gt (mkE 131 .any L) 3 = .bool true ∧ gt (mkE 131 .any L) 1 = .box 0 0 := by
  have h1 := fair_span f.o1 f.o2 f.o3 f.o4
  have h2 := fair_span f.g1 f.g2 f.g3 f.g4
  have u1 := hx.mrow.under
  have u2 := hx.hrow.under
  have w1 : IntKind.wrap .i64 ((0 : Int) + 1) = 1 := rfl
  have w2 : IntKind.wrap .i64 ((1 : Int) + 1) = 2 := rfl
  have r1 : run Cv 13 (.loop keep13_0 body13_0) (head13a true 0) (stC x) = run Cv 13 (.loop keep13_0 body13_0) (head13a true 1) (stC x) := by
    rw [run_loop]
    generalize MC.loop keep13_0 body13_0 = L
    simp (maxSteps := 10000000) [-List.getD_eq_getElem?_getD, body13_0, keep13_0, head13a, stC, CB.cells, h1, w1, u1, u2]
  have r2 : run Cv 13 (.loop keep13_0 body13_0) (head13a true 1) (stC x) = run Cv 13 (.loop keep13_0 body13_0) (head13a true 2) (stC x) := by
    rw [run_loop]
    generalize MC.loop keep13_0 body13_0 = L
    simp (maxSteps := 10000000) [-List.getD_eq_getElem?_getD, body13_0, keep13_0, head13a, stC, CB.cells, h2, w2, u1, u2]
  rw [r1, r2, run_loop]
  simp (maxSteps := 10000000) [-List.getD_eq_getElem?_getD, body13_0, keep13_0, head13a]
  exact ⟨_, rfl, by simp (maxSteps := 10000000) [-List.getD_eq_getElem?_getD, ], by simp (maxSteps := 10000000) [-List.getD_eq_getElem?_getD, ]⟩
theorem loop13b (x : CB) (hx : x.Ok) (f : x.Fine) : ∀ (l : List Mv) (k : Nat), k ≤ x.ms.length → x.ms.drop k = l → ∃ L, run Cv 13 (.loop keep13_1 body13_1) (head13b true k) (stC x) = some (.ex 2, mkE 131 .any L, stC x) ∧ gt (mkE 131 .any L) 3 = .bool true ∧ gt (mkE 131 .any L) 1 = .box 0 0
  | [], k, hk, h => by
    obtain rfl := drop_nil hk h
    have hm := mlen hx
    rw [run_loop]
    simp (maxSteps := 10000000) [-List.getD_eq_getElem?_getD, body13_1, keep13_1, head13b, stC, CB.cells, hm]
    exact ⟨_, rfl, by simp (maxSteps := 10000000) [-List.getD_eq_getElem?_getD, ], by simp (maxSteps := 10000000) [-List.getD_eq_getElem?_getD, ]⟩
  | m :: l, k, hk, h => by
    obtain ⟨hlt, ha, hd⟩ := head_drop h
    have hw := wrap_succ hlt hx.lm
    have hlt' : (k : Int) < (x.ms.length : Int) := by omega
    have hix := m_ix hx hlt
    rw [ha] at hix
    have hm := mlen hx
    have hf := f.ms m (by rw [← ha]; exact List.getElem_mem _)
    have b1 := f.b1; have b5 := f.b5; have d1 := f.d1; have d6 := f.d6
    have w1 : IntKind.wrap .i64 (x.days - 1) = x.days - 1 := wrap_small (by omega) (by omega)
    have w2 : IntKind.wrap .i64 (x.beds - 1) = x.beds - 1 := wrap_small (by omega) (by omega)
    have c1 := lies_c m.bed 0 (x.beds - 1)
    have c2 := lies_c m.day 1 (x.days - 1)
    have t1 : lie m.bed 0 (x.beds - 1) = true := by simp only [lie, Bool.and_eq_true, decide_eq_true_eq]; omega
    have t2 : lie m.day 1 (x.days - 1) = true := by simp only [lie, Bool.and_eq_true, decide_eq_true_eq]; omega
    rw [t1] at c1
    rw [t2] at c2
    have u1 := hx.mrow.under
    have u2 := hx.hrow.under
    obtain ⟨L, g⟩ := loop13b x hx f l (k + 1) hlt hd
    refine ⟨L, ?_, g.2⟩
    rw [← g.1, run_loop]
    generalize MC.loop keep13_1 body13_1 = L
    simp (maxSteps := 10000000) [-List.getD_eq_getElem?_getD, -ixsA, body13_1, keep13_1, head13b, stC, CB.cells, mvC, hm, hlt', hw, hix, w1, w2, c1, c2, u1, u2]
theorem loop13c (x : CB) (hx : x.Ok) (f : x.Fine) : ∀ (l : List Hd) (k : Nat), k ≤ x.hs.length → x.hs.drop k = l → ∃ L, run Cv 13 (.loop keep13_2 body13_2) (head13c true k) (stC x) = some (.ex 4, mkE 131 .any L, stC x) ∧ gt (mkE 131 .any L) 3 = .bool true
  | [], k, hk, h => by
    obtain rfl := drop_nil hk h
    have hm := hlen hx
    rw [run_loop]
    simp (maxSteps := 10000000) [-List.getD_eq_getElem?_getD, body13_2, keep13_2, head13c, stC, CB.cells, hm]
    exact ⟨_, rfl, by simp (maxSteps := 10000000) [-List.getD_eq_getElem?_getD, ]⟩
  | m :: l, k, hk, h => by
    obtain ⟨hlt, ha, hd⟩ := head_drop h
    have hw := wrap_succ hlt hx.lh
    have hlt' : (k : Int) < (x.hs.length : Int) := by omega
    have hix := h_ix hx hlt
    rw [ha] at hix
    have hm := hlen hx
    have hf := f.hs m (by rw [← ha]; exact List.getElem_mem _)
    have b1 := f.b1; have b5 := f.b5; have d1 := f.d1; have d6 := f.d6
    have w1 : IntKind.wrap .i64 (x.days - 1) = x.days - 1 := wrap_small (by omega) (by omega)
    have w2 : IntKind.wrap .i64 (x.beds - 1) = x.beds - 1 := wrap_small (by omega) (by omega)
    have c1 := lies_c m.bed 0 (x.beds - 1)
    have c2 := lies_c m.day 0 (x.days - 1)
    have t1 : lie m.bed 0 (x.beds - 1) = true := by simp only [lie, Bool.and_eq_true, decide_eq_true_eq]; omega
    have t2 : lie m.day 0 (x.days - 1) = true := by simp only [lie, Bool.and_eq_true, decide_eq_true_eq]; omega
    rw [t1] at c1
    rw [t2] at c2
    have u1 := hx.mrow.under
    have u2 := hx.hrow.under
    obtain ⟨L, g⟩ := loop13c x hx f l (k + 1) hlt hd
    refine ⟨L, ?_, g.2⟩
    rw [← g.1, run_loop]
    generalize MC.loop keep13_2 body13_2 = L
    simp (maxSteps := 10000000) [-List.getD_eq_getElem?_getD, -ixsA, body13_2, keep13_2, head13c, stC, CB.cells, hdC, hm, hlt', hw, hix, w1, w2, c1, c2, u1, u2]
theorem sound_call (x : CB) (hx : x.Ok) : call Cv 13 [x.av] = some (.bool (checkB x)) := by
  have hc := check_call x hx
  have p1 := hx.mrow.cell
  have p2 := hx.hrow.cell
  have q1 := hx.mrow.pur
  have q2 := hx.hrow.pur
  have e0 : ((0 : Nat) : Int) = 0 := rfl
  simp only [CB.av, CB.cells] at hc
  cases hk : checkB x with
  | false =>
    rw [hk] at hc
    obtain ⟨La, a1, a2, a3⟩ := stop13a x
    obtain ⟨Lb, b1, b2, b3⟩ := stop13b x
    obtain ⟨Lc, c1, c2⟩ := stop13c x
    have a' := fun E (hE : mask keep13_0 E = _) => run_at a1 hE
    have b' := fun E (hE : mask keep13_1 E = _) => run_at b1 hE
    have c' := fun E (hE : mask keep13_2 E = _) => run_at c1 hE
    simp only [keep13_0, head13a, stC, CB.cells] at a'
    simp only [keep13_1, head13b, stC, CB.cells] at b'
    simp only [keep13_2, head13c, stC, CB.cells] at c'
    rw [call_run comp13 (Nat.le_of_ble_eq_true rfl)]
    simp (maxSteps := 10000000) [-List.getD_eq_getElem?_getD, code13, CB.av, CB.cells, p1, p2, q1, q2, hc, keep13_0, keep13_1, keep13_2, a', a2, a3, b', b2, b3, c', c2]
  | true =>
    rw [hk] at hc
    have f := check_fine hk
    obtain ⟨La, a1, a2, a3⟩ := loop13a x hx f
    obtain ⟨Lb, b1, b2, b3⟩ := loop13b x hx f x.ms 0 (Nat.zero_le _) rfl
    obtain ⟨Lc, c1, c2⟩ := loop13c x hx f x.hs 0 (Nat.zero_le _) rfl
    rw [e0] at b1 c1
    have a' := fun E (hE : mask keep13_0 E = _) => run_at a1 hE
    have b' := fun E (hE : mask keep13_1 E = _) => run_at b1 hE
    have c' := fun E (hE : mask keep13_2 E = _) => run_at c1 hE
    simp only [keep13_0, head13a, stC, CB.cells] at a'
    simp only [keep13_1, head13b, stC, CB.cells] at b'
    simp only [keep13_2, head13c, stC, CB.cells] at c'
    have hm := mlen hx
    have hh := hlen hx
    have g1 := f.b1; have g2 := f.b5; have g3 := f.d1; have g4 := f.d6; have g5 := f.n1; have g6 := f.n2; have g7 := f.u0; have g8 := f.u1; have g9 := f.r0; have g10 := f.r3; have g11 := f.lm; have g12 := f.lh
    obtain ⟨hsh1, hsh⟩ := shl_beds g1 g2
    have hp := pow_small (n := x.beds.toNat) (by omega)
    have w1 : IntKind.wrap .i64 (x.days - 1) = x.days - 1 := wrap_small (by omega) (by omega)
    have w3 : IntKind.wrap .i64 (2 ^ x.beds.toNat - 1) = 2 ^ x.beds.toNat - 1 := wrap_small (by omega) (by omega)
    have k1 := lies_c x.beds 1 5
    have k2 := lies_c x.days 1 6
    have k3 := lies_c x.begins 1 (2 ^ x.beds.toNat - 1)
    have k4 := lies_c x.until_ 0 (x.days - 1)
    have k5 := lies_c x.rooms 0 3
    have t1 : lie x.beds 1 5 = true := by simp only [lie, Bool.and_eq_true, decide_eq_true_eq]; omega
    have t2 : lie x.days 1 6 = true := by simp only [lie, Bool.and_eq_true, decide_eq_true_eq]; omega
    have t3 : lie x.begins 1 (2 ^ x.beds.toNat - 1) = true := by simp only [lie, Bool.and_eq_true, decide_eq_true_eq]; omega
    have t4 : lie x.until_ 0 (x.days - 1) = true := by simp only [lie, Bool.and_eq_true, decide_eq_true_eq]; omega
    have t5 : lie x.rooms 0 3 = true := by simp only [lie, Bool.and_eq_true, decide_eq_true_eq]; omega
    rw [t1] at k1
    rw [t2] at k2
    rw [t3] at k3
    rw [t4] at k4
    rw [t5] at k5
    have l1 : (x.ms.length : Int) ≤ 3 := by omega
    have l2 : (x.hs.length : Int) ≤ 4 := by omega
    rw [call_run comp13 (Nat.le_of_ble_eq_true rfl)]
    simp (maxSteps := 10000000) [-List.getD_eq_getElem?_getD, code13, CB.av, CB.cells, p1, p2, q1, q2, hc, hm, hh, hsh1, hsh, w1, w3, k1, k2, k3, k4, k5, l1, l2, keep13_0, keep13_1, keep13_2, a', a2, a3, b', b2, b3, c', c2]
end Go.Ai

set_option maxRecDepth 100000
namespace Go.Ai
open Go.Cold (Mv Hd Bk Tr)
theorem spot_true {x : CB} (f : x.Fine) {bed day : Int} (h0 : 0 ≤ bed) (h1 : bed < x.beds) (h2 : 0 ≤ day) (h3 : day < x.days) : spotB x bed day = true := by
  have b1 := f.b1; have b5 := f.b5; have d1 := f.d1; have d6 := f.d6
  have w1 : IntKind.wrap .i64 (x.days - 1) = x.days - 1 := wrap_small (by omega) (by omega)
  have w2 : IntKind.wrap .i64 (x.beds - 1) = x.beds - 1 := wrap_small (by omega) (by omega)
  simp only [spotB, lie, Bool.and_eq_true, decide_eq_true_eq, w1, w2]
  omega
theorem bed_true {x : CB} (f : x.Fine) {bed : Int} (h0 : 0 ≤ bed) (h1 : bed < x.beds) : bedB x bed = true := by
  have b1 := f.b1; have b5 := f.b5
  have w2 : IntKind.wrap .i64 (x.beds - 1) = x.beds - 1 := wrap_small (by omega) (by omega)
  simp only [bedB, lie, Bool.and_eq_true, decide_eq_true_eq, w2]
  omega
theorem day_is {x : CB} (f : x.Fine) {day : Int} : dayB x day = true ↔ 1 ≤ day ∧ day < x.days := by
  have d1 := f.d1; have d6 := f.d6
  have w1 : IntKind.wrap .i64 (x.days - 1) = x.days - 1 := wrap_small (by omega) (by omega)
  simp only [dayB, lie, Bool.and_eq_true, decide_eq_true_eq, w1]
  omega
theorem err_nil {x : CB} (hk : checkB x = true) (hn : x.bk.tr = []) : errQ x true = 32 := by rw [errQ_ok hk, errOf, if_pos hn]
theorem err_zero {x : CB} (hk : checkB x = true) (hn : x.bk.tr ≠ []) : errQ x true = 0 := by rw [errQ_ok hk, errOf, if_neg hn]
section
variable {x : CB} (hx : x.Ok) (hk : checkB x = true)
include hx hk
theorem Ill_0 (hn : x.bk.tr = []) {bed day : Int} (h0 : 0 ≤ bed) (h1 : bed < x.beds) (h2 : 0 ≤ day) (h3 : day < x.days) : call Cv 27 [x.av, I bed, I day] = some (.tup [I 0, I 32]) := by
  have f := check_fine hk
  rw [Ill_call x hx, spot_true f h0 h1 h2 h3, err_nil hk hn, if_neg (by decide)]
theorem Ill_1 (hn : x.bk.tr ≠ []) {bed day : Int} (h0 : 0 ≤ bed) (h1 : bed < x.beds) (h2 : 0 ≤ day) (h3 : day < x.days) : call Cv 27 [x.av, I bed, I day] = some (.tup [I (x.bk.illV bed.toNat day), I 0]) := by
  have f := check_fine hk
  rw [Ill_call x hx, spot_true f h0 h1 h2 h3, err_zero hk hn, if_pos rfl]
theorem Coughs_0 (hn : x.bk.tr = []) {bed day : Int} (h0 : 0 ≤ bed) (h1 : bed < x.beds) (h2 : 0 ≤ day) (h3 : day < x.days) : call Cv 28 [x.av, I bed, I day] = some (.tup [I 0, I 32]) := by
  have f := check_fine hk
  rw [Coughs_call x hx, spot_true f h0 h1 h2 h3, err_nil hk hn, if_neg (by decide)]
theorem Coughs_1 (hn : x.bk.tr ≠ []) {bed day : Int} (h0 : 0 ≤ bed) (h1 : bed < x.beds) (h2 : 0 ≤ day) (h3 : day < x.days) : call Cv 28 [x.av, I bed, I day] = some (.tup [I (x.bk.coughV bed.toNat day), I 0]) := by
  have f := check_fine hk
  rw [Coughs_call x hx, spot_true f h0 h1 h2 h3, err_zero hk hn, if_pos rfl]
theorem Caught_0 (hn : x.bk.tr = []) {bed : Int} (h0 : 0 ≤ bed) (h1 : bed < x.beds) : call Cv 26 [x.av, I bed] = some (.tup [.agg [I 0, I 0], I 32]) := by
  have f := check_fine hk
  rw [Caught_call x hx, bed_true f h0 h1, errL, err_nil hk hn, if_neg (by decide), if_neg (by decide)]
theorem Caught_none (hn : x.bk.tr ≠ []) {bed : Int} (h0 : 0 ≤ bed) (h1 : bed < x.beds) (hc : x.bk.caughtL bed.toNat = []) : call Cv 26 [x.av, I bed] = some (.tup [.agg [I 0, I 0], I 4]) := by
  have f := check_fine hk
  rw [Caught_call x hx, bed_true f h0 h1, errL, err_zero hk hn, if_pos rfl, if_pos rfl, if_pos hc, spanV, if_pos hc]
theorem Caught_1 (hn : x.bk.tr ≠ []) {bed : Int} (h0 : 0 ≤ bed) (h1 : bed < x.beds) (hc : x.bk.caughtL bed.toNat ≠ []) : call Cv 26 [x.av, I bed] = some (.tup [.agg [I (Go.Cold.ends (x.bk.caughtL bed.toNat)).1, I (Go.Cold.ends (x.bk.caughtL bed.toNat)).2], I 0]) := by
  have f := check_fine hk
  rw [Caught_call x hx, bed_true f h0 h1, errL, err_zero hk hn, if_pos rfl, if_pos rfl, if_neg hc, spanV, if_neg hc]
theorem Takes_0 (hn : x.bk.tr = []) {kind : Int} (h0 : kind = 0 ∨ kind = 1) : call Cv 21 [x.av, I kind] = some (.tup [.agg [I 0, I 0], I 32]) := by
  have hl : lie kind 0 1 = true := by simp only [lie, Bool.and_eq_true, decide_eq_true_eq]; omega
  rw [Takes_call x hx, hl, err_nil hk hn, if_neg (by decide)]
theorem Takes_1 (hn : x.bk.tr ≠ []) {kind : Int} (h0 : kind = 0 ∨ kind = 1) : call Cv 21 [x.av, I kind] = some (.tup [.agg [I (Go.Cold.ends (x.bk.takesL kind)).1, I (Go.Cold.ends (x.bk.takesL kind)).2], I 0]) := by
  have hl : lie kind 0 1 = true := by simp only [lie, Bool.and_eq_true, decide_eq_true_eq]; omega
  rw [Takes_call x hx, hl, err_zero hk hn, if_pos rfl, spanV, if_neg fun h => hn (takes_ne.1 h)]
theorem From_0 (hn : x.bk.tr = []) : ∃ r, IsRow 1 (ints []) r ∧ call Cv 20 [x.av] = some (.tup [r, I 32]) := by
  have := From_call x hx
  rwa [err_nil hk hn, if_neg (by decide)] at this
theorem From_1 (hn : x.bk.tr ≠ []) : ∃ r, IsRow 1 (ints x.bk.fromL) r ∧ call Cv 20 [x.av] = some (.tup [r, I 0]) := by
  have := From_call x hx
  rwa [err_zero hk hn, if_pos rfl] at this
theorem Clean_0 (hn : x.bk.tr = []) : ∃ r, IsRow 1 (ints []) r ∧ call Cv 22 [x.av] = some (.tup [r, I 32]) := by
  have := Clean_call x hx
  rwa [err_nil hk hn, if_neg (by decide)] at this
theorem Clean_1 (hn : x.bk.tr ≠ []) : ∃ r, IsRow 1 (ints x.bk.cleanL) r ∧ call Cv 22 [x.av] = some (.tup [r, I 0]) := by
  have := Clean_call x hx
  rwa [err_zero hk hn, if_pos rfl] at this
theorem Wrong_1 : ∃ y, IsRow 1 (ints x.bk.wrongL) y ∧ call Cv 19 [x.av] = some (.tup [y, I 0]) := by
  have := Wrong_call x hx
  rwa [wrongA, hk, if_pos rfl, if_pos rfl] at this
theorem Right_1 : call Cv 18 [x.av] = some (.tup [.bool (!x.bk.tr.isEmpty), I 0]) := by
  rw [Right_call x hx, hk, if_pos rfl, Bool.true_and]
theorem Fits_0 (hn : x.bk.tr = []) (h : Hd) (h0 : 0 ≤ h.bed) (h1 : h.bed < x.beds) (h2 : 0 ≤ h.day) (h3 : h.day < x.days) : call Cv 31 [x.av, .agg (hdC h)] = some (.tup [.bool false, I 32]) := by
  have f := check_fine hk
  rw [Fits_call x hx, spot_true f h0 h1 h2 h3, err_nil hk hn]
  rfl
theorem Fits_1 (hn : x.bk.tr ≠ []) (h : Hd) (h0 : 0 ≤ h.bed) (h1 : h.bed < x.beds) (h2 : 0 ≤ h.day) (h3 : h.day < x.days) : call Cv 31 [x.av, .agg (hdC h)] = some (.tup [.bool (x.bk.fitsV h), I 0]) := by
  have f := check_fine hk
  rw [Fits_call x hx, spot_true f h0 h1 h2 h3, err_zero hk hn]
  rfl
end
theorem cleanL_len (y : Bk) : y.cleanL.length < 2 ^ 47 ∧ y.fromL.length < 2 ^ 47 ∨ 2 ^ 40 < y.B := by
  rcases Nat.lt_or_ge (2 ^ 40) y.B with h | h
  · exact .inr h
  · left
    have h1 := Go.Least.sel_len (fun i => y.tr.all fun t => decide (y.at t i < 0)) y.B 0
    have h2 := Go.Least.sel_len (fun i => decide ((i : Int) ∈ y.tr.map fun t => (t.bed : Int))) y.B 0
    unfold Go.Cold.Bk.cleanL Go.Cold.Bk.fromL
    omega
end Go.Ai

set_option maxRecDepth 100000
namespace Go.Ai
open Go.Cold (Mv Hd Bk Tr)
theorem x_box (x : CB) (hx : x.Ok) : boxA {} x.av = some (.box 0 0, { boxes := [x.cells] }) := by
  have p1 := hx.mrow.cell
  have p2 := hx.hrow.cell
  have hi : ∀ n, AV.isCell (I n) = true := fun _ => rfl
  have : x.cells.all AV.isCell = true := by simp [CB.cells, p1, p2, hi]
  simp only [boxA, CB.av, AV.cells, this, if_true]; rfl
theorem av_pur (x : CB) (hx : x.Ok) (σ : St) (n : Nat) : pur σ (n + 2) x.av = some (x.av, false) := by
  have q1 := hx.mrow.pur
  have q2 := hx.hrow.pur
  simp [CB.av, CB.cells, pur, purAll, q1, q2]
theorem part_x (x : CB) : partA (some 11) x.cells 0 = some x.av := rfl
theorem ill_range (y : Bk) (bed : Nat) (d : Int) : 0 ≤ y.illV bed d ∧ y.illV bed d ≤ 2 := Go.Cold.votes_range _ _
theorem cough_range (y : Bk) (bed : Nat) (d : Int) : 0 ≤ y.coughV bed d ∧ y.coughV bed d ≤ 2 := Go.Cold.votes_range _ _
theorem turn_bed {x : CB} (f : x.Fine) (n : Int) : ∃ m : Nat, (m : Int) < x.beds ∧ m < x.bk.B ∧ call Cv 16 [I n, I x.beds] = some (I m) := by
  have b1 := f.b1; have b5 := f.b5
  have ht := turn_call n x.beds (by omega)
  obtain ⟨r1, r2⟩ := turn_range n x.beds (by omega)
  obtain ⟨m, hm⟩ := Int.eq_ofNat_of_zero_le r1
  rw [hm] at ht r2
  refine ⟨m, r2, ?_, ht⟩
  show m < x.beds.toNat
  omega
theorem turn_day {x : CB} (f : x.Fine) (n : Int) : ∃ d : Int, 0 ≤ d ∧ d < x.days ∧ call Cv 16 [I n, I x.days] = some (I d) := by
  have b1 := f.d1; have b5 := f.d6
  have ht := turn_call n x.days (by omega)
  obtain ⟨r1, r2⟩ := turn_range n x.days (by omega)
  exact ⟨_, r1, r2, ht⟩
theorem clean_small {x : CB} (f : x.Fine) : x.bk.cleanL.length ≤ 5 ∧ x.bk.fromL.length ≤ 5 := by
  have h1 := Go.Least.sel_len (fun i => x.bk.tr.all fun t => decide (x.bk.at t i < 0)) x.bk.B 0
  have h2 := Go.Least.sel_len (fun i => decide ((i : Int) ∈ x.bk.tr.map fun t => (t.bed : Int))) x.bk.B 0
  have b5 : x.bk.B ≤ 5 := f.bk.b5
  unfold Go.Cold.Bk.cleanL Go.Cold.Bk.fromL
  omega
end Go.Ai
