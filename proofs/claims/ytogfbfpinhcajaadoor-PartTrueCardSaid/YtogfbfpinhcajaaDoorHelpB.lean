/- This text shows what the helpers of the outright laws answer. No conditions of its own. -/
import Derived.Test.YtogfbfpinhcajaaDoorOwn
set_option linter.unusedSimpArgs false
set_option linter.unusedVariables false
set_option maxRecDepth 100000
set_option linter.unusedSimpArgs false
set_option linter.unusedVariables false
/-! Is there a book; without some of its copies; with one more. -/
namespace Go.Ai
open Go.Part (Sp Cp Bk)
theorem loop37_0 (x : PB) (hx : x.Ok) (h : ∀ s ∈ x.spans, spOk s = true) : ∀ (m k : Nat), k + m = x.spans.length → run Cv 37 (.loop keep37_0 body37_0) (mkE 81 .any [(4, I k), (3, .bool true), (1, .box 0 0)]) { boxes := [x.cells] } = run Cv 37 (.loop keep37_0 body37_0) (mkE 81 .any [(4, I x.spans.length), (3, .bool true), (1, .box 0 0)]) { boxes := [x.cells] }
  | 0, k, hk => by
    have : k = x.spans.length := by omega
    rw [this]
  | m + 1, k, hk => by
    have hlt : k < x.spans.length := by omega
    have hlt' : (k : Int) < (x.spans.length : Int) := by omega
    have hw := wrap_succ hlt (by have := hx.lv; omega)
    have hvl := vlen hx
    have hg : x.spans[k]? = some x.spans[k] := List.getElem?_eq_getElem hlt
    have hs := h _ (List.getElem_mem hlt)
    have hf := rFair_call x.spans[k]
    rw [hs] at hf
    have hix : ixsA 2 x.vr (I k) = some (.rp [I x.spans[k].low, I x.spans[k].high] 0) := by
      obtain ⟨cc, hcc, hr⟩ := hx.vrow.sl (by intro hn; simp at hn; rw [hn] at hlt; simp at hlt)
      rw [hr]
      simp [ixsA, hlt, spA, AV.cells]
    generalize x.spans[k] = s at *
    have hvu := hx.vrow.under
    have hcu := hx.crow.under
    simp only [spA] at hf
    have key : run Cv 37 (.loop keep37_0 body37_0) (mkE 81 .any [(4, I k), (3, .bool true), (1, .box 0 0)]) { boxes := [x.cells] } = run Cv 37 (.loop keep37_0 body37_0) (mkE 81 .any [(4, I ((k : Int) + 1)), (3, .bool true), (1, .box 0 0)]) { boxes := [x.cells] } := by
      rw [run_loop]
      generalize MC.loop keep37_0 body37_0 = L
      simp (maxSteps := 10000000) [-List.getD_eq_getElem?_getD, -ixsA, -List.all_eq_true, body37_0, keep37_0, PB.cells, hlt', hw, hvl, hix, hf, hvu, hcu]
    rw [key]
    exact loop37_0 x hx h m (k + 1) (by omega)
theorem loop37_1 (x : PB) (hx : x.Ok) (h : Chk x) : ∀ (m k : Nat), k + m = x.copies.length → run Cv 37 (.loop keep37_1 body37_1) (mkE 81 .any [(5, I k), (3, .bool true), (1, .box 0 0)]) { boxes := [x.cells] } = run Cv 37 (.loop keep37_1 body37_1) (mkE 81 .any [(5, I x.copies.length), (3, .bool true), (1, .box 0 0)]) { boxes := [x.cells] }
  | 0, k, hk => by
    have : k = x.copies.length := by omega
    rw [this]
  | m + 1, k, hk => by
    have hlt : k < x.copies.length := by omega
    have hlt' : (k : Int) < (x.copies.length : Int) := by omega
    have hw := wrap_succ hlt (by have := hx.lc; omega)
    have hvl := vlen hx
    have hcl := clen hx
    have h4 := less_one hx.lv
    have hcm := List.getElem_mem hlt
    have hcx := hx.cp _ hcm
    have hc := h.copies _ hcm
    have hix : ixsA 2 x.cr (I k) = some (.rp [I x.copies[k].cp.voice, x.copies[k].row] 0) := by
      obtain ⟨cc, hcc, hr⟩ := hx.crow.sl (by intro hn; simp at hn; rw [hn] at hlt; simp at hlt)
      rw [hr]
      simp [ixsA, hlt, CpV.av, AV.cells]
    generalize x.copies[k] = c at *
    have hl := lies_call c.cp.voice 0 ((x.spans.length : Int) - 1)
    have hl1 : (decide (0 ≤ c.cp.voice) && decide (c.cp.voice ≤ (x.spans.length : Int) - 1)) = true := by
      rw [Bool.and_eq_true, decide_eq_true_eq, decide_eq_true_eq]; omega
    rw [hl1] at hl
    have hrl := row_len hcx.row
    have he : ((c.cp.notes.length : Int) == x.N) = true := by simpa using hc.2.2.1
    have hvu := hx.vrow.under
    have hcu := hx.crow.under
    have key : run Cv 37 (.loop keep37_1 body37_1) (mkE 81 .any [(5, I k), (3, .bool true), (1, .box 0 0)]) { boxes := [x.cells] } = run Cv 37 (.loop keep37_1 body37_1) (mkE 81 .any [(5, I ((k : Int) + 1)), (3, .bool true), (1, .box 0 0)]) { boxes := [x.cells] } := by
      rw [run_loop]
      generalize MC.loop keep37_1 body37_1 = L
      simp (maxSteps := 10000000) [-List.getD_eq_getElem?_getD, -ixsA, -List.all_eq_true, body37_1, keep37_1, PB.cells, hlt', hw, hvl, hcl, h4, hix, hl, hrl, he, hvu, hcu]
    rw [key]
    exact loop37_1 x hx h m (k + 1) (by omega)
theorem end37_0 (x : PB) (hx : x.Ok) : run Cv 37 (.loop keep37_0 body37_0) (mkE 81 .any [(4, I x.spans.length), (3, .bool true), (1, .box 0 0)]) { boxes := [x.cells] } = some (.ex 0, mkE 81 .any [(38, .bool false), (37, .bool false), (36, I x.spans.length), (35, x.vr), (34, .box 0 1), (33, I x.spans.length), (32, .bool true), (31, .bool true), (4, I x.spans.length), (3, .bool true), (1, .box 0 0)], { boxes := [x.cells] }) := by
  have hvl := vlen hx
  rw [run_loop]
  simp (maxSteps := 10000000) [-List.getD_eq_getElem?_getD, body37_0, keep37_0, PB.cells, hvl]
theorem end37_1 (x : PB) (hx : x.Ok) : run Cv 37 (.loop keep37_1 body37_1) (mkE 81 .any [(5, I x.copies.length), (3, .bool true), (1, .box 0 0)]) { boxes := [x.cells] } = some (.ex 2, mkE 81 .any [(54, .bool false), (53, .bool false), (52, I x.copies.length), (51, x.cr), (50, .box 0 5), (49, I x.copies.length), (48, .bool true), (47, .bool true), (5, I x.copies.length), (3, .bool true), (1, .box 0 0)], { boxes := [x.cells] }) := by
  have hcl := clen hx
  rw [run_loop]
  simp (maxSteps := 10000000) [-List.getD_eq_getElem?_getD, body37_1, keep37_1, PB.cells, hcl]
theorem bad37_0 (x : PB) : run Cv 37 (.loop keep37_0 body37_0) (mkE 81 .any [(4, I 0), (3, .bool false), (1, .box 0 0)]) { boxes := [x.cells] } = some (.ex 0, mkE 81 .any [(38, .bool false), (37, .undef), (36, .undef), (35, .undef), (34, .undef), (33, .undef), (32, .bool false), (31, .bool false), (4, I 0), (3, .bool false), (1, .box 0 0)], { boxes := [x.cells] }) := by
  rw [run_loop]
  simp (maxSteps := 10000000) [-List.getD_eq_getElem?_getD, body37_0, keep37_0, PB.cells]
theorem bad37_1 (x : PB) : run Cv 37 (.loop keep37_1 body37_1) (mkE 81 .any [(5, I 0), (3, .bool false), (1, .box 0 0)]) { boxes := [x.cells] } = some (.ex 2, mkE 81 .any [(54, .bool false), (53, .undef), (52, .undef), (51, .undef), (50, .undef), (49, .undef), (48, .bool false), (47, .bool false), (5, I 0), (3, .bool false), (1, .box 0 0)], { boxes := [x.cells] }) := by
  rw [run_loop]
  simp (maxSteps := 10000000) [-List.getD_eq_getElem?_getD, body37_1, keep37_1, PB.cells]
theorem sound_call (x : PB) (hx : x.Ok) : call Cv 37 [x.av] = some (.bool (checkOk x)) := by
  have h1 := check_call x hx
  have hvc := hx.vrow.cell
  have hcc := hx.crow.cell
  have hvp := hx.vrow.pur
  have hcp := hx.crow.pur
  have hvl := vlen hx
  have hcl := clen hx
  have e5 : ((0 : Nat) : Int) = 0 := rfl
  cases hc : checkOk x with
  | false =>
    have b1 := fun E (hE : mask keep37_0 E = _) => run_at (bad37_0 x) hE
    have b2 := fun E (hE : mask keep37_1 E = _) => run_at (bad37_1 x) hE
    simp only [keep37_0, keep37_1, PB.cells] at b1 b2
    simp only [hc, PB.av, PB.cells, Bool.false_eq_true, if_false] at h1
    rw [call_run comp37 (Nat.le_of_ble_eq_true rfl)]
    simp (maxSteps := 10000000) [-List.getD_eq_getElem?_getD, code37, PB.av, PB.cells, hvc, hcc, hvp, hcp, h1, keep37_0, keep37_1, b1, b2]
  | true =>
    have hk := chk_of hc
    have hs : ∀ s ∈ x.spans, spOk s = true := fun s hs => by
      simp only [checkOk, Bool.and_eq_true, List.all_eq_true] at hc
      exact hc.1.2 s hs
    have l1 := lies_call x.N 1 3
    have l2 := lies_call x.spans.length 1 3
    have l3 := lies_call x.step 0 7
    have q1 : (decide (1 ≤ x.N) && decide (x.N ≤ 3)) = true := by have := hk.N; simp; omega
    have q2 : (decide (1 ≤ (x.spans.length : Int)) && decide ((x.spans.length : Int) ≤ 3)) = true := by have := hk.V; simp; omega
    have q3 : (decide (0 ≤ x.step) && decide (x.step ≤ 7)) = true := by have := hk.step; simp; omega
    have q4 : (x.copies.length : Int) ≤ 4 := by have := hk.nc; omega
    rw [q1] at l1
    rw [q2] at l2
    rw [q3] at l3
    have g1 := loop37_0 x hx hs x.spans.length 0 (by omega)
    rw [end37_0 x hx] at g1
    have g2 := loop37_1 x hx hk x.copies.length 0 (by omega)
    rw [end37_1 x hx] at g2
    have b1 := fun E (hE : mask keep37_0 E = _) => run_at g1 hE
    have b2 := fun E (hE : mask keep37_1 E = _) => run_at g2 hE
    simp only [keep37_0, keep37_1, PB.cells, e5] at b1 b2
    simp only [hc, PB.av, PB.cells, if_true] at h1
    rw [call_run comp37 (Nat.le_of_ble_eq_true rfl)]
    simp (maxSteps := 10000000) [-List.getD_eq_getElem?_getD, code37, PB.av, PB.cells, hvc, hcc, hvp, hcp, h1, l1, l2, l3, q4, hvl, hcl, keep37_0, keep37_1, b1, b2]
end Go.Ai

set_option maxRecDepth 100000
set_option linter.unusedSimpArgs false
set_option linter.unusedVariables false
/-! Without some of its copies; with one more. -/
namespace Go.Ai
open Go.Part (Sp Cp Bk)
def rowK (cs : List CpV) : AV := if cs = [] then .nils else .sl 2 (cs.map CpV.av) .no
def PB.having (x : PB) (cs : List CpV) : PB := { x with copies := cs, cr := rowK cs }
theorem having_ok {x : PB} (hx : x.Ok) (cs : List CpV) (hl : cs.length < 2 ^ 47) (hc : ∀ c ∈ cs, c.Ok) : (x.having cs).Ok where
  vrow := hx.vrow
  crow := by
    show IsRow 2 (cs.map CpV.av) (rowK cs)
    unfold rowK
    by_cases h : cs = []
    · subst h; exact .inl ⟨rfl, rfl⟩
    · rw [if_neg h]; exact .inr (.inr ⟨.no, rfl, rfl⟩)
  lv := hx.lv
  lc := hl
  cp := hc
theorem withC_call (x : PB) (hx : x.Ok) (hl : x.copies.length < 1000) (c : CpV) (hc : c.Ok) : call Cv 45 [x.av, c.av] = some (x.having (x.copies ++ [c])).av := by
  have hvc := hx.vrow.cell
  have hvp := hx.vrow.pur
  have hrc := hc.row.cell
  have hrp := hc.row.pur
  have hcv : AV.cells x.vr = [x.vr] := by
    rcases hx.vrow with ⟨h, _⟩ | ⟨h, _⟩ | ⟨_, _, h⟩ <;> rw [h] <;> rfl
  have hn : x.copies ++ [c] ≠ [] := by simp
  have hb : x.copies.length * 32 ≤ 140737488355328 := by omega
  have hb2 : (x.copies.length + 1) * 32 ≤ 140737488355328 := by omega
  rw [call_run comp45 (Nat.le_of_ble_eq_true rfl)]
  rcases hx.crow with ⟨hr, he⟩ | ⟨hr, he⟩ | ⟨cc, hcc, hr⟩
  · have he' : x.copies = [] := by simpa using he
    simp (maxSteps := 10000000) [-List.getD_eq_getElem?_getD, code45, PB.av, PB.cells, CpV.av, PB.having, rowK, hn, he', hr, hvc, hvp, hrc, hrp, fillE, AV.isAgg, appA, elemsA, isSl, grown]
  · have he' : x.copies = [] := by simpa using he
    simp (maxSteps := 10000000) [-List.getD_eq_getElem?_getD, code45, PB.av, PB.cells, CpV.av, PB.having, rowK, hn, he', hr, hvc, hvp, hrc, hrp, fillE, AV.isAgg, appA, elemsA, isSl, grown]
  · by_cases he' : x.copies = []
    · simp (maxSteps := 10000000) [-List.getD_eq_getElem?_getD, code45, PB.av, PB.cells, CpV.av, PB.having, rowK, hn, he', hr, hvc, hvp, hrc, hrp, fillE, AV.isAgg, appA, elemsA, isSl, grown]
    · simp (maxSteps := 10000000) [-List.getD_eq_getElem?_getD, code45, PB.av, PB.cells, CpV.av, PB.having, rowK, hn, he', hr, hvc, hvp, hrc, hrp, fillE, AV.isAgg, appA, elemsA, isSl, grown, hb, hb2]
def accK (cs : List CpV) : AV := if cs = [] then .nils else .sl 2 (cs.map CpV.av) (.chain 0)
def chK (cs : List CpV) : List (Nat × Nat) := if cs = [] then [] else [(cs.length, 2)]
def keepV (but : List Int) : List CpV → Nat → List CpV
  | [], _ => []
  | c :: l, k => (if (k : Int) ∈ but then [] else [c]) ++ keepV but l (k + 1)
def st53 (x : PB) (cs : List CpV) : St := { boxes := [x.cells, [I 0, .nils, I 0, I 0, I 0, .nils], [I x.N, x.vr, I x.step, I x.chords, I x.perfect, accK cs]], chains := chK cs }
def head53 (r : AV) (i : Int) : Env := mkE 31 .any [(6, I i), (5, .box 2 0), (4, .box 1 0), (2, .box 0 0), (1, r)]
theorem loop53 (x : PB) (hx : x.Ok) (hl : x.copies.length < 1000) (but : List Int) (r : AV) (hr : IsRow 1 (ints but) r) (hbl : but.length < 2 ^ 47) : ∀ (l : List CpV) (k : Nat) (cs : List CpV), k ≤ x.copies.length → x.copies.drop k = l → cs.length ≤ k →
    ∃ L, run Cv 53 (.loop keep53_0 body53_0) (head53 r k) (st53 x cs) = some (.ex 0, mkE 31 .any L, st53 x (cs ++ keepV but l k)) ∧ gt (mkE 31 .any L) 4 = .box 1 0 ∧ gt (mkE 31 .any L) 5 = .box 2 0
  | [], k, cs, hk, h, hcs => by
    obtain rfl := drop_nil hk h
    have hcl := clen hx
    rw [run_loop]
    simp (maxSteps := 10000000) [-List.getD_eq_getElem?_getD, body53_0, keep53_0, head53, st53, keepV, PB.cells, hcl]
    exact ⟨_, rfl, by simp (maxSteps := 10000000) [-List.getD_eq_getElem?_getD, ], by simp (maxSteps := 10000000) [-List.getD_eq_getElem?_getD, ]⟩
  | c :: l, k, cs, hk, h, hcs => by
    obtain ⟨hlt, ha, hd⟩ := head_drop h
    have hw := wrap_succ hlt (by omega)
    have hlt' : (k : Int) < (x.copies.length : Int) := by omega
    have hcl := clen hx
    have hcx := hx.cp c (ha ▸ List.getElem_mem _)
    have hwh := where_call but r hr hbl k
    have hneg : decide (idx k but 0 < 0) = !decide ((k : Int) ∈ but) := by
      have := idx_nonneg k but 0
      rw [← this]
      by_cases h0 : 0 ≤ idx k but 0 <;> simp [h0] <;> omega
    have hix : ixsA 2 x.cr (I k) = some (.rp [I c.cp.voice, c.row] 0) := by
      obtain ⟨cc, hcc, hr⟩ := hx.crow.sl (by intro hn; simp at hn; rw [hn] at hlt; simp at hlt)
      rw [hr]
      simp [ixsA, hlt, ha, CpV.av, AV.cells]
    have hru := hr.under
    have hrp := hr.pur
    have hvu := hx.vrow.under
    have hcu := hx.crow.under
    have hrc := hcx.row.cell
    have hcp := hcx.row.pur
    have hbytes : (cs.length + 1) * 32 ≤ 140737488355328 := by omega
    have key : run Cv 53 (.loop keep53_0 body53_0) (head53 r k) (st53 x cs) = run Cv 53 (.loop keep53_0 body53_0) (head53 r (k + 1)) (st53 x (cs ++ if (k : Int) ∈ but then [] else [c])) := by
      rw [run_loop]
      generalize MC.loop keep53_0 body53_0 = L
      generalize idx k but 0 = j at *
      by_cases hp : (k : Int) ∈ but
      · have hj : ¬ j < 0 := by
          have : decide (j < 0) = false := by rw [hneg]; simp [hp]
          simpa using this
        by_cases ho' : cs = []
        · simp (maxSteps := 10000000) [-List.getD_eq_getElem?_getD, -ixsA, -List.all_eq_true, body53_0, keep53_0, head53, st53, PB.cells, accK, chK, hlt', hcl, hwh, hj, hp, hw, ho', hru, hrp, hvu, hcu]
        · simp (maxSteps := 10000000) [-List.getD_eq_getElem?_getD, -ixsA, -List.all_eq_true, body53_0, keep53_0, head53, st53, PB.cells, accK, chK, hlt', hcl, hwh, hj, hp, hw, ho', hru, hrp, hvu, hcu]
      · have hj : j < 0 := by
          have : decide (j < 0) = true := by rw [hneg]; simp [hp]
          simpa using this
        by_cases ho' : cs = []
        · simp (maxSteps := 10000000) [-List.getD_eq_getElem?_getD, -ixsA, -List.all_eq_true, body53_0, keep53_0, head53, st53, PB.cells, CpV.av, accK, chK, hlt', hcl, hwh, hj, hp, hw, ho', hru, hrp, hvu, hcu, hix, hrc, hcp, fillE, AV.isAgg, appA, elemsA, grown]
        · simp (maxSteps := 10000000) [-List.getD_eq_getElem?_getD, -ixsA, -List.all_eq_true, body53_0, keep53_0, head53, st53, PB.cells, CpV.av, accK, chK, hlt', hcl, hwh, hj, hp, hw, ho', hru, hrp, hvu, hcu, hix, hrc, hcp, fillE, AV.isAgg, appA, elemsA, grown, hbytes]
    rw [key]
    have := loop53 x hx hl but r hr hbl l (k + 1) (cs ++ if (k : Int) ∈ but then [] else [c]) hlt hd (by split <;> simp <;> omega)
    simpa [keepV, List.append_assoc] using this
theorem accK_pur (cs : List CpV) (σ : St) (n : Nat) : pur σ (n + 1) (accK cs) = some (rowK cs, false) := by
  unfold accK rowK; split <;> rfl
theorem accK_cell (cs : List CpV) : (accK cs).isCell = true := by unfold accK; split <;> rfl
theorem without_call (x : PB) (hx : x.Ok) (hl : x.copies.length < 1000) (but : List Int) (r : AV) (hr : IsRow 1 (ints but) r) (hbl : but.length < 2 ^ 47) : call Cv 53 [x.av, r] = some (x.having (keepV but x.copies 0)).av := by
  obtain ⟨L, h, h4, h5⟩ := loop53 x hx hl but r hr hbl x.copies 0 [] (Nat.zero_le _) rfl (by simp)
  rw [List.nil_append] at h
  have h' := fun E (hE : mask keep53_0 E = _) => run_at h hE
  have e5 : ((0 : Nat) : Int) = 0 := rfl
  have hvc := hx.vrow.cell
  have hvp := hx.vrow.pur
  have hcc := hx.crow.cell
  have k0 : accK [] = .nils := rfl
  have k1 : chK [] = [] := rfl
  have k2 := accK_cell (keepV but x.copies 0)
  have k3 := fun σ n => accK_pur (keepV but x.copies 0) σ n
  simp only [st53, head53, keep53_0, PB.cells, e5, k0, k1] at h'
  generalize hF : keepV but x.copies 0 = F at *
  rw [call_run comp53 (Nat.le_of_ble_eq_true rfl)]
  simp (maxSteps := 10000000) [-List.getD_eq_getElem?_getD, code53, PB.av, PB.cells, PB.having, hvc, hvp, hcc, keep53_0, h', h4, h5, k2, k3]
end Go.Ai
