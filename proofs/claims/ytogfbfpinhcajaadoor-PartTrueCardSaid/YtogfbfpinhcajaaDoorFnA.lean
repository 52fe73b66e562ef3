/- This text shows what Check and small functions answer. No conditions of its own. -/
import Derived.Test.YtogfbfpinhcajaaDoorHelp
import Derived.Test.YtogfbfpinhcajaaDoorPlain
set_option linter.unusedSimpArgs false
set_option linter.unusedVariables false
set_option maxRecDepth 100000
set_option linter.unusedSimpArgs false
set_option linter.unusedVariables false
/-! The book of a part, and whether it is valid. -/
namespace Go.Ai
open Go.Part (Sp Cp)
structure CpV where
  cp : Cp
  row : AV
structure PB where
  N : Int
  spans : List Sp
  step : Int
  chords : Int
  perfect : Int
  copies : List CpV
  vr : AV
  cr : AV
def spA (s : Sp) : AV := .agg [I s.low, I s.high]
def CpV.av (c : CpV) : AV := .agg [I c.cp.voice, c.row]
def PB.cells (x : PB) : List AV := [I x.N, x.vr, I x.step, I x.chords, I x.perfect, x.cr]
def PB.av (x : PB) : AV := .agg x.cells
structure CpV.Ok (c : CpV) : Prop where
  row : IsRow 1 (ints c.cp.notes) c.row
  len : c.cp.notes.length < 2 ^ 47
structure PB.Ok (x : PB) : Prop where
  vrow : IsRow 2 (x.spans.map spA) x.vr
  crow : IsRow 2 (x.copies.map CpV.av) x.cr
  lv : x.spans.length < 2 ^ 47
  lc : x.copies.length < 2 ^ 47
  cp : ∀ c ∈ x.copies, c.Ok
def lie (n low high : Int) : Bool := decide (low ≤ n) && decide (n ≤ high)
theorem within_call (n low high : Int) : call Cv 61 [I n, I low, I high] = some (.bool (lie n low high)) := by
  rw [call_run comp61 (Nat.le_of_ble_eq_true rfl)]
  simp +contextual (maxSteps := 10000000) [-List.getD_eq_getElem?_getD, code61, lie]
theorem lies' (n low high : Int) : call Cv 49 [I n, I low, I high] = some (.bool (lie n low high)) := lies_call n low high
def bad12 (n : Int) : Bool := !lie n 0 12
theorem bad12_call (n : Int) : call Cv 89 [I n] = some (.bool (bad12 n)) := by
  have h := within_call n 0 12
  rw [call_run comp89 (Nat.le_of_ble_eq_true rfl)]
  simp (maxSteps := 10000000) [-List.getD_eq_getElem?_getD, code89, h, bad12]
def head99 (r : AV) (n k : Int) : Env := mkE 19 .any [(8, I k), (7, I n), (1, .fn (.func 89) [] []), (0, r)]
theorem loop99 (l0 : List Int) (r : AV) (hr : IsRow 1 (ints l0) r) (hl : l0.length < 2 ^ 47) : ∀ (l : List Int) (k : Nat), k ≤ l0.length → l0.drop k = l →
    ∃ L, (run Cv 99 (.loop keep99_0 body99_0) (head99 r l0.length k) {} = some (.ex 0, mkE 19 .any L, {}) ∧ l.any bad12 = false) ∨
      (∃ j : Nat, run Cv 99 (.loop keep99_0 body99_0) (head99 r l0.length k) {} = some (.rt, mkE 19 .any ((4, I j) :: L), {}) ∧ l.any bad12 = true)
  | [], k, hk, h => by
    obtain rfl := drop_nil hk h
    have key : ∃ L, run Cv 99 (.loop keep99_0 body99_0) (head99 r l0.length l0.length) {} = some (.ex 0, mkE 19 .any L, {}) := by
      rw [run_loop]
      simp (maxSteps := 10000000) [-List.getD_eq_getElem?_getD, body99_0, keep99_0, head99]
      exact ⟨_, rfl⟩
    obtain ⟨L, hL⟩ := key
    exact ⟨L, .inl ⟨hL, rfl⟩⟩
  | a :: l, k, hk, h => by
    obtain ⟨hlt, ha, hd⟩ := head_drop h
    have hw := wrap_succ hlt hl
    have hb := bad12_call a
    have hu := hr.under
    obtain ⟨c, hc, rfl⟩ := row_sl hr (by rintro rfl; simp at hlt)
    simp only [ints] at hu
    cases hp : bad12 a with
    | true =>
      rw [hp] at hb
      have key : ∃ L, run Cv 99 (.loop keep99_0 body99_0) (head99 (.sl 1 (ints l0) c) l0.length k) {} = some (.rt, mkE 19 .any ((4, I k) :: L), {}) := by
        rw [run_loop]
        simp (maxSteps := 10000000) [-List.getD_eq_getElem?_getD, body99_0, keep99_0, head99, ints, hlt, ha, hb]
        exact ⟨_, rfl⟩
      obtain ⟨L, hL⟩ := key
      exact ⟨L, .inr ⟨k, hL, by simp [hp]⟩⟩
    | false =>
      rw [hp] at hb
      have key : run Cv 99 (.loop keep99_0 body99_0) (head99 (.sl 1 (ints l0) c) l0.length k) {} = run Cv 99 (.loop keep99_0 body99_0) (head99 (.sl 1 (ints l0) c) l0.length (k + 1)) {} := by
        rw [run_loop]
        generalize MC.loop keep99_0 body99_0 = L
        simp (maxSteps := 10000000) [-List.getD_eq_getElem?_getD, body99_0, keep99_0, head99, ints, hlt, ha, hb, hw, hu]
      rw [key]
      have := loop99 l0 _ hr hl l (k + 1) hlt hd
      simp only [List.any_cons, hp, Bool.false_or]
      exact this
theorem index99_call (l : List Int) (r : AV) (hr : IsRow 1 (ints l) r) (hl : l.length < 2 ^ 47) : ∃ j : Int, call Cv 99 [r, .fn (.func 89) [] []] = some (I j) ∧ decide (j ≥ 0) = l.any bad12 := by
  have h1 := row_len hr
  obtain ⟨L, h⟩ := loop99 l r hr hl l 0 (Nat.zero_le _) rfl
  rcases h with ⟨h, hi⟩ | ⟨j, h, hi⟩
  · refine ⟨-1, ?_, by rw [hi]; rfl⟩
    have h' : ∀ E : Env, mask keep99_0 E = head99 r l.length (0 : Nat) → run Cv 99 (.loop keep99_0 body99_0) E {} = some (.ex 0, mkE 19 .any L, {}) := fun E hE => by rw [run_loop_mask, hE]; exact h
    simp only [keep99_0, head99] at h'
    rw [call_run comp99 (Nat.le_of_ble_eq_true rfl)]
    simp (maxSteps := 10000000) [-List.getD_eq_getElem?_getD, code99, keep99_0, h', h1]
  · refine ⟨j, ?_, by rw [hi]; simp⟩
    have h' : ∀ E : Env, mask keep99_0 E = head99 r l.length (0 : Nat) → run Cv 99 (.loop keep99_0 body99_0) E {} = some (.rt, mkE 19 .any ((4, I j) :: L), {}) := fun E hE => by rw [run_loop_mask, hE]; exact h
    simp only [keep99_0, head99] at h'
    rw [call_run comp99 (Nat.le_of_ble_eq_true rfl)]
    simp (maxSteps := 10000000) [-List.getD_eq_getElem?_getD, code99, keep99_0, h', h1]
theorem contains88_call (l : List Int) (r : AV) (hr : IsRow 1 (ints l) r) (hl : l.length < 2 ^ 47) : call Cv 88 [r, .fn (.func 89) [] []] = some (.bool (l.any bad12)) := by
  obtain ⟨j, h, hj⟩ := index99_call l r hr hl
  have p1 := hr.pur
  rw [call_run comp88 (Nat.le_of_ble_eq_true rfl)]
  simp (maxSteps := 10000000) [-List.getD_eq_getElem?_getD, code88, h, p1, ← hj]
def copyOk (x : PB) (c : CpV) : Bool := lie c.cp.voice 0 ((x.spans.length : Int) - 1) && (((c.cp.notes.length : Int) == x.N) && !(c.cp.notes.any bad12))
theorem vlen {x : PB} (hx : x.Ok) : lenA x.vr = some (I x.spans.length) := by rw [hx.vrow.len]; simp
theorem clen {x : PB} (hx : x.Ok) : lenA x.cr = some (I x.copies.length) := by rw [hx.crow.len]; simp
theorem less_one {n : Nat} (h : n < 2 ^ 47) : IntKind.wrap .i64 ((n : Int) - 1) = n - 1 := wrap_small (by omega) (by omega)
theorem isCopy_call (x : PB) (hx : x.Ok) (c : CpV) (hc : c.Ok) : call Cv 62 [x.av, c.av] = some (.bool (copyOk x c)) := by
  have h1 := vlen hx
  have h2 := row_len hc.row
  have h3 := contains88_call _ _ hc.row (by have := hc.len; omega)
  have h4 := less_one hx.lv
  have h5 := within_call c.cp.voice 0 ((x.spans.length : Int) - 1)
  have p1 := hc.row.pur
  have p2 := hc.row.cell
  have p3 := hx.vrow.cell
  have p4 := hx.crow.cell
  obtain ⟨q, hq⟩ : ∃ q, lie c.cp.voice 0 ((x.spans.length : Int) - 1) = q := ⟨_, rfl⟩
  obtain ⟨q2, hq2⟩ : ∃ q, ((c.cp.notes.length : Int) == x.N) = q := ⟨_, rfl⟩
  rw [hq] at h5
  rw [call_run comp62 (Nat.le_of_ble_eq_true rfl)]
  cases q <;> cases q2 <;> simp (maxSteps := 10000000) [-List.getD_eq_getElem?_getD, code62, PB.av, PB.cells, CpV.av, h1, h2, h3, h4, h5, p1, p2, p3, p4, copyOk, hq, hq2]
end Go.Ai

set_option maxRecDepth 100000
set_option linter.unusedSimpArgs false
set_option linter.unusedVariables false
/-! Check: the program's. -/
namespace Go.Ai
open Go.Part (Sp Cp)
def spOk (s : Sp) : Bool := fairB s.low s.high 0 12 2
def stP (x : PB) : St := { boxes := [x.cells] }
def headV17 (x : PB) (ok : Bool) (k : Int) : Env := mkE 83 .any [(41, I k), (40, I x.spans.length), (39, x.vr), (3, .bool ok), (1, .box 0 0)]
theorem loopV17 (x : PB) (hx : x.Ok) : ∀ (l : List Sp) (k : Nat) (ok : Bool), k ≤ x.spans.length → x.spans.drop k = l →
    run Cv 17 (.loop keep17_0 body17_0) (headV17 x ok k) (stP x) = some (.ex 0, mkE 83 .any [(42, .bool false), (41, I x.spans.length), (40, I x.spans.length), (39, x.vr), (3, .bool (ok && l.all spOk)), (1, .box 0 0)], stP x)
  | [], k, ok, hk, h => by
    obtain rfl := drop_nil hk h
    rw [run_loop]
    simp (maxSteps := 10000000) [-List.getD_eq_getElem?_getD, body17_0, keep17_0, headV17, stP]
  | s :: l, k, ok, hk, h => by
    obtain ⟨hlt, ha, hd⟩ := head_drop h
    have hw := wrap_succ hlt (by have := hx.lv; omega)
    have hu := hx.vrow.under
    have hcu := hx.crow.under
    have hlc := within_call s.low 0 s.high
    have key : run Cv 17 (.loop keep17_0 body17_0) (headV17 x ok k) (stP x) = run Cv 17 (.loop keep17_0 body17_0) (headV17 x (ok && spOk s) (k + 1)) (stP x) := by
      obtain ⟨c, hc, hvr⟩ := hx.vrow.sl (by intro hn; simp at hn; rw [hn] at hlt; simp at hlt)
      rw [hvr] at hu
      rw [run_loop]
      generalize MC.loop keep17_0 body17_0 = L
      obtain ⟨q1, e1⟩ : ∃ q, decide (0 ≤ s.low) = q := ⟨_, rfl⟩
      obtain ⟨q2, e2⟩ : ∃ q, decide (s.low ≤ s.high) = q := ⟨_, rfl⟩
      obtain ⟨q3, e3⟩ : ∃ q, decide (s.high ≤ 12) = q := ⟨_, rfl⟩
      obtain ⟨q4, e4⟩ : ∃ q, decide (IntKind.wrap .i64 (s.high - s.low) ≤ 2) = q := ⟨_, rfl⟩
      rw [lie, e1, e2] at hlc
      cases ok <;> cases q1 <;> cases q2 <;> cases q3 <;> cases q4 <;> simp (maxSteps := 10000000) [-List.getD_eq_getElem?_getD, body17_0, keep17_0, headV17, stP, PB.cells, hvr, hlt, ha, spA, hlc, e3, e4, hw, hu, hcu, spOk, fairB, e1, e2]
    rw [key]
    have := loopV17 x hx l (k + 1) (ok && spOk s) hlt hd
    rw [List.all_cons, ← Bool.and_assoc]
    exact this
end Go.Ai

set_option maxRecDepth 100000
set_option linter.unusedSimpArgs false
set_option linter.unusedVariables false
namespace Go.Ai
open Go.Part (Sp Cp)
def headC17 (x : PB) (ok : Bool) (k : Int) : Env := mkE 83 .any [(70, I k), (69, I x.copies.length), (68, x.cr), (3, .bool ok), (1, .box 0 0)]
theorem loopC17 (x : PB) (hx : x.Ok) : ∀ (l : List CpV) (k : Nat) (ok : Bool), k ≤ x.copies.length → x.copies.drop k = l →
    ∃ L, run Cv 17 (.loop keep17_1 body17_1) (headC17 x ok k) (stP x) = some (.ex 2, mkE 83 .any L, stP x) ∧ gt (mkE 83 .any L) 3 = .bool (ok && l.all (copyOk x))
  | [], k, ok, hk, h => by
    obtain rfl := drop_nil hk h
    rw [run_loop]
    simp (maxSteps := 10000000) [-List.getD_eq_getElem?_getD, body17_1, keep17_1, headC17, stP]
    exact ⟨_, rfl, by simp (maxSteps := 10000000) [-List.getD_eq_getElem?_getD, ]⟩
  | s :: l, k, ok, hk, h => by
    obtain ⟨hlt, ha, hd⟩ := head_drop h
    have hw := wrap_succ hlt (by have := hx.lc; omega)
    have hu := hx.vrow.under
    have hcu := hx.crow.under
    have hs : s.Ok := hx.cp s (by rw [← ha]; exact List.getElem_mem hlt)
    have hcall := isCopy_call x hx s hs
    have hsu := hs.row.under
    have p1 := hs.row.pur
    have p2 := hx.vrow.pur
    have p3 := hs.row.cell
    have key : run Cv 17 (.loop keep17_1 body17_1) (headC17 x ok k) (stP x) = run Cv 17 (.loop keep17_1 body17_1) (headC17 x (ok && copyOk x s) (k + 1)) (stP x) := by
      obtain ⟨c, hc, hcr⟩ := hx.crow.sl (by intro hn; simp at hn; rw [hn] at hlt; simp at hlt)
      rw [hcr] at hcu
      have p4 : ∀ σ n, pur σ (n + 1) (.sl 2 (x.copies.map CpV.av) c) = some (.sl 2 (x.copies.map CpV.av) c, false) := fun σ n => by rw [← hcr]; exact hx.crow.pur σ n
      rw [run_loop]
      generalize MC.loop keep17_1 body17_1 = L
      simp only [PB.av, PB.cells, CpV.av, hcr] at hcall
      cases ok <;> simp (maxSteps := 10000000) [-List.getD_eq_getElem?_getD, body17_1, keep17_1, headC17, stP, PB.cells, hcr, hlt, ha, CpV.av, hcall, hw, hu, hcu, hsu, p1, p2, p3, p4]
    rw [key]
    have := loopC17 x hx l (k + 1) (ok && copyOk x s) hlt hd
    rw [List.all_cons, ← Bool.and_assoc]
    exact this
theorem five : ∀ q1 q2 q3 q4 q5 : Bool, q1 = false ∨ (q1 = true ∧ (q2 = false ∨ (q2 = true ∧ (q3 = false ∨ (q3 = true ∧ (q4 = false ∨ (q4 = true ∧ (q5 = false ∨ q5 = true)))))))) := by decide
def checkOk (x : PB) : Bool := (lie x.N 1 3 && (lie x.spans.length 1 3 && (lie x.step 0 7 && (lie x.chords 0 255 && (lie x.perfect 0 255 && decide ((x.copies.length : Int) ≤ 4)))))) && x.spans.all spOk && x.copies.all (copyOk x)
theorem check_call (x : PB) (hx : x.Ok) : call Cv 17 [x.av] = some (I (if checkOk x then 0 else 50)) := by
  have h1 := vlen hx
  have h2 := clen hx
  have w1 := within_call x.N 1 3
  have w2 := within_call x.spans.length 1 3
  have w3 := within_call x.step 0 7
  have w4 := within_call x.chords 0 255
  have w5 := within_call x.perfect 0 255
  have p2 := hx.vrow.cell
  have p3 := hx.crow.cell
  obtain ⟨q1, e1⟩ : ∃ q, lie x.N 1 3 = q := ⟨_, rfl⟩
  obtain ⟨q2, e2⟩ : ∃ q, lie x.spans.length 1 3 = q := ⟨_, rfl⟩
  obtain ⟨q3, e3⟩ : ∃ q, lie x.step 0 7 = q := ⟨_, rfl⟩
  obtain ⟨q4, e4⟩ : ∃ q, lie x.chords 0 255 = q := ⟨_, rfl⟩
  obtain ⟨q5, e5⟩ : ∃ q, lie x.perfect 0 255 = q := ⟨_, rfl⟩
  obtain ⟨q6, e6⟩ : ∃ q, decide ((x.copies.length : Int) ≤ 4) = q := ⟨_, rfl⟩
  have key : ∀ ok : Bool, ok = (lie x.N 1 3 && (lie x.spans.length 1 3 && (lie x.step 0 7 && (lie x.chords 0 255 && (lie x.perfect 0 255 && decide ((x.copies.length : Int) ≤ 4)))))) → call Cv 17 [x.av] = some (I (if (ok && x.spans.all spOk) && x.copies.all (copyOk x) then 0 else 50)) := by
    intro ok hok
    have lv := loopV17 x hx x.spans 0 ok (Nat.zero_le _) rfl
    obtain ⟨Lc, lc, lc3⟩ := loopC17 x hx x.copies 0 (ok && x.spans.all spOk) (Nat.zero_le _) rfl
    generalize (ok && x.spans.all spOk) = ok2 at *
    have lv' : ∀ E : Env, mask keep17_0 E = headV17 x ok (0 : Nat) → run Cv 17 (.loop keep17_0 body17_0) E (stP x) = some (.ex 0, mkE 83 .any [(42, .bool false), (41, I x.spans.length), (40, I x.spans.length), (39, x.vr), (3, .bool ok2), (1, .box 0 0)], stP x) := fun E hE => by rw [run_loop_mask, hE]; exact lv
    have lc' : ∀ E : Env, mask keep17_1 E = headC17 x ok2 (0 : Nat) → run Cv 17 (.loop keep17_1 body17_1) E (stP x) = some (.ex 2, mkE 83 .any Lc, stP x) := fun E hE => by rw [run_loop_mask, hE]; exact lc
    simp only [keep17_0, headV17, stP, PB.cells] at lv'
    simp only [keep17_1, headC17, stP, PB.cells] at lc'
    rw [e1, e2, e3, e4, e5, e6] at hok
    rw [e1] at w1
    rw [e2] at w2
    rw [e3] at w3
    rw [e4] at w4
    rw [e5] at w5
    rw [call_run comp17 (Nat.le_of_ble_eq_true rfl)]
    generalize x.copies.all (copyOk x) = ok3 at *
    rcases five q1 q2 q3 q4 q5 with rfl | ⟨rfl, rfl | ⟨rfl, rfl | ⟨rfl, rfl | ⟨rfl, rfl | rfl⟩⟩⟩⟩ <;> simp only [Bool.false_and, Bool.true_and, Bool.and_true, Bool.and_false] at hok <;> subst hok <;> cases hb : (ok2 && ok3) <;> rw [hb] at lc3 <;>
      simp (maxSteps := 10000000) [-List.getD_eq_getElem?_getD, code17, PB.av, PB.cells, w1, w2, w3, w4, w5, e6, h1, h2, p2, p3, keep17_0, keep17_1, lv', lc', lc3]
  have := key _ rfl
  rw [this]
  rfl
end Go.Ai

set_option maxRecDepth 100000
set_option linter.unusedSimpArgs false
set_option linter.unusedVariables false
/-! Check: the reference's. -/
namespace Go.Ai
open Go.Part (Sp Cp)
theorem isVoice_call (x : PB) (hx : x.Ok) (n : Int) : call Cv 71 [x.av, I n] = some (.bool (lie n 0 ((x.spans.length : Int) - 1))) := by
  have h1 := vlen hx
  have h4 := less_one hx.lv
  have h5 := lies' n 0 ((x.spans.length : Int) - 1)
  have p2 := hx.vrow.cell
  have p3 := hx.crow.cell
  rw [call_run comp71 (Nat.le_of_ble_eq_true rfl)]
  simp (maxSteps := 10000000) [-List.getD_eq_getElem?_getD, code71, PB.av, PB.cells, h1, h4, h5, p2, p3]
def stC (x : PB) (c : CpV) : St := { boxes := [x.cells, [I c.cp.voice, c.row]] }
def head64 (ok : Bool) (k : Int) : Env := mkE 36 .any [(6, I k), (5, .bool ok), (3, .box 1 0)]
theorem loop64 (x : PB) (hx : x.Ok) (c : CpV) (hc : c.Ok) : ∀ (l : List Int) (k : Nat) (ok : Bool), k ≤ c.cp.notes.length → c.cp.notes.drop k = l →
    ∃ L, run Cv 64 (.loop keep64_0 body64_0) (head64 ok k) (stC x c) = some (.ex 0, mkE 36 .any L, stC x c) ∧ gt (mkE 36 .any L) 5 = .bool (ok && !l.any bad12)
  | l, k, false, hk, h => by
    rw [run_loop]
    simp (maxSteps := 10000000) [-List.getD_eq_getElem?_getD, body64_0, keep64_0, head64, stC]
    exact ⟨_, rfl, by simp (maxSteps := 10000000) [-List.getD_eq_getElem?_getD, ]⟩
  | [], k, true, hk, h => by
    obtain rfl := drop_nil hk h
    have h2 := row_len hc.row
    rw [run_loop]
    simp (maxSteps := 10000000) [-List.getD_eq_getElem?_getD, body64_0, keep64_0, head64, stC, h2]
    exact ⟨_, rfl, by simp (maxSteps := 10000000) [-List.getD_eq_getElem?_getD, ]⟩
  | a :: l, k, true, hk, h => by
    obtain ⟨hlt, ha, hd⟩ := head_drop h
    have h2 := row_len hc.row
    have hw := wrap_succ hlt (by have := hc.len; omega)
    have hu := hx.vrow.under
    have hcu := hx.crow.under
    have hru := hc.row.under
    have h5 := lies' a 0 12
    obtain ⟨q, hq⟩ : ∃ q, lie a 0 12 = q := ⟨_, rfl⟩
    rw [hq] at h5
    have key : run Cv 64 (.loop keep64_0 body64_0) (head64 true k) (stC x c) = run Cv 64 (.loop keep64_0 body64_0) (head64 q (k + 1)) (stC x c) := by
      obtain ⟨cp, hcc, hr⟩ := row_sl hc.row (by rintro hn; rw [hn] at hlt; simp at hlt)
      rw [hr] at hru
      simp only [ints] at hru
      rw [run_loop]
      generalize MC.loop keep64_0 body64_0 = L
      simp (maxSteps := 10000000) [-List.getD_eq_getElem?_getD, body64_0, keep64_0, head64, stC, hr, ints, PB.cells, hlt, ha, h5, hw, hu, hcu, hru]
    rw [key]
    have := loop64 x hx c hc l (k + 1) q hlt hd
    have hb : bad12 a = !q := by rw [bad12, hq]
    simp only [List.any_cons, hb, Bool.true_and, Bool.not_or, Bool.not_not]
    exact this
theorem rCopy_call (x : PB) (hx : x.Ok) (c : CpV) (hc : c.Ok) : call Cv 64 [x.av, c.av] = some (.bool (copyOk x c)) := by
  have h2 := row_len hc.row
  have h5 := isVoice_call x hx c.cp.voice
  have p1 := hc.row.cell
  have p2 := hx.vrow.cell
  have p3 := hx.crow.cell
  have p4 := hx.vrow.pur
  have p5 := hx.crow.pur
  have key : ∀ ok : Bool, ok = (lie c.cp.voice 0 ((x.spans.length : Int) - 1) && ((c.cp.notes.length : Int) == x.N)) → call Cv 64 [x.av, c.av] = some (.bool (ok && !c.cp.notes.any bad12)) := by
    intro ok hok
    obtain ⟨L, hl, hl3⟩ := loop64 x hx c hc c.cp.notes 0 ok (Nat.zero_le _) rfl
    have hl' : ∀ E : Env, mask keep64_0 E = head64 ok (0 : Nat) → run Cv 64 (.loop keep64_0 body64_0) E (stC x c) = some (.ex 0, mkE 36 .any L, stC x c) := fun E hE => by rw [run_loop_mask, hE]; exact hl
    simp only [keep64_0, head64, stC, PB.cells] at hl'
    obtain ⟨q, hq⟩ : ∃ q, lie c.cp.voice 0 ((x.spans.length : Int) - 1) = q := ⟨_, rfl⟩
    obtain ⟨q2, hq2⟩ : ∃ q, ((c.cp.notes.length : Int) == x.N) = q := ⟨_, rfl⟩
    rw [hq] at h5
    rw [hq, hq2] at hok
    simp only [PB.av, PB.cells] at h5
    subst hok
    rw [call_run comp64 (Nat.le_of_ble_eq_true rfl)]
    generalize (!c.cp.notes.any bad12) = z at *
    cases q <;> cases q2 <;> simp only [Bool.false_and, Bool.true_and, Bool.and_true, Bool.and_false] at hl' hl3 ⊢ <;> simp (maxSteps := 10000000) [-List.getD_eq_getElem?_getD, code64, PB.av, PB.cells, CpV.av, h2, h5, p1, p2, p3, p4, p5, hq2, keep64_0, hl', hl3]
  rw [key _ rfl, copyOk, Bool.and_assoc]
theorem rFair_call (s : Sp) : call Cv 63 [spA s, I 0, I 12, I 2] = some (.bool (spOk s)) := fair_call ..
end Go.Ai

set_option maxRecDepth 100000
set_option linter.unusedSimpArgs false
set_option linter.unusedVariables false
namespace Go.Ai
open Go.Part (Sp Cp)
def headV18 (ok : Bool) (k : Int) : Env := mkE 71 .any [(4, I k), (3, .bool ok), (1, .box 0 0)]
theorem loopV18 (x : PB) (hx : x.Ok) : ∀ (l : List Sp) (k : Nat) (ok : Bool), k ≤ x.spans.length → x.spans.drop k = l →
    ∃ L, run Cv 18 (.loop keep18_0 body18_0) (headV18 ok k) (stP x) = some (.ex 0, mkE 71 .any L, stP x) ∧ gt (mkE 71 .any L) 3 = .bool (ok && l.all spOk) ∧ gt (mkE 71 .any L) 1 = .box 0 0
  | l, k, false, hk, h => by
    rw [run_loop]
    simp (maxSteps := 10000000) [-List.getD_eq_getElem?_getD, body18_0, keep18_0, headV18, stP]
    exact ⟨_, rfl, by simp (maxSteps := 10000000) [-List.getD_eq_getElem?_getD, ], by simp (maxSteps := 10000000) [-List.getD_eq_getElem?_getD, ]⟩
  | [], k, true, hk, h => by
    obtain rfl := drop_nil hk h
    have h2 := vlen hx
    rw [run_loop]
    simp (maxSteps := 10000000) [-List.getD_eq_getElem?_getD, body18_0, keep18_0, headV18, stP, PB.cells, h2]
    exact ⟨_, rfl, by simp (maxSteps := 10000000) [-List.getD_eq_getElem?_getD, ], by simp (maxSteps := 10000000) [-List.getD_eq_getElem?_getD, ]⟩
  | s :: l, k, true, hk, h => by
    obtain ⟨hlt, ha, hd⟩ := head_drop h
    have h2 := vlen hx
    have hw := wrap_succ hlt (by have := hx.lv; omega)
    have hu := hx.vrow.under
    have hcu := hx.crow.under
    have hf := rFair_call s
    have key : run Cv 18 (.loop keep18_0 body18_0) (headV18 true k) (stP x) = run Cv 18 (.loop keep18_0 body18_0) (headV18 (spOk s) (k + 1)) (stP x) := by
      obtain ⟨c, hc, hvr⟩ := hx.vrow.sl (by intro hn; simp at hn; rw [hn] at hlt; simp at hlt)
      rw [hvr] at hu
      simp only [spA] at hf
      rw [run_loop]
      generalize MC.loop keep18_0 body18_0 = L
      simp (maxSteps := 10000000) [-List.getD_eq_getElem?_getD, body18_0, keep18_0, headV18, stP, PB.cells, hvr, hlt, ha, spA, hf, hw, hu, hcu]
    rw [key]
    have := loopV18 x hx l (k + 1) (spOk s) hlt hd
    rw [List.all_cons, Bool.true_and]
    exact this
def headC18 (ok : Bool) (k : Int) : Env := mkE 71 .any [(5, I k), (3, .bool ok), (1, .box 0 0)]
theorem loopC18 (x : PB) (hx : x.Ok) : ∀ (l : List CpV) (k : Nat) (ok : Bool), k ≤ x.copies.length → x.copies.drop k = l →
    ∃ L, run Cv 18 (.loop keep18_1 body18_1) (headC18 ok k) (stP x) = some (.ex 2, mkE 71 .any L, stP x) ∧ gt (mkE 71 .any L) 3 = .bool (ok && l.all (copyOk x))
  | l, k, false, hk, h => by
    rw [run_loop]
    simp (maxSteps := 10000000) [-List.getD_eq_getElem?_getD, body18_1, keep18_1, headC18, stP]
    exact ⟨_, rfl, by simp (maxSteps := 10000000) [-List.getD_eq_getElem?_getD, ]⟩
  | [], k, true, hk, h => by
    obtain rfl := drop_nil hk h
    have h2 := clen hx
    rw [run_loop]
    simp (maxSteps := 10000000) [-List.getD_eq_getElem?_getD, body18_1, keep18_1, headC18, stP, PB.cells, h2]
    exact ⟨_, rfl, by simp (maxSteps := 10000000) [-List.getD_eq_getElem?_getD, ]⟩
  | s :: l, k, true, hk, h => by
    obtain ⟨hlt, ha, hd⟩ := head_drop h
    have hw := wrap_succ hlt (by have := hx.lc; omega)
    have hu := hx.vrow.under
    have hcu := hx.crow.under
    have hs : s.Ok := hx.cp s (by rw [← ha]; exact List.getElem_mem hlt)
    have hcall := rCopy_call x hx s hs
    have hsu := hs.row.under
    have p1 := hs.row.pur
    have p2 := hx.vrow.pur
    have p3 := hs.row.cell
    have key : run Cv 18 (.loop keep18_1 body18_1) (headC18 true k) (stP x) = run Cv 18 (.loop keep18_1 body18_1) (headC18 (copyOk x s) (k + 1)) (stP x) := by
      obtain ⟨c, hc, hcr⟩ := hx.crow.sl (by intro hn; simp at hn; rw [hn] at hlt; simp at hlt)
      rw [hcr] at hcu
      have p4 : ∀ σ n, pur σ (n + 1) (.sl 2 (x.copies.map CpV.av) c) = some (.sl 2 (x.copies.map CpV.av) c, false) := fun σ n => by rw [← hcr]; exact hx.crow.pur σ n
      rw [run_loop]
      generalize MC.loop keep18_1 body18_1 = L
      simp only [PB.av, PB.cells, CpV.av, hcr] at hcall
      simp (maxSteps := 10000000) [-List.getD_eq_getElem?_getD, body18_1, keep18_1, headC18, stP, PB.cells, hcr, hlt, ha, CpV.av, hcall, hw, hu, hcu, hsu, p1, p2, p3, p4]
    rw [key]
    have := loopC18 x hx l (k + 1) (copyOk x s) hlt hd
    rw [List.all_cons, Bool.true_and]
    exact this
theorem rCheck_call (x : PB) (hx : x.Ok) : call Cv 18 [x.av] = some (I (if checkOk x then 0 else 50)) := by
  have h1 := vlen hx
  have h2 := clen hx
  have w1 := lies' x.N 1 3
  have w2 := lies' x.spans.length 1 3
  have w3 := lies' x.step 0 7
  have w4 := lies' x.chords 0 255
  have w5 := lies' x.perfect 0 255
  have p2 := hx.vrow.cell
  have p3 := hx.crow.cell
  obtain ⟨q1, e1⟩ : ∃ q, lie x.N 1 3 = q := ⟨_, rfl⟩
  obtain ⟨q2, e2⟩ : ∃ q, lie x.spans.length 1 3 = q := ⟨_, rfl⟩
  obtain ⟨q3, e3⟩ : ∃ q, lie x.step 0 7 = q := ⟨_, rfl⟩
  obtain ⟨q4, e4⟩ : ∃ q, lie x.chords 0 255 = q := ⟨_, rfl⟩
  obtain ⟨q5, e5⟩ : ∃ q, lie x.perfect 0 255 = q := ⟨_, rfl⟩
  obtain ⟨q6, e6⟩ : ∃ q, decide ((x.copies.length : Int) ≤ 4) = q := ⟨_, rfl⟩
  have key : ∀ ok : Bool, ok = (lie x.N 1 3 && (lie x.spans.length 1 3 && (lie x.step 0 7 && (lie x.chords 0 255 && (lie x.perfect 0 255 && decide ((x.copies.length : Int) ≤ 4)))))) → call Cv 18 [x.av] = some (I (if (ok && x.spans.all spOk) && x.copies.all (copyOk x) then 0 else 50)) := by
    intro ok hok
    obtain ⟨Lv, lv, lv3, lv1⟩ := loopV18 x hx x.spans 0 ok (Nat.zero_le _) rfl
    obtain ⟨Lc, lc, lc3⟩ := loopC18 x hx x.copies 0 (ok && x.spans.all spOk) (Nat.zero_le _) rfl
    generalize (ok && x.spans.all spOk) = ok2 at *
    have lv' : ∀ E : Env, mask keep18_0 E = headV18 ok (0 : Nat) → run Cv 18 (.loop keep18_0 body18_0) E (stP x) = some (.ex 0, mkE 71 .any Lv, stP x) := fun E hE => by rw [run_loop_mask, hE]; exact lv
    have lc' : ∀ E : Env, mask keep18_1 E = headC18 ok2 (0 : Nat) → run Cv 18 (.loop keep18_1 body18_1) E (stP x) = some (.ex 2, mkE 71 .any Lc, stP x) := fun E hE => by rw [run_loop_mask, hE]; exact lc
    simp only [keep18_0, headV18, stP, PB.cells] at lv'
    simp only [keep18_1, headC18, stP, PB.cells] at lc'
    rw [e1, e2, e3, e4, e5, e6] at hok
    rw [e1] at w1
    rw [e2] at w2
    rw [e3] at w3
    rw [e4] at w4
    rw [e5] at w5
    rw [call_run comp18 (Nat.le_of_ble_eq_true rfl)]
    generalize x.copies.all (copyOk x) = ok3 at *
    rcases five q1 q2 q3 q4 q5 with rfl | ⟨rfl, rfl | ⟨rfl, rfl | ⟨rfl, rfl | ⟨rfl, rfl | rfl⟩⟩⟩⟩ <;> simp only [Bool.false_and, Bool.true_and, Bool.and_true, Bool.and_false] at hok <;> subst hok <;> cases hb : (ok2 && ok3) <;> rw [hb] at lc3 <;>
      simp (maxSteps := 10000000) [-List.getD_eq_getElem?_getD, code18, PB.av, PB.cells, w1, w2, w3, w4, w5, e6, h1, h2, p2, p3, keep18_0, keep18_1, lv', lv3, lv1, lc', lc3]
  have := key _ rfl
  rw [this]
  rfl
end Go.Ai

set_option maxRecDepth 100000
set_option linter.unusedSimpArgs false
set_option linter.unusedVariables false
/-! Steps and the rules of the style. -/
namespace Go.Ai
open Go.Part (Sp Cp)
/-- A way: from, to, voice. -/
theorem step_call (f t : List Int) (hf : f.length = 3) (ht : t.length = 3) (v : Nat) (hv : v < 3) (h1 : ∀ n ∈ f, 0 ≤ n + 1 ∧ n ≤ 12) (h2 : ∀ n ∈ t, 0 ≤ n + 1 ∧ n ≤ 12) : call Cv 123 [.agg (ints f ++ ints t ++ [I v])] = some (I (t.getD v 0 - f.getD v 0)) := by
  match f, hf, t, ht with
  | [a, b, c], _, [p, q, r], _ =>
    simp only [List.mem_cons, List.not_mem_nil, or_false, forall_eq_or_imp, forall_eq] at h1 h2
    obtain ⟨a1, b1, c1⟩ := h1
    obtain ⟨p1, q1, r1⟩ := h2
    have w1 : IntKind.wrap .i64 (p - a) = p - a := wrap_small (by omega) (by omega)
    have w2 : IntKind.wrap .i64 (q - b) = q - b := wrap_small (by omega) (by omega)
    have w3 : IntKind.wrap .i64 (r - c) = r - c := wrap_small (by omega) (by omega)
    rw [call_run comp123 (Nat.le_of_ble_eq_true rfl)]
    obtain rfl | rfl | rfl : v = 0 ∨ v = 1 ∨ v = 2 := by omega
    · (simp (maxSteps := 10000000) [-List.getD_eq_getElem?_getD, code123, ints, w1]; rfl)
    · (simp (maxSteps := 10000000) [-List.getD_eq_getElem?_getD, code123, ints, w2]; rfl)
    · (simp (maxSteps := 10000000) [-List.getD_eq_getElem?_getD, code123, ints, w3]; rfl)
theorem above_call (f t : List Int) (hf : f.length = 3) (ht : t.length = 3) (v : Nat) (hv : v < 2) (h2 : ∀ n ∈ t, 0 ≤ n + 1 ∧ n ≤ 12) : call Cv 121 [.agg (ints f ++ ints t ++ [I ((v + 1 : Nat) : Int)])] = some (I (t.getD (v + 1) 0 - t.getD v 0)) := by
  match f, hf, t, ht with
  | [a, b, c], _, [p, q, r], _ =>
    simp only [List.mem_cons, List.not_mem_nil, or_false, forall_eq_or_imp, forall_eq] at h2
    obtain ⟨p1, q1, r1⟩ := h2
    have w1 : IntKind.wrap .i64 (q - p) = q - p := wrap_small (by omega) (by omega)
    have w2 : IntKind.wrap .i64 (r - q) = r - q := wrap_small (by omega) (by omega)
    have w3 : IntKind.wrap .i64 (1 - 1) = 0 := by decide
    have w4 : IntKind.wrap .i64 (2 - 1) = 1 := by decide
    rw [call_run comp121 (Nat.le_of_ble_eq_true rfl)]
    obtain rfl | rfl : v = 0 ∨ v = 1 := by omega
    · (simp (maxSteps := 10000000) [-List.getD_eq_getElem?_getD, code121, ints, w1, w3]; rfl)
    · (simp (maxSteps := 10000000) [-List.getD_eq_getElem?_getD, code121, ints, w2, w4]; rfl)
end Go.Ai
