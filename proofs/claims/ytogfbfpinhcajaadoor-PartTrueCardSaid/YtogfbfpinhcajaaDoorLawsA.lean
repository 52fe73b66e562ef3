/- This text shows the laws of the copies that must be false, in the interpreter. No conditions of its own. -/
import Derived.Test.YtogfbfpinhcajaaDoorHelpB
import Derived.Test.YtogfbfpinhcajaaDoorCodesL
set_option linter.unusedSimpArgs false
set_option linter.unusedVariables false
set_option maxRecDepth 100000
set_option linter.unusedSimpArgs false
set_option linter.unusedVariables false
/-! The law of the copies that must be false. -/
namespace Go.Ai
open Go.Part (Sp Cp Bk truths)
open Go.Least (bitsL shorterL incFrom)
theorem keepV_cp (but : List Int) : ∀ (l : List CpV) (k : Nat), (keepV but l k).map CpV.cp = Part.keepC (butF but) (l.map CpV.cp) k
  | [], _ => rfl
  | c :: l, k => by
    rw [keepV, List.map_append, keepV_cp but l (k + 1), List.map_cons, Part.keepC]
    by_cases h : (k : Int) ∈ but <;> simp [h, butF]
theorem keepV_sub (but : List Int) : ∀ (l : List CpV) (k : Nat), (∀ c ∈ keepV but l k, c ∈ l) ∧ (keepV but l k).length ≤ l.length
  | [], _ => ⟨fun _ h => h, Nat.le_refl _⟩
  | c :: l, k => by
    obtain ⟨h1, h2⟩ := keepV_sub but l (k + 1)
    rw [keepV]
    split
    · exact ⟨fun u hu => List.mem_cons_of_mem _ (h1 u (by simpa using hu)), by simp; omega⟩
    · refine ⟨fun u hu => ?_, by simp; omega⟩
      rcases List.mem_cons.1 (by simpa using hu) with rfl | hu
      · exact .head _
      · exact List.mem_cons_of_mem _ (h1 u hu)
theorem without_Ts (x : PB) (but : List Int) : Ts (x.having (keepV but x.copies 0)) noneF = Ts x (butF but) := by
  have e : bkOf (x.having (keepV but x.copies 0)) = (bkOf x).without (butF but) := by
    show (⟨_, _, _, _, _, _⟩ : Bk) = _
    unfold Part.Bk.without
    rw [show (x.having (keepV but x.copies 0)).copies = keepV but x.copies 0 from rfl, keepV_cp]
    rfl
  unfold Ts
  rw [e]
  exact Part.truths_without (b := bkOf x) (butF but)
theorem copyOk_having (x : PB) (cs : List CpV) (c : CpV) : copyOk (x.having cs) c = copyOk x c := rfl
theorem having_check {x : PB} (hc : checkOk x = true) (cs : List CpV) (h1 : ∀ c ∈ cs, copyOk x c = true) (h2 : cs.length ≤ 4) : checkOk (x.having cs) = true := by
  simp only [checkOk, Bool.and_eq_true, decide_eq_true_eq, List.all_eq_true] at hc ⊢
  obtain ⟨⟨⟨a1, a2, a3, a4, a5, a6⟩, a7⟩, a8⟩ := hc
  exact ⟨⟨⟨a1, a2, a3, a4, a5, by show ((cs.length : Nat) : Int) ≤ 4; omega⟩, a7⟩, fun c hcm => h1 c hcm⟩
theorem copies_ok {x : PB} (hc : checkOk x = true) : ∀ c ∈ x.copies, copyOk x c = true := by
  simp only [checkOk, Bool.and_eq_true, List.all_eq_true] at hc
  exact hc.2
theorem butF_nil : butF [] = noneF := by funext k; simp [butF, noneF]
theorem bits_zero (T : Nat) : bitsL 0 T = [] := by
  have : ∀ n k, Least.sel (fun i => Least.hasB ((0 : Nat) : Int) i) k n = [] := by
    intro n
    induction n with
    | zero => intro k; rfl
    | succ n ih => intro k; rw [Least.sel, ih]; simp [Least.hasB]
  exact this T 0
theorem wrong_told {x : PB} (hc : checkOk x = true) {w : List Int} (h : wrongO x = some w) : Least.Told (okL x) x.copies.length w := by
  rw [wrongO, if_pos hc] at h
  exact Least.told_some (by have := (chk_of hc).nc; omega) h
theorem wrong_not {x : PB} (hc : checkOk x = true) (h : wrongO x = none) (s : Nat) : okL x (bitsL s x.copies.length) = false := by
  rw [wrongO, if_pos hc] at h
  exact Least.told_none (by have := (chk_of hc).nc; omega) h s
theorem okL_nil (x : PB) : okL x [] = decide (Ts x noneF ≠ []) := by rw [okL, butF_nil]
theorem wrong_nil {x : PB} (hc : checkOk x = true) {w : List Int} (h : wrongO x = some w) : w = [] ↔ okL x [] = true := by
  have t := wrong_told hc h
  constructor
  · rintro rfl; exact t.fine
  · intro h0
    have := t.least 0 (Nat.two_pow_pos _) (by rw [bits_zero]; exact h0)
    rw [bits_zero] at this
    cases w with
    | nil => rfl
    | cons a w => simp [shorterL] at this
theorem pow_small {m : Nat} (h : m ≤ 4) : 2 ^ m ≤ 16 := by
  obtain rfl | rfl | rfl | rfl | rfl : m = 0 ∨ m = 1 ∨ m = 2 ∨ m = 3 ∨ m = 4 := by omega
  all_goals decide
/-- The cells of a book, to be told apart from another one's. -/
theorem book_av (x : PB) (hx : x.Ok) : ∃ A : AV, x.av = A ∧ (∀ σ n, pur σ (n + 2) A = some (A, false)) ∧ A.cells.length = 6 ∧ A.cells.all AV.isCell = true := by
  refine ⟨_, rfl, fun σ n => ?_, rfl, ?_⟩
  · simp [PB.av, PB.cells, pur, purAll, hx.vrow.pur, hx.crow.pur]
  · simp [PB.av, PB.cells, hx.vrow.cell, hx.crow.cell]
set_option maxHeartbeats 4000000 in
theorem wrong_law (x : PB) (hx : x.Ok) (n : Int) : call Cv 12 [x.av, I n] = some (.bool true) := by
  have hsm := sound_call x hx
  have hs := noted_call
  obtain ⟨y, hy, hyc, hyp, d1⟩ := wrongP_call x hx
  have hyl := row_len hy
  have hvc := hx.vrow.cell
  have hcc := hx.crow.cell
  have hvp := hx.vrow.pur
  have hcp := hx.crow.pur
  cases hc : checkOk x with
  | false =>
    have hw : wrongL x = [] := by simp [wrongL, wrongO, hc]
    have he : wrongE x = 50 := by simp [wrongE, hc]
    rw [hw] at hyl
    rw [he] at d1
    rw [hc] at hsm
    simp only [PB.av, PB.cells] at hsm d1
    rw [call_run comp12 (Nat.le_of_ble_eq_true rfl)]
    simp (maxSteps := 10000000) [-List.getD_eq_getElem?_getD, code12, PB.av, PB.cells, hvc, hcc, hvp, hcp, hsm, hs, d1, hyl, hyp]
  | true =>
    rw [hc] at hsm
    have hk := chk_of hc
    have hnc := hk.nc
    have hp16 := pow_small hnc
    have hpos : 0 < 2 ^ x.copies.length := Nat.two_pow_pos _
    have d2 := rightP_call x hx
    rw [hc] at d2
    have hlen := clen hx
    have hT := turn_call n ((2 ^ x.copies.length : Nat) : Int) (by omega)
    obtain ⟨r1, r2⟩ := turn_range n ((2 ^ x.copies.length : Nat) : Int) (by omega)
    obtain ⟨s, hs'⟩ := Int.eq_ofNat_of_zero_le r1
    rw [hs'] at hT r2
    have hs2 : s < 2 ^ x.copies.length := by omega
    obtain ⟨z, hz, d3⟩ := bits_call s (by omega) x.copies.length (by omega)
    have hzp := hz.pur
    have hblen := Least.bits_len s x.copies.length
    obtain ⟨k3, k4⟩ := keepV_sub (bitsL s x.copies.length) x.copies 0
    have d5 := without_call x hx (by omega) (bitsL s x.copies.length) z hz (by omega)
    have o2 := having_ok hx (keepV (bitsL s x.copies.length) x.copies 0) (by omega) (fun c hcm => hx.cp c (k3 c hcm))
    have d7 := rightP_call _ o2
    rw [having_check hc _ (fun c hcm => copies_ok hc c (k3 c hcm)) (by omega), without_Ts] at d7
    have hok2 : decide (Ts x (butF (bitsL s x.copies.length)) ≠ []) = okL x (bitsL s x.copies.length) := rfl
    obtain ⟨A2, e2, pA2, lA2, cA2⟩ := book_av _ o2
    rw [e2] at d5 d7
    rw [hok2] at d7
    have hok0 := okL_nil x
    rw [← hok0] at d2
    have hsh : IntKind.wrap .i64 ((2 : Int) ^ min x.copies.length (IntKind.bits .i64)) = ((2 ^ x.copies.length : Nat) : Int) := by
      have : min x.copies.length (IntKind.bits .i64) = x.copies.length := by
        show min _ 64 = _
        omega
      rw [this, show ((2 : Int) ^ x.copies.length) = ((2 ^ x.copies.length : Nat) : Int) from by norm_cast]
      exact wrap_small (by omega) (by omega)
    have hneg : ¬ (x.copies.length : Int) < 0 := by omega
    cases hwo : wrongO x with
    | none =>
      have he : wrongE x = 52 := by simp [wrongE, hc, hwo]
      have hw : wrongL x = [] := by simp [wrongL, hwo]
      rw [he] at d1
      rw [hw] at hyl
      have n0 := wrong_not hc hwo 0
      rw [bits_zero] at n0
      have n1 := wrong_not hc hwo s
      rw [n0] at d2
      rw [n1] at d7
      simp only [PB.av, PB.cells, Bool.and_false, if_true] at hsm d1 d2 d5 d7
      generalize 2 ^ x.copies.length = P at *
      rw [call_run comp12 (Nat.le_of_ble_eq_true rfl)]
      simp (maxSteps := 10000000) [-List.getD_eq_getElem?_getD, code12, PB.av, PB.cells, hvc, hcc, hvp, hcp, hsm, hs, d1, d2, d3, d5, d7, hyl, hyp, hzp, hlen, hneg, hsh, hT, pA2]
    | some w =>
      have he : wrongE x = 0 := by simp [wrongE, hc, hwo]
      have hw : wrongL x = w := by simp [wrongL, hwo]
      rw [he] at d1
      rw [hw] at hyl hy
      have tw := wrong_told hc hwo
      have hwn := wrong_nil hc hwo
      have o1 := ord_call w y hy (by have := tw.len; omega) x.copies.length (by omega) (by omega)
      rw [inc_ord _ _ 0 _ (by omega) (Int.le_refl _) tw.inc] at o1
      obtain ⟨k1, k2⟩ := keepV_sub w x.copies 0
      have d4 := without_call x hx (by omega) w y hy (by have := tw.len; omega)
      have o3 := having_ok hx (keepV w x.copies 0) (by omega) (fun c hcm => hx.cp c (k1 c hcm))
      have d6 := rightP_call _ o3
      rw [having_check hc _ (fun c hcm => copies_ok hc c (k1 c hcm)) (by omega), without_Ts, show decide (Ts x (butF w) ≠ []) = okL x w from rfl, tw.fine] at d6
      obtain ⟨A1, e1, pA1, lA1, cA1⟩ := book_av _ o3
      rw [e1] at d4 d6
      have d8 := shorter_call (bitsL s x.copies.length) w z y hz hy (by omega) (by have := tw.len; omega)
      have hl := tw.least s hs2
      have hemp : ((w.length : Int) == 0) = okL x [] := by
        rw [Bool.eq_iff_iff, ← hwn, ← List.length_eq_zero_iff]; simp
      generalize okL x (bitsL s x.copies.length) = f2 at *
      generalize shorterL (bitsL s x.copies.length) w = sh at *
      generalize okL x [] = f0 at *
      simp only [PB.av, PB.cells, Bool.and_self, if_true, Bool.true_and] at hsm d1 d2 d4 d5 d6 d7
      generalize 2 ^ x.copies.length = P at *
      rw [call_run comp12 (Nat.le_of_ble_eq_true rfl)]
      cases f2 <;> cases sh <;> cases f0 <;> first | (simp at hl; done) | simp (maxSteps := 10000000) [-List.getD_eq_getElem?_getD, code12, PB.av, PB.cells, hvc, hcc, hvp, hcp, hsm, hs, d1, d2, d3, d4, d5, d6, d7, d8, hyl, hyp, hzp, hlen, hneg, hsh, hT, pA1, pA2, o1, hemp]
end Go.Ai

set_option maxRecDepth 100000
set_option linter.unusedSimpArgs false
set_option linter.unusedVariables false
/-! The law of the wrong bar. -/
namespace Go.Ai
open Go.Part (Sp Cp Bk truths cnt at' rightK)
theorem posL_mem (C : List Int) (n : Int) : ∀ (l : List Int) (k : Nat), n ∈ posL C k l ↔ ∃ j : Nat, n = ((k + j : Nat) : Int) ∧ ∃ c, l[j]? = some c ∧ 0 < c
  | [], k => by simp [posL]
  | c :: l, k => by
    rw [posL, List.mem_append, posL_mem C n l (k + 1)]
    constructor
    · rintro (h | ⟨j, h1, c', h2, h3⟩)
      · split at h
        · simp only [List.mem_singleton] at h
          exact ⟨0, by simpa using h, c, rfl, by assumption⟩
        · simp at h
      · exact ⟨j + 1, by rw [h1]; omega, c', by simpa using h2, h3⟩
    · rintro ⟨j, h1, c', h2, h3⟩
      cases j with
      | zero =>
        simp only [List.getElem?_cons_zero, Option.some.injEq] at h2
        subst h2
        left; rw [if_pos h3]; simp [h1]
      | succ j =>
        right; exact ⟨j, by rw [h1]; omega, c', by simpa using h2, h3⟩
theorem posOf_mem (T : List (List Int)) (j : Nat) (n : Int) : n ∈ posOf T j ↔ 0 ≤ n ∧ n ≤ 12 ∧ 0 < cnt T j n := by
  rw [posOf, posL_mem]
  constructor
  · rintro ⟨k, h1, c, h2, h3⟩
    rw [Nat.zero_add] at h1
    rw [cntsL, List.getElem?_map] at h2
    by_cases hk : k < 13
    · rw [List.getElem?_range hk] at h2
      simp only [Option.map_some, Option.some.injEq] at h2
      rw [h1]
      exact ⟨by omega, by omega, by omega⟩
    · rw [List.getElem?_eq_none (by simp; omega)] at h2
      simp at h2
  · rintro ⟨h0, h12, hc⟩
    obtain ⟨k, rfl⟩ := Int.eq_ofNat_of_zero_le h0
    refine ⟨k, by simp, ((cnt T j k : Nat) : Int), ?_, by omega⟩
    rw [cntsL, List.getElem?_map, List.getElem?_range (by omega)]
    rfl
theorem posL_len (C : List Int) : ∀ (l : List Int) (k : Nat), (posL C k l).length ≤ l.length
  | [], _ => Nat.le_refl _
  | c :: l, k => by
    have := posL_len C l (k + 1)
    rw [posL, List.length_append, List.length_cons]
    split <;> simp <;> omega
theorem posOf_len (T : List (List Int)) (j : Nat) : (posOf T j).length ≤ 13 := by
  have := posL_len (cntsL T j) (cntsL T j) 0
  rw [posOf]
  simpa [cntsL] using this
theorem posL_inc (C : List Int) : ∀ (l : List Int) (k : Nat) (k' : Int), k' ≤ k → k + l.length ≤ 13 → Least.incFrom 13 k' (posL C k l)
  | [], _, _, _, _ => trivial
  | c :: l, k, k', h, hl => by
    have ih := posL_inc C l (k + 1)
    rw [List.length_cons] at hl
    rw [posL]
    split
    · exact ⟨h, by omega, ih _ (by omega) (by omega)⟩
    · simpa using ih k' (by omega) (by omega)
theorem posOf_inc (T : List (List Int)) (j : Nat) : Least.incFrom 13 0 (posOf T j) := posL_inc _ _ 0 0 (Int.le_refl _) (by simp [cntsL])
theorem idx_neg (v : Int) (l : List Int) : decide (idx v l 0 < 0) = !decide (v ∈ l) := by
  have := idx_nonneg v l 0
  rw [← this]
  by_cases h0 : 0 ≤ idx v l 0 <;> simp [h0] <;> omega
/-- What is told of a place of a book. -/
theorem notes_ok {x : PB} (hx : x.Ok) (hc : checkOk x = true) (hT : Ts x noneF ≠ []) {v i : Nat} (hv : v < x.spans.length) (hi : i < x.N.toNat) : call Cv 21 [x.av, I v, I i] = some (.tup [rowF (posOf (Ts x noneF) (v * x.N.toNat + i)), I 0]) := by
  have h := chk_of hc
  have hN := h.N
  have hp : isPlace x v i = true := by
    simp only [isPlace, lie, Bool.and_eq_true, decide_eq_true_eq]
    rw [wrap_small (by omega) (by omega)]
    omega
  have he : ansE x (isPlace x v i) = 0 := by simp [ansE, hc, hp, hT]
  rw [notesP_call x hx, he]
  simp
theorem bar_spec (T : List (List Int)) (N v : Nat) : ∀ (l : List Int) (k : Nat), match barF T N v l k with
    | none => ∀ i n, l[i]? = some n → cnt T (v * N + (k + i)) n ≠ 0
    | some j => ∃ i n, j = k + i ∧ l[i]? = some n ∧ cnt T (v * N + j) n = 0 ∧ ∀ i' n', i' < i → l[i']? = some n' → cnt T (v * N + (k + i')) n' ≠ 0
  | [], k => by
    simp only [barF]
    intro i n h; simp at h
  | n :: l, k => by
    have ih := bar_spec T N v l (k + 1)
    simp only [barF]
    by_cases h : cnt T (v * N + k) n = 0
    · rw [if_pos h]
      exact ⟨0, n, rfl, rfl, h, fun i' n' h' => by omega⟩
    · rw [if_neg h]
      cases hb : barF T N v l (k + 1) with
      | none =>
        rw [hb] at ih
        intro i m hm
        cases i with
        | zero => simp only [List.getElem?_cons_zero, Option.some.injEq] at hm; subst hm; exact h
        | succ i => have := ih i m (by simpa using hm); rwa [show k + (i + 1) = k + 1 + i by omega]
      | some j =>
        rw [hb] at ih
        obtain ⟨i, m, h1, h2, h3, h4⟩ := ih
        refine ⟨i + 1, m, by omega, by simpa using h2, h3, fun i' n' hi' hn' => ?_⟩
        cases i' with
        | zero => simp only [List.getElem?_cons_zero, Option.some.injEq] at hn'; subst hn'; exact h
        | succ i' => have := h4 i' n' (by omega) (by simpa using hn'); rwa [show k + (i' + 1) = k + 1 + i' by omega]
def st13 (x rest : PB) (c : CpV) : St := { boxes := [x.cells, [I c.cp.voice, c.row], rest.cells] }
theorem loop13 (x rest : PB) (hx : x.Ok) (hr : rest.Ok) (c : CpV) (hc : c.Ok) (kk e : Int) (last : Nat) (hl : last < 100) (hn : ∀ i : Nat, i < last → ∃ (l : List Int) (m : Int), call Cv 21 [rest.av, I c.cp.voice, I i] = some (.tup [rowF l, I 0]) ∧ l.length < 100 ∧ c.cp.notes[i]? = some m ∧ m ∈ l) : ∀ (m i : Nat), i + m = last →
    run Cv 13 (.loop keep13_0 body13_0) (mkE 142 .any [(13, I i), (12, I last), (11, .box 2 0), (8, I e), (7, I kk), (6, .box 1 0)]) (st13 x rest c) = some (.ex 0, mkE 142 .any [(93, .bool false), (92, I last), (91, I last), (13, I last), (12, I last), (11, .box 2 0), (8, I e), (7, I kk), (6, .box 1 0)], st13 x rest c)
  | 0, i, hi => by
    have : i = last := by omega
    subst this
    rw [run_loop]
    simp (maxSteps := 10000000) [-List.getD_eq_getElem?_getD, body13_0, keep13_0, st13]
  | m + 1, i, hi => by
    have hlt : (i : Int) < (last : Int) := by omega
    have hw : IntKind.wrap .i64 ((i : Int) + 1) = i + 1 := wrap_small (by omega) (by omega)
    obtain ⟨l, q, h1, h2, h3, h4⟩ := hn i (by omega)
    have hq := where_call l (rowF l) (rowF_row l) (by omega) q
    have hneg : ¬ idx q l 0 < 0 := by
      have := idx_neg q l
      simpa [h4] using this
    have hilt : i < c.cp.notes.length := (List.getElem?_eq_some_iff.1 h3).1
    have hix : ixsA 1 c.row (I i) = some (.rp [I q] 0) := by
      obtain ⟨cc, hcc, hr⟩ := hc.row.sl (by intro hn; simp [ints] at hn; rw [hn] at hilt; simp at hilt)
      have hg : c.cp.notes[i] = q := (List.getElem?_eq_some_iff.1 h3).2
      rw [hr]
      simp [ixsA, ints, hilt, hg, AV.cells]
    have hvp := hr.vrow.pur
    have hcp := hr.crow.pur
    have hrp := fun σ n => rowF_pur σ n l
    have hu1 := hx.vrow.under
    have hu2 := hx.crow.under
    have hu3 := hr.vrow.under
    have hu4 := hr.crow.under
    have hu5 := hc.row.under
    simp only [PB.av, PB.cells] at h1
    generalize idx q l 0 = j at *
    have key : run Cv 13 (.loop keep13_0 body13_0) (mkE 142 .any [(13, I i), (12, I last), (11, .box 2 0), (8, I e), (7, I kk), (6, .box 1 0)]) (st13 x rest c) = run Cv 13 (.loop keep13_0 body13_0) (mkE 142 .any [(13, I ((i : Int) + 1)), (12, I last), (11, .box 2 0), (8, I e), (7, I kk), (6, .box 1 0)]) (st13 x rest c) := by
      rw [run_loop]
      generalize MC.loop keep13_0 body13_0 = L
      simp (maxSteps := 10000000) [-List.getD_eq_getElem?_getD, -ixsA, -List.all_eq_true, body13_0, keep13_0, st13, PB.cells, hlt, hw, h1, hq, hneg, hix, hvp, hcp, hrp, hu1, hu2, hu3, hu4, hu5]
    rw [key]
    exact loop13 x rest hx hr c hc kk e last hl hn m (i + 1) (by omega)
end Go.Ai

set_option maxRecDepth 100000
set_option linter.unusedSimpArgs false
set_option linter.unusedVariables false
namespace Go.Ai
open Go.Part (Sp Cp Bk truths cnt at' rightK)
theorem right_at (out : Nat → Bool) (v i : Nat) (n : Int) : ∀ (cs : List Cp) (k0 k : Nat) (c : Cp), rightK out v i n cs k0 = true → cs[k]? = some c → c.voice = v → out (k0 + k) = false → c.notes.getD i 0 = n
  | [], _, _, _, _, h, _, _ => by simp at h
  | d :: cs, k0, k, c, hr, h, hv, ho => by
    rw [rightK, Bool.and_eq_true] at hr
    cases k with
    | zero =>
      simp only [List.getElem?_cons_zero, Option.some.injEq] at h
      subst h
      have := hr.1
      simp only [Nat.add_zero] at ho
      simpa [hv, ho] using this
    | succ k => exact right_at out v i n cs (k0 + 1) k c hr.2 (by simpa using h) hv (by rw [← ho]; congr 1; omega)
/-- What is told of a copy stands in all truths that leave it. -/
theorem Ts_copy {x : PB} (h : Chk x) {out : Nat → Bool} {k : Nat} {c : CpV} (hk : x.copies[k]? = some c) (ho : out k = false) {i : Nat} {n : Int} (hi : c.cp.notes[i]? = some n) : ∀ q ∈ Ts x out, at' q (c.cp.voice.toNat * x.N.toNat + i) = n := by
  intro q hq
  have hcm := List.mem_of_getElem? hk
  have hcf := h.copies c hcm
  have hN := h.N
  have hil : i < c.cp.notes.length := (List.getElem?_eq_some_iff.1 hi).1
  have hi' : i < x.N.toNat := by omega
  have hg := (Ts_mem h hq).good c.cp.voice.toNat i (by show _ < x.spans.length; omega) hi'
  have hr := hg.right
  have := right_at out _ i _ (x.copies.map CpV.cp) 0 k c.cp hr (by rw [List.getElem?_map, hk]; rfl) (by omega) (by rw [Nat.zero_add]; exact ho)
  have e : (bkOf x).N = x.N.toNat := rfl
  rw [e] at this
  rw [← this, List.getD_eq_getElem?_getD, hi]; rfl
set_option maxHeartbeats 4000000 in
theorem bar_law (x : PB) (hx : x.Ok) (n : Int) : call Cv 13 [x.av, I n] = some (.bool true) := by
  have hsm := sound_call x hx
  have hs := noted_call
  obtain ⟨y, hy, hyc, hyp, d1⟩ := wrongP_call x hx
  have hyl := row_len hy
  have hvc := hx.vrow.cell
  have hcc := hx.crow.cell
  have hvp := hx.vrow.pur
  have hcp := hx.crow.pur
  have hlen := clen hx
  cases hc : checkOk x with
  | false =>
    rw [hc] at hsm
    simp only [PB.av, PB.cells] at hsm
    rw [call_run comp13 (Nat.le_of_ble_eq_true rfl)]
    simp (maxSteps := 10000000) [-List.getD_eq_getElem?_getD, code13, PB.av, PB.cells, hvc, hcc, hvp, hcp, hsm, hs]
  | true =>
    rw [hc] at hsm
    by_cases hne : x.copies = []
    · have e0 : ((x.copies.length : Int) == 0) = true := by simp [hne]
      simp only [PB.av, PB.cells] at hsm
      rw [call_run comp13 (Nat.le_of_ble_eq_true rfl)]
      simp (maxSteps := 10000000) [-List.getD_eq_getElem?_getD, code13, PB.av, PB.cells, hvc, hcc, hvp, hcp, hsm, hs, hlen, e0]
    · have hk := chk_of hc
      have hnc := hk.nc
      have hN := hk.N
      have hpos : 0 < x.copies.length := List.length_pos_iff.2 hne
      have e0 : ((x.copies.length : Int) == 0) = false := by simp [hne]
      have hT := turn_call n (x.copies.length : Int) (by omega)
      obtain ⟨r1, r2⟩ := turn_range n (x.copies.length : Int) (by omega)
      obtain ⟨k, hk'⟩ := Int.eq_ofNat_of_zero_le r1
      rw [hk'] at hT r2
      have hlt : k < x.copies.length := by omega
      have hg : x.copies[k]? = some x.copies[k] := List.getElem?_eq_getElem hlt
      have hix : ixsA 2 x.cr (I k) = some (.rp [I x.copies[k].cp.voice, x.copies[k].row] 0) := by
        obtain ⟨cc, hcc, hr⟩ := hx.crow.sl (by intro hn; simp at hn; rw [hn] at hlt; simp at hlt)
        rw [hr]
        simp [ixsA, hlt, CpV.av, AV.cells]
      have hcm : x.copies[k] ∈ x.copies := List.getElem_mem hlt
      have d2 := barP_call x hx k
      have hb : barR x k = if wrongE x = 0 then (match barF (Ts x (butF (wrongL x))) x.N.toNat x.copies[k].cp.voice.toNat x.copies[k].cp.notes 0 with
        | some k => ((k : Int), 0)
        | none => (0, 4)) else (0, wrongE x) := by
        have hl : lie (k : Int) 0 ((x.copies.length : Int) - 1) = true := by
          simp only [lie, Bool.and_eq_true, decide_eq_true_eq]; omega
        simp only [barR, hc, hl, if_true, Int.toNat_natCast, hg]
        cases barF (Ts x (butF (wrongL x))) x.N.toNat x.copies[k].cp.voice.toNat x.copies[k].cp.notes 0 <;> rfl
      rw [hb] at d2
      generalize hcg : x.copies[k] = c at *
      have hcx := hx.cp c hcm
      have hcf := hk.copies c hcm
      have hrc := hcx.row.cell
      cases hwo : wrongO x with
      | none =>
        have he : wrongE x = 52 := by simp [wrongE, hc, hwo]
        have h520 : ¬ (52 : Int) = 0 := by decide
        rw [he] at d1 d2
        rw [if_neg h520] at d2
        simp only [PB.av, PB.cells] at hsm d1 d2
        rw [call_run comp13 (Nat.le_of_ble_eq_true rfl)]
        simp (maxSteps := 10000000) [-List.getD_eq_getElem?_getD, -ixsA, code13, PB.av, PB.cells, hvc, hcc, hvp, hcp, hsm, hs, hlen, e0, hT, hix, hrc, d1, d2, hyp, set2s]
      | some w =>
        have he : wrongE x = 0 := by simp [wrongE, hc, hwo]
        have hw : wrongL x = w := by simp [wrongL, hwo]
        rw [he] at d1 d2
        rw [hw] at hyl hy d2
        rw [if_pos rfl] at d2
        have tw := wrong_told hc hwo
        obtain ⟨k1, k2⟩ := keepV_sub w x.copies 0
        have hwl := tw.len
        have d4 := without_call x hx (by omega) w y hy (by omega)
        have o3 := having_ok hx (keepV w x.copies 0) (by omega) (fun c hcm => hx.cp c (k1 c hcm))
        have hrc3 := having_check hc (keepV w x.copies 0) (fun c hcm => copies_ok hc c (k1 c hcm)) (by omega)
        have hTs : Ts (x.having (keepV w x.copies 0)) noneF = Ts x (butF w) := without_Ts x w
        have hTne : Ts x (butF w) ≠ [] := by
          have := tw.fine
          simpa [okL] using this
        have hnote : ∀ i : Nat, i < x.N.toNat → call Cv 21 [(x.having (keepV w x.copies 0)).av, I c.cp.voice, I i] = some (.tup [rowF (posOf (Ts x (butF w)) (c.cp.voice.toNat * x.N.toNat + i)), I 0]) := fun i hi => by
          have := notes_ok o3 hrc3 (by rw [hTs]; exact hTne) (v := c.cp.voice.toNat) (i := i) (by show _ < x.spans.length; omega) hi
          rw [hTs, show ((c.cp.voice.toNat : Nat) : Int) = c.cp.voice by omega] at this
          exact this
        have hspec := bar_spec (Ts x (butF w)) x.N.toNat c.cp.voice.toNat c.cp.notes 0
        have hwh := where_call w y hy (by omega) k
        have e5 : ((0 : Nat) : Int) = 0 := rfl
        have hhv : ∀ (last : Nat), last ≤ x.N.toNat → (∀ (i : Nat) n', i < last → c.cp.notes[i]? = some n' → cnt (Ts x (butF w)) (c.cp.voice.toNat * x.N.toNat + i) n' ≠ 0) → ∀ i : Nat, i < last → ∃ (l : List Int) (m : Int), call Cv 21 [(x.having (keepV w x.copies 0)).av, I c.cp.voice, I i] = some (.tup [rowF l, I 0]) ∧ l.length < 100 ∧ c.cp.notes[i]? = some m ∧ m ∈ l := by
          intro last hll hall i hi
          have hil : i < c.cp.notes.length := by omega
          refine ⟨_, c.cp.notes[i], hnote i (by omega), by have := posOf_len (Ts x (butF w)) (c.cp.voice.toNat * x.N.toNat + i); omega, List.getElem?_eq_getElem hil, ?_⟩
          rw [posOf_mem]
          have hr := hcf.2.2.2 _ (List.getElem_mem hil)
          have := hall i c.cp.notes[i] hi (List.getElem?_eq_getElem hil)
          exact ⟨hr.1, hr.2, by omega⟩
        have hvc3 := o3.vrow.cell
        have hcc3 := o3.crow.cell
        have hvp3 := o3.vrow.pur
        have hcp3 := o3.crow.pur
        have hNN : ((x.N.toNat : Nat) : Int) = x.N := by omega
        have wN : IntKind.wrap .i64 (x.N - 1) = x.N - 1 := wrap_small (by omega) (by omega)
        cases hbr : barF (Ts x (butF w)) x.N.toNat c.cp.voice.toNat c.cp.notes 0 with
        | none =>
          rw [hbr] at hspec d2
          have hloop := loop13 x _ hx o3 c hcx 0 4 x.N.toNat (by omega) (hhv x.N.toNat (Nat.le_refl _) fun i n' hi hn' => by
            have := hspec i n' hn'; rwa [Nat.zero_add] at this) x.N.toNat 0 (by omega)
          have hl' := fun E (hE : mask keep13_0 E = _) => run_at hloop hE
          rw [hNN] at hl'
          simp only [keep13_0, st13, PB.cells, e5, PB.having] at hl'
          simp only [PB.av, PB.cells, PB.having] at hsm d1 d2 d4 hvc3 hcc3
          rw [call_run comp13 (Nat.le_of_ble_eq_true rfl)]
          simp (maxSteps := 10000000) [-List.getD_eq_getElem?_getD, -ixsA, -List.all_eq_true, code13, PB.av, PB.cells, hvc, hcc, hvp, hcp, hsm, hs, hlen, e0, hT, hix, hrc, d1, d2, d4, hyp, set2s, hcc3, keep13_0, hl']
        | some j =>
          rw [hbr] at hspec d2
          obtain ⟨i, m, h1, h2, h3, h4⟩ := hspec
          rw [Nat.zero_add] at h1
          subst h1
          have hjl : j < c.cp.notes.length := (List.getElem?_eq_some_iff.1 h2).1
          have hloop := loop13 x _ hx o3 c hcx j 0 j (by omega) (hhv j (by omega) fun i n' hi hn' => by
            have := h4 i n' hi hn'; rwa [Nat.zero_add] at this) j 0 (by omega)
          have hl' := fun E (hE : mask keep13_0 E = _) => run_at hloop hE
          have hin : (k : Int) ∈ w := by
            apply Classical.byContradiction
            intro hnin
            have ho : butF w k = false := by simp [butF, hnin]
            have hall := Ts_copy hk hg ho h2
            have := (Part.cnt_all (T := Ts x (butF w)) (j := c.cp.voice.toNat * x.N.toNat + j) (n := m)).2 hall
            rw [h3] at this
            exact hTne (List.length_eq_zero_iff.1 this.symm)
          have hneg : ¬ idx k w 0 < 0 := by
            have := idx_neg k w
            simpa [hin] using this
          have hll := lies_call j 0 (x.N - 1)
          have hq : (decide (0 ≤ (j : Int)) && decide ((j : Int) ≤ x.N - 1)) = true := by simp; omega
          rw [hq] at hll
          have hnj := hnote j (by omega)
          have hwh2 := where_call _ (rowF _) (rowF_row (posOf (Ts x (butF w)) (c.cp.voice.toNat * x.N.toNat + j))) (by have := posOf_len (Ts x (butF w)) (c.cp.voice.toNat * x.N.toNat + j); omega) m
          have hnm : m ∉ posOf (Ts x (butF w)) (c.cp.voice.toNat * x.N.toNat + j) := by
            rw [posOf_mem]; omega
          have hneg2 : idx m (posOf (Ts x (butF w)) (c.cp.voice.toNat * x.N.toNat + j)) 0 < 0 := by
            have := idx_neg m (posOf (Ts x (butF w)) (c.cp.voice.toNat * x.N.toNat + j))
            simpa [hnm] using this
          have hrp := fun σ n => rowF_pur σ n (posOf (Ts x (butF w)) (c.cp.voice.toNat * x.N.toNat + j))
          have hixj : ixsA 1 c.row (I j) = some (.rp [I m] 0) := by
            obtain ⟨cc, hcc, hr⟩ := hcx.row.sl (by intro hn; simp [ints] at hn; rw [hn] at hjl; simp at hjl)
            have hgj : c.cp.notes[j] = m := (List.getElem?_eq_some_iff.1 h2).2
            rw [hr]
            simp [ixsA, ints, hjl, hgj, AV.cells]
          simp only [keep13_0, st13, PB.cells, e5, PB.having] at hl'
          simp only [PB.av, PB.cells, PB.having] at hsm d1 d2 d4 hvc3 hcc3 hnj hvp3 hcp3
          generalize idx k w 0 = i1 at *
          generalize idx m (posOf (Ts x (butF w)) (c.cp.voice.toNat * x.N.toNat + j)) 0 = i2 at *
          rw [call_run comp13 (Nat.le_of_ble_eq_true rfl)]
          simp (maxSteps := 10000000) [-List.getD_eq_getElem?_getD, -ixsA, -List.all_eq_true, code13, PB.av, PB.cells, hvc, hcc, hvp, hcp, hsm, hs, hlen, e0, hT, hix, hrc, d1, d2, d4, hyp, set2s, hcc3, hcp3, keep13_0, hl', wN, hll, hwh, hneg, hnj, hrp, hwh2, hneg2, hixj]
end Go.Ai
