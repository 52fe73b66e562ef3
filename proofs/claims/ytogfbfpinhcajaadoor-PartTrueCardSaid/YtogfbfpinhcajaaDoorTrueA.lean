/- This text shows what is written, and rightly copied. No conditions of its own. -/
import Derived.Test.YtogfbfpinhcajaaDoorRefO
import Derived.Test.YtogfbfpinhcajaaDoorPlain
set_option linter.unusedSimpArgs false
set_option linter.unusedVariables false
set_option maxRecDepth 100000
set_option linter.unusedSimpArgs false
set_option linter.unusedVariables false
/-! What is written: which note fits. -/
namespace Go.Ai
open Go.Part (Sp Cp Bk truths cnt at' vals stepOk moveOk)
theorem bi_geq {x y : Int} : binA .geq (I x) (I y) = some (.bool (decide (x ≥ y))) := rfl
theorem rem_nat {a b : Nat} (hb : 0 < b) (ha : a < 1000000) : binA .rem (I (a : Int)) (I (b : Int)) = some (I ((a % b : Nat) : Int)) := by
  have h1 : ¬ ((b : Int) = 0) := by omega
  have h2 : Int.tmod (a : Int) b = ((a % b : Nat) : Int) := by rw [← Int.ofNat_tmod]
  have h3 : IntKind.wrap .i64 ((a % b : Nat) : Int) = ((a % b : Nat) : Int) := wrap_small (by omega) (by have := Nat.mod_le a b; omega)
  have h4 : ¬ b = 0 := by omega
  simp [binA, binI, h1, h2, h3, h4]
theorem someV_at {q : List Int} {j : Nat} (h : j < q.length) : ixsA 1 (someV q) (I j) = some (.rp [I (at' q j)] 0) := by
  have : q ≠ [] := fun h0 => by rw [h0] at h; simp at h
  simp [someV, this, rowR, ixsA, ints, h, AV.cells, at']
theorem small_at {l : List Int} (hl : ∀ n ∈ l, 0 ≤ n ∧ n ≤ 12) (i : Nat) : 0 ≤ at' l i ∧ at' l i ≤ 12 := by
  simp only [at', List.getD_eq_getElem?_getD]
  cases h : l[i]? with
  | none => simp
  | some n => exact hl n (List.mem_of_getElem? h)
set_option maxHeartbeats 4000000 in
theorem fits84_call (x : PB) (hx : x.Ok) (h : Chk x) (q : List Int) (hq : q.length < 100) (hn : ∀ n ∈ q, 0 ≤ n ∧ n ≤ 12) (n : Int) (hn' : 0 ≤ n ∧ n ≤ 12) : call Cv 84 [x.av, someV q, I n] = some (.bool (Part.fitsP (bkOf x) q n)) := by
  have hV := h.V
  have hst := h.step
  have hvl := vlen hx
  have hvc := hx.vrow.cell
  have hcc := hx.crow.cell
  have hsl := someV_len q
  have hrem := rem_nat (a := q.length) (b := x.spans.length) (by omega) (by omega)
  obtain ⟨hc0, hc1⟩ := h.ch
  obtain ⟨hp0, hp1⟩ := h.pf
  obtain ⟨ch, hch⟩ := Int.eq_ofNat_of_zero_le hc0
  obtain ⟨pf, hpf⟩ := Int.eq_ofNat_of_zero_le hp0
  have b1 := small_at hn (q.length - x.spans.length)
  have b2 := small_at hn (q.length - 1)
  have b3 := small_at hn (q.length - x.spans.length - 1)
  have c1 := has_call ch (by omega) (n - at' q (q.length - 1))
  have c2 := has_call pf (by omega) (n - at' q (q.length - 1))
  rw [← hch] at c1
  rw [← hpf] at c2
  have hlie := lies_call (n - at' q (q.length - x.spans.length)) (-x.step) x.step
  have w3 : IntKind.wrap .i64 (-x.step) = -x.step := wrap_small (by omega) (by omega)
  have w4 : IntKind.wrap .i64 (n - at' q (q.length - x.spans.length)) = n - at' q (q.length - x.spans.length) := wrap_small (by omega) (by omega)
  have w5 : IntKind.wrap .i64 (n - at' q (q.length - 1)) = n - at' q (q.length - 1) := wrap_small (by omega) (by omega)
  have w6 : IntKind.wrap .i64 (at' q (q.length - x.spans.length) - at' q (q.length - x.spans.length - 1)) = at' q (q.length - x.spans.length) - at' q (q.length - x.spans.length - 1) := wrap_small (by omega) (by omega)
  have hF : Part.fitsP (bkOf x) q n = ((decide (q.length < x.spans.length) || (decide (-x.step ≤ n - at' q (q.length - x.spans.length)) && decide (n - at' q (q.length - x.spans.length) ≤ x.step))) &&
    (decide (q.length % x.spans.length = 0) || (Part.has x.chords (n - at' q (q.length - 1)) && (decide (q.length < x.spans.length) || (decide (n = at' q (q.length - x.spans.length)) || !decide (n - at' q (q.length - 1) = at' q (q.length - x.spans.length) - at' q (q.length - x.spans.length - 1)) || !Part.has x.perfect (n - at' q (q.length - 1))))))) := rfl
  rw [hF]
  have d1 : ∀ m, Least.hasB x.chords m = Part.has x.chords m := fun _ => rfl
  have d2 : ∀ m, Least.hasB x.perfect m = Part.has x.perfect m := fun _ => rfl
  rw [d1] at c1
  rw [d2] at c2
  generalize Part.has x.chords (n - at' q (q.length - 1)) = C at *
  generalize Part.has x.perfect (n - at' q (q.length - 1)) = P at *
  generalize (decide (-x.step ≤ n - at' q (q.length - x.spans.length)) && decide (n - at' q (q.length - x.spans.length) ≤ x.step)) = S at *
  by_cases hlt : q.length < x.spans.length
  · have g1 : decide ((q.length : Int) ≥ (x.spans.length : Int)) = false := by simp; omega
    have g2 : decide ((q.length : Int) < (x.spans.length : Int)) = true := by simp; omega
    have g3 : decide (q.length < x.spans.length) = true := by simpa using hlt
    have g4 : ¬ x.spans.length ≤ q.length := by omega
    have g5 : decide (x.spans.length ≤ q.length) = false := by simpa using g4
    rw [g3]
    by_cases hz : q.length % x.spans.length = 0
    · have e0 : (((q.length % x.spans.length : Nat) : Int) == 0) = true := by rw [hz]; rfl
      rw [decide_eq_true hz]
      rw [call_run comp84 (Nat.le_of_ble_eq_true rfl)]
      generalize q.length % x.spans.length = R at *
      simp (maxSteps := 10000000) [-List.getD_eq_getElem?_getD, -binA, -binI, bi_geq, bi_lss, bi_sub, bi_eql, -ixsA, code84, PB.av, PB.cells, hvc, hcc, hvl, hsl, hrem, g1, g2, g4, g5, hlt, e0]
    · have e0 : (((q.length % x.spans.length : Nat) : Int) == 0) = false := by simp; omega
      have hpos : 0 < q.length := by
        rcases Nat.eq_zero_or_pos q.length with h0 | h0
        · rw [h0] at hz; simp at hz
        · exact h0
      have w1 : IntKind.wrap .i64 ((q.length : Int) - 1) = ((q.length - 1 : Nat) : Int) := by rw [wrap_small (by omega) (by omega)]; omega
      have i1 := someV_at (q := q) (j := q.length - 1) (by omega)
      rw [decide_eq_false hz]
      rw [call_run comp84 (Nat.le_of_ble_eq_true rfl)]
      generalize q.length % x.spans.length = R at *
      generalize at' q (q.length - 1) = y1 at *
      generalize q.length - 1 = k1 at *
      cases C <;> simp (maxSteps := 10000000) [-List.getD_eq_getElem?_getD, -binA, -binI, bi_geq, bi_lss, bi_sub, bi_eql, -ixsA, code84, PB.av, PB.cells, hvc, hcc, hvl, hsl, hrem, g1, g2, g4, g5, hlt, e0, w1, i1, w5, c1]
  · have g1 : decide ((q.length : Int) ≥ (x.spans.length : Int)) = true := by simp; omega
    have g2 : decide ((q.length : Int) < (x.spans.length : Int)) = false := by simp; omega
    have g3 : decide (q.length < x.spans.length) = false := by simpa using hlt
    have g4 : x.spans.length ≤ q.length := by omega
    have g5 : decide (x.spans.length ≤ q.length) = true := by simpa using g4
    have w1 : IntKind.wrap .i64 ((q.length : Int) - 1) = ((q.length - 1 : Nat) : Int) := by rw [wrap_small (by omega) (by omega)]; omega
    have w2 : IntKind.wrap .i64 ((q.length : Int) - (x.spans.length : Int)) = ((q.length - x.spans.length : Nat) : Int) := by rw [wrap_small (by omega) (by omega)]; omega
    have i1 := someV_at (q := q) (j := q.length - 1) (by omega)
    have i2 := someV_at (q := q) (j := q.length - x.spans.length) (by omega)
    rw [g3]
    by_cases hz : q.length % x.spans.length = 0
    · have e0 : (((q.length % x.spans.length : Nat) : Int) == 0) = true := by rw [hz]; rfl
      rw [decide_eq_true hz]
      rw [call_run comp84 (Nat.le_of_ble_eq_true rfl)]
      generalize q.length % x.spans.length = R at *
      generalize at' q (q.length - 1) = y1 at *
      generalize at' q (q.length - x.spans.length) = y2 at *
      generalize q.length - 1 = k1 at *
      generalize q.length - x.spans.length = k2 at *
      cases S <;> simp (maxSteps := 10000000) [-List.getD_eq_getElem?_getD, -binA, -binI, bi_geq, bi_lss, bi_sub, bi_eql, -ixsA, code84, PB.av, PB.cells, hvc, hcc, hvl, hsl, hrem, g1, g2, g4, g5, hlt, e0, w2, i2, w3, w4, hlie]
    · have e0 : (((q.length % x.spans.length : Nat) : Int) == 0) = false := by simp; omega
      have hgt : x.spans.length < q.length := by
        rcases Nat.lt_or_ge x.spans.length q.length with h0 | h0
        · exact h0
        · have : q.length = x.spans.length := by omega
          rw [this, Nat.mod_self] at hz
          exact absurd rfl hz
      have w7 : IntKind.wrap .i64 (((q.length - x.spans.length : Nat) : Int) - 1) = ((q.length - x.spans.length - 1 : Nat) : Int) := by rw [wrap_small (by omega) (by omega)]; omega
      have i3 := someV_at (q := q) (j := q.length - x.spans.length - 1) (by omega)
      rw [decide_eq_false hz]
      have f1 : (at' q (q.length - x.spans.length) == n) = decide (n = at' q (q.length - x.spans.length)) := by
        rw [Bool.eq_iff_iff, beq_iff_eq, decide_eq_true_eq]; exact ⟨fun h => h.symm, fun h => h.symm⟩
      have f2 : (at' q (q.length - x.spans.length) - at' q (q.length - x.spans.length - 1) != n - at' q (q.length - 1)) = !decide (n - at' q (q.length - 1) = at' q (q.length - x.spans.length) - at' q (q.length - x.spans.length - 1)) := by
        rw [Bool.eq_iff_iff, bne_iff_ne, Bool.not_eq_true', decide_eq_false_iff_not]
        exact ⟨fun h h' => h h'.symm, fun h h' => h h'.symm⟩
      generalize decide (n = at' q (q.length - x.spans.length)) = B1 at *
      generalize decide (n - at' q (q.length - 1) = at' q (q.length - x.spans.length) - at' q (q.length - x.spans.length - 1)) = B2 at *
      rw [call_run comp84 (Nat.le_of_ble_eq_true rfl)]
      generalize q.length % x.spans.length = R at *
      generalize at' q (q.length - 1) = y1 at *
      generalize at' q (q.length - x.spans.length - 1) = y3 at *
      generalize at' q (q.length - x.spans.length) = y2 at *
      generalize q.length - x.spans.length - 1 = k3 at *
      generalize q.length - x.spans.length = k2 at *
      generalize q.length - 1 = k1 at *
      cases S <;> cases C <;> cases P <;> cases B1 <;> cases B2 <;> simp (maxSteps := 10000000) [-List.getD_eq_getElem?_getD, -binA, -binI, bi_geq, bi_lss, bi_sub, bi_eql, bi_neq, -ixsA, code84, PB.av, PB.cells, hvc, hcc, hvl, hsl, hrem, g1, g2, g4, g5, hlt, e0, w1, w2, i1, i2, i3, w3, w4, w5, w6, w7, hlie, c1, c2, f1, f2]
end Go.Ai

set_option maxRecDepth 100000
set_option linter.unusedSimpArgs false
set_option linter.unusedVariables false
/-! What is written: the search. -/
namespace Go.Ai
open Go.Part (Sp Cp Bk truths cnt at' vals okAll)
def spanAt (x : PB) (j : Nat) : Sp := x.spans.getD (j % x.spans.length) ⟨0, 0⟩
def okW (x : PB) (q : List Int) (n : Int) : Bool := decide ((spanAt x q.length).low ≤ n ∧ n ≤ (spanAt x q.length).high) && Part.fitsP (bkOf x) q n
def Wr (x : PB) (q : List Int) (m : Nat) (r : AV) : Prop := (∃ rest : List Int, rest.length = m ∧ okAll (okW x) q rest = true ∧ r = someV (q ++ rest)) ∨ (r = .nils ∧ ∀ rest : List Int, rest.length = m → okAll (okW x) q rest = false)
theorem span_in {x : PB} (h : Chk x) (j : Nat) : spanAt x j ∈ x.spans ∧ x.spans[j % x.spans.length]? = some (spanAt x j) := by
  have hV := h.V
  have hlt : j % x.spans.length < x.spans.length := Nat.mod_lt _ (by omega)
  have e : spanAt x j = x.spans[j % x.spans.length] := by
    simp [spanAt, List.getD_eq_getElem?_getD, List.getElem?_eq_getElem hlt]
  rw [e]
  exact ⟨List.getElem_mem hlt, List.getElem?_eq_getElem hlt⟩
theorem draw_all {lo hi t n : Int} (h1 : lo ≤ n) (h2 : n ≤ hi) : ∃ j, lo ≤ j ∧ j ≤ hi ∧ drawI lo hi (j + t) = n := by
  have hw : 0 < hi - lo + 1 := by omega
  refine ⟨lo + ((n - lo) - (lo + t)) % (hi - lo + 1), ?_, ?_, ?_⟩
  · have := Int.emod_nonneg ((n - lo) - (lo + t)) (show hi - lo + 1 ≠ 0 by omega); omega
  · have := Int.emod_lt_of_pos ((n - lo) - (lo + t)) hw; omega
  · unfold drawI
    rw [turnI, if_neg (by omega)]
    have e : lo + ((n - lo) - (lo + t)) % (hi - lo + 1) + t = (lo + t) + ((n - lo) - (lo + t)) % (hi - lo + 1) := by omega
    rw [e, Int.add_emod, Int.emod_emod, ← Int.add_emod]
    have e2 : (lo + t) + ((n - lo) - (lo + t)) = n - lo := by omega
    rw [e2, Int.emod_eq_of_lt (by omega) (by omega)]
    omega
def head38 (q : List Int) (r0 : AV) (i : Int) : Env := mkE 63 .any [(8, I i), (7, .box 1 0), (3, .box 0 0), (2, r0), (1, someV q)]
def st38 (x : PB) (s : Sp) : St := { boxes := [x.cells, [I s.low, I s.high]] }
def tOf (bits : List Int) (q : List Int) : Int := turnI (nthI bits q.length) 3
theorem okAll_cons (ok : List Int → Int → Bool) (q : List Int) (n : Int) (rest : List Int) : okAll ok q (n :: rest) = (ok q n && okAll ok (q ++ [n]) rest) := rfl
theorem loop38 (x : PB) (hx : x.Ok) (h : Chk x) (bits : List Int) (r0 : AV) (hr0 : IsRow 1 (ints bits) r0) (hb : bits.length < 2 ^ 47) (m : Nat) (q : List Int) (hq : q.length < 9) (hqn : ∀ n ∈ q, 0 ≤ n ∧ n ≤ 12)
    (hrec : ∀ n, 0 ≤ n → n ≤ 12 → ∃ r, call Cv 38 [x.av, someV (q ++ [n]), r0] = some r ∧ Wr x (q ++ [n]) m r) : ∀ (k : Nat) (i : Int), i + k = (spanAt x q.length).high + 1 → (spanAt x q.length).low ≤ i →
    ∃ L, (run Cv 38 (.loop keep38_0 body38_0) (head38 q r0 i) (st38 x (spanAt x q.length)) = some (.ex 0, mkE 63 .any L, st38 x (spanAt x q.length)) ∧ ∀ j, i ≤ j → j ≤ (spanAt x q.length).high → ∀ rest : List Int, rest.length = m → okAll (okW x) q (drawI (spanAt x q.length).low (spanAt x q.length).high (j + tOf bits q) :: rest) = false) ∨
      (run Cv 38 (.loop keep38_0 body38_0) (head38 q r0 i) (st38 x (spanAt x q.length)) = some (.rt, mkE 63 .any L, st38 x (spanAt x q.length)) ∧ ∃ rest : List Int, rest.length = m + 1 ∧ okAll (okW x) q rest = true ∧ gt (mkE 63 .any L) 6 = someV (q ++ rest))
  | 0, i, hi, hlo => by
    have h1 : ¬ i ≤ (spanAt x q.length).high := by omega
    have key : ∃ L, run Cv 38 (.loop keep38_0 body38_0) (head38 q r0 i) (st38 x (spanAt x q.length)) = some (.ex 0, mkE 63 .any L, st38 x (spanAt x q.length)) := by
      rw [run_loop]
      simp (maxSteps := 10000000) [-List.getD_eq_getElem?_getD, body38_0, keep38_0, head38, st38, h1]
      exact ⟨_, rfl⟩
    obtain ⟨L, hL⟩ := key
    exact ⟨L, .inl ⟨hL, fun j h1 h2 => by omega⟩⟩
  | k + 1, i, hi, hlo => by
    have hs := h.spans _ (span_in h q.length).1
    have hst := h.step
    have hdr := draw_call (spanAt x q.length).low (spanAt x q.length).high (i + tOf bits q) (by omega) hs.2.1 (by omega)
    have hdg := draw_range (spanAt x q.length).low (spanAt x q.length).high (i + tOf bits q) hs.2.1
    have hnth := nth_call bits r0 hr0 hb q.length
    have ht := turn_call (nthI bits q.length) 3 (by omega)
    have htr := turn_range (nthI bits q.length) 3 (by omega)
    rw [show turnI (nthI bits q.length) 3 = tOf bits q from rfl] at ht htr
    have hfit := fits84_call x hx h q (by omega) hqn (drawI (spanAt x q.length).low (spanAt x q.length).high (i + tOf bits q)) (by omega)
    have hwi := some_with q (by omega) (drawI (spanAt x q.length).low (spanAt x q.length).high (i + tOf bits q))
    obtain ⟨r, hr, hW⟩ := hrec (drawI (spanAt x q.length).low (spanAt x q.length).high (i + tOf bits q)) (by omega) (by omega)
    have h1 : i ≤ (spanAt x q.length).high := by omega
    have hw : IntKind.wrap .i64 (i + 1) = i + 1 := wrap_small (by omega) (by omega)
    have hw2 : IntKind.wrap .i64 (i + tOf bits q) = i + tOf bits q := wrap_small (by omega) (by omega)
    have hsl := someV_len q
    have hsp := fun σ n => someV_pur σ n q
    have hsu := fun a b c d n => someV_under a b c d n q
    have hsp2 := fun σ k => someV_pur σ k (q ++ [drawI (spanAt x q.length).low (spanAt x q.length).high (i + tOf bits q)])
    have hr0p := hr0.pur
    have hr0u := hr0.under
    have hvp := hx.vrow.pur
    have hcp := hx.crow.pur
    have hvu := hx.vrow.under
    have hcu := hx.crow.under
    have hokW : okW x q (drawI (spanAt x q.length).low (spanAt x q.length).high (i + tOf bits q)) = Part.fitsP (bkOf x) q (drawI (spanAt x q.length).low (spanAt x q.length).high (i + tOf bits q)) := by
      rw [okW, decide_eq_true hdg, Bool.true_and]
    have next : (∀ rest : List Int, rest.length = m → okAll (okW x) q (drawI (spanAt x q.length).low (spanAt x q.length).high (i + tOf bits q) :: rest) = false) → run Cv 38 (.loop keep38_0 body38_0) (head38 q r0 i) (st38 x (spanAt x q.length)) = run Cv 38 (.loop keep38_0 body38_0) (head38 q r0 (i + 1)) (st38 x (spanAt x q.length)) → ∃ L, (run Cv 38 (.loop keep38_0 body38_0) (head38 q r0 i) (st38 x (spanAt x q.length)) = some (.ex 0, mkE 63 .any L, st38 x (spanAt x q.length)) ∧ ∀ j, i ≤ j → j ≤ (spanAt x q.length).high → ∀ rest : List Int, rest.length = m → okAll (okW x) q (drawI (spanAt x q.length).low (spanAt x q.length).high (j + tOf bits q) :: rest) = false) ∨
      (run Cv 38 (.loop keep38_0 body38_0) (head38 q r0 i) (st38 x (spanAt x q.length)) = some (.rt, mkE 63 .any L, st38 x (spanAt x q.length)) ∧ ∃ rest : List Int, rest.length = m + 1 ∧ okAll (okW x) q rest = true ∧ gt (mkE 63 .any L) 6 = someV (q ++ rest)) := fun hno key => by
      rw [key]
      obtain ⟨L, g⟩ := loop38 x hx h bits r0 hr0 hb m q hq hqn hrec k (i + 1) (by omega) (by omega)
      refine ⟨L, ?_⟩
      rcases g with ⟨g1, g2⟩ | g
      · refine .inl ⟨g1, fun j hj1 hj2 => ?_⟩
        by_cases hji : j = i
        · subst hji; exact hno
        · exact g2 j (by omega) hj2
      · exact .inr g
    generalize drawI (spanAt x q.length).low (spanAt x q.length).high (i + tOf bits q) = n at *
    simp only [PB.av, PB.cells] at hfit hr
    cases hf : Part.fitsP (bkOf x) q n with
    | false =>
      rw [hf] at hfit hokW
      refine next (fun rest _ => by rw [okAll_cons, hokW, Bool.false_and]) ?_
      generalize spanAt x q.length = s at *
      generalize tOf bits q = t at *
      rw [run_loop]
      generalize MC.loop keep38_0 body38_0 = L
      simp (maxSteps := 10000000) [-List.getD_eq_getElem?_getD, -ixsA, -List.all_eq_true, body38_0, keep38_0, head38, st38, PB.cells, h1, hw, hw2, hsl, hsp, hsu, hr0p, hr0u, hvp, hcp, hvu, hcu, hnth, ht, hdr, hfit]
    | true =>
      rw [hf] at hfit hokW
      rcases hW with ⟨rest, hrl, hro, rfl⟩ | ⟨rfl, hno⟩
      · have hne : q ++ [n] ++ rest ≠ [] := by simp
        have hl2 := someV_len (q ++ [n] ++ rest)
        have hp2 := fun σ k => someV_pur σ k (q ++ [n] ++ rest)
        have hgt : ((q ++ [n] ++ rest).length : Int) > 0 := by
          have := List.length_pos_iff.2 hne; omega
        have hgt' : 0 < (q ++ [n] ++ rest).length := List.length_pos_iff.2 hne
        have key : ∃ L, run Cv 38 (.loop keep38_0 body38_0) (head38 q r0 i) (st38 x (spanAt x q.length)) = some (.rt, mkE 63 .any L, st38 x (spanAt x q.length)) ∧ gt (mkE 63 .any L) 6 = someV (q ++ [n] ++ rest) := by
          generalize spanAt x q.length = s at *
          generalize tOf bits q = t at *
          generalize q ++ [n] ++ rest = F at *
          generalize someV (q ++ [n]) = Q at *
          rw [run_loop]
          simp (maxSteps := 10000000) [-List.getD_eq_getElem?_getD, -ixsA, -List.all_eq_true, body38_0, keep38_0, head38, st38, PB.cells, h1, hw, hw2, hsl, hsp, hsu, hr0p, hr0u, hvp, hcp, hvu, hcu, hnth, ht, hdr, hfit, hwi, hsp2, hr, hl2, hp2, hgt, hgt']
          exact ⟨_, rfl, by simp (maxSteps := 10000000) [-List.getD_eq_getElem?_getD, ]⟩
        obtain ⟨L, g1, g2⟩ := key
        refine ⟨L, .inr ⟨g1, n :: rest, by rw [List.length_cons, hrl], by rw [okAll_cons, hokW, hro]; rfl, ?_⟩⟩
        rw [g2, List.append_assoc]; rfl
      · refine next (fun rest hl => by rw [okAll_cons, hno rest hl, Bool.and_false]) ?_
        generalize spanAt x q.length = s at *
        generalize tOf bits q = t at *
        generalize someV (q ++ [n]) = Q at *
        rw [run_loop]
        generalize MC.loop keep38_0 body38_0 = L
        simp (maxSteps := 10000000) [-List.getD_eq_getElem?_getD, -ixsA, -List.all_eq_true, body38_0, keep38_0, head38, st38, PB.cells, h1, hw, hw2, hsl, hsp, hsu, hr0p, hr0u, hvp, hcp, hvu, hcu, hnth, ht, hdr, hfit, hwi, hsp2, hr]
end Go.Ai

set_option maxRecDepth 100000
set_option linter.unusedSimpArgs false
set_option linter.unusedVariables false
namespace Go.Ai
open Go.Part (Sp Cp Bk truths cnt at' vals okAll)
theorem wrap9 {k : Nat} (h : k ≤ 9) : IntKind.wrap .i64 (k : Int) = k := wrap_small (by omega) (by omega)
theorem NV_le {x : PB} (h : Chk x) : x.N.toNat * x.spans.length ≤ 9 ∧ 0 < x.N.toNat * x.spans.length ∧ ((x.N.toNat * x.spans.length : Nat) : Int) = x.N * x.spans.length := by
  have hN := h.N
  have hV := h.V
  refine ⟨?_, Nat.mul_pos (by omega) (by omega), ?_⟩
  · calc x.N.toNat * x.spans.length ≤ 3 * 3 := Nat.mul_le_mul (by omega) hV.2
      _ = 9 := rfl
  · rw [Int.natCast_mul, Int.toNat_of_nonneg (by omega)]
/-- What is written, if anything can be. -/
theorem written_call (x : PB) (hx : x.Ok) (h : Chk x) (bits : List Int) (r0 : AV) (hr0 : IsRow 1 (ints bits) r0) (hb : bits.length < 2 ^ 47) : ∀ (m : Nat) (q : List Int), q.length + m = x.N.toNat * x.spans.length → (∀ n ∈ q, 0 ≤ n ∧ n ≤ 12) → ∃ r, call Cv 38 [x.av, someV q, r0] = some r ∧ Wr x q m r
  | 0, q, hq, hqn => by
    obtain ⟨h9, h0, hm⟩ := NV_le h
    have hw : IntKind.wrap .i64 (x.N * (x.spans.length : Int)) = ((x.N.toNat * x.spans.length : Nat) : Int) := by rw [← hm]; exact wrap9 h9
    have e0 : ((q.length : Int) == ((x.N.toNat * x.spans.length : Nat) : Int)) = true := by
      rw [show q.length = x.N.toNat * x.spans.length from by omega]; exact beq_self_eq_true _
    have hvl := vlen hx
    have hvc := hx.vrow.cell
    have hcc := hx.crow.cell
    have hsl := someV_len q
    have hsp := fun σ n => someV_pur σ n q
    refine ⟨someV q, ?_, .inl ⟨[], rfl, rfl, by rw [List.append_nil]⟩⟩
    generalize ((x.N.toNat * x.spans.length : Nat) : Int) = NV at *
    rw [call_run comp38 (Nat.le_of_ble_eq_true rfl)]
    simp (maxSteps := 10000000) [-List.getD_eq_getElem?_getD, code38, PB.av, PB.cells, hvc, hcc, hvl, hsl, hw, e0, hsp]
  | m + 1, q, hq, hqn => by
    obtain ⟨h9, h0, hm⟩ := NV_le h
    have hV := h.V
    have hw : IntKind.wrap .i64 (x.N * (x.spans.length : Int)) = ((x.N.toNat * x.spans.length : Nat) : Int) := by rw [← hm]; exact wrap9 h9
    have e0 : ((q.length : Int) == ((x.N.toNat * x.spans.length : Nat) : Int)) = false := by
      rw [beq_eq_false_iff_ne]
      intro hh
      have := Int.ofNat_inj.1 hh
      omega
    have hvl := vlen hx
    have hvc := hx.vrow.cell
    have hcc := hx.crow.cell
    have hvp := hx.vrow.pur
    have hcp := hx.crow.pur
    have hsl := someV_len q
    have hsp := fun σ n => someV_pur σ n q
    have hr0p := hr0.pur
    have hrem := rem_nat (a := q.length) (b := x.spans.length) (by omega) (by omega)
    obtain ⟨hsm, hsg⟩ := span_in h q.length
    have hs := h.spans _ hsm
    have hix : ixsA 2 x.vr (I ((q.length % x.spans.length : Nat) : Int)) = some (.rp [I (spanAt x q.length).low, I (spanAt x q.length).high] 0) := by
      have hlt := (List.getElem?_eq_some_iff.1 hsg).1
      have hg := (List.getElem?_eq_some_iff.1 hsg).2
      obtain ⟨cc, hcc, hr⟩ := hx.vrow.sl (by intro hn; simp at hn; rw [hn] at hlt; simp at hlt)
      rw [hr]
      generalize q.length % x.spans.length = k at *
      simp [ixsA, hlt, hg, spA, AV.cells]
    obtain ⟨L, g⟩ := loop38 x hx h bits r0 hr0 hb m q (by omega) hqn (fun n h1 h2 => written_call x hx h bits r0 hr0 hb m (q ++ [n]) (by simp; omega) (fun y hy => by
      rcases List.mem_append.1 hy with hy | hy
      · exact hqn y hy
      · rw [List.mem_singleton.1 hy]; exact ⟨h1, h2⟩)) ((spanAt x q.length).high - (spanAt x q.length).low + 1).toNat (spanAt x q.length).low (by omega) (Int.le_refl _)
    have hs2 : ∀ a b : AV, setAt [I 0, I 0] 0 [a, b] = [a, b] := fun _ _ => rfl
    rcases g with ⟨g1, g2⟩ | ⟨g1, rest, g2, g3, g4⟩
    · have hin := fun E (hE : mask keep38_0 E = _) => run_at g1 hE
      simp only [st38, head38, keep38_0, PB.cells] at hin
      refine ⟨.nils, ?_, .inr ⟨rfl, fun rest hl => ?_⟩⟩
      · generalize ((x.N.toNat * x.spans.length : Nat) : Int) = NV at *
        generalize spanAt x q.length = s at *
        generalize q.length % x.spans.length = R at *
        rw [call_run comp38 (Nat.le_of_ble_eq_true rfl)]
        simp (maxSteps := 10000000) [-List.getD_eq_getElem?_getD, -binA, -binI, bi_eql, -ixsA, -setAt, -List.all_eq_true, code38, PB.av, PB.cells, hvc, hcc, hvl, hsl, hsp, hr0p, hvp, hcp, show binA .mul (I x.N) (I (x.spans.length : Int)) = some (I (IntKind.wrap .i64 (x.N * (x.spans.length : Int)))) from rfl, hw, e0, hrem, hix, hs2, keep38_0, hin]
      · cases rest with
        | nil => simp at hl
        | cons n rest =>
          rw [List.length_cons] at hl
          by_cases hr : (spanAt x q.length).low ≤ n ∧ n ≤ (spanAt x q.length).high
          · obtain ⟨j, hj1, hj2, hj3⟩ := draw_all (t := tOf bits q) hr.1 hr.2
            have := g2 j hj1 hj2 rest (by omega)
            rwa [hj3] at this
          · rw [okAll_cons, okW, decide_eq_false hr, Bool.false_and, Bool.false_and]
    · have hin := fun E (hE : mask keep38_0 E = _) => run_at g1 hE
      simp only [st38, head38, keep38_0, PB.cells] at hin
      have hp2 := fun σ k => someV_pur σ k (q ++ rest)
      refine ⟨someV (q ++ rest), ?_, .inl ⟨rest, g2, g3, rfl⟩⟩
      generalize someV (q ++ rest) = F at *
      generalize ((x.N.toNat * x.spans.length : Nat) : Int) = NV at *
      generalize spanAt x q.length = s at *
      generalize q.length % x.spans.length = R at *
      rw [call_run comp38 (Nat.le_of_ble_eq_true rfl)]
      simp (maxSteps := 10000000) [-List.getD_eq_getElem?_getD, -binA, -binI, bi_eql, -ixsA, -setAt, -List.all_eq_true, code38, PB.av, PB.cells, hvc, hcc, hvl, hsl, hsp, hr0p, hvp, hcp, show binA .mul (I x.N) (I (x.spans.length : Int)) = some (I (IntKind.wrap .i64 (x.N * (x.spans.length : Int)))) from rfl, hw, e0, hrem, hix, hs2, keep38_0, hin, g4, hp2]
end Go.Ai

set_option maxRecDepth 100000
set_option linter.unusedSimpArgs false
set_option linter.unusedVariables false
/-! The line of a voice; a book whose copies are right. -/
namespace Go.Ai
open Go.Part (Sp Cp Bk truths cnt at' vals okAll)
def lineW (V N : Nat) (l : List Int) (v : Nat) : List Int := (List.range' 0 N).map fun i => at' l (i * V + v)
def accW (l : List Int) : AV := if l = [] then .sl 1 [] .full else .sl 1 (ints l) (.chain 0)
def st40 (x : PB) (acc : List Int) : St := { boxes := [x.cells], chains := chI acc }
def head40 (l : List Int) (v : Nat) (acc : List Int) (i : Int) : Env := mkE 30 .any [(8, I i), (7, accW acc), (3, .box 0 0), (2, I v), (1, someV l)]
theorem loop40 (x : PB) (hx : x.Ok) (h : Chk x) (l : List Int) (hl : l.length = x.N.toNat * x.spans.length) (v : Nat) (hv : v < x.spans.length) : ∀ (m i : Nat) (acc : List Int), i + m = x.N.toNat → acc.length ≤ i →
    ∃ L σ, run Cv 40 (.loop keep40_0 body40_0) (head40 l v acc i) (st40 x acc) = some (.ex 0, mkE 30 .any L, σ) ∧ gt (mkE 30 .any L) 7 = accW (acc ++ (List.range' i m).map fun i => at' l (i * x.spans.length + v))
  | 0, i, acc, hi, ha => by
    have hN := h.N
    have h1 : ¬ (i : Int) < x.N := by omega
    have e : acc ++ (List.range' i 0).map (fun i => at' l (i * x.spans.length + v)) = acc := by simp
    rw [e, run_loop]
    simp (maxSteps := 10000000) [-List.getD_eq_getElem?_getD, body40_0, keep40_0, head40, st40, PB.cells, h1]
    exact ⟨_, rfl, by simp (maxSteps := 10000000) [-List.getD_eq_getElem?_getD, ]⟩
  | m + 1, i, acc, hi, ha => by
    have hN := h.N
    have hV := h.V
    have h1 : (i : Int) < x.N := by omega
    have hw : IntKind.wrap .i64 ((i : Int) + 1) = i + 1 := wrap_small (by omega) (by omega)
    have hvl := vlen hx
    have hlt : i * x.spans.length + v < l.length := by
      rw [hl]
      calc i * x.spans.length + v < i * x.spans.length + x.spans.length := by omega
        _ = (i + 1) * x.spans.length := by rw [Nat.add_mul, Nat.one_mul]
        _ ≤ x.N.toNat * x.spans.length := Nat.mul_le_mul_right _ (by omega)
    have h9 := (NV_le h).1
    have hwm : IntKind.wrap .i64 ((i : Int) * (x.spans.length : Int)) = ((i * x.spans.length : Nat) : Int) := by
      rw [← Int.natCast_mul]; exact wrap9 (by omega)
    have hwa : IntKind.wrap .i64 (((i * x.spans.length : Nat) : Int) + (v : Int)) = ((i * x.spans.length + v : Nat) : Int) := by
      rw [← Int.natCast_add]; exact wrap9 (by omega)
    have hix := someV_at hlt
    have hsu := fun a b c d n => someV_under a b c d n l
    have hsp := fun σ n => someV_pur σ n l
    have hbytes : (acc.length + 1) * 8 ≤ 140737488355328 := by omega
    have hvu := hx.vrow.under
    have hcu := hx.crow.under
    have iu := fun a b c d n p => ints_under a b c d n p
    have hmul : binA .mul (I (i : Int)) (I (x.spans.length : Int)) = some (I (IntKind.wrap .i64 ((i : Int) * (x.spans.length : Int)))) := rfl
    have key : run Cv 40 (.loop keep40_0 body40_0) (head40 l v acc i) (st40 x acc) = run Cv 40 (.loop keep40_0 body40_0) (head40 l v (acc ++ [at' l (i * x.spans.length + v)]) (i + 1)) (st40 x (acc ++ [at' l (i * x.spans.length + v)])) := by
      generalize hj : i * x.spans.length = j at *
      generalize at' l (j + v) = y at *
      generalize hjv : ((j + v : Nat) : Int) = jv at *
      generalize (j : Int) = jj at *
      rw [run_loop]
      generalize MC.loop keep40_0 body40_0 = L
      by_cases ho' : acc = []
      · simp (maxSteps := 10000000) [-List.getD_eq_getElem?_getD, -binA, -binI, bi_lss, bi_add, -ixsA, -List.all_eq_true, body40_0, keep40_0, head40, st40, PB.cells, accW, chI, h1, hw, hvl, hmul, hwm, hwa, hix, hsu, hsp, ho', hvu, hcu, iu, fillE, AV.isAgg, appA, elemsA, grown, ints, @all_f 30 .any _ _ 7]
      · simp (maxSteps := 10000000) [-List.getD_eq_getElem?_getD, -binA, -binI, bi_lss, bi_add, -ixsA, -List.all_eq_true, body40_0, keep40_0, head40, st40, PB.cells, accW, chI, h1, hw, hvl, hmul, hwm, hwa, hix, hsu, hsp, ho', hvu, hcu, iu, fillE, AV.isAgg, appA, elemsA, grown, ints, hbytes]
    rw [key]
    have := loop40 x hx h l hl v hv m (i + 1) (acc ++ [at' l (i * x.spans.length + v)]) (by omega) (by simp; omega)
    rw [List.range'_succ, List.map_cons]
    simpa [List.append_assoc] using this
theorem sings_call (x : PB) (hx : x.Ok) (h : Chk x) (l : List Int) (hl : l.length = x.N.toNat * x.spans.length) (v : Nat) (hv : v < x.spans.length) : call Cv 40 [x.av, someV l, I v] = some (rowR (lineW x.spans.length x.N.toNat l v)) := by
  have hN := h.N
  obtain ⟨L, σ, h0, h7⟩ := loop40 x hx h l hl v hv x.N.toNat 0 [] (by omega) (Nat.le_refl _)
  rw [List.nil_append, show (List.range' 0 x.N.toNat).map (fun i => at' l (i * x.spans.length + v)) = lineW x.spans.length x.N.toNat l v from rfl] at h7
  have hne : lineW x.spans.length x.N.toNat l v ≠ [] := by
    intro h0
    have := congrArg List.length h0
    simp [lineW] at this
    omega
  have hp : ∀ σ n, pur σ (n + 1) (accW (lineW x.spans.length x.N.toNat l v)) = some (rowR (lineW x.spans.length x.N.toNat l v), false) := fun σ n => by
    unfold accW; rw [if_neg hne]; rfl
  have hin := fun E (hE : mask keep40_0 E = _) => run_at h0 hE
  have e5 : ((0 : Nat) : Int) = 0 := rfl
  have e6 : accW [] = .sl 1 [] .full := rfl
  have e7 : chI [] = [] := rfl
  have hr0e : List.replicate 0 (I 0) = [] := rfl
  have hf0 : fillE 1 false [] [] = some [] := rfl
  simp only [st40, head40, keep40_0, PB.cells, e5, e6, e7] at hin
  have hvc := hx.vrow.cell
  have hcc := hx.crow.cell
  generalize lineW x.spans.length x.N.toNat l v = F at *
  rw [call_run comp40 (Nat.le_of_ble_eq_true rfl)]
  simp (maxSteps := 10000000) [-List.getD_eq_getElem?_getD, -List.all_eq_true, code40, PB.av, PB.cells, hvc, hcc, hr0e, hf0, keep40_0, hin, h7, hp]
def copyW (x : PB) (l : List Int) (c : CpV) : CpV := ⟨⟨c.cp.voice, lineW x.spans.length x.N.toNat l c.cp.voice.toNat⟩, rowR (lineW x.spans.length x.N.toNat l c.cp.voice.toNat)⟩
def PB.rightly (x : PB) (l : List Int) : PB := x.having (x.copies.map (copyW x l))
def head39 (l : List Int) (i : Int) : Env := mkE 35 .any [(6, I i), (5, .box 2 0), (4, .box 1 0), (2, .box 0 0), (1, someV l)]
theorem loop39 (x : PB) (hx : x.Ok) (h : Chk x) (l : List Int) (hl : l.length = x.N.toNat * x.spans.length) : ∀ (rest : List CpV) (k : Nat) (cs : List CpV), k ≤ x.copies.length → x.copies.drop k = rest → cs.length ≤ k →
    ∃ L, run Cv 39 (.loop keep39_0 body39_0) (head39 l k) (st53 x cs) = some (.ex 0, mkE 35 .any L, st53 x (cs ++ rest.map (copyW x l))) ∧ gt (mkE 35 .any L) 4 = .box 1 0 ∧ gt (mkE 35 .any L) 5 = .box 2 0
  | [], k, cs, hk, hd, hcs => by
    obtain rfl := drop_nil hk hd
    have hcl := clen hx
    have e : cs ++ ([] : List CpV).map (copyW x l) = cs := by simp
    rw [e, run_loop]
    simp (maxSteps := 10000000) [-List.getD_eq_getElem?_getD, body39_0, keep39_0, head39, st53, PB.cells, hcl]
    exact ⟨_, rfl, by simp (maxSteps := 10000000) [-List.getD_eq_getElem?_getD, ], by simp (maxSteps := 10000000) [-List.getD_eq_getElem?_getD, ]⟩
  | c :: rest, k, cs, hk, hd, hcs => by
    obtain ⟨hlt, ha, hd'⟩ := head_drop hd
    have hw := wrap_succ hlt hx.lc
    have hnc := h.nc
    have hlt' : (k : Int) < (x.copies.length : Int) := by omega
    have hcl := clen hx
    have hcm : c ∈ x.copies := ha ▸ List.getElem_mem _
    have hcx := hx.cp c hcm
    have hco := h.copies c hcm
    obtain ⟨v, hv⟩ := Int.eq_ofNat_of_zero_le hco.1
    have hsing := sings_call x hx h l hl v (by omega)
    have hsc := scribe_call (v : Int) [] (rowR (lineW x.spans.length x.N.toNat l v)) rfl rfl (fun _ _ => rfl)
    have hcw : (copyW x l c).av = .agg [I v, rowR (lineW x.spans.length x.N.toNat l v)] := by
      show AV.agg [I c.cp.voice, rowR (lineW x.spans.length x.N.toNat l c.cp.voice.toNat)] = _
      rw [hv]; rfl
    have hix : ixsA 2 x.cr (I k) = some (.rp [I c.cp.voice, c.row] 0) := by
      obtain ⟨cc, hcc, hr⟩ := hx.crow.sl (by intro hn; simp at hn; rw [hn] at hlt; simp at hlt)
      rw [hr]
      simp [ixsA, hlt, ha, CpV.av, AV.cells]
    rw [hv] at hix
    have hlp : ∀ F σ n, pur σ (n + 1) (rowR F) = some (rowR F, false) := fun _ _ _ => rfl
    have hlc : ∀ F, (rowR F).isCell = true := fun _ => rfl
    have hsu := fun a b c d n => someV_under a b c d n l
    have hsp := fun σ n => someV_pur σ n l
    have hvu := hx.vrow.under
    have hcu := hx.crow.under
    have hvp := hx.vrow.pur
    have hcp := hx.crow.pur
    have hbytes : (cs.length + 1) * 32 ≤ 140737488355328 := by omega
    have key : run Cv 39 (.loop keep39_0 body39_0) (head39 l k) (st53 x cs) = run Cv 39 (.loop keep39_0 body39_0) (head39 l (k + 1)) (st53 x (cs ++ [copyW x l c])) := by
      simp only [PB.av, PB.cells] at hsing
      generalize copyW x l c = C at *
      generalize lineW x.spans.length x.N.toNat l v = F at *
      rw [run_loop]
      generalize MC.loop keep39_0 body39_0 = L
      by_cases ho' : cs = []
      · simp (maxSteps := 10000000) [-List.getD_eq_getElem?_getD, -ixsA, -List.all_eq_true, body39_0, keep39_0, head39, st53, PB.cells, accK, chK, hlt', hcl, hw, ho', hix, hsing, hsc, hcw, hlp, hlc, hsu, hsp, hvu, hcu, hvp, hcp, fillE, AV.isAgg, appA, elemsA, grown]
      · simp (maxSteps := 10000000) [-List.getD_eq_getElem?_getD, -ixsA, -List.all_eq_true, body39_0, keep39_0, head39, st53, PB.cells, accK, chK, hlt', hcl, hw, ho', hix, hsing, hsc, hcw, hlp, hlc, hsu, hsp, hvu, hcu, hvp, hcp, fillE, AV.isAgg, appA, elemsA, grown, hbytes]
    rw [key]
    have := loop39 x hx h l hl rest (k + 1) (cs ++ [copyW x l c]) hlt hd' (by simp; omega)
    simpa [List.append_assoc] using this
theorem rightly_call (x : PB) (hx : x.Ok) (h : Chk x) (l : List Int) (hl : l.length = x.N.toNat * x.spans.length) : call Cv 39 [x.av, someV l] = some (x.rightly l).av := by
  obtain ⟨L, h0, h4, h5⟩ := loop39 x hx h l hl x.copies 0 [] (Nat.zero_le _) rfl (by simp)
  rw [List.nil_append] at h0
  have h' := fun E (hE : mask keep39_0 E = _) => run_at h0 hE
  have e5 : ((0 : Nat) : Int) = 0 := rfl
  have hvc := hx.vrow.cell
  have hvp := hx.vrow.pur
  have hcc := hx.crow.cell
  have k0 : accK [] = .nils := rfl
  have k1 : chK [] = [] := rfl
  have k2 := accK_cell (x.copies.map (copyW x l))
  have k3 := fun σ n => accK_pur (x.copies.map (copyW x l)) σ n
  simp only [st53, head39, keep39_0, PB.cells, e5, k0, k1] at h'
  unfold PB.rightly
  generalize hF : x.copies.map (copyW x l) = F at *
  rw [call_run comp39 (Nat.le_of_ble_eq_true rfl)]
  simp (maxSteps := 10000000) [-List.getD_eq_getElem?_getD, code39, PB.av, PB.cells, PB.having, hvc, hvp, hcc, keep39_0, h', h4, h5, k2, k3]
end Go.Ai
