/- This text shows the law of what is turned around, and helpers of laws. No conditions of its own. -/
import Derived.Test.YtbjdaefdifofkaaDoorFnF
import Derived.Test.YtbjdaefdifofkaaDoorCodesL10
set_option linter.unusedSimpArgs false
set_option linter.unusedVariables false
set_option maxRecDepth 100000
set_option linter.unusedSimpArgs false
set_option linter.unusedVariables false
/-! The law of what is turned around. -/
namespace Go.Ai
open Go.Organ (T4 F3 Tb T6)
theorem plus_call (a b c d : Int) (w1 : IntKind.wrap .i64 (a + c) = a + c) (w2 : IntKind.wrap .i64 (b + d) = b + d) : call Cv 50 [.agg [I a, I b], .agg [I c, I d]] = some (.agg [I (a + c), I (b + d)]) := by
  have hb := bounds_call (a + c) (b + d)
  rw [call_run comp50 (Nat.le_of_ble_eq_true rfl)]
  simp (maxSteps := 10000000) [-List.getD_eq_getElem?_getD, code50, w1, w2, hb]
theorem under_true {a b c d : Int} (h : c ≤ a ∧ b ≤ d) : call Cv 48 [.agg [I a, I b], .agg [I c, I d]] = some (.bool true) := by
  rw [call_run comp48 (Nat.le_of_ble_eq_true rfl)]
  have h1 : c ≤ a := h.1
  have h2 : b ≤ d := h.2
  simp (maxSteps := 10000000) [-List.getD_eq_getElem?_getD, code48, h1, h2]
theorem tab_real {x : OB} (hc : Chk x) (ht : trueO x = true) {i k : Nat} (hi : Organ.Real x.N i) (hk : Organ.Real x.N k) : -120 ≤ tab x i k ∧ tab x i k ≤ 120 := by
  have := tab_near hc ht hi hk
  rw [tab0] at this
  exact this
theorem tab_tri {x : OB} (hc : Chk x) (ht : trueO x = true) {i j k : Nat} (hi : Organ.Real x.N i) (hj : Organ.Real x.N j) (hk : Organ.Real x.N k) : tab x i k ≤ tab x i j + tab x j k := Organ.T6_tri hc.b (true_can ht) hi hj hk
set_option maxHeartbeats 4000000 in
theorem turn_law (x : OB) (hx : x.Ok) (n0 n1 n2 : Int) : call Cv 10 [x.av, .agg [I n0, I n1, I n2]] = some (.bool true) := by
  have hsm := small_call x hx
  have hs := tuned_call
  have hcl := xcells_cell x hx
  have hp := av_pur x hx
  have hbox : boxA {} x.av = some (.box 0 0, { boxes := [x.cells] }) := by
    simp only [boxA, OB.av, AV.cells, hcl, if_true]; rfl
  have hbox2 : boxA { boxes := [x.cells] } (.agg [I n0, I n1, I n2]) = some (.box 1 0, { boxes := [x.cells, [I n0, I n1, I n2]] }) := rfl
  have x0 : x.cells[0]? = some (I x.pipes) := rfl
  cases hc : checkOk x with
  | false =>
    rw [hc] at hsm
    rw [call_run comp10 (Nat.le_of_ble_eq_true rfl)]
    simp (maxSteps := 10000000) [-List.getD_eq_getElem?_getD, -boxA, -partA, part_none, part_x, code10, hbox, hbox2, hp, hsm, hs]
  | true =>
    rw [hc] at hsm
    have hch := (chk_iff x).1 hc
    obtain ⟨p, hpl, t0⟩ := turn_pipe hch n0
    obtain ⟨q, hql, t1⟩ := turn_pipe hch n1
    obtain ⟨r, hrl, t2⟩ := turn_pipe hch n2
    cases ht : trueO x with
    | false =>
      have a1 := apart_f hx hch ht hpl hql
      have a2 := apart_f hx hch ht hql hpl
      have a3 := apart_f hx hch ht hpl hrl
      have a4 := apart_f hx hch ht hrl hql
      have a5 := pitch_f hx hch ht hpl
      have a6 := pitch_f hx hch ht hql
      rw [call_run comp10 (Nat.le_of_ble_eq_true rfl)]
      simp (maxSteps := 10000000) [-List.getD_eq_getElem?_getD, -boxA, -partA, -setAt, part_none, part_two, part_x, set_two, code10, hbox, hbox2, hp, hsm, hs, x0, t0, t1, t2, a1, a2, a3, a4, a5, a6, still]
    | true =>
      have a1 := apart_t hx hch ht hpl hql
      have a2 := apart_t hx hch ht hql hpl
      have a3 := apart_t hx hch ht hpl hrl
      have a4 := apart_t hx hch ht hrl hql
      have a5 := pitch_t hx hch ht hpl
      have a6 := pitch_t hx hch ht hql
      have rp : Organ.Real x.N p := .inl hpl
      have rq : Organ.Real x.N q := .inl hql
      have rr : Organ.Real x.N r := .inl hrl
      have r5 : Organ.Real x.N 5 := .inr rfl
      have m1 := tab_real hch ht rp rq
      have m2 := tab_real hch ht rq rp
      have m3 := tab_real hch ht rp rr
      have m4 := tab_real hch ht rr rp
      have m5 := tab_real hch ht rr rq
      have m6 := tab_real hch ht rq rr
      have m7 := tab_real hch ht rp r5
      have m8 := tab_real hch ht r5 rp
      have m9 := tab_real hch ht rq r5
      have m10 := tab_real hch ht r5 rq
      have k1 := tab_tri hch ht rp rr rq
      have k2 := tab_tri hch ht rq rr rp
      have k3 := tab_tri hch ht rp r5 rq
      have k4 := tab_tri hch ht rq r5 rp
      generalize tab x p q = v1 at *
      generalize tab x q p = v2 at *
      generalize tab x p r = v3 at *
      generalize tab x r p = v4 at *
      generalize tab x r q = v5 at *
      generalize tab x q r = v6 at *
      generalize tab x p 5 = v7 at *
      generalize tab x 5 p = v8 at *
      generalize tab x q 5 = v9 at *
      generalize tab x 5 q = v10 at *
      have b1 : ∀ a b, call Cv 49 [I a, I b] = some (.agg [I a, I b]) := bounds_call
      have w1 : IntKind.wrap .i64 (-v1) = -v1 := wrap_small (by omega) (by omega)
      have w2 : IntKind.wrap .i64 v2 = v2 := wrap_small (by omega) (by omega)
      have w3 : IntKind.wrap .i64 (-v9 - v8) = -v9 - v8 := wrap_small (by omega) (by omega)
      have w4 : IntKind.wrap .i64 (v10 - -v7) = v10 + v7 := by rw [wrap_small (by omega) (by omega)]; omega
      have w4' : IntKind.wrap .i64 (v10 + v7) = v10 + v7 := wrap_small (by omega) (by omega)
      have c1 := plus_call (-v4) v3 (-v6) v5 (wrap_small (by omega) (by omega)) (wrap_small (by omega) (by omega))
      have c2 := under_true (a := -v2) (b := v1) (c := -v4 + -v6) (d := v3 + v5) (by omega)
      have c3 := under_true (a := -v2) (b := v1) (c := -v9 - v8) (d := v10 + v7) (by omega)
      have e1 : eqCells [I (-v1), I v2] [I (-v1), I v2] = some true := by simp [eqCells]
      rw [call_run comp10 (Nat.le_of_ble_eq_true rfl)]
      simp (maxSteps := 10000000) [-List.getD_eq_getElem?_getD, -boxA, -partA, -setAt, part_none, part_two, part_x, set_two, code10, hbox, hbox2, hp, hsm, hs, x0, t0, t1, t2, a1, a2, a3, a4, a5, a6, b1, w1, w2, w3, w4, w4', c1, c2, c3, e1, still]
end Go.Ai
