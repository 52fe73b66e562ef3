/- This text shows the law of days, in the interpreter. No conditions of its own. -/
import Derived.Test.YtknklhodhkohlaaDoorFnN
import Derived.Test.YtknklhodhkohlaaDoorCodesL4
set_option linter.unusedSimpArgs false
set_option linter.unusedVariables false
set_option maxRecDepth 100000
namespace Go.Ai
open Go.Cold (Mv Hd Bk Tr)
set_option maxHeartbeats 4000000 in
theorem days_law (x : CB) (hx : x.Ok) (a b : Int) : call Cv 4 [x.av, .agg [I a, I b]] = some (.bool true) := by
  have hsm := sound_call x hx
  have hs := sneezed_call
  have hp := av_pur x hx
  have hbox := x_box x hx
  have hbox2 : boxA { boxes := [x.cells] } (.agg [I a, I b]) = some (.box 1 0, { boxes := [x.cells, [I a, I b]] }) := rfl
  have x0 : x.cells[0]? = some (I x.beds) := rfl
  have x1 : x.cells[1]? = some (I x.days) := rfl
  have hpx := part_x x
  cases hk : checkB x with
  | false =>
    rw [hk] at hsm
    rw [call_run comp4 (Nat.le_of_ble_eq_true rfl)]
    simp (maxSteps := 10000000) [-List.getD_eq_getElem?_getD, -boxA, -partA, code4, hbox, hbox2, hpx, hp, hsm, hs]
  | true =>
    rw [hk] at hsm
    have f := check_fine hk
    have d1 := f.d1; have d6 := f.d6
    obtain ⟨m, m1, m2, t1⟩ := turn_bed f a
    obtain ⟨d, d2, d3, t2⟩ := turn_day f b
    have hpn : ∀ i, partA none x.cells i = x.cells[i]? := fun _ => rfl
    have hpn2 : ∀ (u v : AV) i, partA none [u, v] i = [u, v][i]? := fun _ _ _ => rfl
    have w1 : IntKind.wrap .i64 (x.days - 1) = x.days - 1 := wrap_small (by omega) (by omega)
    have w2 : IntKind.wrap .i64 (d - 1) = d - 1 := wrap_small (by omega) (by omega)
    have hst : ∀ u v : AV, setAt [I 0, I 0] 0 [u, v] = [u, v] := fun _ _ => rfl
    have hcl : ∀ u v : AV, (AV.agg [u, v]).cells = [u, v] := fun _ _ => rfl
    by_cases hn : x.bk.tr = []
    · have c1 := Ill_0 hx hk hn (bed := m) (day := d) (by omega) m1 d2 d3
      have c2 := Coughs_0 hx hk hn (bed := m) (day := d) (by omega) m1 d2 d3
      have c3 := Ill_0 hx hk hn (bed := m) (day := x.days - 1) (by omega) m1 (by omega) (by omega)
      have c4 := Caught_0 hx hk hn (bed := m) (by omega) m1
      obtain ⟨r, g, c5⟩ := Clean_0 hx hk hn
      have hrp := g.pur
      rw [call_run comp4 (Nat.le_of_ble_eq_true rfl)]
      simp (maxSteps := 10000000) [-List.getD_eq_getElem?_getD, -boxA, -partA, code4, hbox, hbox2, hpx, hpn, hpn2, hp, hsm, hs, x0, x1, t1, t2, w1, c1, c2, c3, c4, c5, hrp, hst, hcl]
    · have c1 := Ill_1 hx hk hn (bed := m) (day := d) (by omega) m1 d2 d3
      have c2 := Coughs_1 hx hk hn (bed := m) (day := d) (by omega) m1 d2 d3
      have c3 := Ill_1 hx hk hn (bed := m) (day := x.days - 1) (by omega) m1 (by omega) (by omega)
      obtain ⟨r, g, c5⟩ := Clean_1 hx hk hn
      have hrp := g.pur
      have hcs := (clean_small f).1
      have c6 := where_call _ r g (by omega) m
      have hiw := idx_nonneg m x.bk.cleanL 0
      have k0 := Go.Cold.clean_iff f.bk hn m2
      have k1 := Go.Cold.cough_ill f.bk hn m d
      have k2 := Go.Cold.ill_grows hn m (show d ≤ x.days - 1 by omega)
      have k3 := Go.Cold.caught_nil f.bk hn m2
      have r1 := ill_range x.bk m d
      have r2 := cough_range x.bk m d
      have r3 := ill_range x.bk m (x.days - 1)
      have kd : x.bk.D = x.days := rfl
      rw [kd] at k0 k3
      simp only [Int.toNat_natCast] at c1 c2 c3
      have c7 : 0 < d → call Cv 27 [x.av, I m, I (d - 1)] = some (.tup [I (x.bk.illV m (d - 1)), I 0]) := fun h => by
        have := Ill_1 hx hk hn (bed := m) (day := d - 1) (by omega) m1 (by omega) (by omega)
        rwa [Int.toNat_natCast] at this
      have k7 := Go.Cold.ill_grows hn m (show d - 1 ≤ d by omega)
      by_cases hc : x.bk.caughtL m = []
      · have c4 := Caught_none hx hk hn (bed := m) (by omega) m1 (by rwa [Int.toNat_natCast])
        have z3 := k3.1 hc
        have z1 : x.bk.illV m d = 0 := by omega
        have z2 : x.bk.coughV m d = 0 := by omega
        rw [decide_eq_true (k0.2 z3), decide_eq_true_iff] at hiw
        rw [z1] at c1
        rw [z2] at c2
        rw [z3] at c3
        generalize idx m x.bk.cleanL 0 = ix at *
        rw [call_run comp4 (Nat.le_of_ble_eq_true rfl)]
        simp (maxSteps := 10000000) [-List.getD_eq_getElem?_getD, -boxA, -partA, code4, hbox, hbox2, hpx, hpn, hpn2, hp, hsm, hs, x0, x1, t1, t2, w1, c1, c2, c3, c4, c5, c6, hiw, hrp, hst, hcl]
      · have c4 := Caught_1 hx hk hn (bed := m) (by omega) m1 (by rwa [Int.toNat_natCast])
        rw [Int.toNat_natCast] at c4
        have z3 : x.bk.illV m (x.days - 1) ≠ 0 := fun h => hc (k3.2 h)
        have hnin : ¬ ((m : Int) ∈ x.bk.cleanL) := fun h => z3 (k0.1 h)
        rw [decide_eq_false hnin, decide_eq_false_iff_not] at hiw
        have e1 := Go.Cold.ill_ends f.bk hn hc d
        have e2 : x.bk.illV m (x.days - 1) = 2 → (Go.Cold.ends (x.bk.caughtL m)).2 ≤ d → x.bk.illV m d = 2 := fun h h' => Go.Cold.ill_two f.bk hn m2 h h'
        generalize Go.Cold.ends (x.bk.caughtL m) = en at *
        obtain ⟨lo, hi⟩ := en
        simp only at *
        generalize idx m x.bk.cleanL 0 = ix at *
        generalize x.bk.illV m d = v1 at *
        generalize x.bk.coughV m d = v2 at *
        generalize x.bk.illV m (x.days - 1) = v3 at *
        generalize x.bk.illV m (d - 1) = v0 at *
        have f1 : ¬ v1 < v2 := by omega
        have f2 : ¬ v3 < v1 := by omega
        have f4 : v0 ≤ v1 := k7
        have f3 : (decide (0 < v1)) = decide (lo ≤ d) := decide_eq_decide.2 e1.1
        have hd : 0 < d ∨ d = 0 := by omega
        have hv1 : v1 = 0 ∨ v1 = 1 ∨ v1 = 2 := by omega
        have hv3 : v3 = 1 ∨ v3 = 2 := by omega
        have hdh : (d < hi ∧ ¬ hi ≤ d) ∨ (¬ d < hi ∧ hi ≤ d) := by omega
        have hdl : (d < lo ∧ ¬ lo ≤ d) ∨ (¬ d < lo ∧ lo ≤ d) := by omega
        clear f3
        rw [call_run comp4 (Nat.le_of_ble_eq_true rfl)]
        rcases hd with hd | hd
        · have c7' := c7 hd
          have hd0 : ¬ d = 0 := by omega
          rcases hv1 with rfl | rfl | rfl <;> rcases hv3 with rfl | rfl <;> rcases hdh with ⟨h1, h2⟩ | ⟨h1, h2⟩ <;> rcases hdl with ⟨h3, h4⟩ | ⟨h3, h4⟩ <;> first | (exfalso; omega) | simp (maxSteps := 10000000) [-List.getD_eq_getElem?_getD, -boxA, -partA, code4, hbox, hbox2, hpx, hpn, hpn2, hp, hsm, hs, x0, x1, t1, t2, w1, w2, c1, c2, c3, c4, c5, c6, c7', hiw, hrp, hst, hcl, f1, f2, f4, hd0, h1, h2, h3, h4]
        · subst hd
          rcases hv1 with rfl | rfl | rfl <;> rcases hv3 with rfl | rfl <;> rcases hdh with ⟨h1, h2⟩ | ⟨h1, h2⟩ <;> rcases hdl with ⟨h3, h4⟩ | ⟨h3, h4⟩ <;> first | (exfalso; omega) | simp (maxSteps := 10000000) [-List.getD_eq_getElem?_getD, -boxA, -partA, code4, hbox, hbox2, hpx, hpn, hpn2, hp, hsm, hs, x0, x1, t1, t2, w1, w2, c1, c2, c3, c4, c5, c6, hiw, hrp, hst, hcl, f1, f2, f4, h1, h2, h3, h4]
end Go.Ai
