/- This text shows the law of what can be heard, in the interpreter. No conditions of its own. -/
import Derived.Test.YtknklhodhkohlaaDoorHelpD
import Derived.Test.YtknklhodhkohlaaDoorCodesL5
set_option linter.unusedSimpArgs false
set_option linter.unusedVariables false
set_option maxRecDepth 100000
namespace Go.Ai
open Go.Cold (Mv Hd Bk Tr)
theorem right_more {x : CB} (hx : x.Ok) (hk : checkB x = true) (hl : x.hs.length < 4) (h : Hd) (hs : spotB x h.bed h.day = true) : call Cv 18 [(x.more h).av] = some (.tup [.bool (x.bk.fitsV h), I 0]) := by
  have d := Right_1 (more_ok hx (by omega) h) (more_check hk hl hs)
  rw [more_bk] at d
  have : (!(x.bk.more h).tr.isEmpty) = x.bk.fitsV h := by
    rw [Bool.eq_iff_iff, Go.Cold.fits_iff]
    cases (x.bk.more h).tr <;> simp
  rwa [this] at d
theorem fits_none {x : CB} (hn : x.bk.tr = []) (h : Hd) : x.bk.fitsV h = false := by
  unfold Go.Cold.Bk.fitsV
  rw [hn]
  rfl
set_option maxHeartbeats 4000000 in
theorem hears_law (x : CB) (hx : x.Ok) (a b : Int) : call Cv 5 [x.av, .agg [I a, I b]] = some (.bool true) := by
  have hsm := sound_call x hx
  have hs := sneezed_call
  have hp := av_pur x hx
  have hbox := x_box x hx
  have hbox2 : boxA { boxes := [x.cells] } (.agg [I a, I b]) = some (.box 1 0, { boxes := [x.cells, [I a, I b]] }) := rfl
  have x0 : x.cells[0]? = some (I x.beds) := rfl
  have x1 : x.cells[1]? = some (I x.days) := rfl
  have x10 : x.cells[10]? = some x.hr := rfl
  have hpx := part_x x
  have hpn : ∀ i, partA none x.cells i = x.cells[i]? := fun _ => rfl
  have hpn2 : ∀ (u v : AV) i, partA none [u, v] i = [u, v][i]? := fun _ _ _ => rfl
  have hlen := hlen hx
  cases hk : checkB x with
  | false =>
    rw [hk] at hsm
    rw [call_run comp5 (Nat.le_of_ble_eq_true rfl)]
    simp (maxSteps := 10000000) [-List.getD_eq_getElem?_getD, -boxA, -partA, code5, hbox, hbox2, hpx, hpn, hp, hsm, hs]
  | true =>
    rw [hk] at hsm
    have f := check_fine hk
    have hl4 := f.lh
    by_cases h4 : x.hs.length = 4
    · have e4 : ((x.hs.length : Int) == 4) = true := by rw [h4]; rfl
      rw [call_run comp5 (Nat.le_of_ble_eq_true rfl)]
      simp (maxSteps := 10000000) [-List.getD_eq_getElem?_getD, -boxA, -partA, code5, hbox, hbox2, hpx, hpn, hp, hsm, hs, x10, hlen, e4]
    have e4 : ((x.hs.length : Int) == 4) = false := by simp; omega
    obtain ⟨m, m1, m2, t1⟩ := turn_bed f a
    obtain ⟨d, d2, d3, t2⟩ := turn_day f b
    have hsp : spotB x m d = true := spot_true f (by omega) m1 d2 d3
    have c6 := right_more hx hk (by omega) ⟨m, d, true⟩ hsp
    have c7 := right_more hx hk (by omega) ⟨m, d, false⟩ hsp
    have g1 := hearing_call m d true
    have g2 := hearing_call m d false
    have w1 := with_call x hx (by omega) ⟨m, d, true⟩
    have w2 := with_call x hx (by omega) ⟨m, d, false⟩
    have p1 := av_pur _ (more_ok hx (by omega) ⟨m, d, true⟩)
    have p2 := av_pur _ (more_ok hx (by omega) ⟨m, d, false⟩)
    have q1 : ∀ σ n, pur σ (n + 2) (.agg (hdC ⟨m, d, true⟩)) = some (.agg (hdC ⟨m, d, true⟩), false) := fun _ _ => rfl
    have q2 : ∀ σ n, pur σ (n + 2) (.agg (hdC ⟨m, d, false⟩)) = some (.agg (hdC ⟨m, d, false⟩), false) := fun _ _ => rfl
    have o1 : fo 12 (.agg (hdC ⟨m, d, true⟩)) = true := rfl
    have o2 : fo 12 (.agg (hdC ⟨m, d, false⟩)) = true := rfl
    by_cases hn : x.bk.tr = []
    · have c1 := Coughs_0 hx hk hn (bed := m) (day := d) (by omega) m1 d2 d3
      have c2 := Fits_0 hx hk hn ⟨m, d, true⟩ (Int.natCast_nonneg m) m1 d2 d3
      have c3 := Fits_0 hx hk hn ⟨m, d, false⟩ (Int.natCast_nonneg m) m1 d2 d3
      rw [fits_none hn] at c6 c7
      simp only [hdA] at w1 w2
      generalize (x.more ⟨m, d, true⟩).av = A1 at *
      generalize (x.more ⟨m, d, false⟩).av = A2 at *
      generalize AV.agg (hdC ⟨m, d, true⟩) = H1 at *
      generalize AV.agg (hdC ⟨m, d, false⟩) = H2 at *
      rw [call_run comp5 (Nat.le_of_ble_eq_true rfl)]
      simp (maxSteps := 10000000) [-List.getD_eq_getElem?_getD, -boxA, -partA, code5, hbox, hbox2, hpx, hpn, hpn2, hp, hsm, hs, x0, x1, x10, hlen, e4, t1, t2, c1, c2, c3, c6, c7, g1, g2, w1, w2, p1, p2, q1, q2, o1, o2]
    · have c1 := Coughs_1 hx hk hn (bed := m) (day := d) (by omega) m1 d2 d3
      have c2 := Fits_1 hx hk hn ⟨m, d, true⟩ (Int.natCast_nonneg m) m1 d2 d3
      have c3 := Fits_1 hx hk hn ⟨m, d, false⟩ (Int.natCast_nonneg m) m1 d2 d3
      have v1 := Go.Cold.hears_loud hn m d
      have v2 := Go.Cold.hears_still hn m d
      rw [Int.toNat_natCast] at c1
      rw [v1] at c2 c6
      rw [v2] at c3 c7
      generalize x.bk.coughV m d = v at *
      simp only [hdA] at w1 w2
      generalize (x.more ⟨m, d, true⟩).av = A1 at *
      generalize (x.more ⟨m, d, false⟩).av = A2 at *
      generalize AV.agg (hdC ⟨m, d, true⟩) = H1 at *
      generalize AV.agg (hdC ⟨m, d, false⟩) = H2 at *
      generalize hb1 : decide (0 < v) = b1 at *
      generalize hb2 : decide (v < 2) = b2 at *
      rw [call_run comp5 (Nat.le_of_ble_eq_true rfl)]
      simp (maxSteps := 10000000) [-List.getD_eq_getElem?_getD, -boxA, -partA, code5, hbox, hbox2, hpx, hpn, hpn2, hp, hsm, hs, x0, x1, x10, hlen, e4, t1, t2, c1, c2, c3, c6, c7, g1, g2, w1, w2, p1, p2, q1, q2, o1, o2, hb1, hb2]
end Go.Ai
