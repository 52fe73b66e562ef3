/- This text shows the law of falls, in the interpreter. No conditions of its own. -/
import Derived.Test.YtckbmdbebmkbaaaDoorFnQ
import Derived.Test.YtckbmdbebmkbaaaDoorCodesL5
set_option linter.unusedSimpArgs false
set_option linter.unusedVariables false
set_option maxRecDepth 100000
namespace Go.Ai
open Go.Office (Ft Rl Us Nt Bk vote allI mem_allI nonNeg ends)
theorem falls_law (x : OB) (hx : x.Ok) (a b c : Int) : call Cv 5 [x.av, .agg [I a, I b, I c]] = some (.bool true) := by
  have hsm := sound_call x hx
  have hs := chanted_call
  have hp := av_pur hx
  have hbox := x_box hx
  have hbox2 : boxA { boxes := [x.cells] } (.agg [I a, I b, I c]) = some (.box 1 0, { boxes := [x.cells, [I a, I b, I c]] }) := rfl
  have l0 := x_load8 (x := x)
  have l1 := x_fr (x := x)
  have l2 := x_days (x := x)
  have hl := flen hx
  cases hk : checkB x with
  | false =>
    rw [hk] at hsm
    rw [call_run comp5 (Nat.le_of_ble_eq_true rfl)]
    simp (maxSteps := 10000000) [-List.getD_eq_getElem?_getD, -boxA, -loadA, code5, hbox, hbox2, l0, l1, hl, hp, hsm, hs]
  | true =>
    rw [hk] at hsm
    have f := check_fine hk
    obtain ⟨d1, d6, n4⟩ := dim f
    by_cases hz : x.fs.length = 0
    · have hz' : (x.fs.length : Int) = 0 := by omega
      rw [hz'] at hl
      rw [call_run comp5 (Nat.le_of_ble_eq_true rfl)]
      simp (maxSteps := 10000000) [-List.getD_eq_getElem?_getD, -boxA, -loadA, code5, hbox, hbox2, l0, l1, hl, hp, hsm, hs]
    · have hz' : ((x.fs.length : Int) == 0) = false := by rw [beq_eq_false_iff_ne]; omega
      obtain ⟨u, u1, t1⟩ := turn_nat a (b := 2) (by omega) (by omega)
      obtain ⟨k, k1, t2⟩ := turn_nat b (b := x.fs.length) (by omega) (by omega)
      obtain ⟨d, e1, t3⟩ := turn_nat c (b := x.days) (by omega) (by omega)
      have u2 : u < 2 := by omega
      have k2 : k < x.fs.length := by omega
      have g0 : ∀ Z E, loadA { boxes := Z :: [I a, I b, I c] :: E } none (.box 1 0) = some (I a) := fun _ _ => rfl
      have g1 : ∀ Z E, loadA { boxes := Z :: [I a, I b, I c] :: E } none (.box 1 1) = some (I b) := fun _ _ => rfl
      have g2 : ∀ Z E, loadA { boxes := Z :: [I a, I b, I c] :: E } none (.box 1 2) = some (I c) := fun _ _ => rfl
      have w1 : IntKind.wrap .i64 (x.days - 1) = x.days - 1 := wrap_small (by omega) (by omega)
      have st2 : ∀ (Z Y : List AV) (p q : Int), storeA { boxes := [Z, Y, [I 0, I 0]] } 2 (.box 2 0) (.agg [I p, I q]) = some { boxes := [Z, Y, [I p, I q]] } := fun _ _ _ _ => rfl
      have st3 : ∀ (Z Y X : List AV) (p q : Int), storeA { boxes := [Z, Y, X, [I 0, I 0]] } 2 (.box 3 0) (.agg [I p, I q]) = some { boxes := [Z, Y, X, [I p, I q]] } := fun _ _ _ _ _ => rfl
      have ld2 : ∀ (Z Y : List AV) (p q : Int) E, loadA { boxes := Z :: Y :: [I p, I q] :: E } (some 2) (.box 2 0) = some (.agg [I p, I q]) := fun _ _ _ _ _ => rfl
      have ld3 : ∀ (Z Y X : List AV) (p q : Int) E, loadA { boxes := Z :: Y :: X :: [I p, I q] :: E } none (.box 3 0) = some (I p) := fun _ _ _ _ _ _ => rfl
      by_cases hT : x.bk.tr = []
      · have c1 := Falls_0 hx hk hT u2 k2
        have c2 := Kept_0 hx hk hT u2 k2
        have c3 := Day_0 hx hk hT k2
        obtain ⟨r, g, c4⟩ := Chief_0 hx hk hT u2 e1
        have hrp := g.pur
        rw [call_run comp5 (Nat.le_of_ble_eq_true rfl)]
        simp (maxSteps := 10000000) [-List.getD_eq_getElem?_getD, -boxA, -loadA, -storeA, code5, hbox, hbox2, l0, l1, l2, hl, hp, hsm, hs, hz', g0, g1, g2, t1, t2, t3, c1, c2, c3, c4, hrp, st2, st3]
      · have c1 := Falls_1 hx hk hT u2 k2
        have c2 := Kept_1 hx hk hT u2 k2
        have c3 := Day_1 hx hk hT k2
        obtain ⟨r, g, c4⟩ := Chief_1 hx hk hT u2 e1
        have hrp := g.pur
        have hcl := all_len (x.bk.chiefsL u d)
        have htl : x.bk.tr.length ≤ 256 := by
          have := tr_len x f []
          rwa [left_none] at this
        have hcl2 : (x.bk.chiefsL u d).length = x.bk.tr.length := by simp [Bk.chiefsL]
        have c5 := where_call _ r g (by omega) k
        have hiw := idx_nonneg k (allI (x.bk.chiefsL u d)) 0
        have hD : x.bk.D = x.days := rfl
        have q1 := Go.Office.kept_none_iff (b := x.bk) (u := u) (f := k)
        have q2 := Go.Office.chief_mem_falls (b := x.bk) (u := u) (d := d) (f := k) (by omega)
        have q3 := Go.Office.falls_ends f.bk (u := u) (f := k) k2
        have hmi : ((k : Int) ∈ allI (x.bk.chiefsL u d)) ↔ (k : Int) ∈ x.bk.chiefsL u d := mem_allI
        by_cases hn : nonNeg (x.bk.fallsL u k) = []
        · have hE : hullE (x.bk.fallsL u k) = 4 := by unfold hullE; rw [if_pos hn]
          have hP : hullP (x.bk.fallsL u k) = (0, 0) := by unfold hullP; rw [if_pos hn]
          rw [hE, hP] at c1
          rw [q1.2 hn] at c2
          have hni : ¬ (k : Int) ∈ allI (x.bk.chiefsL u d) := fun h => by
            have := q2 (hmi.1 h)
            rw [hn] at this
            cases this
          rw [decide_eq_false hni, decide_eq_false_iff_not] at hiw
          have o := only_call 0
          generalize idx k (allI (x.bk.chiefsL u d)) 0 = ix at *
          have hix : ix < 0 := by omega
          rw [call_run comp5 (Nat.le_of_ble_eq_true rfl)]
          simp (maxSteps := 10000000) [-List.getD_eq_getElem?_getD, -boxA, -loadA, -storeA, code5, hbox, hbox2, l0, l1, l2, hl, hp, hsm, hs, hz', g0, g1, g2, t1, t2, t3, c1, c2, c3, c4, c5, hrp, st2, st3, ld2, ld3, o, hix, eqCells]
        · have hE : hullE (x.bk.fallsL u k) = 0 := by unfold hullE; rw [if_neg hn]
          have hP : hullP (x.bk.fallsL u k) = ends (nonNeg (x.bk.fallsL u k)) := by unfold hullP; rw [if_neg hn]
          rw [hE, hP] at c1
          have hv0 : ¬ vote (x.bk.keptB u k) x.bk.tr = 0 := fun h => hn (q1.1 h)
          have q3' := q3 hn
          rw [hD] at q3'
          have q4 : (k : Int) ∈ allI (x.bk.chiefsL u d) → (ends (nonNeg (x.bk.fallsL u k))).1 ≤ d ∧ (d : Int) ≤ (ends (nonNeg (x.bk.fallsL u k))).2 := fun h => Go.Office.ends_covers (q2 (hmi.1 h))
          have hlo : 0 ≤ (ends (nonNeg (x.bk.fallsL u k))).1 := (Go.Office.mem_nonNeg.1 (Go.Office.ends_mem hn).1).2
          generalize ends (nonNeg (x.bk.fallsL u k)) = en at *
          obtain ⟨lo, hi⟩ := en
          generalize ends (x.bk.daysL k) = dn at *
          obtain ⟨dlo, dhi⟩ := dn
          simp only at *
          have cf := fair_call lo hi dlo (x.days - 1) 6
          have cfb : fairB lo hi dlo (x.days - 1) 6 = true := by
            have w2 : IntKind.wrap .i64 (hi - lo) = hi - lo := wrap_small (by omega) (by omega)
            simp only [fairB, w2, Bool.and_eq_true, decide_eq_true_eq]
            omega
          rw [cfb] at cf
          have cc := covers_call lo hi d
          generalize vote (x.bk.keptB u k) x.bk.tr = v at *
          have hv1 : (v == 0) = false := by rw [beq_eq_false_iff_ne]; exact hv0
          by_cases hm : (k : Int) ∈ allI (x.bk.chiefsL u d)
          · rw [decide_eq_true hm, decide_eq_true_iff] at hiw
            have q5 := q4 hm
            have ccb : (decide (lo ≤ (d : Int)) && decide ((d : Int) ≤ hi)) = true := by simp; omega
            rw [ccb] at cc
            generalize idx k (allI (x.bk.chiefsL u d)) 0 = ix at *
            have hix : ¬ ix < 0 := by omega
            rw [call_run comp5 (Nat.le_of_ble_eq_true rfl)]
            simp (maxSteps := 10000000) [-List.getD_eq_getElem?_getD, -boxA, -loadA, -storeA, code5, hbox, hbox2, l0, l1, l2, hl, hp, hsm, hs, hz', g0, g1, g2, t1, t2, t3, c1, c2, c3, c4, c5, hrp, st2, st3, ld2, ld3, w1, hix, hv0, hv1, cf, cc]
          · rw [decide_eq_false hm, decide_eq_false_iff_not] at hiw
            generalize idx k (allI (x.bk.chiefsL u d)) 0 = ix at *
            have hix : ix < 0 := by omega
            rw [call_run comp5 (Nat.le_of_ble_eq_true rfl)]
            simp (maxSteps := 10000000) [-List.getD_eq_getElem?_getD, -boxA, -loadA, -storeA, code5, hbox, hbox2, l0, l1, l2, hl, hp, hsm, hs, hz', g0, g1, g2, t1, t2, t3, c1, c2, c3, c4, c5, hrp, st2, st3, ld2, ld3, w1, hix, hv0, hv1, cf, cc]
end Go.Ai
