/- This text shows the law of one note more, in the interpreter. No conditions of its own. -/
import Derived.Test.YtckbmdbebmkbaaaDoorHelpE
import Derived.Test.YtckbmdbebmkbaaaDoorCodesL4
set_option linter.unusedSimpArgs false
set_option linter.unusedVariables false
set_option maxRecDepth 100000
namespace Go.Ai
open Go.Office (Ft Rl Us Nt Bk)
def head4_0 (u : Int) (c0 c1 p0 p1 : AV) (k : Int) : Env := mkE 288 .any [(26, I k), (21, p1), (20, p0), (19, c1), (18, c0), (8, I u), (7, .box 3 0), (5, .box 2 0), (3, .box 0 0)]
theorem loop4_0 (BX : List (List AV)) (u : Int) (p0 p1 : AV) (hp0 : ∃ es, IsRow 1 es p0) (hp1 : ∃ es, IsRow 1 es p1) {l0 l1 : List Int} {c0 c1 : AV} (h0 : IsRow 1 (ints l0) c0) (h1 : IsRow 1 (ints l1) c1) (n0 : l0.length < 1000) (n1 : l1.length < 1000) (hs : ∀ v ∈ l1, v ∈ l0) : ∀ (l : List Int) (k : Nat), k ≤ l1.length → l1.drop k = l →
    ∃ L, run Cv 4 (.loop keep4_0 body4_0) (head4_0 u c0 c1 p0 p1 k) { boxes := BX } = some (.ex 0, mkE 288 .any L, { boxes := BX }) ∧ gt (mkE 288 .any L) 3 = .box 0 0 ∧ gt (mkE 288 .any L) 5 = .box 2 0 ∧ gt (mkE 288 .any L) 7 = .box 3 0 ∧ gt (mkE 288 .any L) 8 = I u ∧ gt (mkE 288 .any L) 20 = p0 ∧ gt (mkE 288 .any L) 21 = p1
  | [], k, hk, h => by
    obtain rfl := drop_nil hk h
    have hl := row_len h1
    rw [run_loop]
    simp (maxSteps := 10000000) [-List.getD_eq_getElem?_getD, body4_0, keep4_0, head4_0, hl]
    exact ⟨_, rfl, by simp (maxSteps := 10000000) [-List.getD_eq_getElem?_getD, ], by simp (maxSteps := 10000000) [-List.getD_eq_getElem?_getD, ], by simp (maxSteps := 10000000) [-List.getD_eq_getElem?_getD, ], by simp (maxSteps := 10000000) [-List.getD_eq_getElem?_getD, ], by simp (maxSteps := 10000000) [-List.getD_eq_getElem?_getD, ], by simp (maxSteps := 10000000) [-List.getD_eq_getElem?_getD, ]⟩
  | v :: l, k, hk, h => by
    obtain ⟨hlt, ha, hd⟩ := head_drop h
    have hw := wrap_succ hlt (by omega)
    have hlt' : (k : Int) < (l1.length : Int) := by omega
    have hl := row_len h1
    have hix : ixsA 1 c1 (I k) = some (.rp [I v] 0) := by
      obtain ⟨c, hc, rfl⟩ := row_sl h1 (by intro hn; rw [hn] at hlt; simp at hlt)
      simp [ixsA, ints, AV.cells, hlt, ha]
    obtain ⟨i, hi, hwc⟩ := where_in h0 (by omega) (hs v (by rw [← ha]; exact List.getElem_mem _))
    have hi0 : ¬ i < 0 := by omega
    have hlr : loadA { boxes := BX } none (.rp [I v] 0) = some (I v) := rfl
    have q0 := h0.pur
    have hcut := fun e => cut_self { boxes := BX } e (by simp) (by simp)
    obtain ⟨L, ih, g⟩ := loop4_0 BX u p0 p1 hp0 hp1 h0 h1 n0 n1 hs l (k + 1) hlt hd
    refine ⟨L, ?_, g⟩
    have e1 : ((k + 1 : Nat) : Int) = (k : Int) + 1 := by omega
    rw [← ih, e1, run_loop]
    generalize MC.loop keep4_0 body4_0 = LL
    simp (maxSteps := 10000000) [-List.getD_eq_getElem?_getD, -ixsA, -loadA, -cut, -List.all_eq_true, body4_0, keep4_0, head4_0, hl, hlt', hw, hix, hlr, hwc, hi0, q0, hcut]
def head4_1 (u : Int) (p0 p1 : AV) (k : Int) : Env := mkE 288 .any [(27, I k), (21, p1), (20, p0), (8, I u), (7, .box 3 0), (5, .box 2 0), (3, .box 0 0)]
theorem loop4_1 (BX : List (List AV)) (u : Int) {l0 l1 : List Int} {p0 p1 : AV} (h0 : IsRow 1 (ints l0) p0) (h1 : IsRow 1 (ints l1) p1) (n0 : l0.length < 1000) (n1 : l1.length < 1000) (hs : ∀ v ∈ l1, v ∈ l0) : ∀ (l : List Int) (k : Nat), k ≤ l1.length → l1.drop k = l →
    ∃ L, run Cv 4 (.loop keep4_1 body4_1) (head4_1 u p0 p1 k) { boxes := BX } = some (.ex 2, mkE 288 .any L, { boxes := BX }) ∧ gt (mkE 288 .any L) 3 = .box 0 0 ∧ gt (mkE 288 .any L) 5 = .box 2 0 ∧ gt (mkE 288 .any L) 7 = .box 3 0 ∧ gt (mkE 288 .any L) 8 = I u
  | [], k, hk, h => by
    obtain rfl := drop_nil hk h
    have hl := row_len h1
    rw [run_loop]
    simp (maxSteps := 10000000) [-List.getD_eq_getElem?_getD, body4_1, keep4_1, head4_1, hl]
    exact ⟨_, rfl, by simp (maxSteps := 10000000) [-List.getD_eq_getElem?_getD, ], by simp (maxSteps := 10000000) [-List.getD_eq_getElem?_getD, ], by simp (maxSteps := 10000000) [-List.getD_eq_getElem?_getD, ], by simp (maxSteps := 10000000) [-List.getD_eq_getElem?_getD, ]⟩
  | v :: l, k, hk, h => by
    obtain ⟨hlt, ha, hd⟩ := head_drop h
    have hw := wrap_succ hlt (by omega)
    have hlt' : (k : Int) < (l1.length : Int) := by omega
    have hl := row_len h1
    have hix : ixsA 1 p1 (I k) = some (.rp [I v] 0) := by
      obtain ⟨c, hc, rfl⟩ := row_sl h1 (by intro hn; rw [hn] at hlt; simp at hlt)
      simp [ixsA, ints, AV.cells, hlt, ha]
    obtain ⟨i, hi, hwc⟩ := where_in h0 (by omega) (hs v (by rw [← ha]; exact List.getElem_mem _))
    have hi0 : ¬ i < 0 := by omega
    have hlr : loadA { boxes := BX } none (.rp [I v] 0) = some (I v) := rfl
    have q0 := h0.pur
    have hcut := fun e => cut_self { boxes := BX } e (by simp) (by simp)
    obtain ⟨L, ih, g⟩ := loop4_1 BX u h0 h1 n0 n1 hs l (k + 1) hlt hd
    refine ⟨L, ?_, g⟩
    have e1 : ((k + 1 : Nat) : Int) = (k : Int) + 1 := by omega
    rw [← ih, e1, run_loop]
    generalize MC.loop keep4_1 body4_1 = LL
    simp (maxSteps := 10000000) [-List.getD_eq_getElem?_getD, -ixsA, -loadA, -cut, -List.all_eq_true, body4_1, keep4_1, head4_1, hl, hlt', hw, hix, hlr, hwc, hi0, q0, hcut]
end Go.Ai

set_option maxRecDepth 100000
namespace Go.Ai
open Go.Office (Ft Rl Us Nt Bk vote allI mem_allI ends fitN more_any more_chiefs more_psalms more_days more_agree more_kept more_tr_some wrong_more ends_sub days_some)
theorem more_bk (x : OB) (n : Nt) : (x.more n).bk = x.bk.more n := rfl
set_option maxHeartbeats 4000000 in
theorem more_law (x : OB) (hx : x.Ok) (n : Nt) (a b c : Int) : call Cv 4 [x.av, ntA n, .agg [I a, I b, I c]] = some (.bool true) := by
  have hsm := sound_call x hx
  have hs := chanted_call
  have hp := av_pur hx
  have hbox := x_box hx
  have hbox2 : boxA { boxes := [x.cells] } (ntA n) = some (.box 1 0, { boxes := [x.cells, ntC n] }) := rfl
  have hbox3 : boxA { boxes := [x.cells, ntC n] } (.agg [I a, I b, I c]) = some (.box 2 0, { boxes := [x.cells, ntC n, [I a, I b, I c]] }) := rfl
  have l0 := x_load8 (x := x)
  have l1 := x_fr (x := x)
  have l2 := x_days (x := x)
  have l7 := x_nr (x := x)
  have hl := flen hx
  have hnl := nlen hx
  cases hk : checkB x with
  | false =>
    rw [hk] at hsm
    rw [call_run comp4 (Nat.le_of_ble_eq_true rfl)]
    simp (maxSteps := 10000000) [-List.getD_eq_getElem?_getD, -boxA, -loadA, code4, hbox, hbox2, hbox3, l0, l7, hnl, hp, hsm, hs]
  | true =>
    rw [hk] at hsm
    have f := check_fine hk
    obtain ⟨d1, d6, n4⟩ := dim f
    have m4 := f.n4
    by_cases hz : x.ns.length = 4
    · have hz' : (x.ns.length : Int) = 4 := by omega
      rw [hz'] at hnl
      rw [call_run comp4 (Nat.le_of_ble_eq_true rfl)]
      simp (maxSteps := 10000000) [-List.getD_eq_getElem?_getD, -boxA, -loadA, code4, hbox, hbox2, hbox3, l0, l7, hnl, hp, hsm, hs]
    · have hz' : ((x.ns.length : Int) == 4) = false := by rw [beq_eq_false_iff_ne]; omega
      obtain ⟨u, u1, t1⟩ := turn_nat a (b := 2) (by omega) (by omega)
      obtain ⟨d, e1, t2⟩ := turn_nat b (b := x.days) (by omega) (by omega)
      have u2 : u < 2 := by omega
      have hwi := with_call x hx (by omega) n
      obtain ⟨y, hy⟩ : ∃ y, y = x.more n := ⟨_, rfl⟩
      have hyo : y.Ok := by rw [hy]; exact more_ok hx (by omega) n
      rw [← hy] at hwi
      have hyp := av_pur hyo
      have hyf : y.fs = x.fs := by rw [hy]; rfl
      have hyd : y.days = x.days := by rw [hy]; rfl
      have yc := x_cell y hyo
      have hst : storeA { boxes := [x.cells, ntC n, [I a, I b, I c], [I 0, I 0, .nils, .nils, .bool false, .nils, .bool false, .nils]] } 8 (.box 3 0) y.av = some { boxes := [x.cells, ntC n, [I a, I b, I c], y.cells] } := by
        have h1 : y.av.cells = y.cells := rfl
        have h2 : y.cells.length = 8 := rfl
        have h3 : setAt [I 0, I 0, .nils, .nils, .bool false, .nils, .bool false, .nils] 0 y.cells = y.cells := rfl
        simp [storeA, h1, h2, h3, yc]
      have ly : ∀ (A B C : List AV) E, loadA { boxes := A :: B :: C :: y.cells :: E } (some 8) (.box 3 0) = some y.av := fun _ _ _ _ => rfl
      have ln : ∀ (A : List AV) E, loadA { boxes := A :: ntC n :: E } (some 3) (.box 1 0) = some (ntA n) := fun _ _ => rfl
      have g0 : ∀ (Y Z : List AV) E, loadA { boxes := Z :: Y :: [I a, I b, I c] :: E } none (.box 2 0) = some (I a) := fun _ _ _ => rfl
      have g1 : ∀ (Y Z : List AV) E, loadA { boxes := Z :: Y :: [I a, I b, I c] :: E } none (.box 2 1) = some (I b) := fun _ _ _ => rfl
      have g2 : ∀ (Y Z : List AV) E, loadA { boxes := Z :: Y :: [I a, I b, I c] :: E } none (.box 2 2) = some (I c) := fun _ _ _ => rfl
      have hnp : ∀ σ k, pur σ (k + 4) (ntA n) = some (ntA n, false) := fun _ _ => rfl
      cases hnb : noteB x n with
      | false =>
        have hyk : checkB y = false := by rw [hy]; exact more_bad hnb
        have c1 := Fits_bad hx hk hnb
        have c2 := Right_call y hyo
        rw [hyk] at c2
        simp only [Bool.false_and, if_false, Bool.false_eq_true] at c2
        rw [call_run comp4 (Nat.le_of_ble_eq_true rfl)]
        simp (maxSteps := 10000000) [-List.getD_eq_getElem?_getD, -boxA, -loadA, -storeA, code4, hbox, hbox2, hbox3, l0, l2, l7, hnl, hp, hsm, hs, hz', g0, g1, t1, t2, hwi, hst, ly, ln, hnp, hyp, c1, c2]
      | true =>
        have hyk : checkB y = true := by rw [hy]; exact more_check hk (by omega) hnb
        have hyb : y.bk = x.bk.more n := by rw [hy]; rfl
        have c2 := Right_1 hyo hyk
        obtain ⟨w0, hw0, c3⟩ := Wrong_call x hx
        obtain ⟨w1, hw1, c4⟩ := Wrong_call y hyo
        have hwa : wrongA x = x.bk.wrongL := by rw [wrongA, hk]; rfl
        have hwb : wrongA y = (x.bk.more n).wrongL := by rw [wrongA, hyk, hyb]; rfl
        rw [hwa] at hw0
        rw [hwb] at hw1
        rw [hk, if_pos rfl] at c3
        rw [hyk, if_pos rfl] at c4
        have lw0 := row_len hw0
        have lw1 := row_len hw1
        have pw0 := hw0.pur
        have pw1 := hw1.pur
        have hwm := wrong_more f.bk (h := n) (by rw [← hyb]; exact (check_fine hyk).bk) (by show x.ns.length + 1 ≤ 62; omega)
        have hwm' : ¬ ((x.bk.more n).wrongL.length : Int) < (x.bk.wrongL.length : Int) := by omega
        have hany := more_any x.bk n
        have hfe : (fitB x n) = fitN x.bk n := rfl
        rw [hyb, ← hany] at c2
        by_cases hT : x.bk.tr = []
        · have c1 := Fits_0 hx hk hT hnb
          rw [hT, List.any_nil] at c2
          rw [call_run comp4 (Nat.le_of_ble_eq_true rfl)]
          simp (maxSteps := 10000000) [-List.getD_eq_getElem?_getD, -boxA, -loadA, -storeA, code4, hbox, hbox2, hbox3, l0, l2, l7, hnl, hp, hsm, hs, hz', g0, g1, t1, t2, hwi, hst, ly, ln, hnp, hyp, c1, c2, c3, c4, lw0, lw1, pw0, pw1, hwm']
        · have c1 := Fits_1 hx hk hT hnb
          rw [hfe] at c1
          cases hm : x.bk.tr.any (fitN x.bk n) with
          | false =>
            rw [hm] at c1 c2
            rw [call_run comp4 (Nat.le_of_ble_eq_true rfl)]
            simp (maxSteps := 10000000) [-List.getD_eq_getElem?_getD, -boxA, -loadA, -storeA, code4, hbox, hbox2, hbox3, l0, l2, l7, hnl, hp, hsm, hs, hz', g0, g1, t1, t2, hwi, hst, ly, ln, hnp, hyp, c1, c2, c3, c4, lw0, lw1, pw0, pw1, hwm']
          | true =>
            rw [hm] at c1 c2 hany
            have hTy : y.bk.tr ≠ [] := by
              rw [hyb]
              intro h
              rw [h] at hany
              cases hany
            have hTm : (x.bk.more n).tr ≠ [] := by rw [← hyb]; exact hTy
            obtain ⟨r0, s0, c5⟩ := Chief_1 hx hk hT u2 e1
            obtain ⟨r1, s1, c6⟩ := Chief_1 hyo hyk hTy u2 (d := d) (by rw [hyd]; exact e1)
            obtain ⟨p0, v0, c7⟩ := Psalm_1 hx hk hT u2 e1
            obtain ⟨p1, v1, c8⟩ := Psalm_1 hyo hyk hTy u2 (d := d) (by rw [hyd]; exact e1)
            have c9 := Agree_1 hx hk hT e1
            have c10 := Agree_1 hyo hyk hTy (d := d) (by rw [hyd]; exact e1)
            rw [hyb] at s1 v1 c10
            have q0 := s0.pur
            have q1 := s1.pur
            have q2 := v0.pur
            have q3 := v1.pur
            have sub1 : ∀ v ∈ allI ((x.bk.more n).chiefsL u d), v ∈ allI (x.bk.chiefsL u d) := fun v hv => mem_allI.2 (more_chiefs (mem_allI.1 hv))
            have sub2 : ∀ v ∈ allI ((x.bk.more n).psalmsL u d), v ∈ allI (x.bk.psalmsL u d) := fun v hv => mem_allI.2 (more_psalms (mem_allI.1 hv))
            have n1 : (allI (x.bk.chiefsL u d)).length < 1000 := Nat.lt_of_le_of_lt (allI_len hk _) (by decide)
            have n2 : (allI (x.bk.psalmsL u d)).length < 1000 := Nat.lt_of_le_of_lt (allI_len hk _) (by decide)
            have n3 : (allI ((x.bk.more n).chiefsL u d)).length < 1000 := by rw [← hyb]; exact Nat.lt_of_le_of_lt (allI_len hyk _) (by decide)
            have n5 : (allI ((x.bk.more n).psalmsL u d)).length < 1000 := by rw [← hyb]; exact Nat.lt_of_le_of_lt (allI_len hyk _) (by decide)
            obtain ⟨La, la, a3, a5, a7, a8, a20, a21⟩ := loop4_0 [x.cells, ntC n, [I a, I b, I c], y.cells] u p0 p1 ⟨_, v0⟩ ⟨_, v1⟩ s0 s1 n1 n3 sub1 _ 0 (Nat.zero_le _) rfl
            obtain ⟨Lb, lb, b3, b5, b7, b8⟩ := loop4_1 [x.cells, ntC n, [I a, I b, I c], y.cells] u v0 v1 n2 n5 sub2 _ 0 (Nat.zero_le _) rfl
            have la' := fun E (hE : mask keep4_0 E = _) => run_at la hE
            have lb' := fun E (hE : mask keep4_1 E = _) => run_at lb hE
            have e0 : ((0 : Nat) : Int) = 0 := rfl
            simp only [keep4_0, head4_0, e0] at la'
            simp only [keep4_1, head4_1, e0] at lb'
            have hag : vote (x.bk.agreeB d) x.bk.tr = 1 ∨ (¬ vote (x.bk.agreeB d) x.bk.tr = 1 ∧ vote ((x.bk.more n).agreeB d) (x.bk.more n).tr = vote (x.bk.agreeB d) x.bk.tr) := by
              by_cases h : vote (x.bk.agreeB d) x.bk.tr = 1
              · exact .inl h
              · exact .inr ⟨h, more_agree hTm h⟩
            generalize vote (x.bk.agreeB d) x.bk.tr = ag0 at *
            generalize vote ((x.bk.more n).agreeB d) (x.bk.more n).tr = ag1 at *
            by_cases hf : x.fs.length = 0
            · have hf' : (x.fs.length : Int) = 0 := by omega
              rw [hf'] at hl
              rw [call_run comp4 (Nat.le_of_ble_eq_true rfl)]
              rcases hag with rfl | ⟨hag, rfl⟩
              · simp (maxSteps := 10000000) [-List.getD_eq_getElem?_getD, -boxA, -loadA, -storeA, code4, hbox, hbox2, hbox3, l0, l1, l2, l7, hnl, hl, hp, hsm, hs, hz', g0, g1, g2, t1, t2, hwi, hst, ly, ln, hnp, hyp, c1, c2, c3, c4, c5, c6, c7, c8, c9, c10, lw0, lw1, pw0, pw1, hwm', q0, q1, q2, q3, keep4_0, keep4_1, la', a3, a5, a7, a8, a20, a21, lb', b3, b5, b7, b8]
              · simp (maxSteps := 10000000) [-List.getD_eq_getElem?_getD, -boxA, -loadA, -storeA, code4, hbox, hbox2, hbox3, l0, l1, l2, l7, hnl, hl, hp, hsm, hs, hz', g0, g1, g2, t1, t2, hwi, hst, ly, ln, hnp, hyp, c1, c2, c3, c4, c5, c6, c7, c8, c9, c10, lw0, lw1, pw0, pw1, hwm', q0, q1, q2, q3, hag, keep4_0, keep4_1, la', a3, a5, a7, a8, a20, a21, lb', b3, b5, b7, b8]
            · have hf' : ((x.fs.length : Int) == 0) = false := by rw [beq_eq_false_iff_ne]; omega
              obtain ⟨k, k1, t3⟩ := turn_nat c (b := x.fs.length) (by omega) (by omega)
              have k2 : k < x.fs.length := by omega
              have c11 := Day_1 hx hk hT k2
              have c12 := Day_1 hyo hyk hTy (k := k) (by rw [hyf]; exact k2)
              have c13 := Kept_1 hx hk hT u2 k2
              have c14 := Kept_1 hyo hyk hTy u2 (k := k) (by rw [hyf]; exact k2)
              rw [hyb] at c12 c14
              have hsub := ends_sub (l := x.bk.daysL k) (m := (x.bk.more n).daysL k) (fun v hv => more_days hv) (days_some hTm)
              have hke : vote (x.bk.keptB u k) x.bk.tr = 1 ∨ (¬ vote (x.bk.keptB u k) x.bk.tr = 1 ∧ vote ((x.bk.more n).keptB u k) (x.bk.more n).tr = vote (x.bk.keptB u k) x.bk.tr) := by
                by_cases h : vote (x.bk.keptB u k) x.bk.tr = 1
                · exact .inl h
                · exact .inr ⟨h, more_kept hTm h⟩
              generalize vote (x.bk.keptB u k) x.bk.tr = ke0 at *
              generalize vote ((x.bk.more n).keptB u k) (x.bk.more n).tr = ke1 at *
              generalize ends (x.bk.daysL k) = en0 at *
              generalize ends ((x.bk.more n).daysL k) = en1 at *
              obtain ⟨lo0, hi0⟩ := en0
              obtain ⟨lo1, hi1⟩ := en1
              simp only at *
              have cu := under_call lo1 hi1 lo0 hi0
              have cub : (decide (lo0 ≤ lo1) && decide (hi1 ≤ hi0)) = true := by simp; omega
              rw [cub] at cu
              have st2 : ∀ (Z Y X W : List AV) (p q : Int), storeA { boxes := [Z, Y, X, W, [I 0, I 0]] } 2 (.box 4 0) (.agg [I p, I q]) = some { boxes := [Z, Y, X, W, [I p, I q]] } := fun _ _ _ _ _ _ => rfl
              have st3 : ∀ (Z Y X W V : List AV) (p q : Int), storeA { boxes := [Z, Y, X, W, V, [I 0, I 0]] } 2 (.box 5 0) (.agg [I p, I q]) = some { boxes := [Z, Y, X, W, V, [I p, I q]] } := fun _ _ _ _ _ _ _ => rfl
              have ld2 : ∀ (Z Y X W : List AV) (p q : Int) E, loadA { boxes := Z :: Y :: X :: W :: [I p, I q] :: E } (some 2) (.box 4 0) = some (.agg [I p, I q]) := fun _ _ _ _ _ _ _ => rfl
              have ld3 : ∀ (Z Y X W V : List AV) (p q : Int) E, loadA { boxes := Z :: Y :: X :: W :: V :: [I p, I q] :: E } (some 2) (.box 5 0) = some (.agg [I p, I q]) := fun _ _ _ _ _ _ _ _ => rfl
              have hk1 : (ke0 == 1) = true ∨ ((ke0 == 1) = false ∧ ke1 = ke0) := by
                rcases hke with rfl | ⟨h, h'⟩
                · exact .inl rfl
                · exact .inr ⟨by rw [beq_eq_false_iff_ne]; exact h, h'⟩
              rw [call_run comp4 (Nat.le_of_ble_eq_true rfl)]
              rcases hag with rfl | ⟨hag, rfl⟩
              · rcases hk1 with hk1 | ⟨hk1, rfl⟩
                · simp (maxSteps := 10000000) [-List.getD_eq_getElem?_getD, -boxA, -loadA, -storeA, code4, hbox, hbox2, hbox3, l0, l1, l2, l7, hnl, hl, hp, hsm, hs, hz', g0, g1, g2, t1, t2, t3, hwi, hst, ly, ln, hnp, hyp, c1, c2, c3, c4, c5, c6, c7, c8, c9, c10, c11, c12, c13, c14, lw0, lw1, pw0, pw1, hwm', q0, q1, q2, q3, hf', hk1, cu, st2, st3, ld2, ld3, keep4_0, keep4_1, la', a3, a5, a7, a8, a20, a21, lb', b3, b5, b7, b8]
                · simp (maxSteps := 10000000) [-List.getD_eq_getElem?_getD, -boxA, -loadA, -storeA, code4, hbox, hbox2, hbox3, l0, l1, l2, l7, hnl, hl, hp, hsm, hs, hz', g0, g1, g2, t1, t2, t3, hwi, hst, ly, ln, hnp, hyp, c1, c2, c3, c4, c5, c6, c7, c8, c9, c10, c11, c12, c13, c14, lw0, lw1, pw0, pw1, hwm', q0, q1, q2, q3, hf', hk1, cu, st2, st3, ld2, ld3, keep4_0, keep4_1, la', a3, a5, a7, a8, a20, a21, lb', b3, b5, b7, b8]
              · rcases hk1 with hk1 | ⟨hk1, rfl⟩
                · simp (maxSteps := 10000000) [-List.getD_eq_getElem?_getD, -boxA, -loadA, -storeA, code4, hbox, hbox2, hbox3, l0, l1, l2, l7, hnl, hl, hp, hsm, hs, hz', g0, g1, g2, t1, t2, t3, hwi, hst, ly, ln, hnp, hyp, c1, c2, c3, c4, c5, c6, c7, c8, c9, c10, c11, c12, c13, c14, lw0, lw1, pw0, pw1, hwm', q0, q1, q2, q3, hag, hf', hk1, cu, st2, st3, ld2, ld3, keep4_0, keep4_1, la', a3, a5, a7, a8, a20, a21, lb', b3, b5, b7, b8]
                · simp (maxSteps := 10000000) [-List.getD_eq_getElem?_getD, -boxA, -loadA, -storeA, code4, hbox, hbox2, hbox3, l0, l1, l2, l7, hnl, hl, hp, hsm, hs, hz', g0, g1, g2, t1, t2, t3, hwi, hst, ly, ln, hnp, hyp, c1, c2, c3, c4, c5, c6, c7, c8, c9, c10, c11, c12, c13, c14, lw0, lw1, pw0, pw1, hwm', q0, q1, q2, q3, hag, hf', hk1, cu, st2, st3, ld2, ld3, keep4_0, keep4_1, la', a3, a5, a7, a8, a20, a21, lb', b3, b5, b7, b8]
end Go.Ai
