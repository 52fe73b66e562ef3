/- This text shows the law of true, in the interpreter. No conditions of its own. -/
import Derived.Test.YtbjdaefdifofkaaDoorLawsW
import Derived.Test.YtbjdaefdifofkaaDoorTrueA
import Derived.Test.YtbjdaefdifofkaaDoorCodesL6
set_option linter.unusedSimpArgs false
set_option linter.unusedVariables false
set_option maxRecDepth 100000
set_option linter.unusedSimpArgs false
set_option linter.unusedVariables false
/-! The theorem of the organ. -/
namespace Go.Ai
open Go.Organ (T4 F3 Tb T6 tunesR forksR shL shH loS hiS)
theorem enum_ne (b : Vc.Boy) (hb : ∀ k, k ≤ 4 → (b.span k).low ≤ (b.span k).high) : ∀ (d : Nat), d ≤ 4 → ∀ v : Vc.Vo, Vc.enum b (fun _ => true) d v ≠ []
  | 0, _, v => by
    have h := hb 4 (Nat.le_refl _)
    simp only [Vc.Boy.span] at h
    rw [Vc.enum, List.filter_eq_self.2 (fun _ _ => rfl)]
    intro h0
    have := congrArg List.length h0
    simp [Vc.vals] at this
    omega
  | d + 1, hd, v => by
    have h := hb (3 - d) (by omega)
    rw [Vc.enum]
    intro h0
    rw [List.flatMap_eq_nil_iff] at h0
    have h1 : (b.span (3 - d)).low ∈ Vc.vals (b.span (3 - d)) := by
      simp only [Vc.vals, List.mem_map, List.mem_range]
      exact ⟨0, by omega, by simp⟩
    exact enum_ne b hb d (by omega) _ (h0 _ h1)
theorem boy_spans {b : Vc.Boy} (h : Vc.boyOk b = true) : ∀ k, k ≤ 4 → (b.span k).low ≤ (b.span k).high := by
  simp only [Vc.boyOk, Vc.spanOk, Bool.and_eq_true, decide_eq_true_eq] at h
  intro k hk
  match k with
  | 0 => simp only [Vc.Boy.span]; omega
  | 1 => simp only [Vc.Boy.span]; omega
  | 2 => simp only [Vc.Boy.span]; omega
  | 3 => simp only [Vc.Boy.span]; omega
  | 4 => simp only [Vc.Boy.span]; omega
/-- Without trials voices can be. -/
theorem fine_free {v : Vc.Book} (h : Vc.checkOk v = true) : Vc.fine { v with trials := [], tnil := .nil } [] = true := by
  have hg := (Vc.good_of h).boys
  have key : ∀ (l : List Vc.Boy) (k : Nat), l.all Vc.boyOk = true → (Vc.Ts { v with trials := [], tnil := .nil } [] l k).all (fun l => !decide (l = [])) = true := by
    intro l
    induction l with
    | nil => intro k _; rfl
    | cons b l ih =>
      intro k hl
      rw [List.all_cons, Bool.and_eq_true] at hl
      rw [Vc.Ts, List.all_cons, ih _ hl.2, Bool.and_true]
      have hne := enum_ne b (boy_spans hl.1) 4 (Nat.le_refl _) ⟨-1, -1, -1, -1, -1⟩
      have : Vc.voicesOf { v with trials := [], tnil := .nil } k b [] = Vc.enum b (fun _ => true) 4 ⟨-1, -1, -1, -1, -1⟩ := rfl
      rw [this]
      simp [hne]
  exact key v.boys 0 hg
theorem check_free {v : Vc.Book} (h : Vc.checkOk v = true) : Vc.checkOk { v with trials := [], tnil := .nil } = true := by
  simp only [Vc.checkOk, Bool.and_eq_true, decide_eq_true_eq] at h ⊢
  obtain ⟨⟨⟨⟨⟨h1, h2⟩, h3, h4⟩, h5⟩, h6⟩, h7⟩ := h
  exact ⟨⟨⟨⟨⟨h1, h2⟩, h3, h4⟩, by simp⟩, h6⟩, rfl⟩
theorem rightly_vok {x : OB} (hx : x.Ok) (hc : Chk x) (H bits : List Int) : (x.rightly H bits).Ok := by
  refine ⟨growP_row _ _, growP_row _ _, ?_, ?_, ⟨hx.voice.boys, fun _ => rfl, hx.voice.blen, by simp [OB.rightly]⟩⟩
  · have := hc.tunes
    show (tunesR H (drawE bits 1) x.tunes 0).length < _
    rw [Organ.tunesR_len]; omega
  · have := hc.forks
    show (forksR H (drawE bits 2) x.forks 0).length < _
    rw [Organ.forksR_len]; omega
theorem drawE_range (bits : List Int) (o : Nat) (k : Nat) (e : Int) (h : 0 ≤ e) : -e ≤ drawE bits o k e ∧ drawE bits o k e ≤ e := draw_range _ _ _ (by omega)
theorem rightly_chk {x : OB} (hc : Chk x) {H : List Int} (bits : List Int) (hH : ∀ p, p < x.N → -15 ≤ H.getD p 0 ∧ H.getD p 0 ≤ 15) : Chk (x.rightly H bits) := by
  refine ⟨⟨Organ.rightly_ok hc.b hH (drawE_range bits 1) (drawE_range bits 2), hc.pipes⟩, ?_, ?_, check_free hc.voice⟩
  · show (tunesR H (drawE bits 1) x.tunes 0).length ≤ 6
    rw [Organ.tunesR_len]; exact hc.tunes
  · show (forksR H (drawE bits 2) x.forks 0).length ≤ 3
    rw [Organ.forksR_len]; exact hc.forks
theorem none_wrong {x : OB} (hc : Chk x) (ht : trueO x = true) : wrongL x = [] ∧ wrongE x = 0 := by
  have hck := (chk_iff x).2 hc
  have h6 := hc.tunes
  rw [true_iff, Bool.and_eq_true] at ht
  have hok : okL x [] = true := by rw [okL_nil]; exact ht.2
  have hwo : wrongO x = Least.wrongG (okL x) x.tunes.length 0 (x.tunes.length + 1) := by rw [wrongO, hck, if_pos rfl, ht.1, if_pos rfl]
  have hwe : wrongE x = if (wrongO x).isSome then 0 else 82 := by rw [wrongE, hck, if_pos rfl]
  cases hwr : wrongO x with
  | none =>
    have := Least.told_none (ok := okL x) (T := x.tunes.length) (by omega) (hwo ▸ hwr) 0
    rw [bits_zero, hok] at this
    cases this
  | some w =>
    have tw := Least.told_some (ok := okL x) (T := x.tunes.length) (by omega) (hwo ▸ hwr)
    have := tw.least 0 (Nat.two_pow_pos _) (by rw [bits_zero]; exact hok)
    rw [bits_zero] at this
    have hw : w = [] := by
      cases w with
      | nil => rfl
      | cons a w => simp [Least.shorterL] at this
    rw [hwr] at hwe
    exact ⟨by rw [wrongL, hwr, hw]; rfl, hwe⟩
theorem covers_true {a b c : Int} (h : a ≤ c ∧ c ≤ b) : call Cv 39 [.agg [I a, I b], I c] = some (.bool true) := by
  have hl := lies_call c a b
  have h1 : (decide (a ≤ c) && decide (c ≤ b)) = true := by simp [h.1, h.2]
  rw [h1] at hl
  rw [call_run comp39 (Nat.le_of_ble_eq_true rfl)]
  simp (maxSteps := 10000000) [-List.getD_eq_getElem?_getD, code39, hl]
theorem sharp_t' {x : OB} (hx : x.Ok) (hc : Chk x) (ht : trueO x = true) : call Cv 23 [x.av] = some (.tup [.agg [I (shL (tab x) x.N), I (shH (tab x) x.N)], I 0]) := by
  have h := Sharp_call x hx
  have h0 : askE x true = 0 := by rw [askE_true hc, tE, ht]; rfl
  rw [h0, sharpV, if_pos h0, tab0] at h
  exact h
set_option maxHeartbeats 4000000 in
theorem true_law (x : OB) (hx : x.Ok) (bits : List Int) (r : AV) (hbl : bits.length < 2 ^ 47) (hr : IsRow 1 (ints bits) r) (n0 n1 : Int) : call Cv 6 [x.av, r, .agg [I n0, I n1]] = some (.bool true) := by
  have hsm := small_call x hx
  have hs := tuned_call
  have hcl := xcells_cell x hx
  have hp := av_pur x hx
  have hbox : boxA {} x.av = some (.box 0 0, { boxes := [x.cells] }) := by
    simp only [boxA, OB.av, AV.cells, hcl, if_true]; rfl
  have hbox2 : boxA { boxes := [x.cells] } (.agg [I n0, I n1]) = some (.box 1 0, { boxes := [x.cells, [I n0, I n1]] }) := rfl
  have x0 : x.cells[0]? = some (I x.pipes) := rfl
  cases hc : checkOk x with
  | false =>
    rw [hc] at hsm
    rw [call_run comp6 (Nat.le_of_ble_eq_true rfl)]
    simp (maxSteps := 10000000) [-List.getD_eq_getElem?_getD, -boxA, -partA, part_none, part_x, code6, hbox, hbox2, hp, hsm, hs]
  | true =>
    rw [hc] at hsm
    have hch := (chk_iff x).1 hc
    obtain ⟨p, hpl, t0⟩ := turn_pipe hch n0
    obtain ⟨q, hql, t1⟩ := turn_pipe hch n1
    have c1 := truly_call x hx hch bits r hr hbl
    have hrp := hr.pur
    obtain ⟨H, hHd⟩ : ∃ H, highsL x bits = H := ⟨_, rfl⟩
    have hHr : ∀ p, p < x.N → -15 ≤ H.getD p 0 ∧ H.getD p 0 ≤ 15 := fun p hp => by rw [← hHd]; exact highs_range bits hp
    have hHl : H.length = x.N := by rw [← hHd]; simp [highsL]
    rw [hHd] at c1
    have hrow : IsRow 1 (ints H) (.sl 1 (ints H) .no) := .inr (.inr ⟨.no, rfl, rfl⟩)
    have c2 := rightly_call x hx hch H bits _ r hrow hHl hHr hr hbl
    have hy := rightly_vok hx hch H bits
    have hyc := rightly_chk hch bits hHr
    have hst := Organ.rightly_stand hch.b hHr (drawE_range bits 1) (drawE_range bits 2)
    have hyt : trueO (x.rightly H bits) = true := by
      rw [true_iff, Bool.and_eq_true]
      exact ⟨fine_free hch.voice, (Organ.isO_iff hyc.b).2 ⟨_, hst⟩⟩
    have hyp := av_pur _ hy
    have hycl := xcells_cell _ hy
    have hyav : (x.rightly H bits).av.cells = (x.rightly H bits).cells := rfl
    have hyl : (x.rightly H bits).cells.length = 6 := rfl
    have hys : setAt [I 0, .nils, .nils, .nils, I 0, .nils] 0 (x.rightly H bits).cells = (x.rightly H bits).cells := rfl
    have hy6 : partA (some 6) (x.rightly H bits).cells 0 = some (x.rightly H bits).av := rfl
    have hyN : (x.rightly H bits).N = x.N := rfl
    have d1 := right_val' hy ((chk_iff _).2 hyc)
    rw [hyt] at d1
    obtain ⟨w, hw, d2⟩ := wrongP_call _ hy
    obtain ⟨w1, w2⟩ := none_wrong hyc hyt
    rw [w1] at hw
    rw [w2] at d2
    have hwl := row_len hw
    have hwp := hw.pur
    have e0 : (([] : List Int).length : Int) = 0 := rfl
    rw [e0] at hwl
    have d3 := pitch_t hy hyc hyt (p := p) hpl
    have d4 := apart_t hy hyc hyt (p := p) (q := q) hpl hql
    have d5 := sharp_t' hy hyc hyt
    rw [hyN] at d5
    have rp : Organ.Real x.N p := .inl hpl
    have rq : Organ.Real x.N q := .inl hql
    have r5 : Organ.Real x.N 5 := .inr rfl
    have h5 := hch.b.five
    have g0 : Organ.highsOf H 5 = 0 := rfl
    have gp : Organ.highsOf H p = H.getD p 0 := by unfold Organ.highsOf; rw [if_neg (by omega)]
    have gq : Organ.highsOf H q = H.getD q 0 := by unfold Organ.highsOf; rw [if_neg (by omega)]
    have k1 := Organ.T6_covers hyc.b hst (i := 5) (k := p) r5 rp
    have k2 := Organ.T6_covers hyc.b hst (i := p) (k := q) rp rq
    rw [show T6 (x.rightly H bits).N (x.rightly H bits).forks (x.rightly H bits).tunes = tab (x.rightly H bits) from rfl] at k1 k2
    rw [g0, gp] at k1
    rw [gp, gq] at k2
    have k3 := Organ.loS_le (tab (x.rightly H bits)) hpl
    have k4 := Organ.hiS_le (tab (x.rightly H bits)) hpl
    have k5 := Organ.sh_near hyc.b ((Organ.isO_iff hyc.b).2 ⟨_, hst⟩)
    rw [show T6 (x.rightly H bits).N (x.rightly H bits).forks (x.rightly H bits).tunes = tab (x.rightly H bits) from rfl, hyN] at k5
    have v1 : 10 * shL (tab (x.rightly H bits)) x.N ≤ H.getD p 0 := by unfold shL; omega
    have v2 : 10 * shH (tab (x.rightly H bits)) x.N ≥ H.getD p 0 := by unfold shH; omega
    have z1 : IntKind.wrap .i64 (10 * shL (tab (x.rightly H bits)) x.N) = 10 * shL (tab (x.rightly H bits)) x.N := wrap_small (by unfold shL; omega) (by unfold shL; omega)
    have z2 : IntKind.wrap .i64 (10 * shH (tab (x.rightly H bits)) x.N) = 10 * shH (tab (x.rightly H bits)) x.N := wrap_small (by unfold shH; omega) (by unfold shH; omega)
    have b1 := hHr p hpl
    have b2 := hHr q hql
    have z3 : IntKind.wrap .i64 (H.getD q 0 - H.getD p 0) = H.getD q 0 - H.getD p 0 := wrap_small (by omega) (by omega)
    have f1 := covers_true (a := -tab (x.rightly H bits) p 5) (b := tab (x.rightly H bits) 5 p) (c := H.getD p 0) (by omega)
    have f2 := covers_true (a := -tab (x.rightly H bits) q p) (b := tab (x.rightly H bits) p q) (c := H.getD q 0 - H.getD p 0) (by omega)
    have i1 : ixsA 1 (.sl 1 (ints H) .no) (I p) = some (.rp [I (H.getD p 0)] 0) := by
      have := at_row hrow (n := p) (by omega) (by omega); simpa using this
    have i2 : ixsA 1 (.sl 1 (ints H) .no) (I q) = some (.rp [I (H.getD q 0)] 0) := by
      have := at_row hrow (n := q) (by omega) (by omega); simpa using this
    have hlr : ∀ σ n, loadA σ none (.rp [I n] 0) = some (I n) := fun _ _ => rfl
    generalize H.getD p 0 = hp' at *
    generalize H.getD q 0 = hq' at *
    generalize tab (x.rightly H bits) = T' at *
    generalize shL T' x.N = s1 at *
    generalize shH T' x.N = s2 at *
    generalize (x.rightly H bits).av = YA at *
    generalize (x.rightly H bits).cells = YC at *
    rw [call_run comp6 (Nat.le_of_ble_eq_true rfl)]
    simp (maxSteps := 10000000) [-List.getD_eq_getElem?_getD, -boxA, -partA, -setAt, -ixsA, -List.all_eq_true, part_none, part_two, part_x, set_two, code6, hbox, hbox2, hp, hsm, hs, x0, t0, t1, c1, hrp, c2, hyp, hycl, hyav, hyl, hys, hy6, d1, d2, d3, d4, d5, hwl, hwp, f1, f2, i1, i2, hlr, v1, v2, z1, z2, z3, still]
end Go.Ai
