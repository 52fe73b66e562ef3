/- This text shows the law of one hearing more, in the interpreter. No conditions of its own. -/
import Derived.Test.YtknklhodhkohlaaDoorHelpD
import Derived.Test.YtknklhodhkohlaaDoorHelpC
import Derived.Test.YtknklhodhkohlaaDoorCodesL6
set_option linter.unusedSimpArgs false
set_option linter.unusedVariables false
set_option maxRecDepth 100000
namespace Go.Ai
open Go.Cold (Mv Hd Bk Tr ends)
theorem under_true {a b c d : Int} (h : c ≤ a ∧ b ≤ d) : call Cv 35 [.agg [I a, I b], .agg [I c, I d]] = some (.bool true) := by
  rw [call_run comp35 (Nat.le_of_ble_eq_true rfl)]
  have h1 : c ≤ a := h.1
  have h2 : b ≤ d := h.2
  simp (maxSteps := 10000000) [-List.getD_eq_getElem?_getD, code35, h1, h2]
theorem and_one (n : Int) : ∃ k : Int, (k = 0 ∨ k = 1) ∧ IntKind.wrap .i64 (((n % 2 ^ IntKind.bits .i64).toNat &&& 1 % 2 ^ IntKind.bits .i64 : Nat) : Int) = k := by
  have h : ((n % 2 ^ IntKind.bits .i64).toNat &&& 1 % 2 ^ IntKind.bits .i64) = (n % 2 ^ IntKind.bits .i64).toNat % 2 := Nat.and_one_is_mod _
  refine ⟨(((n % 2 ^ IntKind.bits .i64).toNat % 2 : Nat) : Int), by omega, ?_⟩
  rw [h]
  exact wrap_small (by omega) (by omega)
theorem ends_less {l m : List Int} (hm : m ≠ []) (h : ∀ n ∈ m, n ∈ l) : (ends l).1 ≤ (ends m).1 ∧ (ends m).2 ≤ (ends l).2 := by
  obtain ⟨h1, h2⟩ := Go.Cold.ends_mem hm
  exact ⟨(Go.Cold.ends_covers (h _ h1)).1, (Go.Cold.ends_covers (h _ h2)).2⟩
set_option maxHeartbeats 8000000 in
theorem more_law (x : CB) (hx : x.Ok) (t : Hd) (a b : Int) : call Cv 6 [x.av, hdA t, .agg [I a, I b]] = some (.bool true) := by
  have hsm := sound_call x hx
  have hs := sneezed_call
  have hp := av_pur x hx
  have hbox := x_box x hx
  have hbox1 : boxA { boxes := [x.cells] } (hdA t) = some (.box 1 0, { boxes := [x.cells, hdC t] }) := rfl
  have hbox2 : boxA { boxes := [x.cells, hdC t] } (.agg [I a, I b]) = some (.box 2 0, { boxes := [x.cells, hdC t, [I a, I b]] }) := rfl
  have x0 : x.cells[0]? = some (I x.beds) := rfl
  have x1 : x.cells[1]? = some (I x.days) := rfl
  have x10 : x.cells[10]? = some x.hr := rfl
  have hpx := part_x x
  have hpt : partA (some 3) (hdC t) 0 = some (hdA t) := rfl
  have hpn : ∀ i, partA none x.cells i = x.cells[i]? := fun _ => rfl
  have hpn2 : ∀ (u v : AV) i, partA none [u, v] i = [u, v][i]? := fun _ _ _ => rfl
  have hp22 : ∀ (u v : AV), partA (some 2) [u, v] 0 = some (.agg [u, v]) := fun _ _ => rfl
  have hlen := hlen hx
  cases hk : checkB x with
  | false =>
    rw [hk] at hsm
    rw [call_run comp6 (Nat.le_of_ble_eq_true rfl)]
    simp (maxSteps := 10000000) [-List.getD_eq_getElem?_getD, -boxA, -partA, code6, hbox, hbox1, hbox2, hpx, hpn, hp, hsm, hs]
  | true =>
    rw [hk] at hsm
    have f := check_fine hk
    have hl4 := f.lh
    by_cases h4 : x.hs.length = 4
    · have e4 : ((x.hs.length : Int) == 4) = true := by rw [h4]; rfl
      rw [call_run comp6 (Nat.le_of_ble_eq_true rfl)]
      simp (maxSteps := 10000000) [-List.getD_eq_getElem?_getD, -boxA, -partA, code6, hbox, hbox1, hbox2, hpx, hpn, hp, hsm, hs, x10, hlen, e4]
    have e4 : ((x.hs.length : Int) == 4) = false := by simp; omega
    obtain ⟨m, m1, m2, t1⟩ := turn_bed f a
    obtain ⟨d, d2, d3, t2⟩ := turn_day f b
    have wc := with_call x hx (by omega) t
    have yok := more_ok hx (by omega) t
    have ybk := more_bk x t
    have hpt2 : ∀ σ n, pur σ (n + 2) (hdA t) = some (hdA t, false) := fun _ _ => rfl
    have hfo : fo 12 (hdA t) = true := rfl
    have c0 := Fits_call x hx t
    have q0 := Right_call (x.more t) yok
    have w0 := Wrong_call (x.more t) yok
    have yok1 := more_check (x := x) hk (by omega) (h := t)
    have yok2 := more_bad (x := x) hk (h := t)
    have wl := Go.Cold.wrong_more f.bk (h := t)
    generalize x.more t = Y at *
    have yp := av_pur Y yok
    have ycl := x_cell Y yok
    have yz := z11 Y
    have ypx := part_x Y
    have ylen : Y.cells.length = 11 := rfl
    have yav : Y.av.cells = Y.cells := rfl
    rw [show AV.agg (hdC t) = hdA t from rfl] at c0
    cases hsp : spotB x t.bed t.day with
    | false =>
      rw [hsp, errQ_bad (.inr rfl), hk, if_pos rfl] at c0
      rw [yok2 hsp] at q0
      rw [show decide ((31 : Int) = 0) = false from rfl, Bool.false_and] at c0
      rw [Bool.false_and, if_neg (by decide)] at q0
      rw [call_run comp6 (Nat.le_of_ble_eq_true rfl)]
      simp (maxSteps := 10000000) [-List.getD_eq_getElem?_getD, -boxA, -partA, -setAt, code6, hbox, hbox1, hbox2, hpx, hpt, hpn, hpn2, hp, hpt2, hfo, hsm, hs, x0, x1, x10, hlen, e4, t1, t2, wc, yp, ycl, yz, ypx, ylen, yav, c0, q0]
    | true =>
      have yk := yok1 hsp
      have fy := check_fine yk
      have q1 := Right_1 yok yk
      rw [ybk] at q1
      have hfit : (!(x.bk.more t).tr.isEmpty) = x.bk.fitsV t := by
        rw [Bool.eq_iff_iff, Go.Cold.fits_iff]
        cases (x.bk.more t).tr <;> simp
      rw [hfit] at q1
      rw [hsp] at c0
      obtain ⟨v1, g1, w1⟩ := Wrong_1 hx hk
      obtain ⟨v2, g2, w2⟩ := Wrong_1 yok yk
      have l1 := row_len g1
      have l2 := row_len g2
      have u1 := g1.pur
      have u2 := g2.pur
      have wl' : x.bk.wrongL.length ≤ Y.bk.wrongL.length := by
        rw [ybk]
        exact wl (by rw [← ybk]; exact fy.bk) (by show x.hs.length + 1 ≤ 62; omega)
      have wn : ¬ ((Y.bk.wrongL.length : Nat) : Int) < (x.bk.wrongL.length : Nat) := by omega
      generalize ((Y.bk.wrongL.length : Nat) : Int) = nw2 at *
      generalize ((x.bk.wrongL.length : Nat) : Int) = nw1 at *
      by_cases hn : x.bk.tr = []
      · have hf : x.bk.fitsV t = false := by
          unfold Go.Cold.Bk.fitsV
          rw [hn]; rfl
        rw [hf] at q1
        rw [err_nil hk hn, show decide ((32 : Int) = 0) = false from rfl, Bool.false_and] at c0
        rw [call_run comp6 (Nat.le_of_ble_eq_true rfl)]
        simp (maxSteps := 10000000) [-List.getD_eq_getElem?_getD, -boxA, -partA, -setAt, code6, hbox, hbox1, hbox2, hpx, hpt, hpn, hpn2, hp, hpt2, hfo, hsm, hs, x0, x1, x10, hlen, e4, t1, t2, wc, yp, ycl, yz, ypx, ylen, yav, c0, q1, w1, w2, l1, l2, u1, u2, wn]
      rw [err_zero hk hn, show decide ((0 : Int) = 0) = true from rfl, Bool.true_and] at c0
      cases hf : x.bk.fitsV t with
      | false =>
        rw [hf] at q1 c0
        rw [call_run comp6 (Nat.le_of_ble_eq_true rfl)]
        simp (maxSteps := 10000000) [-List.getD_eq_getElem?_getD, -boxA, -partA, -setAt, code6, hbox, hbox1, hbox2, hpx, hpt, hpn, hpn2, hp, hpt2, hfo, hsm, hs, x0, x1, x10, hlen, e4, t1, t2, wc, yp, ycl, yz, ypx, ylen, yav, c0, q1, w1, w2, l1, l2, u1, u2, wn]
      | true =>
        have hny : (x.bk.more t).tr ≠ [] := (Go.Cold.fits_iff t).1 hf
        have hny' : Y.bk.tr ≠ [] := by rw [ybk]; exact hny
        rw [hf] at q1 c0
        have hyd : Y.days = x.days := congrArg Bk.D ybk
        have hyb : Y.beds.toNat = x.beds.toNat := congrArg Bk.B ybk
        have hyb2 : Y.beds = x.beds := by have := f.b1; have := fy.b1; omega
        obtain ⟨r1, s1, k1⟩ := From_1 hx hk hn
        obtain ⟨r2, s2, k2⟩ := From_1 yok yk hny'
        obtain ⟨r3, s3, k3⟩ := Clean_1 hx hk hn
        obtain ⟨r4, s4, k4⟩ := Clean_1 yok yk hny'
        have o1 := s1.pur
        have o2 := s2.pur
        have o3 := s3.pur
        have o4 := s4.pur
        have b1 := clean_small f
        have b2 := clean_small fy
        obtain ⟨p1, j1⟩ := gather_call _ r1 s1 (by omega)
        obtain ⟨p2, j2⟩ := gather_call _ r2 s2 (by omega)
        obtain ⟨p3, j3⟩ := gather_call _ r3 s3 (by omega)
        obtain ⟨p4, j4⟩ := gather_call _ r4 s4 (by omega)
        have hsub : ∀ tt ∈ Y.bk.tr, tt ∈ x.bk.tr := by rw [ybk]; exact Go.Cold.more_sub t
        have hat : ∀ tt i, Y.bk.at tt i = x.bk.at tt i := fun tt i => by rw [ybk]; rfl
        have hB : Y.bk.B = x.bk.B := by rw [ybk]; rfl
        have z1 := gat_sub p2 p1 fun j hj => Go.Cold.less_from hB hsub hj
        have z2 := gat_sub p3 p4 fun j hj => Go.Cold.less_clean hB hat hsub hj
        have n1 := mod_nat p1
        have n2 := mod_nat p2
        have n3 := mod_nat p3
        have n4 := mod_nat p4
        rw [n1] at z1
        rw [n4] at z2
        have i1 := Ill_1 hx hk hn (bed := m) (day := d) (by omega) m1 d2 d3
        have i2 := Ill_1 yok yk hny' (bed := m) (day := d) (by omega) (by omega) d2 (by omega)
        rw [Int.toNat_natCast] at i1 i2
        have hil := Go.Cold.less_ill hat hsub hny' hn m d
        obtain ⟨kind, hkd, hand⟩ := and_one a
        have e1 := Takes_1 hx hk hn hkd
        have e2 := Takes_1 yok yk hny' hkd
        have hTn : Y.bk.takesL kind ≠ [] := fun h => hny' (takes_ne.1 h)
        have un1 := under_true (ends_less hTn fun n hn => Go.Cold.less_takes hsub kind hn)
        have hcl2 : ∀ u v : AV, (AV.agg [u, v]).cells = [u, v] := fun _ _ => rfl
        have hst2 : ∀ u v : AV, setAt [I 0, I 0] 0 [u, v] = [u, v] := fun _ _ => rfl
        generalize gatN 0 x.bk.fromL = ga1 at *
        generalize gatN 0 Y.bk.fromL = ga2 at *
        generalize gatN 0 x.bk.cleanL = ga3 at *
        generalize gatN 0 Y.bk.cleanL = ga4 at *
        generalize ends (x.bk.takesL kind) = en1 at *
        generalize ends (Y.bk.takesL kind) = en2 at *
        generalize x.bk.illV m d = iv1 at *
        generalize Y.bk.illV m d = iv2 at *
        have hcs := fun n (h : n ∈ Y.bk.caughtL m) => Go.Cold.less_caught hat hsub m h
        have y3 : ∃ sp er, call Cv 26 [x.av, I m] = some (.tup [.agg [I (ends (x.bk.caughtL m)).1, I (ends (x.bk.caughtL m)).2], I 0]) ∨ (x.bk.caughtL m = [] ∧ call Cv 26 [x.av, I m] = some (.tup [.agg [I 0, I 0], I 4])) := ⟨0, 0, by
          by_cases hc : x.bk.caughtL m = []
          · exact .inr ⟨hc, Caught_none hx hk hn (bed := m) (by omega) m1 (by rwa [Int.toNat_natCast])⟩
          · have := Caught_1 hx hk hn (bed := m) (by omega) m1 (by rwa [Int.toNat_natCast])
            rw [Int.toNat_natCast] at this
            exact .inl this⟩
        obtain ⟨_, _, y3⟩ := y3
        have hill : iv1 = 1 ∨ (¬ iv2 = 1 ∧ iv1 = iv2) := by
          by_cases h : iv1 = 1
          · exact .inl h
          · exact .inr ⟨by rw [hil h]; exact h, (hil h).symm⟩
        by_cases hc : Y.bk.caughtL m = []
        · have y4 := Caught_none yok yk hny' (bed := m) (by omega) (by omega) (by rwa [Int.toNat_natCast])
          rw [call_run comp6 (Nat.le_of_ble_eq_true rfl)]
          rcases y3 with y3 | ⟨_, y3⟩ <;> rcases hill with rfl | ⟨hne, rfl⟩ <;> first | simp (maxSteps := 10000000) [-List.getD_eq_getElem?_getD, -boxA, -partA, -setAt, code6, hbox, hbox1, hbox2, hpx, hpt, hpn, hpn2, hp22, hp, hpt2, hfo, hsm, hs, x0, x1, x10, hlen, e4, t1, t2, wc, yp, ycl, yz, ypx, ylen, yav, c0, q1, w1, w2, l1, l2, u1, u2, wn, k1, k2, k3, k4, o1, o2, o3, o4, j1, j2, j3, j4, n1, n2, n3, n4, z1, z2, i1, i2, hand, e1, e2, un1, hcl2, hst2, y3, y4, hne] | simp (maxSteps := 10000000) [-List.getD_eq_getElem?_getD, -boxA, -partA, -setAt, code6, hbox, hbox1, hbox2, hpx, hpt, hpn, hpn2, hp22, hp, hpt2, hfo, hsm, hs, x0, x1, x10, hlen, e4, t1, t2, wc, yp, ycl, yz, ypx, ylen, yav, c0, q1, w1, w2, l1, l2, u1, u2, wn, k1, k2, k3, k4, o1, o2, o3, o4, j1, j2, j3, j4, n1, n2, n3, n4, z1, z2, i1, i2, hand, e1, e2, un1, hcl2, hst2, y3, y4]
        · have y4 := Caught_1 yok yk hny' (bed := m) (by omega) (by omega) (by rwa [Int.toNat_natCast])
          rw [Int.toNat_natCast] at y4
          rcases y3 with y3 | ⟨hh, _⟩
          · have un2 := under_true (ends_less hc hcs)
            generalize ends (x.bk.caughtL m) = en3 at *
            generalize ends (Y.bk.caughtL m) = en4 at *
            rw [call_run comp6 (Nat.le_of_ble_eq_true rfl)]
            rcases hill with rfl | ⟨hne, rfl⟩ <;> first | simp (maxSteps := 10000000) [-List.getD_eq_getElem?_getD, -boxA, -partA, -setAt, code6, hbox, hbox1, hbox2, hpx, hpt, hpn, hpn2, hp22, hp, hpt2, hfo, hsm, hs, x0, x1, x10, hlen, e4, t1, t2, wc, yp, ycl, yz, ypx, ylen, yav, c0, q1, w1, w2, l1, l2, u1, u2, wn, k1, k2, k3, k4, o1, o2, o3, o4, j1, j2, j3, j4, n1, n2, n3, n4, z1, z2, i1, i2, hand, e1, e2, un1, un2, hcl2, hst2, y3, y4, hne] | simp (maxSteps := 10000000) [-List.getD_eq_getElem?_getD, -boxA, -partA, -setAt, code6, hbox, hbox1, hbox2, hpx, hpt, hpn, hpn2, hp22, hp, hpt2, hfo, hsm, hs, x0, x1, x10, hlen, e4, t1, t2, wc, yp, ycl, yz, ypx, ylen, yav, c0, q1, w1, w2, l1, l2, u1, u2, wn, k1, k2, k3, k4, o1, o2, o3, o4, j1, j2, j3, j4, n1, n2, n3, n4, z1, z2, i1, i2, hand, e1, e2, un1, un2, hcl2, hst2, y3, y4]
          · obtain ⟨n, hn⟩ := List.exists_mem_of_ne_nil _ hc
            have := hcs n hn
            rw [hh] at this
            cases this
end Go.Ai
