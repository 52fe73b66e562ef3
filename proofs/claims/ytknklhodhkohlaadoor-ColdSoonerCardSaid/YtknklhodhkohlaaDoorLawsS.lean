/- This text shows the law of a boy who is moved sooner, in the interpreter. No conditions of its own. -/
import Derived.Test.YtknklhodhkohlaaDoorHelpE
import Derived.Test.YtknklhodhkohlaaDoorHelpC
import Derived.Test.YtknklhodhkohlaaDoorCodesL9
set_option linter.unusedSimpArgs false
set_option linter.unusedVariables false
set_option maxRecDepth 100000
namespace Go.Ai
open Go.Cold (Mv Hd Bk Tr ends asideL awayL)
theorem full_row (l : List Int) : IsRow 1 (ints l) (.sl 1 (ints l) .full) := .inr (.inr ⟨.full, rfl, rfl⟩)
theorem soon_tr {x y : Bk} (hx : x.Ok) (hy : y.Ok) (hB : y.B = x.B) (hb : y.begins = x.begins) (hu : x.u = 0 ∧ y.u = 0) (hs : x.hs = [] ∧ y.hs = []) (hT : y.oL = x.oL ∧ y.oH = x.oH ∧ y.gL = x.gL ∧ y.gH = x.gH) (t : Tr) (ht : t ∈ y.tr) : t ∈ x.tr := by
  rw [Go.Cold.mem_tr hy] at ht
  rw [Go.Cold.mem_tr hx]
  obtain ⟨⟨h1, h2, h3, h4⟩, h5, h6, h7⟩ := ht
  rw [hu.2] at h3
  rw [hB] at h1
  rw [hT.1, hT.2.1, hT.2.2.1, hT.2.2.2] at h4
  refine ⟨⟨h1, h2, by rw [hu.1]; exact h3, h4⟩, by rw [← hb]; exact h5, ?_, fun h hh => by rw [hs.1] at hh; cases hh⟩
  have h0 : t.day = 0 := by omega
  rw [h0]
  exact Go.Cold.first_day hx _
theorem soon_later {x y : Bk} (hx : x.Ok) (hy : y.Ok) (hB : y.B = x.B) (hD : y.D = x.D) (ha : ∀ b d, awayL x.ms b d = true → awayL y.ms b d = true) (t : Tr) (i : Nat) : y.at t i = -1 ∨ y.at t i = x.at t i := by
  show Go.Cold.caughtT y.B y.D (awayL y.ms) t i = -1 ∨ Go.Cold.caughtT y.B y.D (awayL y.ms) t i = Go.Cold.caughtT x.B x.D (awayL x.ms) t i
  rw [hB, hD]
  exact Go.Cold.line_more ha i
theorem soon_caught {x y : Bk} (hx : x.Ok) (hy : y.Ok) (hB : y.B = x.B) (hD : y.D = x.D) (htr : ∀ t ∈ y.tr, t ∈ x.tr) (ha : ∀ b d, awayL x.ms b d = true → awayL y.ms b d = true) (i : Nat) : ∀ n ∈ y.caughtL i, n ∈ x.caughtL i := fun n hn => by
  obtain ⟨h0, t, ht, he⟩ := Go.Cold.mem_days.1 hn
  refine Go.Cold.mem_days.2 ⟨h0, t, htr t ht, ?_⟩
  rcases soon_later hx hy hB hD ha t i with h | h
  · omega
  · rw [← h]; exact he
theorem soon_clean {x y : Bk} (hx : x.Ok) (hy : y.Ok) (hB : y.B = x.B) (hD : y.D = x.D) (htr : ∀ t ∈ y.tr, t ∈ x.tr) (ha : ∀ b d, awayL x.ms b d = true → awayL y.ms b d = true) {n : Int} (h : n ∈ x.cleanL) : n ∈ y.cleanL := by
  rw [Go.Cold.Bk.cleanL, Go.Least.mem_sel] at h ⊢
  obtain ⟨j, h1, h2, h3, h4⟩ := h
  refine ⟨j, h1, h2, by omega, List.all_eq_true.2 fun t ht => ?_⟩
  have := List.all_eq_true.1 h4 t (htr t ht)
  simp only [decide_eq_true_eq] at this ⊢
  rcases soon_later hx hy hB hD ha t j with h | h <;> omega
theorem bare_ne {x : Bk} (hx : x.Ok) (hh : x.hs = []) : x.tr ≠ [] := by
  have := Go.Cold.bare_true hx
  rw [← hh] at this
  exact this
set_option maxHeartbeats 8000000 in
theorem sooner_law (x : CB) (hx : x.Ok) (a b c : Int) : call Cv 9 [x.av, .agg [I a, I b, I c]] = some (.bool true) := by
  have hsm := sound_call x hx
  have hs := sneezed_call
  have hp := av_pur x hx
  have hbox := x_box x hx
  have hbox2 : boxA { boxes := [x.cells] } (.agg [I a, I b, I c]) = some (.box 1 0, { boxes := [x.cells, [I a, I b, I c]] }) := rfl
  have x0 : x.cells[0]? = some (I x.beds) := rfl
  have x1 : x.cells[1]? = some (I x.days) := rfl
  have hpx := part_x x
  have hpn : ∀ i, partA none x.cells i = x.cells[i]? := fun _ => rfl
  have hpn3 : ∀ (u v w : AV) i, partA none [u, v, w] i = [u, v, w][i]? := fun _ _ _ _ => rfl
  have hpn2 : ∀ (u v : AV) i, partA none [u, v] i = [u, v][i]? := fun _ _ _ => rfl
  cases hk : checkB x with
  | false =>
    rw [hk] at hsm
    rw [call_run comp9 (Nat.le_of_ble_eq_true rfl)]
    simp (maxSteps := 10000000) [-List.getD_eq_getElem?_getD, -boxA, -partA, code9, hbox, hbox2, hpx, hpn, hp, hsm, hs]
  | true =>
    rw [hk] at hsm
    have f := check_fine hk
    have hlm := f.lm
    have hd6 := f.d6
    by_cases hd : x.days < 2
    · rw [call_run comp9 (Nat.le_of_ble_eq_true rfl)]
      simp (maxSteps := 10000000) [-List.getD_eq_getElem?_getD, -boxA, -partA, code9, hbox, hbox2, hpx, hpn, hp, hsm, hs, x1, hd]
    obtain ⟨m, m1, m2, t1⟩ := turn_bed f a
    obtain ⟨o, o1, o2, t3⟩ := turn_bed f c
    have t2 := turn_call b (x.days - 1) (by omega)
    obtain ⟨u1, u2⟩ := turn_range b (x.days - 1) (by omega)
    generalize turnI b (x.days - 1) = v at *
    have gc := gone_call x hx m
    have gm := gone_max (x := x) (bed := (m : Int))
    have gp := gone_pos f (bed := (m : Int))
    have w1 : IntKind.wrap .i64 (x.days - 1) = x.days - 1 := wrap_small (by omega) (by omega)
    have w2 : IntKind.wrap .i64 (1 + v) = 1 + v := wrap_small (by omega) (by omega)
    have hmin : foldA min2 (I (x.gone m)) [I (1 + v)] = some (I (min (x.gone m) (1 + v))) := by
      show some (I (if 1 + v < x.gone m then 1 + v else x.gone m)) = _
      congr 2
      split <;> omega
    have hday1 : 1 ≤ min (x.gone m) (1 + v) := by omega
    have hday2 : min (x.gone m) (1 + v) ≤ x.gone m := by omega
    have bok := bare_ok hx
    have bk := bare_check hk
    have bp := av_pur _ bok
    have bpx := part_x x.bare
    have bcl := x_cell _ bok
    have hz := z11 x
    have xlen : x.cells.length = 11 := rfl
    have xav : x.av.cells = x.cells := rfl
    have x0g : ∀ h : 0 < x.cells.length, x.cells[0]'h = I x.beds := fun _ => rfl
    have x1g : ∀ h : 1 < x.cells.length, x.cells[1]'h = I x.days := fun _ => rfl
    have xcl := x_cell x hx
    have hs10 : setAt x.cells 10 [.nils] = [I x.beds, I x.days, I x.begins, I x.until_, I x.oL, I x.oH, I x.gL, I x.gH, x.mr, I x.rooms, .nils] := rfl
    have hs3 : setAt [I x.beds, I x.days, I x.begins, I x.until_, I x.oL, I x.oH, I x.gL, I x.gH, x.mr, I x.rooms, .nils] 3 [I 0] = x.bare.cells := rfl
    have ac := aside_call x.bare bok (show x.ms.length < 1000 by omega) [(m : Int)] _ (full_row _) (by simp) (min (x.gone m) (1 + v))
    have yok := aside_ok bok (show x.ms.length < 1000 by omega) (l := [(m : Int)]) (by simp) (min (x.gone m) (1 + v))
    have hlen := mlen yok
    have hmr : (x.bare.aside [(m : Int)] (min (x.gone m) (1 + v))).cells[8]? = some (x.bare.aside [(m : Int)] (min (x.gone m) (1 + v))).mr := rfl
    have hyms : (x.bare.aside [(m : Int)] (min (x.gone m) (1 + v))).ms = asideL x.ms [(m : Int)] (min (x.gone m) (1 + v)) := rfl
    have hfe1 : ∀ n : Int, fillE 1 false [(0, I n)] [I 0] = some [I n] := fun n => by simp [fillE, depth, AV.isAgg]
    have hrp1 : List.replicate 1 (I 0) = [I 0] := rfl
    have hin : ints [(m : Int)] = [I m] := rfl
    rw [hin] at ac
    have hyk : (asideL x.ms [(m : Int)] (min (x.gone m) (1 + v))).length ≤ 3 → min (x.gone m) (1 + v) < x.days → checkB (x.bare.aside [(m : Int)] (min (x.gone m) (1 + v))) = true := fun h1 h2 => soon_check hk m1 hday1 h2 h1
    have hya : ∀ b d, awayL x.ms b d = true → awayL (asideL x.ms [(m : Int)] (min (x.gone m) (1 + v))) b d = true := Go.Cold.sooner_away fun mm hmm hb => by
      have := gone_m hmm hb
      omega
    have hyb : (x.bare.aside [(m : Int)] (min (x.gone m) (1 + v))).beds = x.beds := rfl
    have hyB : (x.bare.aside [(m : Int)] (min (x.gone m) (1 + v))).bk = { x.bare.bk with ms := asideL x.ms [(m : Int)] (min (x.gone m) (1 + v)) } := rfl
    generalize x.bare.aside [(m : Int)] (min (x.gone m) (1 + v)) = Y at *
    generalize asideL x.ms [(m : Int)] (min (x.gone m) (1 + v)) = AL at *
    generalize hdd : min (x.gone m) (1 + v) = day at *
    have yp := av_pur Y yok
    have ycl := x_cell Y yok
    have yz := z11 Y
    have ypx := part_x Y
    have ylen : Y.cells.length = 11 := rfl
    have yav : Y.av.cells = Y.cells := rfl
    have y8g : ∀ h : 8 < Y.cells.length, Y.cells[8]'h = Y.mr := fun _ => rfl
    have ypn : ∀ i, partA none Y.cells i = Y.cells[i]? := fun _ => rfl
    by_cases hl : Y.ms.length ≤ 3 ∧ day < x.days
    · have yk := hyk (by rw [← hyms]; exact hl.1) hl.2
      have fb := check_fine bk
      have fy := check_fine yk
      have n1 : ¬ 3 < (Y.ms.length : Int) := by omega
      have n2 : ¬ x.days ≤ day := by omega
      have hn := bare_ne fb.bk rfl
      have hny := bare_ne fy.bk (by rw [hyB]; rfl)
      have htr := soon_tr fb.bk fy.bk (by rw [hyB]) (by rw [hyB]) (by rw [hyB]; exact ⟨rfl, rfl⟩) (by rw [hyB]; exact ⟨rfl, rfl⟩) (by rw [hyB]; exact ⟨rfl, rfl, rfl, rfl⟩)
      have hB : Y.bk.B = x.bare.bk.B := by rw [hyB]
      have hD : Y.bk.D = x.bare.bk.D := by rw [hyB]
      have haw : ∀ b d, awayL x.bare.bk.ms b d = true → awayL Y.bk.ms b d = true := by rw [hyB]; exact hya
      obtain ⟨r3, s3, k3⟩ := Clean_1 bok bk hn
      obtain ⟨r4, s4, k4⟩ := Clean_1 yok yk hny
      have q3 := s3.pur
      have q4 := s4.pur
      have b1 := clean_small fb
      have b2 := clean_small fy
      obtain ⟨p3, j3⟩ := gather_call _ r3 s3 (by omega)
      obtain ⟨p4, j4⟩ := gather_call _ r4 s4 (by omega)
      have z2 := gat_sub p3 p4 fun j hj => soon_clean fb.bk fy.bk hB hD htr haw hj
      have hsub := soon_caught fb.bk fy.bk hB hD htr haw o
      have n3 := mod_nat p3
      have n4 := mod_nat p4
      rw [n4] at z2
      generalize gatN 0 x.bare.bk.cleanL = ga3 at *
      generalize gatN 0 Y.bk.cleanL = ga4 at *
      have hcl2 : ∀ u v : AV, (AV.agg [u, v]).cells = [u, v] := fun _ _ => rfl
      have hst2 : ∀ u v : AV, setAt [I 0, I 0] 0 [u, v] = [u, v] := fun _ _ => rfl
      have y3 : call Cv 26 [x.bare.av, I o] = some (.tup [.agg [I (ends (x.bare.bk.caughtL o)).1, I (ends (x.bare.bk.caughtL o)).2], I 0]) ∨ (x.bare.bk.caughtL o = [] ∧ call Cv 26 [x.bare.av, I o] = some (.tup [.agg [I 0, I 0], I 4])) := by
        by_cases hc : x.bare.bk.caughtL o = []
        · exact .inr ⟨hc, Caught_none bok bk hn (bed := o) (by omega) o1 (by rwa [Int.toNat_natCast])⟩
        · have := Caught_1 bok bk hn (bed := o) (by omega) o1 (by rwa [Int.toNat_natCast])
          rw [Int.toNat_natCast] at this
          exact .inl this
      by_cases hc : Y.bk.caughtL o = []
      · have y4 := Caught_none yok yk hny (bed := o) (by omega) (by omega) (by rwa [Int.toNat_natCast])
        rw [call_run comp9 (Nat.le_of_ble_eq_true rfl)]
        rcases y3 with y3 | ⟨_, y3⟩ <;>
        simp (maxSteps := 10000000) [-List.getD_eq_getElem?_getD, -boxA, -partA, -setAt, code9, hbox, hbox2, hpx, hpn, hpn2, hpn3, hp, hsm, hs, x0, x1, x0g, x1g, y8g, hd, t1, t2, t3, gc, w1, w2, hmin, bp, bpx, bcl, hz, xlen, xav, xcl, hs10, hs3, ac, hlen, hmr, hfe1, hrp1, yp, ycl, yz, ypx, ylen, yav, ypn, n1, n2, k3, k4, q3, q4, j3, j4, z2, n3, n4, hcl2, hst2, y3, y4]
      · have y4 := Caught_1 yok yk hny (bed := o) (by omega) (by omega) (by rwa [Int.toNat_natCast])
        rw [Int.toNat_natCast] at y4
        have hle := (Go.Cold.ends_sub hsub hc).1
        rcases y3 with y3 | ⟨hh, _⟩
        · generalize ends (x.bare.bk.caughtL o) = en3 at *
          generalize ends (Y.bk.caughtL o) = en4 at *
          rw [call_run comp9 (Nat.le_of_ble_eq_true rfl)]
          simp (maxSteps := 10000000) [-List.getD_eq_getElem?_getD, -boxA, -partA, -setAt, code9, hbox, hbox2, hpx, hpn, hpn2, hpn3, hp, hsm, hs, x0, x1, x0g, x1g, y8g, hd, t1, t2, t3, gc, w1, w2, hmin, bp, bpx, bcl, hz, xlen, xav, xcl, hs10, hs3, ac, hlen, hmr, hfe1, hrp1, yp, ycl, yz, ypx, ylen, yav, ypn, n1, n2, k3, k4, q3, q4, j3, j4, z2, n3, n4, hcl2, hst2, y3, y4, hle]
        · obtain ⟨n, hn⟩ := List.exists_mem_of_ne_nil _ hc
          have := hsub n hn
          rw [hh] at this
          cases this
    · by_cases h3 : 3 < (Y.ms.length : Int)
      · rw [call_run comp9 (Nat.le_of_ble_eq_true rfl)]
        simp (maxSteps := 10000000) [-List.getD_eq_getElem?_getD, -boxA, -partA, -setAt, code9, hbox, hbox2, hpx, hpn, hpn2, hpn3, hp, hsm, hs, x0, x1, x0g, x1g, y8g, hd, t1, t2, t3, gc, w1, w2, hmin, bp, bpx, bcl, hz, xlen, xav, xcl, hs10, hs3, ac, hlen, hmr, hfe1, hrp1, yp, ycl, yz, ypx, ylen, yav, ypn, h3]
      · have n2 : x.days ≤ day := by omega
        rw [call_run comp9 (Nat.le_of_ble_eq_true rfl)]
        simp (maxSteps := 10000000) [-List.getD_eq_getElem?_getD, -boxA, -partA, -setAt, code9, hbox, hbox2, hpx, hpn, hpn2, hpn3, hp, hsm, hs, x0, x1, x0g, x1g, y8g, hd, t1, t2, t3, gc, w1, w2, hmin, bp, bpx, bcl, hz, xlen, xav, xcl, hs10, hs3, ac, hlen, hmr, hfe1, hrp1, yp, ycl, yz, ypx, ylen, yav, ypn, h3, n2]
end Go.Ai
