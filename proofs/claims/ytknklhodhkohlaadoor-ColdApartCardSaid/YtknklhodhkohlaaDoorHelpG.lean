/- This text shows when each boy catches it, as the law goes from bed to bed. No conditions of its own. -/
import Derived.Test.YtknklhodhkohlaaDoorHelpE
set_option linter.unusedSimpArgs false
set_option linter.unusedVariables false
set_option maxRecDepth 100000
namespace Go.Ai
open Go.Cold (Mv Hd Bk Tr awayL upF dnF goOn lineF)
structure CB.Sz (x : CB) : Prop where
  b1 : 1 ≤ x.beds
  b5 : x.beds ≤ 5
  d1 : 1 ≤ x.days
  d6 : x.days ≤ 6
theorem CB.Fine.sz {x : CB} (f : x.Fine) : x.Sz := ⟨f.b1, f.b5, f.d1, f.d6⟩
theorem bedsZ {x : CB} (f : x.Sz) : ((x.beds.toNat : Nat) : Int) = x.beds := by have := f.b1; omega
def rowOf (B : Nat) (f : Nat → Int) : List Int := (List.range B).map f
theorem rowOf_len (B : Nat) (f : Nat → Int) : (rowOf B f).length = B := by simp [rowOf]
theorem rowOf_congr {B : Nat} {f g : Nat → Int} (h : ∀ i, i < B → f i = g i) : rowOf B f = rowOf B g := by
  unfold rowOf
  exact List.map_congr_left fun i hi => h i (List.mem_range.1 hi)
theorem rowOf_get {B : Nat} {f : Nat → Int} {i : Nat} (h : i < B) : (rowOf B f).getD i 0 = f i := by
  simp [rowOf, List.getD_eq_getElem?_getD, h]
def updI (f : Nat → Int) (i : Nat) (v : Int) : Nat → Int := fun j => if j = i then v else f j
theorem rowOf_set {B : Nat} {f : Nat → Int} {i : Nat} (v : Int) : (rowOf B f).set i v = rowOf B (updI f i v) := by
  unfold rowOf
  apply List.ext_getElem
  · simp
  · intro j h1 h2
    simp only [List.getElem_set, List.getElem_map, List.getElem_range, updI]
    by_cases h : i = j
    · subst h; simp
    · rw [if_neg h, if_neg fun e => h e.symm]
theorem rowOf_zero (B : Nat) : List.replicate B (0 : Int) = rowOf B fun _ => 0 := by
  apply List.ext_getElem
  · simp [rowOf]
  · intro j h1 h2
    simp [rowOf]
def stG (x : CB) (F : Nat → Int) : St := stS [x.cells] (rowOf x.beds.toNat F)
def rV (x : CB) : AV := .wsl 1 0 x.beds.toNat 1 false
theorem sP_load (x : CB) (F : Nat → Int) {i : Nat} (h : i < x.beds.toNat) : loadA (stG x F) none (.box 1 i) = some (I (F i)) := by
  have := sS_load [x.cells] (rowOf x.beds.toNat F) (i := i) (by rw [rowOf_len]; exact h)
  rw [rowOf_get h] at this
  exact this
theorem sP_store (x : CB) (F : Nat → Int) {i : Nat} (h : i < x.beds.toNat) (n : Int) : storeA (stG x F) 1 (.box 1 i) (I n) = some (stG x (updI F i n)) := by
  have := sS_store [x.cells] (rowOf x.beds.toNat F) (i := i) (by rw [rowOf_len]; exact h) n
  rw [rowOf_set] at this
  exact this
theorem sP_ix (x : CB) {i : Nat} (h : i < x.beds.toNat) : ixsA 1 (rV x) (I i) = some (.box 1 i) := by
  have := sS_ix 1 x.beds.toNat 0 h
  rwa [Nat.zero_add] at this
theorem sP_cut (x : CB) (F F' : Nat → Int) (e : Env) : cut (stG x F) (stG x F') e = stG x F' := sS_cut _ _ _ _
theorem sP_x (x : CB) (F : Nat → Int) (n : Option Nat) (off : Nat) : loadA (stG x F) n (.box 0 off) = partA n x.cells off := rfl
def head56a (x : CB) (bed day goes k : Int) : Env := mkE 76 .any [(10, I k), (9, rV x), (4, .box 0 0), (3, I goes), (2, I day), (1, I bed)]
def head56b (x : CB) (bed day goes side at_ now : Int) : Env := mkE 76 .any [(13, I now), (12, I at_), (11, I side), (9, rV x), (4, .box 0 0), (3, I goes), (2, I day), (1, I bed)]
def head56c (x : CB) (bed day goes side : Int) : Env := mkE 76 .any [(11, I side), (9, rV x), (4, .box 0 0), (3, I goes), (2, I day), (1, I bed)]
def Kept56 (x : CB) (bed day goes : Int) (E : Env) : Prop := gt E 1 = I bed ∧ gt E 2 = I day ∧ gt E 3 = I goes ∧ gt E 4 = .box 0 0 ∧ gt E 9 = rV x
theorem rV_under (x : CB) (a b c d n : Nat) (h : 1 < a) : under a b c d (n + 1) (rV x) = true := by
  simp [rV, under, h]
theorem rV_len (x : CB) : lenA (rV x) = some (I (x.beds.toNat : Nat)) := rfl
theorem loop56a (x : CB) (hx : x.Ok) (f : x.Sz) (bed day goes : Int) : ∀ (n k : Nat) (F : Nat → Int), k + n = x.beds.toNat →
    ∃ L F', run Cv 56 (.loop keep56_0 body56_0) (head56a x bed day goes k) (stG x F) = some (.ex 0, mkE 76 .any L, stG x F') ∧ Kept56 x bed day goes (mkE 76 .any L) ∧ ∀ i, F' i = if k ≤ i ∧ i < x.beds.toNat then -1 else F i
  | 0, k, F, hk => by
    have hb := bedsZ f
    have h1 : ¬ (k : Int) < x.beds := by omega
    have x0 : x.cells[0]? = some (I x.beds) := rfl
    have hpn : ∀ i, partA none x.cells i = x.cells[i]? := fun _ => rfl
    have : ∃ L, run Cv 56 (.loop keep56_0 body56_0) (head56a x bed day goes k) (stG x F) = some (.ex 0, mkE 76 .any L, stG x F) ∧ Kept56 x bed day goes (mkE 76 .any L) := by
      rw [run_loop]
      simp (maxSteps := 10000000) [-List.getD_eq_getElem?_getD, -loadA, -partA, body56_0, keep56_0, head56a, sP_x, hpn, x0, h1]
      exact ⟨_, rfl, by simp (maxSteps := 10000000) [-List.getD_eq_getElem?_getD, Kept56]⟩
    obtain ⟨L, h2, h3⟩ := this
    refine ⟨L, F, h2, h3, fun i => ?_⟩
    rw [if_neg (by omega)]
  | n + 1, k, F, hk => by
    have hb := bedsZ f
    have b5 := f.b5
    have h1 : (k : Int) < x.beds := by omega
    have x0 : x.cells[0]? = some (I x.beds) := rfl
    have hpn : ∀ i, partA none x.cells i = x.cells[i]? := fun _ => rfl
    have hw : IntKind.wrap .i64 ((k : Int) + 1) = k + 1 := wrap_small (by omega) (by omega)
    have hix := sP_ix x (i := k) (by omega)
    have hst := sP_store x F (i := k) (by omega) (-1)
    have hc := sP_cut x F
    have hru := fun b c d n => rV_under x 2 b c d n (by omega)
    obtain ⟨L, F', g1, g2, g3⟩ := loop56a x hx f bed day goes n (k + 1) (updI F k (-1)) (by omega)
    refine ⟨L, F', ?_, g2, fun i => ?_⟩
    · rw [← g1, run_loop]
      generalize MC.loop keep56_0 body56_0 = L
      simp (maxSteps := 10000000) [-List.getD_eq_getElem?_getD, -loadA, -partA, -storeA, -ixsA, -cut, body56_0, keep56_0, head56a, sP_x, hpn, x0, h1, hw, hix, hst, hc, hru]
    · rw [g3, updI]
      by_cases h : i = k
      · subst h
        rw [if_neg (by omega), if_pos rfl, if_pos (by omega)]
      · rw [if_neg h]
        by_cases h' : k + 1 ≤ i ∧ i < x.beds.toNat
        · rw [if_pos h', if_pos (by omega)]
        · rw [if_neg h', if_neg (by omega)]
theorem u_neg {D g : Int} {P : Nat → Prop} [DecidablePred P] {u : Nat → Int} {N : Nat} (hu : ∀ k, k < N → u (k + 1) = if 0 ≤ u k ∧ P k then u k + g else -1) {k : Nat} (h : u (k + 1) = -1) : ∀ j, k + 1 ≤ j → j ≤ N → u j = -1
  | 0, h1, _ => by omega
  | j + 1, h1, h2 => by
    by_cases hj : j = k
    · rw [hj]; exact h
    · rw [hu j (by omega), u_neg (D := D) hu h j (by omega) (by omega), if_neg (by omega)]
theorem loop56b (x : CB) (hx : x.Ok) (f : x.Sz) (bed day goes : Int) (hg1 : 1 ≤ goes) (hg3 : goes ≤ 3) (side : Int) (hs : side = -1 ∨ side = 1) (N : Nat) (pos : Nat → Nat) (hpos : ∀ k, k < N → (pos (k + 1) : Int) = pos k + side) (hin : ∀ k, k ≤ N → pos k < x.beds.toNat)
    (hend : ¬ (0 ≤ (pos N : Int) + side ∧ (pos N : Int) + side < x.beds)) (u : Nat → Int)
    (hu : ∀ k, k < N → u (k + 1) = if 0 ≤ u k ∧ (u k + goes < x.days ∧ awayL x.ms (pos k) (u k + goes) = false ∧ awayL x.ms (pos (k + 1)) (u k + goes) = false) then u k + goes else -1)
    (hinj : ∀ j k, j ≤ N → k ≤ N → pos j = pos k → j = k) : ∀ (n k : Nat) (F : Nat → Int), k + n = N → 0 ≤ u k → u k < x.days → (∀ j, k < j → j ≤ N → F (pos j) = -1) →
    ∃ L F', run Cv 56 (.loop keep56_1 body56_1) (head56b x bed day goes side (pos k : Nat) (u k + goes)) (stG x F) = some (.ex 4, mkE 76 .any L, stG x F') ∧ (Kept56 x bed day goes (mkE 76 .any L) ∧ gt (mkE 76 .any L) 11 = I side) ∧ (∀ j, k < j → j ≤ N → F' (pos j) = u j) ∧ ∀ i, (∀ j, k < j → j ≤ N → pos j ≠ i) → F' i = F i
  | n, k, F, hk, h0, hD, hF => by
    have hb := bedsZ f
    have b1 := f.b1
    have b5 := f.b5
    have d6 := f.d6
    have hpk := hin k (by omega)
    have x0 : x.cells[0]? = some (I x.beds) := rfl
    have x1 : x.cells[1]? = some (I x.days) := rfl
    have hpn : ∀ i, partA none x.cells i = x.cells[i]? := fun _ => rfl
    have hpx := part_x x
    have hp := av_pur x hx
    have w1 : IntKind.wrap .i64 ((pos k : Int) + side) = pos k + side := wrap_small (by omega) (by omega)
    have w2 : IntKind.wrap .i64 (x.beds - 1) = x.beds - 1 := wrap_small (by omega) (by omega)
    have w3 : IntKind.wrap .i64 (u k + goes + goes) = u k + goes + goes := wrap_small (by omega) (by omega)
    have hlie := lies_c ((pos k : Int) + side) 0 (x.beds - 1)
    have g1 := gone_call x hx (pos k : Nat)
    have g2 := gone_call x hx ((pos k : Int) + side)
    have hc := sP_cut x F
    have hru := fun b c d n => rV_under x 2 b c d n (by omega)
    cases hl : lie ((pos k : Int) + side) 0 (x.beds - 1) with
    | false =>
      rw [hl] at hlie
      have hkN : k = N := by
        rcases Nat.lt_or_ge k N with h | h
        · have e1 := hpos k h
          have e2 := hin (k + 1) (by omega)
          simp only [lie, Bool.and_eq_false_iff, decide_eq_false_iff_not] at hl
          omega
        · omega
      have : ∃ L, run Cv 56 (.loop keep56_1 body56_1) (head56b x bed day goes side (pos k : Nat) (u k + goes)) (stG x F) = some (.ex 4, mkE 76 .any L, stG x F) ∧ (Kept56 x bed day goes (mkE 76 .any L) ∧ gt (mkE 76 .any L) 11 = I side) := by
        rw [run_loop]
        simp (maxSteps := 10000000) [-List.getD_eq_getElem?_getD, -loadA, -partA, body56_1, keep56_1, head56b, sP_x, hpn, x0, w1, w2, hlie]
        exact ⟨_, rfl, by simp (maxSteps := 10000000) [-List.getD_eq_getElem?_getD, Kept56]⟩
      obtain ⟨L, k1, k2⟩ := this
      exact ⟨L, F, k1, k2, fun j h1 h2 => by omega, fun i _ => rfl⟩
    | true =>
      rw [hl] at hlie
      have hkN : k < N := by
        rcases Nat.lt_or_ge k N with h | h
        · exact h
        · obtain rfl : k = N := by omega
          simp only [lie, Bool.and_eq_true, decide_eq_true_eq] at hl
          exact absurd ⟨hl.1, by omega⟩ hend
      have e1 := hpos k hkN
      have e2 := hin (k + 1) (by omega)
      have huk := hu k hkN
      rw [← e1] at g2
      -- it ends here
      have stop : ∀ (hstop : u (k + 1) = -1), (∃ L, run Cv 56 (.loop keep56_1 body56_1) (head56b x bed day goes side (pos k : Nat) (u k + goes)) (stG x F) = some (.ex 4, mkE 76 .any L, stG x F) ∧ (Kept56 x bed day goes (mkE 76 .any L) ∧ gt (mkE 76 .any L) 11 = I side)) → ∃ L F', run Cv 56 (.loop keep56_1 body56_1) (head56b x bed day goes side (pos k : Nat) (u k + goes)) (stG x F) = some (.ex 4, mkE 76 .any L, stG x F') ∧ (Kept56 x bed day goes (mkE 76 .any L) ∧ gt (mkE 76 .any L) 11 = I side) ∧ (∀ j, k < j → j ≤ N → F' (pos j) = u j) ∧ ∀ i, (∀ j, k < j → j ≤ N → pos j ≠ i) → F' i = F i := fun hstop ⟨L, k1, k2⟩ =>
        ⟨L, F, k1, k2, fun j h1 h2 => by rw [hF j h1 h2, u_neg (D := x.days) hu hstop j h1 h2], fun i _ => rfl⟩
      by_cases hday : u k + goes < x.days
      · have a1 := gone_away (x := x) (bed := pos k) hday
        have a2 := gone_away (x := x) (bed := pos (k + 1)) hday
        by_cases hg1' : x.gone (pos k : Nat) ≤ u k + goes
        · have haw := a1.1 hg1'
          refine stop (by rw [huk, if_neg]; rintro ⟨_, _, h, _⟩; rw [haw] at h; cases h) ?_
          rw [run_loop]
          simp (maxSteps := 10000000) [-List.getD_eq_getElem?_getD, -loadA, -partA, body56_1, keep56_1, head56b, sP_x, hpn, hpx, hp, x0, x1, w1, w2, hlie, hday, g1, hg1']
          exact ⟨_, rfl, by simp (maxSteps := 10000000) [-List.getD_eq_getElem?_getD, Kept56]⟩
        · have haw : awayL x.ms (pos k) (u k + goes) = false := by
            cases h : awayL x.ms (pos k) (u k + goes) with
            | false => rfl
            | true => exact absurd (a1.2 h) hg1'
          by_cases hg2' : x.gone (pos (k + 1) : Nat) ≤ u k + goes
          · have haw2 := a2.1 hg2'
            refine stop (by rw [huk, if_neg]; rintro ⟨_, _, _, h⟩; rw [haw2] at h; cases h) ?_
            rw [run_loop, head56b]
            rw [e1] at g2 hg2'
            simp (maxSteps := 10000000) [-List.getD_eq_getElem?_getD, -loadA, -partA, body56_1, keep56_1, sP_x, hpn, hpx, hp, x0, x1, w1, w2, hlie, hday, g1, hg1', g2, hg2']
            exact ⟨_, rfl, by simp (maxSteps := 10000000) [-List.getD_eq_getElem?_getD, Kept56]⟩
          · have haw2 : awayL x.ms (pos (k + 1)) (u k + goes) = false := by
              cases h : awayL x.ms (pos (k + 1)) (u k + goes) with
              | false => rfl
              | true => exact absurd (a2.2 h) hg2'
            have huk' : u (k + 1) = u k + goes := by rw [huk, if_pos ⟨h0, hday, haw, haw2⟩]
            have hix := sP_ix x (i := pos (k + 1)) e2
            have hst := sP_store x F (i := pos (k + 1)) e2 (u k + goes)
            match n, hk with
            | 0, hk => omega
            | n + 1, hk =>
              obtain ⟨L, F', k1, k2, k3, k4⟩ := loop56b x hx f bed day goes hg1 hg3 side hs N pos hpos hin hend u hu hinj n (k + 1) (updI F (pos (k + 1)) (u k + goes)) (by omega) (by omega) (by omega) fun j h1 h2 => by
                have hne : pos j ≠ pos (k + 1) := fun e => by have := hinj j (k + 1) h2 (by omega) e; omega
                rw [updI, if_neg hne]
                exact hF j (by omega) h2
              refine ⟨L, F', ?_, k2, fun j h1 h2 => ?_, fun i hi => ?_⟩
              · rw [huk', e1] at k1
                rw [← k1, run_loop]
                generalize MC.loop keep56_1 body56_1 = L
                rw [e1] at g2 hg2' hix
                simp (maxSteps := 10000000) [-List.getD_eq_getElem?_getD, -loadA, -partA, -storeA, -ixsA, -cut, body56_1, keep56_1, head56b, sP_x, hpn, hpx, hp, x0, x1, w1, w2, w3, hlie, hday, g1, hg1', g2, hg2', hix, hst, hc, hru]
              · by_cases hj : j = k + 1
                · subst hj
                  rw [k4 (pos (k + 1)) fun j' h3 h4 e => by have := hinj j' (k + 1) h4 (by omega) e; omega, updI, if_pos rfl, huk']
                · exact k3 j (by omega) h2
              · rw [k4 i fun j h3 h4 => hi j (by omega) h4, updI, if_neg fun e => hi (k + 1) (by omega) (by omega) e.symm]
      · refine stop (by rw [huk, if_neg]; rintro ⟨_, h, _⟩; exact hday h) ?_
        rw [run_loop]
        simp (maxSteps := 10000000) [-List.getD_eq_getElem?_getD, -loadA, -partA, body56_1, keep56_1, head56b, sP_x, hpn, hpx, hp, x0, x1, w1, w2, hlie, hday]
        exact ⟨_, rfl, by simp (maxSteps := 10000000) [-List.getD_eq_getElem?_getD, Kept56]⟩
  termination_by n => n
end Go.Ai

set_option maxRecDepth 100000
namespace Go.Ai
open Go.Cold (Mv Hd Bk Tr awayL upF dnF goOn lineF)
theorem side56 (x : CB) (hx : x.Ok) (f : x.Sz) (bed day goes : Int) (hg1 : 1 ≤ goes) (hg3 : goes ≤ 3) (hd : day < x.days) (hd0 : 0 ≤ day) (side : Int) (hs : side = -1 ∨ side = 1) (N : Nat) (pos : Nat → Nat) (hp0 : (pos 0 : Int) = bed) (hpos : ∀ k, k < N → (pos (k + 1) : Int) = pos k + side) (hin : ∀ k, k ≤ N → pos k < x.beds.toNat)
    (hend : ¬ (0 ≤ (pos N : Int) + side ∧ (pos N : Int) + side < x.beds)) (u : Nat → Int) (hu0 : u 0 = day)
    (hu : ∀ k, k < N → u (k + 1) = if 0 ≤ u k ∧ (u k + goes < x.days ∧ awayL x.ms (pos k) (u k + goes) = false ∧ awayL x.ms (pos (k + 1)) (u k + goes) = false) then u k + goes else -1)
    (hinj : ∀ j k, j ≤ N → k ≤ N → pos j = pos k → j = k) (F : Nat → Int) (hF : ∀ j, 0 < j → j ≤ N → F (pos j) = -1) :
    ∃ F', run Cv 56 (.loop keep56_2 body56_2) (head56c x bed day goes side) (stG x F) = run Cv 56 (.loop keep56_2 body56_2) (head56c x bed day goes (side + 2)) (stG x F') ∧ (∀ j, 0 < j → j ≤ N → F' (pos j) = u j) ∧ ∀ i, (∀ j, 0 < j → j ≤ N → pos j ≠ i) → F' i = F i := by
  have d6 := f.d6
  obtain ⟨L, F', g1, ⟨⟨q1, q2, q3, q4, q9⟩, q11⟩, g3, g4⟩ := loop56b x hx f bed day goes hg1 hg3 side hs N pos hpos hin hend u hu hinj N 0 F (by omega) (by omega) (by omega) hF
  refine ⟨F', ?_, g3, g4⟩
  rw [hp0, hu0] at g1
  have w1 : IntKind.wrap .i64 (day + goes) = day + goes := wrap_small (by omega) (by omega)
  have w2 : IntKind.wrap .i64 (side + 2) = side + 2 := wrap_small (by omega) (by omega)
  have hs1 : side ≤ 1 := by omega
  have g' := fun E (hE : mask keep56_1 E = _) => run_at g1 hE
  simp only [keep56_1, head56b] at g'
  have hc := sP_cut x F
  have hru := fun b c d n => rV_under x 2 b c d n (by omega)
  rw [run_loop]
  generalize MC.loop keep56_2 body56_2 = L2
  simp (maxSteps := 10000000) [-List.getD_eq_getElem?_getD, -loadA, -partA, -cut, body56_2, keep56_2, head56c, w1, w2, hs1, keep56_1, g', q1, q2, q3, q4, q9, q11, hc, hru]
theorem spreads_call (x : CB) (hx : x.Ok) (f : x.Sz) (bed : Nat) (hb : bed < x.beds.toNat) (day goes : Int) (hd0 : 0 ≤ day) (hd : day < x.days) (hg1 : 1 ≤ goes) (hg3 : goes ≤ 3) :
    ∃ r, IsRow 1 (ints (rowOf x.beds.toNat (lineF x.beds.toNat x.days (awayL x.ms) goes bed day))) r ∧ call Cv 56 [x.av, I bed, I day, I goes] = some r := by
  have hB := bedsZ f
  have b1 := f.b1
  have b5 := f.b5
  have x0 : x.cells[0]? = some (I x.beds) := rfl
  have hpn : ∀ i, partA none x.cells i = x.cells[i]? := fun _ => rfl
  have hbox := x_box x hx
  have hmk : mksA { boxes := [x.cells] } 1 8 false [I 0] (I x.beds) (I x.beds) = some (rV x, stG x fun _ => 0) := by
    have h1 : 0 ≤ x.beds ∧ x.beds * 8 ≤ 140737488355328 ∧ x.beds ≤ 9223372036854775807 := by omega
    have h2 : (List.replicate x.beds.toNat [I 0]).flatten = ints (rowOf x.beds.toNat fun _ => 0) := by
      rw [← rowOf_zero]
      simp [ints]
    simp [mksA, h1, rV, stG, stS, h2]
  obtain ⟨L, F0, a1, ⟨q1, q2, q3, q4, q9⟩, a3⟩ := loop56a x hx f bed day goes x.beds.toNat 0 (fun _ => 0) (by omega)
  have e0 : ((0 : Nat) : Int) = 0 := rfl
  rw [e0] at a1
  have a' := fun E (hE : mask keep56_0 E = _) => run_at a1 hE
  have hst := sP_store x F0 (i := bed) hb day
  have hix := sP_ix x (i := bed) hb
  -- to the one side
  obtain ⟨F1, b1', b2, b3⟩ := side56 x hx f bed day goes hg1 hg3 hd hd0 (-1) (.inl rfl) bed (fun k => bed - k) rfl (fun k hk => by omega) (fun k hk => by omega) (by omega) (dnF x.days (awayL x.ms) goes bed day) rfl (fun k hk => by
    show goOn _ _ _ _ _ _ _ = _
    unfold goOn
    have h1 : decide (k + 1 ≤ bed) = true := decide_eq_true (by omega)
    rw [h1, show bed - k - 1 = bed - (k + 1) by omega]
    simp only [true_and]) (fun j k h1 h2 h => by have h : bed - j = bed - k := h; omega) (updI F0 bed day) (fun j h1 h2 => by
    show updI F0 bed day (bed - j) = -1
    rw [updI, if_neg (by omega), a3, if_pos (by omega)])
  -- to the other one
  obtain ⟨F2, c1, c2, c3⟩ := side56 x hx f bed day goes hg1 hg3 hd hd0 1 (.inr rfl) (x.beds.toNat - 1 - bed) (fun k => bed + k) rfl (fun k hk => by omega) (fun k hk => by omega) (by omega) (upF x.beds.toNat x.days (awayL x.ms) goes bed day) rfl (fun k hk => by
    show goOn _ _ _ _ _ _ _ = _
    unfold goOn
    have h1 : decide (bed + k + 1 < x.beds.toNat) = true := decide_eq_true (by omega)
    rw [h1]
    simp only [true_and]
    rfl) (fun j k h1 h2 h => by have h : bed + j = bed + k := h; omega) F1 (fun j h1 h2 => by
    show F1 (bed + j) = -1
    rw [b3 (bed + j) fun j' h3 h4 e => by have e : bed - j' = bed + j := e; omega, updI, if_neg (by omega), a3, if_pos (by omega)])
  have hfin : ∀ i, i < x.beds.toNat → F2 i = lineF x.beds.toNat x.days (awayL x.ms) goes bed day i := fun i hi => by
    unfold lineF
    by_cases hbi : bed ≤ i
    · rw [if_pos hbi]
      by_cases he : i = bed
      · subst he
        rw [c3 i fun j h1 h2 e => by have e : i + j = i := e; omega, b3 i fun j h1 h2 e => by have e : i - j = i := e; omega, updI, if_pos rfl, Nat.sub_self]
        rfl
      · have := c2 (i - bed) (by omega) (by omega)
        rwa [show bed + (i - bed) = i by omega] at this
    · rw [if_neg hbi, c3 i fun j h1 h2 e => by have e : bed + j = i := e; omega]
      have := b2 (bed - i) (by omega) (by omega)
      rwa [show bed - (bed - i) = i by omega] at this
  rw [← rowOf_congr hfin]
  have d1 : ∃ L, run Cv 56 (.loop keep56_2 body56_2) (head56c x bed day goes (1 + 2)) (stG x F2) = some (.ex 2, mkE 76 .any L, stG x F2) ∧ gt (mkE 76 .any L) 9 = rV x := by
    rw [run_loop]
    simp (maxSteps := 10000000) [-List.getD_eq_getElem?_getD, -loadA, -partA, body56_2, keep56_2, head56c]
    exact ⟨_, rfl, by simp (maxSteps := 10000000) [-List.getD_eq_getElem?_getD, ]⟩
  obtain ⟨M, d1, d9⟩ := d1
  rw [show ((-1 : Int) + 2) = 1 from rfl, c1, d1] at b1'
  have c' := fun E (hE : mask keep56_2 E = _) => run_at b1' hE
  simp only [keep56_0, head56a] at a'
  simp only [keep56_2, head56c] at c'
  have hpu : ∀ n, pur (stG x F2) (n + 2) (rV x) = some (.sl 1 (ints (rowOf x.beds.toNat F2)) .no, true) := fun n => by
    have := wsl_pur [x.cells] (rowOf x.beds.toNat F2) x.beds.toNat (by rw [rowOf_len]; omega) n
    rw [List.take_of_length_le (by rw [rowOf_len]; omega)] at this
    exact this
  refine ⟨.sl 1 (ints (rowOf x.beds.toNat F2)) .no, .inr (.inr ⟨.no, rfl, rfl⟩), ?_⟩
  have hld0 : ∀ n off, loadA { boxes := [x.cells] } n (.box 0 off) = partA n x.cells off := fun _ _ => rfl
  rw [call_run comp56 (Nat.le_of_ble_eq_true rfl)]
  simp (maxSteps := 10000000) [-List.getD_eq_getElem?_getD, -boxA, -partA, -loadA, -storeA, -ixsA, -pu_wsl, code56, hbox, hld0, sP_x, hpn, x0, hmk, keep56_0, a', q1, q2, q3, q4, q9, hix, hst, keep56_2, c', d9, hpu]
end Go.Ai
