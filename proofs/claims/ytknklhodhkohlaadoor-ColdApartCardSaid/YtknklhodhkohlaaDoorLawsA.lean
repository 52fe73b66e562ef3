/- This text shows the theorem of nobody else, in the interpreter. No conditions of its own. -/
import Derived.Test.YtknklhodhkohlaaDoorHelpH
set_option linter.unusedSimpArgs false
set_option linter.unusedVariables false
set_option maxRecDepth 100000
namespace Go.Ai
open Go.Cold (Mv Hd Bk Tr awayL lineF coughsT illT ends asideL moveAw caughtT)
def B7 (x Y : CB) (t : Tr) (r : AV) : List (List AV) := [x.cells, knC t r, Y.cells]
def st7 (x Y : CB) (t : Tr) (r : AV) (E : List (List AV)) : St := { boxes := B7 x Y t r ++ E }
theorem cut7 {x Y : CB} (hx : x.Ok) (hy : Y.Ok) (t : Tr) {l : List Int} {r : AV} (hr : IsRow 1 (ints l) r) (E : List (List AV)) (e : Env) (he : e.all (under 3 0 0 0 6) = true) : cut (st7 x Y t r []) (st7 x Y t r E) e = st7 x Y t r [] := by
  have := cut_add (B7 x Y t r) E e (by
    have u1 := cells_under hx 3 0 0 0
    have u2 := cells_under hy 3 0 0 0
    have u3 := hr.under 3 0 0 0 5
    show List.all (B7 x Y t r) (fun cs => cs.all (under 3 0 0 0 6)) = true
    simp only [B7, knC, List.all_cons, List.all_nil, u1, u2, u3, un_int, Bool.and_self]) he
  unfold st7
  rw [List.append_nil]
  exact this
def head7a (rl : AV) (d er k : Int) : Env := mkE 141 .any [(12, I k), (11, I er), (10, rl), (9, .box 2 0), (8, I d), (7, .box 1 0), (3, .box 0 0)]
def head7b (rl : AV) (d er : Int) (late : Bool) (k : Int) : Env := mkE 141 .any [(14, I k), (13, .bool late), (11, I er), (10, rl), (9, .box 2 0), (8, I d), (7, .box 1 0), (3, .box 0 0)]
def Kept7 (rl : AV) (d er : Int) (E : Env) : Prop := gt E 3 = .box 0 0 ∧ gt E 7 = .box 1 0 ∧ gt E 8 = I d ∧ gt E 9 = .box 2 0 ∧ gt E 10 = rl ∧ gt E 11 = I er
theorem loop7a (x Y : CB) (hx : x.Ok) (hy : Y.Ok) (t : Tr) {lr : List Int} {r : AV} (hr : IsRow 1 (ints lr) r) (l0 : List Int) (rl : AV) (hrl : IsRow 1 (ints l0) rl) (hl0 : l0.length < 1000) (d er : Int) (hg : ∀ y ∈ l0, ¬ x.gone y ≤ d) : ∀ (l : List Int) (k : Nat), k ≤ l0.length → l0.drop k = l →
    ∃ L, run Cv 7 (.loop keep7_0 body7_0) (head7a rl d er k) (st7 x Y t r []) = some (.ex 0, mkE 141 .any L, st7 x Y t r []) ∧ Kept7 rl d er (mkE 141 .any L)
  | [], k, hk, h => by
    obtain rfl := drop_nil hk h
    have hl := row_len hrl
    rw [run_loop]
    simp (maxSteps := 10000000) [-List.getD_eq_getElem?_getD, -loadA, body7_0, keep7_0, head7a, hl]
    exact ⟨_, rfl, by simp (maxSteps := 10000000) [-List.getD_eq_getElem?_getD, Kept7]⟩
  | b :: l, k, hk, h => by
    obtain ⟨hlt, ha, hd⟩ := head_drop h
    have hl := row_len hrl
    have hw := wrap_succ hlt (show l0.length < 2 ^ 47 by omega)
    have hlt' : (k : Int) < (l0.length : Int) := by omega
    have hix : ixsA 1 rl (I k) = some (.rp [I b] 0) := by
      obtain ⟨c, hc, rfl⟩ := row_sl hrl (by intro e; rw [e] at hlt; simp at hlt)
      simp [ixsA, ints, hlt, ha, AV.cells]
    have hlv : ∀ σ v, loadA σ none (.rp [I v] 0) = some (I v) := fun _ _ => rfl
    have hld : ∀ E, loadA (st7 x Y t r E) (some 11) (.box 0 0) = some x.av := fun _ => rfl
    have hp := av_pur x hx
    have hgo := gone_call x hx b
    have hng := hg b (by rw [← ha]; exact List.getElem_mem _)
    have hru := hrl.under
    have hc := cut7 hx hy t hr []
    obtain ⟨L, ih⟩ := loop7a x Y hx hy t hr l0 rl hrl hl0 d er hg l (k + 1) hlt hd
    refine ⟨L, ?_, ih.2⟩
    rw [← ih.1, run_loop]
    generalize MC.loop keep7_0 body7_0 = L
    simp (maxSteps := 10000000) [-List.getD_eq_getElem?_getD, -loadA, -ixsA, -cut, body7_0, keep7_0, head7a, hl, hlt', hw, hix, hlv, hld, hp, hgo, hng]
    rw [hc]
    simp (maxSteps := 10000000) [-List.getD_eq_getElem?_getD, hru]
def lateB (Y : CB) (d : Int) (i : Nat) : Bool := decide (Y.bk.caughtL i ≠ []) && decide (d ≤ (ends (Y.bk.caughtL i)).2)
theorem loop7b (x Y : CB) (hx : x.Ok) (f : x.Fine) (hy : Y.Ok) (yk : checkB Y = true) (hb : Y.beds = x.beds) (hny : Y.bk.tr ≠ []) (t : Tr) {lr : List Int} {r : AV} (hr : IsRow 1 (ints lr) r) {l0 : List Int} (rl : AV) (hrl : IsRow 1 (ints l0) rl) (d er : Int) : ∀ (n k : Nat) (late : Bool), k + n = x.beds.toNat →
    ∃ L, run Cv 7 (.loop keep7_1 body7_1) (head7b rl d er late k) (st7 x Y t r []) = some (.ex 2, mkE 141 .any L, st7 x Y t r []) ∧ Kept7 rl d er (mkE 141 .any L) ∧ gt (mkE 141 .any L) 13 = .bool (late || (List.range' k n).any (lateB Y d))
  | 0, k, late, hk => by
    have hB := bedsN f
    have h1 : ¬ (k : Int) < x.beds := by omega
    have hld : ∀ E off, loadA (st7 x Y t r E) none (.box 0 off) = x.cells[off]? := fun _ _ => rfl
    have x0 : x.cells[0]? = some (I x.beds) := rfl
    rw [run_loop, List.range'_zero, List.any_nil, Bool.or_false]
    simp (maxSteps := 10000000) [-List.getD_eq_getElem?_getD, -loadA, body7_1, keep7_1, head7b, hld, x0, h1]
    exact ⟨_, rfl, by simp (maxSteps := 10000000) [-List.getD_eq_getElem?_getD, Kept7], by simp (maxSteps := 10000000) [-List.getD_eq_getElem?_getD, ]⟩
  | n + 1, k, late, hk => by
    have hB := bedsN f
    have b5 := f.b5
    have h1 : (k : Int) < x.beds := by omega
    have hld : ∀ E off, loadA (st7 x Y t r E) none (.box 0 off) = x.cells[off]? := fun _ _ => rfl
    have x0 : x.cells[0]? = some (I x.beds) := rfl
    have hld2 : ∀ E, loadA (st7 x Y t r E) (some 11) (.box 2 0) = some Y.av := fun _ => rfl
    have hal : ∀ (C : Cfg) (R : Rec) (q : Bool) (en : Env) (z : List AV), operA C R q en (st7 x Y t r []) (.alloc z) = some (.box 3 0, st7 x Y t r [z]) := fun C R q en z => by
      simp [operA, st7, B7]
    have hs3 : ∀ u v, storeA (st7 x Y t r [[I 0, I 0]]) 2 (.box 3 0) (.agg [I u, I v]) = some (st7 x Y t r [[I u, I v]]) := fun u v => by
      simp [storeA, st7, B7, setAt, AV.cells]
    have hl3 : ∀ u v, loadA (st7 x Y t r [[u, v]]) none (.box 3 1) = some v := fun _ _ => rfl
    have yp := av_pur Y hy
    have hw : IntKind.wrap .i64 ((k : Int) + 1) = k + 1 := wrap_small (by omega) (by omega)
    have hru := hrl.under
    have hc := cut7 hx hy t hr
    rw [List.range'_succ, List.any_cons, ← Bool.or_assoc]
    obtain ⟨L, ih⟩ := loop7b x Y hx f hy yk hb hny t hr rl hrl d er n (k + 1) (late || lateB Y d k) (by omega)
    refine ⟨L, ?_, ih.2⟩
    rw [← ih.1, run_loop]
    generalize MC.loop keep7_1 body7_1 = L
    by_cases hcn : Y.bk.caughtL k = []
    · have y1 := Caught_none hy yk hny (bed := k) (by omega) (by omega) (by rwa [Int.toNat_natCast])
      have hlb : lateB Y d k = false := by simp [lateB, hcn]
      rw [hlb, Bool.or_false]
      cases late
      · simp (maxSteps := 10000000) [-List.getD_eq_getElem?_getD, -loadA, -storeA, -op_alloc, -cut, body7_1, keep7_1, head7b, hld, x0, hld2, h1, hal, hs3, hl3, yp, y1, hw]
        rw [hc]
        simp (maxSteps := 10000000) [-List.getD_eq_getElem?_getD, hru]
      · simp (maxSteps := 10000000) [-List.getD_eq_getElem?_getD, -loadA, -storeA, -op_alloc, -cut, body7_1, keep7_1, head7b, hld, x0, hld2, h1, hal, hs3, hl3, yp, y1, hw]
        rw [hc]
        simp (maxSteps := 10000000) [-List.getD_eq_getElem?_getD, hru]
    · have y1 := Caught_1 hy yk hny (bed := k) (by omega) (by omega) (by rwa [Int.toNat_natCast])
      rw [Int.toNat_natCast] at y1
      have hlb : lateB Y d k = decide (d ≤ (ends (Y.bk.caughtL k)).2) := by simp [lateB, hcn]
      rw [hlb]
      generalize ends (Y.bk.caughtL k) = en at *
      cases late
      · simp (maxSteps := 10000000) [-List.getD_eq_getElem?_getD, -loadA, -storeA, -op_alloc, -cut, body7_1, keep7_1, head7b, hld, x0, hld2, h1, hal, hs3, hl3, yp, y1, hw]
        rw [hc]
        simp (maxSteps := 10000000) [-List.getD_eq_getElem?_getD, hru]
      · simp (maxSteps := 10000000) [-List.getD_eq_getElem?_getD, -loadA, -storeA, -op_alloc, -cut, body7_1, keep7_1, head7b, hld, x0, hld2, h1, hal, hs3, hl3, yp, y1, hw]
        rw [hc]
        simp (maxSteps := 10000000) [-List.getD_eq_getElem?_getD, hru]
theorem late_iff {Y : CB} (fy : Y.Fine) {d : Int} (hd : 0 ≤ d) : (List.range' 0 Y.bk.B).any (lateB Y d) = false ↔ Y.bk.okA d [] = true := by
  rw [Go.Cold.okA_nil fy.bk, List.any_eq_false]
  constructor
  · intro h t ht i hi
    have h1 := h i (by rw [List.mem_range'_1]; omega)
    rcases Int.lt_or_le (Y.bk.at t i) d with h2 | h2
    · exact h2
    · have hm : Y.bk.at t i ∈ Y.bk.caughtL i := Go.Cold.mem_days.2 ⟨by omega, t, ht, rfl⟩
      have hc := (Go.Cold.ends_covers hm).2
      refine absurd ?_ h1
      simp only [lateB, Bool.and_eq_true, decide_eq_true_eq]
      exact ⟨List.ne_nil_of_mem hm, by omega⟩
  · intro h i hi hl
    simp only [lateB, Bool.and_eq_true, decide_eq_true_eq] at hl
    obtain ⟨h0, t, ht, he⟩ := Go.Cold.mem_days.1 (Go.Cold.ends_mem hl.1).2
    rw [List.mem_range'_1] at hi
    have := h t ht i (by omega)
    omega
theorem apart_nil {Y : CB} (fy : Y.Fine) {d : Int} : Y.bk.apartO d Y.rooms.toNat = some [] ↔ Y.bk.okA d [] = true := by
  constructor
  · intro h
    exact (Go.Cold.told_ok (Go.Cold.apart_told fy.bk h)).2
  · intro h
    obtain ⟨l, h1, _, h3⟩ := Go.Cold.apart_least fy.bk (rooms := Y.rooms.toNat) (m := []) trivial (Nat.zero_le _) h
    cases l with
    | nil => exact h1
    | cons a l => simp [Go.Least.shorterL] at h3
set_option maxHeartbeats 8000000 in
theorem apart_law (x : CB) (hx : x.Ok) (l0 : List Int) (r0 : AV) (hl0 : l0.length < 2 ^ 47) (h0 : IsRow 1 (ints l0) r0) (b : Int) : call Cv 7 [x.av, r0, I b] = some (.bool true) := by
  have hsm := sound_call x hx
  have hs := sneezed_call
  have hp := av_pur x hx
  have hbox := x_box x hx
  have x0 : x.cells[0]? = some (I x.beds) := rfl
  have x1 : x.cells[1]? = some (I x.days) := rfl
  have x9 : x.cells[9]? = some (I x.rooms) := rfl
  have hpx := part_x x
  have hpn : ∀ i, partA none x.cells i = x.cells[i]? := fun _ => rfl
  have h0p := h0.pur
  cases hk : checkB x with
  | false =>
    rw [hk] at hsm
    rw [call_run comp7 (Nat.le_of_ble_eq_true rfl)]
    simp (maxSteps := 10000000) [-List.getD_eq_getElem?_getD, -boxA, -partA, code7, hbox, hpx, hpn, hp, hsm, hs, h0p]
  | true =>
    rw [hk] at hsm
    have f := check_fine hk
    have b1 := f.b1; have b5 := f.b5; have d1 := f.d1; have d6 := f.d6; have hlh := f.lh; have rr0 := f.r0
    have hB := bedsN f
    by_cases hd2 : x.days < 2
    · rw [call_run comp7 (Nat.le_of_ble_eq_true rfl)]
      simp (maxSteps := 10000000) [-List.getD_eq_getElem?_getD, -boxA, -partA, code7, hbox, hpx, hpn, hp, hsm, hs, h0p, x1, hd2]
    have t2 := turn_call b (x.days - 1) (by omega)
    obtain ⟨u1, u2⟩ := turn_range b (x.days - 1) (by omega)
    generalize turnI b (x.days - 1) = v at *
    have w1 : IntKind.wrap .i64 (x.days - 1) = x.days - 1 := wrap_small (by omega) (by omega)
    have w2 : IntKind.wrap .i64 (1 + v) = 1 + v := wrap_small (by omega) (by omega)
    obtain ⟨d, hd⟩ : ∃ d, d = 1 + v := ⟨_, rfl⟩
    rw [← hd] at w2
    obtain ⟨t, r, hr, tc, hT, hbeg, haw⟩ := truly_call x hx hk l0 r0 h0 hl0
    have rcl := rightly_call x hx f t hT r hr
    have yok := rightly_okc hx t
    have yk := rightly_check hk t
    have ybk := rightly_bk x t
    have hmem : t ∈ (x.rightly t).bk.tr := by rw [ybk]; exact Go.Cold.rightly_mem f.bk hT hbeg haw
    have yd : (x.rightly t).days = x.days := rfl
    have yb : (x.rightly t).beds = x.beds := rfl
    have yr : (x.rightly t).rooms = x.rooms := rfl
    have yms : (x.rightly t).bk.ms = x.ms := rfl
    have yB : (x.rightly t).bk.B = x.bk.B := rfl
    have yD : (x.rightly t).bk.D = x.bk.D := rfl
    generalize x.rightly t = Y at *
    have fy := check_fine yk
    have hny : Y.bk.tr ≠ [] := List.ne_nil_of_mem hmem
    have ycl := x_cell Y yok
    have yz := z11 Y
    have ypx := part_x Y
    have ylen : Y.cells.length = 11 := rfl
    have yav : Y.av.cells = Y.cells := rfl
    have yp := av_pur Y yok
    obtain ⟨rl, hrl, ac⟩ := Apart_call Y yok d
    have hdb : dayB Y d = true := (day_is fy).2 ⟨by omega, by omega⟩
    have her : errQ Y true = 0 := err_zero yk hny
    have hV : apartV Y d = (Y.bk.apartO d Y.rooms.toNat).getD [] := by rw [apartV, apartW, hdb, her, if_pos rfl]
    have hE : apartE Y d = if (Y.bk.apartO d Y.rooms.toNat).isSome then 0 else 4 := by rw [apartE, hdb, her, if_pos rfl]
    rw [hV] at hrl
    rw [hE] at ac
    have hlp := hrl.pur
    have hll := row_len hrl
    have hlate := late_iff fy (d := d) (by omega)
    rw [← apart_nil fy] at hlate
    have hrc := hr.cell
    have hkc : (knA t r).cells = knC t r := rfl
    have hkl : (knC t r).length = 4 := rfl
    have hkall : (knC t r).all AV.isCell = true := by
      have hi : ∀ n, AV.isCell (I n) = true := fun _ => rfl
      simp [knC, hrc, hi]
    have hkz : setAt [I 0, I 0, I 0, .nils] 0 (knC t r) = knC t r := rfl
    have hk4 : partA (some 4) (knC t r) 0 = some (knA t r) := rfl
    have hkp : ∀ σ n, pur σ (n + 2) (knA t r) = some (knA t r, false) := fun σ n => by
      have q := hr.pur
      simp [knA, knC, pur, purAll, q]
    have e0 : ((0 : Nat) : Int) = 0 := rfl
    have lateL := fun er => loop7b x Y hx f yok yk yb hny t hr rl hrl d er x.beds.toNat 0 false (by omega)
    rw [show x.beds.toNat = Y.bk.B by rw [yB]; rfl] at lateL
    generalize (List.range' 0 Y.bk.B).any (lateB Y d) = late at *
    cases ho : Y.bk.apartO d Y.rooms.toNat with
    | none =>
      rw [ho] at hrl ac hll hlate
      simp only [Option.getD_none, Option.isSome_none, Bool.false_eq_true, if_false] at hrl ac hll
      have hlt : late = true := by
        cases late with
        | true => rfl
        | false => have := hlate.1 rfl; cases this
      have en0 : ((([] : List Int).length : Nat) : Int) = 0 := rfl
      rw [en0] at hll
      have oc := ord_call [] rl hrl (by decide) x.beds (by omega) (by omega)
      have hor : ordF x.beds (-1) [] = true := rfl
      rw [hor] at oc
      obtain ⟨L, la, k3, k7, k8, k9, k10, k11⟩ := loop7a x Y hx yok t hr [] rl hrl (by decide) d 4 (fun y hy => by cases hy) [] 0 (Nat.zero_le _) rfl
      obtain ⟨M, lb, ⟨m3, m7, m8, m9, m10, m11⟩, m13⟩ := lateL 4
      rw [e0] at la lb
      rw [Bool.false_or] at m13
      subst hlt
      have la' := fun E (hE : mask keep7_0 E = _) => run_at la hE
      have lb' := fun E (hE : mask keep7_1 E = _) => run_at lb hE
      simp only [keep7_0, head7a, st7, B7, List.append_nil] at la'
      simp only [keep7_1, head7b, st7, B7, List.append_nil] at lb'
      have hrm : ¬ x.rooms < 0 := by omega
      rw [call_run comp7 (Nat.le_of_ble_eq_true rfl)]
      simp (maxSteps := 10000000) [-List.getD_eq_getElem?_getD, -boxA, -partA, -setAt, -List.all_eq_true, code7, hbox, hpx, hpn, hp, hsm, hs, h0p, x0, x1, x9, hd2, t2, w1, w2, ← hd, tc, rcl, ycl, yz, ypx, ylen, yav, yp, hkc, hkl, hkall, hkz, hk4, hkp, ac, hlp, hll, oc, hrm, keep7_0, la', k3, k7, k8, k9, k10, k11, keep7_1, lb', m3, m7, m8, m9, m10, m11, m13]
    | some l =>
      rw [ho] at hrl ac hll hlate
      simp only [Option.getD_some, Option.isSome_some, if_true] at hrl ac hll
      have hT' := Go.Cold.apart_told fy.bk ho
      obtain ⟨hlr, hok⟩ := Go.Cold.told_ok hT'
      have hrg := Go.Cold.told_range hT'
      have hyr3 := fy.r3
      have hl3 : l.length ≤ 3 := by omega
      rw [Go.Cold.Bk.okA, Bool.and_eq_true, List.all_eq_true] at hok
      have hawl : ∀ y ∈ l, 0 ≤ y → awayL x.ms y.toNat d = false := fun y hy _ => by
        have := hok.1 y hy
        rw [yms] at this
        simpa using this
      have hgone : ∀ y ∈ l, ¬ x.gone y ≤ d := fun y hy h => by
        have h1 := (hrg y hy).1
        have h2 := hawl y hy h1
        have h3 := (gone_away (x := x) (bed := y.toNat) (d := d) (by omega)).1 (by rw [show ((y.toNat : Nat) : Int) = y by omega]; exact h)
        rw [h2] at h3
        cases h3
      have hen := Go.Cold.enough_of hok.2 hmem
      rw [yms, yB, yD] at hen
      have cc := catches_call x hx f t hT r hr l rl hrl (by omega) d hawl hen
      have oc := ord_call l rl hrl (by omega) x.beds (by omega) (by omega)
      have hio := inc_ord Y.bk.B l 0 (-1) (by omega) (Int.le_refl _) hT'.inc
      rw [show ((Y.bk.B : Nat) : Int) = x.beds by rw [yB]; exact hB] at hio
      rw [hio] at oc
      obtain ⟨L, la, k3, k7, k8, k9, k10, k11⟩ := loop7a x Y hx yok t hr l rl hrl (by omega) d 0 hgone l 0 (Nat.zero_le _) rfl
      obtain ⟨M, lb, ⟨m3, m7, m8, m9, m10, m11⟩, m13⟩ := lateL 0
      rw [e0] at la lb
      rw [Bool.false_or] at m13
      have la' := fun E (hE : mask keep7_0 E = _) => run_at la hE
      have lb' := fun E (hE : mask keep7_1 E = _) => run_at lb hE
      simp only [keep7_0, head7a, st7, B7, List.append_nil] at la'
      simp only [keep7_1, head7b, st7, B7, List.append_nil] at lb'
      have hrm : ¬ x.rooms < (l.length : Int) := by rw [yr] at hlr; omega
      have hz : ((l.length : Int) == 0) = !late := by
        rw [Bool.eq_iff_iff]
        have h1 : (((l.length : Int) == 0) = true) ↔ l = [] := by simp
        rw [h1, Bool.not_eq_true', hlate]
        simp
      rw [call_run comp7 (Nat.le_of_ble_eq_true rfl)]
      simp (maxSteps := 10000000) [-List.getD_eq_getElem?_getD, -boxA, -partA, -setAt, -List.all_eq_true, code7, hbox, hpx, hpn, hp, hsm, hs, h0p, x0, x1, x9, hd2, t2, w1, w2, ← hd, tc, rcl, ycl, yz, ypx, ylen, yav, yp, hkc, hkl, hkall, hkz, hk4, hkp, ac, hlp, hll, oc, hrm, keep7_0, la', k3, k7, k8, k9, k10, k11, keep7_1, lb', m3, m7, m8, m9, m10, m11, m13, hz, cc]
end Go.Ai
