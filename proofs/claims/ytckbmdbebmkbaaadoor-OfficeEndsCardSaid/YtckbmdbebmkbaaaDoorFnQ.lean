/- This text shows sound books; what is told of a valid book. No conditions of its own. -/
import Derived.Test.YtckbmdbebmkbaaaDoorFnP
import Derived.Test.YtckbmdbebmkbaaaDoorPlainB
set_option linter.unusedSimpArgs false
set_option linter.unusedVariables false
set_option maxRecDepth 100000
namespace Go.Ai
open Go.Office (Ft Rl Us Nt Bk)
def head12_0 (ok : Bool) (k : Int) : Env := mkE 79 .any [(4, I k), (3, .bool ok), (1, .box 0 0)]
theorem loop12_0f (x : OB) : run Cv 12 (.loop keep12_0 body12_0) (head12_0 false 0) { boxes := [x.cells] } = some (.ex 0, mkE 79 .any [(39, .bool false), (38, .undef), (37, .undef), (36, .undef), (35, .undef), (34, .undef), (33, .bool false), (32, .bool false), (4, I 0), (3, .bool false), (1, .box 0 0)], { boxes := [x.cells] }) := by
  rw [run_loop]
  simp (maxSteps := 10000000) [-List.getD_eq_getElem?_getD, body12_0, keep12_0, head12_0]
theorem loop12_0 (x : OB) (hx : x.Ok) (f : x.Fine) : ∀ (l : List Ft) (k : Nat), k ≤ x.fs.length → x.fs.drop k = l →
    ∃ L, run Cv 12 (.loop keep12_0 body12_0) (head12_0 true k) { boxes := [x.cells] } = some (.ex 0, mkE 79 .any L, { boxes := [x.cells] }) ∧ gt (mkE 79 .any L) 3 = .bool true ∧ gt (mkE 79 .any L) 1 = .box 0 0
  | [], k, hk, h => by
    obtain rfl := drop_nil hk h
    have hl := flen hx
    have hfr : loadA { boxes := [x.cells] } none (.box 0 2) = some x.fr := rfl
    rw [run_loop]
    simp (maxSteps := 10000000) [-List.getD_eq_getElem?_getD, -loadA, body12_0, keep12_0, head12_0, hl, hfr]
    exact ⟨_, rfl, by simp (maxSteps := 10000000) [-List.getD_eq_getElem?_getD, ], by simp (maxSteps := 10000000) [-List.getD_eq_getElem?_getD, ]⟩
  | t :: l, k, hk, h => by
    obtain ⟨hlt, ha, hd⟩ := head_drop h
    have hw := wrap_succ hlt hx.lf
    have hlt' : (k : Int) < (x.fs.length : Int) := by omega
    have hix := f_ix hx hlt
    have hm : x.fs[k] ∈ x.bk.fs := List.getElem_mem _
    rw [ha] at hix hm
    have hfs := f.bk.fs t hm
    have d6 : x.days ≤ 6 := f.bk.d6
    have hD : x.bk.D = x.days := rfl
    rw [hD] at hfs
    have hl := flen hx
    have hfr : loadA { boxes := [x.cells] } none (.box 0 2) = some x.fr := rfl
    have hdd : loadA { boxes := [x.cells] } none (.box 0 0) = some (I x.days) := rfl
    have hl2 : ∀ σ : St, loadA σ (some 2) (.rp (ftC t) 0) = some (.agg [I t.lo, I t.hi]) := fun _ => rfl
    have w1 : IntKind.wrap .i64 (x.days - 1) = x.days - 1 := wrap_small (by omega) (by omega)
    have hfa := fair_call t.lo t.hi 0 (x.days - 1) 3
    have hfb : fairB t.lo t.hi 0 (x.days - 1) 3 = true := by
      have w2 : IntKind.wrap .i64 (t.hi - t.lo) = t.hi - t.lo := wrap_small (by omega) (by omega)
      simp only [fairB, w2, Bool.and_eq_true, decide_eq_true_eq]
      omega
    rw [hfb] at hfa
    have u1 := x_under hx
    have hcut := fun e => cut_self { boxes := [x.cells] } e (by simp) (by simp)
    obtain ⟨L, g1, g2, g3⟩ := loop12_0 x hx f l (k + 1) hlt hd
    refine ⟨L, ?_, g2, g3⟩
    have e1 : ((k + 1 : Nat) : Int) = (k : Int) + 1 := by omega
    rw [← g1, e1, run_loop]
    generalize MC.loop keep12_0 body12_0 = LL
    simp (maxSteps := 10000000) [-List.getD_eq_getElem?_getD, -ixsA, -loadA, -cut, -List.all_eq_true, body12_0, keep12_0, head12_0, hlt', hw, hix, hl, hfr, hdd, hl2, w1, hfa, hcut]
def head12_1 (ok : Bool) (k : Int) : Env := mkE 79 .any [(5, I k), (3, .bool ok), (1, .box 0 0)]
theorem loop12_1f (x : OB) : run Cv 12 (.loop keep12_1 body12_1) (head12_1 false 0) { boxes := [x.cells] } = some (.ex 2, mkE 79 .any [(59, .bool false), (58, .undef), (57, .undef), (56, .undef), (55, .undef), (54, .undef), (53, .bool false), (52, .bool false), (5, I 0), (3, .bool false), (1, .box 0 0)], { boxes := [x.cells] }) := by
  rw [run_loop]
  simp (maxSteps := 10000000) [-List.getD_eq_getElem?_getD, body12_1, keep12_1, head12_1]
theorem loop12_1 (x : OB) (hx : x.Ok) (f : x.Fine) : ∀ (l : List Nt) (k : Nat), k ≤ x.ns.length → x.ns.drop k = l →
    ∃ L, run Cv 12 (.loop keep12_1 body12_1) (head12_1 true k) { boxes := [x.cells] } = some (.ex 2, mkE 79 .any L, { boxes := [x.cells] }) ∧ gt (mkE 79 .any L) 3 = .bool true
  | [], k, hk, h => by
    obtain rfl := drop_nil hk h
    have hl := nlen hx
    have hfr : loadA { boxes := [x.cells] } none (.box 0 7) = some x.nr := rfl
    rw [run_loop]
    simp (maxSteps := 10000000) [-List.getD_eq_getElem?_getD, -loadA, body12_1, keep12_1, head12_1, hl, hfr]
    exact ⟨_, rfl, by simp (maxSteps := 10000000) [-List.getD_eq_getElem?_getD, ]⟩
  | t :: l, k, hk, h => by
    obtain ⟨hlt, ha, hd⟩ := head_drop h
    have hw := wrap_succ hlt hx.ln
    have hlt' : (k : Int) < (x.ns.length : Int) := by omega
    have hix := n_ix hx hlt
    have hm : x.ns[k] ∈ x.bk.ns := List.getElem_mem _
    rw [ha] at hix hm
    have hns := f.bk.ns t hm
    have d6 : x.days ≤ 6 := f.bk.d6
    have hD : x.bk.D = x.days := rfl
    rw [hD] at hns
    have hl := nlen hx
    have hfr : loadA { boxes := [x.cells] } none (.box 0 7) = some x.nr := rfl
    have hl3 : ∀ σ : St, loadA σ (some 3) (.rp (ntC t) 0) = some (.agg (ntC t)) := fun _ => rfl
    have hst : storeA { boxes := [x.cells, [I 0, I 0, I 0]] } 3 (.box 1 0) (.agg (ntC t)) = some { boxes := [x.cells, ntC t] } := rfl
    have hd0 : loadA { boxes := [x.cells, ntC t] } none (.box 1 0) = some (I t.use) := rfl
    have hd1 : loadA { boxes := [x.cells, ntC t] } none (.box 1 1) = some (I t.day) := rfl
    have hdd : loadA { boxes := [x.cells, ntC t] } none (.box 0 0) = some (I x.days) := rfl
    have w1 : IntKind.wrap .i64 (x.days - 1) = x.days - 1 := wrap_small (by omega) (by omega)
    have ha1 := lies_call t.use 0 1
    have ha2 := lies_call t.day 0 (x.days - 1)
    have hb1 : (decide (0 ≤ t.use) && decide (t.use ≤ 1)) = true := by simp; omega
    have hb2 : (decide (0 ≤ t.day) && decide (t.day ≤ x.days - 1)) = true := by simp; omega
    rw [hb1] at ha1
    rw [hb2] at ha2
    have hcut : ∀ (F : List (List AV)) (e : Env), e.all (under 1 0 0 0 6) = true → cut { boxes := [x.cells] } { boxes := x.cells :: F } e = { boxes := [x.cells] } := fun F e he => by
      have := cut_add [x.cells] F e (by
        have u1 := x_under hx 1 0 0 0 5
        simp only [List.length_cons, List.length_nil, List.all_cons, List.all_nil, u1, Bool.and_self]) he
      exact this
    obtain ⟨L, g1, g2⟩ := loop12_1 x hx f l (k + 1) hlt hd
    refine ⟨L, ?_, g2⟩
    have e1 : ((k + 1 : Nat) : Int) = (k : Int) + 1 := by omega
    rw [← g1, e1, run_loop]
    generalize MC.loop keep12_1 body12_1 = LL
    simp (maxSteps := 10000000) [-List.getD_eq_getElem?_getD, -ixsA, -loadA, -storeA, -cut, -List.all_eq_true, body12_1, keep12_1, head12_1, hlt', hw, hix, hl, hfr, hdd, hl3, hst, hd0, hd1, w1, ha1, ha2]
    rw [hcut]
    simp (maxSteps := 10000000) [-List.getD_eq_getElem?_getD, ]
theorem sound_call (x : OB) (hx : x.Ok) : call Cv 12 [x.av] = some (.bool (checkB x)) := by
  have hc := check_call x hx
  have p1 := hx.fr.cell
  have p2 := hx.q0.cell
  have p3 := hx.q1.cell
  have p4 := hx.nr.cell
  have r1 := hx.fr.pur
  have r2 := hx.q0.pur
  have r3 := hx.q1.pur
  have r4 := hx.nr.pur
  have hl0 : loadA { boxes := [[I x.days, I x.first, x.fr, x.q0, .bool x.g0, x.q1, .bool x.g1, x.nr]] } (some 8) (.box 0 0) = some (.agg [I x.days, I x.first, x.fr, x.q0, .bool x.g0, x.q1, .bool x.g1, x.nr]) := rfl
  have hd0 : loadA { boxes := [[I x.days, I x.first, x.fr, x.q0, .bool x.g0, x.q1, .bool x.g1, x.nr]] } none (.box 0 0) = some (I x.days) := rfl
  have hd1 : loadA { boxes := [[I x.days, I x.first, x.fr, x.q0, .bool x.g0, x.q1, .bool x.g1, x.nr]] } none (.box 0 1) = some (I x.first) := rfl
  have hd2 : loadA { boxes := [[I x.days, I x.first, x.fr, x.q0, .bool x.g0, x.q1, .bool x.g1, x.nr]] } none (.box 0 2) = some x.fr := rfl
  have hd7 : loadA { boxes := [[I x.days, I x.first, x.fr, x.q0, .bool x.g0, x.q1, .bool x.g1, x.nr]] } none (.box 0 7) = some x.nr := rfl
  have hfl := flen hx
  have hnl := nlen hx
  simp only [OB.av, OB.cells] at hc
  have e0 : ((0 : Nat) : Int) = 0 := rfl
  cases hk : checkB x with
  | false =>
    rw [hk] at hc
    have a := loop12_0f x
    have b := loop12_1f x
    have a' := fun E (hE : mask keep12_0 E = _) => run_at a hE
    have b' := fun E (hE : mask keep12_1 E = _) => run_at b hE
    simp only [keep12_0, head12_0, OB.cells] at a'
    simp only [keep12_1, head12_1, OB.cells] at b'
    rw [call_run comp12 (Nat.le_of_ble_eq_true rfl)]
    simp (maxSteps := 10000000) [-List.getD_eq_getElem?_getD, -loadA, code12, OB.av, OB.cells, p1, p2, p3, p4, r1, r2, r3, r4, hl0, hc, keep12_0, keep12_1, a', b']
  | true =>
    rw [hk] at hc
    have f := check_fine hk
    obtain ⟨La, a, a3, a1⟩ := loop12_0 x hx f x.fs 0 (Nat.zero_le _) rfl
    obtain ⟨Lb, b, b3⟩ := loop12_1 x hx f x.ns 0 (Nat.zero_le _) rfl
    have a' := fun E (hE : mask keep12_0 E = _) => run_at a hE
    have b' := fun E (hE : mask keep12_1 E = _) => run_at b hE
    simp only [keep12_0, head12_0, OB.cells, e0] at a'
    simp only [keep12_1, head12_1, OB.cells, e0] at b'
    have d1 : 1 ≤ x.days := f.bk.d1
    have d6 : x.days ≤ 6 := f.bk.d6
    have f0 : 0 ≤ x.first := f.bk.f0
    have f29 : x.first ≤ 29 := f.bk.f29
    have n4 : x.fs.length ≤ 4 := f.bk.n4
    have m4 := f.n4
    have g1 := lies_call x.days 1 6
    have g2 := lies_call x.first 0 29
    have hb1 : (decide (1 ≤ x.days) && decide (x.days ≤ 6)) = true := by simp; omega
    have hb2 : (decide (0 ≤ x.first) && decide (x.first ≤ 29)) = true := by simp; omega
    rw [hb1] at g1
    rw [hb2] at g2
    have h4 : (x.fs.length : Int) ≤ 4 := by omega
    have h5 : (x.ns.length : Int) ≤ 4 := by omega
    rw [call_run comp12 (Nat.le_of_ble_eq_true rfl)]
    simp (maxSteps := 10000000) [-List.getD_eq_getElem?_getD, -loadA, code12, OB.av, OB.cells, p1, p2, p3, p4, r1, r2, r3, r4, hl0, hd0, hd1, hd2, hd7, hc, hfl, hnl, g1, g2, h4, h5, keep12_0, keep12_1, a', a3, a1, b', b3]
end Go.Ai

set_option maxRecDepth 100000
namespace Go.Ai
open Go.Office (Ft Rl Us Nt Bk vote allI nonNeg ends days_pos days_some)
theorem covers_call (a b n : Int) : call Cv 32 [.agg [I a, I b], I n] = some (.bool (decide (a ≤ n) && decide (n ≤ b))) := by
  have h := lies_call n a b
  rw [call_run comp32 (Nat.le_of_ble_eq_true rfl)]
  simp (maxSteps := 10000000) [-List.getD_eq_getElem?_getD, code32, h]
theorem covers_callA (a b n : Int) (d : Bool) (σ : St) : callA Cv (run Cv) d (.fn (.func 32) [] []) [.agg [I a, I b], I n] σ = some (.bool (decide (a ≤ n) && decide (n ≤ b)), σ) := by
  have hp : purAll (pur σ 12) ([] ++ [.agg [I a, I b], I n] ++ []) = some ([.agg [I a, I b], I n], false) := rfl
  rw [ca_none (by rfl), hp]
  simp only [pureCallA, pureA_call, covers_call, backA]
  rfl
section
variable {x : OB} (f : x.Fine)
include f
theorem dim : 1 ≤ x.days ∧ x.days ≤ 6 ∧ x.fs.length ≤ 4 := ⟨f.bk.d1, f.bk.d6, f.bk.n4⟩
theorem spot_true {u d : Nat} (hu : u < 2) (hd : (d : Int) < x.days) : spotB x u d = true := by
  obtain ⟨d1, d6, _⟩ := dim f
  have w1 : IntKind.wrap .i64 (x.days - 1) = x.days - 1 := wrap_small (by omega) (by omega)
  simp only [spotB, Bool.and_eq_true, lie_iff, w1]
  omega
theorem day_true {d : Nat} (hd : (d : Int) < x.days) : dayI x d = true := by
  obtain ⟨d1, d6, _⟩ := dim f
  have w1 : IntKind.wrap .i64 (x.days - 1) = x.days - 1 := wrap_small (by omega) (by omega)
  simp only [dayI, lie_iff, w1]
  omega
omit f in
theorem feat_true {k : Nat} (hk : k < x.fs.length) : featI x k = true := by
  simp only [featI, lie_iff]; omega
omit f in
theorem use_true {u k : Nat} (hu : u < 2) (hk : k < x.fs.length) : useI x u k = true := by
  simp only [useI, Bool.and_eq_true, lie_iff]; omega
omit f in
theorem errQ_none (hk : checkB x = true) (hT : x.bk.tr = []) : errQ x true = 12 := by
  unfold errQ errOf; simp [hk, hT]
theorem hull_days {k : Nat} (hk : k < x.fs.length) (hT : x.bk.tr ≠ []) : hullE (x.bk.daysL k) = 0 ∧ hullP (x.bk.daysL k) = ends (x.bk.daysL k) := by
  have h1 := days_pos f.bk (f := k) hk
  have h2 := days_some (b := x.bk) (f := k) hT
  unfold hullE hullP
  rw [h1, if_neg h2, if_neg h2]
  exact ⟨rfl, rfl⟩
end
section
variable {x : OB} (hx : x.Ok) (hc : checkB x = true)
include hx hc
theorem Day_0 (hT : x.bk.tr = []) {k : Nat} (hk : k < x.fs.length) : call Cv 23 [x.av, I (k : Nat)] = some (.tup [.agg [I 0, I 0], I 12]) := by
  rw [Day_call x hx, dayR, feat_true hk, errQ_none hc hT, if_neg (by decide)]; rfl
theorem Day_1 (hT : x.bk.tr ≠ []) {k : Nat} (hk : k < x.fs.length) : call Cv 23 [x.av, I (k : Nat)] = some (.tup [.agg [I (ends (x.bk.daysL k)).1, I (ends (x.bk.daysL k)).2], I 0]) := by
  obtain ⟨h1, h2⟩ := hull_days (check_fine hc) hk hT
  rw [Day_call x hx, dayR, feat_true hk, errQ_ok hc hT, if_pos rfl, Int.toNat_natCast, h1, h2]; rfl
theorem Chief_0 (hT : x.bk.tr = []) {u d : Nat} (hu : u < 2) (hd : (d : Int) < x.days) : ∃ r, IsRow 1 (ints []) r ∧ call Cv 15 [x.av, I (u : Nat), I (d : Nat)] = some (.tup [r, I 12]) := by
  obtain ⟨r, h1, h2⟩ := Chief_call x hx u d
  rw [spot_true (check_fine hc) hu hd, errQ_none hc hT] at h1 h2
  exact ⟨r, h1, h2⟩
theorem Chief_1 (hT : x.bk.tr ≠ []) {u d : Nat} (hu : u < 2) (hd : (d : Int) < x.days) : ∃ r, IsRow 1 (ints (allI (x.bk.chiefsL u d))) r ∧ call Cv 15 [x.av, I (u : Nat), I (d : Nat)] = some (.tup [r, I 0]) := by
  obtain ⟨r, h1, h2⟩ := Chief_call x hx u d
  rw [spot_true (check_fine hc) hu hd, errQ_ok hc hT] at h1 h2
  exact ⟨r, h1, h2⟩
theorem Psalm_0 (hT : x.bk.tr = []) {u d : Nat} (hu : u < 2) (hd : (d : Int) < x.days) : ∃ r, IsRow 1 (ints []) r ∧ call Cv 27 [x.av, I (u : Nat), I (d : Nat)] = some (.tup [r, I 12]) := by
  obtain ⟨r, h1, h2⟩ := Psalm_call x hx u d
  rw [spot_true (check_fine hc) hu hd, errQ_none hc hT] at h1 h2
  exact ⟨r, h1, h2⟩
theorem Psalm_1 (hT : x.bk.tr ≠ []) {u d : Nat} (hu : u < 2) (hd : (d : Int) < x.days) : ∃ r, IsRow 1 (ints (allI (x.bk.psalmsL u d))) r ∧ call Cv 27 [x.av, I (u : Nat), I (d : Nat)] = some (.tup [r, I 0]) := by
  obtain ⟨r, h1, h2⟩ := Psalm_call x hx u d
  rw [spot_true (check_fine hc) hu hd, errQ_ok hc hT] at h1 h2
  exact ⟨r, h1, h2⟩
theorem Falls_0 (hT : x.bk.tr = []) {u k : Nat} (hu : u < 2) (hk : k < x.fs.length) : call Cv 30 [x.av, I (u : Nat), I (k : Nat)] = some (.tup [.agg [I 0, I 0], I 12]) := by
  rw [Falls_call x hx, fallsR, use_true hu hk, errQ_none hc hT, if_neg (by decide)]; rfl
theorem Falls_1 (hT : x.bk.tr ≠ []) {u k : Nat} (hu : u < 2) (hk : k < x.fs.length) : call Cv 30 [x.av, I (u : Nat), I (k : Nat)] = some (.tup [.agg [I (hullP (x.bk.fallsL u k)).1, I (hullP (x.bk.fallsL u k)).2], I (hullE (x.bk.fallsL u k))]) := by
  rw [Falls_call x hx, fallsR, use_true hu hk, errQ_ok hc hT, if_pos rfl]; rfl
theorem Kept_0 (hT : x.bk.tr = []) {u k : Nat} (hu : u < 2) (hk : k < x.fs.length) : call Cv 29 [x.av, I (u : Nat), I (k : Nat)] = some (.tup [I 0, I 12]) := by
  rw [Kept_call x hx, keptI, use_true hu hk, errQ_none hc hT]; rfl
theorem Kept_1 (hT : x.bk.tr ≠ []) {u k : Nat} (hu : u < 2) (hk : k < x.fs.length) : call Cv 29 [x.av, I (u : Nat), I (k : Nat)] = some (.tup [I (vote (x.bk.keptB u k) x.bk.tr), I 0]) := by
  rw [Kept_call x hx, keptI, use_true hu hk, errQ_ok hc hT]; rfl
theorem Agree_0 (hT : x.bk.tr = []) {d : Nat} (hd : (d : Int) < x.days) : call Cv 28 [x.av, I (d : Nat)] = some (.tup [I 0, I 12]) := by
  rw [Agree_call x hx, agreeI, day_true (check_fine hc) hd, errQ_none hc hT]; rfl
theorem Agree_1 (hT : x.bk.tr ≠ []) {d : Nat} (hd : (d : Int) < x.days) : call Cv 28 [x.av, I (d : Nat)] = some (.tup [I (vote (x.bk.agreeB d) x.bk.tr), I 0]) := by
  rw [Agree_call x hx, agreeI, day_true (check_fine hc) hd, errQ_ok hc hT]; rfl
end
section
variable {x : OB}
theorem av_pur (hx : x.Ok) (σ : St) (n : Nat) : pur σ (n + 2) x.av = some (x.av, false) := by
  have p1 := hx.fr.pur
  have p2 := hx.q0.pur
  have p3 := hx.q1.pur
  have p4 := hx.nr.pur
  simp [OB.av, OB.cells, pur, purAll, p1, p2, p3, p4]
theorem x_box (hx : x.Ok) : boxA {} x.av = some (.box 0 0, { boxes := [x.cells] }) := by
  have p1 := hx.fr.cell
  have p2 := hx.q0.cell
  have p3 := hx.q1.cell
  have p4 := hx.nr.cell
  have hc : (AV.agg x.cells).cells.all AV.isCell = true := by
    show x.cells.all AV.isCell = true
    simp [OB.cells, p1, p2, p3, p4]
  show boxA {} (.agg x.cells) = _
  simp only [boxA, hc, if_true]
  rfl
theorem x_load8 (E : List (List AV)) : loadA { boxes := x.cells :: E } (some 8) (.box 0 0) = some x.av := rfl
theorem x_days (E : List (List AV)) : loadA { boxes := x.cells :: E } none (.box 0 0) = some (I x.days) := rfl
theorem x_fr (E : List (List AV)) : loadA { boxes := x.cells :: E } none (.box 0 2) = some x.fr := rfl
theorem x_nr (E : List (List AV)) : loadA { boxes := x.cells :: E } none (.box 0 7) = some x.nr := rfl
theorem turn_nat (n : Int) {b : Int} (h1 : 1 ≤ b) (h2 : b ≤ 100) : ∃ m : Nat, (m : Int) < b ∧ call Cv 14 [I n, I b] = some (I (m : Nat)) := by
  have h := turn_call n b (by omega)
  have hr := turn_range n b h1
  exact ⟨(turnI n b).toNat, by omega, by rw [h, Int.toNat_of_nonneg hr.1]⟩
end
end Go.Ai
