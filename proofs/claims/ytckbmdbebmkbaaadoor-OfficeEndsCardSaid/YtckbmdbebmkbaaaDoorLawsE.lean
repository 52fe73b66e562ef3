/- This text shows the law of what can be noted, in the interpreter. No conditions of its own. -/
import Derived.Test.YtckbmdbebmkbaaaDoorHelpG
import Derived.Test.YtckbmdbebmkbaaaDoorCodesL3
set_option linter.unusedSimpArgs false
set_option linter.unusedVariables false
set_option maxRecDepth 100000
namespace Go.Ai
open Go.Office (Ft Rl Us Nt Bk allI mem_allI fitN more_any fits_mem day_can)
def head3_0 (u d : Int) (rc : AV) (f : Int) : Env := mkE 202 .any [(11, I f), (7, rc), (6, I d), (5, I u), (3, .box 1 0), (2, .box 0 0)]
theorem loop3_0 (x : OB) (hx : x.Ok) (hk : checkB x = true) (hT : x.bk.tr ≠ []) (h4 : x.ns.length < 4) (A : List AV) {u d : Nat} (hu : u < 2) (hd : (d : Int) < x.days) (rc : AV) (hr : IsRow 1 (ints (allI (x.bk.chiefsL u d))) rc) : ∀ (n : Nat) (f : Int), f + n = x.fs.length → -1 ≤ f →
    ∃ L, run Cv 3 (.loop keep3_0 body3_0) (head3_0 u d rc f) { boxes := [x.cells, A] } = some (.ex 0, mkE 202 .any L, { boxes := [x.cells, A] }) ∧ gt (mkE 202 .any L) 2 = .box 0 0 ∧ gt (mkE 202 .any L) 3 = .box 1 0 ∧ gt (mkE 202 .any L) 7 = rc
  | 0, f, hf, h1 => by
    have hf' : f = x.fs.length := by omega
    subst hf'
    have l1 := x_fr (x := x)
    have hl := flen hx
    rw [run_loop]
    simp (maxSteps := 10000000) [-List.getD_eq_getElem?_getD, -loadA, body3_0, keep3_0, head3_0, l1, hl]
    exact ⟨_, rfl, by simp (maxSteps := 10000000) [-List.getD_eq_getElem?_getD, ], by simp (maxSteps := 10000000) [-List.getD_eq_getElem?_getD, ], by simp (maxSteps := 10000000) [-List.getD_eq_getElem?_getD, ]⟩
  | n + 1, f, hf, h1 => by
    have fx := check_fine hk
    obtain ⟨d1, d6, n4⟩ := dim fx
    have hlt : f < (x.fs.length : Int) := by omega
    have l0 := x_load8 (x := x)
    have l1 := x_fr (x := x)
    have hl := flen hx
    have hp := av_pur hx
    have c1 := note_call u d f
    have hnb : noteB x ⟨u, d, f⟩ = true := by
      have w1 : IntKind.wrap .i64 (x.days - 1) = x.days - 1 := wrap_small (by omega) (by omega)
      have w2 : IntKind.wrap .i64 ((x.fs.length : Int) - 1) = x.fs.length - 1 := wrap_small (by omega) (by omega)
      simp only [noteB, Bool.and_eq_true, lie_iff, w1, w2]
      omega
    have c2 := Fits_1 hx hk hT hnb
    have c3 := with_call x hx (by omega) ⟨u, d, f⟩
    have hyo := more_ok hx (by omega) ⟨u, d, f⟩
    have hyk := more_check hk h4 hnb
    have c4 := Right_1 hyo hyk
    have hyp := av_pur hyo
    have e1 : (!(x.more ⟨u, d, f⟩).bk.tr.isEmpty) = x.bk.tr.any (fitN x.bk ⟨u, d, f⟩) := (more_any x.bk ⟨u, d, f⟩).symm
    have e2 : x.bk.tr.any (fitB x ⟨u, d, f⟩) = x.bk.tr.any (fitN x.bk ⟨u, d, f⟩) := rfl
    have e3 : x.bk.tr.any (fitN x.bk ⟨u, d, f⟩) = decide (f ∈ x.bk.chiefsL u d) := by
      rw [fits_mem]
      simp only [Int.toNat_natCast]
    rw [e1, e3] at c4
    rw [e2, e3] at c2
    have hlen : (allI (x.bk.chiefsL u d)).length < 1000 := Nat.lt_of_le_of_lt (allI_len hk _) (by decide)
    have c5 := where_call _ rc hr (by omega) f
    have hiw := idx_nonneg f (allI (x.bk.chiefsL u d)) 0
    have e4 : decide (f ∈ allI (x.bk.chiefsL u d)) = decide (f ∈ x.bk.chiefsL u d) := decide_eq_decide.2 mem_allI
    rw [e4] at hiw
    have hrp := hr.pur
    have hru := hr.under
    have hnp : ∀ σ k, pur σ (k + 4) (ntA ⟨u, d, f⟩) = some (ntA ⟨u, d, f⟩, false) := fun _ _ => rfl
    have w3 : IntKind.wrap .i64 (f + 1) = f + 1 := wrap_small (by omega) (by omega)
    have hcut := fun e => cut_self { boxes := [x.cells, A] } e (by simp) (by simp)
    obtain ⟨L, ih, g⟩ := loop3_0 x hx hk hT h4 A hu hd rc hr n (f + 1) (by omega) (by omega)
    refine ⟨L, ?_, g⟩
    generalize decide (f ∈ x.bk.chiefsL u d) = v at *
    generalize idx f (allI (x.bk.chiefsL u d)) 0 = ix at *
    generalize (x.more ⟨u, d, f⟩).av = ya at *
    generalize ntA ⟨u, d, f⟩ = na at *
    rw [← ih, run_loop]
    generalize MC.loop keep3_0 body3_0 = LL
    cases v with
    | true =>
      rw [decide_eq_true_iff] at hiw
      simp (maxSteps := 10000000) [-List.getD_eq_getElem?_getD, -loadA, -cut, -List.all_eq_true, body3_0, keep3_0, head3_0, l0, l1, hl, hlt, hp, c1, c2, c3, c4, hyp, c5, hiw, hrp, hnp, w3, hcut]
    | false =>
      rw [decide_eq_false_iff_not] at hiw
      simp (maxSteps := 10000000) [-List.getD_eq_getElem?_getD, -loadA, -cut, -List.all_eq_true, body3_0, keep3_0, head3_0, l0, l1, hl, hlt, hp, c1, c2, c3, c4, hyp, c5, hiw, hrp, hnp, w3, hcut]
def pc3 (x : OB) (w : AV) : List AV := [I x.days, I x.first, w, x.q0, .bool x.g0, x.q1, .bool x.g1, x.nr]
theorem touch3_callA {x : OB} (hx : x.Ok) {fs : List Ft} {v : AV} (hc : call Cv 19 [.agg (pc3 x (.sl 3 (fs.map ftA) .no))] = some v) (hv : fo depth v = true) {σ : St} (h : σ.boxes[4]? = some (flat fs)) :
    callA Cv (run Cv) false (.fn (.func 19) [] []) [.agg (pc3 x (.wsl 4 0 fs.length 3 true))] σ = some (v, σ) := by
  have q2 := hx.q0.pur
  have q3 := hx.q1.pur
  have q4 := hx.nr.pur
  have h1 : pur σ 12 (.agg (pc3 x (.wsl 4 0 fs.length 3 true))) = some (.agg (pc3 x (.sl 3 (fs.map ftA) .no)), true) := by
    have h2 := wr_pur h 9
    generalize AV.wsl 4 0 fs.length 3 true = w at *
    simp [pc3, pur, purAll, h2, q2, q3, q4]
  have hpu : purAll (pur σ 12) ([] ++ [.agg (pc3 x (.wsl 4 0 fs.length 3 true))] ++ []) = some ([.agg (pc3 x (.sl 3 (fs.map ftA) .no))], true) := by
    simp only [List.nil_append, List.append_nil, purAll, h1, Option.bind_some]
    rfl
  rw [ca_none (by rfl), hpu]
  simp only [pureCallA, pureA_call, hc, backA, if_true, hv]
  rfl
def fixF (fs : List Ft) (k : Nat) (hk : k < fs.length) (v : Int) : List Ft := fs.set k { fs[k] with lo := v, hi := v }
theorem fix_right (x : OB) (hx : x.Ok) (hk : checkB x = true) {k : Nat} (h : k < x.fs.length) {v : Int} (hv : v ∈ x.bk.daysL k) (h0 : 0 ≤ v) (h1 : v < x.days) : call Cv 19 [.agg (pc3 x (.sl 3 ((fixF x.fs k h v).map ftA) .no))] = some (.tup [.bool true, I 0]) := by
  have fx := check_fine hk
  obtain ⟨d1, d6, n4⟩ := dim fx
  have hl : (fixF x.fs k h v).length = x.fs.length := by simp [fixF]
  obtain ⟨y, hy⟩ : ∃ y, y = x.fst (fixF x.fs k h v) (.sl 3 ((fixF x.fs k h v).map ftA) .no) x.ns x.nr := ⟨_, rfl⟩
  have hyo : y.Ok := by rw [hy]; exact fst_ok hx (.inr (.inr ⟨.no, rfl, rfl⟩)) hx.nr (by rw [hl]; exact hx.lf) hx.ln
  have hyk : checkB y = true := by
    rw [hy]
    refine fst_check hk _ _ (by omega) fx.n4 (fun g hg => ?_) (fun n hn => ?_)
    · obtain ⟨i, hi⟩ := List.mem_iff_getElem?.1 hg
      by_cases hik : k = i
      · subst hik
        rw [fixF, List.getElem?_set_self h] at hi
        cases hi
        have := check_feasts hk x.fs[k] (List.getElem_mem _)
        simp only [featB, Bool.and_eq_true, lie_iff, decide_eq_true_eq] at this ⊢
        have w1 : IntKind.wrap .i64 (v - v) = v - v := wrap_small (by omega) (by omega)
        rw [w1]
        omega
      · rw [fixF, List.getElem?_set_ne hik] at hi
        exact check_feasts hk g (List.mem_of_getElem? hi)
    · have e : noteB (x.fst (fixF x.fs k h v) (.sl 3 ((fixF x.fs k h v).map ftA) .no) x.ns x.nr) n = noteB x n := by
        unfold noteB OB.fst
        simp only [hl]
      rw [e]
      exact check_notes hk n hn
  have hb : y.bk = x.bk.fix (fixF x.fs k h v) := by rw [hy]; rfl
  have c := Right_1 hyo hyk
  have hT : y.bk.tr ≠ [] := by rw [hb]; exact day_can (b := x.bk) (f := k) h hv
  have hE : (!y.bk.tr.isEmpty) = true := by
    cases hh : y.bk.tr with
    | nil => exact absurd hh hT
    | cons a l => rfl
  have hyc : y.av = .agg (pc3 x (.sl 3 ((fixF x.fs k h v).map ftA) .no)) := by rw [hy]; rfl
  rw [hE, hyc] at c
  exact c
def head3_1 (k i : Int) : Env := mkE 202 .any [(19, I i), (17, .box 2 0), (16, I k), (2, .box 0 0)]
theorem round3_1 (x : OB) (hx : x.Ok) (hk : checkB x = true) (A : List AV) (hA : ∀ a b c d, A.all (under a b c d 6) = true) {k : Nat} (h : k < x.fs.length) {lo hi : Int} {v : Int} (hv : v ∈ x.bk.daysL k) (h0 : 0 ≤ v) (h1 : v < x.days) (i : Nat) (hi2 : i < 2) (hsel : ixsA 1 (.sl 1 [I lo, I hi] .full) (I i) = some (.rp [I v] 0)) :
    run Cv 3 (.loop keep3_1 body3_1) (head3_1 k i) { boxes := [x.cells, A, [I lo, I hi]] } = run Cv 3 (.loop keep3_1 body3_1) (head3_1 k ((i : Int) + 1)) { boxes := [x.cells, A, [I lo, I hi]] } := by
  have fx := check_fine hk
  obtain ⟨d1, d6, n4⟩ := dim fx
  have hne : x.fs ≠ [] := fun hh => by rw [hh] at h; simp at h
  have hp := av_pur hx
  have l0 := x_load8 (x := x)
  have l1 := x_fr (x := x)
  have hxc := x_cell x hx
  have hlt : (i : Int) < 2 := by omega
  have w1 : IntKind.wrap .i64 ((i : Int) + 1) = (i : Int) + 1 := wrap_small (by omega) (by omega)
  obtain ⟨w, hw⟩ : ∃ w : AV, w = .wsl 4 0 x.fs.length 3 true := ⟨_, rfl⟩
  have hwc : w.isCell = true := by rw [hw]; rfl
  have hwcs : w.cells = [w] := by rw [hw]; rfl
  have happ := wr_app [x.cells, A, [I lo, I hi], x.cells] x.fs hne n4 hx.fr
  have hl4 : ([x.cells, A, [I lo, I hi], x.cells] : List (List AV)).length = 4 := rfl
  rw [hl4, ← hw] at happ
  simp only [List.cons_append, List.nil_append] at happ
  have stx : ∀ (Z Y X : List AV), storeA { boxes := [Z, Y, X, [I 0, I 0, .nils, .nils, .bool false, .nils, .bool false, .nils]] } 8 (.box 3 0) x.av = some { boxes := [Z, Y, X, x.cells] } := fun Z Y X => by
    have h1 : x.av.cells = x.cells := rfl
    have h2 : x.cells.length = 8 := rfl
    have h3 : setAt [I 0, I 0, .nils, .nils, .bool false, .nils, .bool false, .nils] 0 x.cells = x.cells := rfl
    simp [storeA, h1, h2, h3, hxc]
  have st2 : ∀ (Z Y X F : List AV), storeA { boxes := [Z, Y, X, x.cells, F] } 1 (.box 3 2) w = some { boxes := [Z, Y, X, pc3 x w, F] } := fun _ _ _ _ => by
    simp [storeA, hwcs, hwc, pc3, OB.cells, setAt]
  have ldw : ∀ (Z Y X F : List AV), loadA { boxes := [Z, Y, X, pc3 x w, F] } none (.box 3 2) = some w := fun _ _ _ _ => rfl
  have ld8 : ∀ (Z Y X F : List AV), loadA { boxes := [Z, Y, X, pc3 x w, F] } (some 8) (.box 3 0) = some (.agg (pc3 x w)) := fun _ _ _ _ => rfl
  have ldl : ∀ (Z Y : List AV) E, loadA { boxes := Z :: Y :: [I lo, I hi] :: E } none (.box 2 0) = some (I lo) := fun _ _ _ => rfl
  have ldh : ∀ (Z Y : List AV) E, loadA { boxes := Z :: Y :: [I lo, I hi] :: E } none (.box 2 1) = some (I hi) := fun _ _ _ => rfl
  have hix : ixsA 3 w (I (k : Nat)) = some (.box 4 (k * 3)) := by rw [hw]; exact wr_ix 4 x.fs.length h
  have hsr := wr_store2 (B := [x.cells, A, [I lo, I hi], pc3 x w, flat x.fs]) (P := 4) rfl h v
  have hse : [x.cells, A, [I lo, I hi], pc3 x w, flat x.fs].set 4 (flat (x.fs.set k { x.fs[k] with lo := v, hi := v })) = [x.cells, A, [I lo, I hi], pc3 x w, flat (fixF x.fs k h v)] := rfl
  rw [hse] at hsr
  have hlfx : (fixF x.fs k h v).length = x.fs.length := by simp [fixF]
  have hcr := touch3_callA hx (fs := fixF x.fs k h v) (fix_right x hx hk h hv h0 h1) rfl (σ := { boxes := [x.cells, A, [I lo, I hi], pc3 x w, flat (fixF x.fs k h v)] }) rfl
  rw [hlfx, ← hw] at hcr
  have co := only_call v
  have hfe : ∀ a b : Int, fillE 1 false [(0, I a), (1, I b)] [I 0, I 0] = some [I a, I b] := fun a b => by simp [fillE, depth, AV.isAgg]
  have hrp : List.replicate 2 (I 0) = [I 0, I 0] := rfl
  have hfe0 : fillE 3 true [] [] = some [] := rfl
  have hrp0 : ∀ v : AV, List.replicate 0 v = [] := fun _ => rfl
  have hlr : ∀ (σ : St) (n : Int), loadA σ none (.rp [I n] 0) = some (I n) := fun _ _ => rfl
  have hcut : ∀ (F : List (List AV)) (e : Env), e.all (under 3 0 0 0 6) = true → cut { boxes := [x.cells, A, [I lo, I hi]] } { boxes := x.cells :: A :: [I lo, I hi] :: F } e = { boxes := [x.cells, A, [I lo, I hi]] } := fun F e he => by
    have := cut_add [x.cells, A, [I lo, I hi]] F e (by
      have u1 := x_under hx 3 0 0 0 5
      have u2 := hA 3 0 0 0
      have u3 : ([I lo, I hi] : List AV).all (under 3 0 0 0 6) = true := rfl
      simp only [List.length_cons, List.length_nil, List.all_cons, List.all_nil, u1, u2, Bool.and_true]
      exact u3) he
    exact this
  generalize flat (fixF x.fs k h v) = F1 at *
  generalize flat x.fs = F0 at *
  rw [run_loop]
  generalize MC.loop keep3_1 body3_1 = LL
  simp (maxSteps := 10000000) [-List.getD_eq_getElem?_getD, -ixsA, -loadA, -storeA, -cut, -List.all_eq_true, body3_1, keep3_1, head3_1, hlt, l0, l1, hp, stx, hfe0, hrp0, happ, st2, ldw, ld8, ldl, ldh, hfe, hrp, hsel, hlr, co, hix, hsr, hcr, w1]
  rw [hcut]
  simp (maxSteps := 10000000) [-List.getD_eq_getElem?_getD, ]
theorem loop3_1 (x : OB) (hx : x.Ok) (hk : checkB x = true) (A : List AV) (hA : ∀ a b c d, A.all (under a b c d 6) = true) {k : Nat} (h : k < x.fs.length) {lo hi : Int} (hlo : lo ∈ x.bk.daysL k) (hhi : hi ∈ x.bk.daysL k) (h0 : 0 ≤ lo) (h1 : lo < x.days) (h2 : 0 ≤ hi) (h3 : hi < x.days) : ∃ L, run Cv 3 (.loop keep3_1 body3_1) (head3_1 k 0) { boxes := [x.cells, A, [I lo, I hi]] } = some (.ex 2, mkE 202 .any L, { boxes := [x.cells, A, [I lo, I hi]] }) := by
  have r0 := round3_1 x hx hk A hA h (lo := lo) (hi := hi) hlo h0 h1 0 (by omega) rfl
  have r1 := round3_1 x hx hk A hA h (lo := lo) (hi := hi) hhi h2 h3 1 (by omega) rfl
  have e0 : ((0 : Nat) : Int) = 0 := rfl
  have e1 : ((1 : Nat) : Int) = 1 := rfl
  have e2 : (0 : Int) + 1 = 1 := rfl
  have e3 : (1 : Int) + 1 = 2 := rfl
  rw [e0, e2] at r0
  rw [e1, e3] at r1
  rw [r0, r1, run_loop]
  simp (maxSteps := 10000000) [-List.getD_eq_getElem?_getD, body3_1, keep3_1, head3_1]
  exact ⟨_, rfl⟩
end Go.Ai

set_option maxRecDepth 100000
namespace Go.Ai
open Go.Office (Ft Rl Us Nt Bk allI mem_allI allI_up ends days_in chief_range chiefs_none)
set_option maxHeartbeats 1000000 in
theorem ends_law (x : OB) (hx : x.Ok) (a b c : Int) : call Cv 3 [x.av, .agg [I a, I b, I c]] = some (.bool true) := by
  have hsm := sound_call x hx
  have hs := chanted_call
  have hp := av_pur hx
  have hbox := x_box hx
  have hbox2 : boxA { boxes := [x.cells] } (.agg [I a, I b, I c]) = some (.box 1 0, { boxes := [x.cells, [I a, I b, I c]] }) := rfl
  have l0 := x_load8 (x := x)
  have l1 := x_fr (x := x)
  have l2 := x_days (x := x)
  have l7 := x_nr (x := x)
  have hl := flen hx
  have hnl := nlen hx
  cases hk : checkB x with
  | false =>
    rw [hk] at hsm
    rw [call_run comp3 (Nat.le_of_ble_eq_true rfl)]
    simp (maxSteps := 10000000) [-List.getD_eq_getElem?_getD, -boxA, -loadA, code3, hbox, hbox2, l0, l7, hnl, hp, hsm, hs]
  | true =>
    rw [hk] at hsm
    have fx := check_fine hk
    obtain ⟨d1, d6, n4⟩ := dim fx
    have m4 := fx.n4
    by_cases hz : x.ns.length = 4
    · have hz' : (x.ns.length : Int) = 4 := by omega
      rw [hz'] at hnl
      rw [call_run comp3 (Nat.le_of_ble_eq_true rfl)]
      simp (maxSteps := 10000000) [-List.getD_eq_getElem?_getD, -boxA, -loadA, code3, hbox, hbox2, l0, l7, hnl, hp, hsm, hs]
    · have hz' : ((x.ns.length : Int) == 4) = false := by rw [beq_eq_false_iff_ne]; omega
      obtain ⟨u, u1, t1⟩ := turn_nat a (b := 2) (by omega) (by omega)
      obtain ⟨d, e1, t2⟩ := turn_nat b (b := x.days) (by omega) (by omega)
      have u2 : u < 2 := by omega
      have g0 : ∀ Z E, loadA { boxes := Z :: [I a, I b, I c] :: E } none (.box 1 0) = some (I a) := fun _ _ => rfl
      have g1 : ∀ Z E, loadA { boxes := Z :: [I a, I b, I c] :: E } none (.box 1 1) = some (I b) := fun _ _ => rfl
      have g2 : ∀ Z E, loadA { boxes := Z :: [I a, I b, I c] :: E } none (.box 1 2) = some (I c) := fun _ _ => rfl
      have hnp : ∀ (n : Nt) σ k, pur σ (k + 4) (ntA n) = some (ntA n, false) := fun _ _ _ => rfl
      have cn := note_call u d (-1)
      by_cases hT : x.bk.tr = []
      · obtain ⟨r, g, c1⟩ := Chief_0 hx hk hT u2 e1
        have hrp := g.pur
        have hrl := row_len g
        have e0 : (([] : List Int).length : Int) = 0 := rfl
        rw [e0] at hrl
        have hnb : noteB x ⟨u, d, -1⟩ = true := by
          have w1 : IntKind.wrap .i64 (x.days - 1) = x.days - 1 := wrap_small (by omega) (by omega)
          have w2 : IntKind.wrap .i64 ((x.fs.length : Int) - 1) = x.fs.length - 1 := wrap_small (by omega) (by omega)
          simp only [noteB, Bool.and_eq_true, lie_iff, w1, w2]
          omega
        have c2 := Fits_0 hx hk hT hnb
        have hnp' := hnp ⟨u, d, -1⟩
        generalize ntA ⟨u, d, -1⟩ = na at *
        rw [call_run comp3 (Nat.le_of_ble_eq_true rfl)]
        simp (maxSteps := 10000000) [-List.getD_eq_getElem?_getD, -boxA, -loadA, code3, hbox, hbox2, l0, l2, l7, hnl, hp, hsm, hs, hz', g0, g1, t1, t2, c1, c2, cn, hnp', hrp, hrl]
      · obtain ⟨r, g, c1⟩ := Chief_1 hx hk hT u2 e1
        have hrp := g.pur
        have len1 : (allI (x.bk.chiefsL u d)).length < 1000 := Nat.lt_of_le_of_lt (allI_len hk _) (by decide)
        have ne1 : allI (x.bk.chiefsL u d) ≠ [] := all_some (by unfold Bk.chiefsL; simpa using hT)
        have rg : ∀ v ∈ allI (x.bk.chiefsL u d), -1 ≤ v ∧ v ≤ (x.fs.length : Int) - 1 := fun v hv => by
          obtain ⟨q, hq, rfl⟩ := List.mem_map.1 (mem_allI.1 hv)
          have := chief_range (b := x.bk) (q := q) (u := u) (d := d) e1
          have e : x.bk.fs.length = x.fs.length := rfl
          omega
        have cg := grown_call _ r g len1 x.fs.length (by omega) (by omega) (allI_up _) rg ne1
        obtain ⟨La, la, a2, a3, a7⟩ := loop3_0 x hx hk hT (by omega) [I a, I b, I c] u2 e1 r g (x.fs.length + 1) (-1) (by omega) (Int.le_refl _)
        have la' := fun E (hE : mask keep3_0 E = _) => run_at la hE
        simp only [keep3_0, head3_0] at la'
        by_cases hf : x.fs.length = 0
        · have hf' : (x.fs.length : Int) = 0 := by omega
          have hfe0 : x.bk.fs = [] := List.eq_nil_of_length_eq_zero hf
          rw [chiefs_none (b := x.bk) hfe0 hT e1] at g
          have eq1 := equal_call [-1] [-1] r (.sl 1 (ints [-1]) .full) g (.inr (.inr ⟨.full, rfl, rfl⟩)) (by decide) (by decide)
          have i1 : ints [-1] = [I (-1)] := rfl
          have dc : decide (([-1] : List Int) = [-1]) = true := by decide
          rw [i1, dc] at eq1
          have hfe : ∀ n : Int, fillE 1 false [(0, I n)] [I 0] = some [I n] := fun n => by simp [fillE, depth, AV.isAgg]
          have hrp1 : List.replicate 1 (I 0) = [I 0] := rfl
          rw [hf'] at hl cg
          rw [call_run comp3 (Nat.le_of_ble_eq_true rfl)]
          simp (maxSteps := 10000000) [-List.getD_eq_getElem?_getD, -boxA, -loadA, code3, hbox, hbox2, l0, l1, l2, l7, hl, hnl, hp, hsm, hs, hz', g0, g1, t1, t2, c1, hrp, cg, keep3_0, la', a2, a3, a7, hfe, hrp1, eq1]
        · have hf' : ((x.fs.length : Int) == 0) = false := by rw [beq_eq_false_iff_ne]; omega
          obtain ⟨k, k1, t3⟩ := turn_nat c (b := x.fs.length) (by omega) (by omega)
          have k2 : k < x.fs.length := by omega
          have c2 := Day_1 hx hk hT k2
          have hdi := days_in (b := x.bk) (f := k) k2 hT
          have hfs := fx.bk.fs (x.bk.fs[k]'k2) (List.getElem_mem _)
          have hD : x.bk.D = x.days := rfl
          obtain ⟨flo, hflo⟩ : ∃ flo, flo = (x.fs[k]'k2).lo := ⟨_, rfl⟩
          obtain ⟨fhi, hfhi⟩ : ∃ fhi, fhi = (x.fs[k]'k2).hi := ⟨_, rfl⟩
          have hb1 : (x.bk.fs[k]'k2).lo = flo := hflo.symm
          have hb2 : (x.bk.fs[k]'k2).hi = fhi := hfhi.symm
          rw [hb1, hb2] at hdi hfs
          rw [hD] at hfs
          obtain ⟨z1, z2, z3, z4, z5⟩ := hdi
          have hlp := loop3_1 x hx hk [I a, I b, I c] (fun _ _ _ _ => rfl) k2 z4 z5 (by omega) (by omega) (by omega) (by omega)
          have cu := under_call (ends (x.bk.daysL k)).1 (ends (x.bk.daysL k)).2 flo fhi
          have cub : (decide (flo ≤ (ends (x.bk.daysL k)).1) && decide ((ends (x.bk.daysL k)).2 ≤ fhi)) = true := by simp; omega
          rw [cub] at cu
          generalize ends (x.bk.daysL k) = en at *
          obtain ⟨lo, hi⟩ := en
          simp only at *
          obtain ⟨Lb, lb⟩ := hlp
          have lb' := fun E (hE : mask keep3_1 E = _) => run_at lb hE
          simp only [keep3_1, head3_1] at lb'
          have hixx := f_ix hx k2
          have hlx : ∀ σ : St, loadA σ (some 2) (.rp (ftC x.fs[k]) 0) = some (.agg [I flo, I fhi]) := fun σ => by rw [hflo, hfhi]; rfl
          have st2 : ∀ (Z Y : List AV) (p q : Int), storeA { boxes := [Z, Y, [I 0, I 0]] } 2 (.box 2 0) (.agg [I p, I q]) = some { boxes := [Z, Y, [I p, I q]] } := fun _ _ _ _ => rfl
          have ld2 : ∀ (Z Y : List AV) (p q : Int), loadA { boxes := [Z, Y, [I p, I q]] } (some 2) (.box 2 0) = some (.agg [I p, I q]) := fun _ _ _ _ => rfl
          have ldl : ∀ (Z Y : List AV) (p q : Int), loadA { boxes := [Z, Y, [I p, I q]] } none (.box 2 0) = some (I p) := fun _ _ _ _ => rfl
          have ldh : ∀ (Z Y : List AV) (p q : Int), loadA { boxes := [Z, Y, [I p, I q]] } none (.box 2 1) = some (I q) := fun _ _ _ _ => rfl
          have hng : ¬ hi < lo := by omega
          generalize x.fs[k] = xf at *
          rw [call_run comp3 (Nat.le_of_ble_eq_true rfl)]
          simp (maxSteps := 10000000) [-List.getD_eq_getElem?_getD, -boxA, -loadA, -storeA, -ixsA, code3, hbox, hbox2, l0, l1, l2, l7, hl, hnl, hp, hsm, hs, hz', hf', g0, g1, g2, t1, t2, t3, c1, c2, hrp, cg, keep3_0, keep3_1, la', a2, a3, a7, st2, ld2, ldl, ldh, hng, hixx, hlx, cu, lb']
end Go.Ai
