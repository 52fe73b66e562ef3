/- This text shows the law of a great feast, in the interpreter. No conditions of its own. -/
import Derived.Test.YtckbmdbebmkbaaaDoorHelpF
import Derived.Test.YtckbmdbebmkbaaaDoorHelpE
import Derived.Test.YtckbmdbebmkbaaaDoorPlainF
import Derived.Test.YtckbmdbebmkbaaaDoorCodesL6
set_option linter.unusedSimpArgs false
set_option linter.unusedVariables false
set_option maxRecDepth 100000
namespace Go.Ai
open Go.Office (Ft Rl Us Nt Bk)
def rkG (f : Ft) : Ft := { f with rank := turnI f.rank 3 }
def gk (fs : List Ft) (k : Nat) : List Ft := (fs.take k).map rkG ++ fs.drop k
theorem gk_len (fs : List Ft) (k : Nat) : (gk fs k).length = fs.length := by simp [gk]; omega
theorem gk_at (fs : List Ft) {k : Nat} (hk : k < fs.length) (h : k < (gk fs k).length) : (gk fs k)[k] = fs[k] := by
  have hl : ((fs.take k).map rkG).length = k := by simp; omega
  simp only [gk]
  rw [List.getElem_append_right (by omega)]
  have e2 : k + (k - min k fs.length) = k := by omega
  simp [e2]
theorem gk_step (fs : List Ft) {k : Nat} (hk : k < fs.length) (h : k < (gk fs k).length) : (gk fs k).set k { (gk fs k)[k] with rank := turnI fs[k].rank 3 } = gk fs (k + 1) := by
  have hl : ((fs.take k).map rkG).length = k := by simp; omega
  rw [gk_at fs hk h]
  unfold gk
  rw [List.set_append_right _ _ (by omega), hl, Nat.sub_self, List.drop_eq_getElem_cons hk, List.set_cons_zero, List.take_succ_eq_append_getElem hk, List.map_append]
  simp [rkG]
theorem gk_zero (fs : List Ft) : gk fs 0 = fs := by simp [gk]
theorem gk_all (fs : List Ft) : gk fs fs.length = fs.map rkG := by simp [gk]
def pc6 (x : OB) (w : AV) : List AV := [I x.days, I x.first, w, x.q0, .bool x.g0, x.q1, .bool x.g1, .nils]
def head6_0 (f u k : Int) : Env := mkE 174 .any [(8, I k), (7, .box 2 0), (6, I u), (5, I f), (2, .box 0 0)]
theorem loop6_0 (x : OB) (h4 : x.fs.length ≤ 4) (A : List AV) (f u : Int) : ∀ (n k : Nat), k + n = x.fs.length →
    ∃ L, run Cv 6 (.loop keep6_0 body6_0) (head6_0 f u k) { boxes := [x.cells, A, pc6 x (.wsl 3 0 x.fs.length 3 true), flat (gk x.fs k)] } = some (.ex 0, mkE 174 .any L, { boxes := [x.cells, A, pc6 x (.wsl 3 0 x.fs.length 3 true), flat (gk x.fs x.fs.length)] }) ∧ gt (mkE 174 .any L) 2 = .box 0 0 ∧ gt (mkE 174 .any L) 5 = I f ∧ gt (mkE 174 .any L) 6 = I u ∧ gt (mkE 174 .any L) 7 = .box 2 0
  | 0, k, hk => by
    have hk' : k = x.fs.length := by omega
    subst hk'
    have hld : ∀ (Z Y F : List AV) w, loadA { boxes := [Z, Y, pc6 x w, F] } none (.box 2 2) = some w := fun _ _ _ _ => rfl
    have hlen : lenA (.wsl 3 0 x.fs.length 3 true) = some (I x.fs.length) := rfl
    rw [run_loop]
    simp (maxSteps := 10000000) [-List.getD_eq_getElem?_getD, -loadA, body6_0, keep6_0, head6_0, hld, hlen]
    exact ⟨_, rfl, by simp (maxSteps := 10000000) [-List.getD_eq_getElem?_getD, ], by simp (maxSteps := 10000000) [-List.getD_eq_getElem?_getD, ], by simp (maxSteps := 10000000) [-List.getD_eq_getElem?_getD, ], by simp (maxSteps := 10000000) [-List.getD_eq_getElem?_getD, ]⟩
  | n + 1, k, hk => by
    have hlt : k < x.fs.length := by omega
    have hlt' : (k : Int) < (x.fs.length : Int) := by omega
    have hz : k < (gk x.fs k).length := by rw [gk_len]; exact hlt
    have w1 : IntKind.wrap .i64 ((k : Int) + 1) = ((k + 1 : Nat) : Int) := by rw [wrap_small (by omega) (by omega)]; omega
    have hld : ∀ (Z Y F : List AV) w, loadA { boxes := [Z, Y, pc6 x w, F] } none (.box 2 2) = some w := fun _ _ _ _ => rfl
    have hlen : lenA (.wsl 3 0 x.fs.length 3 true) = some (I x.fs.length) := rfl
    have hix := wr_ix 3 x.fs.length hlt
    have hrk := wr_load (B := [x.cells, A, pc6 x (.wsl 3 0 x.fs.length 3 true), flat (gk x.fs k)]) (P := 3) rfl hz { boxes := [x.cells, A, pc6 x (.wsl 3 0 x.fs.length 3 true), flat (gk x.fs k)] } rfl
    rw [gk_at x.fs hlt hz] at hrk
    have ht := turn_call x.fs[k].rank 3 (by decide)
    have hst := wr_store (B := [x.cells, A, pc6 x (.wsl 3 0 x.fs.length 3 true), flat (gk x.fs k)]) (P := 3) rfl hz (turnI x.fs[k].rank 3)
    rw [gk_step x.fs hlt hz] at hst
    have hse : [x.cells, A, pc6 x (.wsl 3 0 x.fs.length 3 true), flat (gk x.fs k)].set 3 (flat (gk x.fs (k + 1))) = [x.cells, A, pc6 x (.wsl 3 0 x.fs.length 3 true), flat (gk x.fs (k + 1))] := rfl
    rw [hse] at hst
    have hcut : ∀ (F : List AV) e, cut { boxes := [x.cells, A, pc6 x (.wsl 3 0 x.fs.length 3 true), F] } { boxes := [x.cells, A, pc6 x (.wsl 3 0 x.fs.length 3 true), flat (gk x.fs (k + 1))] } e = { boxes := [x.cells, A, pc6 x (.wsl 3 0 x.fs.length 3 true), flat (gk x.fs (k + 1))] } := fun F e => cut_size _ _ e rfl rfl rfl rfl (by simp) (by simp)
    obtain ⟨L, ih, g⟩ := loop6_0 x h4 A f u n (k + 1) (by omega)
    refine ⟨L, ?_, g⟩
    rw [← ih, run_loop]
    generalize MC.loop keep6_0 body6_0 = LL
    generalize ((k + 1 : Nat) : Int) = K at *
    generalize turnI x.fs[k].rank 3 = tv at *
    generalize x.fs[k].rank = rv at *
    simp (maxSteps := 10000000) [-List.getD_eq_getElem?_getD, -ixsA, -loadA, -storeA, -cut, -List.all_eq_true, body6_0, keep6_0, head6_0, hld, hlen, hlt', hix, hrk, ht, hst, w1, hcut]
theorem touch_callA {x : OB} (hx : x.Ok) {fs : List Ft} {g : Nat} (himp : Cv.imp g = false) {args : List AV} (hp : ∀ σ, purAll (pur σ 12) args = some (args, false)) {v : AV} (hc : call Cv g (.agg (pc6 x (.sl 3 (fs.map ftA) .no)) :: args) = some v) {σ : St} (h : σ.boxes[3]? = some (flat fs)) :
    callA Cv (run Cv) false (.fn (.func g) [] []) (.agg (pc6 x (.wsl 3 0 fs.length 3 true)) :: args) σ = some (v, if fo depth v then σ else { σ with ro := σ.boxes.length, mro := σ.maps.length }) := by
  have q2 := hx.q0.pur
  have q3 := hx.q1.pur
  have h1 : pur σ 12 (.agg (pc6 x (.wsl 3 0 fs.length 3 true))) = some (.agg (pc6 x (.sl 3 (fs.map ftA) .no)), true) := by
    have h2 := wr_pur h 9
    generalize AV.wsl 3 0 fs.length 3 true = w at *
    simp [pc6, pur, purAll, h2, q2, q3]
  have hpu : purAll (pur σ 12) ([] ++ (.agg (pc6 x (.wsl 3 0 fs.length 3 true)) :: args) ++ []) = some (.agg (pc6 x (.sl 3 (fs.map ftA) .no)) :: args, true) := by
    simp only [List.nil_append, List.append_nil, purAll, h1, hp σ, Option.bind_some]
    rfl
  rw [ca_none himp, hpu]
  simp only [pureCallA, pureA_call, hc, backA, if_true]
  rfl
end Go.Ai

set_option maxRecDepth 100000
namespace Go.Ai
open Go.Office (Ft Rl Us Nt Bk vote allI mem_allI)
def head6_1 (f u d : Int) : Env := mkE 174 .any [(15, I d), (9, .box 4 0), (7, .box 2 0), (6, I u), (5, I f), (2, .box 0 0)]
structure GDay (x : OB) (BX : List (List AV)) (w : AV) (u f d : Nat) (lo hi : Int) : Prop where
  ex : ∃ (lc lp : List Int) (rc rp : AV), IsRow 1 (ints lc) rc ∧ IsRow 1 (ints lp) rp ∧ lc.length < 1000 ∧ lp.length < 1000 ∧
    (∀ r, callA Cv (run Cv) false (.fn (.func 15) [] []) [.agg (pc6 x w), I (u : Nat), I (d : Nat)] { boxes := BX, ro := r } = some (.tup [rc, I 0], { boxes := BX, ro := 6 })) ∧
    (∀ r, callA Cv (run Cv) false (.fn (.func 27) [] []) [.agg (pc6 x w), I (u : Nat), I (d : Nat)] { boxes := BX, ro := r } = some (.tup [rp, I 0], { boxes := BX, ro := 6 })) ∧
    ((f : Int) ∈ lc ↔ lo ≤ d ∧ (d : Int) ≤ hi) ∧ (lo = d → hi = d → lc = [(f : Int)] ∧ lp = [-1])
theorem loop6_1 (x : OB) (d6 : x.days ≤ 6) (A F2 : List AV) (w : AV) (u f : Nat) (lo hi : Int) (G : ∀ d : Nat, (d : Int) < x.days → GDay x [x.cells, A, pc6 x w, F2, [I lo, I hi], [I lo, I hi]] w u f d lo hi) : ∀ (n d r : Nat), (d : Int) + n = x.days → r ≤ 6 →
    ∃ L r', run Cv 6 (.loop keep6_1 body6_1) (head6_1 f u d) { boxes := [x.cells, A, pc6 x w, F2, [I lo, I hi], [I lo, I hi]], ro := r } = some (.ex 2, mkE 174 .any L, { boxes := [x.cells, A, pc6 x w, F2, [I lo, I hi], [I lo, I hi]], ro := r' })
  | 0, d, r, hd, hr => by
    have hlt : ¬ (d : Int) < x.days := by omega
    have l2 : ∀ E r, loadA { boxes := x.cells :: E, ro := r } none (.box 0 0) = some (I x.days) := fun _ _ => rfl
    rw [run_loop]
    simp (maxSteps := 10000000) [-List.getD_eq_getElem?_getD, -loadA, body6_1, keep6_1, head6_1, l2, hlt]
    exact ⟨_, rfl⟩
  | n + 1, d, r, hd, hr => by
    have hlt : (d : Int) < x.days := by omega
    obtain ⟨lc, lp, rc, rp, h1, h2, n1, n2, c1, c2, hm, ho⟩ := (G d hlt).ex
    have l2 : ∀ E r, loadA { boxes := x.cells :: E, ro := r } none (.box 0 0) = some (I x.days) := fun _ _ => rfl
    have l8 : ∀ (Z Y : List AV) E r, loadA { boxes := Z :: Y :: pc6 x w :: E, ro := r } (some 8) (.box 2 0) = some (.agg (pc6 x w)) := fun _ _ _ _ => rfl
    have l4 : ∀ (Z Y X W V : List AV) r, loadA { boxes := [Z, Y, X, W, [I lo, I hi], V], ro := r } (some 2) (.box 4 0) = some (.agg [I lo, I hi]) := fun _ _ _ _ _ _ => rfl
    have w1 : IntKind.wrap .i64 ((d : Int) + 1) = ((d + 1 : Nat) : Int) := by rw [wrap_small (by omega) (by omega)]; omega
    have hcut : ∀ e, cut { boxes := [x.cells, A, pc6 x w, F2, [I lo, I hi], [I lo, I hi]], ro := r } { boxes := [x.cells, A, pc6 x w, F2, [I lo, I hi], [I lo, I hi]], ro := 6 } e = { boxes := [x.cells, A, pc6 x w, F2, [I lo, I hi], [I lo, I hi]], ro := 6 } := fun e => cut_size _ _ e rfl rfl rfl rfl (by simp) (by simp)
    have p1 := h1.pur
    have p2 := h2.pur
    have cw := where_call lc rc h1 (by omega) f
    have hiw := idx_nonneg f lc 0
    have cc := covers_call lo hi d
    have co := only_call d
    have hbeq : (decide (0 ≤ idx (f : Int) lc 0)) = (decide (lo ≤ (d : Int)) && decide ((d : Int) ≤ hi)) := by
      rw [hiw, Bool.eq_iff_iff, decide_eq_true_iff, hm, Bool.and_eq_true, decide_eq_true_iff, decide_eq_true_iff]
    have hfe : ∀ n : Int, fillE 1 false [(0, I n)] [I 0] = some [I n] := fun n => by simp [fillE, depth, AV.isAgg]
    have hrp : List.replicate 1 (I 0) = [I 0] := rfl
    obtain ⟨L, r', ih⟩ := loop6_1 x d6 A F2 w u f lo hi G n (d + 1) 6 (by omega) (Nat.le_refl _)
    refine ⟨L, r', ?_⟩
    rw [← ih, run_loop]
    generalize MC.loop keep6_1 body6_1 = LL
    by_cases hod : lo = d ∧ hi = d
    · obtain ⟨o1, o2⟩ := hod
      obtain ⟨q1, q2⟩ := ho o1 o2
      have e1 := equal_call lc [(f : Int)] rc (.sl 1 (ints [(f : Int)]) .full) h1 (.inr (.inr ⟨.full, rfl, rfl⟩)) (by omega) (by simp)
      have e2 := equal_call lp [-1] rp (.sl 1 (ints [-1]) .full) h2 (.inr (.inr ⟨.full, rfl, rfl⟩)) (by omega) (by decide)
      have i1 : ints [(f : Int)] = [I (f : Nat)] := rfl
      have i2 : ints [-1] = [I (-1)] := rfl
      have z1 : decide (lc = [(f : Int)]) = true := by rw [decide_eq_true_iff]; exact q1
      have z2 : decide (lp = [-1]) = true := by rw [decide_eq_true_iff]; exact q2
      rw [i1, z1] at e1
      rw [i2, z2] at e2
      have hcov : (decide (lo ≤ (d : Int)) && decide ((d : Int) ≤ hi)) = true := by simp; omega
      rw [hcov] at cc hbeq
      rw [decide_eq_true_iff] at hbeq
      generalize idx (f : Int) lc 0 = ix at *
      have hl1 : (lo == (d : Int)) = true := by rw [beq_iff_eq]; exact o1
      have hl2 : (hi == (d : Int)) = true := by rw [beq_iff_eq]; exact o2
      generalize ((d + 1 : Nat) : Int) = K at *
      simp (maxSteps := 10000000) [-List.getD_eq_getElem?_getD, -loadA, -cut, -List.all_eq_true, body6_1, keep6_1, head6_1, l2, l8, l4, hlt, c1, c2, p1, p2, cw, cc, co, hbeq, e1, e2, eqCells, hl1, hl2, hfe, hrp, w1, hcut]
    · have hoe : (lo == (d : Int) && hi == (d : Int)) = false := by
        rw [Bool.and_eq_false_iff]
        by_cases h : lo = d
        · right; rw [beq_eq_false_iff_ne]; exact fun h' => hod ⟨h, h'⟩
        · left; rw [beq_eq_false_iff_ne]; exact h
      have hbe2 : ((decide (0 ≤ idx (f : Int) lc 0)) == (decide (lo ≤ (d : Int)) && decide ((d : Int) ≤ hi))) = true := by rw [hbeq]; simp
      generalize (decide (lo ≤ (d : Int)) && decide ((d : Int) ≤ hi)) = cv at *
      generalize idx (f : Int) lc 0 = ix at *
      have hbb : eqCells [I lo, I hi] [I (d : Nat), I (d : Nat)] = some false := by
        have e : eqCells [I lo, I hi] [I (d : Nat), I (d : Nat)] = some (lo == ((d : Nat) : Int) && (hi == ((d : Nat) : Int) && true)) := rfl
        rw [e, Bool.and_true, hoe]
      generalize ((d + 1 : Nat) : Int) = K at *
      cases cv with
      | true =>
        rw [decide_eq_true_iff] at hbeq
        simp (maxSteps := 10000000) [-List.getD_eq_getElem?_getD, -loadA, -cut, -List.all_eq_true, body6_1, keep6_1, head6_1, l2, l8, l4, hlt, c1, c2, p1, p2, cw, cc, co, hbeq, hbb, hfe, hrp, w1, hcut]
      | false =>
        rw [decide_eq_false_iff_not] at hbeq
        simp (maxSteps := 10000000) [-List.getD_eq_getElem?_getD, -loadA, -cut, -List.all_eq_true, body6_1, keep6_1, head6_1, l2, l8, l4, hlt, c1, c2, p1, p2, cw, cc, co, hbeq, hbb, hfe, hrp, w1, hcut]
end Go.Ai

set_option maxRecDepth 100000
namespace Go.Ai
open Go.Office (Ft Rl Us Nt Bk vote allI mem_allI ends no_notes great_list great_kept great_ends great_chief great_only)
def fsG (fs : List Ft) (f : Nat) (h : f < (fs.map rkG).length) : List Ft := (fs.map rkG).set f { (fs.map rkG)[f] with rank := 3 }
theorem fsG_len {fs : List Ft} {f : Nat} (h : f < (fs.map rkG).length) : (fsG fs f h).length = fs.length := by simp [fsG]
theorem fsG_at {fs : List Ft} {f : Nat} (h : f < (fs.map rkG).length) (hf : f < fs.length) : (fsG fs f h)[f]? = some { fs[f] with rank := 3 } := by
  unfold fsG
  rw [List.getElem?_set_self h]
  simp [rkG]
theorem fsG_ne {fs : List Ft} {f i : Nat} (h : f < (fs.map rkG).length) (hi : i ≠ f) : (fsG fs f h)[i]? = (fs[i]?).map rkG := by
  unfold fsG
  rw [List.getElem?_set_ne (Ne.symm hi), List.getElem?_map]
theorem feat_rank {x : OB} {f : Ft} (h : featB x f = true) {r : Int} (h0 : 0 ≤ r) (h3 : r ≤ 3) : featB x { f with rank := r } = true := by
  simp only [featB, Bool.and_eq_true, lie_iff] at h ⊢
  exact ⟨h.1, h.2.1, h.2.2.1, h0, h3⟩
set_option maxHeartbeats 1000000 in
theorem great_law (x : OB) (hx : x.Ok) (a b : Int) : call Cv 6 [x.av, .agg [I a, I b]] = some (.bool true) := by
  have hsm := sound_call x hx
  have hs := chanted_call
  have hp := av_pur hx
  have hbox := x_box hx
  have hbox2 : boxA { boxes := [x.cells] } (.agg [I a, I b]) = some (.box 1 0, { boxes := [x.cells, [I a, I b]] }) := rfl
  have l0 := x_load8 (x := x)
  have l1 := x_fr (x := x)
  have hl := flen hx
  cases hk : checkB x with
  | false =>
    rw [hk] at hsm
    rw [call_run comp6 (Nat.le_of_ble_eq_true rfl)]
    simp (maxSteps := 10000000) [-List.getD_eq_getElem?_getD, -boxA, -loadA, code6, hbox, hbox2, l0, l1, hl, hp, hsm, hs]
  | true =>
    rw [hk] at hsm
    have fx := check_fine hk
    obtain ⟨d1, d6, n4⟩ := dim fx
    by_cases hz : x.fs.length = 0
    · have hz' : (x.fs.length : Int) = 0 := by omega
      rw [hz'] at hl
      rw [call_run comp6 (Nat.le_of_ble_eq_true rfl)]
      simp (maxSteps := 10000000) [-List.getD_eq_getElem?_getD, -boxA, -loadA, code6, hbox, hbox2, l0, l1, hl, hp, hsm, hs]
    · have hz' : ((x.fs.length : Int) == 0) = false := by rw [beq_eq_false_iff_ne]; omega
      have hne : x.fs ≠ [] := fun h => hz (by rw [h]; rfl)
      obtain ⟨f, f1, t1⟩ := turn_nat a (b := x.fs.length) (by omega) (by omega)
      obtain ⟨u, u1, t2⟩ := turn_nat b (b := 2) (by omega) (by omega)
      have u2 : u < 2 := by omega
      have f2 : f < x.fs.length := by omega
      have hfm : f < (x.fs.map rkG).length := by simpa using f2
      obtain ⟨fs2, hfs2⟩ : ∃ fs2, fs2 = fsG x.fs f hfm := ⟨_, rfl⟩
      have hl2 : fs2.length = x.fs.length := by rw [hfs2]; exact fsG_len hfm
      have hat : fs2[f]? = some { x.fs[f] with rank := 3 } := by rw [hfs2]; exact fsG_at hfm f2
      have f3 : f < fs2.length := by omega
      have hat' : fs2[f] = { x.fs[f] with rank := 3 } := by
        rw [List.getElem?_eq_getElem f3] at hat
        exact Option.some.inj hat
      -- the book
      obtain ⟨y, hy⟩ : ∃ y, y = x.fst fs2 (.sl 3 (fs2.map ftA) .no) [] .nils := ⟨_, rfl⟩
      have hyo : y.Ok := by rw [hy]; exact fst_ok hx (.inr (.inr ⟨.no, rfl, rfl⟩)) (.inl ⟨rfl, rfl⟩) (by rw [hl2]; exact hx.lf) (by decide)
      have hyfs : y.fs = fs2 := by rw [hy]; rfl
      have hyd : y.days = x.days := by rw [hy]; rfl
      have hyk : checkB y = true := by
        rw [hy]
        refine fst_check hk _ _ (by omega) (by decide) (fun g hg => ?_) (fun _ h => by cases h)
        obtain ⟨i, hi⟩ := List.mem_iff_getElem?.1 hg
        by_cases hif : i = f
        · subst hif
          rw [hat] at hi
          cases hi
          exact feat_rank (check_feasts hk _ (List.getElem_mem _)) (by decide) (by decide)
        · rw [hfs2, fsG_ne hfm hif, Option.map_eq_some_iff] at hi
          obtain ⟨g', hg', rfl⟩ := hi
          have := turn_range g'.rank 3 (by decide)
          exact feat_rank (check_feasts hk _ (List.mem_of_getElem? hg')) (by omega) (by omega)
      have fy := check_fine hyk
      have hbn : y.bk.ns = [] := by rw [hy]; rfl
      have hbf : f < y.bk.fs.length := by show f < y.fs.length; rw [hyfs]; exact f3
      have hrk : ∀ i, y.bk.rk i = (fs2.getD i default).rank := fun i => by rw [hy]; rfl
      have hrf : y.bk.rk f = 3 := by
        rw [hrk, List.getD_eq_getElem?_getD, hat]; rfl
      have hrr : ∀ i, i ≠ f → i < y.bk.fs.length → y.bk.rk i < y.bk.rk f := fun i hi hil => by
        have hil' : i < x.fs.length := by
          have : i < y.fs.length := hil
          rw [hyfs, hl2] at this
          exact this
        rw [hrf, hrk, List.getD_eq_getElem?_getD, hfs2, fsG_ne hfm hi, List.getElem?_eq_getElem hil']
        have := turn_range x.fs[i].rank 3 (by decide)
        show turnI x.fs[i].rank 3 < 3
        omega
      have hT : y.bk.tr ≠ [] := no_notes (fun g hg => (fy.bk.fs g hg).2.1) hbn
      have hyf2 : f < y.fs.length := by rw [hyfs]; exact f3
      have hgf : y.bk.fs[f] = { x.fs[f] with rank := 3 } := by
        have : y.bk.fs[f]? = some { x.fs[f] with rank := 3 } := by show y.fs[f]? = _; rw [hyfs]; exact hat
        rw [List.getElem?_eq_getElem hbf] at this
        exact Option.some.inj this
      obtain ⟨lo, hlo⟩ : ∃ lo, lo = x.fs[f].lo := ⟨_, rfl⟩
      obtain ⟨hi, hhi⟩ : ∃ hi, hi = x.fs[f].hi := ⟨_, rfl⟩
      have hglo : y.bk.fs[f].lo = lo := by
        have h := congrArg Ft.lo hgf
        rw [hlo]
        exact h
      have hghi : y.bk.fs[f].hi = hi := by
        have h := congrArg Ft.hi hgf
        rw [hhi]
        exact h
      have hen : ends (y.bk.daysL f) = (lo, hi) := (great_ends fy.bk hbn hbf).trans (Prod.ext hglo hghi)
      have c1 := Falls_1 hyo hyk hT u2 hyf2
      have c2 := Kept_1 hyo hyk hT u2 hyf2
      have c3 := Day_1 hyo hyk hT hyf2
      obtain ⟨hE, hP⟩ := hull_days fy hyf2 hT
      rw [great_list fy.bk hbf hrr, hE, hP, hen] at c1
      rw [great_kept fy.bk hbf hrr hT] at c2
      rw [hen] at c3
      have hyc : y.av = .agg (pc6 x (.sl 3 (fs2.map ftA) .no)) := by rw [hy]; rfl
      rw [hyc] at c1 c2 c3
      -- the walk
      obtain ⟨w, hw⟩ : ∃ w : AV, w = .wsl 3 0 fs2.length 3 true := ⟨_, rfl⟩
      have hw' : w = .wsl 3 0 x.fs.length 3 true := by rw [hw, hl2]
      have hpi : ∀ (m n : Nat) σ, purAll (pur σ 12) [I (m : Nat), I (n : Nat)] = some ([I (m : Nat), I (n : Nat)], false) := fun _ _ _ => rfl
      have hpi1 : ∀ (m : Nat) σ, purAll (pur σ 12) [I (m : Nat)] = some ([I (m : Nat)], false) := fun _ _ => rfl
      have k1 : ∀ σ : St, σ.boxes[3]? = some (flat fs2) → callA Cv (run Cv) false (.fn (.func 30) [] []) [.agg (pc6 x w), I (u : Nat), I (f : Nat)] σ = some (.tup [.agg [I lo, I hi], I 0], σ) := fun σ h => by
        have := touch_callA hx (g := 30) (by rfl) (hpi u f) c1 h
        rw [← hw] at this
        exact this
      have k2 : ∀ σ : St, σ.boxes[3]? = some (flat fs2) → callA Cv (run Cv) false (.fn (.func 29) [] []) [.agg (pc6 x w), I (u : Nat), I (f : Nat)] σ = some (.tup [I 2, I 0], σ) := fun σ h => by
        have := touch_callA hx (g := 29) (by rfl) (hpi u f) c2 h
        rw [← hw] at this
        exact this
      have k3 : ∀ σ : St, σ.boxes[3]? = some (flat fs2) → callA Cv (run Cv) false (.fn (.func 23) [] []) [.agg (pc6 x w), I (f : Nat)] σ = some (.tup [.agg [I lo, I hi], I 0], σ) := fun σ h => by
        have := touch_callA hx (g := 23) (by rfl) (hpi1 f) c3 h
        rw [← hw] at this
        exact this
      have G : ∀ d : Nat, (d : Int) < x.days → GDay x [x.cells, [I a, I b], pc6 x w, flat fs2, [I lo, I hi], [I lo, I hi]] w u f d lo hi := fun d hd => by
        have hyd' : (d : Int) < y.days := by rw [hyd]; exact hd
        obtain ⟨rc, g1, c4⟩ := Chief_1 hyo hyk hT u2 hyd'
        obtain ⟨rp, g2, c5⟩ := Psalm_1 hyo hyk hT u2 hyd'
        rw [hyc] at c4 c5
        have len1 := allI_len hyk fun q => (y.bk.at q u d).chief
        have len2 := allI_len hyk fun q => (y.bk.at q u d).psalm
        have ne1 : allI (y.bk.chiefsL u d) ≠ [] := all_some (by unfold Bk.chiefsL; simpa using hT)
        have ne2 : allI (y.bk.psalmsL u d) ≠ [] := all_some (by unfold Bk.psalmsL; simpa using hT)
        have fo1 : fo depth (.tup [rc, I 0]) = false := by
          obtain ⟨c, hc, rfl⟩ := row_sl g1 ne1
          rfl
        have fo2 : fo depth (.tup [rp, I 0]) = false := by
          obtain ⟨c, hc, rfl⟩ := row_sl g2 ne2
          rfl
        refine ⟨allI (y.bk.chiefsL u d), allI (y.bk.psalmsL u d), rc, rp, g1, g2, Nat.lt_of_le_of_lt len1 (by decide), Nat.lt_of_le_of_lt len2 (by decide), fun r => ?_, fun r => ?_, ?_, fun e1 e2 => ?_⟩
        · have := touch_callA hx (g := 15) (by rfl) (hpi u d) c4 (σ := { boxes := [x.cells, [I a, I b], pc6 x w, flat fs2, [I lo, I hi], [I lo, I hi]], ro := r }) rfl
          rw [← hw, fo1] at this
          exact this
        · have := touch_callA hx (g := 27) (by rfl) (hpi u d) c5 (σ := { boxes := [x.cells, [I a, I b], pc6 x w, flat fs2, [I lo, I hi], [I lo, I hi]], ro := r }) rfl
          rw [← hw, fo2] at this
          exact this
        · rw [mem_allI]
          exact (great_chief fy.bk hbn hbf hrr hyd').trans ⟨fun h => ⟨Int.le_trans (Int.le_of_eq hglo.symm) h.1, Int.le_trans h.2 (Int.le_of_eq hghi)⟩, fun h => ⟨Int.le_trans (Int.le_of_eq hglo) h.1, Int.le_trans h.2 (Int.le_of_eq hghi.symm)⟩⟩
        · exact great_only fy.bk hbf hrr hT (by rw [hrf]; decide) (hglo.trans e1) (hghi.trans e2)
      obtain ⟨L, r', lp⟩ := loop6_1 x d6 [I a, I b] (flat fs2) w u f lo hi G x.days.toNat 0 0 (by omega) (by omega)
      have lp' := fun E (hE : mask keep6_1 E = _) => run_at lp hE
      have e0 : ((0 : Nat) : Int) = 0 := rfl
      simp only [keep6_1, head6_1, e0] at lp'
      obtain ⟨La, la, a2, a5, a6, a7⟩ := loop6_0 x n4 [I a, I b] f u x.fs.length 0 (by omega)
      rw [gk_zero, gk_all, ← hw'] at la
      have la' := fun E (hE : mask keep6_0 E = _) => run_at la hE
      simp only [keep6_0, head6_0, e0] at la'
      have happ := wr_app [x.cells, [I a, I b], x.cells] x.fs hne n4 hx.fr
      have hl3 : ([x.cells, [I a, I b], x.cells] : List (List AV)).length = 3 := rfl
      rw [hl3, ← hw'] at happ
      simp only [List.cons_append, List.nil_append] at happ
      have hsr := wr_store (B := [x.cells, [I a, I b], pc6 x w, flat (x.fs.map rkG)]) (P := 3) rfl hfm 3
      have hse : [x.cells, [I a, I b], pc6 x w, flat (x.fs.map rkG)].set 3 (flat ((x.fs.map rkG).set f { (x.fs.map rkG)[f] with rank := 3 })) = [x.cells, [I a, I b], pc6 x w, flat fs2] := by rw [hfs2]; rfl
      rw [hse] at hsr
      have hixw : ixsA 3 w (I (f : Nat)) = some (.box 3 (f * 3)) := by rw [hw']; exact wr_ix 3 x.fs.length f2
      have hixx := f_ix hx f2
      have hlx : ∀ σ : St, loadA σ (some 2) (.rp (ftC x.fs[f]) 0) = some (.agg [I lo, I hi]) := fun σ => by rw [hlo, hhi]; rfl
      have hwc : w.isCell = true := by rw [hw]; rfl
      have hwcs : w.cells = [w] := by rw [hw]; rfl
      have hxc := x_cell x hx
      have k1' := fun E => k1 { boxes := x.cells :: [I a, I b] :: pc6 x w :: flat fs2 :: E } rfl
      have k2' := fun E => k2 { boxes := x.cells :: [I a, I b] :: pc6 x w :: flat fs2 :: E } rfl
      have k3' := fun E => k3 { boxes := x.cells :: [I a, I b] :: pc6 x w :: flat fs2 :: E } rfl
      clear k1 k2 k3 G lp la c1 c2 c3
      generalize flat fs2 = F2 at *
      generalize flat (x.fs.map rkG) = F1 at *
      generalize flat x.fs = F0 at *
      generalize x.fs[f] = xf at *
      have g0 : ∀ Z E, loadA { boxes := Z :: [I a, I b] :: E } none (.box 1 0) = some (I a) := fun _ _ => rfl
      have g1 : ∀ Z E, loadA { boxes := Z :: [I a, I b] :: E } none (.box 1 1) = some (I b) := fun _ _ => rfl
      have stx : ∀ (Z Y : List AV), storeA { boxes := [Z, Y, [I 0, I 0, .nils, .nils, .bool false, .nils, .bool false, .nils]] } 8 (.box 2 0) x.av = some { boxes := [Z, Y, x.cells] } := fun Z Y => by
        have h1 : x.av.cells = x.cells := rfl
        have h2 : x.cells.length = 8 := rfl
        have h3 : setAt [I 0, I 0, .nils, .nils, .bool false, .nils, .bool false, .nils] 0 x.cells = x.cells := rfl
        simp [storeA, h1, h2, h3, hxc]
      obtain ⟨xc, hxcd⟩ : ∃ xc : List AV, xc = [I x.days, I x.first, w, x.q0, .bool x.g0, x.q1, .bool x.g1, x.nr] := ⟨_, rfl⟩
      have st2 : ∀ (Z Y F : List AV), storeA { boxes := [Z, Y, x.cells, F] } 1 (.box 2 2) w = some { boxes := [Z, Y, xc, F] } := fun _ _ _ => by
        rw [hxcd]
        simp [storeA, hwcs, hwc, OB.cells, setAt]
      have st7 : ∀ (Z Y F : List AV), storeA { boxes := [Z, Y, xc, F] } 1 (.box 2 7) .nils = some { boxes := [Z, Y, pc6 x w, F] } := fun _ _ _ => by rw [hxcd]; rfl
      have ldw : ∀ (Z Y : List AV) E, loadA { boxes := Z :: Y :: pc6 x w :: E } none (.box 2 2) = some w := fun _ _ _ => rfl
      have ld8 : ∀ (Z Y : List AV) E, loadA { boxes := Z :: Y :: pc6 x w :: E } (some 8) (.box 2 0) = some (.agg (pc6 x w)) := fun _ _ _ => rfl
      have s4 : ∀ (Z Y X W : List AV) (p q : Int), storeA { boxes := [Z, Y, X, W, [I 0, I 0]] } 2 (.box 4 0) (.agg [I p, I q]) = some { boxes := [Z, Y, X, W, [I p, I q]] } := fun _ _ _ _ _ _ => rfl
      have s5 : ∀ (Z Y X W V : List AV) (p q : Int), storeA { boxes := [Z, Y, X, W, V, [I 0, I 0]] } 2 (.box 5 0) (.agg [I p, I q]) = some { boxes := [Z, Y, X, W, V, [I p, I q]] } := fun _ _ _ _ _ _ _ => rfl
      have q4 : ∀ (Z Y X W : List AV) (p q : Int) E, loadA { boxes := Z :: Y :: X :: W :: [I p, I q] :: E } (some 2) (.box 4 0) = some (.agg [I p, I q]) := fun _ _ _ _ _ _ _ => rfl
      have q5 : ∀ (Z Y X W V : List AV) (p q : Int) E, loadA { boxes := Z :: Y :: X :: W :: V :: [I p, I q] :: E } (some 2) (.box 5 0) = some (.agg [I p, I q]) := fun _ _ _ _ _ _ _ _ => rfl
      have hfe0 : fillE 3 true [] [] = some [] := rfl
      have hrp0 : ∀ v : AV, List.replicate 0 v = [] := fun _ => rfl
      rw [call_run comp6 (Nat.le_of_ble_eq_true rfl)]
      simp (maxSteps := 10000000) [-List.getD_eq_getElem?_getD, -boxA, -loadA, -storeA, -ixsA, code6, hbox, hbox2, l0, l1, hl, hp, hsm, hs, hz', g0, g1, t1, t2, stx, hfe0, hrp0, happ, st2, st7, keep6_0, keep6_1, la', a2, a5, a6, a7, ldw, ld8, hixw, hsr, k1', k2', k3', s4, s5, q4, q5, hixx, hlx, eqCells, lp']
end Go.Ai
