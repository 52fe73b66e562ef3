/- This text shows whether a season is a truth. No conditions of its own. -/
import Derived.Test.YtckbmdbebmkbaaaDoorFnD
set_option linter.unusedSimpArgs false
set_option linter.unusedVariables false
set_option maxRecDepth 100000
namespace Go.Ai
open Go.Office (Ft Rl Us Nt Bk Mt Dy DyK Dy0 Sg addB clrB moveN)
def trC (f : Nat → Int) (sm : SM) (r0 r1 : AV) : List AV := arr4 f ++ [.mapv (ksM sm) (vsM sm), r0, r1]
def trA (f : Nat → Int) (sm : SM) (r0 r1 : AV) : AV := .agg (trC f sm r0 r1)
def zeroSg : AV := .agg [I 0, I 0, I 0, I 0]
def notB (sm : SM) (n : Nt) : Bool := match SM.get sm (n.use, n.day) with
  | none => true
  | some s => !decide (s.chief = n.chief)
theorem not_call (f : Nat → Int) (sm : SM) (r0 r1 : AV) (n : Nt) : call Cv 104 [ntA n, .rp (trC f sm r0 r1) 0] = some (.bool (notB sm n)) := by
  have hk : ∀ σ, lkpA σ (some 2) (.agg [I 0, I 0, I 0, I 0]) (.mapv (ksM sm) (vsM sm)) (.agg [I n.use, I n.day]) true = some (.tup [((SM.get sm (n.use, n.day)).map sgA).getD zeroSg, .bool (SM.get sm (n.use, n.day)).isSome]) := fun σ => lkp_map σ sm (n.use, n.day) (.mapv (ksM sm) (vsM sm)) zeroSg rfl true
  have hp4 : partA none (trC f sm r0 r1) 4 = some (.mapv (ksM sm) (vsM sm)) := rfl
  have hlr : ∀ σ n off, loadA σ n (.rp (trC f sm r0 r1) off) = partA n (trC f sm r0 r1) off := fun _ _ _ => rfl
  have hbld : fillA [(0, 1, I n.use), (1, 1, I n.day)] [I 0, I 0] = some [I n.use, I n.day] := rfl
  have hbox : boxA {} (ntA n) = some (.box 0 0, { boxes := [ntC n] }) := rfl
  have hn0 : partA none (ntC n) 0 = some (I n.use) := rfl
  have hn1 : partA none (ntC n) 1 = some (I n.day) := rfl
  have hn2 : partA none (ntC n) 2 = some (I n.chief) := rfl
  have hl0 : ∀ Z off m, loadA { boxes := [ntC n] ++ Z } m (.box 0 off) = partA m (ntC n) off := fun _ _ _ => rfl
  unfold notB
  cases hg : SM.get sm (n.use, n.day) with
  | none =>
    simp only [hg, Option.map_none, Option.getD_none, Option.isSome_none] at hk
    rw [call_run comp104 (Nat.le_of_ble_eq_true rfl)]
    simp (maxSteps := 10000000) [-List.getD_eq_getElem?_getD, -boxA, -partA, code104, hbox, hn0, hn1, hn2, hlr, hp4, hbld, hk, zeroSg]
  | some s =>
    simp only [hg, Option.map_some, Option.getD_some, Option.isSome_some] at hk
    have hsg : sgA s = .agg [I s.chief, I (s.set : Nat), I (s.moved : Nat), I s.psalm] := rfl
    have hps : ∀ a b c d, partA none [I a, I b, I c, I d] 0 = some (I a) := fun _ _ _ _ => rfl
    by_cases hc : s.chief = n.chief
    · rw [call_run comp104 (Nat.le_of_ble_eq_true rfl)]
      simp (maxSteps := 10000000) [-List.getD_eq_getElem?_getD, -boxA, -partA, code104, hbox, hn0, hn1, hn2, hlr, hp4, hbld, hk, hsg, hps, hc]
    · rw [call_run comp104 (Nat.le_of_ble_eq_true rfl)]
      simp (maxSteps := 10000000) [-List.getD_eq_getElem?_getD, -boxA, -partA, code104, hbox, hn0, hn1, hn2, hlr, hp4, hbld, hk, hsg, hps, hc]
def rightN (ns : List Nt) (sm : SM) : Bool := !(ns.any (notB sm))
theorem nt_ld (r : Nt) (σ : St) : loadA σ (some 3) (.rp (ntA r).cells 0) = some (ntA r) := rfl
theorem right_call (x : OB) (hx : x.Ok) (ns : List Nt) (nr tr : AV) (hn : IsRow 3 (ns.map ntA) nr) (hl : ns.length < 2 ^ 47) (htr : ∃ es, IsRow 7 es tr) (f : Nat → Int) (sm : SM) (r0 r1 : AV) (h0 : ∃ es, IsRow 3 es r0) (h1 : ∃ es, IsRow 3 es r1) :
    call Cv 87 [.agg (bkC x nr tr), trA f sm r0 r1] = some (.bool (rightN ns sm)) := by
  obtain ⟨et, htr⟩ := htr
  obtain ⟨e0, h0⟩ := h0
  obtain ⟨e1, h1⟩ := h1
  have hc := any103_call ntA (fun _ => rfl) nt_ld (fun _ _ _ => rfl) (notB sm) 104 [.rp (trC f sm r0 r1) 0] (fun _ _ => rfl) (fun _ _ _ _ _ => rfl) rfl ns (fun a _ => not_call f sm r0 r1 a) nr hn hl
  have p1 := hx.fr.cell
  have p2 := hx.q0.cell
  have p3 := hx.q1.cell
  have p4 := hn.cell
  have p5 := htr.cell
  have p6 := h0.cell
  have p7 := h1.cell
  have hnp := hn.pur
  have b1 : boxA {} (.agg (bkC x nr tr)) = some (.box 0 0, { boxes := [bkC x nr tr] }) := by simp [boxA, bkC, p1, p2, p3, p4, p5]
  have b2 : boxA { boxes := [bkC x nr tr] } (trA f sm r0 r1) = some (.box 1 0, { boxes := [bkC x nr tr, trC f sm r0 r1] }) := by simp [boxA, trA, trC, arr4, p6, p7]
  have hpt : ∀ σ n, purAll (pur σ (n + 1)) (trC f sm r0 r1) = some (trC f sm r0 r1, false) := fun σ n => by
    have a0 := h0.pur σ n
    have a1 := h1.pur σ n
    simp [trC, arr4, purAll, pur, a0, a1]
  have hpu : ∀ n, pur ({ boxes := [bkC x nr tr, trC f sm r0 r1] } : St) (n + 3) (.fn (.func 104) [] [.box 1 0]) = some (.fn (.func 104) [] [.rp (trC f sm r0 r1) 0], true) := fun n => by
    simp [pur, purAll, hpt]
  have hld : loadA { boxes := [bkC x nr tr, trC f sm r0 r1] } none (.box 0 7) = some nr := rfl
  unfold rightN
  generalize ns.any (notB sm) = q at *
  rw [call_run comp87 (Nat.le_of_ble_eq_true rfl)]
  simp (maxSteps := 10000000) [-List.getD_eq_getElem?_getD, -boxA, -loadA, -pu_fn, code87, b1, b2, hld, hnp, hpu, hc]
end Go.Ai

set_option maxRecDepth 100000
namespace Go.Ai
open Go.Office (Ft Rl Us Nt Bk Mt Dy DyK Dy0 Sg addB clrB moveN now0)
structure HV where
  v : AV
  ch : List (Nat × Nat)
structure HV.Ok (h : HV) : Prop where
  cell : h.v.isCell = true
  un' : ∀ a nc c d n, h.ch.length ≤ nc → under a nc c d (n + 1) h.v = true
def hvOf (K : List Nt) : HV := ⟨growV 0 3 (K.map ntA), growC 3 (K.map ntA)⟩
theorem hvOf_ok (K : List Nt) : (hvOf K).Ok := by
  refine ⟨growV_cell _ _ _, fun a nc c d n hle => ?_⟩
  unfold hvOf at hle ⊢
  rw [growV_under, decide_eq_true_eq]
  by_cases h : K.map ntA = []
  · exact .inl h
  · right
    rw [growC_some _ h, List.length_singleton] at hle
    omega
def zero9 : List AV := [I 0, I 0, .nils, .nils, .bool false, .nils, .bool false, .nils, .nils]
structure WX where
  x : OB
  h : HV
  K : List Nt
  L : Lp
structure WX.Ok (X : WX) : Prop where
  x : X.x.Ok
  n4 : X.x.fs.length ≤ 4
  d6 : X.x.days ≤ 6
  d1 : 1 ≤ X.x.days
  f0 : 0 ≤ X.x.first ∧ X.x.first ≤ 29
  does : ∀ u y t, 0 ≤ X.x.bk.does u y t ∧ X.x.bk.does u y t ≤ 2
  fs : ∀ f ∈ X.x.fs, 0 ≤ f.lo ∧ f.lo ≤ f.hi ∧ f.hi < X.x.days ∧ f.hi - f.lo ≤ 3
  h : X.h.Ok
  row : ∃ r, IsRow 3 (X.K.map ntA) r ∧ ∀ σ n, pur σ (n + 1) X.h.v = some (r, false)
  lk : X.K.length < 1000
  L : ∀ a nc m, 4 ≤ a → X.h.ch.length ≤ nc → X.L.env.all (under a nc m 1 6) = true
def WX.b (X : WX) : Bk := { X.x.bk with ns := X.K }
def sm0 : SM := [((-1, -1), ⟨0, 0, 0, 0⟩)]
def WX.sm (X : WX) (q : List Int) : SM := putS 1 (X.b.sg q 1) 0 (putS 0 (X.b.sg q 0) 0 sm0)
def WX.m (X : WX) (q : List Int) (u : Nat) : List AV := (X.b.mt q u).map metA
def WX.c (X : WX) (q : List Int) : AV := trA (now0 q) (X.sm q) (growP 3 (X.m q 0)) (growP 3 (X.m q 1))
def WX.rows (X : WX) (T : List (List Int)) : List AV := T.map X.c
def WX.tv (X : WX) (T : List (List Int)) (J : List (Nat × Nat)) : AV := growV (X.h.ch.length + J.length) 7 (X.rows T)
def WX.oc (X : WX) (tv : AV) : List AV := bkC X.x X.h.v tv
def rightV (X : WX) : AV := .fn (.func 87) [.agg (X.oc .nils)] []
def nextV : AV := .fn (.func 88) [] [.box 3 0, .box 5 0, .box 4 0, .box 6 0]
def WX.base (X : WX) (T : List (List Int)) (J : List (Nat × Nat)) : List (List AV) := [X.x.cells, zero9, X.oc (X.tv T J), X.oc .nils, [.yld 0], [rightV X], [nextV]]
def WX.gst (X : WX) (T : List (List Int)) (J : List (Nat × Nat)) (E : List (List AV)) (M : List (Nat × Nat)) (maps : List (List AV × List AV)) (mro : Nat) : St := { boxes := X.base T J ++ E, chains := X.h.ch ++ J ++ growC 7 (X.rows T) ++ M, maps := maps, mro := mro, loops := [X.L] }
def WX.st (X : WX) (T : List (List Int)) (J : List (Nat × Nat)) (E : List (List AV)) : St := X.gst T J E [] [] 0
section
variable {X : WX}
theorem rows_nil {T : List (List Int)} : X.rows T = [] ↔ T = [] := by simp [WX.rows]
theorem w_len (T : List (List Int)) (J : List (Nat × Nat)) (E : List (List AV)) : (X.base T J ++ E).length = 7 + E.length := by rw [List.length_append]; rfl
theorem tv_under (T : List (List Int)) (J : List (Nat × Nat)) (a nc c d n : Nat) : under a nc c d (n + 1) (X.tv T J) = decide (T = [] ∨ X.h.ch.length + J.length < nc) := by
  unfold WX.tv
  rw [growV_under]
  simp [rows_nil]
theorem gC_len (T : List (List Int)) : (growC 7 (X.rows T)).length = if T = [] then 0 else 1 := by
  unfold growC
  by_cases h : T = []
  · simp [h, WX.rows]
  · simp [h, WX.rows]
theorem oc_under (hX : X.Ok) (tv : AV) (a nc m : Nat) (h1 : X.h.ch.length ≤ nc) (k : Nat) (h2 : under a nc m 1 (k + 1) tv = true) : (X.oc tv).all (under a nc m 1 (k + 1)) = true := by
  have p1 := hX.x.fr.under a nc m 1 k
  have p2 := hX.x.q0.under a nc m 1 k
  have p3 := hX.x.q1.under a nc m 1 k
  have p4 := hX.h.un' a nc m 1 k h1
  simp [WX.oc, bkC, under, p1, p2, p3, p4, h2]
theorem base_under (hX : X.Ok) (T : List (List Int)) (J : List (Nat × Nat)) (a nc m : Nat) (ha : 7 ≤ a) (h1 : X.h.ch.length ≤ nc) : (X.base T J).all (fun cs => cs.all (under a nc m 1 6)) = decide (T = [] ∨ X.h.ch.length + J.length < nc) := by
  have q1 := x_under hX.x a nc m 1 5
  have q2 : (X.oc (X.tv T J)).all (under a nc m 1 6) = decide (T = [] ∨ X.h.ch.length + J.length < nc) := by
    have p1 := hX.x.fr.under a nc m 1 5
    have p2 := hX.x.q0.under a nc m 1 5
    have p3 := hX.x.q1.under a nc m 1 5
    have p4 := hX.h.un' a nc m 1 5 h1
    have p5 := tv_under (X := X) T J a nc m 1 5
    simp [WX.oc, bkC, under, p1, p2, p3, p4, p5]
  have q3 := oc_under hX .nils a nc m h1 5 rfl
  have q4 := oc_under hX .nils a nc m h1 3 rfl
  have k : ∀ i, i < 7 → i < a := fun i hi => by omega
  have q5 : [rightV X].all (under a nc m 1 6) = true := by
    simp only [rightV, List.all_cons, List.all_nil, Bool.and_true, under, q4]
  have q6 : [nextV].all (under a nc m 1 6) = true := by
    simp [nextV, under, k]
  have q7 : ([.yld 0] : List AV).all (under a nc m 1 6) = true := by simp [under]
  have q8 : zero9.all (under a nc m 1 6) = true := rfl
  simp only [WX.base, List.all_cons, List.all_nil, Bool.and_true, q1, q2, q3, q5, q6, q7, q8, Bool.true_and]
theorem cut_ret (hX : X.Ok) (T T' : List (List Int)) (J J' M : List (Nat × Nat)) (hTJ : (J' = J ∧ (T' = T ∨ (T ≠ [] ∧ T' ≠ []))) ∨ (T = [] ∧ J = [] ∧ T' ≠ [] ∧ M = [])) (E0 E F : List (List AV)) (hl : E0.length = E.length) (hE : ∀ a b c d, E.all (fun cs => cs.all (under a b c d 6)) = true) (maps : List (List AV × List AV)) (mro : Nat) (e : Env) (he : ∀ nc, X.h.ch.length ≤ nc → e.all (under (7 + E.length) nc 0 1 6) = true) :
    cut (X.st T J E0) (X.gst T' J' (E ++ F) M maps mro) e = X.st T' J' E := by
  have hlen0 : (X.st T J E0).boxes.length = 7 + E.length := by rw [← hl]; exact w_len ..
  have ht : (X.base T' J' ++ (E ++ F)).take (7 + E.length) = X.base T' J' ++ E := by
    rw [← List.append_assoc, List.take_left']
    rw [w_len]
  have c0 : (X.st T J E0).chains = X.h.ch ++ J ++ growC 7 (X.rows T) ++ [] := rfl
  have c1 : (X.gst T' J' (E ++ F) M maps mro).chains = X.h.ch ++ J' ++ growC 7 (X.rows T') ++ M := rfl
  have hdry : ∀ nc, X.h.ch.length ≤ nc → dryAt nc (X.st T J E0) (X.gst T' J' (E ++ F) M maps mro) e = decide (T' = [] ∨ X.h.ch.length + J'.length < nc) := by
    intro nc hnc
    have b1 := base_under hX T' J' (7 + E.length) nc 0 (by omega) hnc
    have b4 := hE (7 + E.length) nc 0 1
    have b5 := hX.L (7 + E.length) nc 0 (by omega) hnc
    have b6 := he nc hnc
    unfold dryAt
    rw [hlen0]
    have e1 : (X.gst T' J' (E ++ F) M maps mro).boxes = X.base T' J' ++ (E ++ F) := rfl
    have e2 : (X.st T J E0).maps.length = 0 := rfl
    have e3 : (X.st T J E0).loops.length = 1 := rfl
    have e5 : (X.gst T' J' (E ++ F) M maps mro).loops = [X.L] := rfl
    rw [e1, ht, e2, e3, e5]
    simp only [List.take_succ_cons, List.take_zero, List.all_cons, List.all_nil, Bool.and_true, List.all_append, b1, b4, b5, b6, Bool.true_and]
  have hcutAt : ∀ nc, cutAt nc (X.st T J E0) (X.gst T' J' (E ++ F) M maps mro) = { boxes := X.base T' J' ++ E, ro := 0, chains := (X.h.ch ++ J' ++ growC 7 (X.rows T') ++ M).take nc, maps := [], mro := 0, loops := [X.L] } := by
    intro nc
    unfold cutAt
    rw [hlen0]
    have e1 : (X.gst T' J' (E ++ F) M maps mro).boxes = X.base T' J' ++ (E ++ F) := rfl
    have e2 : (X.st T J E0).maps.length = 0 := rfl
    have e3 : (X.st T J E0).loops.length = 1 := rfl
    have e5 : (X.gst T' J' (E ++ F) M maps mro).loops = [X.L] := rfl
    have e6 : (X.gst T' J' (E ++ F) M maps mro).ro = 0 := rfl
    rw [e1, ht, e2, e3, e5, e6, c1]
    simp
  have hfin : ∀ l, l = X.h.ch ++ J' ++ growC 7 (X.rows T') → ({ boxes := X.base T' J' ++ E, ro := 0, chains := l, maps := [], mro := 0, loops := [X.L] } : St) = X.st T' J' E := by
    rintro l rfl
    simp [WX.st, WX.gst]
  have hN0 : (X.st T J E0).chains.length = X.h.ch.length + J.length + if T = [] then 0 else 1 := by
    rw [c0, List.append_nil, List.length_append, List.length_append, gC_len]
  unfold cut
  rw [hdry _ (by rw [hN0]; omega), hdry _ (by rw [c1]; simp only [List.length_append]; omega)]
  rcases hTJ with ⟨rfl, hT⟩ | ⟨hT, hJ, hT', hM⟩
  · have hd1 : decide (T' = [] ∨ X.h.ch.length + J'.length < (X.st T J' E0).chains.length) = true := by
      rw [decide_eq_true_eq, hN0]
      rcases hT with rfl | hT
      · by_cases h : T' = []
        · exact .inl h
        · right; rw [if_neg h]; omega
      · right; rw [if_neg hT.1]; omega
    rw [if_pos hd1, hcutAt]
    apply hfin
    rw [hN0]
    by_cases hT0 : T = []
    · have hT'0 : T' = [] := by
        rcases hT with h | h
        · rw [h]; exact hT0
        · exact absurd hT0 h.1
      subst hT0 hT'0
      rw [if_pos rfl, List.take_append_of_le_length (by simp)]
      exact List.take_of_length_le (by simp [growC, WX.rows])
    · rw [if_neg hT0]
      have hT'0 : T' ≠ [] := by
        rcases hT with h | h
        · rw [h]; exact hT0
        · exact h.2
      rw [List.take_append_of_le_length (by simp only [List.length_append, gC_len, if_neg hT'0]; omega)]
      exact List.take_of_length_le (by simp only [List.length_append, gC_len, if_neg hT'0]; omega)
  · subst hT hJ hM
    have hd1 : ¬ decide (T' = [] ∨ X.h.ch.length + J'.length < (X.st [] [] E0).chains.length) = true := by
      rw [decide_eq_true_eq, hN0]
      simp [hT']
    rw [if_neg hd1, if_pos (by rw [c1, decide_eq_true_eq]; right; simp only [List.length_append, gC_len, if_neg hT', List.append_nil]; omega), hcutAt]
    apply hfin
    rw [c1, List.take_length, List.append_nil]
end
end Go.Ai

set_option maxRecDepth 100000
namespace Go.Ai
open Go.Office (Ft Rl Us Nt Bk Mt Dy DyK Dy0 Sg addB clrB moveN now0)
def lpO (z : AV) (l : List (Nat × AV)) : Lp := { f := 53, env := mkE 44 z l, ps := [36], asg := asg53_1, body := body53_1, st := .ready, pend := none }
def WX.busy (X : WX) : WX := { X with L := { X.L with st := .busy } }
def mapS (sm : SM) : List (List AV × List AV) := [(ksM sm, vsM sm)]
def yJ (T : List (List Int)) (J M : List (Nat × Nat)) : List (Nat × Nat) := if T = [] then J ++ M else J
def yM (T : List (List Int)) (M : List (Nat × Nat)) : List (Nat × Nat) := if T = [] then [] else M
def tcC (f : Nat → Int) (R0 R1 : AV) : List AV := arr4 f ++ [.mp 0, R0, R1]
def WX.tq (X : WX) (q : List Int) (c0 c1 : Nat) : List AV := tcC (now0 q) (growV c0 3 (X.m q 0)) (growV c1 3 (X.m q 1))
section
variable {X : WX}
theorem rows_app (T : List (List Int)) (q : List Int) : X.rows (T ++ [q]) = X.rows T ++ [X.c q] := by simp [WX.rows]
theorem tq_fill (q : List Int) (c0 c1 : Nat) (sm : SM) (hsm : sm = X.sm q) : fillM { maps := mapS sm } 7 true [(0, .agg (X.tq q c0 c1))] [.agg [I 0, I 0, I 0, I 0, .nilm, .nils, .nils]] = some [X.c q] := by
  subst hsm
  have h1 : (mapS (X.sm q))[0]? = some (ksM (X.sm q), vsM (X.sm q)) := rfl
  have k1 := fun σ n => ks_pur σ n (X.sm q)
  have k2 := fun σ n => vs_pur σ n (X.sm q)
  have g0 := fun c σ n => growV_puri c 3 (X.m q 0) σ n
  have g1 := fun c σ n => growV_puri c 3 (X.m q 1) σ n
  have p0 := (growP_row 3 (X.m q 0)).cell
  have p1 := (growP_row 3 (X.m q 1)).cell
  simp [fillM, depth, WX.tq, tcC, arr4, pur, purAll, h1, k1, k2, g0, g1, AV.cells, AV.isAgg, p0, p1, WX.c, trA, trC]
theorem y_bsf (T : List (List Int)) (J M : List (Nat × Nat)) (F : List (List AV)) (q : List Int) (c0 c1 : Nat) : bsfA (X.gst T J F M (mapS (X.sm q)) 0) 7 true (.agg [I 0, I 0, I 0, I 0, .nilm, .nils, .nils]) 1 [(0, .agg (X.tq q c0 c1))] = some (.sl 7 [X.c q] .full, X.gst T J F M (mapS (X.sm q)) 1) := by
  have h : List.replicate 1 (AV.agg [I 0, I 0, I 0, I 0, .nilm, .nils, .nils]) = [.agg [I 0, I 0, I 0, I 0, .nilm, .nils, .nils]] := rfl
  unfold bsfA
  rw [h]
  have h2 : (X.gst T J F M (mapS (X.sm q)) 0).maps = mapS (X.sm q) := rfl
  rw [h2, tq_fill q c0 c1 _ rfl]
  rfl
def WX.gsc (X : WX) (T : List (List Int)) (J : List (Nat × Nat)) (E : List (List AV)) (ch : List (Nat × Nat)) (maps : List (List AV × List AV)) (mro : Nat) : St := { boxes := X.base T J ++ E, chains := ch, maps := maps, mro := mro, loops := [X.L] }
theorem y_app (T : List (List Int)) (hT : T.length < 100000) (J M : List (Nat × Nat)) (F : List (List AV)) (q : List Int) (maps : List (List AV × List AV)) (mro : Nat) :
    appA (X.gst T J F M maps mro) false 7 88 true (X.tv T J) (.sl 7 [X.c q] .full) = some (X.tv (T ++ [q]) (yJ T J M), X.gsc T J F (X.h.ch ++ yJ T J M ++ growC 7 (X.rows (T ++ [q])) ++ yM T M) maps mro) := by
  have hne : X.rows (T ++ [q]) ≠ [] := fun h => by have := rows_nil.1 h; simp at this
  have hl : (X.rows T).length = T.length := by simp [WX.rows]
  unfold WX.tv
  rw [growV_some _ _ hne, growC_some _ hne, rows_app]
  by_cases h : T = []
  · subst h
    have h0 : X.rows [] = [] := rfl
    rw [h0, growV_nil, yJ, if_pos rfl, yM, if_pos rfl]
    have h1 : ([X.c q] : List AV).length * 88 ≤ 140737488355328 := by simp
    simp only [appA, elemsA, Option.bind_some, List.cons_ne_nil, if_false, if_true, h1, grown, Bool.false_eq_true, List.nil_append]
    have e1 : (X.gst [] J F M maps mro).chains = X.h.ch ++ J ++ M := by simp [WX.gst, growC, WX.rows]
    have e2 : X.h.ch.length + (J ++ M).length = (X.h.ch ++ J ++ M).length := by simp only [List.length_append]; omega
    rw [e1, e2]
    simp [WX.gst, WX.gsc]
  · have hr : X.rows T ≠ [] := fun hh => h (rows_nil.1 hh)
    rw [growV_some _ _ hr, yJ, if_neg h, yM, if_neg h]
    have e1 : (X.gst T J F M maps mro).chains = (X.h.ch ++ J) ++ ((T.length, 7) :: M) := by
      simp only [WX.gst]
      rw [growC_some _ hr, hl]
      simp
    have hlk : (X.gst T J F M maps mro).chains[X.h.ch.length + J.length]? = some ((X.rows T).length, 7) := by
      rw [e1, hl, List.getElem?_append_right (by simp), List.length_append, Nat.sub_self]
      rfl
    have h2 : (X.rows T ++ [X.c q]).length * 88 ≤ 140737488355328 := by simp [hl]; omega
    simp only [appA, elemsA, Option.bind_some, List.cons_ne_nil, if_false, if_true, h2, and_self, hlk]
    congr 2
    simp only [WX.gst, WX.gsc]
    congr 1
    rw [growC_some _ hr, hl]
    have : X.h.ch ++ J ++ [(T.length, 7)] ++ M = (X.h.ch ++ J) ++ ((T.length, 7) :: M) := by simp
    rw [this, List.set_append_right _ _ (by simp), List.length_append, Nat.sub_self]
    simp [hl]
theorem y_storeT (T T' : List (List Int)) (J J' M' : List (Nat × Nat)) (F : List (List AV)) (maps : List (List AV × List AV)) (mro : Nat) : storeA (X.gsc T J F (X.h.ch ++ J' ++ growC 7 (X.rows T') ++ M') maps mro) 1 (.box 2 8) (X.tv T' J') = some (X.gst T' J' F M' maps mro) := by
  have h1 : (X.tv T' J').isCell = true := growV_cell _ _ _
  have h2 : (X.tv T' J').cells = [X.tv T' J'] := growV_cells _ _ _
  simp [storeA, WX.gsc, WX.gst, WX.base, WX.oc, bkC, h1, h2, setAt]
theorem y_loadT (T : List (List Int)) (J M : List (Nat × Nat)) (F : List (List AV)) (maps : List (List AV × List AV)) (mro : Nat) : loadA (X.gst T J F M maps mro) none (.box 2 8) = some (X.tv T J) := rfl
theorem y_load (T : List (List Int)) (J M : List (Nat × Nat)) (E F : List (List AV)) (maps : List (List AV × List AV)) (mro : Nat) {q : Nat} {cs : List AV} (hF : F[q]? = some cs) (n : Option Nat) (off p : Nat) (hp : p = 7 + E.length + q) : loadA (X.gst T J (E ++ F) M maps mro) n (.box p off) = partA n cs off := by
  subst hp
  have : (X.base T J ++ (E ++ F))[7 + E.length + q]? = some cs := by
    rw [← List.append_assoc, List.getElem?_append_right (by rw [w_len]; omega), w_len, show 7 + E.length + q - (7 + E.length) = q by omega, hF]
  simp only [loadA, WX.gst, this, Option.bind_some]
theorem y_store (T : List (List Int)) (J M : List (Nat × Nat)) (E F : List (List AV)) (maps : List (List AV × List AV)) (mro : Nat) {q : Nat} {cs : List AV} (hF : F[q]? = some cs) (n : Nat) (off p : Nat) (hp : p = 7 + E.length + q) (v : AV) (h1 : v.cells.length = n) (h2 : off + n ≤ cs.length) (h3 : v.cells.all AV.isCell = true) : storeA (X.gst T J (E ++ F) M maps mro) n (.box p off) v = some (X.gst T J (E ++ F.set q (setAt cs off v.cells)) M maps mro) := by
  subst hp
  have ro : (X.gst T J (E ++ F) M maps mro).ro = 0 := rfl
  have hb : (X.gst T J (E ++ F) M maps mro).boxes[7 + E.length + q]? = some cs := by
    show (X.base T J ++ (E ++ F))[7 + E.length + q]? = some cs
    rw [← List.append_assoc, List.getElem?_append_right (by rw [w_len]; omega), w_len, show 7 + E.length + q - (7 + E.length) = q by omega, hF]
  simp only [storeA, hb, Option.bind_some, ro, Nat.zero_le, h1, h2, h3, and_self, if_true]
  simp only [WX.gst]
  congr 2
  rw [← List.append_assoc, List.set_append_right _ _ (by rw [w_len]; omega), w_len, show 7 + E.length + q - (7 + E.length) = q by omega, List.append_assoc]
theorem y_alloc (T : List (List Int)) (J M : List (Nat × Nat)) (E : List (List AV)) (maps : List (List AV × List AV)) (mro : Nat) {C : Cfg} {R : Rec} {d : Bool} {e : Env} (z : List AV) : operA C R d e (X.gst T J E M maps mro) (.alloc z) = some (.box (7 + E.length) 0, X.gst T J (E ++ [z]) M maps mro) := by
  have : (X.gst T J E M maps mro).boxes.length = 7 + E.length := w_len ..
  rw [op_alloc, this]
  simp only [WX.gst, List.append_assoc]
theorem tq_cell (q : List Int) (c0 c1 : Nat) : (X.tq q c0 c1).all AV.isCell = true := by
  have p0 := growV_cell c0 3 (X.m q 0)
  have p1 := growV_cell c1 3 (X.m q 1)
  simp [WX.tq, tcC, arr4, p0, p1]
theorem tq_len (q : List Int) (c0 c1 : Nat) : (X.tq q c0 c1).length = 7 := rfl
theorem part7 {cs : List AV} (h : cs.length = 7) : partA (some 7) cs 0 = some (.agg cs) := by
  simp [partA, h]
  exact List.take_of_length_le (by omega)
theorem body_yield (X : WX) (z : AV) (l : List (Nat × AV)) (h5 : gt (mkE 44 z l) 5 = .box 2 0) (T : List (List Int)) (hT : T.length < 100000) (J M : List (Nat × Nat)) (E : List (List AV)) (q : List Int) (c0 c1 : Nat) :
    ∃ e, run Cv 53 body53_1 (mkE 44 z ((8, .box (7 + E.length) 0) :: (36, .agg (X.tq q c0 c1)) :: l)) (X.gst T J (E ++ [X.tq q c0 c1]) M (mapS (X.sm q)) 0) = some (.nm, e, X.gst (T ++ [q]) (yJ T J M) (E ++ [X.tq q c0 c1]) (yM T M) (mapS (X.sm q)) 1) := by
  have h1 := y_app (X := X) T hT J M (E ++ [X.tq q c0 c1]) q (mapS (X.sm q)) 1
  have h2 := y_storeT (X := X) T (T ++ [q]) J (yJ T J M) (yM T M) (E ++ [X.tq q c0 c1]) (mapS (X.sm q)) 1
  have h3 := y_loadT (X := X) T J M (E ++ [X.tq q c0 c1]) (mapS (X.sm q)) 0
  have h4 := y_load (X := X) T J M E [X.tq q c0 c1] (mapS (X.sm q)) 0 (q := 0) rfl (some 7) 0 (7 + E.length) rfl
  rw [part7 (tq_len q c0 c1)] at h4
  simp only [List.append_assoc] at h1 h2
  have h6 := y_bsf (X := X) T J M (E ++ [X.tq q c0 c1]) q c0 c1
  simp (maxSteps := 10000000) [-List.getD_eq_getElem?_getD, -loadA, -storeA, -boxA, -cut, body53_1, h5, h1, h2, h3, h4, h6]
end
end Go.Ai

set_option maxRecDepth 100000
namespace Go.Ai
open Go.Office (Ft Rl Us Nt Bk Mt Dy DyK Dy0 Sg addB clrB moveN now0)
section
variable {X : WX}
def chN (X : WX) (T : List (List Int)) (J M : List (Nat × Nat)) : Nat := X.h.ch.length + J.length + (if T = [] then 0 else 1) + M.length
theorem g_chains (T : List (List Int)) (J : List (Nat × Nat)) (E : List (List AV)) (M : List (Nat × Nat)) (maps : List (List AV × List AV)) (mro : Nat) : (X.gst T J E M maps mro).chains.length = chN X T J M := by
  simp only [WX.gst, List.length_append, gC_len, chN]
theorem cut_y (hX : X.Ok) (T : List (List Int)) (J M : List (Nat × Nat)) (E F : List (List AV)) (q : List Int) (hE : ∀ nc, chN X T J M ≤ nc → E.all (fun cs => cs.all (under (7 + E.length) nc 1 1 6)) = true) :
    cut (X.gst T J E M (mapS (X.sm q)) 0) (X.gst (T ++ [q]) (yJ T J M) (E ++ F) (yM T M) (mapS (X.sm q)) 1) [.bool true] = X.gst (T ++ [q]) (yJ T J M) E (yM T M) (mapS (X.sm q)) 1 := by
  have hlen0 : (X.gst T J E M (mapS (X.sm q)) 0).boxes.length = 7 + E.length := w_len ..
  have ht : (X.base (T ++ [q]) (yJ T J M) ++ (E ++ F)).take (7 + E.length) = X.base (T ++ [q]) (yJ T J M) ++ E := by
    rw [← List.append_assoc, List.take_left']
    rw [w_len]
  have hne : T ++ [q] ≠ [] := by simp
  have hdry : ∀ nc, chN X T J M ≤ nc → dryAt nc (X.gst T J E M (mapS (X.sm q)) 0) (X.gst (T ++ [q]) (yJ T J M) (E ++ F) (yM T M) (mapS (X.sm q)) 1) [.bool true] = decide (X.h.ch.length + (yJ T J M).length < nc) := by
    intro nc hnc
    have hle : X.h.ch.length ≤ nc := by unfold chN at hnc; omega
    have b1 := base_under hX (T ++ [q]) (yJ T J M) (7 + E.length) nc 1 (by omega) hle
    have b4 := hE nc hnc
    have b5 := hX.L (7 + E.length) nc 1 (by omega) hle
    have k1 := ks_under (7 + E.length) nc 1 1 4 (X.sm q)
    have k2 := vs_under (7 + E.length) nc 1 1 4 (X.sm q)
    unfold dryAt
    rw [hlen0]
    have e1 : (X.gst (T ++ [q]) (yJ T J M) (E ++ F) (yM T M) (mapS (X.sm q)) 1).boxes = X.base (T ++ [q]) (yJ T J M) ++ (E ++ F) := rfl
    have e2 : (X.gst T J E M (mapS (X.sm q)) 0).maps.length = 1 := rfl
    have e3 : (X.gst T J E M (mapS (X.sm q)) 0).loops.length = 1 := rfl
    have e4 : (X.gst (T ++ [q]) (yJ T J M) (E ++ F) (yM T M) (mapS (X.sm q)) 1).maps = [(ksM (X.sm q), vsM (X.sm q))] := rfl
    have e5 : (X.gst (T ++ [q]) (yJ T J M) (E ++ F) (yM T M) (mapS (X.sm q)) 1).loops = [X.L] := rfl
    rw [e1, ht, e2, e3, e4, e5]
    simp only [List.take_succ_cons, List.take_zero, List.all_cons, List.all_nil, Bool.and_true, List.all_append, b1, b4, b5, k1, k2, Bool.true_and, hne, false_or]
    simp [under]
  have hcl : (X.gst (T ++ [q]) (yJ T J M) (E ++ F) (yM T M) (mapS (X.sm q)) 1).chains.length = X.h.ch.length + (yJ T J M).length + 1 + (yM T M).length := by
    rw [g_chains, chN, if_neg hne]
  have hcutAt : cutAt (X.gst (T ++ [q]) (yJ T J M) (E ++ F) (yM T M) (mapS (X.sm q)) 1).chains.length (X.gst T J E M (mapS (X.sm q)) 0) (X.gst (T ++ [q]) (yJ T J M) (E ++ F) (yM T M) (mapS (X.sm q)) 1) = X.gst (T ++ [q]) (yJ T J M) E (yM T M) (mapS (X.sm q)) 1 := by
    unfold cutAt
    rw [hlen0]
    have e1 : (X.gst (T ++ [q]) (yJ T J M) (E ++ F) (yM T M) (mapS (X.sm q)) 1).boxes = X.base (T ++ [q]) (yJ T J M) ++ (E ++ F) := rfl
    rw [e1, ht, List.take_length]
    simp [WX.gst, mapS]
  have hlt2 : X.h.ch.length + (yJ T J M).length < (X.gst (T ++ [q]) (yJ T J M) (E ++ F) (yM T M) (mapS (X.sm q)) 1).chains.length := by rw [hcl]; omega
  have hge : chN X T J M ≤ (X.gst (T ++ [q]) (yJ T J M) (E ++ F) (yM T M) (mapS (X.sm q)) 1).chains.length := by
    rw [hcl]; unfold chN yJ yM
    split
    · rw [List.length_append, List.length_nil]; omega
    · omega
  rw [cut_keep _ _ _ (by rw [hdry _ hge, decide_eq_true_eq]; exact hlt2), hcutAt]
  rw [g_chains T]
  by_cases h : T = []
  · right
    rw [hdry _ (Nat.le_refl _), decide_eq_false_iff_not]
    unfold chN yJ
    rw [if_pos h, if_pos h, List.length_append]; omega
  · left
    rw [hcl]
    unfold chN yJ yM
    rw [if_neg h, if_neg h, if_neg h]
theorem round_yield (hX : X.Ok) (z : AV) (l : List (Nat × AV)) (hL : X.L = lpO z l) (h5 : gt (mkE 44 z l) 5 = .box 2 0) (T : List (List Int)) (hT : T.length < 100000) (J M : List (Nat × Nat)) (E : List (List AV)) (q : List Int) (c0 c1 : Nat) (hE : ∀ nc, chN X T J M ≤ nc → E.all (fun cs => cs.all (under (7 + E.length) nc 1 1 6)) = true) :
    roundA (run Cv) 0 [.agg (X.tq q c0 c1)] (X.gst T J E M (mapS (X.sm q)) 0) = some (.bool true, X.gst (T ++ [q]) (yJ T J M) E (yM T M) (mapS (X.sm q)) 1) := by
  obtain ⟨e, hb⟩ := body_yield X.busy z l h5 T hT J M E q c0 c1
  have hasg : run Cv 53 asg53_1 (mkE 44 z ((36, .agg (X.tq q c0 c1)) :: l)) (X.gst T J E M (mapS (X.sm q)) 0) = some (.nm, mkE 44 z ((8, .box (7 + E.length) 0) :: (36, .agg (X.tq q c0 c1)) :: l), X.gst T J (E ++ [X.tq q c0 c1]) M (mapS (X.sm q)) 0) := by
    have hal := fun R e => y_alloc (X := X) T J M E (mapS (X.sm q)) 0 (C := Cv) (R := R) (d := false) (e := e) [I 0, I 0, I 0, I 0, .nilm, .nils, .nils]
    have hst := y_store (X := X) T J M E [[I 0, I 0, I 0, I 0, .nilm, .nils, .nils]] (mapS (X.sm q)) 0 (q := 0) rfl 7 0 (7 + E.length) rfl (.agg (X.tq q c0 c1)) rfl (by decide) (tq_cell q c0 c1)
    have hset : [[I 0, I 0, I 0, I 0, .nilm, .nils, .nils]].set 0 (setAt [I 0, I 0, I 0, I 0, .nilm, .nils, .nils] 0 (AV.agg (X.tq q c0 c1)).cells) = [X.tq q c0 c1] := rfl
    rw [hset] at hst
    simp (maxSteps := 10000000) [-List.getD_eq_getElem?_getD, -loadA, -storeA, -boxA, -cut, -op_alloc, asg53_1, hal, hst]
  have hbusy : busyA 0 (X.gst T J (E ++ [X.tq q c0 c1]) M (mapS (X.sm q)) 0) = some (X.busy.gst T J (E ++ [X.tq q c0 c1]) M (mapS (X.sm q)) 0) := by
    simp [busyA, WX.gst, hL, lpO, WX.busy]
    exact ⟨rfl, rfl⟩
  have hloop : (X.gst T J E M (mapS (X.sm q)) 0).loops[0]? = some X.L := rfl
  have hl2 : (X.busy.gst (T ++ [q]) (yJ T J M) (E ++ [X.tq q c0 c1]) (yM T M) (mapS (X.sm q)) 1).loops[0]? = some X.busy.L := rfl
  have hcut := cut_y hX T J M E [X.tq q c0 c1] q hE
  simp only [roundA, hloop]
  rw [show X.L.ps = [36] from by rw [hL]; rfl, show X.L.f = 53 from by rw [hL]; rfl, show X.L.asg = asg53_1 from by rw [hL]; rfl, show X.L.env = mkE 44 z l from by rw [hL]; rfl]
  simp only [List.length_singleton, if_true, List.zip_cons_cons, List.zip_nil_right, List.foldl_cons, List.foldl_nil, mkE_set, hasg, innerA, hbusy, bodyRun]
  rw [show X.L.f = 53 from by rw [hL]; rfl, show X.L.body = body53_1 from by rw [hL]; rfl]
  have hb' : run Cv 53 body53_1 (mkE 44 z ((8, .box (7 + E.length) 0) :: (36, .agg (X.tq q c0 c1)) :: l)) (X.busy.gst T J (E ++ [X.tq q c0 c1]) M (mapS (X.sm q)) 0) = some (.nm, e, X.busy.gst (T ++ [q]) (yJ T J M) (E ++ [X.tq q c0 c1]) (yM T M) (mapS (X.sm q)) 1) := hb
  rw [hb']
  have hput : putLoop 0 (fun L => { L with st := .ready, pend := none }) (.bool true) (X.busy.gst (T ++ [q]) (yJ T J M) (E ++ [X.tq q c0 c1]) (yM T M) (mapS (X.sm q)) 1) = some (.bool true, X.gst (T ++ [q]) (yJ T J M) (E ++ [X.tq q c0 c1]) (yM T M) (mapS (X.sm q)) 1) := by
    simp [putLoop, hl2]
    simp [WX.gst, WX.busy, hL, lpO]
    exact ⟨rfl, rfl⟩
  simp only [leaveA, hput, cutR, hcut]
end
end Go.Ai

set_option maxRecDepth 100000
namespace Go.Ai
open Go.Office (Ft Rl Us Nt Bk Mt Dy DyK Dy0 Sg addB clrB moveN now0)
theorem t_cut1 (X : TX) (hX : X.Ok) (ms' : List Mt) (sm sm' : SM) (e : Env) (he : ∀ nc, e.all (under (X.B.length + 1) nc 1 1 6) = true) : cut (X.s0 [] sm) (X.s0 ms' sm') e = X.s0 ms' sm' := by
  have hlen0 : (X.s0 [] sm).boxes.length = X.B.length + 1 := by simp [TX.s0]
  have ht : (X.B ++ [X.tc ms']).take (X.B.length + 1) = X.B ++ [X.tc ms'] := List.take_of_length_le (by simp)
  have hchl : ∀ ms : List Mt, (X.ch ++ growC 3 (ms.map metA)).length = X.ch.length + if ms = [] then 0 else 1 := fun ms => by
    rw [List.length_append]
    unfold growC
    by_cases h : ms = []
    · simp [h]
    · simp [h]
  have hdry : ∀ nc, X.ch.length ≤ nc → dryAt nc (X.s0 [] sm) (X.s0 ms' sm') e = decide (ms' = [] ∨ X.ch.length < nc) := by
    intro nc hnc
    have b1 := hX.Bu (X.B.length + 1) nc (by omega) hnc
    have b2 := tc_under X hX ms' (X.B.length + 1) nc hnc
    have b5 := hX.Lu (X.B.length + 1) nc (by omega) hnc
    have b6 := he nc
    have k1 := ks_under (X.B.length + 1) nc 1 1 4 sm'
    have k2 := vs_under (X.B.length + 1) nc 1 1 4 sm'
    unfold dryAt
    rw [hlen0]
    have e1 : (X.s0 ms' sm').boxes = X.B ++ [X.tc ms'] := rfl
    have e2 : (X.s0 [] sm).maps.length = 1 := rfl
    have e3 : (X.s0 [] sm).loops.length = 1 := rfl
    have e4 : (X.s0 ms' sm').maps = [(ksM sm', vsM sm')] := rfl
    have e5 : (X.s0 ms' sm').loops = [X.L] := rfl
    rw [e1, ht, e2, e3, e4, e5]
    simp only [List.take_succ_cons, List.take_zero, List.all_cons, List.all_nil, Bool.and_true, List.all_append, b1, b2, b5, b6, k1, k2, Bool.true_and]
  have hle : ∀ ms : List Mt, X.ch.length ≤ (X.ch ++ growC 3 (ms.map metA)).length := fun ms => by rw [hchl]; omega
  have c1 : (X.s0 ms' sm').chains = X.ch ++ growC 3 (ms'.map metA) := rfl
  have c2 : (X.s0 [] sm).chains = X.ch ++ growC 3 (([] : List Mt).map metA) := rfl
  have h2 : dryAt (X.s0 ms' sm').chains.length (X.s0 [] sm) (X.s0 ms' sm') e = true := by
    rw [c1, hdry _ (hle ms'), hchl, decide_eq_true_eq]
    by_cases h : ms' = []
    · exact .inl h
    · right; rw [if_neg h]; omega
  have h1 : (X.s0 ms' sm').chains.length = (X.s0 [] sm).chains.length ∨ dryAt (X.s0 [] sm).chains.length (X.s0 [] sm) (X.s0 ms' sm') e = false := by
    rw [c1, c2, hdry _ (hle []), hchl, hchl]
    by_cases h : ms' = []
    · left; rw [h]
    · right; simp [h]
  rw [cut_keep _ _ _ h2 h1]
  unfold cutAt
  rw [hlen0]
  have e1 : (X.s0 ms' sm').boxes = X.B ++ [X.tc ms'] := rfl
  rw [e1, ht]
  simp [TX.s0]
  exact List.take_of_length_le (by simp)
section
variable {X : WX}
def WX.t0 (X : WX) (T : List (List Int)) (J : List (Nat × Nat)) (E : List (List AV)) (q : List Int) : TX := { x := X.x, nv := X.h.v, B := X.base T J ++ (E ++ [arr4 (now0 q)]), L := X.L, ch := X.h.ch ++ J ++ growC 7 (X.rows T), u := 0, q := now0 q, R0 := .nils }
def WX.t1 (X : WX) (T : List (List Int)) (J : List (Nat × Nat)) (E : List (List AV)) (q : List Int) : TX := { x := X.x, nv := X.h.v, B := X.base T J ++ (E ++ [arr4 (now0 q)]), L := X.L, ch := X.h.ch ++ J ++ growC 7 (X.rows T) ++ growC 3 (X.m q 0), u := 1, q := now0 q, R0 := growV (X.h.ch ++ J ++ growC 7 (X.rows T)).length 3 (X.m q 0) }
def noE (E : List (List AV)) : Prop := ∀ a b c d n, E.all (fun cs => cs.all (under a b c d (n + 1))) = true
theorem ch_len (T : List (List Int)) (J : List (Nat × Nat)) : (X.h.ch ++ J ++ growC 7 (X.rows T)).length = X.h.ch.length + J.length + if T = [] then 0 else 1 := by
  simp only [List.length_append, gC_len]
theorem B_under (hX : X.Ok) (T : List (List Int)) (J : List (Nat × Nat)) (E : List (List AV)) (hE : noE E) (q : List Int) (a nc m : Nat) (ha : (X.base T J ++ (E ++ [arr4 (now0 q)])).length ≤ a) (hn : (X.h.ch ++ J ++ growC 7 (X.rows T)).length ≤ nc) : (X.base T J ++ (E ++ [arr4 (now0 q)])).all (fun cs => cs.all (under a nc m 1 6)) = true := by
  rw [ch_len] at hn
  have h7 : 7 ≤ a := by
    rw [w_len] at ha; omega
  have b1 := base_under hX T J a nc m h7 (by omega)
  have b2 : decide (T = [] ∨ X.h.ch.length + J.length < nc) = true := by
    rw [decide_eq_true_eq]
    by_cases h : T = []
    · exact .inl h
    · right; rw [if_neg h] at hn; omega
  rw [b2] at b1
  rw [List.all_append, List.all_append, b1, hE]
  simp only [List.all_cons, arr4_under, List.all_nil, Bool.and_self]
theorem t0_ok (hX : X.Ok) (T : List (List Int)) (J : List (Nat × Nat)) (E : List (List AV)) (hE : noE E) (q : List Int) : (X.t0 T J E q).Ok where
  x := hX.x
  n4 := hX.n4
  d6 := hX.d6
  d1 := hX.d1
  f0 := hX.f0
  does := hX.does 0
  u := by show 0 < 2; omega
  nvc := hX.h.cell
  nvp := by
    obtain ⟨r, h1, h2⟩ := hX.row
    exact ⟨r, _, h1, h2⟩
  nvu a nc c d n hn := hX.h.un' a nc c d n (by have : (X.h.ch ++ J ++ growC 7 (X.rows T)).length ≤ nc := hn; rw [ch_len] at this; omega)
  Bu a nc ha hn := B_under hX T J E hE q a nc 1 ha hn
  Lu a nc ha hn := hX.L a nc 1 (by have : (X.base T J ++ (E ++ [arr4 (now0 q)])).length ≤ a := ha; rw [w_len] at this; omega) (by have : (X.h.ch ++ J ++ growC 7 (X.rows T)).length ≤ nc := hn; rw [ch_len] at this; omega)
  R0c := rfl
  R0u _ _ _ _ _ _ := rfl
theorem t1_ok (hX : X.Ok) (T : List (List Int)) (J : List (Nat × Nat)) (E : List (List AV)) (hE : noE E) (q : List Int) : (X.t1 T J E q).Ok where
  x := hX.x
  n4 := hX.n4
  d6 := hX.d6
  d1 := hX.d1
  f0 := hX.f0
  does := hX.does 1
  u := by show 1 < 2; omega
  nvc := hX.h.cell
  nvp := by
    obtain ⟨r, h1, h2⟩ := hX.row
    exact ⟨r, _, h1, h2⟩
  nvu a nc c d n hn := hX.h.un' a nc c d n (by have : (X.h.ch ++ J ++ growC 7 (X.rows T) ++ growC 3 (X.m q 0)).length ≤ nc := hn; rw [List.length_append, ch_len] at this; omega)
  Bu a nc ha hn := B_under hX T J E hE q a nc 1 ha (by have : (X.h.ch ++ J ++ growC 7 (X.rows T) ++ growC 3 (X.m q 0)).length ≤ nc := hn; rw [List.length_append] at this; omega)
  Lu a nc ha hn := hX.L a nc 1 (by have : (X.base T J ++ (E ++ [arr4 (now0 q)])).length ≤ a := ha; rw [w_len] at this; omega) (by have : (X.h.ch ++ J ++ growC 7 (X.rows T) ++ growC 3 (X.m q 0)).length ≤ nc := hn; rw [List.length_append, ch_len] at this; omega)
  R0c := growV_cell _ _ _
  R0u a nc c d n hn := by
    have h : (X.h.ch ++ J ++ growC 7 (X.rows T) ++ growC 3 (X.m q 0)).length ≤ nc := hn
    show under a nc c d (n + 1) (growV (X.h.ch ++ J ++ growC 7 (X.rows T)).length 3 (X.m q 0)) = true
    rw [growV_under, decide_eq_true_eq]
    by_cases hm : X.m q 0 = []
    · exact .inl hm
    · right
      rw [List.length_append, growC_some _ hm, List.length_singleton] at h
      omega
theorem sg_b (q : List Int) (u : Nat) : X.x.bk.sing u X.x.days.toNat 0 (now0 q) 0 = X.b.sg q u := (Go.Office.sg_note (b := X.x.bk) X.K q u).symm
theorem mt_b (q : List Int) (u : Nat) : X.x.bk.meet u X.x.days.toNat 0 (now0 q) = X.b.mt q u := (Go.Office.meet_note (b := X.x.bk) X.K u _ _ _).symm
def WX.g0 (X : WX) (T : List (List Int)) (J : List (Nat × Nat)) (E : List (List AV)) (q : List Int) (sm : SM) : St := X.gst T J (E ++ [arr4 (now0 q), tcC (now0 q) .nils .nils]) [] (mapS sm) 0
def WX.c0 (X : WX) (T : List (List Int)) (J : List (Nat × Nat)) : Nat := (X.h.ch ++ J ++ growC 7 (X.rows T)).length
def WX.c1 (X : WX) (T : List (List Int)) (J : List (Nat × Nat)) (q : List Int) : Nat := (X.h.ch ++ J ++ growC 7 (X.rows T) ++ growC 3 (X.m q 0)).length
def WX.M2 (X : WX) (q : List Int) : List (Nat × Nat) := growC 3 (X.m q 0) ++ growC 3 (X.m q 1)
def WX.g2 (X : WX) (T : List (List Int)) (J : List (Nat × Nat)) (E : List (List AV)) (q : List Int) : St := X.gst T J (E ++ [arr4 (now0 q), X.tq q (X.c0 T J) (X.c1 T J q)]) (X.M2 q) (mapS (X.sm q)) 0
theorem s0_a (T : List (List Int)) (J : List (Nat × Nat)) (E : List (List AV)) (q : List Int) (sm : SM) : (X.t0 T J E q).s0 [] sm = X.g0 T J E q sm := by
  simp [TX.s0, WX.g0, WX.gst, WX.t0, TX.tc, TX.mv, growV, growC, tcC, mapS]
theorem s0_b (T : List (List Int)) (J : List (Nat × Nat)) (E : List (List AV)) (q : List Int) (sm : SM) : (X.t0 T J E q).s0 (X.b.mt q 0) sm = (X.t1 T J E q).s0 [] sm := by
  have e1 : (X.t0 T J E q).tc (X.b.mt q 0) = (X.t1 T J E q).tc [] := by
    simp [TX.tc, WX.t0, WX.t1, TX.mv, growV_nil, WX.m]
  unfold TX.s0
  rw [e1]
  simp [WX.t0, WX.t1, growC_nil, WX.m]
theorem s0_c (T : List (List Int)) (J : List (Nat × Nat)) (E : List (List AV)) (q : List Int) (sm : SM) (hsm : sm = X.sm q) : (X.t1 T J E q).s0 (X.b.mt q 1) sm = X.g2 T J E q := by
  subst hsm
  have e1 : (X.t1 T J E q).tc (X.b.mt q 1) = X.tq q (X.c0 T J) (X.c1 T J q) := by
    simp [TX.tc, WX.t1, TX.mv, WX.m, WX.tq, tcC, WX.c0, WX.c1]
  unfold TX.s0 WX.g2 WX.gst
  rw [e1]
  simp [WX.t1, WX.m, WX.M2, mapS]
def head88_0 (E : List (List AV)) (k : Int) : Env := mkE 87 .any [(25, I k), (9, .box (7 + E.length + 1) 0), (6, .box (7 + E.length) 0), (4, .box 4 0), (3, .box 5 0), (2, .box 3 0)]
theorem b_len (T : List (List Int)) (J : List (Nat × Nat)) (E : List (List AV)) (q : List Int) : (X.base T J ++ (E ++ [arr4 (now0 q)])).length = 7 + E.length + 1 := by
  rw [w_len, List.length_append, List.length_singleton]; omega
theorem loop88_0 (hX : X.Ok) (T : List (List Int)) (J : List (Nat × Nat)) (E : List (List AV)) (hE : noE E) (q : List Int) :
    run Cv 88 (.loop keep88_0 body88_0) (head88_0 E 0) (X.g0 T J E q sm0) = some (.ex 0, mkE 87 .any [(26, .bool false), (25, I 2), (9, .box (7 + E.length + 1) 0), (6, .box (7 + E.length) 0), (4, .box 4 0), (3, .box 5 0), (2, .box 3 0)], X.g2 T J E q) := by
  have ok0 := t0_ok hX T J E hE q
  have ok1 := t1_ok hX T J E hE q
  have s0 := sing_callA _ ok0 sm0
  have s1 := sing_callA _ ok1 (putS 0 (X.b.sg q 0) 0 sm0)
  have x0 : (X.t0 T J E q).x.bk.meet (X.t0 T J E q).u (X.t0 T J E q).x.days.toNat 0 (X.t0 T J E q).q = X.b.mt q 0 := mt_b q 0
  have y0 : (X.t0 T J E q).x.bk.sing (X.t0 T J E q).u (X.t0 T J E q).x.days.toNat 0 (X.t0 T J E q).q 0 = X.b.sg q 0 := sg_b q 0
  have x1 : (X.t1 T J E q).x.bk.meet (X.t1 T J E q).u (X.t1 T J E q).x.days.toNat 0 (X.t1 T J E q).q = X.b.mt q 1 := mt_b q 1
  have y1 : (X.t1 T J E q).x.bk.sing (X.t1 T J E q).u (X.t1 T J E q).x.days.toNat 0 (X.t1 T J E q).q 0 = X.b.sg q 1 := sg_b q 1
  rw [x0, y0] at s0
  rw [x1, y1] at s1
  have hb0 : (X.t0 T J E q).B.length = 7 + E.length + 1 := b_len T J E q
  have hb1 : (X.t1 T J E q).B.length = 7 + E.length + 1 := b_len T J E q
  have hc0 := fun e he => t_cut1 _ ok0 (X.b.mt q 0) sm0 (putS 0 (X.b.sg q 0) 0 sm0) e he
  have hc1 := fun e he => t_cut1 _ ok1 (X.b.mt q 1) (putS 0 (X.b.sg q 0) 0 sm0) (putS 1 (X.b.sg q 1) 0 (putS 0 (X.b.sg q 0) 0 sm0)) e he
  rw [hb0] at s0 hc0
  rw [hb1] at s1 hc1
  have bc0 : (X.t0 T J E q).bc = X.oc .nils := rfl
  have bc1 : (X.t1 T J E q).bc = X.oc .nils := rfl
  have u0 : (X.t0 T J E q).u = 0 := rfl
  have u1 : (X.t1 T J E q).u = 1 := rfl
  have e0 : ((0 : Nat) : Int) = 0 := rfl
  have e1 : ((1 : Nat) : Int) = 1 := rfl
  rw [bc0, u0, e0] at s0
  rw [bc1, u1, e1] at s1
  have hsm : putS 1 (X.b.sg q 1) 0 (putS 0 (X.b.sg q 0) 0 sm0) = X.sm q := rfl
  rw [hsm, s0_c T J E q _ rfl] at s1 hc1
  rw [s0_b] at s0 hc0
  rw [s0_a] at s0 hc0
  generalize hS1 : (X.t1 T J E q).s0 [] (putS 0 (X.b.sg q 0) 0 sm0) = S1 at *
  have l0 : loadA (X.g0 T J E q sm0) (some 9) (.box 3 0) = some (.agg (X.oc .nils)) := rfl
  have l1 : loadA S1 (some 9) (.box 3 0) = some (.agg (X.oc .nils)) := by rw [← hS1]; rfl
  have qq1 : ∀ k, k < 8 → k < 7 + E.length + 1 + 1 := fun k hk => by omega
  have qq2 : 7 + E.length < 7 + E.length + 1 + 1 := by omega
  have r0 : run Cv 88 (.loop keep88_0 body88_0) (head88_0 E 0) (X.g0 T J E q sm0) = run Cv 88 (.loop keep88_0 body88_0) (head88_0 E 1) S1 := by
    rw [run_loop]
    generalize MC.loop keep88_0 body88_0 = LL
    simp (maxSteps := 10000000) [-List.getD_eq_getElem?_getD, -loadA, -cut, -List.all_eq_true, body88_0, keep88_0, head88_0, l0, s0]
    rw [hc0]
    intro nc
    simp (maxSteps := 10000000) [-List.getD_eq_getElem?_getD, -List.all_eq_true, qq1, qq2]
  have r1 : run Cv 88 (.loop keep88_0 body88_0) (head88_0 E 1) S1 = run Cv 88 (.loop keep88_0 body88_0) (head88_0 E 2) (X.g2 T J E q) := by
    rw [run_loop]
    generalize MC.loop keep88_0 body88_0 = LL
    simp (maxSteps := 10000000) [-List.getD_eq_getElem?_getD, -loadA, -cut, -List.all_eq_true, body88_0, keep88_0, head88_0, l1, s1]
    rw [hc1]
    intro nc
    simp (maxSteps := 10000000) [-List.getD_eq_getElem?_getD, -List.all_eq_true, qq1, qq2]
  refine r0.trans (r1.trans ?_)
  rw [run_loop]
  simp (maxSteps := 10000000) [-List.getD_eq_getElem?_getD, -loadA, -cut, body88_0, keep88_0, head88_0]
end
end Go.Ai

set_option maxRecDepth 100000
namespace Go.Ai
open Go.Office (Ft Rl Us Nt Bk Mt Dy DyK Dy0 Sg addB clrB moveN now0)
structure WX.Go (X : WX) : Prop extends WX.Ok X where
  loop : ∃ z l, X.L = lpO z l ∧ gt (mkE 44 z l) 5 = .box 2 0
theorem callA_yld {C : Cfg} {R : Rec} {d : Bool} {l : Nat} {args : List AV} {σ : St} : callA C R d (.yld l) args σ = roundA R l args σ := rfl
section
variable {X : WX}
def WX.rq (X : WX) (q : List Int) : Bool := rightN X.K (X.sm q)
theorem right_callA (hX : X.Ok) (T : List (List Int)) (J : List (Nat × Nat)) (E : List (List AV)) (q : List Int) (c0 c1 : Nat) : callA Cv (run Cv) false (rightV X) [.agg (X.tq q c0 c1)] (X.g2 T J E q) = some (.bool (X.rq q), X.g2 T J E q) := by
  obtain ⟨r, hr, hp⟩ := hX.row
  have h := right_call X.x hX.x X.K r .nils hr (by have := hX.lk; omega) ⟨[], .inl ⟨rfl, rfl⟩⟩ (now0 q) (X.sm q) (growP 3 (X.m q 0)) (growP 3 (X.m q 1)) ⟨_, growP_row _ _⟩ ⟨_, growP_row _ _⟩
  have p1 := hX.x.fr.pur
  have p2 := hX.x.q0.pur
  have p3 := hX.x.q1.pur
  have k1 := fun σ n => ks_pur σ n (X.sm q)
  have k2 := fun σ n => vs_pur σ n (X.sm q)
  have g0 := fun c σ n => growV_puri c 3 (X.m q 0) σ n
  have g1 := fun c σ n => growV_puri c 3 (X.m q 1) σ n
  have hm : (X.g2 T J E q).maps[0]? = some (ksM (X.sm q), vsM (X.sm q)) := rfl
  have hpu : purAll (pur (X.g2 T J E q) 12) ([.agg (X.oc .nils)] ++ [.agg (X.tq q c0 c1)] ++ []) = some ([.agg (bkC X.x r .nils), trA (now0 q) (X.sm q) (growP 3 (X.m q 0)) (growP 3 (X.m q 1))], true) := by
    simp [purAll, pur, WX.oc, bkC, WX.tq, tcC, arr4, trA, trC, p1, p2, p3, hp, hm, k1, k2, g0, g1]
  rw [rightV, ca_none (by rfl), hpu]
  simp only [pureCallA, pureA_call, h, backA, if_true]
  rfl
theorem never_eq (hX : X.Ok) (q : List Int) (hq : q.length = X.x.fs.length) (hq0 : ∀ i, i < q.length → 0 ≤ q.getD i (-1)) : ∃ b, eqCells (arr4 (now0 q)) [I (-1), I (-1), I (-1), I (-1)] = some b ∧ (b = true → X.x.fs.length = 0) := by
  refine ⟨_, rfl, fun h => ?_⟩
  refine Classical.byContradiction fun hn => ?_
  have := hq0 0 (by omega)
  have e : now0 q 0 = q.getD 0 (-1) := rfl
  simp only [Bool.and_eq_true, beq_iff_eq] at h
  omega
def Step (T : List (List Int)) (J : List (Nat × Nat)) (T' : List (List Int)) (J' : List (Nat × Nat)) : Prop := (J' = J ∧ (T' = T ∨ (T ≠ [] ∧ T' ≠ []))) ∨ (T = [] ∧ J = [] ∧ T' ≠ [])
theorem leaf (hX : X.Go) (T : List (List Int)) (hT : T.length < 100000) (J : List (Nat × Nat)) (hJ : T = [] → J = []) (E : List (List AV)) (hE : noE E) (q : List Int) (hq : q.length = X.x.fs.length) (hq0 : ∀ i, i < q.length → 0 ≤ q.getD i (-1)) :
    ∃ J', callA Cv (run Cv) false nextV [.agg (arr4 (now0 q)), I X.x.fs.length] (X.st T J E) = some (.bool true, X.st (if X.rq q then T ++ [q] else T) J' E) ∧ Step T J (if X.rq q then T ++ [q] else T) J' := by
  have hX' := hX.toOk
  obtain ⟨z, l, hL, h5⟩ := hX.loop
  have hlen := flen hX'.x
  have hlp := loop88_0 hX' T J E hE q
  have hlp' := fun E (hE : mask keep88_0 E = _) => run_at hlp hE
  simp only [keep88_0, head88_0] at hlp'
  obtain ⟨b, hb1, hb2⟩ := never_eq hX' q hq hq0
  have hR := right_callA hX' T J E q (X.c0 T J) (X.c1 T J q)
  have hY := round_yield hX' z l hL h5 T hT J (X.M2 q) (E ++ [arr4 (now0 q), X.tq q (X.c0 T J) (X.c1 T J q)]) q (X.c0 T J) (X.c1 T J q) (fun nc hnc => by
    rw [List.all_append, hE]
    have a1 := fun a => arr4_under (now0 q) a nc 1 1 5
    have a2 : ∀ a, (X.tq q (X.c0 T J) (X.c1 T J q)).all (under a nc 1 1 6) = true := by
      intro a
      have g0 := growV_under (X.c0 T J) 3 (X.m q 0) a nc 1 1 5
      have g1 := growV_under (X.c1 T J q) 3 (X.m q 1) a nc 1 1 5
      have gl : ∀ es : List AV, (growC 3 es).length = if es = [] then 0 else 1 := fun es => by unfold growC; split <;> rfl
      have hN : X.c0 T J + (if X.m q 0 = [] then 0 else 1) + (if X.m q 1 = [] then 0 else 1) ≤ nc ∧ X.c1 T J q = X.c0 T J + (if X.m q 0 = [] then 0 else 1) := by
        unfold chN WX.M2 at hnc
        unfold WX.c0 WX.c1
        simp only [List.length_append, gl, gC_len] at hnc ⊢
        generalize (if X.m q 0 = [] then (0 : Nat) else 1) = v0 at *
        generalize (if X.m q 1 = [] then (0 : Nat) else 1) = v1 at *
        generalize (if T = [] then (0 : Nat) else 1) = v2 at *
        exact ⟨by omega, trivial⟩
      have c0 : X.m q 0 = [] ∨ X.c0 T J < nc := by
        by_cases h : X.m q 0 = []
        · exact .inl h
        · right; rw [if_neg h] at hN; omega
      have c1 : X.m q 1 = [] ∨ X.c1 T J q < nc := by
        by_cases h : X.m q 1 = []
        · exact .inl h
        · right; rw [if_neg h] at hN; omega
      rw [show decide (X.m q 0 = [] ∨ X.c0 T J < nc) = true from decide_eq_true c0] at g0
      rw [show decide (X.m q 1 = [] ∨ X.c1 T J q < nc) = true from decide_eq_true c1] at g1
      simp only [WX.tq, tcC, arr4, List.cons_append, List.nil_append, List.all_cons, List.all_nil, g0, g1, Bool.and_true, un_int, un_mp, Nat.zero_lt_one, decide_true]
    rw [List.all_cons, List.all_cons, a1, a2]
    rfl)
  have hY' : roundA (run Cv) 0 [.agg (X.tq q (X.c0 T J) (X.c1 T J q))] (X.g2 T J E q) = some (.bool true, X.gst (T ++ [q]) (yJ T J (X.M2 q)) (E ++ [arr4 (now0 q), X.tq q (X.c0 T J) (X.c1 T J q)]) (yM T (X.M2 q)) (mapS (X.sm q)) 1) := hY
  -- the variables
  have hbox : boxA (X.st T J E) (.agg (arr4 (now0 q))) = some (.box (7 + E.length) 0, X.gst T J (E ++ [arr4 (now0 q)]) [] [] 0) := by
    have hl : (X.st T J E).boxes.length = 7 + E.length := w_len ..
    have hc : (AV.agg (arr4 (now0 q))).cells.all AV.isCell = true := rfl
    simp only [boxA, hc, if_true, hl]
    simp [WX.st, WX.gst, AV.cells]
  have lF : loadA (X.gst T J (E ++ [arr4 (now0 q)]) [] [] 0) none (.box 3 2) = some X.x.fr := rfl
  have ld : loadA (X.gst T J (E ++ [arr4 (now0 q)]) [] [] 0) (some 4) (.box (7 + E.length) 0) = some (.agg (arr4 (now0 q))) := y_load T J [] E [arr4 (now0 q)] [] 0 (q := 0) rfl (some 4) 0 _ rfl
  have ln : ∀ σ : St, loadA σ (some 2) (.rp [I (-1), I (-1)] 0) = some (.agg [I (-1), I (-1)]) := fun _ => rfl
  have lv : ∀ σ : St, loadA σ (some 4) (.rp [I (-1), I (-1), I (-1), I (-1)] 0) = some (.agg [I (-1), I (-1), I (-1), I (-1)]) := fun _ => rfl
  have hmk : ∀ (R : Rec) (e : Env) (d : Bool), operA Cv R d e (X.gst T J (E ++ [arr4 (now0 q)]) [] [] 0) .mkm = some (.mp 0, X.gst T J (E ++ [arr4 (now0 q)]) [] [([], [])] 0) := fun _ _ _ => rfl
  have hput : mputA (X.gst T J (E ++ [arr4 (now0 q)]) [] [([], [])] 0) (some 2) (.mp 0) (.agg [I (-1), I (-1)]) (.agg [I 0, I 0, I 0, I 0]) = some (X.gst T J (E ++ [arr4 (now0 q)]) [] (mapS sm0) 0) := rfl
  have hal := fun R d e => y_alloc (X := X) T J [] (E ++ [arr4 (now0 q)]) (mapS sm0) 0 (C := Cv) (R := R) (d := d) (e := e) [I 0, I 0, I 0, I 0, .nilm, .nils, .nils]
  rw [List.append_assoc, List.length_append, List.length_singleton] at hal
  simp only [List.cons_append, List.nil_append, ← Nat.add_assoc] at hal
  have hst := y_store (X := X) T J [] E [arr4 (now0 q), [I 0, I 0, I 0, I 0, .nilm, .nils, .nils]] (mapS sm0) 0 (q := 1) rfl 7 0 (7 + E.length + 1) rfl (.agg (tcC (now0 q) .nils .nils)) rfl (by decide) rfl
  have hset : [arr4 (now0 q), [I 0, I 0, I 0, I 0, .nilm, .nils, .nils]].set 1 (setAt [I 0, I 0, I 0, I 0, .nilm, .nils, .nils] 0 (AV.agg (tcC (now0 q) .nils .nils)).cells) = [arr4 (now0 q), tcC (now0 q) .nils .nils] := rfl
  rw [hset] at hst
  have hst' : storeA (X.gst T J (E ++ [arr4 (now0 q), [I 0, I 0, I 0, I 0, .nilm, .nils, .nils]]) [] (mapS sm0) 0) 7 (.box (7 + E.length + 1) 0) (.agg (tcC (now0 q) .nils .nils)) = some (X.g0 T J E q sm0) := hst
  have hbld : fillA [(0, 4, .agg (arr4 (now0 q))), (4, 1, .mp 0)] [I 0, I 0, I 0, I 0, .nilm, .nils, .nils] = some (tcC (now0 q) .nils .nils) := by
    simp [fillA, arr4, AV.cells, setAt, tcC]
  have hbld0 : fillA [] [I 0, I 0, I 0, I 0] = some [I 0, I 0, I 0, I 0] := rfl
  have ld2 : loadA (X.g2 T J E q) (some 4) (.box (7 + E.length) 0) = some (.agg (arr4 (now0 q))) := y_load T J _ E [arr4 (now0 q), _] _ 0 (q := 0) rfl (some 4) 0 _ rfl
  have lt2 : loadA (X.g2 T J E q) (some 7) (.box (7 + E.length + 1) 0) = some (.agg (X.tq q (X.c0 T J) (X.c1 T J q))) := y_load T J _ E [arr4 (now0 q), _] _ 0 (q := 1) rfl (some 7) 0 _ rfl
  have lF2 : loadA (X.g2 T J E q) none (.box 3 2) = some X.x.fr := rfl
  have lr2 : loadA (X.g2 T J E q) none (.box 5 0) = some (rightV X) := rfl
  have ly2 : loadA (X.g2 T J E q) none (.box 4 0) = some (.yld 0) := rfl
  have har : (arr4 (now0 q)).length = 4 := rfl
  have hlt0 : b = true → (X.x.fs.length : Int) = 0 := fun h => by have := hb2 h; omega
  unfold nextV
  rw [callA_imp (by rfl) (by rfl), body_run comp88 (Nat.le_of_ble_eq_true rfl)]
  have hret : ∀ e : Env, ∀ σ : St, gt e 8 = .bool true → retA [(8, none)] e σ = some (.bool true) := fun e σ h => by rw [retA_one]; rw [rets_val, rets_nil, h]; rfl
  cases hr : X.rq q with
  | false =>
    rw [hr] at hR
    refine ⟨J, ?_, .inl ⟨rfl, .inl rfl⟩⟩
    have hcut := cut_ret hX' T T J J (X.M2 q) (.inl ⟨rfl, .inl rfl⟩) E E [arr4 (now0 q), X.tq q (X.c0 T J) (X.c1 T J q)] rfl (fun a b c d => hE a b c d 5) (mapS (X.sm q)) 0 [.bool true] (fun nc _ => rfl)
    have hcut' : cut (X.st T J E) (X.g2 T J E q) [.bool true] = X.st T J E := hcut
    cases hbb : b with
    | true =>
      have hz := hlt0 hbb
      rw [hbb] at hb1
      simp (maxSteps := 10000000) [-List.getD_eq_getElem?_getD, -boxA, -loadA, -storeA, -op_alloc, -op_mkm, -cut, -List.all_eq_true, code88, hbox, lF, hlen, ld, ln, lv, hmk, hput, hal, hst', hbld, hbld0, keep88_0, hlp', ld2, lt2, lF2, lr2, ly2, har, hb1, hz, hR]
      simp only [cutR, hcut']
    | false =>
      rw [hbb] at hb1
      simp (maxSteps := 10000000) [-List.getD_eq_getElem?_getD, -boxA, -loadA, -storeA, -op_alloc, -op_mkm, -cut, -List.all_eq_true, code88, hbox, lF, hlen, ld, ln, lv, hmk, hput, hal, hst', hbld, hbld0, keep88_0, hlp', ld2, lt2, lF2, lr2, ly2, har, hb1, hR]
      simp only [cutR, hcut']
  | true =>
    rw [hr] at hR
    refine ⟨yJ T J (X.M2 q), ?_, by
      by_cases h : T = []
      · exact .inr ⟨h, hJ h, by simp⟩
      · exact .inl ⟨by rw [yJ, if_neg h], .inr ⟨h, by simp⟩⟩⟩
    have hcut := cut_ret hX' T (T ++ [q]) J (yJ T J (X.M2 q)) (yM T (X.M2 q)) (by
      by_cases h : T = []
      · right
        refine ⟨h, hJ h, by simp, ?_⟩
        rw [yM, if_pos h]
      · left
        refine ⟨by rw [yJ, if_neg h], .inr ⟨h, by simp⟩⟩) E E [arr4 (now0 q), X.tq q (X.c0 T J) (X.c1 T J q)] rfl (fun a b c d => hE a b c d 5) (mapS (X.sm q)) 1 [.bool true] (fun nc _ => rfl)
    cases hbb : b with
    | true =>
      have hz := hlt0 hbb
      rw [hbb] at hb1
      simp (maxSteps := 10000000) [-List.getD_eq_getElem?_getD, -boxA, -loadA, -storeA, -op_alloc, -op_mkm, -cut, -List.all_eq_true, code88, hbox, lF, hlen, ld, ln, lv, hmk, hput, hal, hst', hbld, hbld0, keep88_0, hlp', ld2, lt2, lF2, lr2, ly2, har, hb1, hz, hR, callA_yld, hY']
      simp only [cutR, hcut]
    | false =>
      rw [hbb] at hb1
      simp (maxSteps := 10000000) [-List.getD_eq_getElem?_getD, -boxA, -loadA, -storeA, -op_alloc, -op_mkm, -cut, -List.all_eq_true, code88, hbox, lF, hlen, ld, ln, lv, hmk, hput, hal, hst', hbld, hbld0, keep88_0, hlp', ld2, lt2, lF2, lr2, ly2, har, hb1, hR, callA_yld, hY']
      simp only [cutR, hcut]
end
end Go.Ai
