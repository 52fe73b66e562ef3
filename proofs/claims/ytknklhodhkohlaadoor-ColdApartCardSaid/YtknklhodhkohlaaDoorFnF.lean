/- This text shows what Caught and Takes answer. No conditions of its own. -/
import Derived.Test.YtknklhodhkohlaaDoorFnE
set_option linter.unusedSimpArgs false
set_option linter.unusedVariables false
set_option maxRecDepth 100000
namespace Go.Ai
open Go.Cold (Mv Hd Bk Tr coughsT illT rightT keptH butF awayL caughtT lineF line_first cnt votesP loE hiE ends)
def head86 (l0 : List Int) (a k : Int) : Env := mkE 18 .any [(9, I k), (8, I l0.length), (7, .sl 1 (ints l0) .no), (0, I a)]
theorem loop86 (l0 : List Int) (hl : l0.length < 2 ^ 47) : ∀ (l : List Int) (k : Nat) (a : Int), k ≤ l0.length → l0.drop k = l →
    run Cv 86 (.loop keep86_0 body86_0) (head86 l0 a k) {} = some (.ex 0, mkE 18 .any [(10, .bool false), (9, I l0.length), (8, I l0.length), (7, .sl 1 (ints l0) .no), (0, I (loE l a))], {})
  | [], k, a, hk, h => by
    obtain rfl := drop_nil hk h
    rw [run_loop]
    simp (maxSteps := 10000000) [-List.getD_eq_getElem?_getD, body86_0, keep86_0, head86, loE]
  | n :: l, k, a, hk, h => by
    obtain ⟨hlt, ha, hd⟩ := head_drop h
    have hw := wrap_succ hlt (by omega)
    have key : run Cv 86 (.loop keep86_0 body86_0) (head86 l0 a k) {} = run Cv 86 (.loop keep86_0 body86_0) (head86 l0 (min a n) (k + 1)) {} := by
      have hm : (if n < a then n else a) = min a n := by omega
      rw [run_loop, ← hm]
      generalize MC.loop keep86_0 body86_0 = L
      simp (maxSteps := 10000000) [-List.getD_eq_getElem?_getD, body86_0, keep86_0, head86, ints, hlt, ha, hw, foldA, min2]
    rw [key]
    exact loop86 l0 hl l (k + 1) _ hlt hd
theorem least_call (l : List Int) (hl : l.length < 2 ^ 47) (a : Int) : call Cv 86 [I a, .sl 1 (ints l) .no] = some (I (loE l a)) := by
  have h := fun E (hE : mask keep86_0 E = _) => run_at (loop86 l hl l 0 a (Nat.zero_le _) rfl) hE
  have e5 : ((0 : Nat) : Int) = 0 := rfl
  have hil : (ints l).length = l.length := by simp [ints]
  simp only [head86, keep86_0, e5] at h
  rw [call_run comp86 (Nat.le_of_ble_eq_true rfl)]
  simp (maxSteps := 10000000) [-List.getD_eq_getElem?_getD, code86, keep86_0, h, hil]
def head87 (l0 : List Int) (a k : Int) : Env := mkE 25 .any [(4, I k), (3, I a), (0, .sl 1 (ints l0) .no)]
theorem loop87 (l0 : List Int) (hl : l0.length < 2 ^ 47) : ∀ (l : List Int) (k : Nat) (a : Int), k ≤ l0.length → l0.drop k = l → ∃ L,
    run Cv 87 (.loop keep87_0 body87_0) (head87 l0 a k) {} = some (.ex 0, mkE 25 .any L, {}) ∧ gt (mkE 25 .any L) 3 = I (hiE l a)
  | [], k, a, hk, h => by
    obtain rfl := drop_nil hk h
    have hil : (ints l0).length = l0.length := by simp [ints]
    rw [run_loop]
    simp (maxSteps := 10000000) [-List.getD_eq_getElem?_getD, body87_0, keep87_0, head87, hil]
    exact ⟨_, rfl, by simp (maxSteps := 10000000) [-List.getD_eq_getElem?_getD, hiE]⟩
  | n :: l, k, a, hk, h => by
    obtain ⟨hlt, ha, hd⟩ := head_drop h
    have hw := wrap_succ hlt (by omega)
    have hil : (ints l0).length = l0.length := by simp [ints]
    have key : run Cv 87 (.loop keep87_0 body87_0) (head87 l0 a k) {} = run Cv 87 (.loop keep87_0 body87_0) (head87 l0 (max a n) (k + 1)) {} := by
      have hm : (if a < n then n else a) = max a n := by omega
      rw [run_loop, ← hm]
      generalize MC.loop keep87_0 body87_0 = L
      simp (maxSteps := 10000000) [-List.getD_eq_getElem?_getD, body87_0, keep87_0, head87, ints, hlt, ha, hw, foldA, max2]
    rw [key]
    exact loop87 l0 hl l (k + 1) _ hlt hd
theorem max_call (l : List Int) (hl : l.length < 2 ^ 46) (a : Int) : call Cv 87 [.sl 1 (ints (a :: l)) .no] = some (I (hiE l a)) := by
  obtain ⟨L, h1, h3⟩ := loop87 (a :: l) (by rw [List.length_cons]; omega) l 1 a (by simp) rfl
  have h := fun E (hE : mask keep87_0 E = _) => run_at h1 hE
  have e5 : ((1 : Nat) : Int) = 1 := rfl
  have hil : (ints l).length = l.length := by simp [ints]
  have hlt : ¬ ((l.length : Int) + 1 < 1) := by omega
  have hic : ints (a :: l) = I a :: ints l := rfl
  simp only [head87, keep87_0, e5, hic] at h
  rw [hic, call_run comp87 (Nat.le_of_ble_eq_true rfl)]
  simp (maxSteps := 10000000) [-List.getD_eq_getElem?_getD, code87, keep87_0, hil, hlt, h, h3]
end Go.Ai

set_option maxRecDepth 100000
namespace Go.Ai
open Go.Cold (Mv Hd Bk Tr coughsT illT rightT keptH butF awayL caughtT lineF line_first cnt votesP loE hiE ends daysOf)
def stH (x : CB) {T : List Tr} (O : OB x T) (F : AV) (ns : List Int) : St := { boxes := [O.c, [F], [I 0, I 0]], chains := growC 1 (ints ns) }
def head63 {x : CB} {T : List Tr} (O : OB x T) (ns : List Int) (k : Int) : Env := mkE 40 .any [(13, I k), (12, I T.length), (11, O.tv), (6, growV 0 1 (ints ns)), (4, .box 2 0), (3, .box 1 0)]
theorem loop63 (x : CB) {T : List Tr} (O : OB x T) (g : Nat) (caps : List AV) (q : Tr → Int) (himp : Cv.imp g = false) (hcp : ∀ σ n, purAll (pur σ (n + 1)) caps = some (caps, false)) (hcu : ∀ a b c d n, caps.all (under a b c d (n + 1)) = true) (hg : ∀ t ∈ T, call Cv g (.agg (trC t (cA x t)) :: caps) = some (I (q t))) :
    ∀ (l : List Tr) (k : Nat) (ns : List Int), k ≤ T.length → T.drop k = l → ns.length ≤ k → run Cv 63 (.loop keep63_0 body63_0) (head63 O ns k) (stH x O (.fn (.func g) [] caps) ns) = some (.ex 0, mkE 40 .any [(14, .bool false), (13, I T.length), (12, I T.length), (11, O.tv), (6, growV 0 1 (ints (ns ++ daysOf q l))), (4, .box 2 0), (3, .box 1 0)], stH x O (.fn (.func g) [] caps) (ns ++ daysOf q l))
  | [], k, ns, hk, h, hs => by
    obtain rfl := drop_nil hk h
    rw [run_loop]
    simp (maxSteps := 10000000) [-List.getD_eq_getElem?_getD, body63_0, keep63_0, head63, daysOf]
  | t :: l, k, ns, hk, h, hs => by
    obtain ⟨hlt, ha, hd⟩ := head_drop h
    have hTl := O.lt
    have hw := wrap_succ hlt (by omega)
    have hlt' : (k : Int) < (T.length : Int) := by omega
    have hix := t_ix O hlt
    rw [ha] at hix
    have hgt := hg t (by rw [← ha]; exact List.getElem_mem _)
    have hfn : ∀ σ args, callA Cv (run Cv) false (.fn (.func g) [] caps) args σ = pureCallA Cv (run Cv) false g σ (purAll (pur σ 12) (args ++ caps)) := fun σ args => ca_none himp
    have hpu : ∀ σ, purAll (pur σ 12) ([.agg (trC t (cA x t))] ++ caps) = some (.agg (trC t (cA x t)) :: caps, false) := fun σ => by
      have h1 := hcp σ 11
      have h2 : pur σ 12 (.agg (trC t (cA x t))) = some (.agg (trC t (cA x t)), false) := rfl
      simp [purAll, h1, h2]
    have u1 := O.trow.under
    have u2 := O.under
    have hun : ∀ a b c d, under a b c d 6 (.fn (.func g) [] caps) = true := fun a b c d => by
      have := hcu a b c d 4
      simp [under, this]
    have hrest : daysOf q (t :: l) = (if 0 ≤ q t then [q t] else []) ++ daysOf q l := by
      unfold daysOf
      rw [List.map_cons, List.filter_cons]
      by_cases h0 : 0 ≤ q t <;> simp [h0]
    have ih := loop63 x O g caps q himp hcp hcu hg l (k + 1) (ns ++ if 0 ≤ q t then [q t] else []) hlt hd (by split <;> simp <;> omega)
    rw [List.append_assoc, ← hrest] at ih
    rw [← ih, run_loop]
    generalize MC.loop keep63_0 body63_0 = L
    have hil : (ints ns).length = ns.length := by simp [ints]
    have happ := app_row [O.c, [.fn (.func g) [] caps], [I 0, I 0], trC t (cA x t)] [] [] [] (ints ns) (I (q t)) 1 8 false (by omega) 0 rfl
    have hn : ints ns ++ [I (q t)] ≠ [] := by simp
    have hnew : ints (ns ++ [q t]) = ints ns ++ [I (q t)] := by simp [ints]
    rw [growV_some _ _ hn, growC_some _ hn] at happ
    simp only [trC, arr, List.cons_append, List.nil_append] at hix hgt hpu happ
    have hfe : ∀ n : Int, fillE 1 false [(0, I n)] [I 0] = some [I n] := fun n => by simp [fillE, depth, AV.isAgg]
    have hrp : List.replicate 1 (I 0) = [I 0] := rfl
    by_cases h0 : 0 ≤ q t
    · simp only [h0, if_true, head63, stH, hnew, growV_some 0 1 hn, growC_some 1 hn]
      by_cases he : ints ns = []
      · have hv : growV 0 1 (ints ns) = .nils := by rw [he]; rfl
        have hch : growC 1 (ints ns) = [] := by rw [he]; rfl
        rw [hv, hch] at happ ⊢
        simp (maxSteps := 10000000) [-List.getD_eq_getElem?_getD, -ixsA, -List.all_eq_true, body63_0, keep63_0, hlt', hw, hix, hgt, hfn, hpu, u1, u2, hun, h0, happ, hfe, hrp, @all_f 40 .any _ _ 6]
      · have hv : growV 0 1 (ints ns) = .sl 1 (ints ns) (.chain 0) := growV_some 0 1 he
        have hch : growC 1 (ints ns) = [((ints ns).length, 1)] := growC_some 1 he
        rw [hv, hch] at happ ⊢
        simp (maxSteps := 10000000) [-List.getD_eq_getElem?_getD, -ixsA, -List.all_eq_true, body63_0, keep63_0, hlt', hw, hix, hgt, hfn, hpu, u1, u2, hun, h0, happ, hfe, hrp]
    · simp only [h0, if_false, List.append_nil, head63, stH]
      by_cases he : ints ns = []
      · have hv : growV 0 1 (ints ns) = .nils := by rw [he]; rfl
        have hch : growC 1 (ints ns) = [] := by rw [he]; rfl
        rw [hv, hch]
        simp (maxSteps := 10000000) [-List.getD_eq_getElem?_getD, -ixsA, -List.all_eq_true, body63_0, keep63_0, hlt', hw, hix, hgt, hfn, hpu, u1, u2, hun, h0]
      · have hv : growV 0 1 (ints ns) = .sl 1 (ints ns) (.chain 0) := growV_some 0 1 he
        have hch : growC 1 (ints ns) = [((ints ns).length, 1)] := growC_some 1 he
        rw [hv, hch]
        simp (maxSteps := 10000000) [-List.getD_eq_getElem?_getD, -ixsA, -List.all_eq_true, body63_0, keep63_0, hlt', hw, hix, hgt, hfn, hpu, u1, u2, hun, h0]
theorem hull_call (x : CB) {T : List Tr} (O : OB x T) (g : Nat) (caps : List AV) (q : Tr → Int) (himp : Cv.imp g = false) (hcp : ∀ σ n, purAll (pur σ (n + 1)) caps = some (caps, false)) (hcu : ∀ a b c d n, caps.all (under a b c d (n + 1)) = true) (hg : ∀ t ∈ T, call Cv g (.agg (trC t (cA x t)) :: caps) = some (I (q t))) :
    call Cv 63 [.agg O.c, .agg [.fn (.func g) [] caps]] = some (.tup [.agg (if daysOf q T = [] then [I 0, I 0] else [I (ends (daysOf q T)).1, I (ends (daysOf q T)).2]), I (if daysOf q T = [] then 4 else 0)]) := by
  have ha := loop63 x O g caps q himp hcp hcu hg T 0 [] (Nat.zero_le _) rfl (Nat.le_refl _)
  rw [List.nil_append] at ha
  have hlen : (daysOf q T).length < 2 ^ 45 := by
    have h1 : (daysOf q T).length ≤ (T.map q).length := List.length_filter_le _ _
    rw [List.length_map] at h1
    have := O.lt
    omega
  generalize daysOf q T = ns at *
  have e0 : ((0 : Nat) : Int) = 0 := rfl
  have ha' := fun E (hE : mask keep63_0 E = _) => run_at ha hE
  have hl := t_len O
  have hO := O.cells
  have hgn : growV 0 1 (ints []) = .nils := rfl
  have hgc : growC 1 (ints []) = [] := rfl
  simp only [keep63_0, head63, stH, e0, hO, hgn, hgc] at ha'
  rw [hO]
  have p1 := O.x.mrow.cell
  have p2 := O.hrow.cell
  have p3 := O.trow.cell
  have hmv : ∀ ks vs, AV.isCell (.mapv ks vs) = true := fun _ _ => rfl
  have hfc : AV.isCell (.fn (.func g) [] caps) = true := rfl
  have hf0 : fillA [] [I 0, I 0] = some [I 0, I 0] := rfl
  rw [call_run comp63 (Nat.le_of_ble_eq_true rfl)]
  cases ns with
  | nil =>
    have hgn2 : growV 0 1 (ints []) = .nils := rfl
    simp only [hgn2] at ha'
    simp (maxSteps := 10000000) [-List.getD_eq_getElem?_getD, code63, p1, p2, p3, hmv, hfc, hl, keep63_0, ha', hf0, retc2, hgn2]
  | cons a l =>
    have hm := max_call l (by rw [List.length_cons] at hlen; omega) a
    have hs := least_call (a :: l) (by omega) a
    have hmm : hiE l a = hiE (a :: l) a := by show hiE l a = hiE l (max a a); rw [show max a a = a by omega]
    rw [hmm] at hm
    have hic : ints (a :: l) = I a :: ints l := rfl
    have hne : ints (a :: l) ≠ [] := by rw [hic]; simp
    rw [growV_some 0 1 hne] at ha'
    have hil : (ints l).length = l.length := by simp [ints]
    have hz : ((l.length : Int) + 1 == 0) = false := by rw [beq_eq_false_iff_ne]; omega
    rw [hic] at ha' hm hs
    have he : ends (a :: l) = (loE (a :: l) a, hiE (a :: l) a) := rfl
    rw [he]
    simp (maxSteps := 10000000) [-List.getD_eq_getElem?_getD, code63, p1, p2, p3, hmv, hfc, hl, keep63_0, ha', hf0, retc2, hil, hz, hm, hs]
end Go.Ai

set_option maxRecDepth 100000
namespace Go.Ai
open Go.Cold (Mv Hd Bk Tr coughsT illT rightT keptH butF awayL caughtT lineF line_first cnt votesP loE hiE ends daysOf)
theorem day_call (x : CB) {t : Tr} {bed : Nat} (hb : bed < 5) : call Cv 67 [.agg (trC t (cA x t)), .rp [I bed] 0] = some (I (cA x t bed)) := by
  have hik := ix5 hb
  have hg := tr_get t (cA x t) hb
  have hg2 := tr_get t (cA x t) hb
  rw [Nat.add_comm] at hg2
  rw [call_run comp67 (Nat.le_of_ble_eq_true rfl)]
  simp (maxSteps := 10000000) [-List.getD_eq_getElem?_getD, -ixaA, code67, trC, arr, hik, hg, hg2]
theorem kind_call (x : CB) {t : Tr} (kind : Int) : call Cv 64 [.agg (trC t (cA x t)), .rp [I kind] 0] = some (I (if kind = 0 then t.out else t.goes)) := by
  rw [call_run comp64 (Nat.le_of_ble_eq_true rfl)]
  by_cases h : kind = 0
  · simp (maxSteps := 10000000) [-List.getD_eq_getElem?_getD, code64, trC, arr, h]
  · simp (maxSteps := 10000000) [-List.getD_eq_getElem?_getD, code64, trC, arr, h]
theorem fo_span (a b n : Int) : fo 12 (.tup [.agg [I a, I b], I n]) = true := rfl
attribute [simp] fo_span
def spanV (l : List Int) : AV := .agg (if l = [] then [I 0, I 0] else [I (ends l).1, I (ends l).2])
def bedB (x : CB) (bed : Int) : Bool := lie bed 0 (IntKind.wrap .i64 (x.beds - 1))
def errL (x : CB) (is : Bool) (l : List Int) : Int := if errQ x is = 0 then (if l = [] then 4 else 0) else errQ x is
theorem Caught_call (x : CB) (hx : x.Ok) (bed : Int) : call Cv 26 [x.av, I bed] = some (.tup [if errQ x (bedB x bed) = 0 then spanV (x.bk.caughtL bed.toNat) else .agg [I 0, I 0], I (errL x (bedB x bed) (x.bk.caughtL bed.toNat))]) := by
  have hs := within_call bed 0 (IntKind.wrap .i64 (x.beds - 1))
  have p1 := hx.mrow.cell
  have p2 := hx.hrow.cell
  have q1 := hx.mrow.pur
  have q2 := hx.hrow.pur
  have e1 : lie bed 0 (IntKind.wrap .i64 (x.beds - 1)) = bedB x bed := rfl
  rw [e1] at hs
  have hf0 : fillA [] [I 0, I 0] = some [I 0, I 0] := rfl
  unfold errL
  by_cases hbad : checkB x = false ∨ bedB x bed = false
  · have ha := asked_bad x hx (bedB x bed) hbad
    rw [errQ_bad hbad]
    obtain ⟨e, he, he2⟩ : ∃ e : Int, (if checkB x then 31 else 30) = e ∧ e ≠ 0 := ⟨_, rfl, by split <;> decide⟩
    have he3 : ((if checkB x then (31 : Int) else 30)) = e := he
    rw [he3] at ha ⊢
    simp only [CB.av, CB.cells, zero13] at ha
    generalize bedB x bed = b at *
    rw [call_run comp26 (Nat.le_of_ble_eq_true rfl)]
    simp (maxSteps := 10000000) [-List.getD_eq_getElem?_getD, code26, CB.av, CB.cells, p1, p2, q1, q2, hs, ha, he2, hf0, retc2]
  · have hk : checkB x = true := by cases h : checkB x with | true => rfl | false => exact absurd (.inl h) hbad
    have hsp : bedB x bed = true := by cases h : bedB x bed with | true => rfl | false => exact absurd (.inr h) hbad
    have f := check_fine hk
    obtain ⟨hv, tv, h1, h2, ha⟩ := asked_ok x hx hk
    rw [hsp] at hs
    rw [hsp, errQ_ok hk]
    have hb1 := f.b1
    have hb5 := f.b5
    have w2 : IntKind.wrap .i64 (x.beds - 1) = x.beds - 1 := wrap_small (by omega) (by omega)
    have hr : 0 ≤ bed ∧ bed < x.beds := by
      simp only [bedB, lie, Bool.and_eq_true, decide_eq_true_eq, w2] at hsp
      omega
    obtain ⟨m, rfl⟩ : ∃ m : Nat, bed = m := ⟨bed.toNat, by omega⟩
    obtain ⟨O, hO⟩ : ∃ O : OB x x.bk.tr, O = obOf hx f h1 h2 := ⟨_, rfl⟩
    have hOc : O.c = openC x hv (amX x) tv := by subst hO; rfl
    have hcn := hull_call x O 67 [.rp [I m] 0] (fun t => cA x t m) rfl (fun _ _ => rfl) (fun _ _ _ _ _ => rfl) (fun t _ => day_call x (by omega))
    have hvv : daysOf (fun t => cA x t m) x.bk.tr = x.bk.caughtL m := by
      unfold Go.Cold.Bk.caughtL daysOf
      rw [List.map_congr_left fun t _ => cA_at t hr.2]
    rw [hvv, hOc] at hcn
    have p3 := h1.cell
    have p4 := h2.cell
    have q3 := h1.pur
    have q4 := h2.pur
    have hmv : ∀ ks vs, AV.isCell (.mapv ks vs) = true := fun _ _ => rfl
    have hpm : ∀ σ n ks vs, pur σ (n + 1) (.mapv ks vs) = some (.mapv ks vs, false) := fun _ _ _ _ => rfl
    rw [Int.toNat_natCast]
    generalize x.bk.caughtL m = l at *
    obtain ⟨a, b, hab⟩ : ∃ a b, (if l = [] then [I 0, I 0] else [I (ends l).1, I (ends l).2]) = [I a, I b] := by split <;> exact ⟨_, _, rfl⟩
    unfold spanV
    rw [hab] at hcn ⊢
    simp only [CB.av, CB.cells, openC, bkC, List.cons_append, List.nil_append] at ha hcn
    have hbld : fillA [(0, 1, .fn (.func 67) [] [.box 1 0])] [.nilf] = some [.fn (.func 67) [] [.box 1 0]] := rfl
    rw [call_run comp26 (Nat.le_of_ble_eq_true rfl)]
    by_cases hn : errOf x.bk.tr = 0
    · rw [hn] at ha ⊢
      simp (maxSteps := 10000000) [-List.getD_eq_getElem?_getD, code26, CB.av, CB.cells, p1, p2, p3, p4, q1, q2, q3, q4, hs, ha, hmv, hpm, hcn, hf0, hbld, retc2]
    · simp (maxSteps := 10000000) [-List.getD_eq_getElem?_getD, code26, CB.av, CB.cells, p1, p2, p3, p4, q1, q2, q3, q4, hs, ha, hmv, hpm, hcn, hn, hf0, hbld, retc2]
theorem takes_ne {x : CB} {kind : Int} : x.bk.takesL kind = [] ↔ x.bk.tr = [] := by
  unfold Go.Cold.Bk.takesL
  rw [List.map_eq_nil_iff]
theorem Takes_call (x : CB) (hx : x.Ok) (kind : Int) : call Cv 21 [x.av, I kind] = some (.tup [if errQ x (lie kind 0 1) = 0 then spanV (x.bk.takesL kind) else .agg [I 0, I 0], I (errQ x (lie kind 0 1))]) := by
  have hs := within_call kind 0 1
  have p1 := hx.mrow.cell
  have p2 := hx.hrow.cell
  have q1 := hx.mrow.pur
  have q2 := hx.hrow.pur
  have hf0 : fillA [] [I 0, I 0] = some [I 0, I 0] := rfl
  by_cases hbad : checkB x = false ∨ lie kind 0 1 = false
  · have ha := asked_bad x hx (lie kind 0 1) hbad
    rw [errQ_bad hbad]
    obtain ⟨e, he, he2⟩ : ∃ e : Int, (if checkB x then 31 else 30) = e ∧ e ≠ 0 := ⟨_, rfl, by split <;> decide⟩
    have he3 : ((if checkB x then (31 : Int) else 30)) = e := he
    rw [he3] at ha ⊢
    simp only [CB.av, CB.cells, zero13] at ha
    generalize lie kind 0 1 = b at *
    rw [call_run comp21 (Nat.le_of_ble_eq_true rfl)]
    simp (maxSteps := 10000000) [-List.getD_eq_getElem?_getD, code21, CB.av, CB.cells, p1, p2, q1, q2, hs, ha, he2, hf0, retc2]
  · have hk : checkB x = true := by cases h : checkB x with | true => rfl | false => exact absurd (.inl h) hbad
    have hsp : lie kind 0 1 = true := by cases h : lie kind 0 1 with | true => rfl | false => exact absurd (.inr h) hbad
    have f := check_fine hk
    obtain ⟨hv, tv, h1, h2, ha⟩ := asked_ok x hx hk
    rw [hsp] at hs
    rw [hsp, errQ_ok hk]
    obtain ⟨O, hO⟩ : ∃ O : OB x x.bk.tr, O = obOf hx f h1 h2 := ⟨_, rfl⟩
    have hOc : O.c = openC x hv (amX x) tv := by subst hO; rfl
    have hcn := hull_call x O 64 [.rp [I kind] 0] (fun t => if kind = 0 then t.out else t.goes) rfl (fun _ _ => rfl) (fun _ _ _ _ _ => rfl) (fun t _ => kind_call x kind)
    have hvv : daysOf (fun t => if kind = 0 then t.out else t.goes) x.bk.tr = x.bk.takesL kind := by
      unfold Go.Cold.Bk.takesL daysOf
      rw [List.filter_eq_self]
      intro n hn
      obtain ⟨t, ht, rfl⟩ := List.mem_map.1 hn
      have := tr_bed f ht
      split <;> simp <;> omega
    rw [hvv, hOc] at hcn
    have hte : (if x.bk.takesL kind = [] then (4 : Int) else 0) = if x.bk.tr = [] then 4 else 0 := by
      by_cases h : x.bk.tr = []
      · rw [if_pos h, if_pos (takes_ne.2 h)]
      · rw [if_neg h, if_neg fun h' => h (takes_ne.1 h')]
    rw [hte] at hcn
    have p3 := h1.cell
    have p4 := h2.cell
    have q3 := h1.pur
    have q4 := h2.pur
    have hmv : ∀ ks vs, AV.isCell (.mapv ks vs) = true := fun _ _ => rfl
    have hpm : ∀ σ n ks vs, pur σ (n + 1) (.mapv ks vs) = some (.mapv ks vs, false) := fun _ _ _ _ => rfl
    generalize x.bk.takesL kind = l at *
    obtain ⟨a, b, hab⟩ : ∃ a b, (if l = [] then [I 0, I 0] else [I (ends l).1, I (ends l).2]) = [I a, I b] := by split <;> exact ⟨_, _, rfl⟩
    unfold spanV
    rw [hab] at hcn ⊢
    simp only [CB.av, CB.cells, openC, bkC, List.cons_append, List.nil_append] at ha hcn
    have hbld : fillA [(0, 1, .fn (.func 64) [] [.box 1 0])] [.nilf] = some [.fn (.func 64) [] [.box 1 0]] := rfl
    rw [call_run comp21 (Nat.le_of_ble_eq_true rfl)]
    unfold errOf at *
    by_cases hn : x.bk.tr = []
    · rw [if_pos hn] at ha hcn ⊢
      simp (maxSteps := 10000000) [-List.getD_eq_getElem?_getD, code21, CB.av, CB.cells, p1, p2, p3, p4, q1, q2, q3, q4, hs, ha, hmv, hpm, hf0, hbld, retc2]
    · rw [if_neg hn] at ha hcn ⊢
      simp (maxSteps := 10000000) [-List.getD_eq_getElem?_getD, code21, CB.av, CB.cells, p1, p2, p3, p4, q1, q2, q3, q4, hs, ha, hmv, hpm, hcn, hf0, hbld, retc2]
end Go.Ai
