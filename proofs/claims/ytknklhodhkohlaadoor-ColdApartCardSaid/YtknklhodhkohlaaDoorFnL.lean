/- This text shows what Clean and Fits answer. No conditions of its own. -/
import Derived.Test.YtknklhodhkohlaaDoorFnH
set_option linter.unusedSimpArgs false
set_option linter.unusedVariables false
set_option maxRecDepth 100000
namespace Go.Ai
open Go.Cold (Mv Hd Bk Tr awayL coughsT cnt votesP)
theorem caught_call (x : CB) {t : Tr} {bed : Nat} (hb : bed < 5) : call Cv 66 [.agg (trC t (cA x t)), .rp [I bed] 0] = some (.bool (decide (0 ≤ cA x t bed))) := by
  have hik := ix5 hb
  have hg := tr_get t (cA x t) hb
  have hg2 := tr_get t (cA x t) hb
  rw [Nat.add_comm] at hg2
  rw [call_run comp66 (Nat.le_of_ble_eq_true rfl)]
  simp (maxSteps := 10000000) [-List.getD_eq_getElem?_getD, -ixaA, code66, trC, arr, hik, hg, hg2]
def cleanB (x : CB) (bed : Nat) : Bool := x.bk.tr.all fun t => decide (cA x t bed < 0)
def stL (x : CB) {T : List Tr} (O : OB x T) (ns : List Int) : St := { boxes := [x.cells, O.c], chains := growC 1 (ints ns) }
def head22 (x : CB) (ns : List Int) (k : Int) : Env := mkE 36 .any [(18, I k), (17, I x.beds), (6, growV 0 1 (ints ns)), (4, .box 1 0)]
theorem loop22 (x : CB) (hx : x.Ok) (f : x.Fine) (O : OB x x.bk.tr) (hT : x.bk.tr ≠ []) : ∀ (n k : Nat) (ns : List Int), (k : Int) + n = x.beds → ns.length ≤ k →
    run Cv 22 (.loop keep22_0 body22_0) (head22 x ns k) (stL x O ns) = some (.ex 0, mkE 36 .any [(19, .bool false), (18, I x.beds), (17, I x.beds), (6, growV 0 1 (ints (ns ++ Go.Least.sel (cleanB x) k n))), (4, .box 1 0)], stL x O (ns ++ Go.Least.sel (cleanB x) k n))
  | 0, k, ns, hk, hs => by
    have hk' : (k : Int) = x.beds := by omega
    rw [hk', run_loop]
    simp (maxSteps := 10000000) [-List.getD_eq_getElem?_getD, body22_0, keep22_0, head22, Go.Least.sel]
  | n + 1, k, ns, hk, hs => by
    have hb5 := f.b5
    have hw : IntKind.wrap .i64 ((k : Int) + 1) = k + 1 := wrap_small (by omega) (by omega)
    have hlt : (k : Int) < x.beds := by omega
    have hcn := count_call x O 66 [.rp [I k] 0] (fun t => decide (0 ≤ cA x t k)) rfl (fun _ _ => rfl) (fun _ _ _ _ _ => rfl) (fun t _ => caught_call x (by omega))
    have hz : (votesP (cnt (fun t => decide (0 ≤ cA x t k)) x.bk.tr) x.bk.tr.length == 0) = cleanB x k := by
      rw [Bool.eq_iff_iff, beq_iff_eq, Go.Cold.votes_none hT]
      unfold cleanB
      rw [List.all_eq_true]
      constructor
      · intro h t ht
        have := h t ht
        rw [decide_eq_false_iff_not] at this
        exact decide_eq_true (by omega)
      · intro h t ht
        have := of_decide_eq_true (h t ht)
        exact decide_eq_false (by omega)
    have hsel : Go.Least.sel (cleanB x) k (n + 1) = (if cleanB x k then [(k : Int)] else []) ++ Go.Least.sel (cleanB x) (k + 1) n := by
      rw [Go.Least.sel]
    have ih := loop22 x hx f O hT n (k + 1) (ns ++ if cleanB x k then [(k : Int)] else []) (by omega) (by split <;> simp <;> omega)
    rw [List.append_assoc, ← hsel] at ih
    have u1 := hx.mrow.under
    have u2 := hx.hrow.under
    have u3 := O.under
    have hOp : ∀ σ n, pur σ (n + 2) (.agg O.c) = some (.agg O.c, false) := fun σ n => by
      have := O.pur σ n
      simp [pur, this]
    have hO13 : O.c.length = 13 := rfl
    have hp13 : partA (some 13) O.c 0 = some (.agg O.c) := rfl
    have hil : (ints ns).length = ns.length := by simp [ints]
    have happ := app_row [x.cells, O.c, [I k]] [] [] [] (ints ns) (I k) 1 8 false (by omega) 0 rfl
    have hn : ints ns ++ [I (k : Int)] ≠ [] := by simp
    have hnew : ints (ns ++ [(k : Int)]) = ints ns ++ [I (k : Int)] := by simp [ints]
    rw [growV_some _ _ hn, growC_some _ hn] at happ
    simp only [CB.cells, List.nil_append] at happ
    have hfe : ∀ n : Int, fillE 1 false [(0, I n)] [I 0] = some [I n] := fun n => by simp [fillE, depth, AV.isAgg]
    have hrp : List.replicate 1 (I 0) = [I 0] := rfl
    rw [← ih, run_loop]
    generalize MC.loop keep22_0 body22_0 = L
    generalize votesP (cnt (fun t => decide (0 ≤ cA x t k)) x.bk.tr) x.bk.tr.length = V at *
    cases hc : cleanB x k with
    | true =>
      rw [hc] at hz
      simp only [if_true, head22, stL, hnew, growV_some 0 1 hn, growC_some 1 hn]
      by_cases he : ints ns = []
      · have hv : growV 0 1 (ints ns) = .nils := by rw [he]; rfl
        have hch : growC 1 (ints ns) = [] := by rw [he]; rfl
        rw [hv, hch] at happ ⊢
        simp (maxSteps := 10000000) [-List.getD_eq_getElem?_getD, -partA, -List.all_eq_true, body22_0, keep22_0, CB.cells, hlt, hw, hp13, hOp, hcn, hz, u1, u2, u3, happ, hfe, hrp, @all_f 36 .any _ _ 6, List.getElem?_cons_zero, partA.eq_2]
      · have hv : growV 0 1 (ints ns) = .sl 1 (ints ns) (.chain 0) := growV_some 0 1 he
        have hch : growC 1 (ints ns) = [((ints ns).length, 1)] := growC_some 1 he
        rw [hv, hch] at happ ⊢
        simp (maxSteps := 10000000) [-List.getD_eq_getElem?_getD, -partA, -List.all_eq_true, body22_0, keep22_0, CB.cells, hlt, hw, hp13, hOp, hcn, hz, u1, u2, u3, happ, hfe, hrp, partA.eq_2]
    | false =>
      rw [hc] at hz
      simp only [Bool.false_eq_true, if_false, List.append_nil, head22, stL]
      by_cases he : ints ns = []
      · have hv : growV 0 1 (ints ns) = .nils := by rw [he]; rfl
        have hch : growC 1 (ints ns) = [] := by rw [he]; rfl
        rw [hv, hch]
        simp (maxSteps := 10000000) [-List.getD_eq_getElem?_getD, -partA, -List.all_eq_true, body22_0, keep22_0, CB.cells, hlt, hw, hp13, hOp, hcn, hz, u1, u2, u3]
      · have hv : growV 0 1 (ints ns) = .sl 1 (ints ns) (.chain 0) := growV_some 0 1 he
        have hch : growC 1 (ints ns) = [((ints ns).length, 1)] := growC_some 1 he
        rw [hv, hch]
        simp (maxSteps := 10000000) [-List.getD_eq_getElem?_getD, -partA, -List.all_eq_true, body22_0, keep22_0, CB.cells, hlt, hw, hp13, hOp, hcn, hz, u1, u2, u3]
end Go.Ai

set_option maxRecDepth 100000
namespace Go.Ai
open Go.Cold (Mv Hd Bk Tr awayL coughsT cnt votesP)
theorem sel_same {p q : Nat → Bool} : ∀ (n k : Nat), (∀ i, k ≤ i → i < k + n → p i = q i) → Go.Least.sel p k n = Go.Least.sel q k n
  | 0, k, _ => rfl
  | n + 1, k, h => by
    rw [Go.Least.sel, Go.Least.sel, h k (Nat.le_refl _) (by omega), sel_same n (k + 1) fun i h1 h2 => h i (by omega) (by omega)]
theorem clean_is (x : CB) (f : x.Fine) : Go.Least.sel (cleanB x) 0 x.beds.toNat = x.bk.cleanL := by
  unfold Go.Cold.Bk.cleanL
  show _ = Go.Least.sel _ 0 x.beds.toNat
  refine sel_same _ _ fun i _ hi => ?_
  unfold cleanB
  have hb := bedsN f
  rw [Bool.eq_iff_iff, List.all_eq_true, List.all_eq_true]
  constructor
  · intro h t ht
    have := h t ht
    rwa [cA_at t (by omega)] at this
  · intro h t ht
    have := h t ht
    rwa [← cA_at t (by omega)] at this
theorem Clean_call (x : CB) (hx : x.Ok) : ∃ r, IsRow 1 (ints (if errQ x true = 0 then x.bk.cleanL else [])) r ∧ call Cv 22 [x.av] = some (.tup [r, I (errQ x true)]) := by
  have p1 := hx.mrow.cell
  have p2 := hx.hrow.cell
  have q1 := hx.mrow.pur
  have q2 := hx.hrow.pur
  cases hk : checkB x with
  | false =>
    have ha := asked_bad x hx true (.inl hk)
    rw [errQ_bad (.inl hk), hk]
    rw [hk] at ha
    refine ⟨.nils, .inl ⟨rfl, rfl⟩, ?_⟩
    simp only [CB.av, CB.cells, zero13] at ha
    rw [call_run comp22 (Nat.le_of_ble_eq_true rfl)]
    simp (maxSteps := 10000000) [-List.getD_eq_getElem?_getD, code22, CB.av, CB.cells, p1, p2, q1, q2, ha, ret2]
  | true =>
    have f := check_fine hk
    obtain ⟨hv, tv, h1, h2, ha⟩ := asked_ok x hx hk
    rw [errQ_ok hk]
    have hb1 := f.b1
    have p3 := h1.cell
    have p4 := h2.cell
    have q3 := h1.pur
    have q4 := h2.pur
    have hmv : ∀ ks vs, AV.isCell (.mapv ks vs) = true := fun _ _ => rfl
    have hpm : ∀ σ n ks vs, pur σ (n + 1) (.mapv ks vs) = some (.mapv ks vs, false) := fun _ _ _ _ => rfl
    obtain ⟨O, hO⟩ : ∃ O : OB x x.bk.tr, O = obOf hx f h1 h2 := ⟨_, rfl⟩
    have hOc : O.c = openC x hv (amX x) tv := by subst hO; rfl
    simp only [CB.av, CB.cells, openC, bkC, List.cons_append, List.nil_append] at ha
    unfold errOf at *
    by_cases hn : x.bk.tr = []
    · rw [if_pos hn] at ha ⊢
      refine ⟨.nils, .inl ⟨rfl, rfl⟩, ?_⟩
      rw [call_run comp22 (Nat.le_of_ble_eq_true rfl)]
      simp (maxSteps := 10000000) [-List.getD_eq_getElem?_getD, code22, CB.av, CB.cells, p1, p2, p3, p4, q1, q2, q3, q4, hmv, hpm, ha, ret2]
    · rw [if_neg hn] at ha ⊢
      rw [if_pos rfl, ← clean_is x f]
      have hl := loop22 x hx f O hn x.beds.toNat 0 [] (by omega) (Nat.le_refl _)
      rw [List.nil_append] at hl
      generalize Go.Least.sel (cleanB x) 0 x.beds.toNat = ns at *
      have e5 : ((0 : Nat) : Int) = 0 := rfl
      have hgn : growV 0 1 (ints []) = .nils := rfl
      have hgc : growC 1 (ints []) = [] := rfl
      have hl' := fun E (hE : mask keep22_0 E = _) => run_at hl hE
      simp only [keep22_0, head22, stL, e5, hgn, hgc, hOc, openC, bkC, CB.cells, List.cons_append, List.nil_append] at hl'
      by_cases hns : ns = []
      · subst hns
        rw [hgn] at hl'
        refine ⟨.nils, .inl ⟨rfl, rfl⟩, ?_⟩
        have hsl : slcA 1 .nils none (some (I 0)) (some (I 0)) = some .nils := rfl
        rw [call_run comp22 (Nat.le_of_ble_eq_true rfl)]
        simp (maxSteps := 10000000) [-List.getD_eq_getElem?_getD, code22, CB.av, CB.cells, p1, p2, p3, p4, q1, q2, q3, q4, hmv, hpm, ha, keep22_0, hl', hsl, ret2]
      · have hine : ints ns ≠ [] := by simpa [ints] using hns
        rw [growV_some 0 1 hine] at hl'
        have hil : (ints ns).length = ns.length := by simp [ints]
        refine ⟨.sl 1 (ints ns) .full, .inr (.inr ⟨.full, rfl, rfl⟩), ?_⟩
        have hsl : slcA 1 (.sl 1 (ints ns) (.chain 0)) none (some (I ns.length)) (some (I ns.length)) = some (.sl 1 (ints ns) .full) := by
          simp [slcA, boundA, hil]
          exact List.take_of_length_le (by omega)
        rw [call_run comp22 (Nat.le_of_ble_eq_true rfl)]
        simp (maxSteps := 10000000) [-List.getD_eq_getElem?_getD, code22, CB.av, CB.cells, p1, p2, p3, p4, q1, q2, q3, q4, hmv, hpm, ha, keep22_0, hl', hil, hsl, ret2]
theorem fits1_call (x : CB) {t : Tr} {bed : Nat} (hc : ∀ i, i < 5 → -1 ≤ cA x t i ∧ cA x t i ≤ 100) (ho : 0 ≤ t.out ∧ t.out ≤ 100) (hb : bed < 5) (day : Int) (co : Bool) : call Cv 74 [.agg (trC t (cA x t)), .rp [I bed, I day, .bool co] 0] = some (.bool (coughsT (cA x t bed) t.out day == co)) := by
  have h := coughs_call t (cA x t) hc ho hb day
  simp only [trC, arr, List.cons_append, List.nil_append] at h
  generalize coughsT (cA x t bed) t.out day = b at *
  rw [call_run comp74 (Nat.le_of_ble_eq_true rfl)]
  simp (maxSteps := 10000000) [-List.getD_eq_getElem?_getD, code74, trC, arr, h]
theorem Fits_call (x : CB) (hx : x.Ok) (h : Hd) : call Cv 31 [x.av, .agg (hdC h)] = some (.tup [.bool (decide (errQ x (spotB x h.bed h.day) = 0) && x.bk.fitsV h), I (errQ x (spotB x h.bed h.day))]) := by
  obtain ⟨bed, day, co⟩ := h
  have hs := isSpot_call x hx bed day
  have p1 := hx.mrow.cell
  have p2 := hx.hrow.cell
  have q1 := hx.mrow.pur
  have q2 := hx.hrow.pur
  simp only
  by_cases hbad : checkB x = false ∨ spotB x bed day = false
  · have ha := asked_bad x hx (spotB x bed day) hbad
    rw [errQ_bad hbad]
    obtain ⟨e, he, he2⟩ : ∃ e : Int, (if checkB x then 31 else 30) = e ∧ e ≠ 0 := ⟨_, rfl, by split <;> decide⟩
    have he3 : ((if checkB x then (31 : Int) else 30)) = e := he
    rw [he3] at ha ⊢
    simp only [CB.av, CB.cells, zero13] at ha hs
    generalize spotB x bed day = b at *
    rw [call_run comp31 (Nat.le_of_ble_eq_true rfl)]
    simp (maxSteps := 10000000) [-List.getD_eq_getElem?_getD, code31, CB.av, CB.cells, hdC, p1, p2, q1, q2, hs, ha, he2, ret2]
  · have hk : checkB x = true := by cases h : checkB x with | true => rfl | false => exact absurd (.inl h) hbad
    have hsp : spotB x bed day = true := by cases h : spotB x bed day with | true => rfl | false => exact absurd (.inr h) hbad
    have f := check_fine hk
    obtain ⟨hv, tv, h1, h2, ha⟩ := asked_ok x hx hk
    rw [hsp] at hs
    rw [hsp, errQ_ok hk]
    obtain ⟨r1, r2, r3, r4⟩ := spot_range f hsp
    obtain ⟨m, rfl⟩ : ∃ m : Nat, bed = m := ⟨bed.toNat, by omega⟩
    have hb5 := f.b5
    have hlt := trs_len f []
    rw [left_none] at hlt
    have hcn := any73_call (fun t => trC t (cA x t)) (fun _ => rfl) (fun t σ n => tr_pur t (cA x t) σ n) (fun t => coughsT (cA x t m) t.out day == co) 74 (.rp [I m, I day, .bool co] 0) (fun _ _ => rfl) (fun _ _ _ _ _ => rfl) rfl x.bk.tr (fun t ht => by
      have := tr_bed f ht
      exact fits1_call x (fun i _ => cA_range f (by omega) (by omega) (by omega) (by omega) i) (by omega) (by omega) day co) tv h2 (by omega)
    have hvv : (x.bk.tr.any fun t => coughsT (cA x t m) t.out day == co) = x.bk.fitsV ⟨m, day, co⟩ := by
      unfold Go.Cold.Bk.fitsV
      have : ∀ l : List Tr, (l.any fun t => coughsT (cA x t m) t.out day == co) = l.any fun t => coughsT (x.bk.at t ((m : Int)).toNat) t.out day == co := fun l => by
        induction l with
        | nil => rfl
        | cons a l ih => rw [List.any_cons, List.any_cons, ih, cA_at a r2, Int.toNat_natCast]
      exact this _
    rw [hvv] at hcn
    have p3 := h1.cell
    have p4 := h2.cell
    have q3 := h1.pur
    have q4 := h2.pur
    have hmv : ∀ ks vs, AV.isCell (.mapv ks vs) = true := fun _ _ => rfl
    have hpm : ∀ σ n ks vs, pur σ (n + 1) (.mapv ks vs) = some (.mapv ks vs, false) := fun _ _ _ _ => rfl
    simp only [CB.av, CB.cells, openC, bkC, List.cons_append, List.nil_append] at ha hs
    generalize x.bk.fitsV ⟨m, day, co⟩ = b at *
    unfold errOf at *
    rw [call_run comp31 (Nat.le_of_ble_eq_true rfl)]
    by_cases hn : x.bk.tr = []
    · rw [if_pos hn] at ha ⊢
      simp (maxSteps := 10000000) [-List.getD_eq_getElem?_getD, code31, CB.av, CB.cells, hdC, p1, p2, p3, p4, q1, q2, q3, q4, hs, ha, hmv, hpm, ret2]
    · rw [if_neg hn] at ha ⊢
      simp (maxSteps := 10000000) [-List.getD_eq_getElem?_getD, code31, CB.av, CB.cells, hdC, p1, p2, p3, p4, q1, q2, q3, q4, hs, ha, hmv, hpm, hcn, ret2]
end Go.Ai
