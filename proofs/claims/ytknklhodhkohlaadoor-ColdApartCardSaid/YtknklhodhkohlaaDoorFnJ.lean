/- This text shows who is moved. No conditions of its own. -/
import Derived.Test.YtknklhodhkohlaaDoorFnI
set_option linter.unusedSimpArgs false
set_option linter.unusedVariables false
set_option maxRecDepth 100000
namespace Go.Ai
open Go.Cold (Mv Hd Bk Tr awayL moveAw caughtT)
def putV (v : Int → Bool) (b : Int) : Nat → Int → BM → BM
  | 0, _, l => l
  | n + 1, d, l => putV v b n (d + 1) (BM.put l (b, d) (v d))
theorem get_putV (v : Int → Bool) (b : Int) (k : Int × Int) : ∀ (n : Nat) (d : Int) (l : BM), BM.get (putV v b n d l) k = if b = k.1 ∧ d ≤ k.2 ∧ k.2 < d + n then v k.2 else BM.get l k
  | 0, d, l => by
    have : ¬ (b = k.1 ∧ d ≤ k.2 ∧ k.2 < d + ((0 : Nat) : Int)) := by omega
    rw [putV, if_neg this]
  | n + 1, d, l => by
    rw [putV, get_putV v b k n, bm_get_put]
    by_cases h1 : b = k.1 ∧ d + 1 ≤ k.2 ∧ k.2 < d + 1 + n
    · rw [if_pos h1, if_pos (by omega)]
    · rw [if_neg h1]
      by_cases h : (b, d) = k
      · subst h
        rw [if_pos rfl, if_pos ⟨rfl, Int.le_refl _, by show d < d + ((n + 1 : Nat) : Int); omega⟩]
      · rw [if_neg h, if_neg]
        rintro ⟨h3, h4, h5⟩
        have h2 : d ≠ k.2 := fun e2 => h (by subst h3 e2; rfl)
        exact h1 ⟨h3, by omega, by omega⟩
def putB (v : Int → Int → Bool) (D : Nat) : Nat → Nat → BM → BM
  | 0, _, l => l
  | n + 1, j, l => putB v D n (j + 1) (putV (v j) j D 0 l)
theorem get_putB (v : Int → Int → Bool) (D : Nat) (b : Nat) (d : Int) (h0 : 0 ≤ d) (hD : d < D) : ∀ (n j : Nat) (l : BM), BM.get (putB v D n j l) (b, d) = if j ≤ b ∧ b < j + n then v b d else BM.get l (b, d)
  | 0, j, l => by
    rw [putB, if_neg (by omega)]
  | n + 1, j, l => by
    rw [putB, get_putB v D b d h0 hD n]
    by_cases h1 : j + 1 ≤ b ∧ b < j + 1 + n
    · rw [if_pos h1, if_pos (by omega)]
    · rw [if_neg h1, get_putV]
      by_cases h2 : j = b
      · subst h2
        rw [if_pos ⟨rfl, h0, by show d < 0 + (D : Int); omega⟩, if_pos (by omega)]
      · rw [if_neg, if_neg (by omega)]
        rintro ⟨h3, _⟩
        have : (j : Int) = (b : Int) := h3
        omega
def oE (x : CB) {T : List Tr} (O : OB x T) : List AV := [I x.beds, I x.days, I x.begins, I x.until_, I x.oL, I x.oH, I x.gL, I x.gH, x.mr, I x.rooms, O.hv, .mp 0, O.tv]
def stE (x : CB) {T : List Tr} (O : OB x T) (am : BM) : St := { boxes := [O.c, oE x O], maps := [(ksM am, vsM am)] }
def valE (x : CB) (beds : List Int) (day b d : Int) : Bool := BM.get (amX x) (b, d) || (decide (day ≤ d) && decide (b ∈ beds))
def head76a (x : CB) (r : AV) (day bed d : Int) : Env := mkE 84 .any [(28, I d), (27, I x.days), (22, I bed), (21, I x.beds), (8, I bed), (7, .box 1 0), (3, .box 0 0), (2, I day), (1, r)]
theorem loop76a (x : CB) (f : x.Fine) {T : List Tr} (O : OB x T) (beds : List Int) (r : AV) (hr : IsRow 1 (ints beds) r) (hl : beds.length < 2 ^ 47) (day bed : Int) : ∀ (n : Nat) (d : Int) (am : BM), 0 ≤ d → d + n = x.days →
    run Cv 76 (.loop keep76_0 body76_0) (head76a x r day bed d) (stE x O am) = some (.ex 2, mkE 84 .any [(29, .bool false), (28, I x.days), (27, I x.days), (22, I bed), (21, I x.beds), (8, I bed), (7, .box 1 0), (3, .box 0 0), (2, I day), (1, r)], stE x O (putV (valE x beds day bed) bed n d am))
  | 0, d, am, h0, hn => by
    have hd : d = x.days := by omega
    rw [hd, run_loop]
    simp (maxSteps := 10000000) [-List.getD_eq_getElem?_getD, body76_0, keep76_0, head76a, putV]
  | n + 1, d, am, h0, hn => by
    have hd6 := f.d6
    have hlt : d < x.days := by omega
    have w1 : IntKind.wrap .i64 (d + 1) = d + 1 := wrap_small (by omega) (by omega)
    have ih := loop76a x f O beds r hr hl day bed n (d + 1) (BM.put am (bed, d) (valE x beds day bed d)) (by omega) (by omega)
    rw [putV, ← ih, run_loop]
    generalize MC.loop keep76_0 body76_0 = L
    have hO := O.cells
    have hc := contains_call beds r hr hl bed
    have u1 := O.x.mrow.under
    have u2 := O.hrow.under
    have u3 := O.trow.under
    have u4 := hr.under
    have u5 := O.under
    have q4 := hr.pur
    have ks := ks_under
    have vs := vs_under
    have hlk := fun σ => lkp_mapv σ (amX x) bed d
    have hput := fun v => put_lit [O.c, oE x O] [] [] am bed d v
    simp only [oE, hO] at hput
    unfold valE at *
    generalize BM.get (amX x) (bed, d) = b1 at *
    generalize decide (bed ∈ beds) = b2 at *
    cases b1 with
    | true => simp (maxSteps := 10000000) [-List.getD_eq_getElem?_getD, body76_0, keep76_0, head76a, stE, oE, hO, hlt, w1, hlk, hput, hc, u1, u2, u3, u4, u5, q4, ks, vs]
    | false =>
      by_cases h2 : day ≤ d
      · simp (maxSteps := 10000000) [-List.getD_eq_getElem?_getD, body76_0, keep76_0, head76a, stE, oE, hO, hlt, w1, hlk, hput, hc, h2, u1, u2, u3, u4, u5, q4, ks, vs]
      · simp (maxSteps := 10000000) [-List.getD_eq_getElem?_getD, body76_0, keep76_0, head76a, stE, oE, hO, hlt, w1, hlk, hput, hc, h2, u1, u2, u3, u4, u5, q4, ks, vs]
def head76b (x : CB) (r : AV) (day bed : Int) : Env := mkE 84 .any [(22, I bed), (21, I x.beds), (7, .box 1 0), (3, .box 0 0), (2, I day), (1, r)]
theorem loop76b (x : CB) (f : x.Fine) {T : List Tr} (O : OB x T) (beds : List Int) (r : AV) (hr : IsRow 1 (ints beds) r) (hl : beds.length < 2 ^ 47) (day : Int) : ∀ (n j : Nat) (am : BM), (j : Int) + n = x.beds →
    run Cv 76 (.loop keep76_1 body76_1) (head76b x r day j) (stE x O am) = some (.ex 0, mkE 84 .any [(23, .bool false), (22, I x.beds), (21, I x.beds), (7, .box 1 0), (3, .box 0 0), (2, I day), (1, r)], stE x O (putB (valE x beds day) x.days.toNat n j am))
  | 0, j, am, hn => by
    have hd : (j : Int) = x.beds := by omega
    rw [hd, run_loop]
    simp (maxSteps := 10000000) [-List.getD_eq_getElem?_getD, body76_1, keep76_1, head76b, putB]
  | n + 1, j, am, hn => by
    have hb5 := f.b5
    have hd1 := f.d1
    have hlt : (j : Int) < x.beds := by omega
    have w1 : IntKind.wrap .i64 ((j : Int) + 1) = j + 1 := wrap_small (by omega) (by omega)
    have e1 : (j : Int) + 1 = ((j + 1 : Nat) : Int) := by omega
    have ih := loop76b x f O beds r hr hl day n (j + 1) (putV (valE x beds day j) j x.days.toNat 0 am) (by omega)
    have hl1 := loop76a x f O beds r hr hl day j x.days.toNat 0 am (Int.le_refl _) (by omega)
    have hl' := fun E (hE : mask keep76_0 E = _) => run_at hl1 hE
    have hO := O.cells
    have u1 := O.x.mrow.under
    have u2 := O.hrow.under
    have u3 := O.trow.under
    have u4 := hr.under
    have u5 := O.under
    have ks := ks_under
    have vs := vs_under
    simp only [keep76_0, head76a, stE, oE, hO] at hl'
    rw [putB, ← ih, run_loop]
    generalize MC.loop keep76_1 body76_1 = L
    simp (maxSteps := 10000000) [-List.getD_eq_getElem?_getD, body76_1, keep76_1, keep76_0, head76b, stE, oE, hO, hlt, w1, hl', u1, u2, u3, u4, u5, ks, vs]
end Go.Ai

set_option maxRecDepth 100000
namespace Go.Ai
open Go.Cold (Mv Hd Bk Tr awayL moveAw caughtT)
def stE3 (x : CB) {T : List Tr} (O : OB x T) (am : BM) (t : Tr) : St := { boxes := [O.c, oE x O, trC t (cA x t)], maps := [(ksM am, vsM am)] }
def anyD (day : Int) (c : Nat → Int) : Nat → Nat → Bool
  | 0, _ => false
  | n + 1, j => decide (day ≤ c j) || anyD day c n (j + 1)
theorem ixv_arr (c : Nat → Int) {j : Nat} (h : j < 5) : ixvA 5 1 none (.agg (arr c)) (I j) = some (I (c j)) := by
  have : j = 0 ∨ j = 1 ∨ j = 2 ∨ j = 3 ∨ j = 4 := by omega
  rcases this with rfl | rfl | rfl | rfl | rfl <;> rfl
def head76c (c : Nat → Int) (tv : AV) (n k day j : Int) : Env := mkE 84 .any [(76, I j), (75, .agg (arr c)), (57, I k), (56, I n), (55, tv), (7, .box 1 0), (2, I day)]
theorem loop76c (x : CB) {T : List Tr} (O : OB x T) (am : BM) (t : Tr) (c : Nat → Int) (N k day : Int) : ∀ (n j : Nat), j + n = 5 →
    (anyD day c n j = false ∧ run Cv 76 (.loop keep76_2 body76_2) (head76c c O.tv N k day j) (stE3 x O am t) = some (.ex 6, mkE 84 .any [(77, .bool false), (76, I 5), (75, .agg (arr c)), (57, I k), (56, I N), (55, O.tv), (7, .box 1 0), (2, I day)], stE3 x O am t)) ∨
    (anyD day c n j = true ∧ ∃ L, run Cv 76 (.loop keep76_2 body76_2) (head76c c O.tv N k day j) (stE3 x O am t) = some (.rt, mkE 84 .any ((6, .bool false) :: L), stE3 x O am t))
  | 0, j, hj => by
    obtain rfl : j = 5 := by omega
    left
    refine ⟨rfl, ?_⟩
    have e5 : ((5 : Nat) : Int) = 5 := rfl
    rw [run_loop]
    simp (maxSteps := 10000000) [-List.getD_eq_getElem?_getD, body76_2, keep76_2, head76c, e5]
  | n + 1, j, hj => by
    have hlt : (j : Int) < 5 := by omega
    have w1 : IntKind.wrap .i64 ((j : Int) + 1) = j + 1 := wrap_small (by omega) (by omega)
    have hix := ixv_arr c (j := j) (by omega)
    have hO := O.cells
    have u1 := O.x.mrow.under
    have u2 := O.hrow.under
    have u3 := O.trow.under
    have ks := ks_under
    have vs := vs_under
    have uar : ∀ a b c' d n, (arr c).all (under a b c' d (n + 1)) = true := fun _ _ _ _ _ => rfl
    by_cases h : day ≤ c j
    · right
      refine ⟨by simp [anyD, h], ?_⟩
      rw [run_loop]
      simp (maxSteps := 10000000) [-List.getD_eq_getElem?_getD, body76_2, keep76_2, head76c, hlt, hix, h]
      exact ⟨_, rfl⟩
    · have step : run Cv 76 (.loop keep76_2 body76_2) (head76c c O.tv N k day j) (stE3 x O am t) = run Cv 76 (.loop keep76_2 body76_2) (head76c c O.tv N k day (j + 1)) (stE3 x O am t) := by
        rw [run_loop]
        generalize MC.loop keep76_2 body76_2 = L
        have hcut : ∀ e, cut (stE3 x O am t) (stE3 x O am t) e = stE3 x O am t := fun e => cut_self _ _ (Nat.zero_le _) (Nat.zero_le _)
        simp (maxSteps := 10000000) [-List.getD_eq_getElem?_getD, -cut, body76_2, keep76_2, head76c, hlt, hix, h, w1, hcut]
      have e1 : (j : Int) + 1 = ((j + 1 : Nat) : Int) := by omega
      rw [step, e1]
      rcases loop76c x O am t c N k day n (j + 1) (by omega) with ⟨h1, h2⟩ | ⟨h1, h2⟩
      · exact .inl ⟨by simp [anyD, h, h1], h2⟩
      · exact .inr ⟨by simp [anyD, h, h1], h2⟩
def fineT (x : CB) (aw : Nat → Int → Bool) (day : Int) (t : Tr) : Bool := (decide (day ≤ t.day) && aw t.bed t.day) || !anyD day (caughtA x aw t) 5 0
def head76d (x : CB) {T : List Tr} (O : OB x T) (day k : Int) : Env := mkE 84 .any [(57, I k), (56, I T.length), (55, O.tv), (7, .box 1 0), (2, I day)]
theorem loop76d (x : CB) (f : x.Fine) {T : List Tr} (O : OB x T) (am : BM) (aw : Nat → Int → Bool) (ha : AwOk x am aw) (day : Int) (hT : ∀ t ∈ T, (t.bed : Int) < x.beds ∧ 0 ≤ t.day ∧ t.day < x.days ∧ 1 ≤ t.out ∧ t.out ≤ 3 ∧ 1 ≤ t.goes ∧ t.goes ≤ 3) : ∀ (l : List Tr) (k : Nat), k ≤ T.length → T.drop k = l →
    (l.all (fineT x aw day) = true ∧ ∃ L, run Cv 76 (.loop keep76_3 body76_3) (head76d x O day k) (stE x O am) = some (.ex 4, mkE 84 .any L, stE x O am)) ∨
    (l.all (fineT x aw day) = false ∧ ∃ L σ, run Cv 76 (.loop keep76_3 body76_3) (head76d x O day k) (stE x O am) = some (.rt, mkE 84 .any ((6, .bool false) :: L), σ))
  | [], k, hk, h => by
    obtain rfl := drop_nil hk h
    left
    refine ⟨rfl, ?_⟩
    rw [run_loop]
    simp (maxSteps := 10000000) [-List.getD_eq_getElem?_getD, body76_3, keep76_3, head76d]
    exact ⟨_, rfl⟩
  | t :: l, k, hk, h => by
    obtain ⟨hlt, hat, hd⟩ := head_drop h
    have hTl := O.lt
    have hw := wrap_succ hlt (by omega)
    have hlt' : (k : Int) < (T.length : Int) := by omega
    have hix := t_ix O hlt
    rw [hat] at hix
    obtain ⟨r1, r2, r3, r4, r5, r6, r7⟩ := hT t (by rw [← hat]; exact List.getElem_mem _)
    have hsp := spread_call { x with hr := O.hv, hs := O.hs } ⟨O.x.mrow, O.hrow, O.x.lm, O.lh⟩ f.b1 f.b5 f.d6 am aw ha O.tv ⟨_, O.trow⟩ t r1 r2 r3 r6 r7 (cA x t)
    have hca : caughtA { x with hr := O.hv, hs := O.hs } aw t = caughtA x aw t := rfl
    rw [hca] at hsp
    have hO := O.cells
    have p1 := O.x.mrow.pur
    have p2 := O.hrow.pur
    have p3 := O.trow.pur
    have hS : callA Cv (run Cv) false (.fn (.func 89) [] []) [.agg (oE x O), .agg (trC t (cA x t))] (stE3 x O am t) = some (.agg (arr (caughtA x aw t)), stE3 x O am t) := by
      have hpu : purAll (pur (stE3 x O am t) 12) ([] ++ [.agg (oE x O), .agg (trC t (cA x t))] ++ []) = some ([.agg (bkC { x with hr := O.hv, hs := O.hs } am O.tv), .agg (trC t (cA x t))], true) := by
        have h1 : (stE3 x O am t).maps[0]? = some (ksM am, vsM am) := rfl
        simp [purAll, pur, oE, bkC, CB.cells, trC, arr, h1, ks_pur, vs_pur, p1, p2, p3]
      rw [ca_none (by rfl), hpu]
      simp only [pureCallA, pureA_call, hsp, backA, if_true]
      rfl
    have hlk := lkp_map (stE3 x O am t) am t.bed t.day (.mp 0) rfl
    rw [ha t.bed t.day r1 r2 r3] at hlk
    have l9 := load9 t (cA x t)
    have u1 := O.x.mrow.under
    have u2 := O.hrow.under
    have u3 := O.trow.under
    have u5 := O.under
    have ks := ks_under
    have vs := vs_under
    have ih := loop76d x f O am aw ha day hT l (k + 1) hlt hd
    have e1 : (k : Int) + 1 = ((k + 1 : Nat) : Int) := by omega
    simp only [trC, arr, List.cons_append, List.nil_append, stE3, oE, hO] at hix l9 hS hlk
    have hcont : (run Cv 76 (.loop keep76_3 body76_3) (head76d x O day k) (stE x O am) = run Cv 76 (.loop keep76_3 body76_3) (head76d x O day (k + 1)) (stE x O am)) → fineT x aw day t = true →
      ((t :: l).all (fineT x aw day) = true ∧ ∃ L, run Cv 76 (.loop keep76_3 body76_3) (head76d x O day k) (stE x O am) = some (.ex 4, mkE 84 .any L, stE x O am)) ∨
      ((t :: l).all (fineT x aw day) = false ∧ ∃ L σ, run Cv 76 (.loop keep76_3 body76_3) (head76d x O day k) (stE x O am) = some (.rt, mkE 84 .any ((6, .bool false) :: L), σ)) := fun hs hf => by
      rw [hs, e1, List.all_cons, hf, Bool.true_and]
      exact ih
    by_cases hg : day ≤ t.day ∧ aw t.bed t.day = true
    · refine hcont ?_ (by simp [fineT, hg.1, hg.2])
      rw [hg.2] at hlk
      have hg1 := hg.1
      rw [run_loop]
      generalize MC.loop keep76_3 body76_3 = L
      simp (maxSteps := 10000000) [-List.getD_eq_getElem?_getD, -ixsA, body76_3, keep76_3, head76d, stE, oE, hO, hlt', hw, hix, l9, hg1, hlk, u1, u2, u3, u5, ks, vs]
    · have hfin : fineT x aw day t = !anyD day (caughtA x aw t) 5 0 := by
        have : (decide (day ≤ t.day) && aw t.bed t.day) = false := by
          cases h1 : decide (day ≤ t.day) with
          | false => rfl
          | true =>
            cases h2 : aw t.bed t.day with
            | false => rfl
            | true => exact absurd ⟨of_decide_eq_true h1, h2⟩ hg
        simp [fineT, this]
      have e0 : ((0 : Nat) : Int) = 0 := rfl
      rcases loop76c x O am t (caughtA x aw t) T.length k day 5 0 rfl with ⟨h1, hl⟩ | ⟨h1, L, hl⟩
      · have hl' := fun E (hE : mask keep76_2 E = _) => run_at hl hE
        simp only [keep76_2, head76c, stE3, e0, oE, hO, trC, arr, List.cons_append, List.nil_append] at hl'
        refine hcont ?_ (by rw [hfin, h1]; rfl)
        rw [run_loop]
        generalize MC.loop keep76_3 body76_3 = LL
        by_cases h2 : day ≤ t.day
        · have h3 : aw t.bed t.day = false := by
            cases h : aw t.bed t.day with
            | false => rfl
            | true => exact absurd ⟨h2, h⟩ hg
          rw [h3] at hlk
          simp (maxSteps := 10000000) [-List.getD_eq_getElem?_getD, -ixsA, body76_3, keep76_3, keep76_2, head76d, stE, oE, hO, hlt', hw, hix, l9, h2, hlk, hS, arr, hl', u1, u2, u3, u5, ks, vs]
        · simp (maxSteps := 10000000) [-List.getD_eq_getElem?_getD, -ixsA, body76_3, keep76_3, keep76_2, head76d, stE, oE, hO, hlt', hw, hix, l9, h2, hS, arr, hl', u1, u2, u3, u5, ks, vs]
      · have hl' := fun E (hE : mask keep76_2 E = _) => run_at hl hE
        simp only [keep76_2, head76c, stE3, e0, oE, hO, trC, arr, List.cons_append, List.nil_append] at hl'
        right
        refine ⟨by rw [List.all_cons, hfin, h1]; rfl, ?_⟩
        rw [run_loop]
        by_cases h2 : day ≤ t.day
        · have h3 : aw t.bed t.day = false := by
            cases h : aw t.bed t.day with
            | false => rfl
            | true => exact absurd ⟨h2, h⟩ hg
          rw [h3] at hlk
          simp (maxSteps := 10000000) [-List.getD_eq_getElem?_getD, -ixsA, body76_3, keep76_3, keep76_2, head76d, stE, oE, hO, hlt', hw, hix, l9, h2, hlk, hS, arr, hl']
          exact ⟨_, rfl⟩
        · simp (maxSteps := 10000000) [-List.getD_eq_getElem?_getD, -ixsA, body76_3, keep76_3, keep76_2, head76d, stE, oE, hO, hlt', hw, hix, l9, h2, hS, arr, hl']
          exact ⟨_, rfl⟩
end Go.Ai

set_option maxRecDepth 100000
namespace Go.Ai
open Go.Cold (Mv Hd Bk Tr awayL moveAw caughtT)
theorem anyD_false {day : Int} {c : Nat → Int} : ∀ (n j : Nat), anyD day c n j = false ↔ ∀ i, j ≤ i → i < j + n → c i < day
  | 0, j => by
    constructor
    · intro _ i h1 h2; omega
    · intro _; rfl
  | n + 1, j => by
    rw [anyD, Bool.or_eq_false_iff, anyD_false n (j + 1), decide_eq_false_iff_not]
    constructor
    · rintro ⟨h1, h2⟩ i h3 h4
      rcases Nat.lt_or_ge j i with h | h
      · exact h2 i h (by omega)
      · have : i = j := by omega
        subst this
        omega
    · intro h
      exact ⟨by have := h j (Nat.le_refl _) (by omega); omega, fun i h1 h2 => h i (by omega) (by omega)⟩
theorem amX_get (x : CB) (f : x.Fine) : AwOk x (amX x) (awayL x.ms) := fun b d hb h0 hD => by
  show BM.get (putMs x.days x.ms am0) (b, d) = awayL x.ms b d
  rw [get_putMs x.days (b, d) hD x.ms am0 fun m hm => by have := f.ms m hm; omega]
  have : BM.get am0 ((b : Int), d) = false := by
    have h1 : ¬ ((-1 : Int), (-1 : Int)) = ((b : Int), d) := by
      intro h
      have := (Prod.mk.inj h).1
      omega
    simp only [am0, BM.get, h1, if_false]
  rw [this, Bool.false_or]
  rfl
theorem fineT_is (x : CB) (f : x.Fine) (day : Int) (hd : 1 ≤ day) (aw : Nat → Int → Bool) (t : Tr) : fineT x aw day t = ((decide (day ≤ t.day) && aw t.bed t.day) || (List.range' 0 x.bk.B).all fun i => decide (caughtT x.bk.B x.bk.D aw t i < day)) := by
  unfold fineT
  congr 1
  rw [Bool.eq_iff_iff, Bool.not_eq_true', anyD_false, List.all_eq_true]
  have hB : x.bk.B = x.beds.toNat := rfl
  have hb1 := f.b1
  have hb5 := f.b5
  constructor
  · intro h i hi
    have hi' : i < x.beds.toNat := by simpa [hB] using hi
    have := h i (Nat.zero_le _) (by omega)
    unfold caughtA at this
    rw [if_pos (by omega)] at this
    exact decide_eq_true this
  · intro h i _ hi
    unfold caughtA
    split
    · rename_i hlt
      exact of_decide_eq_true (h i (by simp [hB]; omega))
    · omega
theorem enough_call (x : CB) (f : x.Fine) (O : OB x x.bk.tr) (beds : List Int) (r : AV) (hr : IsRow 1 (ints beds) r) (hl : beds.length < 2 ^ 47) (day : Int) (hd : 1 ≤ day) : call Cv 76 [.agg O.c, r, I day] = some (.bool (x.bk.enough beds day)) := by
  have hB := bedsN f
  have hd1 := f.d1
  have h1 := loop76b x f O beds r hr hl day x.beds.toNat 0 am0 (by omega)
  have hAw : AwOk x (putB (valE x beds day) x.days.toNat x.beds.toNat 0 am0) (moveAw x.ms beds day) := fun b d hb h0 hD => by
    rw [get_putB _ _ b d h0 (by omega), if_pos ⟨Nat.zero_le _, by omega⟩]
    unfold valE moveAw
    rw [amX_get x f b d hb h0 hD]
  have h2 := loop76d x f O _ _ hAw day (fun t ht => tr_bed f ht) x.bk.tr 0 (Nat.zero_le _) rfl
  have hen : x.bk.enough beds day = x.bk.tr.all (fineT x (moveAw x.ms beds day) day) := by
    unfold Go.Cold.Bk.enough
    congr 1
    funext t
    exact (fineT_is x f day hd _ t).symm
  rw [← hen] at h2
  have e0 : ((0 : Nat) : Int) = 0 := rfl
  have h1' := fun E (hE : mask keep76_1 E = _) => run_at h1 hE
  have hO := O.cells
  have hcell := O.cell
  rw [hO] at hcell
  have p1 := O.x.mrow.cell
  have p2 := O.hrow.cell
  have p3 := O.trow.cell
  have hmv : ∀ ks vs, AV.isCell (.mapv ks vs) = true := fun _ _ => rfl
  have htl := t_len O
  have hks0 : ksM am0 = [.agg [I (-1), I (-1)]] := rfl
  have hvs0 : vsM am0 = [.bool true] := rfl
  have hnw : ∀ σ, loadA σ (some 2) (.rp [I (-1), I (-1)] 0) = some (.agg [I (-1), I (-1)]) := fun _ => rfl
  have hput : ∀ B, mputA { boxes := B, maps := [([], [])] } (some 2) (.mp 0) (.agg [I (-1), I (-1)]) (.bool true) = some { boxes := B, maps := [([.agg [I (-1), I (-1)]], [.bool true])] } := fun B => by simp [mputA, findA, keyOk, allInt]
  simp only [keep76_1, head76b, stE, oE, e0, hO, hks0, hvs0] at h1'
  generalize putB (valE x beds day) x.days.toNat x.beds.toNat 0 am0 = AM at *
  rw [hO]
  rcases h2 with ⟨g1, L, g2⟩ | ⟨g1, L, σ, g2⟩
  · have h2' := fun E (hE : mask keep76_3 E = _) => run_at g2 hE
    simp only [keep76_3, head76d, stE, oE, e0, hO] at h2'
    rw [g1, call_run comp76 (Nat.le_of_ble_eq_true rfl)]
    simp (maxSteps := 10000000) [-List.getD_eq_getElem?_getD, code76, p1, p2, p3, hmv, hnw, hput, keep76_1, keep76_3, h1', htl, h2']
  · have h2' := fun E (hE : mask keep76_3 E = _) => run_at g2 hE
    simp only [keep76_3, head76d, stE, oE, e0, hO] at h2'
    rw [g1, call_run comp76 (Nat.le_of_ble_eq_true rfl)]
    simp (maxSteps := 10000000) [-List.getD_eq_getElem?_getD, code76, p1, p2, p3, hmv, hnw, hput, keep76_1, keep76_3, h1', htl, h2']
end Go.Ai
