/- This text shows what asked, count, Right, Ill, Coughs answer. No conditions of its own. -/
import Derived.Test.YtknklhodhkohlaaDoorFnD
set_option linter.unusedSimpArgs false
set_option linter.unusedVariables false
set_option maxRecDepth 100000
namespace Go.Ai
open Go.Cold (Mv Hd Bk Tr coughsT illT rightT keptH butF awayL caughtT lineF line_first)
theorem ret2 {e : Env} {σ : St} {a b : Tmp} : retA [(a, none), (b, none)] e σ = some (.tup [gt e a, gt e b]) := rfl
theorem ret3 {e : Env} {σ : St} {a b c : Tmp} : retA [(a, none), (b, none), (c, none)] e σ = some (.tup [gt e a, gt e b, gt e c]) := rfl
theorem retc2 {e : Env} {σ : St} {a b : Tmp} {n : Option Nat} : retA [(a, some n), (b, none)] e σ = (loadA σ n (gt e a)).map fun v => .tup [v, gt e b] := by
  unfold retA
  rw [rets_cell, rets_val, rets_nil]
  cases loadA σ n (gt e a) <;> rfl
def cA (x : CB) (t : Tr) : Nat → Int := caughtA x (awayL x.ms) t
def rowT (x : CB) (T : List Tr) : List AV := T.map fun t => .agg (trC t (cA x t))
theorem bedsN {x : CB} (f : x.Fine) : ((x.beds.toNat : Nat) : Int) = x.beds := by have := f.b1; omega
theorem filter_flat {α β : Type} (p : β → Bool) (g : α → List β) : ∀ l : List α, (l.flatMap g).filter p = l.flatMap fun a => (g a).filter p
  | [] => rfl
  | a :: l => by rw [List.flatMap_cons, List.filter_append, filter_flat p g l, List.flatMap_cons]
theorem flat_congr {α β : Type} {g h : α → List β} : ∀ {l : List α}, (∀ a ∈ l, g a = h a) → l.flatMap g = l.flatMap h
  | [], _ => rfl
  | a :: l, H => by rw [List.flatMap_cons, List.flatMap_cons, H a (.head _), flat_congr fun b hb => H b (.tail _ hb)]
theorem tr_is (x : CB) (f : x.Fine) (but : List Int) : (openX x but).tB 0 x.beds.toNat = (x.bk.left but).tr := by
  have hB := bedsN f
  show _ = Go.Cold.truthsF x.beds.toNat x.days (fun i => x.begins.toNat.testBit i) x.until_ x.oL x.oH x.gL x.gH x.ms (keptH (butF but) x.hs 0)
  unfold Go.Cold.truthsF Go.Cold.candsF
  rw [filter_flat]
  unfold WX.tB
  refine flat_congr fun bed hbed => ?_
  have hb : bed < x.beds.toNat := by simpa using hbed
  rw [filter_flat]
  have e1 : (openX x but).x = x := rfl
  have e2 : (openX x but).nD = (x.until_ + 1).toNat := rfl
  rw [e1]
  have key : ∀ day : Nat, (((List.range' 0 (x.oH - x.oL + 1).toNat).flatMap fun (o : Nat) => (List.range' 0 (x.gH - x.gL + 1).toNat).map fun (g : Nat) => (⟨bed, day, x.oL + o, x.gL + g⟩ : Tr)).filter fun t => x.begins.toNat.testBit t.bed && (!awayL x.ms t.bed t.day && rightT x.beds.toNat x.days (awayL x.ms) (keptH (butF but) x.hs 0) t)) =
      if x.begins.toNat.testBit bed = true ∧ awayL x.ms bed day = false then (openX x but).tO bed day 0 (openX x but).nO else [] := by
    intro day
    rw [filter_flat]
    by_cases hc : x.begins.toNat.testBit bed = true ∧ awayL x.ms bed day = false
    · rw [if_pos hc]
      unfold WX.tO
      refine flat_congr fun o ho => ?_
      unfold WX.tG
      refine List.filter_congr fun t ht => ?_
      obtain ⟨g, _, rfl⟩ := List.mem_map.1 ht
      show (x.begins.toNat.testBit bed && (!awayL x.ms bed day && rightT x.beds.toNat x.days (awayL x.ms) (keptH (butF but) x.hs 0) _)) = rightB (keptH (butF but) x.hs 0) _ (caughtA x (awayL x.ms) _)
      rw [hc.1, hc.2]
      simp only [Bool.not_false, Bool.true_and]
      unfold rightT rightB
      have : ∀ l : List Hd, (∀ h ∈ l, h ∈ x.hs) → (l.all fun h => coughsT (caughtT x.beds.toNat x.days (awayL x.ms) (⟨bed, day, x.oL + o, x.gL + g⟩ : Tr) h.bed.toNat) (x.oL + o) h.day == h.cough) = l.all fun h => coughsT (caughtA x (awayL x.ms) (⟨bed, day, x.oL + o, x.gL + g⟩ : Tr) h.bed.toNat) (x.oL + o) h.day == h.cough := by
        intro l hl
        induction l with
        | nil => rfl
        | cons a l ih =>
          rw [List.all_cons, List.all_cons, ih fun h hh => hl h (.tail _ hh)]
          congr 2
          have := f.hs a (hl a (.head _))
          unfold caughtA
          rw [if_pos (by omega)]
      exact this _ fun h hh => kept_sub _ _ _ _ hh
    · rw [if_neg hc]
      have : ∀ l : List Nat, (l.flatMap fun (o : Nat) => ((List.range' 0 (x.gH - x.gL + 1).toNat).map fun (g : Nat) => (⟨bed, day, x.oL + o, x.gL + g⟩ : Tr)).filter fun t => x.begins.toNat.testBit t.bed && (!awayL x.ms t.bed t.day && rightT x.beds.toNat x.days (awayL x.ms) (keptH (butF but) x.hs 0) t)) = [] := by
        intro l
        rw [List.flatMap_eq_nil_iff]
        intro o _
        rw [List.filter_eq_nil_iff]
        intro t ht
        obtain ⟨g, _, rfl⟩ := List.mem_map.1 ht
        show ¬ (x.begins.toNat.testBit bed && (!awayL x.ms bed day && _)) = true
        intro h
        rw [Bool.and_eq_true, Bool.and_eq_true, Bool.not_eq_true'] at h
        exact hc ⟨h.1, h.2.1⟩
      exact this _
  rw [flat_congr fun day _ => key day]
  by_cases hb' : x.begins.toNat.testBit bed = true
  · rw [if_pos hb']
    unfold WX.tD
    refine flat_congr fun day _ => ?_
    have e3 : (openX x but).aw = awayL x.ms := rfl
    rw [e3]
    cases ha : awayL x.ms bed day with
    | true => simp
    | false => simp [hb']
  · rw [if_neg hb']
    symm
    rw [List.flatMap_eq_nil_iff]
    intro day _
    rw [if_neg fun h => hb' h.1]
def amX (x : CB) : BM := putMs x.days x.ms am0
theorem open_call (x : CB) (hx : x.Ok) (f : x.Fine) (but : List Int) (r : AV) (hr : IsRow 1 (ints but) r) (hl : but.length < 2 ^ 47) :
    ∃ hv tv, IsRow 3 (hdRow (keptH (butF but) x.hs 0)) hv ∧ IsRow 9 (rowT x (x.bk.left but).tr) tv ∧ call Cv 57 [x.av, r] = some (.agg (openC x hv (amX x) tv)) := by
  obtain ⟨hv, tv, h1, h2, h3⟩ := opened_call x hx f but r hr hl
  rw [tr_is x f but] at h2
  exact ⟨hv, tv, h1, h2, h3⟩
theorem row_len9 {x : CB} {T : List Tr} {tv : AV} (h : IsRow 9 (rowT x T) tv) : lenA tv = some (I T.length) := by rw [h.len]; simp [rowT]
theorem left_none (x : CB) : x.bk.left [] = x.bk := by
  unfold Go.Cold.Bk.left
  have : keptH (butF []) x.bk.hs 0 = x.bk.hs := by
    have e : butF [] = fun _ => false := by funext k; simp [butF]
    rw [e]
    exact Go.Cold.kept_none _ _
  rw [this]
def errOf (T : List Tr) : Int := if T = [] then 32 else 0
theorem asked_bad (x : CB) (hx : x.Ok) (is : Bool) (h : checkB x = false ∨ is = false) : call Cv 59 [x.av, .bool is] = some (.tup [.agg zero13, I (if checkB x then 31 else 30)]) := by
  have hc := check_call x hx
  have p1 := hx.mrow.cell
  have p2 := hx.hrow.cell
  have q1 := hx.mrow.pur
  have q2 := hx.hrow.pur
  simp only [CB.av, CB.cells] at hc
  rw [call_run comp59 (Nat.le_of_ble_eq_true rfl)]
  cases hk : checkB x with
  | false =>
    rw [hk] at hc
    simp (maxSteps := 10000000) [-List.getD_eq_getElem?_getD, code59, CB.av, CB.cells, zero13, p1, p2, q1, q2, hc, fillA, ret2, retc2]
  | true =>
    rw [hk] at hc h
    have : is = false := by simpa using h
    subst this
    simp (maxSteps := 10000000) [-List.getD_eq_getElem?_getD, code59, CB.av, CB.cells, zero13, p1, p2, q1, q2, hc, fillA, ret2, retc2]
theorem asked_ok (x : CB) (hx : x.Ok) (hk : checkB x = true) : ∃ hv tv, IsRow 3 (hdRow x.hs) hv ∧ IsRow 9 (rowT x x.bk.tr) tv ∧ call Cv 59 [x.av, .bool true] = some (.tup [.agg (openC x hv (amX x) tv), I (errOf x.bk.tr)]) := by
  have f := check_fine hk
  obtain ⟨hv, tv, h1, h2, h3⟩ := open_call x hx f [] .nils (.inl ⟨rfl, rfl⟩) (by simp)
  rw [left_none] at h2
  have hkn : keptH (butF []) x.hs 0 = x.hs := by
    have e : butF [] = fun _ => false := by funext k; simp [butF]
    rw [e]
    exact Go.Cold.kept_none _ _
  rw [hkn] at h1
  refine ⟨hv, tv, h1, h2, ?_⟩
  have hc := check_call x hx
  rw [hk] at hc
  have p1 := hx.mrow.cell
  have p2 := hx.hrow.cell
  have q1 := hx.mrow.pur
  have q2 := hx.hrow.pur
  have p3 := h1.cell
  have p4 := h2.cell
  have q3 := h1.pur
  have q4 := h2.pur
  have hl := row_len9 h2
  have hmv : ∀ ks vs, AV.isCell (.mapv ks vs) = true := fun _ _ => rfl
  have hfo : ∀ ks vs : List AV, fo 12 (.agg [I x.beds]) = true := fun _ _ => rfl
  simp only [CB.av, CB.cells] at hc h3
  have hpm : ∀ σ n ks vs, pur σ (n + 1) (.mapv ks vs) = some (.mapv ks vs, false) := fun _ _ _ _ => rfl
  rw [call_run comp59 (Nat.le_of_ble_eq_true rfl)]
  unfold errOf
  by_cases hn : x.bk.tr = []
  · have hl0 : (x.bk.tr.length : Int) = 0 := by rw [hn]; rfl
    rw [hl0] at hl
    simp (maxSteps := 10000000) [-List.getD_eq_getElem?_getD, code59, CB.av, CB.cells, openC, bkC, p1, p2, p3, p4, q1, q2, q3, q4, hc, h3, hl, hmv, hpm, hn, fillA, ret2, retc2]
  · have hl0 : ((x.bk.tr.length : Int) == 0) = false := by
      rw [beq_eq_false_iff_ne]
      intro h
      exact hn (List.eq_nil_of_length_eq_zero (by omega))
    simp (maxSteps := 10000000) [-List.getD_eq_getElem?_getD, code59, CB.av, CB.cells, openC, bkC, p1, p2, p3, p4, q1, q2, q3, q4, hc, h3, hl, hl0, hmv, hpm, hn, fillA, ret2, retc2]
theorem Right_call (x : CB) (hx : x.Ok) : call Cv 18 [x.av] = some (.tup [.bool (checkB x && !x.bk.tr.isEmpty), I (if checkB x then 0 else 30)]) := by
  have hc := check_call x hx
  have p1 := hx.mrow.cell
  have p2 := hx.hrow.cell
  have q1 := hx.mrow.pur
  have q2 := hx.hrow.pur
  rw [call_run comp18 (Nat.le_of_ble_eq_true rfl)]
  cases hk : checkB x with
  | false =>
    rw [hk] at hc
    simp only [CB.av, CB.cells] at hc
    simp (maxSteps := 10000000) [-List.getD_eq_getElem?_getD, code18, CB.av, CB.cells, p1, p2, q1, q2, hc, ret2]
  | true =>
    rw [hk] at hc
    have f := check_fine hk
    obtain ⟨hv, tv, h1, h2, h3⟩ := open_call x hx f [] .nils (.inl ⟨rfl, rfl⟩) (by simp)
    rw [left_none] at h2
    have hl := row_len9 h2
    simp only [CB.av, CB.cells] at hc h3
    have hlt : decide (0 < x.bk.tr.length) = !x.bk.tr.isEmpty := by
      cases x.bk.tr with
      | nil => rfl
      | cons a l => simp
    simp (maxSteps := 10000000) [-List.getD_eq_getElem?_getD, code18, CB.av, CB.cells, openC, bkC, p1, p2, q1, q2, hc, h3, hl, hlt, ret2]
end Go.Ai

set_option maxRecDepth 100000
namespace Go.Ai
open Go.Cold (Mv Hd Bk Tr coughsT illT rightT keptH butF awayL caughtT lineF line_first cnt votesP)
theorem some_call (a b : Int) : call Cv 133 [.agg [I a, I b]] = some (.bool (decide (0 < a))) := by
  rw [call_run comp133 (Nat.le_of_ble_eq_true rfl)]
  simp (maxSteps := 10000000) [-List.getD_eq_getElem?_getD, code133]
theorem each_call (a b : Int) : call Cv 131 [.agg [I a, I b]] = some (.bool (decide (a = b))) := by
  rw [call_run comp131 (Nat.le_of_ble_eq_true rfl)]
  simp (maxSteps := 10000000) [-List.getD_eq_getElem?_getD, code131]
  rfl
structure OB (x : CB) (T : List Tr) where
  hv : AV
  tv : AV
  hs : List Hd
  hrow : IsRow 3 (hdRow hs) hv
  trow : IsRow 9 (rowT x T) tv
  lt : T.length < 2 ^ 40
  lh : hs.length < 2 ^ 47
  x : x.Ok
def OB.c {x : CB} {T : List Tr} (O : OB x T) : List AV := openC x O.hv (amX x) O.tv
theorem OB.cells {x : CB} {T : List Tr} (O : OB x T) : O.c = [I x.beds, I x.days, I x.begins, I x.until_, I x.oL, I x.oH, I x.gL, I x.gH, x.mr, I x.rooms, O.hv, .mapv (ksM (amX x)) (vsM (amX x)), O.tv] := rfl
theorem OB.pur {x : CB} {T : List Tr} (O : OB x T) (σ : St) (n : Nat) : purAll (Ai.pur σ (n + 1)) O.c = some (O.c, false) := by
  rw [O.cells]
  have p1 := O.x.mrow.pur
  have p2 := O.hrow.pur
  have p3 := O.trow.pur
  simp [purAll, Ai.pur, p1, p2, p3]
theorem OB.cell {x : CB} {T : List Tr} (O : OB x T) : O.c.all AV.isCell = true := by
  rw [O.cells]
  have p1 := O.x.mrow.cell
  have p2 := O.hrow.cell
  have p3 := O.trow.cell
  have hmv : ∀ ks vs, AV.isCell (.mapv ks vs) = true := fun _ _ => rfl
  simp [p1, p2, p3, hmv]
theorem OB.under {x : CB} {T : List Tr} (O : OB x T) (a b c d n : Nat) : O.c.all (Ai.under a b c d (n + 1)) = true := by
  rw [O.cells]
  have p1 := O.x.mrow.under a b c d n
  have p2 := O.hrow.under a b c d n
  have p3 := O.trow.under a b c d n
  simp [Ai.under, p1, p2, p3]
theorem t_ix {x : CB} {T : List Tr} (O : OB x T) {k : Nat} (hk : k < T.length) : ixsA 9 O.tv (I k) = some (.rp (trC T[k] (cA x T[k])) 0) := by
  have hne : rowT x T ≠ [] := by
    intro h
    have : T = [] := by simpa [rowT] using h
    rw [this] at hk
    simp at hk
  obtain ⟨c, hc, hr'⟩ := O.trow.sl hne
  have hl : (rowT x T).length = T.length := by simp [rowT]
  rw [hr']
  simp [ixsA, AV.cells, hk, rowT]
theorem t_len {x : CB} {T : List Tr} (O : OB x T) : lenA O.tv = some (I T.length) := row_len9 O.trow
theorem load9 (t : Tr) (c : Nat → Int) (σ : St) : loadA σ (some 9) (.rp (trC t c) 0) = some (.agg (trC t c)) := rfl
def stN (x : CB) {T : List Tr} (O : OB x T) (s : Int) : St := { boxes := [O.c, [I s, I T.length]] }
def head65a {x : CB} {T : List Tr} (O : OB x T) (F : AV) (k : Int) : Env := mkE 41 .any [(18, I k), (17, I T.length), (16, O.tv), (6, I 0), (5, .box 1 0), (1, F)]
theorem loop65a (x : CB) {T : List Tr} (O : OB x T) (g : Nat) (caps : List AV) (p : Tr → Bool) (himp : Cv.imp g = false) (hcp : ∀ σ n, purAll (pur σ (n + 1)) caps = some (caps, false)) (hcu : ∀ a b c d n, caps.all (under a b c d (n + 1)) = true) (hg : ∀ t ∈ T, call Cv g (.agg (trC t (cA x t)) :: caps) = some (.bool (p t))) :
    ∀ (l : List Tr) (k s : Nat), k ≤ T.length → T.drop k = l → s ≤ k → run Cv 65 (.loop keep65_0 body65_0) (head65a O (.fn (.func g) [] caps) k) (stN x O s) = some (.ex 0, mkE 41 .any [(19, .bool false), (18, I T.length), (17, I T.length), (16, O.tv), (6, I 0), (5, .box 1 0), (1, .fn (.func g) [] caps)], stN x O ((s + cnt p l : Nat) : Int))
  | [], k, s, hk, h, hs => by
    obtain rfl := drop_nil hk h
    rw [run_loop]
    simp (maxSteps := 10000000) [-List.getD_eq_getElem?_getD, body65_0, keep65_0, head65a, cnt]
  | t :: l, k, s, hk, h, hs => by
    obtain ⟨hlt, ha, hd⟩ := head_drop h
    have hTl := O.lt
    have hw := wrap_succ hlt (by omega)
    have hw2 : IntKind.wrap .i64 ((s : Int) + 1) = s + 1 := wrap_small (by omega) (by omega)
    have hlt' : (k : Int) < (T.length : Int) := by omega
    have hix := t_ix O hlt
    rw [ha] at hix
    have hgt := hg t (by rw [← ha]; exact List.getElem_mem _)
    have hfn : ∀ σ args, callA Cv (run Cv) false (.fn (.func g) [] caps) args σ = pureCallA Cv (run Cv) false g σ (purAll (pur σ 12) (args ++ caps)) := fun σ args => ca_none himp
    have hpu : ∀ σ, purAll (pur σ 12) ([.agg (trC t (cA x t))] ++ caps) = some (.agg (trC t (cA x t)) :: caps, false) := fun σ => by
      have h1 := hcp σ 11
      have h2 : pur σ 12 (.agg (trC t (cA x t))) = some (.agg (trC t (cA x t)), false) := rfl
      simp [purAll, h1, h2]
    have u1 := O.trow.under
    have u2 := O.under
    have hun : ∀ a b c d, under a b c d 6 (.fn (.func g) [] caps) = true := fun a b c d => by
      have := hcu a b c d 4
      simp [under, this]
    have l9 := load9 t (cA x t)
    have ih := loop65a x O g caps p himp hcp hcu hg l (k + 1) (if p t then s + 1 else s) hlt hd (by split <;> omega)
    have e1 : (if p t = true then s + 1 else s) + cnt p l = s + cnt p (t :: l) := by
      unfold cnt
      rw [List.filter_cons]
      split
      · rw [List.length_cons]; omega
      · rfl
    rw [e1] at ih
    rw [← ih, run_loop]
    generalize MC.loop keep65_0 body65_0 = L
    simp only [trC, arr, List.cons_append, List.nil_append] at hix hgt hpu l9
    have hs9 : ∀ v : List AV, v.length = 9 → v.all AV.isCell = true → True := fun _ _ _ => trivial
    cases hp : p t with
    | false =>
      rw [hp] at hgt
      simp (maxSteps := 10000000) [-List.getD_eq_getElem?_getD, -ixsA, -loadA.eq_3, body65_0, keep65_0, head65a, stN, hlt', hw, hw2, hix, hgt, hfn, hpu, u1, u2, hun]
    | true =>
      rw [hp] at hgt
      simp (maxSteps := 10000000) [-List.getD_eq_getElem?_getD, -ixsA, -loadA.eq_3, body65_0, keep65_0, head65a, stN, hlt', hw, hw2, hix, hgt, hfn, hpu, u1, u2, hun]
end Go.Ai

set_option maxRecDepth 100000
namespace Go.Ai
open Go.Cold (Mv Hd Bk Tr coughsT illT rightT keptH butF awayL caughtT lineF line_first cnt votesP)
theorem ix_k0 : ixvA 2 1 none (.agg [.fn (.func 133) [] [], .fn (.func 131) [] []]) (I 0) = some (.fn (.func 133) [] []) := rfl
theorem ix_k1 : ixvA 2 1 none (.agg [.fn (.func 133) [] [], .fn (.func 131) [] []]) (I 1) = some (.fn (.func 131) [] []) := rfl
theorem some_callA (σ : St) (a b : Int) : callA Cv (run Cv) false (.fn (.func 133) [] []) [.agg [I a, I b]] σ = some (.bool (decide (0 < a)), σ) := by
  have hp : purAll (pur σ 12) ([] ++ [.agg [I a, I b]] ++ []) = some ([.agg [I a, I b]], false) := rfl
  rw [ca_none (by rfl), hp]
  simp only [pureCallA, pureA_call, some_call, backA]
  rfl
theorem each_callA (σ : St) (a b : Int) : callA Cv (run Cv) false (.fn (.func 131) [] []) [.agg [I a, I b]] σ = some (.bool (decide (a = b)), σ) := by
  have hp : purAll (pur σ 12) ([] ++ [.agg [I a, I b]] ++ []) = some ([.agg [I a, I b]], false) := rfl
  rw [ca_none (by rfl), hp]
  simp only [pureCallA, pureA_call, each_call, backA]
  rfl
def head65b (n k : Int) : Env := mkE 41 .any [(31, I k), (30, .agg [.fn (.func 133) [] [], .fn (.func 131) [] []]), (6, I n), (5, .box 1 0)]
theorem loop65b (x : CB) {T : List Tr} (O : OB x T) (s : Nat) : ∃ L, run Cv 65 (.loop keep65_1 body65_1) (head65b 0 0) (stN x O s) = some (.ex 2, mkE 41 .any L, stN x O s) ∧ gt (mkE 41 .any L) 6 = I (votesP s T.length) := by
  have h1 := fun σ => some_callA σ s T.length
  have h2 := fun σ => each_callA σ s T.length
  have i0 := ix_k0
  have i1 := ix_k1
  have u1 := O.under
  have w0 : IntKind.wrap .i64 ((0 : Int) + 1) = 1 := rfl
  have w1 : IntKind.wrap .i64 ((1 : Int) + 1) = 2 := rfl
  have r1 : ∀ n : Int, n = 0 ∨ n = 1 → run Cv 65 (.loop keep65_1 body65_1) (head65b 0 0) (stN x O s) = run Cv 65 (.loop keep65_1 body65_1) (head65b (if 0 < s then 1 else 0) 1) (stN x O s) := by
    intro _ _
    rw [run_loop]
    generalize MC.loop keep65_1 body65_1 = L
    by_cases h : 0 < s
    · have h' : decide ((0 : Int) < (s : Int)) = true := by simp; omega
      simp only [h'] at h1
      simp (maxSteps := 10000000) [-List.getD_eq_getElem?_getD, body65_1, keep65_1, head65b, stN, h1, i0, h, w0, u1]
    · have h' : decide ((0 : Int) < (s : Int)) = false := by simp; omega
      simp only [h'] at h1
      simp (maxSteps := 10000000) [-List.getD_eq_getElem?_getD, body65_1, keep65_1, head65b, stN, h1, i0, h, w0, u1]
  rw [r1 0 (.inl rfl)]
  obtain ⟨m, hm⟩ : ∃ m : Int, m = (if 0 < s then 1 else 0) := ⟨_, rfl⟩
  rw [← hm]
  have hmr : m = 0 ∨ m = 1 := by rw [hm]; split <;> simp
  have w2 : IntKind.wrap .i64 (m + 1) = m + 1 := wrap_small (by omega) (by omega)
  have r2 : run Cv 65 (.loop keep65_1 body65_1) (head65b m 1) (stN x O s) = run Cv 65 (.loop keep65_1 body65_1) (head65b (if s = T.length then m + 1 else m) 2) (stN x O s) := by
    rw [run_loop]
    generalize MC.loop keep65_1 body65_1 = L
    by_cases h : s = T.length
    · have h' : decide ((s : Int) = (T.length : Int)) = true := by simp; omega
      rw [if_pos h]
      simp only [h'] at h2
      simp (maxSteps := 10000000) [-List.getD_eq_getElem?_getD, body65_1, keep65_1, head65b, stN, h2, i1, w1, w2, u1]
    · have h' : decide ((s : Int) = (T.length : Int)) = false := by simp; omega
      simp only [h'] at h2
      simp (maxSteps := 10000000) [-List.getD_eq_getElem?_getD, body65_1, keep65_1, head65b, stN, h2, i1, h, w1, w2, u1]
  rw [r2, run_loop]
  have hv : votesP s T.length = if s = T.length then m + 1 else m := by
    unfold votesP
    rw [hm]
    split <;> split <;> simp
  rw [← hv]
  simp (maxSteps := 10000000) [-List.getD_eq_getElem?_getD, body65_1, keep65_1, head65b, stN]
  exact ⟨_, rfl, by simp (maxSteps := 10000000) [-List.getD_eq_getElem?_getD, ]⟩
theorem count_call (x : CB) {T : List Tr} (O : OB x T) (g : Nat) (caps : List AV) (p : Tr → Bool) (himp : Cv.imp g = false) (hcp : ∀ σ n, purAll (pur σ (n + 1)) caps = some (caps, false)) (hcu : ∀ a b c d n, caps.all (under a b c d (n + 1)) = true) (hg : ∀ t ∈ T, call Cv g (.agg (trC t (cA x t)) :: caps) = some (.bool (p t))) :
    call Cv 65 [.agg O.c, .fn (.func g) [] caps] = some (I (votesP (cnt p T) T.length)) := by
  have ha := loop65a x O g caps p himp hcp hcu hg T 0 0 (Nat.zero_le _) rfl (Nat.le_refl _)
  rw [Nat.zero_add] at ha
  obtain ⟨L, hb, h6⟩ := loop65b x O (cnt p T)
  have e0 : ((0 : Nat) : Int) = 0 := rfl
  have ha' := fun E (hE : mask keep65_0 E = _) => run_at ha hE
  have hb' := fun E (hE : mask keep65_1 E = _) => run_at hb hE
  have hl := t_len O
  have hcell := O.cell
  have hO := O.cells
  rw [hO] at hcell
  simp only [keep65_0, head65a, stN, e0, hO] at ha'
  simp only [keep65_1, head65b, stN, hO] at hb'
  have hlk : ∀ σ, loadA σ (some 2) (.rp [.fn (.func 133) [] [], .fn (.func 131) [] []] 0) = some (.agg [.fn (.func 133) [] [], .fn (.func 131) [] []]) := fun _ => rfl
  have hfill : fillA [(1, 1, I (T.length : Int))] [I 0, I 0] = some [I 0, I T.length] := rfl
  rw [hO]
  have p1 := O.x.mrow.cell
  have p2 := O.hrow.cell
  have p3 := O.trow.cell
  have hmv : ∀ ks vs, AV.isCell (.mapv ks vs) = true := fun _ _ => rfl
  rw [call_run comp65 (Nat.le_of_ble_eq_true rfl)]
  simp (maxSteps := 10000000) [-List.getD_eq_getElem?_getD, code65, p1, p2, p3, hmv, hl, hfill, hlk, keep65_0, keep65_1, ha', hb', h6]
theorem tr_bed {x : CB} (f : x.Fine) {t : Tr} (ht : t ∈ x.bk.tr) : (t.bed : Int) < x.beds ∧ 0 ≤ t.day ∧ t.day < x.days ∧ 1 ≤ t.out ∧ t.out ≤ 3 ∧ 1 ≤ t.goes ∧ t.goes ≤ 3 := by
  obtain ⟨h, _⟩ := (Go.Cold.mem_tr f.bk).1 ht
  have hB := bedsN f
  have h1 : t.bed < x.beds.toNat := h.1
  have h2 : t.day ≤ x.until_ := h.2.2.1
  have h3 : x.oL ≤ t.out := h.2.2.2.1
  have h4 : t.out ≤ x.oH := h.2.2.2.2.1
  have h5 : x.gL ≤ t.goes := h.2.2.2.2.2.1
  have h6 : t.goes ≤ x.gH := h.2.2.2.2.2.2
  have := f.u1; have := f.o1; have := f.o3; have := f.g1; have := f.g3
  exact ⟨by omega, h.2.1, by omega, by omega, by omega, by omega, by omega⟩
theorem cA_range {x : CB} (f : x.Fine) {t : Tr} (hb : (t.bed : Int) < x.beds) (h0 : 0 ≤ t.day) (hD : t.day < x.days) (hg1 : 1 ≤ t.goes) (i : Nat) : -1 ≤ cA x t i ∧ cA x t i ≤ 100 := by
  unfold cA caughtA
  split
  · rename_i h
    have hd6 := f.d6
    have h1 := Go.Cold.line_lt (D := x.days) (aw := awayL x.ms) (g := t.goes) (day := t.day) (b := t.bed) (B := x.beds.toNat) hD (by omega) (i := i) (by omega) (by omega)
    have h2 : -1 ≤ caughtT x.beds.toNat x.days (awayL x.ms) t i := by
      by_cases hi : i = t.bed
      · subst hi
        have : caughtT x.beds.toNat x.days (awayL x.ms) t t.bed = t.day := line_first
        omega
      · rcases Go.Cold.line_pos (D := x.days) (aw := awayL x.ms) (g := t.goes) (day := t.day) (b := t.bed) (B := x.beds.toNat) h0 (by omega) (by omega) (i := i) (by omega) hi with h | h
        · have : caughtT x.beds.toNat x.days (awayL x.ms) t i = -1 := h
          omega
        · have : t.day < caughtT x.beds.toNat x.days (awayL x.ms) t i := h
          omega
    have h3 : caughtT x.beds.toNat x.days (awayL x.ms) t i < x.days := h1
    omega
  · omega
theorem cA_at {x : CB} (t : Tr) {i : Nat} (hi : (i : Int) < x.beds) : cA x t i = x.bk.at t i := by
  unfold cA caughtA
  rw [if_pos hi]
  rfl
theorem trs_small {x : CB} (f : x.Fine) (but : List Int) : (x.bk.left but).tr.length ≤ 120 := by
  rw [← tr_is x f but]
  have hG : (openX x but).nG ≤ 2 := by show (x.gH - x.gL + 1).toNat ≤ 2; have := f.g4; omega
  have hO : (openX x but).nO ≤ 2 := by show (x.oH - x.oL + 1).toNat ≤ 2; have := f.o4; omega
  have hD : (openX x but).nD ≤ 6 := by show (x.until_ + 1).toNat ≤ 6; have := f.u1; have := f.d6; omega
  have h1 : ∀ bed day, ((openX x but).tO bed day 0 (openX x but).nO).length ≤ 4 := fun bed day => by
    have := flat_len (fun (o : Nat) => (openX x but).tG bed day ((openX x but).x.oL + o) 0 (openX x but).nG) 2 (List.range' 0 (openX x but).nO) fun o _ => Nat.le_trans (tG_len (openX x but) bed day _ 0 (openX x but).nG) hG
    rw [List.length_range'] at this
    have h2 : (openX x but).nO * 2 ≤ 2 * 2 := Nat.mul_le_mul_right _ hO
    show ((List.range' 0 (openX x but).nO).flatMap _).length ≤ 4
    omega
  have h2 : ∀ bed, ((openX x but).tD bed 0 (openX x but).nD).length ≤ 24 := fun bed => by
    have := flat_len (fun (day : Nat) => if (openX x but).aw bed day then [] else (openX x but).tO bed day 0 (openX x but).nO) 4 (List.range' 0 (openX x but).nD) fun o _ => by
      split
      · simp
      · exact h1 bed o
    rw [List.length_range'] at this
    have h2 : (openX x but).nD * 4 ≤ 6 * 4 := Nat.mul_le_mul_right _ hD
    show ((List.range' 0 (openX x but).nD).flatMap _).length ≤ 24
    omega
  have := flat_len (fun (bed : Nat) => if (openX x but).x.begins.toNat.testBit bed then (openX x but).tD bed 0 (openX x but).nD else []) 24 (List.range' 0 x.beds.toNat) fun o _ => by
    split
    · exact h2 o
    · simp
  rw [List.length_range'] at this
  have hb := f.b5
  have h2 : x.beds.toNat * 24 ≤ 5 * 24 := Nat.mul_le_mul_right _ (by omega)
  show ((List.range' 0 x.beds.toNat).flatMap _).length ≤ 120
  omega
theorem trs_len {x : CB} (f : x.Fine) (but : List Int) : (x.bk.left but).tr.length < 2 ^ 40 := by
  have := trs_small f but
  omega
end Go.Ai

set_option maxRecDepth 100000
namespace Go.Ai
open Go.Cold (Mv Hd Bk Tr coughsT illT rightT keptH butF awayL caughtT lineF line_first cnt votesP)
def errQ (x : CB) (is : Bool) : Int := if checkB x then (if is then errOf x.bk.tr else 31) else 30
theorem errQ_bad {x : CB} {is : Bool} (h : checkB x = false ∨ is = false) : errQ x is = if checkB x then 31 else 30 := by
  unfold errQ
  rcases h with h | h
  · rw [h]; rfl
  · rw [h]; rfl
theorem errQ_ok {x : CB} (h : checkB x = true) : errQ x true = errOf x.bk.tr := by unfold errQ; rw [h]; rfl
theorem cnt_congr {p q : Tr → Bool} : ∀ {l : List Tr}, (∀ t ∈ l, p t = q t) → cnt p l = cnt q l := fun {l} h => by
  unfold cnt
  rw [List.filter_congr h]
theorem isIll_call (x : CB) {t : Tr} {bed : Nat} (hb : bed < 5) (day : Int) : call Cv 69 [.agg (trC t (cA x t)), .rp [I bed] 0, .rp [I day] 0] = some (.bool (illT (cA x t bed) day)) := by
  have h := ill_call t (cA x t) hb day
  simp only [trC, arr, List.cons_append, List.nil_append] at h
  rw [call_run comp69 (Nat.le_of_ble_eq_true rfl)]
  simp (maxSteps := 10000000) [-List.getD_eq_getElem?_getD, code69, trC, arr, h]
theorem isCough_call (x : CB) {t : Tr} {bed : Nat} (hc : ∀ i, i < 5 → -1 ≤ cA x t i ∧ cA x t i ≤ 100) (ho : 0 ≤ t.out ∧ t.out ≤ 100) (hb : bed < 5) (day : Int) : call Cv 71 [.agg (trC t (cA x t)), .rp [I bed] 0, .rp [I day] 0] = some (.bool (coughsT (cA x t bed) t.out day)) := by
  have h := coughs_call t (cA x t) hc ho hb day
  simp only [trC, arr, List.cons_append, List.nil_append] at h
  rw [call_run comp71 (Nat.le_of_ble_eq_true rfl)]
  simp (maxSteps := 10000000) [-List.getD_eq_getElem?_getD, code71, trC, arr, h]
theorem spot_range {x : CB} (f : x.Fine) {bed day : Int} (h : spotB x bed day = true) : 0 ≤ bed ∧ bed < x.beds ∧ 0 ≤ day ∧ day < x.days := by
  have b1 := f.b1; have b5 := f.b5; have d1 := f.d1; have d6 := f.d6
  have w1 : IntKind.wrap .i64 (x.days - 1) = x.days - 1 := wrap_small (by omega) (by omega)
  have w2 : IntKind.wrap .i64 (x.beds - 1) = x.beds - 1 := wrap_small (by omega) (by omega)
  simp only [spotB, lie, Bool.and_eq_true, decide_eq_true_eq, w1, w2] at h
  omega
def obOf {x : CB} (hx : x.Ok) (f : x.Fine) {hv tv : AV} (h1 : IsRow 3 (hdRow x.hs) hv) (h2 : IsRow 9 (rowT x x.bk.tr) tv) : OB x x.bk.tr := ⟨hv, tv, x.hs, h1, h2, by have := trs_len f []; rwa [left_none] at this, hx.lh, hx⟩
theorem set13 (v : List AV) (h : v.length = 13) : setAt [I 0, I 0, I 0, I 0, I 0, I 0, I 0, I 0, .nils, I 0, .nils, .nilm, .nils] 0 v = v := by
  simp [setAt, h]
theorem Ill_call (x : CB) (hx : x.Ok) (bed day : Int) : call Cv 27 [x.av, I bed, I day] = some (.tup [I (if errQ x (spotB x bed day) = 0 then x.bk.illV bed.toNat day else 0), I (errQ x (spotB x bed day))]) := by
  have hs := isSpot_call x hx bed day
  have p1 := hx.mrow.cell
  have p2 := hx.hrow.cell
  have q1 := hx.mrow.pur
  have q2 := hx.hrow.pur
  by_cases hbad : checkB x = false ∨ spotB x bed day = false
  · have ha := asked_bad x hx (spotB x bed day) hbad
    rw [errQ_bad hbad]
    obtain ⟨e, he, he2⟩ : ∃ e : Int, (if checkB x then 31 else 30) = e ∧ e ≠ 0 := ⟨_, rfl, by split <;> decide⟩
    have he3 : ((if checkB x then (31 : Int) else 30)) = e := he
    rw [he3] at ha ⊢
    simp only [CB.av, CB.cells, zero13] at ha hs
    generalize spotB x bed day = b at *
    rw [call_run comp27 (Nat.le_of_ble_eq_true rfl)]
    simp (maxSteps := 10000000) [-List.getD_eq_getElem?_getD, code27, CB.av, CB.cells, p1, p2, q1, q2, hs, ha, he2, ret2]
  · have hk : checkB x = true := by cases h : checkB x with | true => rfl | false => exact absurd (.inl h) hbad
    have hsp : spotB x bed day = true := by cases h : spotB x bed day with | true => rfl | false => exact absurd (.inr h) hbad
    have f := check_fine hk
    obtain ⟨hv, tv, h1, h2, ha⟩ := asked_ok x hx hk
    rw [hsp] at hs
    rw [hsp, errQ_ok hk]
    obtain ⟨r1, r2, r3, r4⟩ := spot_range f hsp
    obtain ⟨m, rfl⟩ : ∃ m : Nat, bed = m := ⟨bed.toNat, by omega⟩
    have hb5 := f.b5
    obtain ⟨O, hO⟩ : ∃ O : OB x x.bk.tr, O = obOf hx f h1 h2 := ⟨_, rfl⟩
    have hOc : O.c = openC x hv (amX x) tv := by subst hO; rfl
    have hcn := count_call x O 69 [.rp [I m] 0, .rp [I day] 0] (fun t => illT (cA x t m) day) rfl (fun _ _ => rfl) (fun _ _ _ _ _ => rfl) (fun t _ => isIll_call x (by omega) day)
    have hvv : votesP (cnt (fun t => illT (cA x t m) day) x.bk.tr) x.bk.tr.length = x.bk.illV m day := by
      unfold Go.Cold.Bk.illV
      rw [cnt_congr fun t _ => by rw [cA_at t r2]]
    rw [hvv, hOc] at hcn
    have p3 := h1.cell
    have p4 := h2.cell
    have q3 := h1.pur
    have q4 := h2.pur
    have hmv : ∀ ks vs, AV.isCell (.mapv ks vs) = true := fun _ _ => rfl
    have hpm : ∀ σ n ks vs, pur σ (n + 1) (.mapv ks vs) = some (.mapv ks vs, false) := fun _ _ _ _ => rfl
    simp only [CB.av, CB.cells, openC, bkC, List.cons_append, List.nil_append] at ha hs hcn
    rw [Int.toNat_natCast]
    rw [call_run comp27 (Nat.le_of_ble_eq_true rfl)]
    by_cases hn : errOf x.bk.tr = 0
    · rw [hn] at ha ⊢
      simp (maxSteps := 10000000) [-List.getD_eq_getElem?_getD, code27, CB.av, CB.cells, p1, p2, p3, p4, q1, q2, q3, q4, hs, ha, hmv, hpm, hcn, ret2]
    · simp (maxSteps := 10000000) [-List.getD_eq_getElem?_getD, code27, CB.av, CB.cells, p1, p2, p3, p4, q1, q2, q3, q4, hs, ha, hmv, hpm, hcn, hn, ret2]
theorem Coughs_call (x : CB) (hx : x.Ok) (bed day : Int) : call Cv 28 [x.av, I bed, I day] = some (.tup [I (if errQ x (spotB x bed day) = 0 then x.bk.coughV bed.toNat day else 0), I (errQ x (spotB x bed day))]) := by
  have hs := isSpot_call x hx bed day
  have p1 := hx.mrow.cell
  have p2 := hx.hrow.cell
  have q1 := hx.mrow.pur
  have q2 := hx.hrow.pur
  by_cases hbad : checkB x = false ∨ spotB x bed day = false
  · have ha := asked_bad x hx (spotB x bed day) hbad
    rw [errQ_bad hbad]
    obtain ⟨e, he, he2⟩ : ∃ e : Int, (if checkB x then 31 else 30) = e ∧ e ≠ 0 := ⟨_, rfl, by split <;> decide⟩
    have he3 : ((if checkB x then (31 : Int) else 30)) = e := he
    rw [he3] at ha ⊢
    simp only [CB.av, CB.cells, zero13] at ha hs
    generalize spotB x bed day = b at *
    rw [call_run comp28 (Nat.le_of_ble_eq_true rfl)]
    simp (maxSteps := 10000000) [-List.getD_eq_getElem?_getD, code28, CB.av, CB.cells, p1, p2, q1, q2, hs, ha, he2, ret2]
  · have hk : checkB x = true := by cases h : checkB x with | true => rfl | false => exact absurd (.inl h) hbad
    have hsp : spotB x bed day = true := by cases h : spotB x bed day with | true => rfl | false => exact absurd (.inr h) hbad
    have f := check_fine hk
    obtain ⟨hv, tv, h1, h2, ha⟩ := asked_ok x hx hk
    rw [hsp] at hs
    rw [hsp, errQ_ok hk]
    obtain ⟨r1, r2, r3, r4⟩ := spot_range f hsp
    obtain ⟨m, rfl⟩ : ∃ m : Nat, bed = m := ⟨bed.toNat, by omega⟩
    have hb5 := f.b5
    obtain ⟨O, hO⟩ : ∃ O : OB x x.bk.tr, O = obOf hx f h1 h2 := ⟨_, rfl⟩
    have hOc : O.c = openC x hv (amX x) tv := by subst hO; rfl
    have hcn := count_call x O 71 [.rp [I m] 0, .rp [I day] 0] (fun t => coughsT (cA x t m) t.out day) rfl (fun _ _ => rfl) (fun _ _ _ _ _ => rfl) (fun t ht => by
      have := tr_bed f ht
      exact isCough_call x (fun i _ => cA_range f (by omega) (by omega) (by omega) (by omega) i) (by omega) (by omega) day)
    have hvv : votesP (cnt (fun t => coughsT (cA x t m) t.out day) x.bk.tr) x.bk.tr.length = x.bk.coughV m day := by
      unfold Go.Cold.Bk.coughV
      rw [cnt_congr fun t _ => by rw [cA_at t r2]]
    rw [hvv, hOc] at hcn
    have p3 := h1.cell
    have p4 := h2.cell
    have q3 := h1.pur
    have q4 := h2.pur
    have hmv : ∀ ks vs, AV.isCell (.mapv ks vs) = true := fun _ _ => rfl
    have hpm : ∀ σ n ks vs, pur σ (n + 1) (.mapv ks vs) = some (.mapv ks vs, false) := fun _ _ _ _ => rfl
    simp only [CB.av, CB.cells, openC, bkC, List.cons_append, List.nil_append] at ha hs hcn
    rw [Int.toNat_natCast]
    rw [call_run comp28 (Nat.le_of_ble_eq_true rfl)]
    by_cases hn : errOf x.bk.tr = 0
    · rw [hn] at ha ⊢
      simp (maxSteps := 10000000) [-List.getD_eq_getElem?_getD, code28, CB.av, CB.cells, p1, p2, p3, p4, q1, q2, q3, q4, hs, ha, hmv, hpm, hcn, ret2]
    · simp (maxSteps := 10000000) [-List.getD_eq_getElem?_getD, code28, CB.av, CB.cells, p1, p2, p3, p4, q1, q2, q3, q4, hs, ha, hmv, hpm, hcn, hn, ret2]
end Go.Ai
