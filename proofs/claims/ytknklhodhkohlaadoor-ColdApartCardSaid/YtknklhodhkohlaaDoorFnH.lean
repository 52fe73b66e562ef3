/- This text shows what From answers. No conditions of its own. -/
import Derived.Test.YtknklhodhkohlaaDoorFnG
set_option linter.unusedSimpArgs false
set_option linter.unusedVariables false
set_option maxRecDepth 100000
namespace Go.Ai
open Go.Cold (Mv Hd Bk Tr compactF)
theorem cut_no (σ σ' : St) (e : Env) (h : ∀ nc, e.all (under σ.boxes.length nc σ.maps.length σ.loops.length 6) = false) : cut σ σ' e = σ' := by
  unfold cut
  have : ∀ nc, dryAt nc σ σ' e = false := fun nc => by simp only [dryAt, h nc, Bool.false_and]
  simp only [this, Bool.false_eq_true, if_false]
def stS2 (pre : List (List AV)) (es : List Int) (z : List AV) : St := { boxes := pre ++ [ints es, z] }
theorem sF_alloc (pre : List (List AV)) (es : List Int) (z : List AV) {C : Cfg} {R : Rec} {d : Bool} {e : Env} : operA C R d e (stS pre es) (.alloc z) = some (.box (pre.length + 1) 0, stS2 pre es z) := by
  rw [op_alloc]
  simp [stS, stS2]
theorem sF_get (pre : List (List AV)) (es : List Int) (z : List AV) : (stS2 pre es z).boxes[pre.length + 1]? = some z := by simp [stS2]
theorem sF_store (pre : List (List AV)) (es : List Int) (z : List AV) (v : List AV) (h1 : v.length = z.length) (h2 : v.all AV.isCell = true) : storeA (stS2 pre es z) z.length (.box (pre.length + 1) 0) (.agg v) = some (stS2 pre es v) := by
  have hc : (AV.agg v).cells = v := rfl
  have ro : (stS2 pre es z).ro = 0 := rfl
  have hs : setAt z 0 v = v := by simp [setAt, h1]
  simp only [storeA, sF_get, Option.bind_some, ro, Nat.zero_le, hc, h1, Nat.zero_add, Nat.le_refl, h2, and_self, if_true, hs]
  simp [stS2]
theorem sF_load (pre : List (List AV)) (es : List Int) (z : List AV) (off : Nat) : loadA (stS2 pre es z) none (.box (pre.length + 1) off) = z[off]? := by
  simp only [loadA, sF_get, Option.bind_some, partA]
theorem sF_app (pre : List (List AV)) (es : List Int) (z : List AV) (n : Int) (h0 : 0 < es.length) (hl : es.length < 1000) : appA (stS2 pre es z) true 1 8 false (.wsl pre.length 0 es.length 1 false) (.sl 1 [I n] .full) = some (.wsl (pre ++ [[], z]).length 0 (es ++ [n]).length 1 false, stS (pre ++ [[], z]) (es ++ [n])) := by
  have hb : (stS2 pre es z).boxes[pre.length]? = some (ints es) := by simp [stS2]
  have ro : (stS2 pre es z).ro = 0 := rfl
  have hil : (ints es).length = es.length := by simp [ints]
  have hby : (es.length + 1) * 8 ≤ 140737488355328 := by omega
  have hf : ([I n] : List AV).flatMap AV.cells = [I n] := rfl
  have hc : ([I n] : List AV).all AV.isCell = true := rfl
  simp only [appA, elemsA, Option.bind_some, List.cons_ne_nil, if_false, if_true, hb, h0, hil, Nat.mul_one, ro, Nat.zero_le, List.length_singleton, hby, hf, hc, and_self, true_and]
  simp [stS2, stS, ints]
theorem sF_cut (pre pre' : List (List AV)) (es es' : List Int) (e : Env) (h : ∀ nc, e.all (under (pre.length + 1) nc 0 0 6) = false) : cut (stS pre es) (stS pre' es') e = stS pre' es' := by
  refine cut_no _ _ _ fun nc => ?_
  have hb : (stS pre es).boxes.length = pre.length + 1 := by simp [stS]
  have hm : (stS pre es).maps.length = 0 := rfl
  have hp : (stS pre es).loops.length = 0 := rfl
  rw [hb, hm, hp]
  exact h nc
def head20 {x : CB} {T : List Tr} (O : OB x T) (r : AV) (k : Int) : Env := mkE 41 .any [(20, I k), (19, I T.length), (18, O.tv), (6, r)]
theorem round20 (x : CB) {T : List Tr} (O : OB x T) (pre : List (List AV)) (es : List Int) (h0 : 0 < es.length) (hl : es.length < 1000) (k : Nat) (hk : k < T.length) :
    run Cv 20 (.loop keep20_0 body20_0) (head20 O (.wsl pre.length 0 es.length 1 false) k) (stS pre es) = run Cv 20 (.loop keep20_0 body20_0) (head20 O (.wsl (pre ++ [[], trC T[k] (cA x T[k])]).length 0 (es ++ [((T[k].bed : Nat) : Int)]).length 1 false) (k + 1)) (stS (pre ++ [[], trC T[k] (cA x T[k])]) (es ++ [((T[k].bed : Nat) : Int)])) := by
  have hTl := O.lt
  have hw := wrap_succ hk (by omega)
  have hlt' : (k : Int) < (T.length : Int) := by omega
  have hix := t_ix O hk
  generalize T[k] = t at *
  have l9 := load9 t (cA x t)
  have ha := fun R e => sF_alloc pre es [I 0, I 0, I 0, I 0, I 0, I 0, I 0, I 0, I 0] (C := Cv) (R := R) (d := false) (e := e)
  have hs := sF_store pre es [I 0, I 0, I 0, I 0, I 0, I 0, I 0, I 0, I 0] (trC t (cA x t)) rfl rfl
  have hld := sF_load pre es (trC t (cA x t)) 0
  have hl0 : (trC t (cA x t))[0]? = some (I t.bed) := rfl
  rw [hl0] at hld
  have happ := sF_app pre es (trC t (cA x t)) t.bed h0 hl
  have hcut := sF_cut pre (pre ++ [[], trC t (cA x t)]) es (es ++ [(t.bed : Int)])
  generalize hp2 : (pre ++ [[], trC t (cA x t)]).length = p2 at *
  generalize (es ++ [(t.bed : Int)]).length = n2 at *
  have hp2' : ¬ p2 < pre.length + 1 := by rw [← hp2]; simp
  have hfe : ∀ n : Int, fillE 1 false [(0, I n)] [I 0] = some [I n] := fun n => by simp [fillE, depth, AV.isAgg]
  have hrp : List.replicate 1 (I 0) = [I 0] := rfl
  simp only [List.length_cons, List.length_nil, Nat.zero_add, Nat.reduceAdd] at hs
  rw [run_loop]
  generalize MC.loop keep20_0 body20_0 = L
  simp (maxSteps := 10000000) [-List.getD_eq_getElem?_getD, -ixsA, -loadA, -storeA, -op_alloc, -cut, -List.all_eq_true, body20_0, keep20_0, head20, hlt', hw, hix, l9, ha, hs, hld, happ, hfe, hrp]
  rw [hcut]
  intro nc
  simp (maxSteps := 10000000) [-List.getD_eq_getElem?_getD, @all_f 41 .any _ _ 6, hp2']
end Go.Ai

set_option maxRecDepth 100000
namespace Go.Ai
open Go.Cold (Mv Hd Bk Tr compactF)
theorem chunk_ints : ∀ l : List Int, chunk 1 false l.length (ints l) = ints l
  | [] => rfl
  | n :: l => by
    have := chunk_ints l
    simp only [ints] at this ⊢
    simp [chunk, cellV, this]
theorem chunk_take (l : List Int) (m : Nat) (h : m ≤ l.length) : chunk 1 false m (ints l) = ints (l.take m) := by
  have : ∀ (m : Nat) (l : List Int), m ≤ l.length → chunk 1 false m (ints l) = ints (l.take m) := by
    intro m
    induction m with
    | zero => intro l _; rfl
    | succ m ih =>
      intro l h
      match l, h with
      | a :: l, h =>
        have := ih l (by simpa using h)
        simp only [ints] at this ⊢
        simp [chunk, cellV, this]
  exact this m l h
theorem ints_pur (σ : St) (n : Nat) : ∀ l : List Int, purAll (pur σ (n + 1)) (ints l) = some (ints l, false)
  | [] => rfl
  | a :: l => by
    have := ints_pur σ n l
    simp only [ints] at this ⊢
    simp [purAll, pur, this]
theorem wsl_pur (pre : List (List AV)) (es : List Int) (m : Nat) (h : m ≤ es.length) (n : Nat) : pur (stS pre es) (n + 2) (.wsl pre.length 0 m 1 false) = some (.sl 1 (ints (es.take m)) .no, true) := by
  have h1 := ints_pur (stS pre es) n es
  have hil : (ints es).length = es.length := by simp [ints]
  have h2 : 0 + m * 1 ≤ (ints es).length := by omega
  have h3 := chunk_take es m h
  simp only [pur, sS_get, Option.bind_some, h1, h2, Bool.false_or, true_or, or_true, and_true, and_self, if_true, List.drop_zero, h3]
theorem sort_callA (pre : List (List AV)) (es : List Int) (hu : upL es) (hl : es.length < 256) (h0 : 1 ≤ es.length) : callA Cv (run Cv) false (.fn (.func 60) [] []) [.wsl pre.length 0 es.length 1 false] (stS pre es) = some (.tup [], stS pre es) := by
  have hp := wsl_pur pre es es.length (Nat.le_refl _) 10
  rw [List.take_length] at hp
  have hpu : purAll (pur (stS pre es) 12) ([] ++ [.wsl pre.length 0 es.length 1 false] ++ []) = some ([srow es], true) := by
    simp [purAll, hp, srow]
  rw [ca_none (by rfl), hpu]
  simp only [pureCallA, pureA_call, sort_call es hu hl h0, backA, if_true]
  rfl
def bedsL (T : List Tr) : List Int := T.map fun t => ((t.bed : Nat) : Int)
theorem loop20 (x : CB) {T : List Tr} (O : OB x T) (hT : T.length < 900) : ∀ (l : List Tr) (k : Nat) (pre : List (List AV)) (es : List Int), T.drop k = l → k ≤ T.length → es.length = k → 1 ≤ k → ∃ pre',
    run Cv 20 (.loop keep20_0 body20_0) (head20 O (.wsl pre.length 0 k 1 false) k) (stS pre es) = some (.ex 0, mkE 41 .any [(21, .bool false), (20, I T.length), (19, I T.length), (18, O.tv), (6, .wsl pre'.length 0 T.length 1 false)], stS pre' (es ++ bedsL l))
  | [], k, pre, es, h, hk, he, h1 => by
    obtain rfl := drop_nil hk h
    refine ⟨pre, ?_⟩
    rw [run_loop]
    simp (maxSteps := 10000000) [-List.getD_eq_getElem?_getD, body20_0, keep20_0, head20, bedsL]
  | t :: l, k, pre, es, h, hk, he, h1 => by
    obtain ⟨hlt, ha, hd⟩ := head_drop h
    have hr := round20 x O pre es (by omega) (by omega) k hlt
    rw [ha, he] at hr
    have hlen : (es ++ [((t.bed : Nat) : Int)]).length = k + 1 := by simp [he]
    obtain ⟨pre', ih⟩ := loop20 x O hT l (k + 1) (pre ++ [[], trC t (cA x t)]) (es ++ [((t.bed : Nat) : Int)]) hd hlt hlen (by omega)
    refine ⟨pre', ?_⟩
    rw [hr, hlen]
    have e1 : (k : Int) + 1 = ((k + 1 : Nat) : Int) := by omega
    rw [e1, ih]
    simp [bedsL]
theorem first20 (x : CB) {T : List Tr} (O : OB x T) (t : Tr) (l : List Tr) (h : T = t :: l) : run Cv 20 (.loop keep20_0 body20_0) (head20 O .nils 0) { boxes := [x.cells, O.c] } = run Cv 20 (.loop keep20_0 body20_0) (head20 O (.wsl [x.cells, O.c, trC t (cA x t)].length 0 1 1 false) 1) (stS [x.cells, O.c, trC t (cA x t)] [((t.bed : Nat) : Int)]) := by
  have hk : 0 < T.length := by rw [h]; simp
  have hix := t_ix O hk
  have ht : T[0] = t := by subst h; rfl
  rw [ht] at hix
  have e0 : ((0 : Nat) : Int) = 0 := rfl
  rw [e0] at hix
  have hlt' : (0 : Int) < (T.length : Int) := by omega
  have hne : ¬ T = [] := by rw [h]; simp
  have l9 := load9 t (cA x t)
  have hfe : ∀ n : Int, fillE 1 false [(0, I n)] [I 0] = some [I n] := fun n => by simp [fillE, depth, AV.isAgg]
  have hrp : List.replicate 1 (I 0) = [I 0] := rfl
  have w1 : IntKind.wrap .i64 ((0 : Int) + 1) = 1 := rfl
  simp only [trC, arr, List.cons_append, List.nil_append] at hix l9
  rw [run_loop]
  generalize MC.loop keep20_0 body20_0 = L
  simp (maxSteps := 10000000) [-List.getD_eq_getElem?_getD, -ixsA, -List.all_eq_true, body20_0, keep20_0, head20, hlt', hne, w1, hix, l9, hfe, hrp, appA, elemsA, grown, stS, trC, arr, ints, @all_f 41 .any _ _ 6]
theorem up_of_pairwise {l : List Int} (h : l.Pairwise (· ≤ ·)) : upL l := by
  intro i j hij hj
  have hi : i < l.length := by omega
  rcases Nat.lt_or_ge i j with hlt | hge
  · have := List.pairwise_iff_getElem.1 h i j hi hj hlt
    simpa [hi, hj] using this
  · have : i = j := by omega
    subst this
    exact Int.le_refl _
theorem From_call (x : CB) (hx : x.Ok) : ∃ r, IsRow 1 (ints (if errQ x true = 0 then x.bk.fromL else [])) r ∧ call Cv 20 [x.av] = some (.tup [r, I (errQ x true)]) := by
  have p1 := hx.mrow.cell
  have p2 := hx.hrow.cell
  have q1 := hx.mrow.pur
  have q2 := hx.hrow.pur
  cases hk : checkB x with
  | false =>
    have ha := asked_bad x hx true (.inl hk)
    rw [errQ_bad (.inl hk), hk]
    rw [hk] at ha
    refine ⟨.nils, .inl ⟨rfl, rfl⟩, ?_⟩
    simp only [CB.av, CB.cells, zero13] at ha
    rw [call_run comp20 (Nat.le_of_ble_eq_true rfl)]
    simp (maxSteps := 10000000) [-List.getD_eq_getElem?_getD, code20, CB.av, CB.cells, p1, p2, q1, q2, ha, ret2]
  | true =>
    have f := check_fine hk
    obtain ⟨hv, tv, h1, h2, ha⟩ := asked_ok x hx hk
    rw [errQ_ok hk]
    have p3 := h1.cell
    have p4 := h2.cell
    have q3 := h1.pur
    have q4 := h2.pur
    have hmv : ∀ ks vs, AV.isCell (.mapv ks vs) = true := fun _ _ => rfl
    have hpm : ∀ σ n ks vs, pur σ (n + 1) (.mapv ks vs) = some (.mapv ks vs, false) := fun _ _ _ _ => rfl
    obtain ⟨O, hO⟩ : ∃ O : OB x x.bk.tr, O = obOf hx f h1 h2 := ⟨_, rfl⟩
    have hOt : O.tv = tv := by subst hO; rfl
    have hOc : O.c = openC x hv (amX x) tv := by subst hO; rfl
    have hsm := trs_small f []
    rw [left_none] at hsm
    unfold errOf at *
    by_cases hn : x.bk.tr = []
    · rw [if_pos hn] at ha ⊢
      refine ⟨.nils, .inl ⟨rfl, rfl⟩, ?_⟩
      simp only [CB.av, CB.cells, openC, bkC] at ha
      rw [call_run comp20 (Nat.le_of_ble_eq_true rfl)]
      simp (maxSteps := 10000000) [-List.getD_eq_getElem?_getD, code20, CB.av, CB.cells, p1, p2, p3, p4, q1, q2, q3, q4, hmv, hpm, ha, ret2]
    · rw [if_neg hn] at ha ⊢
      obtain ⟨t, l, htl⟩ : ∃ t l, x.bk.tr = t :: l := by
        cases h : x.bk.tr with
        | nil => exact absurd h hn
        | cons t l => exact ⟨t, l, rfl⟩
      have hf := first20 x O t l htl
      obtain ⟨pre', hl⟩ := loop20 x O (by omega) l 1 [x.cells, O.c, trC t (cA x t)] [((t.bed : Nat) : Int)] (by rw [htl]; rfl) (by rw [htl]; simp) rfl (Nat.le_refl _)
      have e1 : ((1 : Nat) : Int) = 1 := rfl
      rw [e1, ← hf] at hl
      have hb : [((t.bed : Nat) : Int)] ++ bedsL l = bedsL x.bk.tr := by rw [htl]; rfl
      rw [hb] at hl
      have hl' := fun E (hE : mask keep20_0 E = _) => run_at hl hE
      have hbl : (bedsL x.bk.tr).length = x.bk.tr.length := by simp [bedsL]
      have hpos : 1 ≤ x.bk.tr.length := by rw [htl]; simp
      have hup := Go.Cold.truths_up (B := x.bk.B) (D := x.bk.D) (begins := x.bk.begins) (u := x.bk.u) (oL := x.bk.oL) (oH := x.bk.oH) (gL := x.bk.gL) (gH := x.bk.gH) (ms := x.bk.ms) (hs := x.bk.hs)
      have hup' : (bedsL x.bk.tr).Pairwise (· ≤ ·) := hup
      have hsort := sort_callA pre' (bedsL x.bk.tr) (up_of_pairwise hup') (by omega) (by omega)
      obtain ⟨a', m, hcp, g1, g2, g3⟩ := compact_callA pre' (bedsL x.bk.tr) (by omega) (by omega)
      have hsel := Go.Cold.compact_sel (B := x.beds.toNat) hup' fun y hy => by
        obtain ⟨s, hs, rfl⟩ := List.mem_map.1 hy
        have := tr_bed f hs
        have := bedsN f
        omega
      have hfr : a'.take m = x.bk.fromL := by rw [g1, hsel]; rfl
      rw [if_pos rfl, ← hfr]
      refine ⟨.sl 1 (ints (a'.take m)) .no, .inr (.inr ⟨.no, rfl, rfl⟩), ?_⟩
      have hpu := wsl_pur pre' a' m g3
      have c3 := sS_slc3 pre'.length m g2
      rw [hbl] at hsort hcp
      have htl3 := t_len O
      rw [hOt] at htl3
      simp only [keep20_0, head20, hOt, hOc, CB.cells, openC, bkC, List.cons_append, List.nil_append] at hl'
      simp only [CB.av, CB.cells, openC, bkC, List.cons_append, List.nil_append] at ha
      rw [call_run comp20 (Nat.le_of_ble_eq_true rfl)]
      simp (maxSteps := 10000000) [-List.getD_eq_getElem?_getD, code20, CB.av, CB.cells, p1, p2, p3, p4, q1, q2, q3, q4, hmv, hpm, ha, keep20_0, hl', htl3, hsort, hcp, c3, hpu, ret2]
end Go.Ai
