/- This text shows the statement about pieces, in the interpreter. No conditions of its own. -/
import Derived.Test.YtbjdaefdifofkaaDoorRefC
import Derived.Test.YtbjdaefdifofkaaDoorFnD
import Derived.Test.YtbjdaefdifofkaaDoorCodesL4
set_option linter.unusedSimpArgs false
set_option linter.unusedVariables false
set_option maxRecDepth 100000
namespace Go.Ai
open Go.Organ (T4 F3 Tb T6 upd flat keysF keysL shL shH nearF bestF)
def kRowR (l : List Int) : AV := if l = [] then .sl 1 [] .full else .sl 1 (ints l) .no
theorem kRowR_row (l : List Int) : IsRow 1 (ints l) (kRowR l) := by
  unfold kRowR
  split
  · rename_i h; subst h; exact .inr (.inr ⟨.full, rfl, rfl⟩)
  · exact .inr (.inr ⟨.no, rfl, rfl⟩)
theorem kOutR_pur (l : List Int) (σ : St) (n : Nat) : pur σ (n + 1) (kOutR l) = some (kRowR l, false) := by
  unfold kOutR kRowR
  split <;> rfl
def rkeysV (x : OB) (week : Int) (ps : List P3) : AV := if askE x (pieceB x week ps) = 0 then kRowR (keysO x week ps) else .nils
theorem rkeys_row (x : OB) (week : Int) (ps : List P3) : IsRow 1 (ints (keysO x week ps)) (rkeysV x week ps) := by
  unfold rkeysV
  by_cases h : askE x (pieceB x week ps) = 0
  · rw [if_pos h]; exact kRowR_row _
  · rw [if_neg h, keysO, if_neg h]; exact .inl ⟨rfl, rfl⟩
set_option maxHeartbeats 2000000 in
theorem rKeys_call (x : OB) (hx : x.Ok) (week : Int) (ps : List P3) (r : AV) (hr : PRow ps r) : call Cv 27 [x.av, I week, r] = some (.tup [rkeysV x week ps, I (askE x (pieceB x week ps))]) := by
  have h1 := rasked_call x hx (pieceB x week ps)
  have h2 := lies' week 0 (IntKind.wrap .i64 (x.voice.weeks - 1))
  have h3 := isPiece_call x hx ps r hr (by have := hx.voice.blen; omega)
  have hcl := xcells_cell x hx
  have hp := av_pur x hx
  have hrp := hr.row.pur
  have hbox : boxA {} x.av = some (.box 0 0, { boxes := [x.cells] }) := by
    simp only [boxA, OB.av, AV.cells, hcl, if_true]; rfl
  have l6 : ∀ B, loadA { boxes := x.cells :: B } (some 6) (.box 0 0) = some x.av := fun _ => rfl
  have l4 : ∀ B, loadA { boxes := x.cells :: B } none (.box 0 4) = some (I x.voice.weeks) := fun _ => rfl
  have p2 := tbA_pur
  by_cases h0 : askE x (pieceB x week ps) = 0
  · obtain ⟨hc, hi, ht⟩ := ask_zero h0
    have hia := hi
    simp only [pieceB, Bool.and_eq_true] at hi
    obtain ⟨i1, i2, i3⟩ := hi
    have hps : ∀ p ∈ ps, 0 ≤ p.low ∧ p.low ≤ p.high ∧ p.high ≤ 40 := fun p hp => by
      have := List.all_eq_true.1 i3 p hp
      simp only [partOk, Bool.and_eq_true, decide_eq_true_eq] at this
      exact ⟨this.2.1, this.2.2.1, this.2.2.2⟩
    have hne := Organ.sh_near hc.b (true_can ht)
    rw [← tab0] at hne
    obtain ⟨n1, n2, n3⟩ := hne
    have hsb : -100 ≤ shL (tabO x noF) x.N ∧ shL (tabO x noF) x.N ≤ shH (tabO x noF) x.N ∧ shH (tabO x noF) x.N ≤ 100 := by
      unfold shL shH; omega
    have hsh := rsharp_call x hx hc ht
    have hkl : keysO x week ps = keysF (keyOk26 x week (shL (tabO x noF) x.N) (shH (tabO x noF) x.N) ps) (-6) 13 := by rw [keysO, if_pos h0]; rfl
    have hl := loop27_1 x hx (mostT x noF) ps r hr hps week (shL (tabO x noF) x.N) (shH (tabO x noF) x.N) hsb 13 (-6) [] (by omega) (by omega) (by simp)
    rw [List.nil_append, ← hkl] at hl
    have hl' := fun E (hE : mask keep27_1 E = _) => run_at hl hE
    have ek : kOutR [] = .sl 1 [] .full := rfl
    have ec : chO [] = [] := rfl
    rw [rkeysV, if_pos h0]
    generalize keysO x week ps = K at *
    simp only [keep27_1, head27_1, st26, ek, ec, List.append_nil] at hl'
    rw [raskT_is h0, h0, hia] at h1
    rw [i1] at h2
    rw [i2, i3] at h3
    rw [h0]
    generalize mostT x noF = M at *
    generalize shL (tabO x noF) x.N = sl at *
    generalize shH (tabO x noF) x.N = sh at *
    have s1 := sw46 (B := [x.cells, Z36]) (m := M) (b := 1) rfl rfl
    simp only [List.set_cons_zero, List.set_cons_succ] at s1
    have l1 := lw46 (B := [x.cells, flatA M]) (m := M) (b := 1) rfl
    have s2 : ∀ a b A B, storeA { boxes := [A, B, [I 0, I 0]] } 2 (.box 2 0) (.agg [I a, I b]) = some { boxes := [A, B, [I a, I b]] } := fun _ _ _ _ => rfl
    have hf0 : fillE 1 false [] [] = some [] := rfl
    have hkp := kOutR_pur K
    rw [call_run comp27 (Nat.le_of_ble_eq_true rfl)]
    simp only [Z36] at *
    simp (maxSteps := 10000000) [-List.getD_eq_getElem?_getD, ret2, retc2, -partA, -setAt, -loadA, -storeA, -List.all_eq_true, -boxA, code27, keep27_1, hbox, l6, l4, hp, hrp, h1, h2, h3, still, p2, hsh, s1, l1, s2, hf0, hl', hkp]
  · rw [rkeysV, if_neg h0]
    have hpe : pieceB x week ps = (lie week 0 (IntKind.wrap .i64 (x.voice.weeks - 1)) && (lie ps.length 1 4 && ps.all (partOk x))) := rfl
    rw [hpe] at h0 h1 ⊢
    generalize lie week 0 (IntKind.wrap .i64 (x.voice.weeks - 1)) = b1 at *
    generalize (lie ps.length 1 4 && ps.all (partOk x)) = b2 at *
    generalize askE x (b1 && b2) = e at *
    generalize raskT x (b1 && b2) = M at *
    have h0' : (e == 0) = false := by simpa using h0
    have s1 := sw46 (B := [x.cells, Z36]) (m := M) (b := 1) rfl rfl
    simp only [List.set_cons_zero, List.set_cons_succ] at s1
    rw [call_run comp27 (Nat.le_of_ble_eq_true rfl)]
    simp only [Z36] at *
    cases b1 <;> simp only [Bool.false_and, Bool.true_and] at h1 <;>
      simp (maxSteps := 10000000) [-List.getD_eq_getElem?_getD, ret2, retc2, -partA, -setAt, -loadA, -storeA, -List.all_eq_true, -boxA, code27, hbox, l6, l4, hp, hrp, h1, h2, h3, still, p2, s1, h0, h0']
def head30 (r : AV) (best k : Int) : Env := mkE 54 .any [(11, I k), (10, I best), (8, r)]
theorem loop30 (R : List Int) (r : AV) (hr : IsRow 1 (ints R) r) (hR : ∀ k ∈ R, -100 ≤ k ∧ k ≤ 100) (hl : R.length < 1000) (σ : St) (s1 : σ.ro ≤ σ.boxes.length) (s2 : σ.mro ≤ σ.maps.length) : ∀ (l : List Int) (k : Nat) (b : Int), k ≤ R.length → R.drop k = l → -100 ≤ b ∧ b ≤ 100 →
    run Cv 30 (.loop keep30_0 body30_0) (head30 r b k) σ = some (.ex 0, mkE 54 .any [(31, .bool false), (30, I R.length), (29, r), (28, I R.length), (11, I R.length), (10, I (nearF l b)), (8, r)], σ)
  | [], k, b, hk, h, hb => by
    obtain rfl := drop_nil hk h
    have hlen := row_len hr
    rw [run_loop]
    simp (maxSteps := 10000000) [-List.getD_eq_getElem?_getD, body30_0, keep30_0, head30, hlen, nearF]
  | y :: l, k, b, hk, h, hb => by
    obtain ⟨hlt, ha, hd⟩ := head_drop h
    have hlen := row_len hr
    have hw := wrap_succ hlt (by omega)
    have hlt' : (k : Int) < (R.length : Int) := by omega
    have hix : ixsA 1 r (I k) = some (.rp [I y] 0) := by
      obtain ⟨c, hc, hr⟩ := row_sl hr (by intro hn; subst hn; simp at hlt)
      rw [hr]
      simp [ixsA, ints, hlt, ha, AV.cells]
    have hlr : ∀ σ y, loadA σ none (.rp [I y] 0) = some (I y) := fun _ _ => rfl
    have hy := hR y (ha ▸ List.getElem_mem _)
    have hcut := fun e => cut_self σ e s1 s2
    have n1 : IntKind.wrap .i64 (-y) = -y := wrap_small (by omega) (by omega)
    have n2 : IntKind.wrap .i64 (-b) = -b := wrap_small (by omega) (by omega)
    have hmx := fold_max
    have hnf : nearF (y :: l) b = nearF l (if max y (-y) < max b (-b) then y else b) := by
      unfold nearF; rw [List.foldl_cons]
    have step : run Cv 30 (.loop keep30_0 body30_0) (head30 r b k) σ = run Cv 30 (.loop keep30_0 body30_0) (head30 r (if max y (-y) < max b (-b) then y else b) (k + 1)) σ := by
      rw [run_loop]
      generalize MC.loop keep30_0 body30_0 = L'
      by_cases hc : max y (-y) < max b (-b)
      · rw [if_pos hc]
        simp (maxSteps := 10000000) [-List.getD_eq_getElem?_getD, -loadA, -cut, -ixsA, hmx, body30_0, keep30_0, head30, hlen, hlt', hw, hix, hlr, hcut, n1, n2, hc]
      · rw [if_neg hc]
        simp (maxSteps := 10000000) [-List.getD_eq_getElem?_getD, -loadA, -cut, -ixsA, hmx, body30_0, keep30_0, head30, hlen, hlt', hw, hix, hlr, hcut, n1, n2, hc]
    rw [step, hnf]
    exact loop30 R r hr hR hl σ s1 s2 l (k + 1) _ hlt hd (by split <;> omega)
theorem best_wf {k : Int} {l : List Int} (hup : (k :: l).Pairwise (· < ·)) : bestF (k :: l) k = nearF (k :: l) k := by
  have h := hup
  rw [List.pairwise_cons] at hup
  exact Organ.best_near (k :: l) k h fun y hy => by
    rcases List.mem_cons.1 hy with rfl | hy
    · exact Int.le_refl _
    · exact Int.le_of_lt (hup.1 y hy)
theorem keysO_up (x : OB) (week : Int) (ps : List P3) : (keysO x week ps).Pairwise (· < ·) := by
  unfold keysO
  split
  · exact Organ.keysF_up 13 (-6)
  · exact .nil
set_option maxHeartbeats 1000000 in
theorem rBest_call (x : OB) (hx : x.Ok) (week : Int) (ps : List P3) (r : AV) (hr : PRow ps r) : call Cv 30 [x.av, I week, r] = some (.tup [I (bestO x week ps), I (bestE x week ps)]) := by
  have h1 := rKeys_call x hx week ps r hr
  have hcl := xcells_cell x hx
  have hp := av_pur x hx
  have hrp := hr.row.pur
  have hbox : boxA {} x.av = some (.box 0 0, { boxes := [x.cells] }) := by
    simp only [boxA, OB.av, AV.cells, hcl, if_true]; rfl
  have l6 : ∀ B, loadA { boxes := x.cells :: B } (some 6) (.box 0 0) = some x.av := fun _ => rfl
  have hrow := rkeys_row x week ps
  have hlen := row_len hrow
  have hmem := keysO_mem (x := x) (week := week) (ps := ps)
  have hl13 := keysO_len x week ps
  have hop := hrow.pur
  have hup := keysO_up x week ps
  unfold bestE bestO
  by_cases h0 : askE x (pieceB x week ps) = 0
  · rw [h0]
    rw [h0] at h1
    generalize rkeysV x week ps = RR at *
    cases hk : keysO x week ps with
    | nil =>
      rw [hk] at hlen hrow
      have e0 : (([] : List Int).length : Int) = 0 := rfl
      rw [e0] at hlen
      simp only [ne_eq, not_true_eq_false, if_false, if_true]
      rw [call_run comp30 (Nat.le_of_ble_eq_true rfl)]
      simp (maxSteps := 10000000) [-List.getD_eq_getElem?_getD, ret2, -boxA, -partA, -loadA, code30, hbox, l6, hp, hrp, h1, hlen, hop]
    | cons k l =>
      rw [hk] at hlen hrow hmem hl13 hup
      have hbw := best_wf hup
      have hb := hmem k (.head _)
      have hl := fun E (hE : mask keep30_0 E = _) => run_at (loop30 (k :: l) RR hrow (fun y hy => by have := hmem y hy; omega) (by omega) { boxes := [x.cells] } (Nat.zero_le _) (Nat.zero_le _) (k :: l) 0 k (Nat.zero_le _) rfl (by omega)) hE
      have e5 : ((0 : Nat) : Int) = 0 := rfl
      simp only [keep30_0, head30, e5] at hl
      have hne : (((k :: l).length : Int) == 0) = false := by simp; omega
      have hix : ixsA 1 RR (I 0) = some (.rp [I k] 0) := by
        obtain ⟨c, hc, hr⟩ := row_sl hrow (by simp)
        rw [hr]
        simp [ixsA, ints, AV.cells]
      have hlr : ∀ σ y, loadA σ none (.rp [I y] 0) = some (I y) := fun _ _ => rfl
      simp only [ne_eq, not_true_eq_false, if_false, reduceCtorEq]
      rw [hbw]
      generalize (k :: l).length = n at *
      rw [call_run comp30 (Nat.le_of_ble_eq_true rfl)]
      simp (maxSteps := 10000000) [-List.getD_eq_getElem?_getD, ret2, -boxA, -partA, -ixsA, -loadA, code30, hbox, l6, hp, hrp, h1, hlen, hne, hop, hix, hlr, keep30_0, hl]
  · have hk : keysO x week ps = [] := by rw [keysO, if_neg h0]
    rw [hk] at hlen ⊢
    generalize rkeysV x week ps = RR at *
    generalize askE x (pieceB x week ps) = e at *
    have h0' : (e == 0) = false := by simpa using h0
    rw [if_pos h0]
    dsimp only
    rw [call_run comp30 (Nat.le_of_ble_eq_true rfl)]
    simp (maxSteps := 10000000) [-List.getD_eq_getElem?_getD, ret2, -boxA, -partA, -loadA, code30, hbox, l6, hp, hrp, h1, hlen, hop, h0, h0']
theorem moves_law (x : OB) (hx : x.Ok) (week : Int) (ps : List P3) (r : AV) (hr : PRow ps r) : call Cv 4 [x.av, I week, r] = some (.bool true) := by
  have hs := tuned_call
  have hcl := xcells_cell x hx
  have hp := av_pur x hx
  have hrp := hr.row.pur
  have hbox : boxA {} x.av = some (.box 0 0, { boxes := [x.cells] }) := by
    simp only [boxA, OB.av, AV.cells, hcl, if_true]; rfl
  have l6 : ∀ B, loadA { boxes := x.cells :: B } (some 6) (.box 0 0) = some x.av := fun _ => rfl
  have a1 := Keys_call x hx week ps r hr
  have a2 := rKeys_call x hx week ps r hr
  have a3 := Best_call x hx week ps r hr
  have a4 := rBest_call x hx week ps r hr
  have r1 := rowO_row (keysO x week ps)
  have r2 := rkeys_row x week ps
  have hl13 := keysO_len x week ps
  have he := equal_call (keysO x week ps) (keysO x week ps) _ _ r1 r2 (by omega) (by omega)
  rw [decide_eq_true rfl] at he
  have q1 := r1.pur
  have q2 := r2.pur
  generalize rowO (keysO x week ps) = R1 at *
  generalize rkeysV x week ps = R2 at *
  generalize askE x (pieceB x week ps) = e at *
  generalize bestO x week ps = b at *
  generalize bestE x week ps = be at *
  rw [call_run comp4 (Nat.le_of_ble_eq_true rfl)]
  simp (maxSteps := 10000000) [-List.getD_eq_getElem?_getD, -boxA, -partA, -loadA, code4, hbox, l6, hp, hrp, hs, a1, a2, a3, a4, he, q1, q2]
end Go.Ai
