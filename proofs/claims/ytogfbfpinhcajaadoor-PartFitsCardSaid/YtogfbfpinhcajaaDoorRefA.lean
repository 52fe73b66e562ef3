/- This text shows what the reference answers: lines, copied, agree. No conditions of its own. -/
import Derived.Test.YtogfbfpinhcajaaDoorHelpB
set_option linter.unusedSimpArgs false
set_option linter.unusedVariables false
set_option maxRecDepth 100000
set_option linter.unusedSimpArgs false
set_option linter.unusedVariables false
/-! Rows of rows that grow. -/
namespace Go.Ai
open Go.Part (Sp Cp Bk truths cnt at' vals)
def accG (L0 : List (Nat × Nat)) (acc : List AV) : AV := if acc = [] then .nils else .sl 1 acc (.chain L0.length)
def tlG (acc : List AV) : List (Nat × Nat) := if acc = [] then [] else [(acc.length, 1)]
def stG (bx : List (List AV)) (L : List (Nat × Nat)) : St := { boxes := bx, chains := L }
theorem elems_row (σ : St) {es : List AV} {r : AV} (h : IsRow 1 es r) : (es = [] ∧ ∃ o, elemsA σ r = some ([], o)) ∨ elemsA σ r = some (es, some 1) := by
  rcases h with ⟨rfl, rfl⟩ | ⟨rfl, rfl⟩ | ⟨c, hc, rfl⟩
  · exact .inl ⟨rfl, none, rfl⟩
  · exact .inl ⟨rfl, none, rfl⟩
  · exact .inr rfl
/-- What stands after some are put behind a row. -/
def accGN (L0 M : List (Nat × Nat)) (acc vs : List AV) : AV := if acc = [] then accG (L0 ++ M) vs else accG L0 (acc ++ vs)
def tlGN (L0 M : List (Nat × Nat)) (acc vs : List AV) : List (Nat × Nat) := if acc = [] then L0 ++ M ++ tlG vs else L0 ++ tlG (acc ++ vs) ++ M
theorem app_G (bx : List (List AV)) (L0 M : List (Nat × Nat)) (acc vs : List AV) (r : AV) (hr : IsRow 1 vs r) (hl : acc.length + vs.length < 1000000) : appA (stG bx (L0 ++ tlG acc ++ M)) false 1 24 false (accG L0 acc) r = some (accGN L0 M acc vs, stG bx (tlGN L0 M acc vs)) := by
  have he := elems_row (stG bx (L0 ++ tlG acc ++ M)) hr
  by_cases hv : vs = []
  · have he' : ∃ o, elemsA (stG bx (L0 ++ tlG acc ++ M)) r = some ([], o) := by
      rcases he with ⟨_, h⟩ | h
      · exact h
      · rw [hv] at h; exact ⟨_, h⟩
    obtain ⟨o, ho⟩ := he'
    subst hv
    have hs : isSl (accG L0 acc) = true := by unfold accG; split <;> rfl
    simp only [appA, ho, Option.bind_some, if_true, hs]
    unfold accGN tlGN
    by_cases h : acc = []
    · subst h
      simp [accG, tlG]
    · rw [if_neg h, if_neg h, List.append_nil]
  · have he' : elemsA (stG bx (L0 ++ tlG acc ++ M)) r = some (vs, some 1) := by
      rcases he with ⟨h, _⟩ | h
      · exact absurd h hv
      · exact h
    simp only [appA, he', Option.bind_some, if_neg hv, if_true]
    unfold accGN tlGN
    by_cases h : acc = []
    · subst h
      have hb : vs.length * 24 ≤ 140737488355328 := by simp at hl; omega
      have e1 : accG L0 [] = .nils := rfl
      have e2 : accG (L0 ++ M) vs = .sl 1 vs (.chain (L0 ++ M).length) := by unfold accG; rw [if_neg hv]
      have e3 : tlG vs = [(vs.length, 1)] := by unfold tlG; rw [if_neg hv]
      have e4 : tlG [] = [] := rfl
      simp only [e1, e2, e3, e4, if_true, hb, grown, stG, List.append_nil]
      rfl
    · have hn : acc ++ vs ≠ [] := by simp [h]
      have hb : (acc ++ vs).length * 24 ≤ 140737488355328 := by rw [List.length_append]; omega
      have e1 : accG L0 acc = .sl 1 acc (.chain L0.length) := by unfold accG; rw [if_neg h]
      have e2 : accG L0 (acc ++ vs) = .sl 1 (acc ++ vs) (.chain L0.length) := by unfold accG; rw [if_neg hn]
      have e3 : tlG (acc ++ vs) = [((acc ++ vs).length, 1)] := by unfold tlG; rw [if_neg hn]
      have e4 : tlG acc = [(acc.length, 1)] := by unfold tlG; rw [if_neg h]
      have g : (L0 ++ [(acc.length, 1)] ++ M)[L0.length]? = some (acc.length, 1) := by simp
      have s : (L0 ++ [(acc.length, 1)] ++ M).set L0.length ((acc ++ vs).length, 1) = L0 ++ [((acc ++ vs).length, 1)] ++ M := by simp
      simp only [e1, e2, e3, e4, if_neg h, hb, stG, g, s, and_self, if_true]
theorem accG_under (L0 : List (Nat × Nat)) (acc : List AV) (a b c d n : Nat) : under a b c d (n + 1) (accG L0 acc) = decide (acc = [] ∨ L0.length < b) := by
  unfold accG
  by_cases h : acc = [] <;> simp [h, under]
theorem tlG_len (acc : List AV) : (tlG acc).length = if acc = [] then 0 else 1 := by unfold tlG; split <;> rfl
def nextL (L0 M : List (Nat × Nat)) (acc vs : List AV) : List (Nat × Nat) := if acc = [] ∧ vs ≠ [] then L0 ++ M else L0
theorem accGN_eq (L0 M : List (Nat × Nat)) (acc vs : List AV) : accGN L0 M acc vs = accG (nextL L0 M acc vs) (acc ++ vs) := by
  unfold accGN nextL
  by_cases h : acc = []
  · by_cases hv : vs = []
    · simp [h, hv, accG]
    · simp [h, hv]
  · simp [h]
/-- A round ends: what came later is forgotten. -/
theorem cut_G (bx : List (List AV)) (L0 M : List (Nat × Nat)) (acc vs : List AV) (e : Env) (t : Nat) (ht : t < e.length) (hv : gt e t = accGN L0 M acc vs) (he : ∀ nc, L0.length ≤ nc → (∀ a c d n, under a nc c d (n + 1) (accGN L0 M acc vs) = true) → e.all (under bx.length nc 0 0 6) = true) (hb : ∀ nc, bx.all (fun cs => cs.all (under bx.length nc 0 0 6)) = true) :
    cut (stG bx (L0 ++ tlG acc)) (stG bx (tlGN L0 M acc vs)) e = stG bx (nextL L0 M acc vs ++ tlG (acc ++ vs)) := by
  have dry : ∀ nc L L', L0.length ≤ nc → (∀ a c d n, under a nc c d (n + 1) (accGN L0 M acc vs) = true) → dryAt nc (stG bx L) (stG bx L') e = true := fun nc L L' h1 h2 => by
    simp only [dryAt, stG, List.take_length, List.length_nil, List.take_nil, List.all_nil, Bool.and_true, Bool.and_eq_true]
    exact ⟨he nc h1 h2, hb nc⟩
  have hcut : ∀ nc L L', cutAt nc (stG bx L) (stG bx L') = stG bx (L'.take nc) := fun nc L L' => by
    simp [cutAt, stG]
  by_cases h : acc = []
  · subst h
    have e4 : tlG [] = [] := rfl
    have e5 : accGN L0 M [] vs = accG (L0 ++ M) vs := rfl
    have e6 : tlGN L0 M [] vs = L0 ++ M ++ tlG vs := rfl
    rw [e5] at hv dry
    rw [e6, e4, List.append_nil, List.nil_append]
    by_cases hvs : vs = []
    · subst hvs
      have eL : nextL L0 M [] [] = L0 := by simp [nextL]
      rw [eL]
      have hd := dry (stG bx L0).chains.length L0 (L0 ++ M ++ tlG []) (Nat.le_refl _) (fun a c d n => by rw [accG_under]; simp)
      rw [cut, if_pos hd, hcut, e4, List.append_nil, List.append_nil]
      simp [stG]
    · have eL : nextL L0 M [] vs = L0 ++ M := by simp [nextL, hvs]
      rw [eL]
      have hd1 : dryAt (stG bx L0).chains.length (stG bx L0) (stG bx (L0 ++ M ++ tlG vs)) e = false := by
        have hz : under bx.length L0.length 0 0 6 (accG (L0 ++ M) vs) = false := by
          rw [accG_under]; simp [hvs]
        have : e.all (under bx.length L0.length 0 0 6) = false := by
          rw [List.all_eq_false]
          refine ⟨e[t], List.getElem_mem ht, ?_⟩
          have hg : gt e t = e[t] := by
            show e.getD t .any = _
            rw [List.getD_eq_getElem?_getD, List.getElem?_eq_getElem ht]; rfl
          rw [← hg, hv, hz]; simp
        simp only [dryAt, stG, List.length_nil, this, Bool.false_and]
      have hd2 := dry (stG bx (L0 ++ M ++ tlG vs)).chains.length L0 (L0 ++ M ++ tlG vs) (by simp [stG]) (fun a c d n => by
        rw [accG_under]; simp [stG, tlG_len, hvs])
      rw [cut, hd1, if_neg (by simp), if_pos hd2, hcut]
      rw [show (stG bx (L0 ++ M ++ tlG vs)).chains.length = (L0 ++ M ++ tlG vs).length from rfl, List.take_length]
  · have hn : acc ++ vs ≠ [] := by simp [h]
    have e5 : accGN L0 M acc vs = accG L0 (acc ++ vs) := by unfold accGN; rw [if_neg h]
    have e6 : tlGN L0 M acc vs = L0 ++ tlG (acc ++ vs) ++ M := by unfold tlGN; rw [if_neg h]
    rw [e5] at hv dry
    rw [e6]
    have eL : nextL L0 M acc vs = L0 := by simp [nextL, h]
    rw [eL]
    have hd := dry (stG bx (L0 ++ tlG acc)).chains.length (L0 ++ tlG acc) (L0 ++ tlG (acc ++ vs) ++ M) (by simp [stG]) (fun a c d n => by
      rw [accG_under]; simp [stG, tlG_len, h])
    rw [cut, if_pos hd, hcut]
    have : (stG bx (L0 ++ tlG acc)).chains.length = (L0 ++ tlG (acc ++ vs)).length := by
      simp [stG, tlG_len, h]
    rw [this, List.take_left']
    rfl
/-- What is returned. -/
theorem accG_row (L0 : List (Nat × Nat)) (acc : List AV) : ∃ r, IsRow 1 acc r ∧ ∀ σ n, pur σ (n + 1) (accG L0 acc) = some (r, false) := by
  unfold accG
  by_cases h : acc = []
  · subst h
    exact ⟨.nils, .inl ⟨rfl, rfl⟩, fun _ _ => rfl⟩
  · rw [if_neg h]
    exact ⟨.sl 1 acc .no, .inr (.inr ⟨.no, rfl, rfl⟩), fun _ _ => rfl⟩
end Go.Ai

set_option maxRecDepth 100000
set_option linter.unusedSimpArgs false
set_option linter.unusedVariables false
/-! The reference's lines of a voice. -/
namespace Go.Ai
open Go.Part (Sp Cp Bk truths cnt at' vals dfs lineK stepOk)
/-- A valid book, of any number of copies. -/
structure ChkR (x : PB) : Prop where
  N : 1 ≤ x.N ∧ x.N ≤ 3
  V : 1 ≤ x.spans.length ∧ x.spans.length ≤ 3
  step : 0 ≤ x.step ∧ x.step ≤ 7
  ch : 0 ≤ x.chords ∧ x.chords ≤ 255
  pf : 0 ≤ x.perfect ∧ x.perfect ≤ 255
  spans : ∀ s ∈ x.spans, 0 ≤ s.low ∧ s.low ≤ s.high ∧ s.high ≤ 12
  wide : ∀ s ∈ x.spans, s.high - s.low ≤ 2
  copies : ∀ c ∈ x.copies, 0 ≤ c.cp.voice ∧ c.cp.voice < x.spans.length ∧ (c.cp.notes.length : Int) = x.N ∧ ∀ n ∈ c.cp.notes, 0 ≤ n ∧ n ≤ 12
theorem Chk.toR {x : PB} (h : Chk x) : ChkR x := ⟨h.N, h.V, h.step, h.ch, h.pf, h.spans, h.wide, h.copies⟩
def rowR (l : List Int) : AV := .sl 1 (ints l) .no
def someV (q : List Int) : AV := if q = [] then .nils else rowR q
theorem someV_len (q : List Int) : lenA (someV q) = some (I q.length) := by
  unfold someV
  split
  · rename_i h; rw [h]; rfl
  · simp [rowR, ints_len]
theorem someV_pur (σ : St) (n : Nat) (q : List Int) : pur σ (n + 1) (someV q) = some (someV q, false) := by
  unfold someV; split <;> rfl
theorem someV_under (a b c d n : Nat) (q : List Int) : under a b c d (n + 1) (someV q) = true := by
  unfold someV; split <;> rfl
theorem someV_last {q : List Int} (h : q ≠ []) : ixsA 1 (someV q) (I ((q.length : Int) - 1)) = some (.rp [I (at' q (q.length - 1))] 0) := by
  have hp := List.length_pos_iff.2 h
  have h1 : (0 : Int) ≤ (q.length : Int) - 1 := by omega
  have h2 : ((q.length : Int) - 1).toNat = q.length - 1 := by omega
  have h3 : q.length - 1 < q.length := by omega
  have h4 : (0 : Int) ≤ (q.length : Int) - 1 ∧ (q.length : Int) - 1 < (q.length : Int) := by omega
  simp only [someV, if_neg h, rowR, ixsA, ints_len, h4, and_self, if_true, h2]
  simp [ints, h3, AV.cells, at']
theorem someV_app (q : List Int) (n : Int) : someV (q ++ [n]) = rowR (q ++ [n]) := by simp [someV]
theorem some_with (q : List Int) (hq : q.length < 100) (n : Int) : call Cv 85 [someV q, I n] = some (someV (q ++ [n])) := by
  rw [someV_app]
  refine with_call q (someV q) ?_ (by omega) n
  unfold someV
  split
  · rename_i h; exact .inl ⟨rfl, h⟩
  · exact .inr ⟨.no, rfl, rfl⟩
/-- What one note more gives. -/
def nextR (x : PB) (s : Sp) (m : Nat) (q : List Int) (n : Int) : List (List Int) := if lineK (bkOf x) q n then dfs (lineK (bkOf x)) (List.replicate m (vals s)) (q ++ [n]) else []
def bx92 (x : PB) (s : Sp) : List (List AV) := [x.cells, [I s.low, I s.high]]
def head92 (q : List Int) (v : Nat) (L0 : List (Nat × Nat)) (acc : List AV) (n : Int) : Env := mkE 58 .any [(9, I n), (8, .box 1 0), (7, accG L0 acc), (3, .box 0 0), (2, someV q), (1, I v)]
theorem loop92 (x : PB) (hx : x.Ok) (h : ChkR x) {v : Nat} {s : Sp} (hs : 0 ≤ s.low ∧ s.high ≤ 12) (m : Nat) (hm : m < 3) (q : List Int) (hq : q.length < 3) (hqn : ∀ n ∈ q, 0 ≤ n ∧ n ≤ 12)
    (hrec : ∀ n, 0 ≤ n → n ≤ 12 → ∃ r, IsRow 1 ((dfs (lineK (bkOf x)) (List.replicate m (vals s)) (q ++ [n])).map rowR) r ∧ call Cv 92 [x.av, I v, someV (q ++ [n])] = some r)
    (hlen : ∀ n, (dfs (lineK (bkOf x)) (List.replicate m (vals s)) (q ++ [n])).length ≤ 27) : ∀ (k : Nat) (n : Int) (L0 : List (Nat × Nat)) (acc : List AV), n + k = s.high + 1 → s.low ≤ n → acc.length + 27 * k ≤ 1000 →
    ∃ L σ L1, run Cv 92 (.loop keep92_0 body92_0) (head92 q v L0 acc n) (stG (bx92 x s) (L0 ++ tlG acc)) = some (.ex 0, mkE 58 .any L, σ) ∧ gt (mkE 58 .any L) 7 = accG L1 (acc ++ ((List.range k).flatMap fun (j : Nat) => nextR x s m q (n + j)).map rowR)
  | 0, n, L0, acc, hn, hlo, ha => by
    have h1 : ¬ n ≤ s.high := by omega
    rw [run_loop]
    simp (maxSteps := 10000000) [-List.getD_eq_getElem?_getD, body92_0, keep92_0, head92, stG, bx92, h1]
    exact ⟨_, rfl, L0, by simp (maxSteps := 10000000) [-List.getD_eq_getElem?_getD, ]⟩
  | k + 1, n, L0, acc, hn, hlo, ha => by
    have h1 : n ≤ s.high := by omega
    have hw : IntKind.wrap .i64 (n + 1) = n + 1 := wrap_small (by omega) (by omega)
    have hvu := hx.vrow.under
    have hcu := hx.crow.under
    have hvp := hx.vrow.pur
    have hcp := hx.crow.pur
    have hsl := someV_len q
    have hsp := fun σ n => someV_pur σ n q
    have hsp2 := fun σ k => someV_pur σ k (q ++ [n])
    have hsu2 := fun a b c d k => someV_under a b c d k (q ++ [n])
    have hsu := fun a b c d n => someV_under a b c d n q
    have hst := h.step
    have key : ∃ L1, run Cv 92 (.loop keep92_0 body92_0) (head92 q v L0 acc n) (stG (bx92 x s) (L0 ++ tlG acc)) = run Cv 92 (.loop keep92_0 body92_0) (head92 q v L1 (acc ++ (nextR x s m q n).map rowR) (n + 1)) (stG (bx92 x s) (L1 ++ tlG (acc ++ (nextR x s m q n).map rowR))) := by
      have guard : lineK (bkOf x) q n = (decide (q = []) || (decide (-x.step ≤ n - at' q (q.length - 1)) && decide (n - at' q (q.length - 1) ≤ x.step))) := by
        rw [lineK, stepOk, decide_eq_decide.2 (List.length_eq_zero_iff (l := q))]; rfl
      cases hg : lineK (bkOf x) q n with
      | true =>
        obtain ⟨r, hr, hc⟩ := hrec n (by omega) (by omega)
        have hnx : nextR x s m q n = dfs (lineK (bkOf x)) (List.replicate m (vals s)) (q ++ [n]) := by rw [nextR, if_pos hg]
        rw [← hnx] at hr
        have hl := hlen n
        rw [← hnx] at hl
        have happ := app_G (bx92 x s) L0 [] acc _ r hr (by rw [List.length_map]; omega)
        rw [accGN_eq, List.append_nil] at happ
        have hcut := cut_G (bx92 x s) L0 [] acc ((nextR x s m q n).map rowR)
        simp only [accGN_eq] at hcut
        have hwi := some_with q (by omega) n
        refine ⟨nextL L0 [] acc ((nextR x s m q n).map rowR), ?_⟩
        generalize (nextR x s m q n).map rowR = vs at *
        generalize nextL L0 [] acc vs = L1 at *
        generalize hT : tlGN L0 [] acc vs = T at *
        simp only [bx92, PB.av, PB.cells, stG] at happ hcut hc
        rw [run_loop]
        generalize MC.loop keep92_0 body92_0 = L
        by_cases hq0 : q = []
        · have e0 : ((q.length : Int) == 0) = true := by rw [hq0]; rfl
          simp (maxSteps := 10000000) [-List.getD_eq_getElem?_getD, -ixsA, -cut, -List.all_eq_true, body92_0, keep92_0, head92, stG, bx92, PB.cells, h1, hw, hvp, hcp, hsl, hsp, hsp2, e0, hwi, hc, happ]
          rw [hcut _ 7 (by rw [mkE_len]; decide) (by simp (maxSteps := 10000000) [-List.getD_eq_getElem?_getD, ])]
          · intro nc _ h2
            simp (maxSteps := 10000000) [-List.getD_eq_getElem?_getD, -List.all_eq_true, h2, hsu, hsu2]
          · intro nc
            simp (maxSteps := 10000000) [-List.getD_eq_getElem?_getD, -List.all_eq_true, hvu, hcu]
        · have e0 : ((q.length : Int) == 0) = false := by simp; exact hq0
          have hp := List.length_pos_iff.2 hq0
          have hix := someV_last hq0
          have hb := hqn (at' q (q.length - 1)) (by
            have : q.length - 1 < q.length := by omega
            simp only [at', List.getD_eq_getElem?_getD, List.getElem?_eq_getElem this]
            exact List.getElem_mem _)
          have w1 : IntKind.wrap .i64 ((q.length : Int) - 1) = (q.length : Int) - 1 := wrap_small (by omega) (by omega)
          have w2 : IntKind.wrap .i64 (n - at' q (q.length - 1)) = n - at' q (q.length - 1) := wrap_small (by omega) (by omega)
          have w3 : IntKind.wrap .i64 (-x.step) = -x.step := wrap_small (by omega) (by omega)
          have hlie := lies_call (n - at' q (q.length - 1)) (-x.step) x.step
          rw [hg, decide_eq_false hq0, Bool.false_or] at guard
          rw [← guard] at hlie
          generalize at' q (q.length - 1) = y at *
          simp (maxSteps := 10000000) [-List.getD_eq_getElem?_getD, -ixsA, -cut, -List.all_eq_true, body92_0, keep92_0, head92, stG, bx92, PB.cells, h1, hw, hvp, hcp, hsl, hsp, hsp2, e0, hwi, hc, happ, w1, w2, w3, hix, hlie]
          rw [hcut _ 7 (by rw [mkE_len]; decide) (by simp (maxSteps := 10000000) [-List.getD_eq_getElem?_getD, ])]
          · intro nc _ h2
            simp (maxSteps := 10000000) [-List.getD_eq_getElem?_getD, -List.all_eq_true, h2, hsu, hsu2]
          · intro nc
            simp (maxSteps := 10000000) [-List.getD_eq_getElem?_getD, -List.all_eq_true, hvu, hcu]
      | false =>
        have hnx : nextR x s m q n = [] := by rw [nextR, if_neg (by rw [hg]; simp)]
        rw [hnx, List.map_nil, List.append_nil]
        rw [hg] at guard
        have guard' := Bool.or_eq_false_iff.1 guard.symm
        have hq0 : ¬ q = [] := of_decide_eq_false guard'.1
        have e0 : ((q.length : Int) == 0) = false := by simp; exact hq0
        have hp := List.length_pos_iff.2 hq0
        have hix := someV_last hq0
        have hb := hqn (at' q (q.length - 1)) (by
          have : q.length - 1 < q.length := by omega
          simp only [at', List.getD_eq_getElem?_getD, List.getElem?_eq_getElem this]
          exact List.getElem_mem _)
        have w1 : IntKind.wrap .i64 ((q.length : Int) - 1) = (q.length : Int) - 1 := wrap_small (by omega) (by omega)
        have w2 : IntKind.wrap .i64 (n - at' q (q.length - 1)) = n - at' q (q.length - 1) := wrap_small (by omega) (by omega)
        have w3 : IntKind.wrap .i64 (-x.step) = -x.step := wrap_small (by omega) (by omega)
        have hlie := lies_call (n - at' q (q.length - 1)) (-x.step) x.step
        rw [guard'.2] at hlie
        refine ⟨L0, ?_⟩
        have s1 : ∀ e, cut { boxes := [x.cells, [I s.low, I s.high]], chains := L0 ++ tlG acc } { boxes := [x.cells, [I s.low, I s.high]], chains := L0 ++ tlG acc } e = { boxes := [x.cells, [I s.low, I s.high]], chains := L0 ++ tlG acc } := fun e => cut_self _ _ (by simp) (by simp)
        simp only [PB.cells] at s1
        rw [run_loop]
        generalize MC.loop keep92_0 body92_0 = L
        generalize at' q (q.length - 1) = y at *
        simp (maxSteps := 10000000) [-List.getD_eq_getElem?_getD, -ixsA, -cut, -List.all_eq_true, body92_0, keep92_0, head92, stG, bx92, PB.cells, h1, hw, hvp, hcp, hsl, hsp, hsp2, e0, w1, w2, w3, hix, hlie, s1]
    obtain ⟨L1, key⟩ := key
    rw [key]
    have hnl : (nextR x s m q n).length ≤ 27 := by
      unfold nextR
      split
      · exact hlen n
      · simp
    obtain ⟨L, σ, L2, g1, g2⟩ := loop92 x hx h hs m hm q hq hqn hrec hlen k (n + 1) L1 (acc ++ (nextR x s m q n).map rowR) (by omega) (by omega) (by rw [List.length_append, List.length_map]; omega)
    refine ⟨L, σ, L2, g1, ?_⟩
    rw [g2, List.append_assoc, ← List.map_append]
    congr 3
    rw [List.range_succ_eq_map, List.flatMap_cons, List.flatMap_map]
    simp only [Int.natCast_zero, Int.add_zero, Nat.succ_eq_add_one]
    congr 1
    refine congrArg (fun f => List.flatMap f (List.range k)) (funext fun j => ?_)
    congr 1
    omega
end Go.Ai

set_option maxRecDepth 100000
set_option linter.unusedSimpArgs false
set_option linter.unusedVariables false
namespace Go.Ai
open Go.Part (Sp Cp Bk truths cnt at' vals dfs lineK stepOk)
theorem flat_len {α β : Type} (f : α → List β) (B : Nat) : ∀ l : List α, (∀ x ∈ l, (f x).length ≤ B) → (l.flatMap f).length ≤ l.length * B
  | [], _ => by simp
  | x :: l, h => by
    have h1 := h x List.mem_cons_self
    have h2 := flat_len f B l fun y hy => h y (List.mem_cons_of_mem _ hy)
    rw [List.flatMap_cons, List.length_append, List.length_cons, Nat.add_mul]
    omega
theorem dfs_len (ok : List Int → Int → Bool) (vs : List Int) (hv : vs.length ≤ 3) : ∀ (m : Nat) (q : List Int), (dfs ok (List.replicate m vs) q).length ≤ 3 ^ m
  | 0, q => by simp [dfs]
  | m + 1, q => by
    rw [List.replicate_succ, dfs, Nat.pow_succ]
    have := flat_len (fun n => if ok q n then dfs ok (List.replicate m vs) (q ++ [n]) else []) (3 ^ m) vs fun n _ => by
      split
      · exact dfs_len ok vs hv m _
      · simp
    calc _ ≤ vs.length * 3 ^ m := this
      _ ≤ 3 ^ m * 3 := by rw [Nat.mul_comm]; exact Nat.mul_le_mul_left _ hv
theorem pow27 {m : Nat} (h : m ≤ 3) : 3 ^ m ≤ 27 := by
  calc 3 ^ m ≤ 3 ^ 3 := Nat.pow_le_pow_right (by omega) h
    _ = 27 := by decide
theorem vals_len (s : Sp) (h : s.high - s.low ≤ 2) : (vals s).length ≤ 3 := by
  simp [vals]; omega
theorem next_vals (x : PB) (s : Sp) (m : Nat) (q : List Int) : ((List.range (s.high - s.low + 1).toNat).flatMap fun (j : Nat) => nextR x s m q (s.low + j)) = dfs (lineK (bkOf x)) (List.replicate (m + 1) (vals s)) q := by
  rw [List.replicate_succ, dfs, vals, List.flatMap_map]
  rfl
theorem set2 (a b : AV) : setAt [I 0, I 0] 0 [a, b] = [a, b] := rfl
/-- All lines of a voice that begin with some notes. -/
theorem rLines_call (x : PB) (hx : x.Ok) (h : ChkR x) {v : Nat} {s : Sp} (hv : x.spans[v]? = some s) : ∀ (m : Nat) (q : List Int), q.length + m = x.N.toNat → (∀ n ∈ q, 0 ≤ n ∧ n ≤ 12) →
    ∃ r, IsRow 1 ((dfs (lineK (bkOf x)) (List.replicate m (vals s)) q).map rowR) r ∧ call Cv 92 [x.av, I v, someV q] = some r
  | 0, q, hq, hn => by
    have hN := h.N
    have hq0 : q ≠ [] := fun h0 => by subst h0; simp at hq; omega
    have e0 : ((q.length : Int) == x.N) = true := by simp; omega
    have hsv : someV q = rowR q := by unfold someV; rw [if_neg hq0]
    have hfl : fillE 1 false [(0, rowR q)] [.nils] = some [rowR q] := rfl
    have hsl : lenA (rowR q) = some (I q.length) := by rw [← hsv]; exact someV_len q
    have hsp : ∀ σ n, pur σ (n + 1) (rowR q) = some (rowR q, false) := fun _ _ => rfl
    have hr1 : List.replicate 1 AV.nils = [.nils] := rfl
    have hvc := hx.vrow.cell
    have hcc := hx.crow.cell
    refine ⟨.sl 1 [rowR q] .full, .inr (.inr ⟨.full, rfl, rfl⟩), ?_⟩
    rw [hsv]
    rw [call_run comp92 (Nat.le_of_ble_eq_true rfl)]
    simp (maxSteps := 10000000) [-List.getD_eq_getElem?_getD, code92, PB.av, PB.cells, hvc, hcc, hsl, e0, hfl, hr1]
  | m + 1, q, hq, hn => by
    have hN := h.N
    have hsm := List.mem_of_getElem? hv
    have hs := h.spans s hsm
    have hw := h.wide s hsm
    have hlt := (List.getElem?_eq_some_iff.1 hv).1
    have hgv := (List.getElem?_eq_some_iff.1 hv).2
    obtain ⟨L, σ, L1, h0, g7⟩ := loop92 x hx h (v := v) ⟨hs.1, hs.2.2⟩ m (by omega) q (by omega) hn (fun n h1 h2 => rLines_call x hx h hv m (q ++ [n]) (by simp; omega) (fun y hy => by
        rcases List.mem_append.1 hy with hy | hy
        · exact hn y hy
        · rw [List.mem_singleton.1 hy]; exact ⟨h1, h2⟩)) (fun n => Nat.le_trans (dfs_len _ _ (vals_len s hw) m _) (pow27 (by omega))) (s.high - s.low + 1).toNat s.low [] [] (by omega) (Int.le_refl _) (by simp; omega)
    rw [List.nil_append, next_vals] at g7
    obtain ⟨r, hr, hp⟩ := accG_row L1 ((dfs (lineK (bkOf x)) (List.replicate (m + 1) (vals s)) q).map rowR)
    refine ⟨r, hr, ?_⟩
    have hin := fun E (hE : mask keep92_0 E = _) => run_at h0 hE
    have k0 : accG [] [] = .nils := rfl
    have k1 : tlG [] = [] := rfl
    simp only [stG, bx92, head92, keep92_0, PB.cells, k0, k1, List.append_nil] at hin
    have e0 : ((q.length : Int) == x.N) = false := by simp; omega
    have hsl := someV_len q
    have hsp := fun σ n => someV_pur σ n q
    have hvc := hx.vrow.cell
    have hcc := hx.crow.cell
    have hvp := hx.vrow.pur
    have hcp := hx.crow.pur
    have hsx : ixsA 2 x.vr (I v) = some (.rp [I s.low, I s.high] 0) := by
      obtain ⟨cc, hcc, hr⟩ := hx.vrow.sl (by intro hn; simp at hn; rw [hn] at hlt; simp at hlt)
      rw [hr]
      simp [ixsA, hlt, hgv, spA, AV.cells]
    rw [call_run comp92 (Nat.le_of_ble_eq_true rfl)]
    simp (maxSteps := 10000000) [-List.getD_eq_getElem?_getD, -ixsA, -setAt, code92, PB.av, PB.cells, hvc, hcc, hvp, hcp, hsl, hsp, e0, keep92_0, hin, g7, hp, hsx, set2]
end Go.Ai

set_option maxRecDepth 100000
set_option linter.unusedSimpArgs false
set_option linter.unusedVariables false
/-! Copied and agree. -/
namespace Go.Ai
open Go.Part (Sp Cp Bk truths cnt at' vals dfs lineK stepOk copiedK agreeK agree)
open Go.Least (hasB)
def stX (x : PB) : St := { boxes := [x.cells] }
def outB (set : Nat) : Nat → Bool := fun k => hasB set k
def head93 (v : Nat) (l : List Int) (set : Nat) (k : Int) : Env := mkE 42 .any [(9, I k), (4, .box 0 0), (3, I set), (2, rowR l), (1, I v)]
theorem loop93 (x : PB) (hx : x.Ok) (v : Nat) (l : List Int) (hl : l.length < 100) (set : Nat) (hset : set < 2 ^ 62) : ∀ (rest : List CpV) (k : Nat), k ≤ x.copies.length → x.copies.drop k = rest →
    ∃ L, (run Cv 93 (.loop keep93_0 body93_0) (head93 v l set k) (stX x) = some (.ex 0, mkE 42 .any L, stX x) ∧ copiedK (outB set) v l (rest.map CpV.cp) k = true) ∨
      (run Cv 93 (.loop keep93_0 body93_0) (head93 v l set k) (stX x) = some (.rt, mkE 42 .any ((8, .bool false) :: L), stX x) ∧ copiedK (outB set) v l (rest.map CpV.cp) k = false)
  | [], k, hk, hd => by
    obtain rfl := drop_nil hk hd
    have hlen := clen hx
    have key : ∃ L, run Cv 93 (.loop keep93_0 body93_0) (head93 v l set x.copies.length) (stX x) = some (.ex 0, mkE 42 .any L, stX x) := by
      rw [run_loop]
      simp (maxSteps := 10000000) [-List.getD_eq_getElem?_getD, body93_0, keep93_0, head93, stX, PB.cells, hlen]
      exact ⟨_, rfl⟩
    obtain ⟨L, h⟩ := key
    exact ⟨L, .inl ⟨h, rfl⟩⟩
  | c :: rest, k, hk, hd => by
    obtain ⟨hlt, hg, hd'⟩ := head_drop hd
    have hlen := clen hx
    have hlt' : (k : Int) < (x.copies.length : Int) := by omega
    have hw := wrap_succ hlt hx.lc
    have hcm : c ∈ x.copies := hg ▸ List.getElem_mem _
    have hcx := hx.cp c hcm
    have hix : ixsA 2 x.cr (I k) = some (.rp [I c.cp.voice, c.row] 0) := by
      obtain ⟨cc, hcc, hr⟩ := hx.crow.sl (by intro hn; simp at hn; rw [hn] at hlt; simp at hlt)
      rw [hr]
      simp [ixsA, hlt, hg, CpV.av, AV.cells]
    have hhas := has_call set hset k
    have heq := equal_call c.cp.notes l c.row (rowR l) hcx.row (.inr (.inr ⟨.no, rfl, rfl⟩)) hcx.len (by omega)
    have hrp := hcx.row.pur
    have hrc := hcx.row.cell
    have hlp : ∀ σ n, pur σ (n + 1) (rowR l) = some (rowR l, false) := fun _ _ => rfl
    have hlu : ∀ a b c d n, under a b c d (n + 1) (rowR l) = true := fun _ _ _ _ _ => rfl
    have hvu := hx.vrow.under
    have hcu := hx.crow.under
    have hvp := hx.vrow.pur
    have hcp := hx.crow.pur
    have hk' : copiedK (outB set) v l ((c :: rest).map CpV.cp) k = ((!decide (c.cp.voice = (v : Int)) || hasB set k || decide (c.cp.notes = l)) && copiedK (outB set) v l (rest.map CpV.cp) (k + 1)) := rfl
    have hvd : (c.cp.voice == (v : Int)) = decide (c.cp.voice = (v : Int)) := rfl
    rw [hk']
    cases hgd : (!decide (c.cp.voice = (v : Int)) || hasB set k || decide (c.cp.notes = l)) with
    | true =>
      have key : run Cv 93 (.loop keep93_0 body93_0) (head93 v l set k) (stX x) = run Cv 93 (.loop keep93_0 body93_0) (head93 v l set (k + 1)) (stX x) := by
        generalize decide (c.cp.voice = (v : Int)) = b1 at *
        generalize hasB set k = b2 at *
        generalize decide (c.cp.notes = l) = b3 at *
        rw [run_loop]
        generalize MC.loop keep93_0 body93_0 = L
        cases b1 <;> cases b2 <;> cases b3 <;> simp only [Bool.not_true, Bool.not_false, Bool.or_false, Bool.false_or, Bool.or_true, Bool.true_or, Bool.false_eq_true, Bool.or_self] at hgd <;>
          simp (maxSteps := 10000000) [-List.getD_eq_getElem?_getD, -ixsA, -List.all_eq_true, body93_0, keep93_0, head93, stX, PB.cells, hlen, hlt', hw, hix, hvd, hhas, heq, hrp, hrc, hlp, hlu, hvu, hcu, hvp, hcp]
      rw [key, Bool.true_and]
      exact loop93 x hx v l hl set hset rest (k + 1) hlt hd'
    | false =>
      rw [Bool.false_and]
      have key : ∃ L, run Cv 93 (.loop keep93_0 body93_0) (head93 v l set k) (stX x) = some (.rt, mkE 42 .any ((8, .bool false) :: L), stX x) := by
        generalize decide (c.cp.voice = (v : Int)) = b1 at *
        generalize hasB set k = b2 at *
        generalize decide (c.cp.notes = l) = b3 at *
        rw [run_loop]
        cases b1 <;> cases b2 <;> cases b3 <;> simp only [Bool.not_true, Bool.not_false, Bool.or_false, Bool.false_or, Bool.or_true, Bool.true_or, Bool.true_eq_false, Bool.or_self] at hgd <;>
          simp (maxSteps := 10000000) [-List.getD_eq_getElem?_getD, -ixsA, -List.all_eq_true, body93_0, keep93_0, head93, stX, PB.cells, hlen, hlt', hw, hix, hvd, hhas, heq, hrp, hrc, hlp, hlu, hvu, hcu, hvp, hcp]
        exact ⟨_, rfl⟩
      obtain ⟨L, hL⟩ := key
      exact ⟨L, .inr ⟨hL, rfl⟩⟩
theorem copied_call (x : PB) (hx : x.Ok) (v : Nat) (l : List Int) (hl : l.length < 100) (set : Nat) (hset : set < 2 ^ 62) : call Cv 93 [x.av, I v, rowR l, I set] = some (.bool (copiedK (outB set) v l (x.copies.map CpV.cp) 0)) := by
  obtain ⟨L, h⟩ := loop93 x hx v l hl set hset x.copies 0 (Nat.zero_le _) rfl
  have hvc := hx.vrow.cell
  have hcc := hx.crow.cell
  have e5 : ((0 : Nat) : Int) = 0 := rfl
  rcases h with ⟨h, hc⟩ | ⟨h, hc⟩ <;> rw [hc]
  · have hin := fun E (hE : mask keep93_0 E = _) => run_at h hE
    simp only [stX, head93, keep93_0, PB.cells, e5] at hin
    rw [call_run comp93 (Nat.le_of_ble_eq_true rfl)]
    simp (maxSteps := 10000000) [-List.getD_eq_getElem?_getD, code93, PB.av, PB.cells, hvc, hcc, keep93_0, hin]
  · have hin := fun E (hE : mask keep93_0 E = _) => run_at h hE
    simp only [stX, head93, keep93_0, PB.cells, e5] at hin
    rw [call_run comp93 (Nat.le_of_ble_eq_true rfl)]
    simp (maxSteps := 10000000) [-List.getD_eq_getElem?_getD, code93, PB.av, PB.cells, hvc, hcc, keep93_0, hin]
end Go.Ai

set_option maxRecDepth 100000
set_option linter.unusedSimpArgs false
set_option linter.unusedVariables false
namespace Go.Ai
open Go.Part (Sp Cp Bk truths cnt at' vals dfs lineK stepOk copiedK agreeK agree)
open Go.Least (hasB)
theorem rowR_at {l : List Int} {i : Nat} (h : i < l.length) : ixsA 1 (rowR l) (I i) = some (.rp [I (at' l i)] 0) := by
  simp [rowR, ixsA, ints, h, AV.cells, at']
theorem rowR_prev {l : List Int} {i : Nat} (h0 : 0 < i) (h : i < l.length) : ixsA 1 (rowR l) (I ((i : Int) - 1)) = some (.rp [I (at' l (i - 1))] 0) := by
  have e : (i : Int) - 1 = ((i - 1 : Nat) : Int) := by omega
  rw [e]
  exact rowR_at (by omega)
theorem at_small {l : List Int} (hl : ∀ n ∈ l, 0 ≤ n ∧ n ≤ 12) {i : Nat} (h : i < l.length) : 0 ≤ at' l i ∧ at' l i ≤ 12 := by
  have := hl l[i] (List.getElem_mem h)
  simpa [at', h] using this
theorem hasB_is (set n : Int) : hasB set n = Part.has set n := rfl
def head94 (lo hi : List Int) (i : Int) : Env := mkE 64 .any [(7, I i), (3, .box 0 0), (2, rowR hi), (1, rowR lo)]
def goodA (b : Bk) (lo hi : List Int) (i : Nat) : Bool := Part.has b.chords (at' hi i - at' lo i) && !(decide (0 < i) && decide (at' hi (i - 1) - at' lo (i - 1) = at' hi i - at' lo i) && !decide (at' lo i = at' lo (i - 1)) && Part.has b.perfect (at' hi i - at' lo i))
theorem agreeK_cons (b : Bk) (lo hi : List Int) (i m : Nat) : agreeK b lo hi i (m + 1) = (goodA b lo hi i && agreeK b lo hi (i + 1) m) := rfl
theorem loop94 (x : PB) (hx : x.Ok) (h : ChkR x) (lo hi : List Int) (hlo : lo.length = x.N.toNat) (hhi : hi.length = x.N.toNat) (hln : ∀ n ∈ lo, 0 ≤ n ∧ n ≤ 12) (hhn : ∀ n ∈ hi, 0 ≤ n ∧ n ≤ 12) : ∀ (m i : Nat), i + m = x.N.toNat →
    ∃ L, (run Cv 94 (.loop keep94_0 body94_0) (head94 lo hi i) (stX x) = some (.ex 0, mkE 64 .any L, stX x) ∧ agreeK (bkOf x) lo hi i m = true) ∨
      (run Cv 94 (.loop keep94_0 body94_0) (head94 lo hi i) (stX x) = some (.rt, mkE 64 .any ((6, .bool false) :: L), stX x) ∧ agreeK (bkOf x) lo hi i m = false)
  | 0, i, hi' => by
    have hN := h.N
    have h1 : ¬ (i : Int) < x.N := by omega
    have key : ∃ L, run Cv 94 (.loop keep94_0 body94_0) (head94 lo hi i) (stX x) = some (.ex 0, mkE 64 .any L, stX x) := by
      rw [run_loop]
      simp (maxSteps := 10000000) [-List.getD_eq_getElem?_getD, body94_0, keep94_0, head94, stX, PB.cells, h1]
      exact ⟨_, rfl⟩
    obtain ⟨L, hL⟩ := key
    exact ⟨L, .inl ⟨hL, rfl⟩⟩
  | m + 1, i, hi' => by
    have hN := h.N
    have h1 : (i : Int) < x.N := by omega
    have hw : IntKind.wrap .i64 ((i : Int) + 1) = i + 1 := wrap_small (by omega) (by omega)
    have hw1 : IntKind.wrap .i64 ((i : Int) - 1) = i - 1 := wrap_small (by omega) (by omega)
    have i1 := rowR_at (l := lo) (i := i) (by omega)
    have i2 := rowR_at (l := hi) (i := i) (by omega)
    have a1 := at_small hln (i := i) (by omega)
    have a2 := at_small hhn (i := i) (by omega)
    have a3 := at_small hln (i := i - 1) (by omega)
    have a4 := at_small hhn (i := i - 1) (by omega)
    have w1 : IntKind.wrap .i64 (at' hi i - at' lo i) = at' hi i - at' lo i := wrap_small (by omega) (by omega)
    have w2 : IntKind.wrap .i64 (at' hi (i - 1) - at' lo (i - 1)) = at' hi (i - 1) - at' lo (i - 1) := wrap_small (by omega) (by omega)
    obtain ⟨hc0, hc1⟩ := h.ch
    obtain ⟨hp0, hp1⟩ := h.pf
    obtain ⟨ch, hch⟩ := Int.eq_ofNat_of_zero_le hc0
    obtain ⟨pf, hpf⟩ := Int.eq_ofNat_of_zero_le hp0
    have c1 := has_call ch (by omega) (at' hi i - at' lo i)
    have c2 := has_call pf (by omega) (at' hi i - at' lo i)
    rw [← hch, hasB_is] at c1
    rw [← hpf, hasB_is] at c2
    have hlp : ∀ l σ n, pur σ (n + 1) (rowR l) = some (rowR l, false) := fun _ _ _ => rfl
    have hlu : ∀ l a b c d n, under a b c d (n + 1) (rowR l) = true := fun _ _ _ _ _ _ => rfl
    have hvu := hx.vrow.under
    have hcu := hx.crow.under
    have hgd : goodA (bkOf x) lo hi i = (Part.has x.chords (at' hi i - at' lo i) && !(decide (0 < i) && decide (at' hi (i - 1) - at' lo (i - 1) = at' hi i - at' lo i) && !decide (at' lo i = at' lo (i - 1)) && Part.has x.perfect (at' hi i - at' lo i))) := rfl
    have e1 : (at' hi (i - 1) - at' lo (i - 1) == at' hi i - at' lo i) = decide (at' hi (i - 1) - at' lo (i - 1) = at' hi i - at' lo i) := rfl
    have e2 : (at' lo i != at' lo (i - 1)) = !decide (at' lo i = at' lo (i - 1)) := rfl
    rw [agreeK_cons]
    by_cases hi0 : 0 < i
    · have hd0 : decide (0 < i) = true := by simpa using hi0
      have h2 : (i : Int) > 0 := by omega
      have hd2 : decide ((i : Int) > 0) = true := by simpa using h2
      have i3 := rowR_prev (l := lo) hi0 (by omega)
      have i4 := rowR_prev (l := hi) hi0 (by omega)
      rw [hd0, Bool.true_and] at hgd
      cases hg : goodA (bkOf x) lo hi i with
      | true =>
        have key : run Cv 94 (.loop keep94_0 body94_0) (head94 lo hi i) (stX x) = run Cv 94 (.loop keep94_0 body94_0) (head94 lo hi (i + 1)) (stX x) := by
          rw [hg] at hgd
          generalize Part.has x.chords (at' hi i - at' lo i) = b1 at *
          generalize Part.has x.perfect (at' hi i - at' lo i) = b2 at *
          generalize decide (at' hi (i - 1) - at' lo (i - 1) = at' hi i - at' lo i) = b3 at *
          generalize decide (at' lo i = at' lo (i - 1)) = b4 at *
          rw [run_loop]
          generalize MC.loop keep94_0 body94_0 = L
          cases b1 <;> cases b2 <;> cases b3 <;> cases b4 <;> simp only [Bool.not_true, Bool.not_false, Bool.and_false, Bool.false_and, Bool.and_true, Bool.true_and, Bool.true_eq_false, Bool.and_self] at hgd <;>
            simp (maxSteps := 10000000) [-List.getD_eq_getElem?_getD, -ixsA, -List.all_eq_true, body94_0, keep94_0, head94, stX, PB.cells, h1, h2, hd2, hi0, hd0, hw, hw1, i1, i2, i3, i4, w1, w2, c1, c2, hlp, hlu, hvu, hcu, e1, e2]
        rw [key, Bool.true_and]
        exact loop94 x hx h lo hi hlo hhi hln hhn m (i + 1) (by omega)
      | false =>
        rw [Bool.false_and]
        have key : ∃ L, run Cv 94 (.loop keep94_0 body94_0) (head94 lo hi i) (stX x) = some (.rt, mkE 64 .any ((6, .bool false) :: L), stX x) := by
          rw [hg] at hgd
          generalize Part.has x.chords (at' hi i - at' lo i) = b1 at *
          generalize Part.has x.perfect (at' hi i - at' lo i) = b2 at *
          generalize decide (at' hi (i - 1) - at' lo (i - 1) = at' hi i - at' lo i) = b3 at *
          generalize decide (at' lo i = at' lo (i - 1)) = b4 at *
          rw [run_loop]
          cases b1 <;> cases b2 <;> cases b3 <;> cases b4 <;> simp only [Bool.not_true, Bool.not_false, Bool.and_false, Bool.false_and, Bool.and_true, Bool.true_and, Bool.false_eq_true, Bool.and_self] at hgd <;>
            simp (maxSteps := 10000000) [-List.getD_eq_getElem?_getD, -ixsA, -List.all_eq_true, body94_0, keep94_0, head94, stX, PB.cells, h1, h2, hd2, hi0, hd0, hw, hw1, i1, i2, i3, i4, w1, w2, c1, c2, hlp, hlu, hvu, hcu, e1, e2] <;> exact ⟨_, rfl⟩
        obtain ⟨L, hL⟩ := key
        exact ⟨L, .inr ⟨hL, rfl⟩⟩
    · have hd0 : decide (0 < i) = false := by simpa using hi0
      have h2 : ¬ (i : Int) > 0 := by omega
      have hd2 : decide ((i : Int) > 0) = false := by simpa using h2
      rw [hd0] at hgd
      cases hg : goodA (bkOf x) lo hi i with
      | true =>
        have key : run Cv 94 (.loop keep94_0 body94_0) (head94 lo hi i) (stX x) = run Cv 94 (.loop keep94_0 body94_0) (head94 lo hi (i + 1)) (stX x) := by
          rw [hg] at hgd
          simp only [Bool.false_and, Bool.not_false, Bool.and_true] at hgd
          rw [← hgd] at c1
          rw [run_loop]
          generalize MC.loop keep94_0 body94_0 = L
          simp (maxSteps := 10000000) [-List.getD_eq_getElem?_getD, -ixsA, -List.all_eq_true, body94_0, keep94_0, head94, stX, PB.cells, h1, h2, hd2, hi0, hd0, hw, hw1, i1, i2, w1, w2, c1, c2, hlp, hlu, hvu, hcu]
        rw [key, Bool.true_and]
        exact loop94 x hx h lo hi hlo hhi hln hhn m (i + 1) (by omega)
      | false =>
        rw [Bool.false_and]
        have key : ∃ L, run Cv 94 (.loop keep94_0 body94_0) (head94 lo hi i) (stX x) = some (.rt, mkE 64 .any ((6, .bool false) :: L), stX x) := by
          rw [hg] at hgd
          simp only [Bool.false_and, Bool.not_false, Bool.and_true] at hgd
          rw [← hgd] at c1
          rw [run_loop]
          simp (maxSteps := 10000000) [-List.getD_eq_getElem?_getD, -ixsA, -List.all_eq_true, body94_0, keep94_0, head94, stX, PB.cells, h1, h2, hd2, hi0, hd0, hw, hw1, i1, i2, w1, w2, c1, c2, hlp, hlu, hvu, hcu]
          exact ⟨_, rfl⟩
        obtain ⟨L, hL⟩ := key
        exact ⟨L, .inr ⟨hL, rfl⟩⟩
theorem agree_call (x : PB) (hx : x.Ok) (h : ChkR x) (lo hi : List Int) (hlo : lo.length = x.N.toNat) (hhi : hi.length = x.N.toNat) (hln : ∀ n ∈ lo, 0 ≤ n ∧ n ≤ 12) (hhn : ∀ n ∈ hi, 0 ≤ n ∧ n ≤ 12) : call Cv 94 [x.av, rowR lo, rowR hi] = some (.bool (agree (bkOf x) lo hi)) := by
  obtain ⟨L, g⟩ := loop94 x hx h lo hi hlo hhi hln hhn x.N.toNat 0 (by omega)
  have hvc := hx.vrow.cell
  have hcc := hx.crow.cell
  have e5 : ((0 : Nat) : Int) = 0 := rfl
  have e6 : agree (bkOf x) lo hi = agreeK (bkOf x) lo hi 0 x.N.toNat := rfl
  rw [e6]
  rcases g with ⟨g, hc⟩ | ⟨g, hc⟩ <;> rw [hc]
  · have hin := fun E (hE : mask keep94_0 E = _) => run_at g hE
    simp only [stX, head94, keep94_0, PB.cells, e5] at hin
    rw [call_run comp94 (Nat.le_of_ble_eq_true rfl)]
    simp (maxSteps := 10000000) [-List.getD_eq_getElem?_getD, code94, PB.av, PB.cells, hvc, hcc, keep94_0, hin]
  · have hin := fun E (hE : mask keep94_0 E = _) => run_at g hE
    simp only [stX, head94, keep94_0, PB.cells, e5] at hin
    rw [call_run comp94 (Nat.le_of_ble_eq_true rfl)]
    simp (maxSteps := 10000000) [-List.getD_eq_getElem?_getD, code94, PB.av, PB.cells, hvc, hcc, keep94_0, hin]
end Go.Ai
