/- This text shows what the questions answer. No conditions of its own. -/
import Derived.Test.YtcndfpjjcbjhpaaDoorFnB
set_option linter.unusedSimpArgs false
set_option linter.unusedVariables false
set_option maxRecDepth 100000
set_option linter.unusedSimpArgs false
set_option linter.unusedVariables false
namespace Go.Ai
theorem rowT_len (l : List Vo) : lenA (rowT l) = some (I l.length) := by
  unfold rowT
  split
  · rename_i h; simp [h]
  · simp [rowN]
theorem rowT_pur (l : List Vo) (σ : St) (n : Nat) : pur σ (n + 1) (rowT l) = some (rowT l, false) := by unfold rowT; split <;> rfl
theorem rowT_under (l : List Vo) (a b c d n : Nat) : under a b c d (n + 1) (rowT l) = true := by unfold rowT; split <;> rfl
theorem none_call (l : List Vo) : call Cv 97 [rowT l] = some (.bool (decide (l = []))) := by
  have h : ((l.length : Int) == 0) = decide (l = []) := by
    cases l with
    | nil => rfl
    | cons a l => simp; omega
  rw [call_def comp97]
  simp [code97, rowT_len, h]
def idxE : List (List Vo) → Nat → Int
  | [], _ => -1
  | l :: T, k => if l = [] then k else idxE T (k + 1)
def head106 (T : List (List Vo)) (k : Int) : Env := [.sl 1 (T.map rowT) .no, .fn (.func 97) [] [], .any, .any, .any, .any, .any, I T.length, I k] ++ List.replicate 10 .any
theorem loop106 (T0 : List (List Vo)) (hl : T0.length < 2 ^ 47) : ∀ (T : List (List Vo)) (k : Nat), k ≤ T0.length → T0.drop k = T →
    ∃ e c, run Cv 106 (.loop keep106_0 body106_0) (head106 T0 k) {} = some (c, e, {}) ∧ ((c = .ex 0 ∧ idxE T k = -1) ∨ (c = .rt ∧ e[4]? = some (I (idxE T k)))) ∧ e.length = 19
  | [], k, hk, h => by
    have : k = T0.length := Nat.le_antisymm hk (by simpa using h)
    subst this
    have key : ∃ e, run Cv 106 (.loop keep106_0 body106_0) (head106 T0 T0.length) {} = some (.ex 0, e, {}) ∧ e.length = 19 := by
      rw [run_loop]
      simp [body106_0, keep106_0, head106]
    obtain ⟨e, h1, h2⟩ := key
    exact ⟨e, _, h1, .inl ⟨rfl, rfl⟩, h2⟩
  | l :: T, k, hk, h => by
    have hb : T0[k]? = some l := by
      have : (T0.drop k)[0]? = some l := by rw [h]; rfl
      simpa using this
    have hlt : k < T0.length := (List.getElem?_eq_some_iff.1 hb).1
    have hbb : T0[k] = l := (List.getElem?_eq_some_iff.1 hb).2
    have hw : IntKind.wrap .i64 ((k : Int) + 1) = k + 1 := wrap_small (by omega) (by omega)
    by_cases hv : l = []
    · have key : ∃ e, run Cv 106 (.loop keep106_0 body106_0) (head106 T0 k) {} = some (.rt, e, {}) ∧ e[4]? = some (I k) ∧ e.length = 19 := by
        rw [run_loop]
        simp [body106_0, keep106_0, head106, hlt, hbb, rowT_cells, rowT_pur, none_call, hv]
      obtain ⟨e, h1, h2, h3⟩ := key
      exact ⟨e, _, h1, .inr ⟨rfl, by rw [h2]; simp [idxE, hv]⟩, h3⟩
    · have key : run Cv 106 (.loop keep106_0 body106_0) (head106 T0 k) {} = run Cv 106 (.loop keep106_0 body106_0) (head106 T0 (k + 1)) {} := by
        rw [run_loop]
        generalize MC.loop keep106_0 body106_0 = L
        simp [body106_0, keep106_0, head106, hlt, hbb, rowT_cells, rowT_pur, none_call, hv, hw, under, rowT_under]
      rw [key]
      have := loop106 T0 hl T (k + 1) hlt (by rw [← List.drop_drop, h]; rfl)
      simpa [idxE, hv] using this
theorem idxE_nonneg : ∀ (T : List (List Vo)) (k : Nat), decide (0 ≤ idxE T k) = !T.all (fun l => !decide (l = []))
  | [], k => by simp [idxE]
  | l :: T, k => by
    by_cases h : l = []
    · simp [idxE, h]
    · have := idxE_nonneg T (k + 1)
      simp only [idxE, h, if_false, this]
      simp [h]
theorem ixf_call (T : List (List Vo)) (hl : T.length < 2 ^ 47) : call Cv 106 [trP T, .fn (.func 97) [] []] = some (I (idxE T 0)) := by
  by_cases hT : T = []
  · rw [call_def comp106]
    simp [code106, trP, hT]
    rw [run_loop]
    simp [body106_0, keep106_0, idxE]
  · obtain ⟨e, c, h1, h2, h3⟩ := loop106 T hl T 0 (Nat.zero_le _) rfl
    rw [call_def comp106]
    simp [code106, trP, hT]
    rw [run_loop_mask]
    rw [show mask keep106_0 _ = head106 T (0 : Nat) from by simp [keep106_0, head106]]
    rw [h1]
    rcases h2 with ⟨rfl, h2⟩ | ⟨rfl, h2⟩
    · simp [h2, h3]
    · simp [h2]
theorem trP_pur (T : List (List Vo)) (σ : St) (n : Nat) : pur σ (n + 1) (trP T) = some (trP T, false) := by simp only [trP]; split <;> rfl
theorem trP_cell (T : List (List Vo)) : (trP T).isCell = true := by simp only [trP]; split <;> rfl
theorem trP_cells (T : List (List Vo)) : (trP T).cells = [trP T] := by simp only [trP]; split <;> rfl
theorem cf_call (T : List (List Vo)) (hl : T.length < 2 ^ 47) : call Cv 96 [trP T, .fn (.func 97) [] []] = some (.bool (!T.all (fun l => !decide (l = [])))) := by
  rw [call_def comp96]
  simp [code96, trP_pur, ixf_call T hl, idxE_nonneg]
theorem Ts_length (x : Book) (but : List Int) : ∀ (l : List Boy) (k : Nat), (Ts x but l k).length = l.length
  | [], _ => rfl
  | b :: l, k => by simp [Ts, Ts_length x but l (k + 1)]
def fine (x : Book) (but : List Int) : Bool := (Ts x but x.boys 0).all (fun l => !decide (l = []))
theorem isTrue_call (x : Book) (hx : x.Ok) (but : List Int) : call Cv 61 [openedV x but] = some (.bool (fine x but)) := by
  have h := hx.blen
  rw [call_def comp61]
  simp [code61, openedV, Book.cells, trP_cell, trP_cells, trP_pur, cf_call _ (show (Ts x but x.boys 0).length < 2 ^ 47 by rw [Ts_length]; exact h), fine]
end Go.Ai

set_option maxRecDepth 100000
set_option linter.unusedSimpArgs false
set_option linter.unusedVariables false
namespace Go.Ai
theorem addTo_getD (ws : List (List Vo)) (v : Vo) (m w : Nat) : (addTo m ws v).getD w [] = if w < m then ws.getD w [] ++ [v] else ws.getD w [] := by
  simp only [List.getD_eq_getElem?_getD, addTo_get]
  split <;> rfl
def cutW (weeks : Int) (v : Vo) : Nat := (if v.brk < weeks then v.brk else weeks).toNat
theorem fold_ws (weeks : Int) : ∀ (l : List Vo) (M : Ms) (w : Nat), ((l.foldl (step weeks) M).ws).getD w [] = M.ws.getD w [] ++ l.filter fun v => decide (w < cutW weeks v)
  | [], M, w => by simp
  | v :: l, M, w => by
    rw [List.foldl_cons, fold_ws weeks l]
    simp only [step, addTo_getD, List.filter_cons, cutW]
    by_cases h : w < (if v.brk < weeks then v.brk else weeks).toNat
    · simp [h]
    · simp [h]
theorem addTo_ne (ws : List (List Vo)) (v : Vo) (m : Nat) (h : ∀ es ∈ ws, es ≠ []) : ∀ es ∈ addTo m ws v, es ≠ [] := by
  intro es hes
  obtain ⟨i, hi⟩ := List.getElem?_of_mem hes
  rw [addTo_get] at hi
  split at hi
  · simp only [Option.some.injEq] at hi
    subst hi; simp
  · exact h es (List.mem_of_getElem? hi)
theorem fold_ne (weeks : Int) : ∀ (l : List Vo) (M : Ms), (∀ es ∈ M.ws, es ≠ []) → ∀ es ∈ (l.foldl (step weeks) M).ws, es ≠ []
  | [], M, h => h
  | v :: l, M, h => by
    rw [List.foldl_cons]
    exact fold_ne weeks l _ (addTo_ne _ _ _ h)
/-- The voices that are not broken in a week. -/
def wholeOf (x : Book) (boy : Nat) (b : Boy) (but : List Int) (w : Int) : List Vo := (voicesOf x boy b but).filter fun v => decide (w < v.brk)
theorem ws_get (x : Book) (boy : Nat) (b : Boy) (but : List Int) (w : Nat) (hw : (w : Int) < x.weeks) : (msOf x boy b but).ws.getD w [] = wholeOf x boy b but w := by
  rw [msOf, fold_ws, wholeOf]
  simp only [List.getD_nil, List.nil_append]
  congr 1
  funext v
  rw [Bool.eq_iff_iff, decide_eq_true_eq, decide_eq_true_eq]
  unfold cutW
  constructor
  · intro h; split at h <;> omega
  · intro h; split <;> omega

def Lk : List (Int × Int) → List AV → Int × Int → AV
  | p :: ks, v :: vs, k => if k = p then v else Lk ks vs k
  | _, _, _ => .nils
theorem find_Lk (a b : Int) (vs0 : List AV) : ∀ (ks : List (Int × Int)) (vs : List AV) (i : Nat), vs0.drop i = vs → ks.length = vs.length →
    ((findA (some 2) (.agg [I a, I b]) (ks.map pairV) i).bind fun r => match r with
      | some j => (vs0[j]?).map fun v => if false = true then AV.tup [v, .bool true] else v
      | none => some (if false = true then AV.tup [.nils, .bool false] else .nils)) = some (Lk ks vs (a, b))
  | [], vs, i, h1, h2 => by
    cases vs with
    | nil => simp [findA, Lk]
    | cons => simp at h2
  | p :: ks, [], i, h1, h2 => by simp at h2
  | p :: ks, v :: vs, i, h1, h2 => by
    have hv : vs0[i]? = some v := by
      have : (vs0.drop i)[0]? = some v := by rw [h1]; rfl
      simpa using this
    have ih := find_Lk a b vs0 ks vs (i + 1) (by rw [← List.drop_drop, h1]; rfl) (by simpa using h2)
    obtain ⟨p1, p2⟩ := p
    simp only [List.map_cons, pairV, findA, keyEq, Lk]
    simp only [List.length_cons, List.length_nil, and_self, if_true, eqCells, Option.map_some, Option.bind_some, Bool.and_true]
    by_cases h : a = p1 ∧ b = p2
    · obtain ⟨rfl, rfl⟩ := h
      simp [hv]
    · have h' : (a == p1 && b == p2) = false := by
        rw [Bool.and_eq_false_iff]
        by_cases h1 : a = p1
        · right; simp; exact fun h2 => h ⟨h1, h2⟩
        · left; simpa using h1
      have h'' : ¬ ((a, b) = (p1, p2)) := by simpa using h
      rw [h']
      simpa [h''] using ih
theorem Lk_app (k : Int × Int) : ∀ (ks : List (Int × Int)) (vs : List AV) (ks' vs'), ks.length = vs.length → (∀ p ∈ ks, p ≠ k) → Lk (ks ++ ks') (vs ++ vs') k = Lk ks' vs' k
  | [], [], _, _, _, _ => rfl
  | [], _ :: _, _, _, h, _ => by simp at h
  | _ :: _, [], _, _, h, _ => by simp at h
  | p :: ks, v :: vs, ks', vs', h, hp => by
    have h1 := hp p List.mem_cons_self
    simp only [List.cons_append, Lk, if_neg (Ne.symm h1)]
    exact Lk_app k ks vs ks' vs' (by simpa using h) fun q hq => hp q (List.mem_cons_of_mem _ hq)
theorem Lk_hit (k : Int × Int) : ∀ (ks : List (Int × Int)) (vs : List AV) (ks' vs') (i : Nat) (v : AV), ks[i]? = some k → vs[i]? = some v → (∀ j, j < i → ks[j]? ≠ some k) → Lk (ks ++ ks') (vs ++ vs') k = v
  | [], _, _, _, i, v, h, _, _ => by simp at h
  | _ :: _, [], _, _, i, v, _, h, _ => by simp at h
  | p :: ks, u :: vs, ks', vs', 0, v, h1, h2, h3 => by
    simp only [List.getElem?_cons_zero, Option.some.injEq] at h1 h2
    subst h1 h2
    simp [Lk]
  | p :: ks, u :: vs, ks', vs', i + 1, v, h1, h2, h3 => by
    have hp : ¬ k = p := fun h => h3 0 (by omega) (by rw [h]; rfl)
    simp only [List.cons_append, Lk, if_neg hp]
    exact Lk_hit k ks vs ks' vs' i v (by simpa using h1) (by simpa using h2) fun j hj => by have := h3 (j + 1) (by omega); simpa using this
theorem Lk_none (k : Int × Int) : ∀ (ks : List (Int × Int)) (vs : List AV), (∀ p ∈ ks, p ≠ k) → Lk ks vs k = .nils
  | [], [], _ => rfl
  | [], _ :: _, _ => rfl
  | _ :: _, [], _ => rfl
  | p :: ks, v :: vs, h => by
    rw [Lk, if_neg (Ne.symm (h p List.mem_cons_self))]
    exact Lk_none k ks vs fun q hq => h q (List.mem_cons_of_mem _ hq)
theorem KP_len (x : Book) (but : List Int) : ∀ (l : List Boy) (k : Nat), (Ks x but l k).length = (Ps x but l k).length
  | [], _ => rfl
  | b :: l, k => by simp [Ks, Ps, KP_len x but l (k + 1), pairsFrom]
theorem Ks_ge (x : Book) (but : List Int) : ∀ (l : List Boy) (k : Nat), ∀ p ∈ Ks x but l k, (k : Int) ≤ p.1
  | [], _, p, h => (List.not_mem_nil h).elim
  | b :: l, k, p, h => by
    rcases List.mem_append.1 h with h | h
    · simp only [pairsFrom, List.mem_map] at h
      obtain ⟨w, _, rfl⟩ := h
      exact Int.le_refl _
    · have := Ks_ge x but l (k + 1) p h; omega
theorem Lk_boys (x : Book) (but : List Int) (boy w : Nat) (b : Boy) (hw : (w : Int) < x.weeks) : ∀ (l : List Boy) (k : Nat), k ≤ boy → l[boy - k]? = some b → Lk (Ks x but l k) (Ps x but l k) (boy, w) = rowT (wholeOf x boy b but w)
  | [], k, hk, h => by simp at h
  | b' :: l, k, hk, h => by
    rcases Nat.lt_or_ge k boy with hlt | hge
    · rw [Ks, Ps, Lk_app _ _ _ _ _ (by simp [pairsFrom]) (by
        intro p hp
        simp only [pairsFrom, List.mem_map] at hp
        obtain ⟨j, _, rfl⟩ := hp
        intro h
        have := congrArg Prod.fst h
        simp only at this
        omega)]
      refine Lk_boys x but boy w b hw l (k + 1) hlt ?_
      rw [show boy - k = (boy - (k + 1)) + 1 by omega, List.getElem?_cons_succ] at h
      exact h
    · have hkb : k = boy := Nat.le_antisymm hk hge
      subst hkb
      simp only [Nat.sub_self, List.getElem?_cons_zero, Option.some.injEq] at h
      subst h
      have hg := ws_get x k b' but w hw
      rw [Ks, Ps]
      rcases Nat.lt_or_ge w (msOf x k b' but).ws.length with h1 | h1
      · have hne : (msOf x k b' but).ws[w] ≠ [] := fold_ne x.weeks _ _ (fun es h => (List.not_mem_nil h).elim) _ (List.getElem_mem h1)
        have hgd : (msOf x k b' but).ws.getD w [] = (msOf x k b' but).ws[w] := by simp [h1]
        refine Lk_hit _ _ _ _ _ w _ ?_ ?_ ?_
        · simp [pairsFrom, h1]
        · rw [List.getElem?_map, List.getElem?_eq_getElem h1, Option.map_some, rowT, ← hg, hgd, if_neg hne]
        · intro j hj
          rw [pairsFrom, List.getElem?_map]
          simp [Nat.lt_trans hj h1]
          omega
      · have he : wholeOf x k b' but w = [] := by rw [← hg]; simp [h1]
        rw [Lk_none, he]
        · rfl
        · intro p hp
          rcases List.mem_append.1 hp with hp | hp
          · simp only [pairsFrom, List.mem_map, List.mem_range] at hp
            obtain ⟨j, hj, rfl⟩ := hp
            intro h
            have := congrArg Prod.snd h
            simp only at this
            omega
          · have := Ks_ge x but l (k + 1) p hp
            intro h
            rw [h] at this
            simp only at this
            omega
/-- The look into the map. -/
theorem look (x : Book) (but : List Int) (boy w : Nat) (b : Boy) (hb : x.boys[boy]? = some b) (hw : (w : Int) < x.weeks) (σ : St) :
    lkpA σ (some 2) .nils (.mapv ((Ks x but x.boys 0).map pairV) (Ps x but x.boys 0)) (.agg [I boy, I w]) false = some (rowT (wholeOf x boy b but w)) := by
  have h1 := find_Lk boy w (Ps x but x.boys 0) (Ks x but x.boys 0) (Ps x but x.boys 0) 0 rfl (KP_len x but _ _)
  have h2 := Lk_boys x but boy w b hw x.boys 0 (Nat.zero_le _) (by simpa using hb)
  rw [h2] at h1
  simp only [lkpA, entriesA, Option.bind_some]
  rw [if_pos (show keyOk (some 2) (AV.agg [I ↑boy, I ↑w]) = true from rfl)]
  exact h1
end Go.Ai

set_option maxRecDepth 100000
set_option linter.unusedSimpArgs false
set_option linter.unusedVariables false
namespace Go.Ai
structure Fit (x : Book) : Prop where
  boys : x.boys.all boyOk = true
  bl : x.boys.length ≤ 4
  bl1 : 1 ≤ x.boys.length
  w1 : 1 ≤ x.weeks
  w6 : x.weeks ≤ 6
  tl : x.trials.length ≤ 6
  tr : x.trials.all (trialOk x) = true
theorem good_of {x : Book} (h : checkOk x = true) : Fit x := by
  simp only [checkOk, Bool.and_eq_true, decide_eq_true_eq] at h
  obtain ⟨⟨⟨⟨⟨h1, h2⟩, h3, h4⟩, h5⟩, h6⟩, h7⟩ := h
  exact ⟨h6, by omega, by omega, h3, h4, by omega, h7⟩
theorem nils_row : IsRow 1 (ints []) .nils := .inl ⟨rfl, rfl⟩
theorem opened0 {x : Book} (hx : x.Ok) (h : checkOk x = true) : call Cv 60 [x.av, .nils] = some (openedV x []) := by
  have g := good_of h
  exact opened_call x hx g.w6 g.boys (by have := g.bl; omega) [] .nils (by simp) nils_row
theorem openedV_pur (x : Book) (but : List Int) (σ : St) (n : Nat) : pur σ (n + 2) (openedV x but) = some (openedV x but, false) := by
  simp [openedV, pur, purAll, Book.cells, trP_pur]
theorem openedV_cells (x : Book) (but : List Int) : (openedV x but).cells = x.cells ++ [trP (Ts x but x.boys 0), .mapv ((Ks x but x.boys 0).map pairV) (Ps x but x.boys 0)] := rfl
def zeroB : AV := .agg [.nils, I 0, .nils, .nils, .nilm]
def askE (x : Book) (is : Bool) : Int := if checkOk x = false then 20 else if is = false then 21 else if fine x [] = false then 22 else 0
def askB (x : Book) (is : Bool) : AV := if checkOk x = false then zeroB else if is = false then zeroB else openedV x []
theorem asked_call (x : Book) (hx : x.Ok) (is : Bool) : call Cv 73 [x.av, .bool is] = some (.tup [askB x is, I (askE x is)]) := by
  have h1 := check_call x hx
  have hcap := openedV_pur x []
  simp only [Book.av, Book.cells] at h1
  cases hc : checkOk x with
  | false =>
    rw [hc] at h1
    rw [call_def comp73]
    simp [code73, Book.av, Book.cells, h1, askB, askE, hc, fillA, zeroB]
  | true =>
    rw [hc] at h1
    have h2 := opened0 hx hc
    have h3 := isTrue_call x hx []
    simp only [Book.av, Book.cells] at h2
    cases is with
    | false =>
      rw [call_def comp73]
      simp [code73, Book.av, Book.cells, h1, askB, askE, hc, fillA, zeroB]
    | true =>
      simp only [openedV, Book.cells, List.cons_append, List.nil_append] at h2 h3
      cases hf : fine x [] with
      | false =>
        rw [hf] at h3
        rw [call_def comp73]
        simp [code73, Book.av, Book.cells, h1, h2, h3, askB, askE, hc, fillA, openedV, trP_cell, trP_pur, hf]
      | true =>
        rw [hf] at h3
        rw [call_def comp73]
        simp [code73, Book.av, Book.cells, h1, h2, h3, askB, askE, hc, fillA, openedV, trP_cell, trP_pur, hf]
theorem Right_call (x : Book) (hx : x.Ok) : call Cv 15 [x.av] = some (.tup [.bool (checkOk x && fine x []), I (if checkOk x then 0 else 20)]) := by
  have h1 := check_call x hx
  simp only [Book.av, Book.cells] at h1
  cases hc : checkOk x with
  | false =>
    rw [hc] at h1
    rw [call_def comp15]
    simp [code15, Book.av, Book.cells, h1, hc, fillA, zeroB]
  | true =>
    rw [hc] at h1
    have h2 := opened0 hx hc
    have h3 := isTrue_call x hx []
    simp only [Book.av, Book.cells] at h2
    simp only [openedV, Book.cells, List.cons_append, List.nil_append] at h2 h3
    rw [call_def comp15]
    simp [code15, Book.av, Book.cells, h1, h2, h3, hc, trP_pur]
end Go.Ai

set_option maxRecDepth 100000
set_option linter.unusedSimpArgs false
set_option linter.unusedVariables false
namespace Go.Ai
theorem least_any (a b : Int) (c : Cap) (hc : c.pure = .full) : call Cv 95 [I a, .sl 1 [I b] .full] = some (I (if b < a then b else a)) := least_call a b
/-- A function of a voice. -/
structure VoFn (g : Nat) (cap : List AV) (f : Vo → Int) : Prop where
  imp : Cv.imp g = false
  pur : ∀ σ n, purAll (pur σ (n + 4)) cap = some (cap, false)
  call : ∀ v, call Cv g ([Vo.av v] ++ cap) = some (I (f v))
  under : ∀ a b c d n, cap.all (under a b c d (n + 4)) = true
def spanStep (f : Vo → Int) (s : Span) (v : Vo) : Span := ⟨if f v < s.low then f v else s.low, if s.high < f v then f v else s.high⟩
def spanOf (f : Vo → Int) (l : List Vo) : Span := match l with
  | [] => ⟨0, 0⟩
  | v :: _ => l.foldl (spanStep f) ⟨f v, f v⟩
def Span.av (s : Span) : AV := .agg [I s.low, I s.high]
theorem fn_callA {g : Nat} {cap : List AV} {f : Vo → Int} (h : VoFn g cap f) (d : Bool) (v : Vo) (σ : St) : callA Cv (run Cv) d (.fn (.func g) [] cap) [v.av] σ = some (I (f v), σ) := by
  have h1 := h.call v
  have hp : purAll (Ai.pur σ depth) ([] ++ [v.av] ++ cap) = some ([v.av] ++ cap, false) := by
    have := h.pur σ 8
    have h2 : purAll (Ai.pur σ depth) [v.av] = some ([v.av], false) := by simp [purAll, Ai.pur, depth, Vo.av, Vo.cells]
    exact purAll_app _ _ _ _ _ h2 this
  rw [call_none h.imp, hp]
  simp only [pureCallA, pureA_call, h1, backA]
  rfl
def head78 (fv : AV) (l : List Vo) (k : Int) : Env := [.any, .any, .box 0 0, .any, .box 1 0, .any, .box 2 0, .any, .any, .any, .any, .any, .any, .any, .any, .any, .any, .any, rowN l, I l.length, I k] ++ List.replicate 21 .any
def st78 (fv : AV) (s : Span) : St := { boxes := [[fv], [I 0, I 0], [I s.low, I s.high]] }
theorem loop78 {g : Nat} {cap : List AV} {f : Vo → Int} (hf : VoFn g cap f) (l0 : List Vo) (hl : l0.length < 2 ^ 47) : ∀ (l : List Vo) (k : Nat) (s : Span), k ≤ l0.length → l0.drop k = l →
    ∃ e, run Cv 78 (.loop keep78_0 body78_0) (head78 (.fn (.func g) [] cap) l0 k) (st78 (.fn (.func g) [] cap) s) = some (.ex 0, e, st78 (.fn (.func g) [] cap) (l.foldl (spanStep f) s)) ∧ e[6]? = some (.box 2 0) ∧ e[4]? = some (.box 1 0) ∧ e.length = 42
  | [], k, s, hk, h => by
    have : k = l0.length := Nat.le_antisymm hk (by simpa using h)
    subst this
    rw [run_loop]
    simp [body78_0, keep78_0, head78, List.foldl]
  | v :: l, k, s, hk, h => by
    have hb : l0[k]? = some v := by
      have : (l0.drop k)[0]? = some v := by rw [h]; rfl
      simpa using this
    have hlt : k < l0.length := (List.getElem?_eq_some_iff.1 hb).1
    have hbb : l0[k] = v := (List.getElem?_eq_some_iff.1 hb).2
    have hw : IntKind.wrap .i64 ((k : Int) + 1) = k + 1 := wrap_small (by omega) (by omega)
    have hfc := fn_callA hf
    simp only [Vo.av, Vo.cells] at hfc
    have hst : stillV Cv (.fn (.func g) [] cap) = true := by simp only [stillV]; rw [hf.imp]; rfl
    have hu : ∀ a b c d, (∀ x ∈ cap, under a b c d 5 x = true) := fun a b c d => List.all_eq_true.1 (hf.under a b c d 1)
    have key : run Cv 78 (.loop keep78_0 body78_0) (head78 (.fn (.func g) [] cap) l0 k) (st78 (.fn (.func g) [] cap) s) = run Cv 78 (.loop keep78_0 body78_0) (head78 (.fn (.func g) [] cap) l0 (k + 1)) (st78 (.fn (.func g) [] cap) (spanStep f s v)) := by
      rw [run_loop]
      generalize MC.loop keep78_0 body78_0 = L
      simp [-stillV, body78_0, keep78_0, head78, st78, rowN, hlt, hbb, hw, Vo.av, Vo.cells, hfc, hst, fillE, AV.isAgg, fillA, foldA, max2, spanStep, least_call, under]
      rw [if_pos (hu 3 0 0 0)]
    rw [key]
    exact loop78 hf l0 hl l (k + 1) _ hlt (by rw [← List.drop_drop, h]; rfl)

theorem span_call {g : Nat} {cap : List AV} {f : Vo → Int} (hf : VoFn g cap f) (v : Vo) (l : List Vo) (hl : (v :: l).length < 2 ^ 47) : call Cv 78 [.agg [.fn (.func g) [] cap], rowT (v :: l)] = some (Span.av (spanOf f (v :: l))) := by
  obtain ⟨e, h1, h2, h3, h4⟩ := loop78 hf (v :: l) hl (v :: l) 0 ⟨f v, f v⟩ (Nat.zero_le _) rfl
  have hfc := fn_callA hf
  simp only [Vo.av, Vo.cells] at hfc
  have hst : stillV Cv (.fn (.func g) [] cap) = true := by simp only [stillV]; rw [hf.imp]; rfl
  have hset : ∀ v, (e.set 41 v)[41]? = some v := fun v => List.getElem?_set_self (by omega)
  have hr : rowT (v :: l) = .sl 5 (v.av :: l.map Vo.av) .no := rfl
  simp only [st78] at h1
  rw [call_def comp78]
  simp [-stillV, code78, hr, Vo.av, Vo.cells, hfc, hst, fillA]
  rw [run_loop_mask]
  rw [show mask keep78_0 _ = head78 (.fn (.func g) [] cap) (v :: l) (0 : Nat) from by simp [keep78_0, head78, rowN, Vo.av, Vo.cells]]
  rw [h1]
  simp [h2, h3, hset, Span.av, spanOf]

def Vo.get (v : Vo) (k : Nat) : Int := match k with
  | 0 => v.low
  | 1 => v.high
  | 2 => v.gain
  | 3 => v.turn
  | _ => v.brk
theorem that_fn (k : Nat) (hk : k < 5) : VoFn 107 [.rp [I k] 0] (fun v => v.get k) where
  imp := rfl
  pur σ n := by simp [purAll, pur]
  call v := by
    have h : k = 0 ∨ k = 1 ∨ k = 2 ∨ k = 3 ∨ k = 4 := by omega
    rw [call_def comp107]
    rcases h with rfl | rfl | rfl | rfl | rfl <;> simp [code107, Vo.av, Vo.cells, Vo.get]
  under a b c d n := by simp [under]
theorem that_call (k : Nat) : call Cv 98 [I k] = some (.agg [.fn (.func 107) [] [.rp [I k] 0]]) := by
  rw [call_def comp98]
  simp [code98, fillA]

/-- One of a boy's numbers. -/
def knownS (x : Book) (boy : Int) (k : Nat) : Span := spanOf (fun v => v.get k) ((Ts x [] x.boys 0).getD boy.toNat [])
def isBoyB (x : Book) (n : Int) : Bool := decide (0 ≤ n) && decide (n < x.boys.length)
theorem Ts_get (x : Book) (but : List Int) : ∀ (l : List Boy) (k i : Nat), (Ts x but l k)[i]? = (l[i]?).map fun b => voicesOf x (k + i) b but
  | [], _, _ => by simp [Ts]
  | b :: l, k, 0 => by simp [Ts]
  | b :: l, k, i + 1 => by
    have := Ts_get x but l (k + 1) i
    simp only [Ts, List.getElem?_cons_succ, this]
    congr 1
    funext b
    rw [show k + 1 + i = k + (i + 1) by omega]
theorem ask_cases (x : Book) (is : Bool) : (askE x is = 0 ∧ checkOk x = true ∧ is = true ∧ fine x [] = true ∧ askB x is = openedV x []) ∨ (askE x is ≠ 0 ∧ ∃ B, askB x is = .agg B ∧ B.length = 5 ∧ ∀ y ∈ B, y.isCell = true) := by
  have hz : ∃ B, zeroB = .agg B ∧ B.length = 5 ∧ ∀ y ∈ B, y.isCell = true := ⟨_, rfl, rfl, by simp⟩
  cases hc : checkOk x with
  | false => right; simp only [askE, askB, hc, if_true]; exact ⟨by decide, hz⟩
  | true =>
    cases is with
    | false => right; simp only [askE, askB, hc, if_true]; exact ⟨by decide, hz⟩
    | true =>
      cases hf : fine x [] with
      | false =>
        right
        simp only [askE, askB, hc, hf, if_true, Bool.true_eq_false, if_false]
        exact ⟨by decide, _, rfl, by simp [Book.cells], by simp [Book.cells, trP_cell]⟩
      | true => left; simp [askE, askB, hc, hf]
theorem fine_ne {x : Book} {but : List Int} (h : fine x but = true) {boy : Nat} {b : Boy} (hb : x.boys[boy]? = some b) : voicesOf x boy b but ≠ [] := by
  have h1 : (Ts x but x.boys 0)[boy]? = some (voicesOf x boy b but) := by rw [Ts_get, hb]; simp
  have := List.all_eq_true.1 h _ (List.mem_of_getElem? h1)
  simpa using this
theorem voices_short {x : Book} (hx : x.Ok) (h : checkOk x = true) {boy : Nat} {b : Boy} (hb : x.boys[boy]? = some b) (but : List Int) (hbl : but.length < 2 ^ 47) : (voicesOf x boy b but).length < 999 := by
  have g := good_of h
  have hX := fixO_ok hx hb (List.all_eq_true.1 g.boys b (List.mem_of_getElem? hb)) (T := []) (ct := 0) (but := but) (r := .sl 1 (ints but) .no) hbl (.inr ⟨.no, rfl, rfl⟩) 0 (c0 := 0) (fun h => absurd rfl h)
  exact enum_short hX ⟨-1, -1, -1, -1, -1⟩
theorem known_call (x : Book) (hx : x.Ok) (boy : Int) (k : Nat) (hk : k < 5) : call Cv 68 [x.av, I boy, I k] =
    some (.tup [Span.av (if askE x (isBoyB x boy) = 0 then knownS x boy k else ⟨0, 0⟩), I (askE x (isBoyB x boy))]) := by
  have h1 := asked_call x hx (isBoyB x boy)
  have h2 := isBoy_call x hx boy
  have h3 := that_call k
  simp only [Book.av, Book.cells] at h1 h2
  rw [show (decide (0 ≤ boy) && decide (boy < x.boys.length)) = isBoyB x boy from rfl] at h2
  rcases ask_cases x (isBoyB x boy) with ⟨h0, hc, his, hf, hB⟩ | ⟨h0, B, hB1, hB2, hB3⟩
  · rw [hB] at h1
    simp only [isBoyB, Bool.and_eq_true, decide_eq_true_eq] at his
    obtain ⟨n, rfl⟩ := Int.eq_ofNat_of_zero_le his.1
    have hlt : n < x.boys.length := by omega
    have hb : x.boys[n]? = some x.boys[n] := List.getElem?_eq_getElem hlt
    have hne := fine_ne hf hb
    have hvl := voices_short hx hc hb [] (by simp)
    have hT : (Ts x [] x.boys 0)[n]? = some (voicesOf x n x.boys[n] []) := by rw [Ts_get, hb]; simp
    have hTl : n < (Ts x [] x.boys 0).length := by rw [Ts_length]; exact hlt
    have hTg : (Ts x [] x.boys 0)[n] = voicesOf x n x.boys[n] [] := by
      rw [List.getElem?_eq_getElem hTl] at hT; simpa using hT
    have hT0 : Ts x [] x.boys 0 ≠ [] := fun h => by rw [h] at hTl; simp at hTl
    obtain ⟨v, l, hvs⟩ : ∃ v l, voicesOf x n x.boys[n] [] = v :: l := by
      cases hv : voicesOf x n x.boys[n] [] with
      | nil => exact absurd hv hne
      | cons v l => exact ⟨v, l, rfl⟩
    have hs := span_call (that_fn k hk) v l (by rw [← hvs]; omega)
    have hk2 : knownS x (n : Int) k = spanOf (fun v => v.get k) (v :: l) := by
      simp [knownS, hT, hvs]
    have hge : (0 : Int) ≤ n := by omega
    have hlt' : (n : Int) < (Ts x [] x.boys 0).length := by omega
    simp only [openedV, Book.cells, List.cons_append, List.nil_append] at h1
    rw [call_def comp68]
    simp [code68, Book.av, Book.cells, h1, h2, h0, fillA, Span.av, trP_cell, h3]
    simp [trP, hT0, hlt', hTl, hTg, hvs, rowT_cells, rowT_pur, hs, hk2, Span.av]
  · rw [hB1] at h1
    have hB4 := eq_true hB3
    have hset : setAt [.nils, I 0, .nils, .nils, .nilm] 0 B = B := by
      simp [setAt, hB2]
    rw [call_def comp68]
    simp [-setAt, code68, Book.av, Book.cells, h1, h2, h0, fillA, hB2, Span.av, hB4, hset]
    simp [Span.av]
end Go.Ai

set_option maxRecDepth 100000
set_option linter.unusedSimpArgs false
set_option linter.unusedVariables false
namespace Go.Ai
theorem Span_cells (s : Span) : (Span.av s).cells = [I s.low, I s.high] := rfl
def knownR (x : Book) (boy : Int) (k : Nat) : AV := .tup [Span.av (if askE x (isBoyB x boy) = 0 then knownS x boy k else ⟨0, 0⟩), I (askE x (isBoyB x boy))]
theorem Lowest_call (x : Book) (hx : x.Ok) (boy : Int) : call Cv 19 [x.av, I boy] = some (knownR x boy 0) := by
  have h1 := known_call x hx boy 0 (by omega)
  simp only [Book.av, Book.cells, Int.natCast_zero] at h1
  rw [call_def comp19]
  simp [code19, Book.av, Book.cells, h1, knownR]
  simp [Span.av]
theorem Breaks_call (x : Book) (hx : x.Ok) (boy : Int) : call Cv 21 [x.av, I boy] = some (knownR x boy 4) := by
  have h1 := known_call x hx boy 4 (by omega)
  rw [show ((4 : Nat) : Int) = 4 from rfl] at h1
  simp only [Book.av, Book.cells] at h1
  rw [call_def comp21]
  simp [code21, Book.av, Book.cells, h1, knownR]
  simp [Span.av]

/-- The highest notes of a boy in a week. -/
def isWeekB (x : Book) (n : Int) : Bool := decide (0 ≤ n) && decide (n ≤ IntKind.wrap .i64 (x.weeks - 1))
def wholeB (x : Book) (boy : Int) (w : Int) : List Vo := match x.boys[boy.toNat]? with
  | some b => wholeOf x boy.toNat b [] w
  | none => []
def lossB (x : Book) (boy : Int) : Int := match x.boys[boy.toNat]? with
  | some b => b.loss
  | none => 0
def highE (x : Book) (boy week : Int) : Int := if askE x (isBoyB x boy && isWeekB x week) = 0 then (if wholeB x boy week = [] then 4 else 0) else askE x (isBoyB x boy && isWeekB x week)
def highS (x : Book) (boy week : Int) : Span := if highE x boy week = 0 then spanOf (fun v => topW (lossB x boy) v week) (wholeB x boy week) else ⟨0, 0⟩
theorem top_fn (x : Book) (hx : x.Ok) (n : Nat) (b : Boy) (hb : x.boys[n]? = some b) (but : List Int) (week : Int) : VoFn 76 [.rp (x.cells ++ [trP (Ts x but x.boys 0), .mapv ((Ks x but x.boys 0).map pairV) (Ps x but x.boys 0)]) 0, .rp [I n] 0, .rp [I week] 0] (fun v => topW b.loss v week) where
  imp := rfl
  pur σ n := by simp [purAll, pur]
  call v := by
    have h := top_call x hx (trP (Ts x but x.boys 0)) (.mapv ((Ks x but x.boys 0).map pairV) (Ps x but x.boys 0)) n b hb v week (fun σ n => trP_pur _ _ _) (fun _ _ => rfl) (trP_cell _) rfl
    simp only [Book.cells, List.cons_append, List.nil_append, Vo.av, Vo.cells] at h
    rw [call_def comp76]
    simp [code76, Vo.av, Vo.cells, Book.cells, trP_pur, h]
  under a b c d n := by simp [under]
theorem filter_short (x : Book) (boy : Nat) (b : Boy) (but : List Int) (w : Int) : (wholeOf x boy b but w).length ≤ (voicesOf x boy b but).length := List.length_filter_le _ _
theorem Highest_call (x : Book) (hx : x.Ok) (boy week : Int) : call Cv 23 [x.av, I boy, I week] = some (.tup [Span.av (highS x boy week), I (highE x boy week)]) := by
  have h1 := asked_call x hx (isBoyB x boy && isWeekB x week)
  have h2 := isBoy_call x hx boy
  have h3 := isWeek_call x week
  simp only [Book.av, Book.cells] at h1 h2 h3
  rw [show (decide (0 ≤ boy) && decide (boy < x.boys.length)) = isBoyB x boy from rfl] at h2
  rw [show (decide (0 ≤ week) && decide (week ≤ IntKind.wrap .i64 (x.weeks - 1))) = isWeekB x week from rfl] at h3
  rcases ask_cases x (isBoyB x boy && isWeekB x week) with ⟨h0, hc, his, hf, hB⟩ | ⟨h0, B, hB1, hB2, hB3⟩
  · rw [hB] at h1
    rw [Bool.and_eq_true] at his
    obtain ⟨his, hiw⟩ := his
    rw [his, hiw, Bool.and_self] at h1 h0
    have g := good_of hc
    have his' := his
    have hiw' := hiw
    simp only [isBoyB, Bool.and_eq_true, decide_eq_true_eq] at his'
    simp only [isWeekB, Bool.and_eq_true, decide_eq_true_eq] at hiw'
    rw [wrap_small (by have := g.w1; omega) (by have := g.w6; omega)] at hiw'
    obtain ⟨n, rfl⟩ := Int.eq_ofNat_of_zero_le his'.1
    obtain ⟨w, rfl⟩ := Int.eq_ofNat_of_zero_le hiw'.1
    have hlt : n < x.boys.length := by omega
    have hb : x.boys[n]? = some x.boys[n] := List.getElem?_eq_getElem hlt
    have hvl := voices_short hx hc hb [] (by simp)
    have hl := look x [] n w x.boys[n] hb (by omega)
    have hwB : wholeB x (n : Int) w = wholeOf x n x.boys[n] [] w := by simp [wholeB, hlt]
    have hlB : lossB x (n : Int) = x.boys[n].loss := by simp [lossB, hlt]
    have hfn := top_fn x hx n x.boys[n] hb [] w
    simp only [openedV, Book.cells, List.cons_append, List.nil_append] at h1
    cases hv : wholeOf x n x.boys[n] [] w with
    | nil =>
      rw [hv] at hl hwB
      have hE : highE x n w = 4 := by simp [highE, his, hiw, h0, hwB]
      rw [call_def comp23]
      simp [code23, Book.av, Book.cells, h1, h2, h3, his, hiw, h0, fillA, Span.av, trP_cell, hl, rowT_len, hE, highS]
    | cons v l =>
      rw [hv] at hl hwB
      have hE : highE x n w = 0 := by simp [highE, his, hiw, h0, hwB]
      have hs := span_call hfn v l (by
        have := filter_short x n x.boys[n] [] w
        rw [hv] at this; omega)
      have hS : highS x n w = spanOf (fun v => topW x.boys[n].loss v w) (v :: l) := by simp [highS, hE, hwB, hlB]
      simp only [Book.cells, List.cons_append, List.nil_append] at hs
      have hlen : ((l.length : Int) + 1 == 0) = false := by simp; omega
      rw [call_def comp23]
      simp [code23, Book.av, Book.cells, h1, h2, h3, his, hiw, h0, fillA, Span.av, trP_cell, hl, rowT_len, hE, hlen, trP_pur, rowT_pur, hs, fo, hS]
  · rw [hB1] at h1
    have hB4 := eq_true hB3
    have hset : setAt [.nils, I 0, .nils, .nils, .nilm] 0 B = B := by
      simp [setAt, hB2]
    have hE : highE x boy week = askE x (isBoyB x boy && isWeekB x week) := by simp [highE, h0]
    have hS : highS x boy week = ⟨0, 0⟩ := by simp [highS, hE, h0]
    cases hi : isBoyB x boy with
    | true =>
      rw [hi] at h1 h2 h0
      simp only [Bool.true_and] at h1 h0
      rw [call_def comp23]
      simp [-setAt, code23, Book.av, Book.cells, h1, h2, h3, h0, fillA, hB2, Span.av, hB4, hset, hE, hS, hi]
      simp
    | false =>
      rw [hi] at h1 h2 h0
      simp only [Bool.false_and] at h1 h0
      rw [call_def comp23]
      simp [-setAt, code23, Book.av, Book.cells, h1, h2, h3, h0, fillA, hB2, Span.av, hB4, hset, hE, hS, hi]
      simp
end Go.Ai

set_option maxRecDepth 100000
set_option linter.unusedSimpArgs false
set_option linter.unusedVariables false
namespace Go.Ai
theorem some_call (a b : Int) : call Cv 126 [.agg [I a, I b]] = some (.bool (decide (a > 0))) := by
  rw [call_def comp126]
  simp [code126]
theorem each_call (a b : Int) : call Cv 127 [.agg [I a, I b]] = some (.bool (a == b)) := by
  rw [call_def comp127]
  simp [code127]
def countV (a b : Int) : Int := (if a > 0 then 1 else 0) + (if a = b then 1 else 0)
theorem count_call (a b : Int) : call Cv 83 [.agg [I a, I b]] = some (I (countV a b)) := by
  have hw1 : IntKind.wrap .i64 1 = 1 := wrap_small (by omega) (by omega)
  have hw2 : IntKind.wrap .i64 2 = 2 := wrap_small (by omega) (by omega)
  have h1 := some_call a b
  have h2 := each_call a b
  rw [call_def comp83]
  by_cases ha : a > 0
  · by_cases hb : a = b
    · subst hb
      simp [code83]
      rw [run_loop]
      simp [body83_0, keep83_0, h1, h2, hw1, ixvA, under, ha]
      rw [run_loop]
      simp [body83_0, keep83_0, h1, h2, hw1, hw2, ixvA, under, ha]
      rw [run_loop]
      simp [body83_0, keep83_0, countV, ha]
    · simp [code83]
      rw [run_loop]
      simp [body83_0, keep83_0, h1, h2, hw1, ixvA, under, ha]
      rw [run_loop]
      simp [body83_0, keep83_0, h1, h2, hw1, hw2, ixvA, under, hb]
      rw [run_loop]
      simp [body83_0, keep83_0, countV, ha, hb]
  · by_cases hb : a = b
    · subst hb
      simp [code83]
      rw [run_loop]
      simp [body83_0, keep83_0, h1, h2, hw1, ixvA, under, ha]
      rw [run_loop]
      simp [body83_0, keep83_0, h1, h2, hw1, hw2, ixvA, under, ha]
      rw [run_loop]
      simp [body83_0, keep83_0, countV, ha]
    · simp [code83]
      rw [run_loop]
      simp [body83_0, keep83_0, h1, h2, hw1, ixvA, under, ha]
      rw [run_loop]
      simp [body83_0, keep83_0, h1, h2, hw1, hw2, ixvA, under, hb]
      rw [run_loop]
      simp [body83_0, keep83_0, countV, ha, hb]

def bookC (x : Book) (but : List Int) : List AV := x.cells ++ [trP (Ts x but x.boys 0), .mapv ((Ks x but x.boys 0).map pairV) (Ps x but x.boys 0)]
def head82 (boy week note : Int) (l : List Vo) (k : Int) : Env := [.any, I boy, I week, I note, .box 0 0, .any, .any, .any, .box 1 0, .box 2 0] ++ List.replicate 14 .any ++ [rowT l, I l.length, I k] ++ List.replicate 15 .any
def st82 (x : Book) (but : List Int) (so of : Int) : St := { boxes := [bookC x but, [I 0, I 0], [I so, I of]] }
def nCan (loss : Int) (week note : Int) : List Vo → Int
  | [] => 0
  | v :: l => (if canW loss v week note then 1 else 0) + nCan loss week note l
theorem nCan_le (loss week note : Int) : ∀ l, 0 ≤ nCan loss week note l ∧ nCan loss week note l ≤ l.length
  | [] => by simp [nCan]
  | v :: l => by
    have := nCan_le loss week note l
    simp only [nCan, List.length_cons]
    split <;> omega
theorem loop82 (x : Book) (hx : x.Ok) (but : List Int) (boy : Nat) (b : Boy) (hb : x.boys[boy]? = some b) (week note of : Int) (l0 : List Vo) (hl : l0.length < 2 ^ 47) : ∀ (l : List Vo) (k : Nat) (so : Int), k ≤ l0.length → l0.drop k = l → 0 ≤ so → so ≤ k →
    ∃ e, run Cv 82 (.loop keep82_0 body82_0) (head82 boy week note l0 k) (st82 x but so of) = some (.ex 0, e, st82 x but (so + nCan b.loss week note l) of) ∧ e[9]? = some (.box 2 0) ∧ e[8]? = some (.box 1 0) ∧ e.length = 42
  | [], k, so, hk, h, hs, hs' => by
    have : k = l0.length := Nat.le_antisymm hk (by simpa using h)
    subst this
    rw [run_loop]
    simp [body82_0, keep82_0, head82, nCan]
  | v :: l, k, so, hk, h, hs, hs' => by
    have hb' : l0[k]? = some v := by
      have : (l0.drop k)[0]? = some v := by rw [h]; rfl
      simpa using this
    have hlt : k < l0.length := (List.getElem?_eq_some_iff.1 hb').1
    have hbb : l0[k] = v := (List.getElem?_eq_some_iff.1 hb').2
    have hw : IntKind.wrap .i64 ((k : Int) + 1) = k + 1 := wrap_small (by omega) (by omega)
    have hw' : IntKind.wrap .i64 (so + 1) = so + 1 := wrap_small (by omega) (by omega)
    have hne : l0 ≠ [] := fun h => by rw [h] at hlt; simp at hlt
    have hrow : rowT l0 = .sl 5 (l0.map Vo.av) .no := by rw [rowT, if_neg hne]; rfl
    have hcan := can_call x hx (trP (Ts x but x.boys 0)) (.mapv ((Ks x but x.boys 0).map pairV) (Ps x but x.boys 0)) boy b hb v week note (fun σ n => trP_pur _ _ _) (fun _ _ => rfl) (trP_cell _) rfl
    simp only [Book.cells, List.cons_append, List.nil_append, Vo.av, Vo.cells] at hcan
    have htu : ∀ a b c d n, under a b c d (n + 1) (trP (Ts x but x.boys 0)) = true := fun a b c d n => by simp only [trP]; split <;> rfl
    have key : run Cv 82 (.loop keep82_0 body82_0) (head82 boy week note l0 k) (st82 x but so of) = run Cv 82 (.loop keep82_0 body82_0) (head82 boy week note l0 (k + 1)) (st82 x but (so + if canW b.loss v week note then 1 else 0) of) := by
      rw [run_loop]
      generalize MC.loop keep82_0 body82_0 = L
      cases hc : canW b.loss v week note with
      | true =>
        rw [hc] at hcan
        simp [body82_0, keep82_0, head82, st82, bookC, Book.cells, hrow, hlt, hbb, hw, hw', Vo.av, Vo.cells, trP_pur, hcan, under, htu]
      | false =>
        rw [hc] at hcan
        simp [body82_0, keep82_0, head82, st82, bookC, Book.cells, hrow, hlt, hbb, hw, hw', Vo.av, Vo.cells, trP_pur, hcan, under, htu]
    rw [key]
    have := loop82 x hx but boy b hb week note of l0 hl l (k + 1) (so + if canW b.loss v week note then 1 else 0) hlt (by rw [← List.drop_drop, h]; rfl) (by split <;> omega) (by split <;> omega)
    simpa [nCan, Int.add_assoc] using this
theorem sings_call (x : Book) (hx : x.Ok) (hc : checkOk x = true) (but : List Int) (hbl : but.length < 2 ^ 47) (boy w : Nat) (b : Boy) (hb : x.boys[boy]? = some b) (hw : (w : Int) < x.weeks) (note : Int) :
    call Cv 82 [openedV x but, I boy, I w, I note] = some (.agg [I (nCan b.loss w note (wholeOf x boy b but w)), I (voicesOf x boy b but).length]) := by
  have hlt : boy < x.boys.length := (List.getElem?_eq_some_iff.1 hb).1
  have hvl := voices_short hx hc hb but hbl
  have hfl := filter_short x boy b but w
  have hT : (Ts x but x.boys 0)[boy]? = some (voicesOf x boy b but) := by rw [Ts_get, hb]; simp
  have hTl : boy < (Ts x but x.boys 0).length := by rw [Ts_length]; exact hlt
  have hTg : (Ts x but x.boys 0)[boy] = voicesOf x boy b but := by
    rw [List.getElem?_eq_getElem hTl] at hT; simpa using hT
  have hT0 : Ts x but x.boys 0 ≠ [] := fun h => by rw [h] at hTl; simp at hTl
  have hlt' : (boy : Int) < (Ts x but x.boys 0).length := by omega
  have hl := look x but boy w b hb hw
  have hcells := trP_cell (Ts x but x.boys 0)
  have htr : trP (Ts x but x.boys 0) = .sl 1 ((Ts x but x.boys 0).map rowT) .no := if_neg hT0
  obtain ⟨e, h1, h2, h3, h4⟩ := loop82 x hx but boy b hb w note (voicesOf x boy b but).length (wholeOf x boy b but w) (by omega) (wholeOf x boy b but w) 0 0 (Nat.zero_le _) rfl (by omega) (by omega)
  have hset : ∀ v, (e.set 41 v)[41]? = some v := fun v => List.getElem?_set_self (by omega)
  simp only [st82, bookC, Book.cells, List.cons_append, List.nil_append, htr] at h1
  rw [call_def comp82]
  simp [code82, openedV, Book.cells, htr, hlt', hTl, hTg, rowT_cells, rowT_len, fillA, hl]
  rw [run_loop_mask]
  rw [show mask keep82_0 _ = head82 boy w note (wholeOf x boy b but w) (0 : Nat) from by simp [keep82_0, head82]]
  rw [h1]
  simp [h2, h3, hset]
def isNoteB (n : Int) : Bool := decide (0 ≤ n) && decide (n ≤ 40)
def singsN (x : Book) (boy week note : Int) : Int := countV (nCan (lossB x boy) week note (wholeB x boy week)) ((Ts x [] x.boys 0).getD boy.toNat []).length
theorem Sings_call (x : Book) (hx : x.Ok) (boy week note : Int) : call Cv 26 [x.av, I boy, I week, I note] =
    some (.tup [I (if askE x (isBoyB x boy && isWeekB x week && isNoteB note) = 0 then singsN x boy week note else 0), I (askE x (isBoyB x boy && isWeekB x week && isNoteB note))]) := by
  have h1 := asked_call x hx (isBoyB x boy && isWeekB x week && isNoteB note)
  have h2 := isBoy_call x hx boy
  have h3 := isWeek_call x week
  have h4 := isNote_call note
  simp only [Book.av, Book.cells] at h1 h2 h3
  rw [show (decide (0 ≤ boy) && decide (boy < x.boys.length)) = isBoyB x boy from rfl] at h2
  rw [show (decide (0 ≤ week) && decide (week ≤ IntKind.wrap .i64 (x.weeks - 1))) = isWeekB x week from rfl] at h3
  rw [show (decide (0 ≤ note) && decide (note ≤ 40)) = isNoteB note from rfl] at h4
  rcases ask_cases x (isBoyB x boy && isWeekB x week && isNoteB note) with ⟨h0, hc, his, hf, hB⟩ | ⟨h0, B, hB1, hB2, hB3⟩
  · rw [hB] at h1
    rw [Bool.and_eq_true, Bool.and_eq_true] at his
    obtain ⟨⟨his, hiw⟩, hin⟩ := his
    rw [his, hiw, hin, Bool.and_self, Bool.and_self] at h1 h0
    have g := good_of hc
    have his' := his
    have hiw' := hiw
    simp only [isBoyB, Bool.and_eq_true, decide_eq_true_eq] at his'
    simp only [isWeekB, Bool.and_eq_true, decide_eq_true_eq] at hiw'
    rw [wrap_small (by have := g.w1; omega) (by have := g.w6; omega)] at hiw'
    obtain ⟨n, rfl⟩ := Int.eq_ofNat_of_zero_le his'.1
    obtain ⟨w, rfl⟩ := Int.eq_ofNat_of_zero_le hiw'.1
    have hlt : n < x.boys.length := by omega
    have hb : x.boys[n]? = some x.boys[n] := List.getElem?_eq_getElem hlt
    have hT : (Ts x [] x.boys 0)[n]? = some (voicesOf x n x.boys[n] []) := by rw [Ts_get, hb]; simp
    have hs := sings_call x hx hc [] (by simp) n w x.boys[n] hb (by omega) note
    have hsN : singsN x n w note = countV (nCan x.boys[n].loss w note (wholeOf x n x.boys[n] [] w)) (voicesOf x n x.boys[n] []).length := by
      simp [singsN, lossB, wholeB, hlt, hT]
    have hcap := trP_pur (Ts x [] x.boys 0)
    simp only [openedV, Book.cells, List.cons_append, List.nil_append] at h1 hs
    rw [call_def comp26]
    simp [code26, Book.av, Book.cells, h1, h2, h3, h4, his, hiw, hin, h0, trP_cell, hcap, hs, count_call, hsN]
  · rw [hB1] at h1
    have hB4 := eq_true hB3
    have hset : setAt [.nils, I 0, .nils, .nils, .nilm] 0 B = B := by
      simp [setAt, hB2]
    cases hi : isBoyB x boy with
    | true =>
      cases hj : isWeekB x week with
      | true =>
        rw [hi, hj] at h1 h0
        simp only [Bool.true_and] at h1 h0
        rw [hi] at h2
        rw [hj] at h3
        rw [call_def comp26]
        simp [-setAt, code26, Book.av, Book.cells, h1, h2, h3, h4, h0, hB2, hB4, hset]
      | false =>
        rw [hi, hj] at h1 h0
        simp only [Bool.true_and, Bool.and_false, Bool.false_and] at h1 h0
        rw [hi] at h2
        rw [hj] at h3
        rw [call_def comp26]
        simp [-setAt, code26, Book.av, Book.cells, h1, h2, h3, h4, h0, hB2, hB4, hset]
    | false =>
      rw [hi] at h1 h2 h0
      simp only [Bool.false_and] at h1 h0
      rw [call_def comp26]
      simp [-setAt, code26, Book.av, Book.cells, h1, h2, h3, h4, h0, hB2, hB4, hset]
end Go.Ai

set_option maxRecDepth 100000
set_option linter.unusedSimpArgs false
set_option linter.unusedVariables false
namespace Go.Ai
/-- A function of a boy. -/
structure BoyFn (n : Nat) (g : Nat) (cap : List AV) (p : Nat → Bool) : Prop where
  imp : Cv.imp g = false
  pur : ∀ σ n, purAll (pur σ (n + 4)) cap = some (cap, false)
  call : ∀ k, k < n → call Cv g ([I k] ++ cap) = some (.bool (p k))
  under : ∀ a b c d n, cap.all (under a b c d (n + 4)) = true
theorem boy_callA {n g : Nat} {cap : List AV} {p : Nat → Bool} (h : BoyFn n g cap p) (d : Bool) (k : Nat) (hk : k < n) (σ : St) : callA Cv (run Cv) d (.fn (.func g) [] cap) [I k] σ = some (.bool (p k), σ) := by
  have h1 := h.call k hk
  have hp : purAll (Ai.pur σ depth) ([] ++ [I k] ++ cap) = some ([I k] ++ cap, false) := by
    have := h.pur σ 8
    have h2 : purAll (Ai.pur σ depth) [I k] = some ([I k], false) := by simp [purAll, Ai.pur, depth]
    exact purAll_app _ _ _ _ _ h2 this
  rw [call_none h.imp, hp]
  simp only [pureCallA, pureA_call, h1, backA]
  rfl
def outV (out : List Int) : AV := if out = [] then .nils else .sl 1 (ints out) (.chain 0)
def outCh (out : List Int) : List (Nat × Nat) := if out = [] then [] else [(out.length, 1)]
def fullV (out : List Int) : AV := if out = [] then .nils else .sl 1 (ints out) .full
def st86 (bc : List AV) (out : List Int) : St := { boxes := [bc], chains := outCh out }
def head86 (fv : AV) (out : List Int) (N k : Int) : Env := [.any, fv, .any, .any, .any, outV out, .any, .any, .any, .any, I N, I k] ++ List.replicate 16 .any
def sel (p : Nat → Bool) : Nat → Nat → List Int
  | _, 0 => []
  | k, n + 1 => (if p k then [(k : Int)] else []) ++ sel p (k + 1) n
theorem loop86 {N g : Nat} {cap : List AV} {p : Nat → Bool} (hf : BoyFn N g cap p) (hN : N ≤ 1000) (bc : List AV) (hbc : ∀ a b c d n, bc.all (under a b c d (n + 2)) = true) : ∀ (n k : Nat) (out : List Int), k + n = N → out.length ≤ k →
    run Cv 86 (.loop keep86_0 body86_0) (head86 (.fn (.func g) [] cap) out N k) (st86 bc out) = some (.ex 0, (head86 (.fn (.func g) [] cap) (out ++ sel p k n) N N).set 12 (.bool false), st86 bc (out ++ sel p k n))
  | 0, k, out, hk, ho => by
    have : k = N := by omega
    subst this
    rw [run_loop]
    simp [body86_0, keep86_0, head86, sel]
  | n + 1, k, out, hk, ho => by
    have hlt : k < N := by omega
    have hw : IntKind.wrap .i64 ((k : Int) + 1) = k + 1 := wrap_small (by omega) (by omega)
    have hfc := boy_callA hf false k hlt
    have hu : ∀ a b c d, (∀ x ∈ cap, under a b c d 5 x = true) := fun a b c d => List.all_eq_true.1 (hf.under a b c d 1)
    have hbu : ∀ a b c d, (∀ x ∈ bc, under a b c d 6 x = true) := fun a b c d => List.all_eq_true.1 (hbc a b c d 4)
    have hbytes : (out.length + 1) * 8 ≤ 140737488355328 := by omega
    have key : run Cv 86 (.loop keep86_0 body86_0) (head86 (.fn (.func g) [] cap) out N k) (st86 bc out) = run Cv 86 (.loop keep86_0 body86_0) (head86 (.fn (.func g) [] cap) (out ++ if p k then [(k : Int)] else []) N (k + 1)) (st86 bc (out ++ if p k then [(k : Int)] else [])) := by
      rw [run_loop]
      generalize MC.loop keep86_0 body86_0 = L
      cases hp : p k with
      | false =>
        rw [hp] at hfc
        by_cases ho' : out = []
        · simp [body86_0, keep86_0, head86, st86, outV, outCh, hlt, hfc, hw, under, eq_true (hu _ _ _ _), eq_true (hbu _ _ _ _), ho']
          try simp only [eq_true (hu _ _ _ _), eq_true (hbu _ _ _ _), and_self, if_true]
        · simp [body86_0, keep86_0, head86, st86, outV, outCh, hlt, hfc, hw, under, ho']
          try simp only [eq_true (hu _ _ _ _), eq_true (hbu _ _ _ _), and_self, if_true]
      | true =>
        rw [hp] at hfc
        by_cases ho' : out = []
        · simp [body86_0, keep86_0, head86, st86, outV, outCh, hlt, hfc, hw, under, ho', fillE, AV.isAgg, appA, elemsA, grown, ints]
          try simp only [eq_true (hu _ _ _ _), eq_true (hbu _ _ _ _), and_self, if_true]
        · simp [body86_0, keep86_0, head86, st86, outV, outCh, hlt, hfc, hw, under, ho', fillE, AV.isAgg, appA, elemsA, grown, ints, hbytes]
          try simp only [eq_true (hu _ _ _ _), eq_true (hbu _ _ _ _), and_self, if_true]
    rw [key]
    have := loop86 hf hN bc hbc n (k + 1) (out ++ if p k then [(k : Int)] else []) (by omega) (by split <;> simp <;> omega)
    simpa [sel, List.append_assoc] using this
end Go.Ai

set_option maxRecDepth 100000
set_option linter.unusedSimpArgs false
set_option linter.unusedVariables false
namespace Go.Ai
theorem sel_len (p : Nat → Bool) : ∀ n k, (sel p k n).length ≤ n
  | 0, _ => by simp [sel]
  | n + 1, k => by
    have := sel_len p n (k + 1)
    simp only [sel, List.length_append]
    split <;> simp <;> omega
theorem bookC_under (x : Book) (but : List Int) (a b c d n : Nat) : (bookC x but).all (under a b c d (n + 2)) = true := by
  have : under a b c d (n + 2) (trP (Ts x but x.boys 0)) = true := by simp only [trP]; split <;> rfl
  simp [bookC, Book.cells, under, this]
theorem all_call (x : Book) (hx : x.Ok) (hN : x.boys.length ≤ 1000) (but : List Int) {g : Nat} {cap : List AV} {p : Nat → Bool} (hf : BoyFn x.boys.length g cap p) :
    call Cv 86 [openedV x but, .fn (.func g) [] cap] = some (fullV (sel p 0 x.boys.length)) := by
  have h1 := loop86 hf hN (bookC x but) (bookC_under x but) x.boys.length 0 [] (by omega) (by simp)
  simp only [st86, bookC, Book.cells, List.cons_append, List.nil_append, outCh, if_true] at h1
  have hcells := trP_cell (Ts x but x.boys 0)
  rw [call_def comp86]
  simp [code86, openedV, Book.cells, hcells, hx.lenB]
  rw [run_loop_mask]
  rw [show mask keep86_0 _ = head86 (.fn (.func g) [] cap) [] x.boys.length (0 : Nat) from by simp [keep86_0, head86, outV]]
  rw [h1]
  by_cases ho : sel p 0 x.boys.length = []
  · simp [head86, ho, outV, slcA, boundA, fullV]
  · simp [head86, ho, outV, slcA, boundA, fullV, ints]
    rw [List.take_of_length_le (by simp)]
theorem fullV_pur (l : List Int) (σ : St) (n : Nat) : pur σ (n + 1) (fullV l) = some (fullV l, false) := by simp only [fullV]; split <;> rfl

def surelyP (x : Book) (week note : Int) (k : Nat) : Bool := match x.boys[k]? with
  | some b => nCan b.loss week note (wholeOf x k b [] week) == ((voicesOf x k b []).length : Int)
  | none => false
theorem surely_fn (x : Book) (hx : x.Ok) (hc : checkOk x = true) (w : Nat) (hw : (w : Int) < x.weeks) (note : Int) :
    BoyFn x.boys.length 87 [.rp (bookC x []) 0, .rp [I w] 0, .rp [I note] 0] (surelyP x w note) where
  imp := rfl
  pur σ n := by simp [purAll, pur]
  call k hk := by
    have hb : x.boys[k]? = some x.boys[k] := List.getElem?_eq_getElem hk
    have h := sings_call x hx hc [] (by simp) k w x.boys[k] hb hw note
    have hcap := trP_pur (Ts x [] x.boys 0)
    have h2 := each_call (nCan x.boys[k].loss w note (wholeOf x k x.boys[k] [] w)) (voicesOf x k x.boys[k] []).length
    simp only [openedV, Book.cells, List.cons_append, List.nil_append] at h
    rw [call_def comp87]
    simp [code87, bookC, Book.cells, hcap, h, h2, surelyP, hk]
  under a b c d n := by simp [under]
def brokenP (x : Book) (week : Int) (k : Nat) : Bool := match x.boys[k]? with
  | some b => decide (wholeOf x k b [] week = [])
  | none => false
theorem must_fn (x : Book) (hx : x.Ok) (hc : checkOk x = true) (w : Nat) (hw : (w : Int) < x.weeks) : BoyFn x.boys.length 88 [.rp (bookC x []) 0, .rp [I w] 0] (brokenP x w) where
  imp := rfl
  pur σ n := by simp [purAll, pur]
  call k hk := by
    have hb : x.boys[k]? = some x.boys[k] := List.getElem?_eq_getElem hk
    have hl := look x [] k w x.boys[k] hb hw
    have he : ∀ l : List Vo, ((l.length : Int) == 0) = decide (l = []) := fun l => by
      cases l with
      | nil => rfl
      | cons a l => simp; omega
    rw [call_def comp88]
    simp [code88, bookC, Book.cells, fillA, hl, rowT_len, brokenP, hk, he]
  under a b c d n := by simp [under]
theorem Surely_call (x : Book) (hx : x.Ok) (week note : Int) : call Cv 28 [x.av, I week, I note] =
    some (.tup [if askE x (isWeekB x week && isNoteB note) = 0 then fullV (sel (surelyP x week note) 0 x.boys.length) else .nils, I (askE x (isWeekB x week && isNoteB note))]) := by
  have h1 := asked_call x hx (isWeekB x week && isNoteB note)
  have h3 := isWeek_call x week
  have h4 := isNote_call note
  simp only [Book.av, Book.cells] at h1 h3
  rw [show (decide (0 ≤ week) && decide (week ≤ IntKind.wrap .i64 (x.weeks - 1))) = isWeekB x week from rfl] at h3
  rw [show (decide (0 ≤ note) && decide (note ≤ 40)) = isNoteB note from rfl] at h4
  rcases ask_cases x (isWeekB x week && isNoteB note) with ⟨h0, hc, his, hf, hB⟩ | ⟨h0, B, hB1, hB2, hB3⟩
  · rw [hB] at h1
    rw [Bool.and_eq_true] at his
    obtain ⟨hiw, hin⟩ := his
    rw [hiw, hin, Bool.and_self] at h1 h0
    have g := good_of hc
    have hiw' := hiw
    simp only [isWeekB, Bool.and_eq_true, decide_eq_true_eq] at hiw'
    rw [wrap_small (by have := g.w1; omega) (by have := g.w6; omega)] at hiw'
    obtain ⟨w, rfl⟩ := Int.eq_ofNat_of_zero_le hiw'.1
    have hfn := surely_fn x hx hc w (by omega) note
    have hs := all_call x hx (by have := g.bl; omega) [] hfn
    have hcap := trP_pur (Ts x [] x.boys 0)
    simp only [bookC, openedV, Book.cells, List.cons_append, List.nil_append] at h1 hs
    rw [call_def comp28]
    simp [code28, Book.av, Book.cells, h1, h3, h4, hiw, hin, h0, trP_cell, hcap, hs]
    simp [fo, fullV]
    split <;> simp [fullV_pur, fullV, *]
  · rw [hB1] at h1
    have hB4 := eq_true hB3
    have hset : setAt [.nils, I 0, .nils, .nils, .nilm] 0 B = B := by
      simp [setAt, hB2]
    cases hj : isWeekB x week with
    | true =>
      rw [hj] at h1 h0 h3
      simp only [Bool.true_and] at h1 h0
      rw [call_def comp28]
      simp [-setAt, code28, Book.av, Book.cells, h1, h3, h4, h0, hB2, hB4, hset]
    | false =>
      rw [hj] at h1 h0 h3
      simp only [Bool.false_and] at h1 h0
      rw [call_def comp28]
      simp [-setAt, code28, Book.av, Book.cells, h1, h3, h4, h0, hB2, hB4, hset]
theorem Must_call (x : Book) (hx : x.Ok) (week : Int) : call Cv 31 [x.av, I week] =
    some (.tup [if askE x (isWeekB x week) = 0 then fullV (sel (brokenP x week) 0 x.boys.length) else .nils, I (askE x (isWeekB x week))]) := by
  have h1 := asked_call x hx (isWeekB x week)
  have h3 := isWeek_call x week
  simp only [Book.av, Book.cells] at h1 h3
  rw [show (decide (0 ≤ week) && decide (week ≤ IntKind.wrap .i64 (x.weeks - 1))) = isWeekB x week from rfl] at h3
  rcases ask_cases x (isWeekB x week) with ⟨h0, hc, hiw, hf, hB⟩ | ⟨h0, B, hB1, hB2, hB3⟩
  · rw [hB] at h1
    rw [hiw] at h1 h0
    have g := good_of hc
    have hiw' := hiw
    simp only [isWeekB, Bool.and_eq_true, decide_eq_true_eq] at hiw'
    rw [wrap_small (by have := g.w1; omega) (by have := g.w6; omega)] at hiw'
    obtain ⟨w, rfl⟩ := Int.eq_ofNat_of_zero_le hiw'.1
    have hfn := must_fn x hx hc w (by omega)
    have hs := all_call x hx (by have := g.bl; omega) [] hfn
    have hcap := trP_pur (Ts x [] x.boys 0)
    simp only [bookC, openedV, Book.cells, List.cons_append, List.nil_append] at h1 hs
    rw [call_def comp31]
    simp [code31, Book.av, Book.cells, h1, h3, hiw, h0, trP_cell, hcap, hs]
    simp [fo, fullV]
    split <;> simp [fullV_pur, fullV, *]
  · rw [hB1] at h1
    have hB4 := eq_true hB3
    have hset : setAt [.nils, I 0, .nils, .nils, .nilm] 0 B = B := by
      simp [setAt, hB2]
    rw [call_def comp31]
    simp [-setAt, code31, Book.av, Book.cells, h1, h3, h0, hB2, hB4, hset]
end Go.Ai

set_option maxRecDepth 100000
set_option linter.unusedSimpArgs false
set_option linter.unusedVariables false
namespace Go.Ai
def head33i (boy week : Int) (heir note N : Int) : Env := [.any, I boy, I week, .any, .any, .any, .any, .box 1 0, .any, .any, .box 2 0, .any, I heir, I note] ++ List.replicate 22 .any ++ [I N, I heir] ++ List.replicate 24 .any
def head33o (boy week : Int) (k N : Int) : Env := [.any, I boy, I week, .any, .any, .any, .any, .box 1 0, .any, .any, .box 2 0, .any, .any, .any] ++ List.replicate 22 .any ++ [I N, I k] ++ List.replicate 24 .any
def st33 (x : Book) (s : Span) : St := { boxes := [x.cells, [I s.low, I s.high], bookC x []] }
/-- Are all of some notes surely sung? -/
def allNotes (x : Book) (week : Int) (heir : Nat) : Nat → Int → Bool
  | 0, _ => true
  | n + 1, note => surelyP x week note heir && allNotes x week heir n (note + 1)
theorem cut_self (σ : St) (e : Env) (h : σ.ro ≤ σ.boxes.length) (h' : σ.mro ≤ σ.maps.length) : cut σ σ e = σ := by
  have : ∀ nc, nc = σ.chains.length → cutAt nc σ σ = σ := by
    intro nc hn
    subst hn
    cases σ
    simp only [cutAt, List.take_length]
    simp only at h h'
    rw [Nat.min_eq_left h, Nat.min_eq_left h']
  unfold cut
  split
  · exact this _ rfl
  · rfl
theorem loop33i (x : Book) (hx : x.Ok) (hc : checkOk x = true) (s : Span) (hs : s.high ≤ 40) (boy : Int) (w : Nat) (hw : (w : Int) < x.weeks) (heir : Nat) (hh : heir < x.boys.length) (N : Int) : ∀ (n : Nat) (note : Int), note + n = s.high + 1 → 0 ≤ note →
    ∃ e, run Cv 33 (.loop keep33_0 body33_0) (head33i boy w heir note N) (st33 x s) = some (if allNotes x w heir n note then .ex 2 else .ex 1, e, st33 x s) ∧ e[12]? = some (I heir) ∧ e[37]? = some (I heir) ∧ e.length = 62 ∧ ∀ v v', mask keep33_1 ((e.set 61 v).set 37 v') = (head33o boy w 0 N).set 37 v'
  | 0, note, hn, h0 => by
    have h1 : ¬ note ≤ s.high := by omega
    rw [run_loop]
    simp [body33_0, keep33_0, head33i, st33, h1, allNotes, keep33_1, head33o]
  | n + 1, note, hn, h0 => by
    have h1 : note ≤ s.high := by omega
    have hb : x.boys[heir]? = some x.boys[heir] := List.getElem?_eq_getElem hh
    have h := sings_call x hx hc [] (by simp) heir w x.boys[heir] hb hw note
    have hcap := trP_pur (Ts x [] x.boys 0)
    have h2 := each_call (nCan x.boys[heir].loss w note (wholeOf x heir x.boys[heir] [] w)) (voicesOf x heir x.boys[heir] []).length
    have hp : surelyP x w note heir = (nCan x.boys[heir].loss w note (wholeOf x heir x.boys[heir] [] w) == ((voicesOf x heir x.boys[heir] []).length : Int)) := by simp [surelyP, hh]
    have hwr : IntKind.wrap .i64 (note + 1) = note + 1 := wrap_small (by omega) (by omega)
    rw [← hp] at h2
    simp only [openedV, Book.cells, List.cons_append, List.nil_append] at h
    have htu : ∀ a b c d n, under a b c d (n + 1) (trP (Ts x [] x.boys 0)) = true := fun a b c d n => by simp only [trP]; split <;> rfl
    cases hps : surelyP x w note heir with
    | true =>
      rw [hps] at h2
      have key : run Cv 33 (.loop keep33_0 body33_0) (head33i boy w heir note N) (st33 x s) = run Cv 33 (.loop keep33_0 body33_0) (head33i boy w heir (note + 1) N) (st33 x s) := by
        rw [run_loop]
        generalize MC.loop keep33_0 body33_0 = L
        simp [body33_0, keep33_0, head33i, st33, h1, bookC, Book.cells, hcap, h, h2, hwr, under, htu]
      rw [key]
      have := loop33i x hx hc s hs boy w hw heir hh N n (note + 1) (by omega) (by omega)
      simpa [allNotes, hps] using this
    | false =>
      rw [hps] at h2
      rw [run_loop]
      simp [body33_0, keep33_0, head33i, st33, h1, bookC, Book.cells, hcap, h, h2, allNotes, hps, keep33_1, head33o]
/-- The first other boy of whom something is so. -/
def heirFrom (q : Nat → Bool) (boy : Int) : Nat → Nat → Option Nat
  | _, 0 => none
  | k, n + 1 => if (k : Int) ≠ boy ∧ q k = true then some k else heirFrom q boy (k + 1) n
theorem loop33o (x : Book) (hx : x.Ok) (hc : checkOk x = true) (s : Span) (h0 : 0 ≤ s.low) (hsp : s.low ≤ s.high) (hs : s.high ≤ 40) (boy : Int) (w : Nat) (hw : (w : Int) < x.weeks) : ∀ (n k : Nat), k + n = x.boys.length →
    ∃ e c σ, run Cv 33 (.loop keep33_1 body33_1) (head33o boy w k x.boys.length) (st33 x s) = some (c, e, σ) ∧ e.length = 62 ∧
      ((c = .ex 0 ∧ heirFrom (fun k => allNotes x w k (s.high + 1 - s.low).toNat s.low) boy k n = none) ∨ (c = .rt ∧ ∃ h, heirFrom (fun k => allNotes x w k (s.high + 1 - s.low).toNat s.low) boy k n = some h ∧ e[8]? = some (I h) ∧ e[9]? = some (I 0)))
  | 0, k, hk => by
    have : k = x.boys.length := by omega
    subst this
    have key : ∃ e σ, run Cv 33 (.loop keep33_1 body33_1) (head33o boy w x.boys.length x.boys.length) (st33 x s) = some (.ex 0, e, σ) ∧ e.length = 62 := by
      rw [run_loop]
      simp [body33_1, keep33_1, head33o]
    obtain ⟨e, σ, h1, h2⟩ := key
    exact ⟨e, _, σ, h1, h2, .inl ⟨rfl, rfl⟩⟩
  | n + 1, k, hk => by
    have hlt : k < x.boys.length := by omega
    have hbl := hx.blen
    have hwr : IntKind.wrap .i64 ((k : Int) + 1) = k + 1 := wrap_small (by omega) (by omega)
    have htu : ∀ a b c d n, under a b c d (n + 1) (trP (Ts x [] x.boys 0)) = true := fun a b c d n => by simp only [trP]; split <;> rfl
    have ih := loop33o x hx hc s h0 hsp hs boy w hw n (k + 1) (by omega)
    by_cases hkb : (k : Int) = boy
    · subst hkb
      have key : run Cv 33 (.loop keep33_1 body33_1) (head33o k w k x.boys.length) (st33 x s) = run Cv 33 (.loop keep33_1 body33_1) (head33o k w (k + 1) x.boys.length) (st33 x s) := by
        rw [run_loop]
        generalize MC.loop keep33_1 body33_1 = L
        simp [body33_1, keep33_1, head33o, st33, hlt, hwr, under, bookC, Book.cells, htu]
      rw [key]
      simpa [heirFrom] using ih
    · obtain ⟨e, h1, h2, h3, h4, h5⟩ := loop33i x hx hc s hs boy w hw k hlt x.boys.length (s.high + 1 - s.low).toNat s.low (by omega) h0
      cases hall : allNotes x w k (s.high + 1 - s.low).toNat s.low with
      | true =>
        rw [hall] at h1
        have key : ∃ e σ, run Cv 33 (.loop keep33_1 body33_1) (head33o boy w k x.boys.length) (st33 x s) = some (.rt, e, σ) ∧ e.length = 62 ∧ e[8]? = some (I k) ∧ e[9]? = some (I 0) := by
          rw [run_loop]
          simp [body33_1, keep33_1, head33o, hlt, hkb]
          simp [st33]
          rw [run_loop_mask]
          rw [show mask keep33_0 _ = head33i boy w k s.low x.boys.length from by simp [keep33_0, head33i]]
          simp only [st33] at h1
          rw [h1]
          simp [h2, h4]
          exact (List.getElem?_eq_some_iff.1 h2).2
        obtain ⟨e, σ, h1, h2, h3, h4⟩ := key
        exact ⟨e, _, σ, h1, h2, .inr ⟨rfl, k, by simp [heirFrom, hkb, hall], h3, h4⟩⟩
      | false =>
        rw [hall] at h1
        have key : run Cv 33 (.loop keep33_1 body33_1) (head33o boy w k x.boys.length) (st33 x s) = run Cv 33 (.loop keep33_1 body33_1) (head33o boy w (k + 1) x.boys.length) (st33 x s) := by
          rw [run_loop, show mask keep33_1 (head33o boy w k x.boys.length) = head33o boy w k x.boys.length from by simp [keep33_1, head33o]]
          generalize MC.loop keep33_1 body33_1 = L
          simp only [body33_1]
          simp [-mask, -cut, head33o, hlt, hkb]
          simp [-mask, -cut, st33]
          rw [run_loop_mask]
          rw [show mask keep33_0 _ = head33i boy w k s.low x.boys.length from by simp [keep33_0, head33i]]
          simp only [st33] at h1
          rw [h1]
          have h6 : ∀ v v' : AV, ((e.set 61 v).set 37 v')[37]? = some v' := fun v v' => List.getElem?_set_self (by rw [List.length_set]; omega)
          have h7 : ∀ v : AV, (e.set 61 v)[61]? = some v := fun v => List.getElem?_set_self (by omega)
          simp [-mask, -cut, h3, hwr, h5, h6, h7]
          rw [cut_self _ _ (by simp) (by simp)]
          simp [head33o]
        rw [key]
        simpa [heirFrom, hkb, hall] using ih

def heirE (x : Book) (boy week : Int) (s : Span) : Int :=
  if askE x (isBoyB x boy && isWeekB x week && spanOk s 40 40) = 0 then (match heirFrom (fun k => allNotes x week k (s.high + 1 - s.low).toNat s.low) boy 0 x.boys.length with | some _ => 0 | none => 4) else askE x (isBoyB x boy && isWeekB x week && spanOk s 40 40)
def heirV (x : Book) (boy week : Int) (s : Span) : Int :=
  if askE x (isBoyB x boy && isWeekB x week && spanOk s 40 40) = 0 then (match heirFrom (fun k => allNotes x week k (s.high + 1 - s.low).toNat s.low) boy 0 x.boys.length with | some h => (h : Int) | none => 0) else 0
theorem Heir_call (x : Book) (hx : x.Ok) (boy week : Int) (s : Span) : call Cv 33 [x.av, I boy, I week, s.av] = some (.tup [I (heirV x boy week s), I (heirE x boy week s)]) := by
  have h1 := asked_call x hx (isBoyB x boy && isWeekB x week && spanOk s 40 40)
  have h2 := isBoy_call x hx boy
  have h3 := isWeek_call x week
  have h4 := isSpan_call s 40 40
  simp only [Book.av, Book.cells] at h1 h2 h3
  rw [show (decide (0 ≤ boy) && decide (boy < x.boys.length)) = isBoyB x boy from rfl] at h2
  rw [show (decide (0 ≤ week) && decide (week ≤ IntKind.wrap .i64 (x.weeks - 1))) = isWeekB x week from rfl] at h3
  rcases ask_cases x (isBoyB x boy && isWeekB x week && spanOk s 40 40) with ⟨h0, hc, his, hf, hB⟩ | ⟨h0, B, hB1, hB2, hB3⟩
  · rw [hB] at h1
    rw [Bool.and_eq_true, Bool.and_eq_true] at his
    obtain ⟨⟨his, hiw⟩, hin⟩ := his
    rw [his, hiw, hin, Bool.and_self, Bool.and_self] at h1 h0
    have g := good_of hc
    have hiw' := hiw
    have hin' := hin
    simp only [isWeekB, Bool.and_eq_true, decide_eq_true_eq] at hiw'
    rw [wrap_small (by have := g.w1; omega) (by have := g.w6; omega)] at hiw'
    simp only [spanOk, Bool.and_eq_true, decide_eq_true_eq] at hin'
    obtain ⟨w, rfl⟩ := Int.eq_ofNat_of_zero_le hiw'.1
    obtain ⟨e, c, σ, g1, g2, g3⟩ := loop33o x hx hc s hin'.1.1.1 hin'.1.1.2 hin'.1.2 boy w (by omega) x.boys.length 0 (by omega)
    simp only [st33, bookC, Book.cells, List.cons_append, List.nil_append] at g1
    simp only [openedV, Book.cells, List.cons_append, List.nil_append] at h1
    rw [call_def comp33]
    simp [code33, Book.av, Book.cells, Span.av, h1, h2, h3, h4, his, hiw, hin, h0, trP_cell, hx.lenB]
    rw [run_loop_mask]
    rw [show mask keep33_1 _ = head33o boy w (0 : Nat) x.boys.length from by simp [keep33_1, head33o]]
    rw [g1]
    rcases g3 with ⟨rfl, g3⟩ | ⟨rfl, h, g3, g4, g5⟩
    · simp [g2, g3, heirE, heirV, his, hiw, hin, h0]
    · simp [g4, g5, g3, heirE, heirV, his, hiw, hin, h0]
  · rw [hB1] at h1
    have hB4 := eq_true hB3
    have hset : setAt [.nils, I 0, .nils, .nils, .nilm] 0 B = B := by
      simp [setAt, hB2]
    have hE : heirE x boy week s = askE x (isBoyB x boy && isWeekB x week && spanOk s 40 40) := by simp [heirE, h0]
    have hV : heirV x boy week s = 0 := by simp [heirV, h0]
    cases hi : isBoyB x boy with
    | true =>
      cases hj : isWeekB x week with
      | true =>
        rw [hi, hj] at h1 h0 hE
        simp only [Bool.true_and] at h1 h0 hE
        rw [hi] at h2
        rw [hj] at h3
        rw [call_def comp33]
        simp [-setAt, code33, Book.av, Book.cells, Span.av, h1, h2, h3, h4, h0, hB2, hB4, hset, hE, hV]
      | false =>
        rw [hi, hj] at h1 h0 hE
        simp only [Bool.true_and, Bool.and_false, Bool.false_and] at h1 h0 hE
        rw [hi] at h2
        rw [hj] at h3
        rw [call_def comp33]
        simp [-setAt, code33, Book.av, Book.cells, Span.av, h1, h2, h3, h4, h0, hB2, hB4, hset, hE, hV]
    | false =>
      rw [hi] at h1 h2 h0 hE
      simp only [Bool.false_and] at h1 h0 hE
      rw [call_def comp33]
      simp [-setAt, code33, Book.av, Book.cells, Span.av, h1, h2, h3, h4, h0, hB2, hB4, hset, hE, hV]
end Go.Ai
