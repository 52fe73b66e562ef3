/- This text shows voices: Right, Sings. No conditions of its own. -/
import Derived.Test.YtbjdaefdifofkaaDoorVoxB
set_option linter.unusedSimpArgs false
set_option linter.unusedVariables false
set_option maxRecDepth 100000
namespace Go.Ai.Vc
attribute [local simp] opsA_cons opsA_nil oneA condA putR thenA_nm thenA_rt thenA_ex nmA wantedA operA putA ev retA retsA pur depth List.replicate List.getD purR endA condC_bool blockA_nm blockA_rt blockA_ex againA pureA_call call_none pureCallA backA purAll mask
theorem rowT_len (l : List Vo) : lenA (rowT l) = some (I l.length) := by
  unfold rowT
  split
  · rename_i h; simp [h]
  · simp [rowN]
theorem rowT_pur (l : List Vo) (σ : St) (n : Nat) : pur σ (n + 1) (rowT l) = some (rowT l, false) := by unfold rowT; split <;> rfl
theorem rowT_under (l : List Vo) (a b c d n : Nat) : under a b c d (n + 1) (rowT l) = true := by unfold rowT; split <;> rfl
theorem none_call (l : List Vo) : call Cv 123 [rowT l] = some (.bool (decide (l = []))) := by
  have h : ((l.length : Int) == 0) = decide (l = []) := by
    cases l with
    | nil => rfl
    | cons a l => simp; omega
  rw [call_def comp123]
  simp [code123, rowT_len, h]
def idxE : List (List Vo) → Nat → Int
  | [], _ => -1
  | l :: T, k => if l = [] then k else idxE T (k + 1)
def head106 (T : List (List Vo)) (k : Int) : Env := [.sl 1 (T.map rowT) .no, .fn (.func 123) [] [], .any, .any, .any, .any, .any, I T.length, I k] ++ List.replicate 10 .any
theorem loop106 (T0 : List (List Vo)) (hl : T0.length < 2 ^ 47) : ∀ (T : List (List Vo)) (k : Nat), k ≤ T0.length → T0.drop k = T →
    ∃ e c, run Cv 131 (.loop keep131_0 body131_0) (head106 T0 k) {} = some (c, e, {}) ∧ ((c = .ex 0 ∧ idxE T k = -1) ∨ (c = .rt ∧ e[4]? = some (I (idxE T k)))) ∧ e.length = 19
  | [], k, hk, h => by
    have : k = T0.length := Nat.le_antisymm hk (by simpa using h)
    subst this
    have key : ∃ e, run Cv 131 (.loop keep131_0 body131_0) (head106 T0 T0.length) {} = some (.ex 0, e, {}) ∧ e.length = 19 := by
      rw [run_loop]
      simp [body131_0, keep131_0, head106]
    obtain ⟨e, h1, h2⟩ := key
    exact ⟨e, _, h1, .inl ⟨rfl, rfl⟩, h2⟩
  | l :: T, k, hk, h => by
    have hb : T0[k]? = some l := by
      have : (T0.drop k)[0]? = some l := by rw [h]; rfl
      simpa using this
    have hlt : k < T0.length := (List.getElem?_eq_some_iff.1 hb).1
    have hbb : T0[k] = l := (List.getElem?_eq_some_iff.1 hb).2
    have hw : IntKind.wrap .i64 ((k : Int) + 1) = k + 1 := wrap_small (by omega) (by omega)
    by_cases hv : l = []
    · have key : ∃ e, run Cv 131 (.loop keep131_0 body131_0) (head106 T0 k) {} = some (.rt, e, {}) ∧ e[4]? = some (I k) ∧ e.length = 19 := by
        rw [run_loop]
        simp [body131_0, keep131_0, head106, hlt, hbb, rowT_cells, rowT_pur, none_call, hv]
      obtain ⟨e, h1, h2, h3⟩ := key
      exact ⟨e, _, h1, .inr ⟨rfl, by rw [h2]; simp [idxE, hv]⟩, h3⟩
    · have key : run Cv 131 (.loop keep131_0 body131_0) (head106 T0 k) {} = run Cv 131 (.loop keep131_0 body131_0) (head106 T0 (k + 1)) {} := by
        rw [run_loop]
        generalize MC.loop keep131_0 body131_0 = L
        simp [body131_0, keep131_0, head106, hlt, hbb, rowT_cells, rowT_pur, none_call, hv, hw, under, rowT_under]
      rw [key]
      have := loop106 T0 hl T (k + 1) hlt (by rw [← List.drop_drop, h]; rfl)
      simpa [idxE, hv] using this
theorem idxE_nonneg : ∀ (T : List (List Vo)) (k : Nat), decide (0 ≤ idxE T k) = !T.all (fun l => !decide (l = []))
  | [], k => by simp [idxE]
  | l :: T, k => by
    by_cases h : l = []
    · simp [idxE, h]
    · have := idxE_nonneg T (k + 1)
      simp only [idxE, h, if_false, this]
      simp [h]
theorem ixf_call (T : List (List Vo)) (hl : T.length < 2 ^ 47) : call Cv 131 [trP T, .fn (.func 123) [] []] = some (I (idxE T 0)) := by
  by_cases hT : T = []
  · rw [call_def comp131]
    simp [code131, trP, hT]
    rw [run_loop]
    simp [body131_0, keep131_0, idxE]
  · obtain ⟨e, c, h1, h2, h3⟩ := loop106 T hl T 0 (Nat.zero_le _) rfl
    rw [call_def comp131]
    simp [code131, trP, hT]
    rw [run_loop_mask]
    rw [show mask keep131_0 _ = head106 T (0 : Nat) from by simp [keep131_0, head106]]
    rw [h1]
    rcases h2 with ⟨rfl, h2⟩ | ⟨rfl, h2⟩
    · simp [h2, h3]
    · simp [h2]
theorem trP_pur (T : List (List Vo)) (σ : St) (n : Nat) : pur σ (n + 1) (trP T) = some (trP T, false) := by simp only [trP]; split <;> rfl
theorem trP_cell (T : List (List Vo)) : (trP T).isCell = true := by simp only [trP]; split <;> rfl
theorem trP_cells (T : List (List Vo)) : (trP T).cells = [trP T] := by simp only [trP]; split <;> rfl
theorem cf_call (T : List (List Vo)) (hl : T.length < 2 ^ 47) : call Cv 122 [trP T, .fn (.func 123) [] []] = some (.bool (!T.all (fun l => !decide (l = [])))) := by
  rw [call_def comp122]
  simp [code122, trP_pur, ixf_call T hl, idxE_nonneg]
theorem Ts_length (x : Book) (but : List Int) : ∀ (l : List Boy) (k : Nat), (Ts x but l k).length = l.length
  | [], _ => rfl
  | b :: l, k => by simp [Ts, Ts_length x but l (k + 1)]
def fine (x : Book) (but : List Int) : Bool := (Ts x but x.boys 0).all (fun l => !decide (l = []))
theorem isTrue_call (x : Book) (hx : x.Ok) (but : List Int) : call Cv 110 [openedV x but] = some (.bool (fine x but)) := by
  have h := hx.blen
  rw [call_def comp110]
  simp [code110, openedV, Book.cells, trP_cell, trP_cells, trP_pur, cf_call _ (show (Ts x but x.boys 0).length < 2 ^ 47 by rw [Ts_length]; exact h), fine]
end Go.Ai.Vc

set_option maxRecDepth 100000
namespace Go.Ai.Vc
attribute [local simp] opsA_cons opsA_nil oneA condA putR thenA_nm thenA_rt thenA_ex nmA wantedA operA putA ev retA retsA pur depth List.replicate List.getD purR endA condC_bool blockA_nm blockA_rt blockA_ex againA pureA_call call_none pureCallA backA purAll mask
theorem addTo_getD (ws : List (List Vo)) (v : Vo) (m w : Nat) : (addTo m ws v).getD w [] = if w < m then ws.getD w [] ++ [v] else ws.getD w [] := by
  simp only [List.getD_eq_getElem?_getD, addTo_get]
  split <;> rfl
def cutW (weeks : Int) (v : Vo) : Nat := (if v.brk < weeks then v.brk else weeks).toNat
theorem fold_ws (weeks : Int) : ∀ (l : List Vo) (M : Ms) (w : Nat), ((l.foldl (step weeks) M).ws).getD w [] = M.ws.getD w [] ++ l.filter fun v => decide (w < cutW weeks v)
  | [], M, w => by simp
  | v :: l, M, w => by
    rw [List.foldl_cons, fold_ws weeks l]
    simp only [step, addTo_getD, List.filter_cons, cutW]
    by_cases h : w < (if v.brk < weeks then v.brk else weeks).toNat
    · simp [h]
    · simp [h]
theorem addTo_ne (ws : List (List Vo)) (v : Vo) (m : Nat) (h : ∀ es ∈ ws, es ≠ []) : ∀ es ∈ addTo m ws v, es ≠ [] := by
  intro es hes
  obtain ⟨i, hi⟩ := List.getElem?_of_mem hes
  rw [addTo_get] at hi
  split at hi
  · simp only [Option.some.injEq] at hi
    subst hi; simp
  · exact h es (List.mem_of_getElem? hi)
theorem fold_ne (weeks : Int) : ∀ (l : List Vo) (M : Ms), (∀ es ∈ M.ws, es ≠ []) → ∀ es ∈ (l.foldl (step weeks) M).ws, es ≠ []
  | [], M, h => h
  | v :: l, M, h => by
    rw [List.foldl_cons]
    exact fold_ne weeks l _ (addTo_ne _ _ _ h)
def wholeOf (x : Book) (boy : Nat) (b : Boy) (but : List Int) (w : Int) : List Vo := (voicesOf x boy b but).filter fun v => decide (w < v.brk)
theorem ws_get (x : Book) (boy : Nat) (b : Boy) (but : List Int) (w : Nat) (hw : (w : Int) < x.weeks) : (msOf x boy b but).ws.getD w [] = wholeOf x boy b but w := by
  rw [msOf, fold_ws, wholeOf]
  simp only [List.getD_nil, List.nil_append]
  congr 1
  funext v
  rw [Bool.eq_iff_iff, decide_eq_true_eq, decide_eq_true_eq]
  unfold cutW
  constructor
  · intro h; split at h <;> omega
  · intro h; split <;> omega

def Lk : List (Int × Int) → List AV → Int × Int → AV
  | p :: ks, v :: vs, k => if k = p then v else Lk ks vs k
  | _, _, _ => .nils
theorem find_Lk (a b : Int) (vs0 : List AV) : ∀ (ks : List (Int × Int)) (vs : List AV) (i : Nat), vs0.drop i = vs → ks.length = vs.length →
    ((findA (some 2) (.agg [I a, I b]) (ks.map pairV) i).bind fun r => match r with
      | some j => (vs0[j]?).map fun v => if false = true then AV.tup [v, .bool true] else v
      | none => some (if false = true then AV.tup [.nils, .bool false] else .nils)) = some (Lk ks vs (a, b))
  | [], vs, i, h1, h2 => by
    cases vs with
    | nil => simp [findA, Lk]
    | cons => simp at h2
  | p :: ks, [], i, h1, h2 => by simp at h2
  | p :: ks, v :: vs, i, h1, h2 => by
    have hv : vs0[i]? = some v := by
      have : (vs0.drop i)[0]? = some v := by rw [h1]; rfl
      simpa using this
    have ih := find_Lk a b vs0 ks vs (i + 1) (by rw [← List.drop_drop, h1]; rfl) (by simpa using h2)
    obtain ⟨p1, p2⟩ := p
    simp only [List.map_cons, pairV, findA, keyEq, Lk]
    simp only [List.length_cons, List.length_nil, and_self, if_true, eqCells, Option.map_some, Option.bind_some, Bool.and_true]
    by_cases h : a = p1 ∧ b = p2
    · obtain ⟨rfl, rfl⟩ := h
      simp [hv]
    · have h' : (a == p1 && b == p2) = false := by
        rw [Bool.and_eq_false_iff]
        by_cases h1 : a = p1
        · right; simp; exact fun h2 => h ⟨h1, h2⟩
        · left; simpa using h1
      have h'' : ¬ ((a, b) = (p1, p2)) := by simpa using h
      rw [h']
      simpa [h''] using ih
theorem Lk_app (k : Int × Int) : ∀ (ks : List (Int × Int)) (vs : List AV) (ks' vs'), ks.length = vs.length → (∀ p ∈ ks, p ≠ k) → Lk (ks ++ ks') (vs ++ vs') k = Lk ks' vs' k
  | [], [], _, _, _, _ => rfl
  | [], _ :: _, _, _, h, _ => by simp at h
  | _ :: _, [], _, _, h, _ => by simp at h
  | p :: ks, v :: vs, ks', vs', h, hp => by
    have h1 := hp p List.mem_cons_self
    simp only [List.cons_append, Lk, if_neg (Ne.symm h1)]
    exact Lk_app k ks vs ks' vs' (by simpa using h) fun q hq => hp q (List.mem_cons_of_mem _ hq)
theorem Lk_hit (k : Int × Int) : ∀ (ks : List (Int × Int)) (vs : List AV) (ks' vs') (i : Nat) (v : AV), ks[i]? = some k → vs[i]? = some v → (∀ j, j < i → ks[j]? ≠ some k) → Lk (ks ++ ks') (vs ++ vs') k = v
  | [], _, _, _, i, v, h, _, _ => by simp at h
  | _ :: _, [], _, _, i, v, _, h, _ => by simp at h
  | p :: ks, u :: vs, ks', vs', 0, v, h1, h2, h3 => by
    simp only [List.getElem?_cons_zero, Option.some.injEq] at h1 h2
    subst h1 h2
    simp [Lk]
  | p :: ks, u :: vs, ks', vs', i + 1, v, h1, h2, h3 => by
    have hp : ¬ k = p := fun h => h3 0 (by omega) (by rw [h]; rfl)
    simp only [List.cons_append, Lk, if_neg hp]
    exact Lk_hit k ks vs ks' vs' i v (by simpa using h1) (by simpa using h2) fun j hj => by have := h3 (j + 1) (by omega); simpa using this
theorem Lk_none (k : Int × Int) : ∀ (ks : List (Int × Int)) (vs : List AV), (∀ p ∈ ks, p ≠ k) → Lk ks vs k = .nils
  | [], [], _ => rfl
  | [], _ :: _, _ => rfl
  | _ :: _, [], _ => rfl
  | p :: ks, v :: vs, h => by
    rw [Lk, if_neg (Ne.symm (h p List.mem_cons_self))]
    exact Lk_none k ks vs fun q hq => h q (List.mem_cons_of_mem _ hq)
theorem KP_len (x : Book) (but : List Int) : ∀ (l : List Boy) (k : Nat), (Ks x but l k).length = (Ps x but l k).length
  | [], _ => rfl
  | b :: l, k => by simp [Ks, Ps, KP_len x but l (k + 1), pairsFrom]
theorem Ks_ge (x : Book) (but : List Int) : ∀ (l : List Boy) (k : Nat), ∀ p ∈ Ks x but l k, (k : Int) ≤ p.1
  | [], _, p, h => (List.not_mem_nil h).elim
  | b :: l, k, p, h => by
    rcases List.mem_append.1 h with h | h
    · simp only [pairsFrom, List.mem_map] at h
      obtain ⟨w, _, rfl⟩ := h
      exact Int.le_refl _
    · have := Ks_ge x but l (k + 1) p h; omega
theorem Lk_boys (x : Book) (but : List Int) (boy w : Nat) (b : Boy) (hw : (w : Int) < x.weeks) : ∀ (l : List Boy) (k : Nat), k ≤ boy → l[boy - k]? = some b → Lk (Ks x but l k) (Ps x but l k) (boy, w) = rowT (wholeOf x boy b but w)
  | [], k, hk, h => by simp at h
  | b' :: l, k, hk, h => by
    rcases Nat.lt_or_ge k boy with hlt | hge
    · rw [Ks, Ps, Lk_app _ _ _ _ _ (by simp [pairsFrom]) (by
        intro p hp
        simp only [pairsFrom, List.mem_map] at hp
        obtain ⟨j, _, rfl⟩ := hp
        intro h
        have := congrArg Prod.fst h
        simp only at this
        omega)]
      refine Lk_boys x but boy w b hw l (k + 1) hlt ?_
      rw [show boy - k = (boy - (k + 1)) + 1 by omega, List.getElem?_cons_succ] at h
      exact h
    · have hkb : k = boy := Nat.le_antisymm hk hge
      subst hkb
      simp only [Nat.sub_self, List.getElem?_cons_zero, Option.some.injEq] at h
      subst h
      have hg := ws_get x k b' but w hw
      rw [Ks, Ps]
      rcases Nat.lt_or_ge w (msOf x k b' but).ws.length with h1 | h1
      · have hne : (msOf x k b' but).ws[w] ≠ [] := fold_ne x.weeks _ _ (fun es h => (List.not_mem_nil h).elim) _ (List.getElem_mem h1)
        have hgd : (msOf x k b' but).ws.getD w [] = (msOf x k b' but).ws[w] := by simp [h1]
        refine Lk_hit _ _ _ _ _ w _ ?_ ?_ ?_
        · simp [pairsFrom, h1]
        · rw [List.getElem?_map, List.getElem?_eq_getElem h1, Option.map_some, rowT, ← hg, hgd, if_neg hne]
        · intro j hj
          rw [pairsFrom, List.getElem?_map]
          simp [Nat.lt_trans hj h1]
          omega
      · have he : wholeOf x k b' but w = [] := by rw [← hg]; simp [h1]
        rw [Lk_none, he]
        · rfl
        · intro p hp
          rcases List.mem_append.1 hp with hp | hp
          · simp only [pairsFrom, List.mem_map, List.mem_range] at hp
            obtain ⟨j, hj, rfl⟩ := hp
            intro h
            have := congrArg Prod.snd h
            simp only at this
            omega
          · have := Ks_ge x but l (k + 1) p hp
            intro h
            rw [h] at this
            simp only at this
            omega
theorem look (x : Book) (but : List Int) (boy w : Nat) (b : Boy) (hb : x.boys[boy]? = some b) (hw : (w : Int) < x.weeks) (σ : St) :
    lkpA σ (some 2) .nils (.mapv ((Ks x but x.boys 0).map pairV) (Ps x but x.boys 0)) (.agg [I boy, I w]) false = some (rowT (wholeOf x boy b but w)) := by
  have h1 := find_Lk boy w (Ps x but x.boys 0) (Ks x but x.boys 0) (Ps x but x.boys 0) 0 rfl (KP_len x but _ _)
  have h2 := Lk_boys x but boy w b hw x.boys 0 (Nat.zero_le _) (by simpa using hb)
  rw [h2] at h1
  simp only [lkpA, entriesA, Option.bind_some]
  rw [if_pos (show keyOk (some 2) (AV.agg [I ↑boy, I ↑w]) = true from rfl)]
  exact h1
end Go.Ai.Vc

set_option maxRecDepth 100000
namespace Go.Ai.Vc
attribute [local simp] opsA_cons opsA_nil oneA condA putR thenA_nm thenA_rt thenA_ex nmA wantedA operA putA ev retA retsA pur depth List.replicate List.getD purR endA condC_bool blockA_nm blockA_rt blockA_ex againA pureA_call call_none pureCallA backA purAll mask
structure Fit (x : Book) : Prop where
  boys : x.boys.all boyOk = true
  bl : x.boys.length ≤ 4
  bl1 : 1 ≤ x.boys.length
  w1 : 1 ≤ x.weeks
  w6 : x.weeks ≤ 6
  tl : x.trials.length ≤ 6
  tr : x.trials.all (trialOk x) = true
theorem good_of {x : Book} (h : checkOk x = true) : Fit x := by
  simp only [checkOk, Bool.and_eq_true, decide_eq_true_eq] at h
  obtain ⟨⟨⟨⟨⟨h1, h2⟩, h3, h4⟩, h5⟩, h6⟩, h7⟩ := h
  exact ⟨h6, by omega, by omega, h3, h4, by omega, h7⟩
theorem nils_row : VRow 1 (ints []) .nils := .inl ⟨rfl, rfl⟩
theorem opened0 {x : Book} (hx : x.Ok) (h : checkOk x = true) : call Cv 109 [x.av, .nils] = some (openedV x []) := by
  have g := good_of h
  exact opened_call x hx g.w6 g.boys (by have := g.bl; omega) [] .nils (by simp) nils_row
theorem openedV_pur (x : Book) (but : List Int) (σ : St) (n : Nat) : pur σ (n + 2) (openedV x but) = some (openedV x but, false) := by
  simp [openedV, pur, purAll, Book.cells, trP_pur]
theorem openedV_cells (x : Book) (but : List Int) : (openedV x but).cells = x.cells ++ [trP (Ts x but x.boys 0), .mapv ((Ks x but x.boys 0).map pairV) (Ps x but x.boys 0)] := rfl
def zeroB : AV := .agg [.nils, I 0, .nils, .nils, .nilm]
def askE (x : Book) (is : Bool) : Int := if checkOk x = false then 20 else if is = false then 21 else if fine x [] = false then 22 else 0
def askB (x : Book) (is : Bool) : AV := if checkOk x = false then zeroB else if is = false then zeroB else openedV x []
theorem asked_call (x : Book) (hx : x.Ok) (is : Bool) : call Cv 86 [x.av, .bool is] = some (.tup [askB x is, I (askE x is)]) := by
  have h1 := check_call x hx
  have hcap := openedV_pur x []
  simp only [Book.av, Book.cells] at h1
  cases hc : checkOk x with
  | false =>
    rw [hc] at h1
    rw [call_def comp86]
    simp [code86, Book.av, Book.cells, h1, askB, askE, hc, fillA, zeroB]
  | true =>
    rw [hc] at h1
    have h2 := opened0 hx hc
    have h3 := isTrue_call x hx []
    simp only [Book.av, Book.cells] at h2
    cases is with
    | false =>
      rw [call_def comp86]
      simp [code86, Book.av, Book.cells, h1, askB, askE, hc, fillA, zeroB]
    | true =>
      simp only [openedV, Book.cells, List.cons_append, List.nil_append] at h2 h3
      cases hf : fine x [] with
      | false =>
        rw [hf] at h3
        rw [call_def comp86]
        simp [code86, Book.av, Book.cells, h1, h2, h3, askB, askE, hc, fillA, openedV, trP_cell, trP_pur, hf]
      | true =>
        rw [hf] at h3
        rw [call_def comp86]
        simp [code86, Book.av, Book.cells, h1, h2, h3, askB, askE, hc, fillA, openedV, trP_cell, trP_pur, hf]
theorem Right_call (x : Book) (hx : x.Ok) : call Cv 83 [x.av] = some (.tup [.bool (checkOk x && fine x []), I (if checkOk x then 0 else 20)]) := by
  have h1 := check_call x hx
  simp only [Book.av, Book.cells] at h1
  cases hc : checkOk x with
  | false =>
    rw [hc] at h1
    rw [call_def comp83]
    simp [code83, Book.av, Book.cells, h1, hc, fillA, zeroB]
  | true =>
    rw [hc] at h1
    have h2 := opened0 hx hc
    have h3 := isTrue_call x hx []
    simp only [Book.av, Book.cells] at h2
    simp only [openedV, Book.cells, List.cons_append, List.nil_append] at h2 h3
    rw [call_def comp83]
    simp [code83, Book.av, Book.cells, h1, h2, h3, hc, trP_pur]
end Go.Ai.Vc

set_option maxRecDepth 100000
namespace Go.Ai.Vc
attribute [local simp] opsA_cons opsA_nil oneA condA putR thenA_nm thenA_rt thenA_ex nmA wantedA operA putA ev retA retsA pur depth List.replicate List.getD purR endA condC_bool blockA_nm blockA_rt blockA_ex againA pureA_call call_none pureCallA backA purAll mask
def Span.av (s : Span) : AV := .agg [I s.low, I s.high]
def isBoyB (x : Book) (n : Int) : Bool := decide (0 ≤ n) && decide (n < x.boys.length)
theorem Ts_get (x : Book) (but : List Int) : ∀ (l : List Boy) (k i : Nat), (Ts x but l k)[i]? = (l[i]?).map fun b => voicesOf x (k + i) b but
  | [], _, _ => by simp [Ts]
  | b :: l, k, 0 => by simp [Ts]
  | b :: l, k, i + 1 => by
    have := Ts_get x but l (k + 1) i
    simp only [Ts, List.getElem?_cons_succ, this]
    congr 1
    funext b
    rw [show k + 1 + i = k + (i + 1) by omega]
theorem ask_cases (x : Book) (is : Bool) : (askE x is = 0 ∧ checkOk x = true ∧ is = true ∧ fine x [] = true ∧ askB x is = openedV x []) ∨ (askE x is ≠ 0 ∧ ∃ B, askB x is = .agg B ∧ B.length = 5 ∧ ∀ y ∈ B, y.isCell = true) := by
  have hz : ∃ B, zeroB = .agg B ∧ B.length = 5 ∧ ∀ y ∈ B, y.isCell = true := ⟨_, rfl, rfl, by simp⟩
  cases hc : checkOk x with
  | false => right; simp only [askE, askB, hc, if_true]; exact ⟨by decide, hz⟩
  | true =>
    cases is with
    | false => right; simp only [askE, askB, hc, if_true]; exact ⟨by decide, hz⟩
    | true =>
      cases hf : fine x [] with
      | false =>
        right
        simp only [askE, askB, hc, hf, if_true, Bool.true_eq_false, if_false]
        exact ⟨by decide, _, rfl, by simp [Book.cells], by simp [Book.cells, trP_cell]⟩
      | true => left; simp [askE, askB, hc, hf]
theorem fine_ne {x : Book} {but : List Int} (h : fine x but = true) {boy : Nat} {b : Boy} (hb : x.boys[boy]? = some b) : voicesOf x boy b but ≠ [] := by
  have h1 : (Ts x but x.boys 0)[boy]? = some (voicesOf x boy b but) := by rw [Ts_get, hb]; simp
  have := List.all_eq_true.1 h _ (List.mem_of_getElem? h1)
  simpa using this
theorem voices_short {x : Book} (hx : x.Ok) (h : checkOk x = true) {boy : Nat} {b : Boy} (hb : x.boys[boy]? = some b) (but : List Int) (hbl : but.length < 2 ^ 47) : (voicesOf x boy b but).length < 999 := by
  have g := good_of h
  have hX := fixO_ok hx hb (List.all_eq_true.1 g.boys b (List.mem_of_getElem? hb)) (T := []) (ct := 0) (but := but) (r := .sl 1 (ints but) .no) hbl (.inr ⟨.no, rfl, rfl⟩) 0 (c0 := 0) (fun h => absurd rfl h)
  exact enum_short hX ⟨-1, -1, -1, -1, -1⟩
theorem Span_cells (s : Span) : (Span.av s).cells = [I s.low, I s.high] := rfl
def isWeekB (x : Book) (n : Int) : Bool := decide (0 ≤ n) && decide (n ≤ IntKind.wrap .i64 (x.weeks - 1))
def wholeB (x : Book) (boy : Int) (w : Int) : List Vo := match x.boys[boy.toNat]? with
  | some b => wholeOf x boy.toNat b [] w
  | none => []
def lossB (x : Book) (boy : Int) : Int := match x.boys[boy.toNat]? with
  | some b => b.loss
  | none => 0
theorem filter_short (x : Book) (boy : Nat) (b : Boy) (but : List Int) (w : Int) : (wholeOf x boy b but w).length ≤ (voicesOf x boy b but).length := List.length_filter_le _ _
def Vo.get (v : Vo) (k : Nat) : Int := match k with
  | 0 => v.low
  | 1 => v.high
  | 2 => v.gain
  | 3 => v.turn
  | _ => v.brk
end Go.Ai.Vc

set_option maxRecDepth 100000
namespace Go.Ai.Vc
attribute [local simp] opsA_cons opsA_nil oneA condA putR thenA_nm thenA_rt thenA_ex nmA wantedA operA putA ev retA retsA pur depth List.replicate List.getD purR endA condC_bool blockA_nm blockA_rt blockA_ex againA pureA_call call_none pureCallA backA purAll mask
theorem some_call (a b : Int) : call Cv 151 [.agg [I a, I b]] = some (.bool (decide (a > 0))) := by
  rw [call_def comp151]
  simp [code151]
theorem each_call (a b : Int) : call Cv 152 [.agg [I a, I b]] = some (.bool (a == b)) := by
  rw [call_def comp152]
  simp [code152]
def countV (a b : Int) : Int := (if a > 0 then 1 else 0) + (if a = b then 1 else 0)
theorem count_call (a b : Int) : call Cv 91 [.agg [I a, I b]] = some (I (countV a b)) := by
  have hw1 : IntKind.wrap .i64 1 = 1 := wrap_small (by omega) (by omega)
  have hw2 : IntKind.wrap .i64 2 = 2 := wrap_small (by omega) (by omega)
  have h1 := some_call a b
  have h2 := each_call a b
  rw [call_def comp91]
  by_cases ha : a > 0
  · by_cases hb : a = b
    · subst hb
      simp [code91]
      rw [run_loop]
      simp [body91_0, keep91_0, h1, h2, hw1, ixvA, under, ha]
      rw [run_loop]
      simp [body91_0, keep91_0, h1, h2, hw1, hw2, ixvA, under, ha]
      rw [run_loop]
      simp [body91_0, keep91_0, countV, ha]
    · simp [code91]
      rw [run_loop]
      simp [body91_0, keep91_0, h1, h2, hw1, ixvA, under, ha]
      rw [run_loop]
      simp [body91_0, keep91_0, h1, h2, hw1, hw2, ixvA, under, hb]
      rw [run_loop]
      simp [body91_0, keep91_0, countV, ha, hb]
  · by_cases hb : a = b
    · subst hb
      simp [code91]
      rw [run_loop]
      simp [body91_0, keep91_0, h1, h2, hw1, ixvA, under, ha]
      rw [run_loop]
      simp [body91_0, keep91_0, h1, h2, hw1, hw2, ixvA, under, ha]
      rw [run_loop]
      simp [body91_0, keep91_0, countV, ha]
    · simp [code91]
      rw [run_loop]
      simp [body91_0, keep91_0, h1, h2, hw1, ixvA, under, ha]
      rw [run_loop]
      simp [body91_0, keep91_0, h1, h2, hw1, hw2, ixvA, under, hb]
      rw [run_loop]
      simp [body91_0, keep91_0, countV, ha, hb]

def bookC (x : Book) (but : List Int) : List AV := x.cells ++ [trP (Ts x but x.boys 0), .mapv ((Ks x but x.boys 0).map pairV) (Ps x but x.boys 0)]
def head82 (boy week note : Int) (l : List Vo) (k : Int) : Env := [.any, I boy, I week, I note, .box 0 0, .any, .any, .any, .box 1 0, .box 2 0] ++ List.replicate 14 .any ++ [rowT l, I l.length, I k] ++ List.replicate 15 .any
def st82 (x : Book) (but : List Int) (so of : Int) : St := { boxes := [bookC x but, [I 0, I 0], [I so, I of]] }
def nCan (loss : Int) (week note : Int) : List Vo → Int
  | [] => 0
  | v :: l => (if canW loss v week note then 1 else 0) + nCan loss week note l
theorem nCan_le (loss week note : Int) : ∀ l, 0 ≤ nCan loss week note l ∧ nCan loss week note l ≤ l.length
  | [] => by simp [nCan]
  | v :: l => by
    have := nCan_le loss week note l
    simp only [nCan, List.length_cons]
    split <;> omega
theorem loop82 (x : Book) (hx : x.Ok) (but : List Int) (boy : Nat) (b : Boy) (hb : x.boys[boy]? = some b) (week note of : Int) (l0 : List Vo) (hl : l0.length < 2 ^ 47) : ∀ (l : List Vo) (k : Nat) (so : Int), k ≤ l0.length → l0.drop k = l → 0 ≤ so → so ≤ k →
    ∃ e, run Cv 90 (.loop keep90_0 body90_0) (head82 boy week note l0 k) (st82 x but so of) = some (.ex 0, e, st82 x but (so + nCan b.loss week note l) of) ∧ e[9]? = some (.box 2 0) ∧ e[8]? = some (.box 1 0) ∧ e.length = 42
  | [], k, so, hk, h, hs, hs' => by
    have : k = l0.length := Nat.le_antisymm hk (by simpa using h)
    subst this
    rw [run_loop]
    simp [body90_0, keep90_0, head82, nCan]
  | v :: l, k, so, hk, h, hs, hs' => by
    have hb' : l0[k]? = some v := by
      have : (l0.drop k)[0]? = some v := by rw [h]; rfl
      simpa using this
    have hlt : k < l0.length := (List.getElem?_eq_some_iff.1 hb').1
    have hbb : l0[k] = v := (List.getElem?_eq_some_iff.1 hb').2
    have hw : IntKind.wrap .i64 ((k : Int) + 1) = k + 1 := wrap_small (by omega) (by omega)
    have hw' : IntKind.wrap .i64 (so + 1) = so + 1 := wrap_small (by omega) (by omega)
    have hne : l0 ≠ [] := fun h => by rw [h] at hlt; simp at hlt
    have hrow : rowT l0 = .sl 5 (l0.map Vo.av) .no := by rw [rowT, if_neg hne]; rfl
    have hcan := can_call x hx (trP (Ts x but x.boys 0)) (.mapv ((Ks x but x.boys 0).map pairV) (Ps x but x.boys 0)) boy b hb v week note (fun σ n => trP_pur _ _ _) (fun _ _ => rfl) (trP_cell _) rfl
    simp only [Book.cells, List.cons_append, List.nil_append, Vo.av, Vo.cells] at hcan
    have htu : ∀ a b c d n, under a b c d (n + 1) (trP (Ts x but x.boys 0)) = true := fun a b c d n => by simp only [trP]; split <;> rfl
    have key : run Cv 90 (.loop keep90_0 body90_0) (head82 boy week note l0 k) (st82 x but so of) = run Cv 90 (.loop keep90_0 body90_0) (head82 boy week note l0 (k + 1)) (st82 x but (so + if canW b.loss v week note then 1 else 0) of) := by
      rw [run_loop]
      generalize MC.loop keep90_0 body90_0 = L
      cases hc : canW b.loss v week note with
      | true =>
        rw [hc] at hcan
        simp [body90_0, keep90_0, head82, st82, bookC, Book.cells, hrow, hlt, hbb, hw, hw', Vo.av, Vo.cells, trP_pur, hcan, under, htu]
      | false =>
        rw [hc] at hcan
        simp [body90_0, keep90_0, head82, st82, bookC, Book.cells, hrow, hlt, hbb, hw, hw', Vo.av, Vo.cells, trP_pur, hcan, under, htu]
    rw [key]
    have := loop82 x hx but boy b hb week note of l0 hl l (k + 1) (so + if canW b.loss v week note then 1 else 0) hlt (by rw [← List.drop_drop, h]; rfl) (by split <;> omega) (by split <;> omega)
    simpa [nCan, Int.add_assoc] using this
theorem sings_call (x : Book) (hx : x.Ok) (hc : checkOk x = true) (but : List Int) (hbl : but.length < 2 ^ 47) (boy w : Nat) (b : Boy) (hb : x.boys[boy]? = some b) (hw : (w : Int) < x.weeks) (note : Int) :
    call Cv 90 [openedV x but, I boy, I w, I note] = some (.agg [I (nCan b.loss w note (wholeOf x boy b but w)), I (voicesOf x boy b but).length]) := by
  have hlt : boy < x.boys.length := (List.getElem?_eq_some_iff.1 hb).1
  have hvl := voices_short hx hc hb but hbl
  have hfl := filter_short x boy b but w
  have hT : (Ts x but x.boys 0)[boy]? = some (voicesOf x boy b but) := by rw [Ts_get, hb]; simp
  have hTl : boy < (Ts x but x.boys 0).length := by rw [Ts_length]; exact hlt
  have hTg : (Ts x but x.boys 0)[boy] = voicesOf x boy b but := by
    rw [List.getElem?_eq_getElem hTl] at hT; simpa using hT
  have hT0 : Ts x but x.boys 0 ≠ [] := fun h => by rw [h] at hTl; simp at hTl
  have hlt' : (boy : Int) < (Ts x but x.boys 0).length := by omega
  have hl := look x but boy w b hb hw
  have hcells := trP_cell (Ts x but x.boys 0)
  have htr : trP (Ts x but x.boys 0) = .sl 1 ((Ts x but x.boys 0).map rowT) .no := if_neg hT0
  obtain ⟨e, h1, h2, h3, h4⟩ := loop82 x hx but boy b hb w note (voicesOf x boy b but).length (wholeOf x boy b but w) (by omega) (wholeOf x boy b but w) 0 0 (Nat.zero_le _) rfl (by omega) (by omega)
  have hset : ∀ v, (e.set 41 v)[41]? = some v := fun v => List.getElem?_set_self (by omega)
  simp only [st82, bookC, Book.cells, List.cons_append, List.nil_append, htr] at h1
  rw [call_def comp90]
  simp [code90, openedV, Book.cells, htr, hlt', hTl, hTg, rowT_cells, rowT_len, fillA, hl]
  rw [run_loop_mask]
  rw [show mask keep90_0 _ = head82 boy w note (wholeOf x boy b but w) (0 : Nat) from by simp [keep90_0, head82]]
  rw [h1]
  simp [h2, h3, hset]
def isNoteB (n : Int) : Bool := decide (0 ≤ n) && decide (n ≤ 40)
def singsN (x : Book) (boy week note : Int) : Int := countV (nCan (lossB x boy) week note (wholeB x boy week)) ((Ts x [] x.boys 0).getD boy.toNat []).length
theorem Sings_call (x : Book) (hx : x.Ok) (boy week note : Int) : call Cv 41 [x.av, I boy, I week, I note] =
    some (.tup [I (if askE x (isBoyB x boy && isWeekB x week && isNoteB note) = 0 then singsN x boy week note else 0), I (askE x (isBoyB x boy && isWeekB x week && isNoteB note))]) := by
  have h1 := asked_call x hx (isBoyB x boy && isWeekB x week && isNoteB note)
  have h2 := isBoy_call x hx boy
  have h3 := isWeek_call x week
  have h4 := isNote_call note
  simp only [Book.av, Book.cells] at h1 h2 h3
  rw [show (decide (0 ≤ boy) && decide (boy < x.boys.length)) = isBoyB x boy from rfl] at h2
  rw [show (decide (0 ≤ week) && decide (week ≤ IntKind.wrap .i64 (x.weeks - 1))) = isWeekB x week from rfl] at h3
  rw [show (decide (0 ≤ note) && decide (note ≤ 40)) = isNoteB note from rfl] at h4
  rcases ask_cases x (isBoyB x boy && isWeekB x week && isNoteB note) with ⟨h0, hc, his, hf, hB⟩ | ⟨h0, B, hB1, hB2, hB3⟩
  · rw [hB] at h1
    rw [Bool.and_eq_true, Bool.and_eq_true] at his
    obtain ⟨⟨his, hiw⟩, hin⟩ := his
    rw [his, hiw, hin, Bool.and_self, Bool.and_self] at h1 h0
    have g := good_of hc
    have his' := his
    have hiw' := hiw
    simp only [isBoyB, Bool.and_eq_true, decide_eq_true_eq] at his'
    simp only [isWeekB, Bool.and_eq_true, decide_eq_true_eq] at hiw'
    rw [wrap_small (by have := g.w1; omega) (by have := g.w6; omega)] at hiw'
    obtain ⟨n, rfl⟩ := Int.eq_ofNat_of_zero_le his'.1
    obtain ⟨w, rfl⟩ := Int.eq_ofNat_of_zero_le hiw'.1
    have hlt : n < x.boys.length := by omega
    have hb : x.boys[n]? = some x.boys[n] := List.getElem?_eq_getElem hlt
    have hT : (Ts x [] x.boys 0)[n]? = some (voicesOf x n x.boys[n] []) := by rw [Ts_get, hb]; simp
    have hs := sings_call x hx hc [] (by simp) n w x.boys[n] hb (by omega) note
    have hsN : singsN x n w note = countV (nCan x.boys[n].loss w note (wholeOf x n x.boys[n] [] w)) (voicesOf x n x.boys[n] []).length := by
      simp [singsN, lossB, wholeB, hlt, hT]
    have hcap := trP_pur (Ts x [] x.boys 0)
    simp only [openedV, Book.cells, List.cons_append, List.nil_append] at h1 hs
    rw [call_def comp41]
    simp [code41, Book.av, Book.cells, h1, h2, h3, h4, his, hiw, hin, h0, trP_cell, hcap, hs, count_call, hsN]
  · rw [hB1] at h1
    have hB4 := eq_true hB3
    have hset : setAt [.nils, I 0, .nils, .nils, .nilm] 0 B = B := by
      simp [setAt, hB2]
    cases hi : isBoyB x boy with
    | true =>
      cases hj : isWeekB x week with
      | true =>
        rw [hi, hj] at h1 h0
        simp only [Bool.true_and] at h1 h0
        rw [hi] at h2
        rw [hj] at h3
        rw [call_def comp41]
        simp [-setAt, code41, Book.av, Book.cells, h1, h2, h3, h4, h0, hB2, hB4, hset]
      | false =>
        rw [hi, hj] at h1 h0
        simp only [Bool.true_and, Bool.and_false, Bool.false_and] at h1 h0
        rw [hi] at h2
        rw [hj] at h3
        rw [call_def comp41]
        simp [-setAt, code41, Book.av, Book.cells, h1, h2, h3, h4, h0, hB2, hB4, hset]
    | false =>
      rw [hi] at h1 h2 h0
      simp only [Bool.false_and] at h1 h0
      rw [call_def comp41]
      simp [-setAt, code41, Book.av, Book.cells, h1, h2, h3, h4, h0, hB2, hB4, hset]
end Go.Ai.Vc
