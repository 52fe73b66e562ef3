/- This text shows what the reference answers: Sings, Surely, Must, Heir. No conditions of its own. -/
import Derived.Test.YtcndfpjjcbjhpaaDoorSung
set_option maxRecDepth 100000
set_option linter.unusedSimpArgs false
set_option linter.unusedVariables false
namespace Go.Ai
theorem mem_enum (b : Boy) (ok : Vo → Bool) : ∀ (d : Nat), d ≤ 4 → ∀ (v w : Vo), w ∈ enum b ok d v → ∀ j, j < 4 - d → w.get j = v.get j
  | 0, _, v, w, h, j, hj => by
    simp only [enum, List.mem_filter, List.mem_map] at h
    obtain ⟨⟨n, _, rfl⟩, _⟩ := h
    rw [get_put _ _ _ (by omega) (by omega), if_neg (by omega)]
  | d + 1, hd, v, w, h, j, hj => by
    simp only [enum, List.mem_flatMap] at h
    obtain ⟨n, _, h⟩ := h
    rw [mem_enum b ok d (by omega) _ w h j (by omega), get_put _ _ _ (by omega) (by omega), if_neg (by omega)]
theorem voice_low {x : Book} {boy : Nat} {b : Boy} (hb : boyOk b = true) {but : List Int} {v : Vo} (h : v ∈ voicesOf x boy b but) : 0 ≤ v.low := by
  simp only [voicesOf, enum, List.mem_flatMap] at h
  obtain ⟨n, hn, h⟩ := h
  have h1 := mem_enum b (fun v => rightFrom b.loss v boy but x.trials 0) 3 (by omega) (Vo.put ⟨-1, -1, -1, -1, -1⟩ (3 - 3) n) v (by
    simp only [enum, List.mem_flatMap]
    exact h) 0 (by omega)
  have h2 := mem_vals hn
  have h3 := (spOk_of hb).ok 0 (by omega)
  have h4 : v.low = n := h1
  simp only [Boy.span] at h2 h3
  omega
/-- How many can sing, by the reference. -/
def nCanR (loss week note : Int) : List Vo → Int
  | [] => 0
  | v :: l => (if canR loss v week note then 1 else 0) + nCanR loss week note l
theorem nCanR_le (loss week note : Int) : ∀ l, 0 ≤ nCanR loss week note l ∧ nCanR loss week note l ≤ l.length
  | [] => by simp [nCanR]
  | v :: l => by
    have := nCanR_le loss week note l
    simp only [nCanR, List.length_cons]
    split <;> omega
theorem nCan_eq (loss week note : Int) : ∀ l : List Vo, (∀ v ∈ l, 0 ≤ v.low) → nCanR loss week note l = nCan loss week note (l.filter fun v => decide (week < v.brk))
  | [], _ => rfl
  | v :: l, h => by
    have ih := nCan_eq loss week note l fun w hw => h w (.tail _ hw)
    have hv := h v (.head _)
    have hl : decide (v.low = -1) = false := by simp; omega
    rw [List.filter_cons]
    by_cases hw : week < v.brk
    · have : canR loss v week note = canW loss v week note := by simp [canR, canW, hl]
      simp [nCanR, nCan, hw, ih, this]
    · have : canR loss v week note = false := by simp [canR, hw]
      simp [nCanR, hw, ih, this]
def head85 (week note loss : Int) (l0 : List Vo) (many k : Int) : Env := [.any, .any, I week, I note, .any, .any, .any, .any, .any, rowRN loss l0, I many, I k] ++ List.replicate 25 .any
theorem loop85 (x : Book) (week note loss : Int) (l0 : List Vo) (hl : l0.length < 1000) : ∀ (l : List Vo) (k : Nat) (many : Int), k ≤ l0.length → l0.drop k = l → 0 ≤ many → many ≤ k →
    run Cv 85 (.loop keep85_0 body85_0) (head85 week note loss l0 many k) { boxes := [x.cells] } = some (.ex 0, ((((head85 week note loss l0 (many + nCanR loss week note l) l0.length).set 15 (I l0.length)).set 16 (rowRN loss l0)).set 17 (I l0.length)).set 18 (.bool false), { boxes := [x.cells] })
  | [], k, many, hk, h, h0, h1 => by
    have : k = l0.length := Nat.le_antisymm hk (by simpa using h)
    subst this
    rw [run_loop]
    simp [body85_0, keep85_0, head85, rowRN_len, nCanR]
  | v :: l, k, many, hk, h, h0, h1 => by
    have hb : l0[k]? = some v := by
      have : (l0.drop k)[0]? = some v := by rw [h]; rfl
      simpa using this
    have hlt : k < l0.length := (List.getElem?_eq_some_iff.1 hb).1
    have hbb : l0[k] = v := (List.getElem?_eq_some_iff.1 hb).2
    have hw : IntKind.wrap .i64 ((k : Int) + 1) = k + 1 := wrap_small (by omega) (by omega)
    have hw' : IntKind.wrap .i64 (many + 1) = many + 1 := wrap_small (by omega) (by omega)
    have hne : l0 ≠ [] := fun h => by rw [h] at hlt; simp at hlt
    have hrow : rowRN loss l0 = .sl 6 (l0.map (Vo.a6 loss)) .no := if_neg hne
    have hcan := rCan_call v loss week note
    simp only [Vo.a6, Vo.c6] at hcan
    have key : run Cv 85 (.loop keep85_0 body85_0) (head85 week note loss l0 many k) { boxes := [x.cells] } = run Cv 85 (.loop keep85_0 body85_0) (head85 week note loss l0 (many + if canR loss v week note then 1 else 0) (k + 1)) { boxes := [x.cells] } := by
      rw [run_loop]
      generalize MC.loop keep85_0 body85_0 = L
      cases hc : canR loss v week note with
      | true =>
        rw [hc] at hcan
        simp [body85_0, keep85_0, head85, hlt, hbb, hrow, hw, hw', under, Vo.a6, Vo.c6, Book.cells, hcan]
      | false =>
        rw [hc] at hcan
        simp [body85_0, keep85_0, head85, hlt, hbb, hrow, hw, under, Vo.a6, Vo.c6, Book.cells, hcan]
    rw [key]
    have := loop85 x week note loss l0 hl l (k + 1) (many + if canR loss v week note then 1 else 0) hlt (by rw [← List.drop_drop, h]; rfl) (by split <;> omega) (by split <;> omega)
    simpa [nCanR, Int.add_assoc] using this
theorem rSing_call (x : Book) (hx : x.Ok) (hc : checkOk x = true) (hf : fine x [] = true) (boy w : Nat) (b : Boy) (hb : x.boys[boy]? = some b) (note : Int) :
    call Cv 85 [x.av, I boy, I w, I note] = some (I (countV (nCan b.loss w note (wholeOf x boy b [] w)) (voicesOf x boy b []).length)) := by
  have g := good_of hc
  have hvl := voices_short hx hc hb [] (by simp)
  have hne := fine_ne hf hb
  have hv := rVoices_call x hx g.boys (by have := g.tl; omega) boy b hb 0 (by decide) [] (by simp) (setOf_nil x)
  rw [show ((0 : Nat) : Int) = 0 from rfl] at hv
  have hbo := List.all_eq_true.1 g.boys b (List.mem_of_getElem? hb)
  have hl := loop85 x w note b.loss (voicesOf x boy b []) (by omega) (voicesOf x boy b []) 0 0 (Nat.zero_le _) rfl (by omega) (by omega)
  have hn := nCan_eq b.loss w note (voicesOf x boy b []) fun v hv => voice_low hbo hv
  have hn' : nCanR b.loss w note (voicesOf x boy b []) = nCan b.loss w note (wholeOf x boy b [] w) := hn
  have hle := nCanR_le b.loss w note (voicesOf x boy b [])
  rw [← hn']
  generalize nCanR b.loss w note (voicesOf x boy b []) = c at *
  have hpos : 0 < (voicesOf x boy b []).length := List.length_pos_iff.2 hne
  simp only [Int.zero_add, Book.cells] at hl
  simp only [Book.av, Book.cells] at hv
  rw [call_def comp85]
  simp [code85, Book.av, Book.cells, hv, rowRN_pur]
  rw [run_loop_mask, show mask keep85_0 _ = head85 w note b.loss (voicesOf x boy b []) 0 (0 : Nat) from by simp [keep85_0, head85]]
  rw [hl]
  by_cases h0 : c = 0
  · subst h0
    have : ¬ (0 : Int) = (voicesOf x boy b []).length := by omega
    simp [head85, countV, this]
  · by_cases h1 : c = (voicesOf x boy b []).length
    · have h2 : (0 : Int) < (voicesOf x boy b []).length := by omega
      have h3 : ((voicesOf x boy b []).length : Int) ≠ 0 := by omega
      simp [head85, countV, h1, rowRN_len, h2, h3, hne, hpos]
    · have h2 : 0 < c := by omega
      simp [head85, countV, h0, h1, h2, rowRN_len]

theorem rSings_call (x : Book) (hx : x.Ok) (boy week note : Int) : call Cv 27 [x.av, I boy, I week, I note] =
    some (.tup [I (if askE x (isBoyB x boy && isWeekB x week && isNoteB note) = 0 then singsN x boy week note else 0), I (askE x (isBoyB x boy && isWeekB x week && isNoteB note))]) := by
  have h1 := rAsked_call x hx (isBoyB x boy && isWeekB x week && isNoteB note)
  have h2 := rBoy_call x hx boy
  have h3 := rWeek_call x week
  have h4 := rNote_call note
  simp only [Book.av, Book.cells] at h1 h2 h3
  rw [show (decide (0 ≤ boy) && decide (boy < x.boys.length)) = isBoyB x boy from rfl] at h2
  rw [show (decide (0 ≤ week) && decide (week ≤ IntKind.wrap .i64 (x.weeks - 1))) = isWeekB x week from rfl] at h3
  rw [show (decide (0 ≤ note) && decide (note ≤ 40)) = isNoteB note from rfl] at h4
  rcases ask_cases x (isBoyB x boy && isWeekB x week && isNoteB note) with ⟨h0, hc, his, hf, hB⟩ | ⟨h0, B, hB1, hB2, hB3⟩
  · rw [Bool.and_eq_true, Bool.and_eq_true] at his
    obtain ⟨⟨his, hiw⟩, hin⟩ := his
    rw [his, hiw, hin, Bool.and_self, Bool.and_self] at h1 h0
    have g := good_of hc
    have his' := his
    have hiw' := hiw
    simp only [isBoyB, Bool.and_eq_true, decide_eq_true_eq] at his'
    simp only [isWeekB, Bool.and_eq_true, decide_eq_true_eq] at hiw'
    obtain ⟨n, rfl⟩ := Int.eq_ofNat_of_zero_le his'.1
    obtain ⟨w, rfl⟩ := Int.eq_ofNat_of_zero_le hiw'.1
    have hlt : n < x.boys.length := by omega
    have hb : x.boys[n]? = some x.boys[n] := List.getElem?_eq_getElem hlt
    have hT : (Ts x [] x.boys 0)[n]? = some (voicesOf x n x.boys[n] []) := by rw [Ts_get, hb]; simp
    have hs := rSing_call x hx hc hf n w x.boys[n] hb note
    have hsN : singsN x n w note = countV (nCan x.boys[n].loss w note (wholeOf x n x.boys[n] [] w)) (voicesOf x n x.boys[n] []).length := by
      simp [singsN, lossB, wholeB, hlt, hT]
    simp only [Book.av, Book.cells] at hs
    rw [call_def comp27]
    simp [code27, Book.av, Book.cells, h1, h2, h3, h4, his, hiw, hin, h0, hs, hsN]
  · cases hi : isBoyB x boy with
    | true =>
      cases hj : isWeekB x week with
      | true =>
        rw [hi, hj] at h1 h0
        simp only [Bool.true_and] at h1 h0
        rw [hi] at h2
        rw [hj] at h3
        rw [call_def comp27]
        simp [code27, Book.av, Book.cells, h1, h2, h3, h4, h0]
      | false =>
        rw [hi, hj] at h1 h0
        simp only [Bool.true_and, Bool.and_false, Bool.false_and] at h1 h0
        rw [hi] at h2
        rw [hj] at h3
        rw [call_def comp27]
        simp [code27, Book.av, Book.cells, h1, h2, h3, h4, h0]
    | false =>
      rw [hi] at h1 h2 h0
      simp only [Bool.false_and] at h1 h0
      rw [call_def comp27]
      simp [code27, Book.av, Book.cells, h1, h2, h3, h4, h0]

/-! ### Lists that begin as an empty one -/
def outE (out : List Int) : AV := if out = [] then .sl 1 [] .full else .sl 1 (ints out) (.chain 0)
theorem outE_pur (out : List Int) : ∃ r, (∀ σ n, pur σ (n + 1) (outE out) = some (r, false)) ∧ IsRow 1 (ints out) r := by
  unfold outE
  split
  · rename_i h; exact ⟨_, fun _ _ => rfl, .inr ⟨.full, rfl, by rw [h]; rfl⟩⟩
  · exact ⟨_, fun _ _ => rfl, .inr ⟨.no, rfl, rfl⟩⟩
def st29 (x : Book) (out : List Int) : St := { boxes := [x.cells], chains := outCh out }
def head29 (week note : Int) (out : List Int) (k : Int) : Env := [.any, I week, I note, .box 0 0, .any, .any, .any, .any, .any, outE out, I k] ++ List.replicate 31 .any
theorem surelyP_two (x : Book) (hf : fine x [] = true) (w note : Int) (k : Nat) (b : Boy) (hb : x.boys[k]? = some b) : (countV (nCan b.loss w note (wholeOf x k b [] w)) (voicesOf x k b []).length == 2) = surelyP x w note k := by
  have hne := fine_ne hf hb
  have hpos : 0 < (voicesOf x k b []).length := List.length_pos_iff.2 hne
  have hle := nCan_le b.loss w note (wholeOf x k b [] w)
  simp only [surelyP, hb, countV]
  rw [Bool.eq_iff_iff, beq_iff_eq, beq_iff_eq]
  constructor
  · intro h
    split at h <;> split at h <;> omega
  · intro h
    rw [if_pos (by omega), if_pos h]
    rfl
theorem loop29 (x : Book) (hx : x.Ok) (hc : checkOk x = true) (hf : fine x [] = true) (w : Nat) (note : Int) : ∀ (n k : Nat) (out : List Int), k + n = x.boys.length → out.length ≤ k →
    run Cv 29 (.loop keep29_0 body29_0) (head29 w note out k) (st29 x out) = some (.ex 0, (((((head29 w note (out ++ sel (surelyP x w note) k n) x.boys.length).set 24 (I x.boys.length)).set 25 (.box 0 0)).set 26 (rowV 11 (x.boys.map Boy.av) x.bnil)).set 27 (I x.boys.length)).set 28 (.bool false), st29 x (out ++ sel (surelyP x w note) k n))
  | 0, k, out, hk, ho => by
    have : k = x.boys.length := by omega
    subst this
    have hlen := hx.lenB
    rw [run_loop]
    simp [body29_0, keep29_0, head29, st29, Book.cells, hlen, sel]
  | n + 1, k, out, hk, ho => by
    have hlt : k < x.boys.length := by omega
    have g := good_of hc
    have hbl := g.bl
    have hlen := hx.lenB
    have hw : IntKind.wrap .i64 ((k : Int) + 1) = k + 1 := wrap_small (by omega) (by omega)
    have hb : x.boys[k]? = some x.boys[k] := List.getElem?_eq_getElem hlt
    have hs := rSing_call x hx hc hf k w x.boys[k] hb note
    have h2 := surelyP_two x hf w note k x.boys[k] hb
    have hbytes : (out.length + 1) * 8 ≤ 140737488355328 := by omega
    simp only [Book.av, Book.cells] at hs
    generalize countV (nCan x.boys[k].loss w note (wholeOf x k x.boys[k] [] w)) (voicesOf x k x.boys[k] []).length = q at *
    have key : run Cv 29 (.loop keep29_0 body29_0) (head29 w note out k) (st29 x out) = run Cv 29 (.loop keep29_0 body29_0) (head29 w note (out ++ if surelyP x w note k then [(k : Int)] else []) (k + 1)) (st29 x (out ++ if surelyP x w note k then [(k : Int)] else [])) := by
      rw [run_loop]
      generalize MC.loop keep29_0 body29_0 = L
      cases hp : surelyP x w note k with
      | false =>
        rw [hp] at h2
        have h3 : ¬ q = 2 := by simpa using h2
        by_cases ho' : out = []
        · simp [body29_0, keep29_0, head29, st29, outE, outCh, hlt, hs, hw, under, ho', Book.cells, hlen, h3, h2]
        · simp [body29_0, keep29_0, head29, st29, outE, outCh, hlt, hs, hw, under, ho', Book.cells, hlen, h3, h2]
      | true =>
        rw [hp] at h2
        have h3 : q = 2 := by simpa using h2
        subst h3
        by_cases ho' : out = []
        · simp [body29_0, keep29_0, head29, st29, outE, outCh, hlt, hs, hw, under, ho', Book.cells, hlen, fillE, AV.isAgg, appA, elemsA, grown, ints]
        · simp [body29_0, keep29_0, head29, st29, outE, outCh, hlt, hs, hw, under, ho', Book.cells, hlen, fillE, AV.isAgg, appA, elemsA, grown, ints, hbytes]
    rw [key]
    have := loop29 x hx hc hf w note n (k + 1) (out ++ if surelyP x w note k then [(k : Int)] else []) (by omega) (by split <;> simp <;> omega)
    simpa [sel, List.append_assoc] using this
end Go.Ai

set_option maxRecDepth 100000
set_option linter.unusedSimpArgs false
set_option linter.unusedVariables false
namespace Go.Ai
theorem rSurely_call (x : Book) (hx : x.Ok) (week note : Int) : ∃ y, IsRow 1 (ints (if askE x (isWeekB x week && isNoteB note) = 0 then sel (surelyP x week note) 0 x.boys.length else [])) y ∧ call Cv 29 [x.av, I week, I note] = some (.tup [y, I (askE x (isWeekB x week && isNoteB note))]) := by
  have h1 := rAsked_call x hx (isWeekB x week && isNoteB note)
  have h3 := rWeek_call x week
  have h4 := rNote_call note
  simp only [Book.av, Book.cells] at h1 h3
  rw [show (decide (0 ≤ week) && decide (week ≤ IntKind.wrap .i64 (x.weeks - 1))) = isWeekB x week from rfl] at h3
  rw [show (decide (0 ≤ note) && decide (note ≤ 40)) = isNoteB note from rfl] at h4
  rcases ask_cases x (isWeekB x week && isNoteB note) with ⟨h0, hc, his, hf, hB⟩ | ⟨h0, B, hB1, hB2, hB3⟩
  · rw [Bool.and_eq_true] at his
    obtain ⟨hiw, hin⟩ := his
    rw [hiw, hin, Bool.and_self] at h1 h0
    have hiw' := hiw
    simp only [isWeekB, Bool.and_eq_true, decide_eq_true_eq] at hiw'
    obtain ⟨w, rfl⟩ := Int.eq_ofNat_of_zero_le hiw'.1
    have hl := loop29 x hx hc hf w note x.boys.length 0 [] (by omega) (by simp)
    obtain ⟨y, p1, p2⟩ := outE_pur (sel (surelyP x w note) 0 x.boys.length)
    simp only [st29, outCh, if_true, Book.cells, List.nil_append] at hl
    refine ⟨y, by simpa [hiw, hin, h0] using p2, ?_⟩
    rw [call_def comp29]
    simp [code29, Book.av, Book.cells, h1, h3, h4, hiw, hin, h0, fillE]
    rw [run_loop_mask, show mask keep29_0 _ = head29 w note [] (0 : Nat) from by simp [keep29_0, head29, outE]]
    rw [hl]
    simp [head29, p1]
  · refine ⟨.nils, .inl ⟨rfl, by rw [if_neg h0]; rfl⟩, ?_⟩
    cases hj : isWeekB x week with
    | true =>
      rw [hj] at h1 h0 h3
      simp only [Bool.true_and] at h1 h0
      rw [call_def comp29]
      simp [code29, Book.av, Book.cells, h1, h3, h4, h0]
    | false =>
      rw [hj] at h1 h0 h3
      simp only [Bool.false_and] at h1 h0
      rw [call_def comp29]
      simp [code29, Book.av, Book.cells, h1, h3, h4, h0]
/-! ### Must -/
theorem fold_high (f : Vo → Int) (w : Int) : ∀ (l : List Vo) (s : Span), (l.foldl (spanStep f) s).high ≤ w ↔ s.high ≤ w ∧ ∀ v ∈ l, f v ≤ w
  | [], s => by simp
  | v :: l, s => by
    rw [List.foldl_cons, fold_high f w l]
    simp only [spanStep, List.forall_mem_cons]
    constructor
    · rintro ⟨h1, h2⟩
      split at h1
      · exact ⟨by omega, h1, h2⟩
      · exact ⟨h1, by omega, h2⟩
    · rintro ⟨h1, h2, h3⟩
      refine ⟨?_, h3⟩
      split <;> assumption
theorem span_high (f : Vo → Int) (w : Int) (l : List Vo) (h : l ≠ []) : (spanOf f l).high ≤ w ↔ ∀ v ∈ l, f v ≤ w := by
  match l, h with
  | v :: l, _ =>
    simp only [spanOf]
    rw [fold_high]
    simp
theorem broken_high (x : Book) (hc : checkOk x = true) (hf : fine x [] = true) (w : Int) (k : Nat) (b : Boy) (hb : x.boys[k]? = some b) : decide ((knownS x k 4).high ≤ w) = brokenP x w k := by
  have hne := fine_ne hf hb
  have hT : (Ts x [] x.boys 0)[k]? = some (voicesOf x k b []) := by rw [Ts_get, hb]; simp
  have h1 : knownS x (k : Int) 4 = spanOf (fun v => v.get 4) (voicesOf x k b []) := by simp [knownS, hT]
  rw [h1, Bool.eq_iff_iff, decide_eq_true_eq, span_high _ _ _ hne]
  simp only [brokenP, hb, wholeOf, decide_eq_true_eq, List.filter_eq_nil_iff, Int.not_lt]
  exact Iff.rfl
def st32 (x : Book) (out : List Int) : St := { boxes := [x.cells], chains := outCh out }
def head32 (week : Int) (out : List Int) (k : Int) : Env := [.any, I week, .box 0 0, .any, .any, .any, .any, outE out, I k] ++ List.replicate 33 .any
theorem isBoyB_nat (x : Book) (k : Nat) (h : k < x.boys.length) : isBoyB x (k : Int) = true := by simp [isBoyB]; omega
theorem loop32 (x : Book) (hx : x.Ok) (hc : checkOk x = true) (hf : fine x [] = true) (w : Int) : ∀ (n k : Nat) (out : List Int), k + n = x.boys.length → out.length ≤ k →
    run Cv 32 (.loop keep32_0 body32_0) (head32 w out k) (st32 x out) = some (.ex 0, (((((head32 w (out ++ sel (brokenP x w) k n) x.boys.length).set 20 (I x.boys.length)).set 21 (.box 0 0)).set 22 (rowV 11 (x.boys.map Boy.av) x.bnil)).set 23 (I x.boys.length)).set 24 (.bool false), st32 x (out ++ sel (brokenP x w) k n))
  | 0, k, out, hk, ho => by
    have : k = x.boys.length := by omega
    subst this
    have hlen := hx.lenB
    rw [run_loop]
    simp [body32_0, keep32_0, head32, st32, Book.cells, hlen, sel]
  | n + 1, k, out, hk, ho => by
    have hlt : k < x.boys.length := by omega
    have g := good_of hc
    have hbl := g.bl
    have hlen := hx.lenB
    have hw : IntKind.wrap .i64 ((k : Int) + 1) = k + 1 := wrap_small (by omega) (by omega)
    have hb : x.boys[k]? = some x.boys[k] := List.getElem?_eq_getElem hlt
    have h0 : askE x (isBoyB x (k : Int)) = 0 := by rw [isBoyB_nat x k hlt]; simp [askE, hc, hf]
    have hs := rBreaks_call x hx (k : Int)
    have h2 := broken_high x hc hf w k x.boys[k] hb
    have hbytes : (out.length + 1) * 8 ≤ 140737488355328 := by omega
    simp only [knownR, h0, if_true, Span.av, Book.av, Book.cells] at hs
    generalize (knownS x (k : Int) 4).high = hi at *
    generalize (knownS x (k : Int) 4).low = lo at *
    have key : run Cv 32 (.loop keep32_0 body32_0) (head32 w out k) (st32 x out) = run Cv 32 (.loop keep32_0 body32_0) (head32 w (out ++ if brokenP x w k then [(k : Int)] else []) (k + 1)) (st32 x (out ++ if brokenP x w k then [(k : Int)] else [])) := by
      rw [run_loop]
      generalize MC.loop keep32_0 body32_0 = L
      cases hp : brokenP x w k with
      | false =>
        rw [hp] at h2
        have h3 : ¬ hi ≤ w := by simpa using h2
        by_cases ho' : out = []
        · simp [body32_0, keep32_0, head32, st32, outE, outCh, hlt, hs, hw, under, ho', Book.cells, hlen, h3, h2]
        · simp [body32_0, keep32_0, head32, st32, outE, outCh, hlt, hs, hw, under, ho', Book.cells, hlen, h3, h2]
      | true =>
        rw [hp] at h2
        have h3 : hi ≤ w := by simpa using h2
        by_cases ho' : out = []
        · simp [body32_0, keep32_0, head32, st32, outE, outCh, hlt, hs, hw, under, ho', Book.cells, hlen, fillE, AV.isAgg, appA, elemsA, grown, ints, h3, h2]
        · simp [body32_0, keep32_0, head32, st32, outE, outCh, hlt, hs, hw, under, ho', Book.cells, hlen, fillE, AV.isAgg, appA, elemsA, grown, ints, hbytes, h3, h2]
    rw [key]
    have := loop32 x hx hc hf w n (k + 1) (out ++ if brokenP x w k then [(k : Int)] else []) (by omega) (by split <;> simp <;> omega)
    simpa [sel, List.append_assoc] using this
theorem rMust_call (x : Book) (hx : x.Ok) (week : Int) : ∃ y, IsRow 1 (ints (if askE x (isWeekB x week) = 0 then sel (brokenP x week) 0 x.boys.length else [])) y ∧ call Cv 32 [x.av, I week] = some (.tup [y, I (askE x (isWeekB x week))]) := by
  have h1 := rAsked_call x hx (isWeekB x week)
  have h3 := rWeek_call x week
  simp only [Book.av, Book.cells] at h1 h3
  rw [show (decide (0 ≤ week) && decide (week ≤ IntKind.wrap .i64 (x.weeks - 1))) = isWeekB x week from rfl] at h3
  rcases ask_cases x (isWeekB x week) with ⟨h0, hc, hiw, hf, hB⟩ | ⟨h0, B, hB1, hB2, hB3⟩
  · have hl := loop32 x hx hc hf week x.boys.length 0 [] (by omega) (by simp)
    obtain ⟨y, p1, p2⟩ := outE_pur (sel (brokenP x week) 0 x.boys.length)
    simp only [st32, outCh, if_true, Book.cells, List.nil_append] at hl
    refine ⟨y, by simpa [h0] using p2, ?_⟩
    rw [call_def comp32]
    simp [code32, Book.av, Book.cells, h1, h3, h0, fillE]
    rw [run_loop_mask, show mask keep32_0 _ = head32 week [] (0 : Nat) from by simp [keep32_0, head32, outE]]
    rw [hl]
    simp [head32, p1]
  · refine ⟨.nils, .inl ⟨rfl, by rw [if_neg h0]; rfl⟩, ?_⟩
    rw [call_def comp32]
    simp [code32, Book.av, Book.cells, h1, h3, h0]
end Go.Ai

set_option maxRecDepth 100000
set_option linter.unusedSimpArgs false
set_option linter.unusedVariables false
namespace Go.Ai
def head34i (boy week i : Int) (a : Bool) (note : Int) : Env := [.any, I boy, I week, .any, .box 0 0, .any, .any, .box 1 0, .any, .any, .any, I i, .bool a, I note] ++ List.replicate 46 .any
def head34o (boy week k : Int) : Env := [.any, I boy, I week, .any, .box 0 0, .any, .any, .box 1 0, .any, .any, .any, I k] ++ List.replicate 48 .any
def st34 (x : Book) (s : Span) : St := { boxes := [x.cells, [I s.low, I s.high]] }
theorem loop34i (x : Book) (hx : x.Ok) (hc : checkOk x = true) (hf : fine x [] = true) (s : Span) (hs : s.high ≤ 40) (boy : Int) (w i : Nat) (hi : i < x.boys.length) : ∀ (m : Nat) (note : Int) (a : Bool), note + m = s.high + 1 → 0 ≤ note →
    ∃ e, run Cv 34 (.loop keep34_0 body34_0) (head34i boy w i a note) (st34 x s) = some (.ex 2, e, st34 x s) ∧ e[12]? = some (.bool (a && allNotes x w i m note)) ∧ e[11]? = some (I i) ∧ e.length = 60 ∧ ∀ a b c d, mask keep34_1 ((((e.set 58 a).set 36 b).set 37 c).set 11 d) = (head34o boy w 0).set 11 d
  | m, note, false, hn, h0 => by
    rw [run_loop]
    simp [body34_0, keep34_0, head34i, keep34_1, head34o]
  | 0, note, true, hn, h0 => by
    have h1 : ¬ note ≤ s.high := by omega
    rw [run_loop]
    simp [body34_0, keep34_0, head34i, st34, h1, allNotes, keep34_1, head34o]
  | m + 1, note, true, hn, h0 => by
    have h1 : note ≤ s.high := by omega
    have hb : x.boys[i]? = some x.boys[i] := List.getElem?_eq_getElem hi
    have h := rSing_call x hx hc hf i w x.boys[i] hb note
    have h2 := surelyP_two x hf w note i x.boys[i] hb
    have hwr : IntKind.wrap .i64 (note + 1) = note + 1 := wrap_small (by omega) (by omega)
    simp only [Book.av, Book.cells] at h
    generalize countV (nCan x.boys[i].loss w note (wholeOf x i x.boys[i] [] w)) (voicesOf x i x.boys[i] []).length = q at *
    have key : run Cv 34 (.loop keep34_0 body34_0) (head34i boy w i true note) (st34 x s) = run Cv 34 (.loop keep34_0 body34_0) (head34i boy w i (surelyP x w note i) (note + 1)) (st34 x s) := by
      rw [← h2, run_loop]
      generalize MC.loop keep34_0 body34_0 = L
      simp [body34_0, keep34_0, head34i, st34, h1, Book.cells, h, hwr, under]
    obtain ⟨e, g1, g2, g3, g4, g5⟩ := loop34i x hx hc hf s hs boy w i hi m (note + 1) (surelyP x w note i) (by omega) (by omega)
    exact ⟨e, by rw [key, g1], by simpa [allNotes] using g2, g3, g4, g5⟩
theorem loop34o (x : Book) (hx : x.Ok) (hc : checkOk x = true) (hf : fine x [] = true) (s : Span) (h0 : 0 ≤ s.low) (hsp : s.low ≤ s.high) (hs : s.high ≤ 40) (boy : Int) (w : Nat) : ∀ (n k : Nat), k + n = x.boys.length →
    ∃ e c σ, run Cv 34 (.loop keep34_1 body34_1) (head34o boy w k) (st34 x s) = some (c, e, σ) ∧ e.length = 60 ∧
      ((c = .ex 0 ∧ heirFrom (fun k => allNotes x w k (s.high + 1 - s.low).toNat s.low) boy k n = none) ∨ (c = .rt ∧ ∃ h, heirFrom (fun k => allNotes x w k (s.high + 1 - s.low).toNat s.low) boy k n = some h ∧ e[8]? = some (I h) ∧ e[9]? = some (I 0)))
  | 0, k, hk => by
    have : k = x.boys.length := by omega
    subst this
    have hlen := hx.lenB
    have key : ∃ e σ, run Cv 34 (.loop keep34_1 body34_1) (head34o boy w x.boys.length) (st34 x s) = some (.ex 0, e, σ) ∧ e.length = 60 := by
      rw [run_loop]
      simp [body34_1, keep34_1, head34o, st34, Book.cells, hlen]
    obtain ⟨e, σ, h1, h2⟩ := key
    exact ⟨e, _, σ, h1, h2, .inl ⟨rfl, rfl⟩⟩
  | n + 1, k, hk => by
    have hlt : k < x.boys.length := by omega
    have hbl := hx.blen
    have hlen := hx.lenB
    have hwr : IntKind.wrap .i64 ((k : Int) + 1) = k + 1 := wrap_small (by omega) (by omega)
    have ih := loop34o x hx hc hf s h0 hsp hs boy w n (k + 1) (by omega)
    obtain ⟨e, g1, g2, g3, g4, g5⟩ := loop34i x hx hc hf s hs boy w k hlt (s.high + 1 - s.low).toNat s.low (decide ((k : Int) ≠ boy)) (by omega) h0
    have g2' : ∀ h : 12 < e.length, e[12] = .bool (decide ((k : Int) ≠ boy) && allNotes x w k (s.high + 1 - s.low).toNat s.low) := fun h => (List.getElem?_eq_some_iff.1 g2).2
    have g3' : ∀ h : 11 < e.length, e[11] = I k := fun h => (List.getElem?_eq_some_iff.1 g3).2
    have hq : ((k : Int) ≠ boy ∧ allNotes x w k (s.high + 1 - s.low).toNat s.low = true) ↔ (decide ((k : Int) ≠ boy) && allNotes x w k (s.high + 1 - s.low).toNat s.low) = true := by simp
    have hne : ((k : Int) != boy) = decide ((k : Int) ≠ boy) := by rw [Bool.eq_iff_iff]; simp
    cases hall : (decide ((k : Int) ≠ boy) && allNotes x w k (s.high + 1 - s.low).toNat s.low) with
    | true =>
      rw [hall] at g2 g2' hq
      have key : ∃ e σ, run Cv 34 (.loop keep34_1 body34_1) (head34o boy w k) (st34 x s) = some (.rt, e, σ) ∧ e.length = 60 ∧ e[8]? = some (I k) ∧ e[9]? = some (I 0) := by
        rw [run_loop]
        simp [body34_1, keep34_1, head34o, st34, Book.cells, hlen, hlt, hne]
        rw [run_loop_mask]
        rw [show mask keep34_0 _ = head34i boy w k (decide ((k : Int) ≠ boy)) s.low from by simp [keep34_0, head34i]]
        simp only [st34, Book.cells] at g1
        rw [g1]
        simp [g2', g3', g4]
      obtain ⟨e, σ, h1, h2, h3, h4⟩ := key
      refine ⟨e, _, σ, h1, h2, .inr ⟨rfl, k, ?_, h3, h4⟩⟩
      rw [heirFrom, if_pos (hq.2 rfl)]
    | false =>
      rw [hall] at g2 g2' hq
      have key : run Cv 34 (.loop keep34_1 body34_1) (head34o boy w k) (st34 x s) = run Cv 34 (.loop keep34_1 body34_1) (head34o boy w (k + 1)) (st34 x s) := by
        rw [run_loop, show mask keep34_1 (head34o boy w k) = head34o boy w k from by simp [keep34_1, head34o]]
        generalize MC.loop keep34_1 body34_1 = L
        simp only [body34_1]
        simp [-mask, -cut, head34o, st34, Book.cells, hlen, hlt, hne]
        rw [run_loop_mask]
        rw [show mask keep34_0 _ = head34i boy w k (decide ((k : Int) ≠ boy)) s.low from by simp [keep34_0, head34i]]
        simp only [st34, Book.cells] at g1
        rw [g1]
        have h6 : ∀ v v' : AV, ((e.set 37 v).set 11 v')[11]? = some v' := fun v v' => List.getElem?_set_self (by rw [List.length_set]; omega)
        have h7 : ∀ v : AV, (e.set 37 v)[37]? = some v := fun v => List.getElem?_set_self (by omega)
        simp [-mask, -cut, g2', g3', g4, hwr]
        rw [g5, cut_self _ _ (by simp) (by simp)]
        simp [head34o]
      rw [key]
      have : ¬ ((k : Int) ≠ boy ∧ allNotes x w k (s.high + 1 - s.low).toNat s.low = true) := fun h => by have := hq.1 h; cases this
      rw [heirFrom, if_neg this]
      exact ih

theorem rHeir_call (x : Book) (hx : x.Ok) (boy week : Int) (s : Span) : call Cv 34 [x.av, I boy, I week, s.av] = some (.tup [I (heirV x boy week s), I (heirE x boy week s)]) := by
  have h1 := rAsked_call x hx (isBoyB x boy && isWeekB x week && spanOk s 40 40)
  have h2 := rBoy_call x hx boy
  have h3 := rWeek_call x week
  have h4 := fair_call s 0 40 40
  simp only [fair_span] at h4
  simp only [Book.av, Book.cells] at h1 h2 h3
  rw [show (decide (0 ≤ boy) && decide (boy < x.boys.length)) = isBoyB x boy from rfl] at h2
  rw [show (decide (0 ≤ week) && decide (week ≤ IntKind.wrap .i64 (x.weeks - 1))) = isWeekB x week from rfl] at h3
  rcases ask_cases x (isBoyB x boy && isWeekB x week && spanOk s 40 40) with ⟨h0, hc, his, hf, hB⟩ | ⟨h0, B, hB1, hB2, hB3⟩
  · rw [Bool.and_eq_true, Bool.and_eq_true] at his
    obtain ⟨⟨his, hiw⟩, hin⟩ := his
    rw [his, hiw, hin, Bool.and_self, Bool.and_self] at h1 h0
    have hiw' := hiw
    have hin' := hin
    simp only [isWeekB, Bool.and_eq_true, decide_eq_true_eq] at hiw'
    simp only [spanOk, Bool.and_eq_true, decide_eq_true_eq] at hin'
    obtain ⟨w, rfl⟩ := Int.eq_ofNat_of_zero_le hiw'.1
    obtain ⟨e, c, σ, g1, g2, g3⟩ := loop34o x hx hc hf s hin'.1.1.1 hin'.1.1.2 hin'.1.2 boy w x.boys.length 0 (by omega)
    simp only [st34, Book.cells] at g1
    rw [call_def comp34]
    simp [code34, Book.av, Book.cells, Span.av, h1, h2, h3, h4, his, hiw, hin, h0]
    rw [run_loop_mask]
    rw [show mask keep34_1 _ = head34o boy w (0 : Nat) from by simp [keep34_1, head34o]]
    rw [g1]
    rcases g3 with ⟨rfl, g3⟩ | ⟨rfl, h, g3, g4, g5⟩
    · simp [g2, g3, heirE, heirV, his, hiw, hin, h0]
    · simp [g4, g5, g3, heirE, heirV, his, hiw, hin, h0]
  · have hE : heirE x boy week s = askE x (isBoyB x boy && isWeekB x week && spanOk s 40 40) := by simp [heirE, h0]
    have hV : heirV x boy week s = 0 := by simp [heirV, h0]
    cases hi : isBoyB x boy with
    | true =>
      cases hj : isWeekB x week with
      | true =>
        rw [hi, hj] at h1 h0 hE
        simp only [Bool.true_and] at h1 h0 hE
        rw [hi] at h2
        rw [hj] at h3
        rw [call_def comp34]
        simp [code34, Book.av, Book.cells, Span.av, h1, h2, h3, h4, h0, hE, hV]
      | false =>
        rw [hi, hj] at h1 h0 hE
        simp only [Bool.true_and, Bool.and_false, Bool.false_and] at h1 h0 hE
        rw [hi] at h2
        rw [hj] at h3
        rw [call_def comp34]
        simp [code34, Book.av, Book.cells, Span.av, h1, h2, h3, h4, h0, hE, hV]
    | false =>
      rw [hi] at h1 h2 h0 hE
      simp only [Bool.false_and] at h1 h0 hE
      rw [call_def comp34]
      simp [code34, Book.av, Book.cells, Span.av, h1, h2, h3, h4, h0, hE, hV]
end Go.Ai
