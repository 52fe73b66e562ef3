/- This text shows what can be so of a boy, in plain terms. No conditions of its own. -/
import Derived.Test.YtcndfpjjcbjhpaaDoorRefC
import Derived.Test.YtcndfpjjcbjhpaaDoorHelp
set_option linter.unusedSimpArgs false
set_option linter.unusedVariables false
set_option maxRecDepth 100000
set_option linter.unusedSimpArgs false
set_option linter.unusedVariables false
namespace Go.Ai
/-! ## What can be so of a boy, in plain terms -/
theorem vals_iff {s : Span} {n : Int} : n ∈ vals s ↔ s.low ≤ n ∧ n ≤ s.high := by
  refine ⟨mem_vals, fun h => ?_⟩
  simp only [vals, List.mem_map, List.mem_range]
  exact ⟨(n - s.low).toNat, by omega, by omega⟩
theorem enum_iff (b : Boy) (ok : Vo → Bool) : ∀ (d : Nat), d ≤ 4 → ∀ (v w : Vo), w ∈ enum b ok d v ↔ (∀ j, j < 4 - d → w.get j = v.get j) ∧ (∀ j, j < 5 → 4 - d ≤ j → w.get j ∈ vals (b.span j)) ∧ ok w = true
  | 0, _, v, w => by
    simp only [enum, List.mem_filter, List.mem_map]
    constructor
    · rintro ⟨⟨n, hn, rfl⟩, ho⟩
      refine ⟨fun j hj => by rw [get_put _ _ _ (by omega) (by omega), if_neg (by omega)], fun j hj hj' => ?_, ho⟩
      have : j = 4 := by omega
      subst this
      rw [get_put _ _ _ (by omega) (by omega), if_pos rfl]
      exact hn
    · rintro ⟨h1, h2, h3⟩
      refine ⟨⟨w.get 4, h2 4 (by omega) (by omega), ?_⟩, h3⟩
      refine Vo.ext5 fun j hj => ?_
      rw [get_put _ _ _ (by omega) hj]
      by_cases h : j = 4
      · rw [if_pos h, h]
      · rw [if_neg h, h1 j (by omega)]
  | d + 1, hd, v, w => by
    simp only [enum, List.mem_flatMap]
    constructor
    · rintro ⟨n, hn, h⟩
      obtain ⟨h1, h2, h3⟩ := (enum_iff b ok d (by omega) _ w).1 h
      refine ⟨fun j hj => by rw [h1 j (by omega), get_put _ _ _ (by omega) (by omega), if_neg (by omega)], fun j hj hj' => ?_, h3⟩
      by_cases hjd : j = 3 - d
      · subst hjd
        rw [h1 _ (by omega), get_put _ _ _ (by omega) (by omega), if_pos rfl]
        exact hn
      · exact h2 j hj (by omega)
    · rintro ⟨h1, h2, h3⟩
      refine ⟨w.get (3 - d), h2 _ (by omega) (by omega), (enum_iff b ok d (by omega) _ w).2 ⟨fun j hj => ?_, fun j hj hj' => h2 j hj (by omega), h3⟩⟩
      rw [get_put _ _ _ (by omega) (by omega)]
      by_cases hjd : j = 3 - d
      · rw [if_pos hjd, hjd]
      · rw [if_neg hjd, h1 j (by omega)]
/-- A voice within what the book tells of a boy. -/
structure InS (b : Boy) (v : Vo) : Prop where
  low : b.low.low ≤ v.low ∧ v.low ≤ b.low.high
  high : b.high.low ≤ v.high ∧ v.high ≤ b.high.high
  gain : b.gain.low ≤ v.gain ∧ v.gain ≤ b.gain.high
  turn : b.turn.low ≤ v.turn ∧ v.turn ≤ b.turn.high
  brk : b.brk.low ≤ v.brk ∧ v.brk ≤ b.brk.high
theorem voices_iff (x : Book) (i : Nat) (b : Boy) (but : List Int) (v : Vo) : v ∈ voicesOf x i b but ↔ InS b v ∧ rightFrom b.loss v i but x.trials 0 = true := by
  rw [voicesOf, enum_iff b _ 4 (by omega)]
  constructor
  · rintro ⟨_, h2, h3⟩
    exact ⟨⟨vals_iff.1 (h2 0 (by omega) (by omega)), vals_iff.1 (h2 1 (by omega) (by omega)), vals_iff.1 (h2 2 (by omega) (by omega)), vals_iff.1 (h2 3 (by omega) (by omega)), vals_iff.1 (h2 4 (by omega) (by omega))⟩, h3⟩
  · rintro ⟨h, h3⟩
    refine ⟨fun j hj => by omega, fun j hj _ => ?_, h3⟩
    have : j = 0 ∨ j = 1 ∨ j = 2 ∨ j = 3 ∨ j = 4 := by omega
    rcases this with rfl | rfl | rfl | rfl | rfl
    · exact vals_iff.2 h.low
    · exact vals_iff.2 h.high
    · exact vals_iff.2 h.gain
    · exact vals_iff.2 h.turn
    · exact vals_iff.2 h.brk
theorem right_iff (loss : Int) (v : Vo) (i : Int) (but : List Int) : ∀ (l : List Trial) (k : Nat), rightFrom loss v i but l k = true ↔ ∀ (j : Nat) (t : Trial), l[j]? = some t → t.boy = i → ¬ ((k + j : Nat) : Int) ∈ but → canW loss v t.week t.note = decide (t.sang = 1)
  | [], k => by simp [rightFrom]
  | a :: l, k => by
    rw [rightFrom, Bool.and_eq_true, right_iff loss v i but l (k + 1)]
    constructor
    · rintro ⟨h1, h2⟩ j t ht hb hn
      cases j with
      | zero =>
        simp only [List.getElem?_cons_zero, Option.some.injEq] at ht
        subst ht
        simp only [Nat.add_zero] at hn
        simpa [badT, hb, hn] using h1
      | succ j =>
        exact h2 j t (by simpa using ht) hb (by rwa [show k + 1 + j = k + (j + 1) from by omega])
    · intro h
      refine ⟨?_, fun j t ht hb hn => h (j + 1) t (by simpa using ht) hb (by rwa [show k + (j + 1) = k + 1 + j from by omega])⟩
      have := h 0 a rfl
      simp only [badT, Nat.add_zero] at this ⊢
      by_cases hb : a.boy = i
      · by_cases hn : (k : Int) ∈ but
        · simp [hn]
        · simp [hb, hn, this hb hn]
      · simp [hb]
/-- The highest note of a week. -/
def topZ (loss : Int) (v : Vo) (w : Int) : Int := v.high + (if v.turn < w then v.turn else w) * v.gain - (w - if v.turn < w then v.turn else w) * loss
structure Sml (loss : Int) (v : Vo) : Prop where
  low : 0 ≤ v.low ∧ v.low ≤ 40
  high : 0 ≤ v.high ∧ v.high ≤ 40
  gain : 0 ≤ v.gain ∧ v.gain ≤ 2
  turn : 0 ≤ v.turn ∧ v.turn ≤ 6
  brk : 0 ≤ v.brk ∧ v.brk ≤ 9
  loss : 0 ≤ loss ∧ loss ≤ 2
theorem three {n : Int} (h : 0 ≤ n ∧ n ≤ 2) : n = 0 ∨ n = 1 ∨ n = 2 := by omega
theorem top_eq {loss : Int} {v : Vo} (h : Sml loss v) {w : Int} (hw : 0 ≤ w ∧ w ≤ 6) : topW loss v w = topZ loss v w := by
  have h1 := h.high
  have h2 := h.turn
  have key : ∀ up : Int, 0 ≤ up → up ≤ w → IntKind.wrap .i64 (IntKind.wrap .i64 (v.high + IntKind.wrap .i64 (up * v.gain)) - IntKind.wrap .i64 (IntKind.wrap .i64 (w - up) * loss)) = v.high + up * v.gain - (w - up) * loss := by
    intro up h3 h4
    rw [wrap_small (n := w - up) (by omega) (by omega)]
    rcases three h.gain with hg | hg | hg <;> rcases three h.loss with hl | hl | hl <;> rw [hg, hl] <;> (rw [wrap_small (n := up * _) (by omega) (by omega), wrap_small (n := (w - up) * _) (by omega) (by omega), wrap_small (n := v.high + _) (by omega) (by omega), wrap_small (by omega) (by omega)])
  unfold topW topZ
  simp only []
  rw [key _ (by split <;> omega) (by split <;> omega)]
theorem sml_of {b : Boy} (hb : boyOk b = true) {v : Vo} (h : InS b v) : Sml b.loss v := by
  simp only [boyOk, spanOk, Bool.and_eq_true, decide_eq_true_eq] at hb
  have h1 := h.low
  have h2 := h.high
  have h3 := h.gain
  have h4 := h.turn
  have h5 := h.brk
  exact ⟨by omega, by omega, by omega, by omega, by omega, by omega⟩
/-- Can a voice sing a note in a week? -/
def canZ (loss : Int) (v : Vo) (w n : Int) : Prop := w < v.brk ∧ v.low ≤ n ∧ n ≤ topZ loss v w
theorem can_iff {loss : Int} {v : Vo} (h : Sml loss v) {w n : Int} (hw : 0 ≤ w ∧ w ≤ 6) : canW loss v w n = true ↔ canZ loss v w n := by
  have h1 := h.low
  have h0 : ¬ v.low = -1 := by omega
  simp only [canW, canZ, top_eq h hw, h0, decide_false, Bool.false_and, Bool.not_false, Bool.true_and, Bool.and_eq_true, decide_eq_true_eq, and_assoc]
/-! ### Least and greatest -/
theorem fold_span (f : Vo → Int) : ∀ (l : List Vo) (s : Span), (∀ v ∈ l, (l.foldl (spanStep f) s).low ≤ f v ∧ f v ≤ (l.foldl (spanStep f) s).high) ∧ (l.foldl (spanStep f) s).low ≤ s.low ∧ s.high ≤ (l.foldl (spanStep f) s).high ∧
    ((l.foldl (spanStep f) s).low = s.low ∨ ∃ v ∈ l, f v = (l.foldl (spanStep f) s).low) ∧ ((l.foldl (spanStep f) s).high = s.high ∨ ∃ v ∈ l, f v = (l.foldl (spanStep f) s).high)
  | [], s => ⟨fun _ h => absurd h List.not_mem_nil, Int.le_refl _, Int.le_refl _, .inl rfl, .inl rfl⟩
  | a :: l, s => by
    rw [List.foldl_cons]
    obtain ⟨h1, h2, h3, h4, h5⟩ := fold_span f l (spanStep f s a)
    have hs1 : (spanStep f s a).low ≤ s.low ∧ (spanStep f s a).low ≤ f a ∧ ((spanStep f s a).low = s.low ∨ (spanStep f s a).low = f a) := by
      unfold spanStep
      simp only []
      split <;> omega
    have hs2 : s.high ≤ (spanStep f s a).high ∧ f a ≤ (spanStep f s a).high ∧ ((spanStep f s a).high = s.high ∨ (spanStep f s a).high = f a) := by
      unfold spanStep
      simp only []
      split <;> omega
    refine ⟨fun v hv => ?_, by omega, by omega, ?_, ?_⟩
    · rcases List.mem_cons.1 hv with rfl | hv
      · omega
      · exact h1 v hv
    · rcases h4 with h4 | ⟨v, hv, h4⟩
      · rcases hs1.2.2 with h | h
        · left; omega
        · right; exact ⟨a, .head _, by omega⟩
      · right; exact ⟨v, .tail _ hv, h4⟩
    · rcases h5 with h5 | ⟨v, hv, h5⟩
      · rcases hs2.2.2 with h | h
        · left; omega
        · right; exact ⟨a, .head _, by omega⟩
      · right; exact ⟨v, .tail _ hv, h5⟩
structure Ends (P : Vo → Prop) (f : Vo → Int) (s : Span) : Prop where
  all : ∀ v, P v → s.low ≤ f v ∧ f v ≤ s.high
  least : ∃ v, P v ∧ f v = s.low
  most : ∃ v, P v ∧ f v = s.high
theorem ends_of (f : Vo → Int) (l : List Vo) (h : l ≠ []) : Ends (· ∈ l) f (spanOf f l) := by
  cases l with
  | nil => exact absurd rfl h
  | cons a l =>
    obtain ⟨h1, h2, h3, h4, h5⟩ := fold_span f (a :: l) ⟨f a, f a⟩
    refine ⟨h1, ?_, ?_⟩
    · rcases h4 with h4 | ⟨v, hv, h4⟩
      · exact ⟨a, .head _, h4.symm⟩
      · exact ⟨v, hv, h4⟩
    · rcases h5 with h5 | ⟨v, hv, h5⟩
      · exact ⟨a, .head _, h5.symm⟩
      · exact ⟨v, hv, h5⟩
theorem Ends.congr {P Q : Vo → Prop} {f g : Vo → Int} {s : Span} (h : Ends P f s) (hp : ∀ v, P v ↔ Q v) (hf : ∀ v, P v → f v = g v) : Ends Q g s where
  all v hv := by rw [← hf v ((hp v).2 hv)]; exact h.all v ((hp v).2 hv)
  least := by obtain ⟨v, h1, h2⟩ := h.least; exact ⟨v, (hp v).1 h1, by rw [← hf v h1, h2]⟩
  most := by obtain ⟨v, h1, h2⟩ := h.most; exact ⟨v, (hp v).1 h1, by rw [← hf v h1, h2]⟩
theorem Ends.le {P : Vo → Prop} {f : Vo → Int} {s : Span} (h : Ends P f s) : s.low ≤ s.high := by
  obtain ⟨v, hv, _⟩ := h.least
  have := h.all v hv
  omega
/-- What is so of less is within. -/
theorem Ends.sub {P Q : Vo → Prop} {f : Vo → Int} {s t : Span} (h : Ends P f s) (h' : Ends Q f t) (hs : ∀ v, P v → Q v) : t.low ≤ s.low ∧ s.high ≤ t.high := by
  obtain ⟨v, hv, e1⟩ := h.least
  obtain ⟨w, hw, e2⟩ := h.most
  have h1 := h'.all v (hs v hv)
  have h2 := h'.all w (hs w hw)
  omega
theorem Ends.uniq {P : Vo → Prop} {f : Vo → Int} {s t : Span} (h : Ends P f s) (h' : Ends P f t) : s = t := by
  have h1 := h.sub h' fun _ h => h
  have h2 := h'.sub h fun _ h => h
  cases s
  cases t
  simp only at h1 h2
  simp only [Span.mk.injEq]
  omega
theorem nCan_all (loss w n : Int) : ∀ l : List Vo, (nCan loss w n l = l.length ↔ ∀ v ∈ l, canW loss v w n = true)
  | [] => by simp [nCan]
  | a :: l => by
    have ih := nCan_all loss w n l
    have h1 := nCan_le loss w n l
    rw [nCan]
    simp only [List.length_cons, List.mem_cons, forall_eq_or_imp]
    cases canW loss a w n with
    | true =>
      simp only [if_true, true_and]
      rw [← ih]
      push_cast
      omega
    | false =>
      simp only [Bool.false_eq_true, if_false, false_and, iff_false]
      push_cast
      omega
theorem nCan_none (loss w n : Int) : ∀ l : List Vo, (nCan loss w n l = 0 ↔ ∀ v ∈ l, canW loss v w n = false)
  | [] => by simp [nCan]
  | a :: l => by
    have ih := nCan_none loss w n l
    have h1 := nCan_le loss w n l
    rw [nCan]
    simp only [List.mem_cons, forall_eq_or_imp]
    cases canW loss a w n with
    | true => simp; omega
    | false =>
      simp only [Bool.false_eq_true, if_false, true_and]
      rw [← ih]
      omega
end Go.Ai

set_option maxRecDepth 100000
set_option linter.unusedSimpArgs false
set_option linter.unusedVariables false
namespace Go.Ai
/-! ## What the questions answer, of a book that is fit -/
/-- What can be so of a boy. -/
def Tru (x : Book) (i : Nat) (v : Vo) : Prop := ∃ b, x.boys[i]? = some b ∧ InS b v ∧ rightFrom b.loss v i [] x.trials 0 = true
theorem tru_iff {x : Book} {i : Nat} {b : Boy} (hb : x.boys[i]? = some b) (v : Vo) : v ∈ voicesOf x i b [] ↔ Tru x i v := by
  rw [voices_iff]
  constructor
  · rintro ⟨h1, h2⟩; exact ⟨b, hb, h1, h2⟩
  · rintro ⟨b', hb', h1, h2⟩
    obtain rfl : b' = b := Option.some.inj (hb'.symm.trans hb)
    exact ⟨h1, h2⟩
theorem tru_boy {x : Book} {i : Nat} {b : Boy} (hb : x.boys[i]? = some b) {v : Vo} (h : Tru x i v) : InS b v ∧ rightFrom b.loss v i [] x.trials 0 = true := by
  obtain ⟨b', hb', h1, h2⟩ := h
  obtain rfl : b' = b := Option.some.inj (hb'.symm.trans hb)
  exact ⟨h1, h2⟩
theorem fine_iff (x : Book) : fine x [] = true ↔ ∀ i, i < x.boys.length → ∃ v, Tru x i v := by
  constructor
  · intro h i hi
    have hb : x.boys[i]? = some x.boys[i] := List.getElem?_eq_getElem hi
    have := fine_ne h hb
    cases hv : voicesOf x i x.boys[i] [] with
    | nil => exact absurd hv this
    | cons v l => exact ⟨v, (tru_iff hb v).1 (by rw [hv]; exact .head _)⟩
  · intro h
    rw [fine, List.all_eq_true]
    intro l hl
    obtain ⟨i, hi, rfl⟩ := List.getElem_of_mem hl
    have hlen : i < x.boys.length := by rw [Ts_length] at hi; exact hi
    have hb : x.boys[i]? = some x.boys[i] := List.getElem?_eq_getElem hlen
    have hg : (Ts x [] x.boys 0)[i]? = some (voicesOf x i x.boys[i] []) := by rw [Ts_get, hb]; simp
    have hge : (Ts x [] x.boys 0)[i] = voicesOf x i x.boys[i] [] := (List.getElem?_eq_some_iff.1 hg).2
    rw [hge]
    obtain ⟨v, hv⟩ := h i hlen
    have := (tru_iff hb v).2 hv
    cases hvl : voicesOf x i x.boys[i] [] with
    | nil => rw [hvl] at this; cases this
    | cons => rfl
/-- A book that is fit, and a boy and a week of it. -/
structure At (x : Book) (i w : Nat) (b : Boy) : Prop where
  ok : x.Ok
  fit : checkOk x = true
  boy : x.boys[i]? = some b
  week : (w : Int) < x.weeks
theorem At.sml {x i w b} (h : At x i w b) {v : Vo} (hv : Tru x i v) : Sml b.loss v := sml_of (List.all_eq_true.1 (good_of h.fit).boys b (List.mem_of_getElem? h.boy)) (tru_boy h.boy hv).1
theorem At.w6 {x i w b} (h : At x i w b) : (0 : Int) ≤ w ∧ (w : Int) ≤ 6 := by
  have := (good_of h.fit).w6
  have := h.week
  omega
theorem At.lt {x i w b} (h : At x i w b) : i < x.boys.length := (List.getElem?_eq_some_iff.1 h.boy).1
theorem At.isB {x i w b} (h : At x i w b) : isBoyB x i = true := by
  have := h.lt
  simp [isBoyB]; omega
theorem At.isW {x i w b} (h : At x i w b) : isWeekB x w = true := by
  have h1 := h.week
  have h2 := h.w6
  have h3 := (good_of h.fit).w6
  simp only [isWeekB, Bool.and_eq_true, decide_eq_true_eq]
  rw [wrap_small (by omega) (by omega)]
  omega
theorem ask_fine {x : Book} (hc : checkOk x = true) : askE x true = if fine x [] = true then 0 else 22 := by
  simp only [askE, hc, Bool.true_eq_false, if_false]
  cases fine x [] <;> simp
theorem At.known {x i w b} (h : At x i w b) (hf : fine x [] = true) (k : Nat) : knownR x i k = .tup [Span.av (knownS x i k), I 0] ∧ Ends (Tru x i) (fun v => v.get k) (knownS x i k) := by
  have e : askE x (isBoyB x i) = 0 := by rw [h.isB, ask_fine h.fit, if_pos hf]
  refine ⟨by simp [knownR, e], ?_⟩
  have hT : (Ts x [] x.boys 0)[i]? = some (voicesOf x i b []) := by rw [Ts_get, h.boy]; simp
  have hk : knownS x i k = spanOf (fun v => v.get k) (voicesOf x i b []) := by simp [knownS, hT]
  rw [hk]
  exact (ends_of _ _ (fine_ne hf h.boy)).congr (fun v => tru_iff h.boy v) fun _ _ => rfl
theorem At.lowest {x i w b} (h : At x i w b) (hf : fine x [] = true) : ∃ s : Span, call Cv 19 [x.av, I i] = some (.tup [s.av, I 0]) ∧ Ends (Tru x i) (·.low) s :=
  ⟨_, by rw [Lowest_call x h.ok, (h.known hf 0).1], (h.known hf 0).2⟩
theorem At.breaks {x i w b} (h : At x i w b) (hf : fine x [] = true) : ∃ s : Span, call Cv 21 [x.av, I i] = some (.tup [s.av, I 0]) ∧ Ends (Tru x i) (·.brk) s :=
  ⟨_, by rw [Breaks_call x h.ok, (h.known hf 4).1], (h.known hf 4).2⟩
theorem At.whole {x i w b} (h : At x i w b) (v : Vo) : v ∈ wholeOf x i b [] w ↔ Tru x i v ∧ (w : Int) < v.brk := by
  rw [wholeOf, List.mem_filter, tru_iff h.boy, decide_eq_true_eq]
theorem At.highest {x i w b} (h : At x i w b) (hf : fine x [] = true) : ∃ (s : Span) (e : Int), call Cv 23 [x.av, I i, I w] = some (.tup [s.av, I e]) ∧
    ((e = 4 ∧ s = ⟨0, 0⟩ ∧ ∀ v, Tru x i v → v.brk ≤ w) ∨ (e = 0 ∧ Ends (fun v => Tru x i v ∧ (w : Int) < v.brk) (fun v => topZ b.loss v w) s)) := by
  have hq : askE x (isBoyB x i && isWeekB x w) = 0 := by rw [h.isB, h.isW, Bool.and_self, ask_fine h.fit, if_pos hf]
  have hw : wholeB x i w = wholeOf x i b [] w := by simp [wholeB, h.boy]
  have hl : lossB x i = b.loss := by simp [lossB, h.boy]
  refine ⟨highS x i w, highE x i w, Highest_call x h.ok i w, ?_⟩
  have he : highE x i w = if wholeOf x i b [] w = [] then 4 else 0 := by rw [highE, if_pos hq, hw]
  by_cases hn : wholeOf x i b [] w = []
  · rw [if_pos hn] at he
    refine .inl ⟨he, by simp [highS, he], fun v hv => ?_⟩
    have := mt (h.whole v).2 (by rw [hn]; exact List.not_mem_nil)
    simp only [hv, true_and] at this
    omega
  · rw [if_neg hn] at he
    refine .inr ⟨he, ?_⟩
    have : highS x i w = spanOf (fun v => topW b.loss v w) (wholeOf x i b [] w) := by simp [highS, he, hw, hl]
    rw [this]
    exact (ends_of _ _ hn).congr (fun v => h.whole v) fun v hv => top_eq (h.sml ((h.whole v).1 hv).1) h.w6
theorem At.can {x i w b} (h : At x i w b) {v : Vo} (hv : Tru x i v) (n : Int) : canW b.loss v w n = true ↔ canZ b.loss v w n := can_iff (h.sml hv) h.w6
theorem At.all {x i w b} (h : At x i w b) (hf : fine x [] = true) (n : Int) : nCan b.loss w n (wholeOf x i b [] w) = (voicesOf x i b []).length ↔ ∀ v, Tru x i v → canZ b.loss v w n := by
  have h1 := nCan_le b.loss w n (wholeOf x i b [] w)
  have h2 := filter_short x i b [] w
  constructor
  · intro he v hv
    have hlen : (wholeOf x i b [] w).length = (voicesOf x i b []).length := by omega
    have hwh : wholeOf x i b [] w = voicesOf x i b [] := by
      rw [wholeOf, List.filter_eq_self]
      intro u hu
      exact List.length_filter_eq_length_iff.1 hlen u hu
    rw [← hlen] at he
    exact (h.can hv n).1 ((nCan_all _ _ _ _).1 he v (by rw [hwh]; exact (tru_iff h.boy v).2 hv))
  · intro ha
    have hwh : wholeOf x i b [] w = voicesOf x i b [] := by
      rw [wholeOf, List.filter_eq_self]
      intro u hu
      have := ha u ((tru_iff h.boy u).1 hu)
      simp only [decide_eq_true_eq]
      exact this.1
    rw [hwh]
    refine (nCan_all _ _ _ _).2 fun v hv => ?_
    have hv' := (tru_iff h.boy v).1 hv
    exact (h.can hv' n).2 (ha v hv')
theorem At.none {x i w b} (h : At x i w b) (n : Int) : nCan b.loss w n (wholeOf x i b [] w) = 0 ↔ ∀ v, Tru x i v → ¬ canZ b.loss v w n := by
  rw [nCan_none]
  constructor
  · intro ha v hv hcz
    have := ha v ((h.whole v).2 ⟨hv, hcz.1⟩)
    rw [(h.can hv n).2 hcz] at this
    cases this
  · intro ha v hv
    have hv' := ((h.whole v).1 hv).1
    cases hcw : canW b.loss v w n with
    | false => rfl
    | true => exact absurd ((h.can hv' n).1 hcw) (ha v hv')
theorem At.sings {x i w b} (h : At x i w b) (hf : fine x [] = true) (n : Int) (hn : isNoteB n = true) : ∃ k : Int, call Cv 26 [x.av, I i, I w, I n] = some (.tup [I k, I 0]) ∧ (0 ≤ k ∧ k ≤ 2) ∧
    (k = 2 ↔ ∀ v, Tru x i v → canZ b.loss v w n) ∧ (k = 0 ↔ ∀ v, Tru x i v → ¬ canZ b.loss v w n) := by
  have hq : askE x (isBoyB x i && isWeekB x w && isNoteB n) = 0 := by rw [h.isB, h.isW, hn, Bool.and_self, Bool.and_self, ask_fine h.fit, if_pos hf]
  have hT : (Ts x [] x.boys 0)[i]? = some (voicesOf x i b []) := by rw [Ts_get, h.boy]; simp
  have hs : singsN x i w n = countV (nCan b.loss w n (wholeOf x i b [] w)) (voicesOf x i b []).length := by simp [singsN, wholeB, lossB, h.boy, hT]
  refine ⟨singsN x i w n, by rw [Sings_call x h.ok, hq]; rfl, ?_⟩
  have hpos : 0 < (voicesOf x i b []).length := List.length_pos_iff.2 (fine_ne hf h.boy)
  rw [hs, ← h.all hf n, ← h.none n, countV]
  have hle := nCan_le b.loss w n (wholeOf x i b [] w)
  generalize nCan b.loss w n (wholeOf x i b [] w) = c at *
  split <;> split <;> omega
theorem At.surely {x i w b} (h : At x i w b) (hf : fine x [] = true) (n : Int) : surelyP x w n i = true ↔ ∀ v, Tru x i v → canZ b.loss v w n := by
  rw [← h.all hf n, surelyP, h.boy]
  simp
theorem At.broken {x i w b} (h : At x i w b) : brokenP x w i = true ↔ ∀ v, Tru x i v → v.brk ≤ w := by
  rw [brokenP, h.boy]
  simp only [decide_eq_true_eq]
  constructor
  · intro hn v hv
    have := mt (h.whole v).2 (by rw [hn]; exact List.not_mem_nil)
    simp only [hv, true_and] at this
    omega
  · intro ha
    rw [List.eq_nil_iff_forall_not_mem]
    intro v hv
    have h1 := (h.whole v).1 hv
    have := ha v h1.1
    omega
theorem At.sure {x i w b} (h : At x i w b) (hf : fine x [] = true) (n : Int) (hn : isNoteB n = true) : call Cv 28 [x.av, I w, I n] = some (.tup [fullV (sel (surelyP x w n) 0 x.boys.length), I 0]) := by
  rw [Surely_call x h.ok, h.isW, hn, Bool.and_self, ask_fine h.fit, if_pos hf, if_pos rfl]
theorem At.must {x i w b} (h : At x i w b) (hf : fine x [] = true) : call Cv 31 [x.av, I w] = some (.tup [fullV (sel (brokenP x w) 0 x.boys.length), I 0]) := by
  rw [Must_call x h.ok, h.isW, ask_fine h.fit, if_pos hf, if_pos rfl]
/-! ### A book that cannot be true -/
theorem At.lowest' {x i w b} (h : At x i w b) (hf : fine x [] = false) : call Cv 19 [x.av, I i] = some (.tup [.agg [I 0, I 0], I 22]) := by
  rw [Lowest_call x h.ok, knownR, h.isB, ask_fine h.fit, hf]; rfl
theorem At.breaks' {x i w b} (h : At x i w b) (hf : fine x [] = false) : call Cv 21 [x.av, I i] = some (.tup [.agg [I 0, I 0], I 22]) := by
  rw [Breaks_call x h.ok, knownR, h.isB, ask_fine h.fit, hf]; rfl
theorem At.highest' {x i w b} (h : At x i w b) (hf : fine x [] = false) : call Cv 23 [x.av, I i, I w] = some (.tup [.agg [I 0, I 0], I 22]) := by
  have : highE x i w = 22 := by rw [highE, h.isB, h.isW, Bool.and_self, ask_fine h.fit, hf]; rfl
  rw [Highest_call x h.ok, highS, this]; rfl
theorem At.sings' {x i w b} (h : At x i w b) (hf : fine x [] = false) (n : Int) (hn : isNoteB n = true) : call Cv 26 [x.av, I i, I w, I n] = some (.tup [I 0, I 22]) := by
  rw [Sings_call x h.ok, h.isB, h.isW, hn, Bool.and_self, Bool.and_self, ask_fine h.fit, hf]; rfl
theorem At.sure' {x i w b} (h : At x i w b) (hf : fine x [] = false) (n : Int) (hn : isNoteB n = true) : call Cv 28 [x.av, I w, I n] = some (.tup [.nils, I 22]) := by
  rw [Surely_call x h.ok, h.isW, hn, Bool.and_self, ask_fine h.fit, hf]; rfl
theorem At.must' {x i w b} (h : At x i w b) (hf : fine x [] = false) : call Cv 31 [x.av, I w] = some (.tup [.nils, I 22]) := by
  rw [Must_call x h.ok, h.isW, ask_fine h.fit, hf]; rfl
end Go.Ai

set_option maxRecDepth 100000
set_option linter.unusedSimpArgs false
set_option linter.unusedVariables false
namespace Go.Ai
/-! ## What truly is so can be so -/
def trueV (b : Boy) (bits : List Int) (i : Nat) : Vo := ⟨drawI b.low (nthI bits i), drawI b.high (nthI bits (i + 2)), drawI b.gain (nthI bits (i + 3)), drawI b.turn (nthI bits (i + 4)), drawI b.brk (nthI bits (i + 1))⟩
theorem true_in {b : Boy} (hb : boyOk b = true) (bits : List Int) (i : Nat) : InS b (trueV b bits i) := by
  simp only [boyOk, spanOk, Bool.and_eq_true, decide_eq_true_eq] at hb
  exact ⟨draw_range _ _ (by omega), draw_range _ _ (by omega), draw_range _ _ (by omega), draw_range _ _ (by omega), draw_range _ _ (by omega)⟩
theorem tops_get {loss : Int} {v : Vo} (h : Sml loss v) : ∀ (n w j : Nat), j < n → (topsF v.gain v.turn loss (topZ loss v w) w n).getD j 0 = topZ loss v ((w + j : Nat) : Int)
  | 0, _, _, hj => absurd hj (Nat.not_lt_zero _)
  | n + 1, w, 0, _ => rfl
  | n + 1, w, j + 1, hj => by
    have step : (if (w : Int) < v.turn then topZ loss v w + v.gain else topZ loss v w - loss) = topZ loss v ((w + 1 : Nat) : Int) := by
      unfold topZ
      push_cast
      rcases three h.gain with hg | hg | hg <;> rcases three h.loss with hl | hl | hl <;> rw [hg, hl] <;> (split <;> split <;> split <;> omega)
    rw [topsF, List.getD_cons_succ, step, tops_get h n (w + 1) j (by omega)]
    congr 2
    omega
theorem top_zero (loss : Int) (v : Vo) (h : 0 ≤ v.turn) : topZ loss v ((0 : Nat) : Int) = v.high := by
  unfold topZ
  have : (if v.turn < ((0 : Nat) : Int) then v.turn else ((0 : Nat) : Int)) = 0 := by
    split
    · omega
    · rfl
  rw [this]
  simp
theorem true_top {b : Boy} (hb : boyOk b = true) (bits : List Int) (i W w : Nat) (hw : w < W) : (trueK W b bits i).tops.getD w 0 = topZ b.loss (trueV b bits i) w := by
  have hs := sml_of hb (true_in hb bits i)
  have := tops_get hs W 0 w hw
  rw [top_zero _ _ hs.turn.1, Nat.zero_add] at this
  exact this
theorem true_sings {b : Boy} (hb : boyOk b = true) (bits : List Int) (i W w : Nat) (hw : w < W) (n : Int) : (trueK W b bits i).sings w n = true ↔ canZ b.loss (trueV b bits i) w n := by
  simp only [Kn.sings, canZ, Int.toNat_natCast, true_top hb bits i W w hw, Bool.and_eq_true, decide_eq_true_eq]
  exact Iff.rfl
theorem trueL_get (W : Nat) (bits : List Int) : ∀ (l : List Boy) (k i : Nat), (trueL W bits l k)[i]? = (l[i]?).map fun b => trueK W b bits (k + i)
  | [], _, _ => by simp [trueL]
  | b :: l, k, 0 => by simp [trueL]
  | b :: l, k, i + 1 => by
    have := trueL_get W bits l (k + 1) i
    simp only [trueL, List.getElem?_cons_succ, this]
    congr 2
    funext b
    congr 1
    omega
theorem trueL_len (W : Nat) (bits : List Int) : ∀ (l : List Boy) (k : Nat), (trueL W bits l k).length = l.length
  | [], _ => rfl
  | b :: l, k => by rw [trueL, List.length_cons, List.length_cons, trueL_len W bits l]
theorem trueL_tops (W : Nat) (bits : List Int) : ∀ (l : List Boy) (k : Nat), ∀ q ∈ trueL W bits l k, q.tops.length = W
  | [], _, q, h => absurd h List.not_mem_nil
  | b :: l, k, q, h => by
    rw [trueL] at h
    rcases List.mem_cons.1 h with rfl | h
    · exact topsF_len _ _ _ _ _ _
    · exact trueL_tops W bits l (k + 1) q h
section
variable {x : Book} (hx : x.Ok) (hc : checkOk x = true) (bits : List Int)
/-- The book with right trials. -/
def rightB (x : Book) (bits : List Int) : Book := x.having (x.trials.map (fixT (trueL x.weeks.toNat bits x.boys 0)))
include hx in
theorem rightB_ok (x' : Book) (h : x' = rightB x bits) : x'.Ok := by
  subst h
  exact having_ok hx _ (by rw [List.length_map]; exact hx.tlen)
include hc in
theorem rightB_check : checkOk (rightB x bits) = true := by
  have g := good_of hc
  have g1 := g.tr
  simp only [checkOk, rightB, Book.having, List.length_map, Bool.and_eq_true] at hc ⊢
  refine ⟨hc.1, ?_⟩
  rw [List.all_eq_true] at g1 ⊢
  intro t ht
  obtain ⟨t0, h0, rfl⟩ := List.mem_map.1 ht
  have := g1 t0 h0
  simp only [trialOk, Bool.and_eq_true, decide_eq_true_eq] at this ⊢
  refine ⟨this.1, ?_⟩
  simp only [fixT]
  split <;> split <;> decide
include hc in
theorem rightB_tru (i : Nat) (b : Boy) (hb : x.boys[i]? = some b) : Tru (rightB x bits) i (trueV b bits i) := by
  have g := good_of hc
  have hbo := List.all_eq_true.1 g.boys b (List.mem_of_getElem? hb)
  refine ⟨b, hb, true_in hbo bits i, ?_⟩
  rw [right_iff]
  intro j t ht htb _
  have ht' : (x.trials.map (fixT (trueL x.weeks.toNat bits x.boys 0)))[j]? = some t := ht
  rw [List.getElem?_map] at ht'
  obtain ⟨t0, h0, rfl⟩ := Option.map_eq_some_iff.1 ht'
  have ho : trialOk x t0 = true := List.all_eq_true.1 g.tr t0 (List.mem_of_getElem? h0)
  simp only [trialOk, Bool.and_eq_true, decide_eq_true_eq] at ho
  have hw1 := g.w1
  have hw6 := g.w6
  rw [wrap_small (by omega) (by omega)] at ho
  have htb0 : t0.boy = i := htb
  obtain ⟨w, hw⟩ := Int.eq_ofNat_of_zero_le (show 0 ≤ t0.week by omega)
  have hl : (trueL x.weeks.toNat bits x.boys 0)[t0.boy.toNat]? = some (trueK x.weeks.toNat b bits i) := by
    rw [htb0, Int.toNat_natCast, trueL_get, hb]; simp
  have hcan := can_iff (sml_of hbo (true_in hbo bits i)) (w := w) (n := t0.note) (by omega)
  have hsing := true_sings hbo bits i x.weeks.toNat w (by omega) t0.note
  simp only [fixT, hl, hw]
  cases hs : (trueK x.weeks.toNat b bits i).sings w t0.note with
  | true => simpa using hcan.2 (hsing.1 hs)
  | false =>
    cases hcw : canW b.loss (trueV b bits i) w t0.note with
    | false => rfl
    | true => rw [hsing.2 (hcan.1 hcw)] at hs; cases hs
include hc in
theorem rightB_fine : fine (rightB x bits) [] = true := by
  rw [fine_iff]
  intro i hi
  exact ⟨_, rightB_tru hc bits i _ (List.getElem?_eq_getElem (show i < x.boys.length from hi))⟩
end
theorem wrongL_fine {x : Book} (hf : fine x [] = true) : wrongL x = [] := by
  unfold wrongL
  split
  · rw [wrongFrom, chooseM, if_pos hf]; rfl
  · rfl
theorem ordF_sel (p : Nat → Bool) (T : Int) : ∀ (n k : Nat) (q : Int), q < k → ((k + n : Nat) : Int) ≤ T → ordF T q (sel p k n) = true
  | 0, _, _, _, _ => rfl
  | n + 1, k, q, hq, hT => by
    rw [sel]
    split
    · simp only [List.singleton_append, ordF, Bool.and_eq_true, decide_eq_true_eq]
      exact ⟨⟨⟨by omega, by omega⟩, hq⟩, ordF_sel p T n (k + 1) k (by omega) (by omega)⟩
    · rw [List.nil_append]
      exact ordF_sel p T n (k + 1) q (by omega) (by omega)
end Go.Ai
