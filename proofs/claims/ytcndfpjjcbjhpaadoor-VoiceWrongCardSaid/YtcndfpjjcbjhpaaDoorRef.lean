/- This text shows what the reference answers. No conditions of its own. -/
import Derived.Test.YtcndfpjjcbjhpaaDoorFnD
set_option linter.unusedSimpArgs false
set_option linter.unusedVariables false
set_option maxRecDepth 100000
set_option linter.unusedSimpArgs false
set_option linter.unusedVariables false
namespace Go.Ai
def hasB (set n : Int) : Bool := decide (0 ≤ n) && decide (n < 62) && (set.toNat.testBit n.toNat)
theorem and1 (m : Nat) : m < 2 ^ 62 → IntKind.wrap .i64 ((BitVec.ofInt 64 (m : Int) &&& BitVec.ofInt 64 1).toNat : Int) = ((m % 2 : Nat) : Int) := by
  intro h
  have : (BitVec.ofInt 64 (m : Int) &&& BitVec.ofInt 64 1).toNat = m % 2 := by
    rw [BitVec.toNat_and]
    have h1 : (BitVec.ofInt 64 (m : Int)).toNat = m := by
      rw [BitVec.toNat_ofInt]; omega
    have h2 : (BitVec.ofInt 64 (1 : Int)).toNat = 1 := by decide
    rw [h1, h2, Nat.and_one_is_mod]
  rw [this]
  exact wrap_small (by omega) (by omega)
theorem has_call (set : Nat) (hs : set < 2 ^ 62) (n : Int) : call Cv 92 [I set, I n] = some (.bool (hasB set n)) := by
  rw [call_def comp92]
  by_cases h0 : 0 ≤ n
  · by_cases h1 : n < 62
    · obtain ⟨k, rfl⟩ := Int.eq_ofNat_of_zero_le h0
      have hk : k < 62 := by omega
      have hmin : min k 64 = k := by omega
      have hsh : Int.fdiv (set : Int) (2 ^ k) = ((set / 2 ^ k : Nat) : Int) := by
        rw [Int.fdiv_eq_ediv_of_nonneg _ (by exact Int.le_of_lt (Int.pow_pos (by decide)))]
        norm_cast
      have hlt : set / 2 ^ k < 2 ^ 62 := Nat.lt_of_le_of_lt (Nat.div_le_self _ _) hs
      have ha := and1 (set / 2 ^ k) hlt
      have hneg : ¬ (k : Int) < 0 := by omega
      have hbit : (((set / 2 ^ k % 2 : Nat) : Int) == 1) = set.testBit k := by
        rw [Nat.testBit_eq_decide_div_mod_eq, Bool.eq_iff_iff, beq_iff_eq, decide_eq_true_eq]
        exact ⟨fun h => by exact_mod_cast h, fun h => by exact_mod_cast h⟩
      simp [code92, h0, h1, binI, hneg, IntKind.bits, hmin, hsh, hasB, hk]
      rw [← hbit]
      have ha' : IntKind.wrap .i64 ((BitVec.ofInt 64 ((set : Int) / 2 ^ k) &&& 1#64).toNat : Int) = ((set / 2 ^ k % 2 : Nat) : Int) := by
        have e : ((set : Int) / 2 ^ k) = ((set / 2 ^ k : Nat) : Int) := by norm_cast
        rw [e]; exact ha
      exact congrArg (fun z : Int => z == 1) ha'
    · simp [code92, h0, h1, hasB]
  · simp [code92, h0, hasB]

theorem only_call (a : Int) : call Cv 47 [I a] = some (Span.av ⟨a, a⟩) := by
  rw [call_def comp47]
  simp [code47, fillA, Span.av]
theorem bounds_call (a b : Int) : call Cv 51 [I a, I b] = some (Span.av ⟨a, b⟩) := by
  rw [call_def comp51]
  simp [code51, fillA, Span.av]
def join (s t : Span) : Span := ⟨if t.low < s.low then t.low else s.low, if s.high < t.high then t.high else s.high⟩
theorem join_call (s t : Span) : call Cv 100 [s.av, t.av] = some (Span.av (join s t)) := by
  have h := bounds_call (join s t).low (join s t).high
  simp only [join, Span.av] at h
  rw [call_def comp100]
  simp [code100, Span.av, foldA, min2, max2, h, join]
/-- A voice of the reference's. -/
def Vo.c6 (v : Vo) (loss : Int) : List AV := [I v.low, I v.high, I v.gain, I v.turn, I loss, I v.brk]
def Vo.a6 (loss : Int) (v : Vo) : AV := .agg (v.c6 loss)
theorem rTop_call (v : Vo) (loss week : Int) : call Cv 80 [v.a6 loss, I week] = some (I (topW loss v week)) := by
  rw [call_def comp80]
  simp [code80, Vo.a6, Vo.c6, foldA, min2, topW]
def canR (loss : Int) (v : Vo) (week note : Int) : Bool := decide (week < v.brk) && (decide (v.low ≤ note) && decide (note ≤ topW loss v week))
theorem rCan_call (v : Vo) (loss week note : Int) : call Cv 102 [v.a6 loss, I week, I note] = some (.bool (canR loss v week note)) := by
  have h := rTop_call v loss week
  simp only [Vo.a6, Vo.c6] at h
  rw [call_def comp102]
  by_cases hw : week < v.brk
  · simp [code102, Vo.a6, Vo.c6, h, lies_call, canR, hw]
  · simp [code102, Vo.a6, Vo.c6, h, lies_call, canR, hw]
def badR (loss : Int) (v : Vo) (boy : Int) (set : Nat) (k : Nat) (tr : Trial) : Bool := decide (tr.boy = boy) && (!hasB set k) && (canR loss v tr.week tr.note != decide (tr.sang = 1))
def rightR (loss : Int) (v : Vo) (boy : Int) (set : Nat) : List Trial → Nat → Bool
  | [], _ => true
  | tr :: l, k => !badR loss v boy set k tr && rightR loss v boy set l (k + 1)
def head99 (boy set k : Int) : Env := [.any, I boy, .any, I set, .box 0 0, .any, .box 1 0, .any, .any, I k] ++ List.replicate 35 .any
theorem loop99 (x : Book) (hx : x.Ok) (boy : Int) (loss : Int) (v : Vo) (set : Nat) (hset : set < 2 ^ 62) : ∀ (l : List Trial) (k : Nat), k ≤ x.trials.length → x.trials.drop k = l →
    ∃ e c σ, run Cv 99 (.loop keep99_0 body99_0) (head99 boy set k) { boxes := [x.cells, v.c6 loss] } = some (c, e, σ) ∧
      ((c = .ex 0 ∧ rightR loss v boy set l k = true) ∨ (c = .rt ∧ rightR loss v boy set l k = false ∧ e[8]? = some (.bool false))) ∧ e.length = 45
  | [], k, hk, h => by
    have : k = x.trials.length := Nat.le_antisymm hk (by simpa using h)
    subst this
    have hlen := hx.lenT
    have key : ∃ e σ, run Cv 99 (.loop keep99_0 body99_0) (head99 boy set x.trials.length) { boxes := [x.cells, v.c6 loss] } = some (.ex 0, e, σ) ∧ e.length = 45 := by
      rw [run_loop]
      simp [body99_0, keep99_0, head99, Book.cells, hlen]
    obtain ⟨e, σ, k1, k2⟩ := key
    exact ⟨e, .ex 0, σ, k1, .inl ⟨rfl, rfl⟩, k2⟩
  | tr :: l, k, hk, h => by
    have hb' : x.trials[k]? = some tr := by
      have : (x.trials.drop k)[0]? = some tr := by rw [h]; rfl
      simpa using this
    have hlt : k < x.trials.length := (List.getElem?_eq_some_iff.1 hb').1
    have hlen := hx.tlen
    have hlen' := hx.lenT
    have hn : x.tnil ≠ .nil := fun hn => by rw [hx.trials hn] at hlt; simp at hlt
    have hrow : rowV 4 (x.trials.map Trial.av) x.tnil = .sl 4 (x.trials.map Trial.av) x.tnil.cap := rowV_some hn
    have hi : (k : Int) < (x.trials.length : Int) := by omega
    have hw : IntKind.wrap .i64 ((k : Int) + 1) = k + 1 := wrap_small (by omega) (by omega)
    have hbb : x.trials[k] = tr := (List.getElem?_eq_some_iff.1 hb').2
    have h1 := rCan_call v loss tr.week tr.note
    simp only [Vo.a6, Vo.c6] at h1
    have h2 := has_call set hset k
    have hbe : (tr.sang == 1) = decide (tr.sang = 1) := by rw [Bool.eq_iff_iff]; simp
    cases hbad : badR loss v boy set k tr with
    | false =>
      have key : run Cv 99 (.loop keep99_0 body99_0) (head99 boy set k) { boxes := [x.cells, v.c6 loss] } = run Cv 99 (.loop keep99_0 body99_0) (head99 boy set (k + 1)) { boxes := [x.cells, v.c6 loss] } := by
        have e1 : tr.boy = boy ∧ hasB set k = false → (canR loss v tr.week tr.note = decide (tr.sang = 1)) := by
          rintro ⟨q1, q2⟩
          simpa [badR, q1, q2] using hbad
        rw [run_loop]
        generalize MC.loop keep99_0 body99_0 = L
        by_cases q1 : tr.boy = boy
        · cases q2 : hasB set k with
          | true =>
            rw [q2] at h2
            simp [body99_0, keep99_0, head99, hi, hb', hrow, Book.cells, Trial.av, hw, hlt, under, hbb, h1, h2, Vo.c6, q1]
          | false =>
            rw [q2] at h2
            have e2 := e1 ⟨q1, q2⟩
            simp [body99_0, keep99_0, head99, hi, hb', hrow, Book.cells, Trial.av, hw, hlt, under, hbb, h1, h2, Vo.c6, q1, e2, hbe]
        · simp [body99_0, keep99_0, head99, hi, hb', hrow, Book.cells, Trial.av, hw, hlt, under, hbb, h1, h2, Vo.c6, q1]
      rw [key]
      have := loop99 x hx boy loss v set hset l (k + 1) hlt (by rw [← List.drop_drop, h]; rfl)
      simpa [rightR, hbad] using this
    | true =>
      have hbad' := hbad
      simp only [badR, Bool.and_eq_true, decide_eq_true_eq, Bool.not_eq_true'] at hbad
      obtain ⟨⟨q1, q2⟩, q3⟩ := hbad
      have q4 : ¬ (canR loss v tr.week tr.note = decide (tr.sang = 1)) := by simpa using q3
      rw [q2] at h2
      have key : ∃ e σ, run Cv 99 (.loop keep99_0 body99_0) (head99 boy set k) { boxes := [x.cells, v.c6 loss] } = some (.rt, e, σ) ∧ e[8]? = some (.bool false) ∧ e.length = 45 := by
        rw [run_loop]
        simp [body99_0, keep99_0, head99, hi, hb', hrow, Book.cells, Trial.av, hlt, under, hbb, h1, h2, Vo.c6, q1, q4, hbe]
      obtain ⟨e, σ, k1, k2, k3⟩ := key
      exact ⟨e, .rt, σ, k1, .inr ⟨rfl, by simp [rightR, hbad'], k2⟩, k3⟩
theorem rRight_call (x : Book) (hx : x.Ok) (boy : Int) (loss : Int) (v : Vo) (set : Nat) (hset : set < 2 ^ 62) : call Cv 99 [x.av, I boy, v.a6 loss, I set] = some (.bool (rightR loss v boy set x.trials 0)) := by
  obtain ⟨e, c, σ, h1, h2, h3⟩ := loop99 x hx boy loss v set hset x.trials 0 (Nat.zero_le _) rfl
  simp only [Book.cells, Vo.c6] at h1
  rw [call_def comp99]
  simp [code99, Book.av, Book.cells, Vo.a6, Vo.c6]
  rw [run_loop_mask]
  rw [show mask keep99_0 _ = head99 boy set (0 : Nat) from by simp [keep99_0, head99]]
  rw [h1]
  rcases h2 with ⟨rfl, h2⟩ | ⟨rfl, h2, h4⟩
  · simp [h2, h3]
  · simp [h2, h4]
end Go.Ai

set_option maxRecDepth 100000
set_option linter.unusedSimpArgs false
set_option linter.unusedVariables false
namespace Go.Ai
def seqI : Int → Nat → List Int
  | _, 0 => []
  | n, m + 1 => n :: seqI (n + 1) m
theorem vals_seq (s : Span) : vals s = seqI s.low (s.high - s.low + 1).toNat := by
  have : ∀ (m : Nat) (a : Int), (List.range m).map (fun (i : Nat) => a + (i : Int)) = seqI a m := by
    intro m
    induction m with
    | zero => intro a; rfl
    | succ m ih =>
      intro a
      rw [List.range_succ_eq_map, List.map_cons, seqI, ← ih (a + 1), List.map_map]
      simp only [Int.natCast_zero, Int.add_zero, List.cons.injEq, true_and]
      refine List.map_congr_left fun i _ => ?_
      simp only [Function.comp]
      omega
  exact this _ _
def okR (x : Book) (boy : Int) (loss : Int) (set : Nat) (v : Vo) : Bool := rightR loss v boy set x.trials 0
def rowR (loss : Int) (out : List Vo) : AV := if out = [] then .nils else .sl 6 (out.map (Vo.a6 loss)) (.chain 0)
def chR (out : List Vo) : List (Nat × Nat) := if out = [] then [] else [(out.length, 6)]
def stR (x : Book) (b : Boy) (out : List Vo) (v : Vo) : St := { boxes := [x.cells, b.cells, v.c6 b.loss], chains := chR out }
def headR (loss boy set : Int) (out : List Vo) : Env := [.any, I boy, I set, .box 0 0, .any, .any, .any, rowR loss out, .box 1 0, .box 2 0] ++ List.replicate 88 .any
theorem cutR_st (x : Book) (b : Boy) (out more : List Vo) (v v' : Vo) (e : Env) (boy set : Int) (he : e = headR b.loss boy set (out ++ more)) : cut (stR x b out v) (stR x b (out ++ more) v') e = stR x b (out ++ more) v' := by
  subst he
  by_cases ho : out = []
  · by_cases hm : more = []
    · simp [stR, ho, hm, chR, headR, rowR, under, Book.cells, Boy.cells, Vo.c6]
    · simp [stR, ho, hm, chR, headR, rowR, under, Book.cells, Boy.cells, Vo.c6]
  · simp [stR, ho, chR, headR, rowR, under, Book.cells, Boy.cells, Vo.c6]
def exitE (loss boy set : Int) (out : List Vo) (t f s : Nat) (n hi : Int) : Env := ((((((headR loss boy set out).set t (.box 2 f)).set (t + 1) (I n)).set (t + 2) (.box 1 s)).set (t + 3) (.box 1 (s + 1))).set (t + 4) (I hi)).set (t + 5) (.bool false)
theorem loopR0 (x : Book) (hx : x.Ok) (boy : Int) (b : Boy) (set : Nat) (hset : set < 2 ^ 62) (hhi : b.brk.high ≤ 100) : ∀ (m : Nat) (n : Int) (out : List Vo) (v : Vo), n + m = b.brk.high + 1 → 0 ≤ n → out.length + (((seqI n m).map (v.put 4)).filter (okR x boy b.loss set)).length < 100000 →
    ∃ v' : Vo, (∀ j, j < 4 → v'.get j = v.get j) ∧ run Cv 71 (.loop keep71_0 body71_0) (headR b.loss boy set out) (stR x b out (v.put 4 n)) =
      some (.ex 8, exitE b.loss boy set (out ++ ((seqI n m).map (v.put 4)).filter (okR x boy b.loss set)) 78 5 9 (b.brk.high + 1) b.brk.high, stR x b (out ++ ((seqI n m).map (v.put 4)).filter (okR x boy b.loss set)) v')
  | 0, n, out, v, hn, h0, hl => by
    have h1 : ¬ n ≤ b.brk.high := by omega
    have h2 : n = b.brk.high + 1 := by omega
    refine ⟨v.put 4 n, fun j hj => by
      have : j = 0 ∨ j = 1 ∨ j = 2 ∨ j = 3 := by omega
      rcases this with rfl | rfl | rfl | rfl <;> rfl, ?_⟩
    rw [run_loop]
    simp [body71_0, keep71_0, headR, stR, Vo.c6, Vo.put, Boy.cells, h1, seqI, exitE]
    exact h2
  | m + 1, n, out, v, hn, h0, hl => by
    have h1 : n ≤ b.brk.high := by omega
    have hw : IntKind.wrap .i64 (n + 1) = n + 1 := wrap_small (by omega) (by omega)
    have hr := rRight_call x hx boy b.loss (v.put 4 n) set hset
    simp only [Book.av, Book.cells, Vo.a6, Vo.c6, Vo.put] at hr
    have hbytes : (out.length + 1) * 48 ≤ 140737488355328 := by omega
    have hl' : (out ++ if okR x boy b.loss set (v.put 4 n) then [v.put 4 n] else []).length + (((seqI (n + 1) m).map (v.put 4)).filter (okR x boy b.loss set)).length < 100000 := by
      simp only [seqI, List.map_cons, List.filter_cons] at hl
      cases hok : okR x boy b.loss set (v.put 4 n) <;> simp [hok] at hl ⊢ <;> omega
    have hcut := fun more v' e => cutR_st x b out more (v.put 4 n) v' e boy set
    simp only [stR, Vo.put, Vo.c6] at hcut
    have key : run Cv 71 (.loop keep71_0 body71_0) (headR b.loss boy set out) (stR x b out (v.put 4 n)) = run Cv 71 (.loop keep71_0 body71_0) (headR b.loss boy set (out ++ if okR x boy b.loss set (v.put 4 n) then [v.put 4 n] else [])) (stR x b (out ++ if okR x boy b.loss set (v.put 4 n) then [v.put 4 n] else []) (v.put 4 (n + 1))) := by
      rw [run_loop]
      generalize MC.loop keep71_0 body71_0 = L
      simp only [okR, Vo.put]
      cases hp : rightR b.loss ⟨v.low, v.high, v.gain, v.turn, n⟩ boy set x.trials 0 with
      | false =>
        rw [hp] at hr
        simp [-cut, body71_0, keep71_0, headR, stR, Vo.c6, Vo.put, Boy.cells, h1, Book.cells, hr, hw]
        have hc := hcut [] ⟨v.low, v.high, v.gain, v.turn, n + 1⟩ _ rfl
        rw [List.append_nil] at hc
        exact congrArg (run Cv 71 L _) hc
      | true =>
        rw [hp] at hr
        have hc := hcut [⟨v.low, v.high, v.gain, v.turn, n⟩] ⟨v.low, v.high, v.gain, v.turn, n + 1⟩ _ rfl
        by_cases ho : out = []
        · simp [-cut, body71_0, keep71_0, headR, stR, Vo.c6, Vo.put, Boy.cells, h1, Book.cells, hr, hw, rowR, chR, ho, fillE, AV.isAgg, appA, elemsA, grown, Vo.a6]
          simp only [ho, List.nil_append] at hc
          exact congrArg (run Cv 71 L _) hc
        · simp [-cut, body71_0, keep71_0, headR, stR, Vo.c6, Vo.put, Boy.cells, h1, Book.cells, hr, hw, rowR, chR, ho, fillE, AV.isAgg, appA, elemsA, grown, Vo.a6, hbytes]
          simp [-cut, headR, rowR, chR, ho, Vo.a6, Vo.c6, Boy.cells, Book.cells] at hc
          rw [hc]
    obtain ⟨v', g1, g2⟩ := loopR0 x hx boy b set hset hhi m (n + 1) (out ++ if okR x boy b.loss set (v.put 4 n) then [v.put 4 n] else []) v (by omega) (by omega) hl'
    refine ⟨v', g1, ?_⟩
    rw [key, g2]
    cases hok : okR x boy b.loss set (v.put 4 n) <;> simp [seqI, hok]

theorem get_put (v : Vo) (k j : Nat) (hk : k < 5) (hj : j < 5) (n : Int) : (v.put k n).get j = if j = k then n else v.get j := by
  have h1 : k = 0 ∨ k = 1 ∨ k = 2 ∨ k = 3 ∨ k = 4 := by omega
  have h2 : j = 0 ∨ j = 1 ∨ j = 2 ∨ j = 3 ∨ j = 4 := by omega
  rcases h1 with rfl | rfl | rfl | rfl | rfl <;> rcases h2 with rfl | rfl | rfl | rfl | rfl <;> rfl
theorem Vo.ext5 {v w : Vo} (h : ∀ j, j < 5 → v.get j = w.get j) : v = w := by
  have h0 := h 0 (by omega)
  have h1 := h 1 (by omega)
  have h2 := h 2 (by omega)
  have h3 := h 3 (by omega)
  have h4 := h 4 (by omega)
  cases v; cases w
  simp only [Vo.get] at h0 h1 h2 h3 h4
  subst h0 h1 h2 h3 h4
  rfl
theorem enum_congr (b : Boy) (ok : Vo → Bool) : ∀ (d : Nat), d ≤ 4 → ∀ (v w : Vo), (∀ j, j < 4 - d → v.get j = w.get j) → enum b ok d v = enum b ok d w
  | 0, _, v, w, h => by
    have : v.put 4 = w.put 4 := by
      funext n
      refine Vo.ext5 fun j hj => ?_
      rw [get_put _ _ _ (by omega) hj, get_put _ _ _ (by omega) hj]
      split
      · rfl
      · exact h j (by omega)
    simp only [enum, this]
  | d + 1, hd, v, w, h => by
    simp only [enum]
    congr 1
    funext n
    refine enum_congr b ok d (by omega) _ _ fun j hj => ?_
    rw [get_put _ _ _ (by omega) (by omega), get_put _ _ _ (by omega) (by omega)]
    split
    · rfl
    · exact h j (by omega)
end Go.Ai

set_option maxRecDepth 100000
set_option linter.unusedSimpArgs false
set_option linter.unusedVariables false
namespace Go.Ai
structure SpOk (b : Boy) : Prop where
  ok : ∀ k, k < 5 → 0 ≤ (b.span k).low ∧ (b.span k).low ≤ (b.span k).high ∧ (b.span k).high ≤ 100

theorem loopR1 (x : Book) (hx : x.Ok) (boy : Int) (b : Boy) (hsp : SpOk b) (set : Nat) (hset : set < 2 ^ 62) : ∀ (m : Nat) (n : Int) (out : List Vo) (v : Vo), n + m = b.turn.high + 1 → 0 ≤ n → out.length + ((seqI n m).flatMap fun n => enum b (okR x boy b.loss set) 0 (v.put 3 n)).length < 100000 →
    ∃ v' : Vo, (∀ j, j < 3 → v'.get j = v.get j) ∧ run Cv 71 (.loop keep71_1 body71_1) (headR b.loss boy set out) (stR x b out (v.put 3 n)) =
      some (.ex 6, exitE b.loss boy set (out ++ (seqI n m).flatMap fun n => enum b (okR x boy b.loss set) 0 (v.put 3 n)) 64 3 6 (b.turn.high + 1) b.turn.high, stR x b (out ++ (seqI n m).flatMap fun n => enum b (okR x boy b.loss set) 0 (v.put 3 n)) v')
  | 0, n, out, v, hn, h0, hl => by
    have h1 : ¬ n ≤ b.turn.high := by omega
    have h2 : n = b.turn.high + 1 := by omega
    refine ⟨v.put 3 n, fun j hj => by rw [get_put _ _ _ (by omega) (by omega), if_neg (by omega)], ?_⟩
    rw [run_loop]
    simp [body71_1, keep71_1, headR, stR, Vo.c6, Vo.put, Boy.cells, h1, seqI, exitE]
    exact h2
  | m + 1, n, out, v, hn, h0, hl => by
    have hin := hsp.ok 4 (by omega)
    have hown := hsp.ok 3 (by omega)
    simp only [Boy.span] at hin hown
    have h1 : n ≤ b.turn.high := by omega
    have hw : IntKind.wrap .i64 (n + 1) = n + 1 := wrap_small (by omega) (by omega)
    have hlist : enum b (okR x boy b.loss set) 0 (v.put 3 n) = ((seqI (b.brk.low) (b.brk.high - b.brk.low + 1).toNat).map ((v.put 3 n).put 4)).filter (okR x boy b.loss set) := by
      simp only [enum, Boy.span, vals_seq]
    have hl1 : out.length + (((seqI (b.brk.low) (b.brk.high - b.brk.low + 1).toNat).map ((v.put 3 n).put 4)).filter (okR x boy b.loss set)).length < 100000 := by
      rw [← hlist]
      rw [seqI, List.flatMap_cons, List.length_append] at hl
      omega
    obtain ⟨v1, g1, g2⟩ := loopR0 x hx boy b set hset hin.2.2 (b.brk.high - b.brk.low + 1).toNat b.brk.low out (v.put 3 n) (by omega) hin.1 hl1
    rw [← hlist] at g2
    generalize hE : enum b (okR x boy b.loss set) 0 (v.put 3 n) = more at g2
    have hown1 : v1.get 3 = n := by rw [g1 3 (by omega), get_put _ _ _ (by omega) (by omega), if_pos rfl]
    have hcut := fun e he => cutR_st x b out more (v.put 3 n) (v1.put 3 (n + 1)) e boy set he
    have key : run Cv 71 (.loop keep71_1 body71_1) (headR b.loss boy set out) (stR x b out (v.put 3 n)) = run Cv 71 (.loop keep71_1 body71_1) (headR b.loss boy set (out ++ more)) (stR x b (out ++ more) (v1.put 3 (n + 1))) := by
      have hc := hcut _ rfl
      simp only [stR, Vo.put, Vo.c6, Vo.get] at g2 hc hown1
      rw [run_loop]
      generalize MC.loop keep71_1 body71_1 = L
      simp only [body71_1]
      simp [-cut, keep71_1, headR, stR, Vo.c6, Vo.put, Boy.cells, h1]
      rw [run_loop_mask, show mask keep71_0 _ = headR b.loss boy set out from by simp [keep71_0, headR]]
      simp only [Boy.cells] at g2
      rw [g2]
      simp [-cut, exitE, headR, hown1, hw]
      exact congrArg (run Cv 71 L _) hc
    have hrest : ((seqI (n + 1) m).flatMap fun n => enum b (okR x boy b.loss set) 0 (v1.put 3 n)) = ((seqI (n + 1) m).flatMap fun n => enum b (okR x boy b.loss set) 0 (v.put 3 n)) := by
      congr 1
      funext n'
      refine enum_congr b _ 0 (by omega) _ _ fun j hj => ?_
      rw [get_put _ _ _ (by omega) (by omega), get_put _ _ _ (by omega) (by omega)]
      split
      · rfl
      · rw [g1 j (by omega), get_put _ _ _ (by omega) (by omega), if_neg (by omega)]
    obtain ⟨v2, f1, f2⟩ := loopR1 x hx boy b hsp set hset m (n + 1) (out ++ more) v1 (by omega) (by omega) (by
      rw [hrest]
      rw [seqI, List.flatMap_cons, List.length_append, hE] at hl
      rw [List.length_append]
      omega)
    refine ⟨v2, fun j hj => by rw [f1 j hj, g1 j (by omega), get_put _ _ _ (by omega) (by omega), if_neg (by omega)], ?_⟩
    rw [key, f2, hrest, seqI, List.flatMap_cons, hE, List.append_assoc]

theorem loopR2 (x : Book) (hx : x.Ok) (boy : Int) (b : Boy) (hsp : SpOk b) (set : Nat) (hset : set < 2 ^ 62) : ∀ (m : Nat) (n : Int) (out : List Vo) (v : Vo), n + m = b.gain.high + 1 → 0 ≤ n → out.length + ((seqI n m).flatMap fun n => enum b (okR x boy b.loss set) 1 (v.put 2 n)).length < 100000 →
    ∃ v' : Vo, (∀ j, j < 2 → v'.get j = v.get j) ∧ run Cv 71 (.loop keep71_2 body71_2) (headR b.loss boy set out) (stR x b out (v.put 2 n)) =
      some (.ex 4, exitE b.loss boy set (out ++ (seqI n m).flatMap fun n => enum b (okR x boy b.loss set) 1 (v.put 2 n)) 50 2 4 (b.gain.high + 1) b.gain.high, stR x b (out ++ (seqI n m).flatMap fun n => enum b (okR x boy b.loss set) 1 (v.put 2 n)) v')
  | 0, n, out, v, hn, h0, hl => by
    have h1 : ¬ n ≤ b.gain.high := by omega
    have h2 : n = b.gain.high + 1 := by omega
    refine ⟨v.put 2 n, fun j hj => by rw [get_put _ _ _ (by omega) (by omega), if_neg (by omega)], ?_⟩
    rw [run_loop]
    simp [body71_2, keep71_2, headR, stR, Vo.c6, Vo.put, Boy.cells, h1, seqI, exitE]
    exact h2
  | m + 1, n, out, v, hn, h0, hl => by
    have hin := hsp.ok 3 (by omega)
    have hown := hsp.ok 2 (by omega)
    simp only [Boy.span] at hin hown
    have h1 : n ≤ b.gain.high := by omega
    have hw : IntKind.wrap .i64 (n + 1) = n + 1 := wrap_small (by omega) (by omega)
    have hlist : enum b (okR x boy b.loss set) 1 (v.put 2 n) = (seqI (b.turn.low) (b.turn.high - b.turn.low + 1).toNat).flatMap fun n' => enum b (okR x boy b.loss set) 0 ((v.put 2 n).put 3 n') := by
      simp only [enum, Boy.span, vals_seq]
    have hl1 : out.length + ((seqI (b.turn.low) (b.turn.high - b.turn.low + 1).toNat).flatMap fun n' => enum b (okR x boy b.loss set) 0 ((v.put 2 n).put 3 n')).length < 100000 := by
      rw [← hlist]
      rw [seqI, List.flatMap_cons, List.length_append] at hl
      omega
    obtain ⟨v1, g1, g2⟩ := loopR1 x hx boy b hsp set hset (b.turn.high - b.turn.low + 1).toNat b.turn.low out (v.put 2 n) (by omega) hin.1 hl1
    rw [← hlist] at g2
    generalize hE : enum b (okR x boy b.loss set) 1 (v.put 2 n) = more at g2
    have hown1 : v1.get 2 = n := by rw [g1 2 (by omega), get_put _ _ _ (by omega) (by omega), if_pos rfl]
    have hcut := fun e he => cutR_st x b out more (v.put 2 n) (v1.put 2 (n + 1)) e boy set he
    have key : run Cv 71 (.loop keep71_2 body71_2) (headR b.loss boy set out) (stR x b out (v.put 2 n)) = run Cv 71 (.loop keep71_2 body71_2) (headR b.loss boy set (out ++ more)) (stR x b (out ++ more) (v1.put 2 (n + 1))) := by
      have hc := hcut _ rfl
      simp only [stR, Vo.put, Vo.c6, Vo.get] at g2 hc hown1
      rw [run_loop]
      generalize MC.loop keep71_2 body71_2 = L
      simp only [body71_2]
      simp [-cut, keep71_2, headR, stR, Vo.c6, Vo.put, Boy.cells, h1]
      rw [run_loop_mask, show mask keep71_1 _ = headR b.loss boy set out from by simp [keep71_1, headR]]
      simp only [Boy.cells] at g2
      rw [g2]
      simp [-cut, exitE, headR, hown1, hw]
      exact congrArg (run Cv 71 L _) hc
    have hrest : ((seqI (n + 1) m).flatMap fun n => enum b (okR x boy b.loss set) 1 (v1.put 2 n)) = ((seqI (n + 1) m).flatMap fun n => enum b (okR x boy b.loss set) 1 (v.put 2 n)) := by
      congr 1
      funext n'
      refine enum_congr b _ 1 (by omega) _ _ fun j hj => ?_
      rw [get_put _ _ _ (by omega) (by omega), get_put _ _ _ (by omega) (by omega)]
      split
      · rfl
      · rw [g1 j (by omega), get_put _ _ _ (by omega) (by omega), if_neg (by omega)]
    obtain ⟨v2, f1, f2⟩ := loopR2 x hx boy b hsp set hset m (n + 1) (out ++ more) v1 (by omega) (by omega) (by
      rw [hrest]
      rw [seqI, List.flatMap_cons, List.length_append, hE] at hl
      rw [List.length_append]
      omega)
    refine ⟨v2, fun j hj => by rw [f1 j hj, g1 j (by omega), get_put _ _ _ (by omega) (by omega), if_neg (by omega)], ?_⟩
    rw [key, f2, hrest, seqI, List.flatMap_cons, hE, List.append_assoc]

theorem loopR3 (x : Book) (hx : x.Ok) (boy : Int) (b : Boy) (hsp : SpOk b) (set : Nat) (hset : set < 2 ^ 62) : ∀ (m : Nat) (n : Int) (out : List Vo) (v : Vo), n + m = b.high.high + 1 → 0 ≤ n → out.length + ((seqI n m).flatMap fun n => enum b (okR x boy b.loss set) 2 (v.put 1 n)).length < 100000 →
    ∃ v' : Vo, (∀ j, j < 1 → v'.get j = v.get j) ∧ run Cv 71 (.loop keep71_3 body71_3) (headR b.loss boy set out) (stR x b out (v.put 1 n)) =
      some (.ex 2, exitE b.loss boy set (out ++ (seqI n m).flatMap fun n => enum b (okR x boy b.loss set) 2 (v.put 1 n)) 36 1 2 (b.high.high + 1) b.high.high, stR x b (out ++ (seqI n m).flatMap fun n => enum b (okR x boy b.loss set) 2 (v.put 1 n)) v')
  | 0, n, out, v, hn, h0, hl => by
    have h1 : ¬ n ≤ b.high.high := by omega
    have h2 : n = b.high.high + 1 := by omega
    refine ⟨v.put 1 n, fun j hj => by rw [get_put _ _ _ (by omega) (by omega), if_neg (by omega)], ?_⟩
    rw [run_loop]
    simp [body71_3, keep71_3, headR, stR, Vo.c6, Vo.put, Boy.cells, h1, seqI, exitE]
    exact h2
  | m + 1, n, out, v, hn, h0, hl => by
    have hin := hsp.ok 2 (by omega)
    have hown := hsp.ok 1 (by omega)
    simp only [Boy.span] at hin hown
    have h1 : n ≤ b.high.high := by omega
    have hw : IntKind.wrap .i64 (n + 1) = n + 1 := wrap_small (by omega) (by omega)
    have hlist : enum b (okR x boy b.loss set) 2 (v.put 1 n) = (seqI (b.gain.low) (b.gain.high - b.gain.low + 1).toNat).flatMap fun n' => enum b (okR x boy b.loss set) 1 ((v.put 1 n).put 2 n') := by
      simp only [enum, Boy.span, vals_seq]
    have hl1 : out.length + ((seqI (b.gain.low) (b.gain.high - b.gain.low + 1).toNat).flatMap fun n' => enum b (okR x boy b.loss set) 1 ((v.put 1 n).put 2 n')).length < 100000 := by
      rw [← hlist]
      rw [seqI, List.flatMap_cons, List.length_append] at hl
      omega
    obtain ⟨v1, g1, g2⟩ := loopR2 x hx boy b hsp set hset (b.gain.high - b.gain.low + 1).toNat b.gain.low out (v.put 1 n) (by omega) hin.1 hl1
    rw [← hlist] at g2
    generalize hE : enum b (okR x boy b.loss set) 2 (v.put 1 n) = more at g2
    have hown1 : v1.get 1 = n := by rw [g1 1 (by omega), get_put _ _ _ (by omega) (by omega), if_pos rfl]
    have hcut := fun e he => cutR_st x b out more (v.put 1 n) (v1.put 1 (n + 1)) e boy set he
    have key : run Cv 71 (.loop keep71_3 body71_3) (headR b.loss boy set out) (stR x b out (v.put 1 n)) = run Cv 71 (.loop keep71_3 body71_3) (headR b.loss boy set (out ++ more)) (stR x b (out ++ more) (v1.put 1 (n + 1))) := by
      have hc := hcut _ rfl
      simp only [stR, Vo.put, Vo.c6, Vo.get] at g2 hc hown1
      rw [run_loop]
      generalize MC.loop keep71_3 body71_3 = L
      simp only [body71_3]
      simp [-cut, keep71_3, headR, stR, Vo.c6, Vo.put, Boy.cells, h1]
      rw [run_loop_mask, show mask keep71_2 _ = headR b.loss boy set out from by simp [keep71_2, headR]]
      simp only [Boy.cells] at g2
      rw [g2]
      simp [-cut, exitE, headR, hown1, hw]
      exact congrArg (run Cv 71 L _) hc
    have hrest : ((seqI (n + 1) m).flatMap fun n => enum b (okR x boy b.loss set) 2 (v1.put 1 n)) = ((seqI (n + 1) m).flatMap fun n => enum b (okR x boy b.loss set) 2 (v.put 1 n)) := by
      congr 1
      funext n'
      refine enum_congr b _ 2 (by omega) _ _ fun j hj => ?_
      rw [get_put _ _ _ (by omega) (by omega), get_put _ _ _ (by omega) (by omega)]
      split
      · rfl
      · rw [g1 j (by omega), get_put _ _ _ (by omega) (by omega), if_neg (by omega)]
    obtain ⟨v2, f1, f2⟩ := loopR3 x hx boy b hsp set hset m (n + 1) (out ++ more) v1 (by omega) (by omega) (by
      rw [hrest]
      rw [seqI, List.flatMap_cons, List.length_append, hE] at hl
      rw [List.length_append]
      omega)
    refine ⟨v2, fun j hj => by rw [f1 j hj, g1 j (by omega), get_put _ _ _ (by omega) (by omega), if_neg (by omega)], ?_⟩
    rw [key, f2, hrest, seqI, List.flatMap_cons, hE, List.append_assoc]

theorem loopR4 (x : Book) (hx : x.Ok) (boy : Int) (b : Boy) (hsp : SpOk b) (set : Nat) (hset : set < 2 ^ 62) : ∀ (m : Nat) (n : Int) (out : List Vo) (v : Vo), n + m = b.low.high + 1 → 0 ≤ n → out.length + ((seqI n m).flatMap fun n => enum b (okR x boy b.loss set) 3 (v.put 0 n)).length < 100000 →
    ∃ v' : Vo, (∀ j, j < 0 → v'.get j = v.get j) ∧ run Cv 71 (.loop keep71_4 body71_4) (headR b.loss boy set out) (stR x b out (v.put 0 n)) =
      some (.ex 0, exitE b.loss boy set (out ++ (seqI n m).flatMap fun n => enum b (okR x boy b.loss set) 3 (v.put 0 n)) 22 0 0 (b.low.high + 1) b.low.high, stR x b (out ++ (seqI n m).flatMap fun n => enum b (okR x boy b.loss set) 3 (v.put 0 n)) v')
  | 0, n, out, v, hn, h0, hl => by
    have h1 : ¬ n ≤ b.low.high := by omega
    have h2 : n = b.low.high + 1 := by omega
    refine ⟨v.put 0 n, fun j hj => by rw [get_put _ _ _ (by omega) (by omega), if_neg (by omega)], ?_⟩
    rw [run_loop]
    simp [body71_4, keep71_4, headR, stR, Vo.c6, Vo.put, Boy.cells, h1, seqI, exitE]
    exact h2
  | m + 1, n, out, v, hn, h0, hl => by
    have hin := hsp.ok 1 (by omega)
    have hown := hsp.ok 0 (by omega)
    simp only [Boy.span] at hin hown
    have h1 : n ≤ b.low.high := by omega
    have hw : IntKind.wrap .i64 (n + 1) = n + 1 := wrap_small (by omega) (by omega)
    have hlist : enum b (okR x boy b.loss set) 3 (v.put 0 n) = (seqI (b.high.low) (b.high.high - b.high.low + 1).toNat).flatMap fun n' => enum b (okR x boy b.loss set) 2 ((v.put 0 n).put 1 n') := by
      simp only [enum, Boy.span, vals_seq]
    have hl1 : out.length + ((seqI (b.high.low) (b.high.high - b.high.low + 1).toNat).flatMap fun n' => enum b (okR x boy b.loss set) 2 ((v.put 0 n).put 1 n')).length < 100000 := by
      rw [← hlist]
      rw [seqI, List.flatMap_cons, List.length_append] at hl
      omega
    obtain ⟨v1, g1, g2⟩ := loopR3 x hx boy b hsp set hset (b.high.high - b.high.low + 1).toNat b.high.low out (v.put 0 n) (by omega) hin.1 hl1
    rw [← hlist] at g2
    generalize hE : enum b (okR x boy b.loss set) 3 (v.put 0 n) = more at g2
    have hown1 : v1.get 0 = n := by rw [g1 0 (by omega), get_put _ _ _ (by omega) (by omega), if_pos rfl]
    have hcut := fun e he => cutR_st x b out more (v.put 0 n) (v1.put 0 (n + 1)) e boy set he
    have key : run Cv 71 (.loop keep71_4 body71_4) (headR b.loss boy set out) (stR x b out (v.put 0 n)) = run Cv 71 (.loop keep71_4 body71_4) (headR b.loss boy set (out ++ more)) (stR x b (out ++ more) (v1.put 0 (n + 1))) := by
      have hc := hcut _ rfl
      simp only [stR, Vo.put, Vo.c6, Vo.get] at g2 hc hown1
      rw [run_loop]
      generalize MC.loop keep71_4 body71_4 = L
      simp only [body71_4]
      simp [-cut, keep71_4, headR, stR, Vo.c6, Vo.put, Boy.cells, h1]
      rw [run_loop_mask, show mask keep71_3 _ = headR b.loss boy set out from by simp [keep71_3, headR]]
      simp only [Boy.cells] at g2
      rw [g2]
      simp [-cut, exitE, headR, hown1, hw]
      exact congrArg (run Cv 71 L _) hc
    have hrest : ((seqI (n + 1) m).flatMap fun n => enum b (okR x boy b.loss set) 3 (v1.put 0 n)) = ((seqI (n + 1) m).flatMap fun n => enum b (okR x boy b.loss set) 3 (v.put 0 n)) := by
      rfl
    obtain ⟨v2, f1, f2⟩ := loopR4 x hx boy b hsp set hset m (n + 1) (out ++ more) v1 (by omega) (by omega) (by
      rw [hrest]
      rw [seqI, List.flatMap_cons, List.length_append, hE] at hl
      rw [List.length_append]
      omega)
    refine ⟨v2, fun j hj => by rw [f1 j hj, g1 j (by omega), get_put _ _ _ (by omega) (by omega), if_neg (by omega)], ?_⟩
    rw [key, f2, hrest, seqI, List.flatMap_cons, hE, List.append_assoc]

/-- All voices of a boy, by the reference. -/
def refVoices (x : Book) (boy : Int) (b : Boy) (set : Nat) : List Vo := enum b (okR x boy b.loss set) 4 ⟨0, 0, 0, 0, 0⟩
def rowRN (loss : Int) (out : List Vo) : AV := if out = [] then .nils else .sl 6 (out.map (Vo.a6 loss)) .no
theorem refVoices_call (x : Book) (hx : x.Ok) (boy : Nat) (b : Boy) (hb : x.boys[boy]? = some b) (hsp : SpOk b) (set : Nat) (hset : set < 2 ^ 62) (hl : (refVoices x boy b set).length < 100000) :
    call Cv 71 [x.av, I boy, I set] = some (rowRN b.loss (refVoices x boy b set)) := by
  have hlt : boy < x.boys.length := (List.getElem?_eq_some_iff.1 hb).1
  have hbb : x.boys[boy] = b := (List.getElem?_eq_some_iff.1 hb).2
  have hn : x.bnil ≠ .nil := fun hn => by rw [hx.boys hn] at hlt; simp at hlt
  have hrow : rowV 11 (x.boys.map Boy.av) x.bnil = .sl 11 (x.boys.map Boy.av) x.bnil.cap := rowV_some hn
  have h0 := hsp.ok 0 (by omega)
  simp only [Boy.span] at h0
  have hlist : refVoices x boy b set = ((seqI b.low.low (b.low.high - b.low.low + 1).toNat).flatMap fun n => enum b (okR x boy b.loss set) 3 (Vo.put ⟨0, 0, 0, 0, 0⟩ 0 n)) := by
    simp only [refVoices, enum, Boy.span, vals_seq]
  obtain ⟨v1, g1, g2⟩ := loopR4 x hx boy b hsp set hset (b.low.high - b.low.low + 1).toNat b.low.low [] ⟨0, 0, 0, 0, 0⟩ (by omega) h0.1 (by rw [← hlist]; simpa using hl)
  rw [← hlist] at g2
  generalize hE : refVoices x boy b set = more at *
  simp only [stR, chR, Vo.c6, Vo.put, Boy.cells, if_true, List.nil_append, Book.cells, hrow] at g2
  rw [call_def comp71]
  simp [code71, Book.av, Book.cells, hrow, hlt, hbb, Boy.av, Boy.cells, fillA]
  rw [run_loop_mask, show mask keep71_4 _ = headR b.loss boy set [] from by simp [keep71_4, headR, rowR]]
  rw [g2]
  by_cases hm : more = []
  · simp [exitE, headR, rowR, rowRN, hm]
  · simp [exitE, headR, rowR, rowRN, hm]
end Go.Ai

set_option maxRecDepth 100000
set_option linter.unusedSimpArgs false
set_option linter.unusedVariables false
namespace Go.Ai
theorem enum_ok (b : Boy) (ok ok' : Vo → Bool) : ∀ (d : Nat), d ≤ 4 → ∀ (v : Vo), (∀ w : Vo, (∀ j, j < 4 - d → w.get j = v.get j) → (∀ j, j < 5 → 4 - d ≤ j → w.get j ∈ vals (b.span j)) → ok w = ok' w) → enum b ok d v = enum b ok' d v
  | 0, _, v, h => by
    simp only [enum]
    refine List.filter_congr fun w hw => ?_
    obtain ⟨n, hn, rfl⟩ := List.mem_map.1 hw
    refine h _ (fun j hj => by rw [get_put _ _ _ (by omega) (by omega), if_neg (by omega)]) fun j hj hj' => ?_
    have : j = 4 := by omega
    subst this
    rw [get_put _ _ _ (by omega) (by omega), if_pos rfl]
    exact hn
  | d + 1, hd, v, h => by
    simp only [enum]
    have : ∀ n ∈ vals (b.span (3 - d)), enum b ok d (v.put (3 - d) n) = enum b ok' d (v.put (3 - d) n) := by
      intro n hn
      refine enum_ok b ok ok' d (by omega) _ fun w h1 h2 => ?_
      refine h w (fun j hj => ?_) fun j hj hj' => ?_
      · rw [h1 j (by omega), get_put _ _ _ (by omega) (by omega), if_neg (by omega)]
      · by_cases hjd : j = 3 - d
        · subst hjd
          rw [h1 _ (by omega), get_put _ _ _ (by omega) (by omega), if_pos rfl]
          exact hn
        · exact h2 j hj (by omega)
    rw [List.flatMap_def, List.flatMap_def]
    congr 1
    exact List.map_congr_left this
theorem mem_vals {s : Span} {n : Int} (h : n ∈ vals s) : s.low ≤ n ∧ n ≤ s.high := by
  simp only [vals, List.mem_map, List.mem_range] at h
  obtain ⟨i, hi, rfl⟩ := h
  omega
/-- A set that holds just some trials. -/
def SetOf (x : Book) (set : Nat) (but : List Int) : Prop := ∀ k : Nat, k < x.trials.length → hasB set k = decide ((k : Int) ∈ but)
theorem right_eq (loss : Int) (v : Vo) (hv : 0 ≤ v.low) (boy : Int) (set : Nat) (but : List Int) : ∀ (l : List Trial) (k : Nat), (∀ j, k ≤ j → j < k + l.length → hasB set j = decide ((j : Int) ∈ but)) → rightR loss v boy set l k = rightFrom loss v boy but l k
  | [], _, _ => rfl
  | tr :: l, k, h => by
    have h1 := h k (Nat.le_refl _) (by simp)
    have hc : canR loss v tr.week tr.note = canW loss v tr.week tr.note := by
      have : decide (v.low = -1) = false := by simp; omega
      simp [canR, canW, this]
    simp only [rightR, rightFrom, badR, badT, h1, hc]
    rw [right_eq loss v hv boy set but l (k + 1) fun j hj hj' => h j (by omega) (by simp; omega)]
theorem spOk_of {b : Boy} (h : boyOk b = true) : SpOk b where
  ok k hk := by
    simp only [boyOk, spanOk, Bool.and_eq_true, decide_eq_true_eq] at h
    have : k = 0 ∨ k = 1 ∨ k = 2 ∨ k = 3 ∨ k = 4 := by omega
    rcases this with rfl | rfl | rfl | rfl | rfl <;> simp only [Boy.span] <;> omega
theorem ref_eq (x : Book) (boy : Nat) (b : Boy) (hb : boyOk b = true) (set : Nat) (but : List Int) (hs : SetOf x set but) : refVoices x boy b set = voicesOf x boy b but := by
  rw [refVoices, voicesOf, enum_congr b _ 4 (Nat.le_refl _) _ ⟨-1, -1, -1, -1, -1⟩ (fun j hj => by omega)]
  refine enum_ok b _ _ 4 (Nat.le_refl _) _ fun w _ h2 => ?_
  have h0 := mem_vals (h2 0 (by omega) (by omega))
  have := (spOk_of hb).ok 0 (by omega)
  exact right_eq _ _ (by simp only [Vo.get] at h0; omega) _ _ _ _ _ fun j _ hj => hs j (by simpa using hj)
theorem setOf_nil (x : Book) : SetOf x 0 [] := fun k _ => by simp [hasB]
/-- The reference's voices are the program's. -/
theorem rVoices_call (x : Book) (hx : x.Ok) (hc : x.boys.all boyOk = true) (hl : x.trials.length < 1000) (boy : Nat) (b : Boy) (hb : x.boys[boy]? = some b) (set : Nat) (hset : set < 2 ^ 62) (but : List Int) (hbl : but.length < 2 ^ 47) (hs : SetOf x set but) :
    call Cv 71 [x.av, I boy, I set] = some (rowRN b.loss (voicesOf x boy b but)) := by
  have hbo := List.all_eq_true.1 hc b (List.mem_of_getElem? hb)
  have hX := fixO_ok hx hb hbo (T := []) (ct := 0) (but := but) (r := .sl 1 (ints but) .no) hbl (.inr ⟨.no, rfl, rfl⟩) 0 (c0 := 0) (fun h => absurd rfl h)
  have hlen : (voicesOf x boy b but).length < 999 := enum_short hX ⟨-1, -1, -1, -1, -1⟩
  have := refVoices_call x hx boy b hb (spOk_of hbo) set hset (by rw [ref_eq x boy b hbo set but hs]; omega)
  rw [ref_eq x boy b hbo set but hs] at this
  exact this
end Go.Ai

set_option maxRecDepth 100000
set_option linter.unusedSimpArgs false
set_option linter.unusedVariables false
namespace Go.Ai
theorem rowRN_len (loss : Int) (l : List Vo) : lenA (rowRN loss l) = some (I l.length) := by
  unfold rowRN
  split
  · rename_i h; simp [h]
  · simp
theorem rowRN_pur (loss : Int) (l : List Vo) (σ : St) (n : Nat) : pur σ (n + 1) (rowRN loss l) = some (rowRN loss l, false) := by unfold rowRN; split <;> rfl
theorem rowRN_under (loss : Int) (l : List Vo) (a b c d n : Nat) : under a b c d (n + 1) (rowRN loss l) = true := by unfold rowRN; split <;> rfl
theorem len0 {α : Type} (l : List α) : ((l.length : Int) == 0) = decide (l = []) := by
  cases l with
  | nil => rfl
  | cons a l => simp; omega
def head62 (set k : Int) : Env := [.any, I set, .box 0 0, .any, .any, I k] ++ List.replicate 13 .any
theorem loop62 (x : Book) (hx : x.Ok) (hc : x.boys.all boyOk = true) (htl : x.trials.length < 1000) (set : Nat) (hset : set < 2 ^ 62) (but : List Int) (hbl : but.length < 2 ^ 47) (hs : SetOf x set but) : ∀ (l : List Boy) (k : Nat), k ≤ x.boys.length → x.boys.drop k = l →
    ∃ e c σ, run Cv 62 (.loop keep62_0 body62_0) (head62 set k) { boxes := [x.cells] } = some (c, e, σ) ∧ e.length = 19 ∧
      ((c = .ex 0 ∧ (Ts x but l k).all (fun l => !decide (l = [])) = true) ∨ (c = .rt ∧ (Ts x but l k).all (fun l => !decide (l = [])) = false ∧ e[4]? = some (.bool false)))
  | [], k, hk, h => by
    have : k = x.boys.length := Nat.le_antisymm hk (by simpa using h)
    subst this
    have hlen := hx.lenB
    have key : ∃ e σ, run Cv 62 (.loop keep62_0 body62_0) (head62 set x.boys.length) { boxes := [x.cells] } = some (.ex 0, e, σ) ∧ e.length = 19 := by
      rw [run_loop]
      simp [body62_0, keep62_0, head62, Book.cells, hlen]
    obtain ⟨e, σ, k1, k2⟩ := key
    exact ⟨e, _, σ, k1, k2, .inl ⟨rfl, rfl⟩⟩
  | b :: l, k, hk, h => by
    have hb : x.boys[k]? = some b := by
      have : (x.boys.drop k)[0]? = some b := by rw [h]; rfl
      simpa using this
    have hlt : k < x.boys.length := (List.getElem?_eq_some_iff.1 hb).1
    have hbl2 := hx.blen
    have hlen := hx.lenB
    have hw : IntKind.wrap .i64 ((k : Int) + 1) = k + 1 := wrap_small (by omega) (by omega)
    have hv := rVoices_call x hx hc htl k b hb set hset but hbl hs
    simp only [Book.av, Book.cells] at hv
    by_cases hne : voicesOf x k b but = []
    · have key : ∃ e σ, run Cv 62 (.loop keep62_0 body62_0) (head62 set k) { boxes := [x.cells] } = some (.rt, e, σ) ∧ e.length = 19 ∧ e[4]? = some (.bool false) := by
        rw [run_loop]
        simp [body62_0, keep62_0, head62, Book.cells, hlen, hlt, hv, rowRN_len, len0, hne]
      obtain ⟨e, σ, k1, k2, k3⟩ := key
      exact ⟨e, _, σ, k1, k2, .inr ⟨rfl, by simp [Ts, hne], k3⟩⟩
    · have key : run Cv 62 (.loop keep62_0 body62_0) (head62 set k) { boxes := [x.cells] } = run Cv 62 (.loop keep62_0 body62_0) (head62 set (k + 1)) { boxes := [x.cells] } := by
        rw [run_loop]
        generalize MC.loop keep62_0 body62_0 = L
        simp [body62_0, keep62_0, head62, Book.cells, hlen, hlt, hv, rowRN_len, len0, hne, hw, under]
      rw [key]
      have := loop62 x hx hc htl set hset but hbl hs l (k + 1) hlt (by rw [← List.drop_drop, h]; rfl)
      simpa [Ts, hne] using this
theorem rFine_call (x : Book) (hx : x.Ok) (hc : x.boys.all boyOk = true) (htl : x.trials.length < 1000) (set : Nat) (hset : set < 2 ^ 62) (but : List Int) (hbl : but.length < 2 ^ 47) (hs : SetOf x set but) : call Cv 62 [x.av, I set] = some (.bool (fine x but)) := by
  obtain ⟨e, c, σ, h1, h2, h3⟩ := loop62 x hx hc htl set hset but hbl hs x.boys 0 (Nat.zero_le _) rfl
  simp only [Book.cells] at h1
  rw [call_def comp62]
  simp [code62, Book.av, Book.cells]
  rw [run_loop_mask, show mask keep62_0 _ = head62 set (0 : Nat) from by simp [keep62_0, head62]]
  rw [h1]
  rcases h3 with ⟨rfl, h3⟩ | ⟨rfl, h3, h4⟩
  · simp [h2, fine, h3]
  · simp [h4, fine, h3]
theorem rAsked_call (x : Book) (hx : x.Ok) (is : Bool) : call Cv 69 [x.av, .bool is] = some (I (askE x is)) := by
  have h1 := rCheck_call x hx
  simp only [Book.av, Book.cells] at h1
  cases hc : checkOk x with
  | false =>
    rw [hc] at h1
    rw [call_def comp69]
    simp [code69, Book.av, Book.cells, h1, askE, hc]
  | true =>
    rw [hc] at h1
    have g := good_of hc
    have h2 := rFine_call x hx g.boys (by have := g.tl; omega) 0 (by decide) [] (by simp) (setOf_nil x)
    simp only [Book.av, Book.cells] at h2
    cases is with
    | false =>
      rw [call_def comp69]
      simp [code69, Book.av, Book.cells, h1, askE, hc]
    | true =>
      rw [show ((0 : Nat) : Int) = 0 from rfl] at h2
      rw [call_def comp69]
      cases hf : fine x [] with
      | false =>
        rw [hf] at h2
        simp [code69, Book.av, Book.cells, h1, h2, askE, hc, hf]
      | true =>
        rw [hf] at h2
        simp [code69, Book.av, Book.cells, h1, h2, askE, hc, hf]
theorem rRightB_call (x : Book) (hx : x.Ok) : call Cv 16 [x.av] = some (.tup [.bool (checkOk x && fine x []), I (if checkOk x then 0 else 20)]) := by
  have h1 := rCheck_call x hx
  simp only [Book.av, Book.cells] at h1
  cases hc : checkOk x with
  | false =>
    rw [hc] at h1
    rw [call_def comp16]
    simp [code16, Book.av, Book.cells, h1, hc]
  | true =>
    rw [hc] at h1
    have g := good_of hc
    have h2 := rFine_call x hx g.boys (by have := g.tl; omega) 0 (by decide) [] (by simp) (setOf_nil x)
    rw [show ((0 : Nat) : Int) = 0 from rfl] at h2
    simp only [Book.av, Book.cells] at h2
    rw [call_def comp16]
    simp [code16, Book.av, Book.cells, h1, h2, hc]
/-- The least and the greatest of some numbers. -/
def endsOf : List Int → Span
  | [] => ⟨0, 0⟩
  | n :: l => (n :: l).foldl (fun s m => join s ⟨m, m⟩) ⟨n, n⟩
def head72 (r : AV) (k : Int) : Env := [r, .any, .box 0 0, .box 1 0, I k] ++ List.replicate 18 .any
def st72 (s : Span) : St := { boxes := [[I 0, I 0], [I s.low, I s.high]] }
theorem loop72 (l0 : List Int) (c : Cap) (hcp : c.pure = c) (hl : l0.length < 2 ^ 47) : ∀ (l : List Int) (k : Nat) (s : Span), k ≤ l0.length → l0.drop k = l →
    run Cv 72 (.loop keep72_0 body72_0) (head72 (.sl 1 (ints l0) c) k) (st72 s) = some (.ex 0, ((((head72 (.sl 1 (ints l0) c) l0.length).set 9 (I l0.length)).set 10 (.sl 1 (ints l0) c)).set 11 (I l0.length)).set 12 (.bool false), st72 (l.foldl (fun s m => join s ⟨m, m⟩) s))
  | [], k, s, hk, h => by
    have : k = l0.length := Nat.le_antisymm hk (by simpa using h)
    subst this
    rw [run_loop]
    simp [body72_0, keep72_0, head72, ints]
  | n :: l, k, s, hk, h => by
    have hb : l0[k]? = some n := by
      have : (l0.drop k)[0]? = some n := by rw [h]; rfl
      simpa using this
    have hlt : k < l0.length := (List.getElem?_eq_some_iff.1 hb).1
    have hbb : l0[k] = n := (List.getElem?_eq_some_iff.1 hb).2
    have hw : IntKind.wrap .i64 ((k : Int) + 1) = k + 1 := wrap_small (by omega) (by omega)
    have h1 := only_call n
    have h2 := join_call s ⟨n, n⟩
    have hu : ∀ a b c' d m, under a b c' d (m + 1) (.sl 1 (List.map (fun n => I n) l0) c) = true := fun a b c' d m => by cases c with
      | chain => cases hcp
      | no => rfl
      | full => rfl
    simp only [Span.av] at h1 h2
    have key : run Cv 72 (.loop keep72_0 body72_0) (head72 (.sl 1 (ints l0) c) k) (st72 s) = run Cv 72 (.loop keep72_0 body72_0) (head72 (.sl 1 (ints l0) c) (k + 1)) (st72 (join s ⟨n, n⟩)) := by
      rw [run_loop]
      generalize MC.loop keep72_0 body72_0 = L
      simp [body72_0, keep72_0, head72, st72, ints, hlt, hbb, hw, h1, h2, hu]
    rw [key]
    exact loop72 l0 c hcp hl l (k + 1) _ hlt (by rw [← List.drop_drop, h]; rfl)
theorem ends_call (n : Int) (l : List Int) (c : Cap) (hcp : c.pure = c) (hl : (n :: l).length < 2 ^ 47) : call Cv 72 [.sl 1 (ints (n :: l)) c] = some (Span.av (endsOf (n :: l))) := by
  have h1 := loop72 (n :: l) c hcp hl (n :: l) 0 ⟨n, n⟩ (Nat.zero_le _) rfl
  have h2 := only_call n
  simp only [Span.av] at h2
  simp only [st72] at h1
  rw [call_def comp72]
  simp [code72, ints, h2]
  rw [run_loop_mask, show mask keep72_0 _ = head72 (.sl 1 (ints (n :: l)) c) (0 : Nat) from by simp [keep72_0, head72, ints]]
  rw [h1]
  simp [head72, Span.av, endsOf]
theorem spanOf_ends (f : Vo → Int) (l : List Vo) : spanOf f l = endsOf (l.map f) := by
  cases l with
  | nil => rfl
  | cons v l =>
    simp only [spanOf, endsOf, List.map_cons]
    have : ∀ (l : List Vo) (s : Span), l.foldl (spanStep f) s = (l.map f).foldl (fun s m => join s ⟨m, m⟩) s := by
      intro l
      induction l with
      | nil => intro s; rfl
      | cons w l ih => intro s; rw [List.foldl_cons, List.map_cons, List.foldl_cons, ih]; rfl
    exact this (v :: l) _
end Go.Ai

set_option maxRecDepth 100000
set_option linter.unusedSimpArgs false
set_option linter.unusedVariables false
namespace Go.Ai
theorem outV_under (out : List Int) (a b c d n : Nat) (h : out = [] ∨ 0 < b) : under a b c d (n + 1) (outV out) = true := by
  unfold outV
  split
  · rfl
  · rename_i h'; rcases h with h | h
    · exact absurd h h'
    · simpa [under] using h
/-- The row of numbers, as a callee is given it. -/
theorem outV_pur (out : List Int) (σ : St) (n : Nat) : ∃ r, pur σ (n + 1) (outV out) = some (r, false) ∧ IsRow 1 (ints out) r := by
  unfold outV
  split
  · rename_i h; exact ⟨_, rfl, .inl ⟨rfl, by rw [h]; rfl⟩⟩
  · exact ⟨_, rfl, .inr ⟨.no, rfl, rfl⟩⟩

def head20 (loss : Int) (l0 : List Vo) (out : List Int) (k : Int) : Env := [.any, .any, .any, .any, .box 1 0, .any, .any, outV out, rowRN loss l0, I k] ++ List.replicate 28 .any
def st20 (x : Book) (out : List Int) : St := { boxes := [x.cells, [I 0, I 0]], chains := outCh out }
theorem loop20 (x : Book) (loss : Int) (l0 : List Vo) (hl : l0.length < 1000) : ∀ (l : List Vo) (k : Nat) (out : List Int), k ≤ l0.length → l0.drop k = l → out.length ≤ k →
    run Cv 20 (.loop keep20_0 body20_0) (head20 loss l0 out k) (st20 x out) = some (.ex 0, ((((head20 loss l0 (out ++ l.map Vo.low) l0.length).set 22 (I l0.length)).set 23 (rowRN loss l0)).set 24 (I l0.length)).set 25 (.bool false), st20 x (out ++ l.map Vo.low))
  | [], k, out, hk, h, ho => by
    have : k = l0.length := Nat.le_antisymm hk (by simpa using h)
    subst this
    rw [run_loop]
    simp [body20_0, keep20_0, head20, rowRN_len]
  | v :: l, k, out, hk, h, ho => by
    have hb : l0[k]? = some v := by
      have : (l0.drop k)[0]? = some v := by rw [h]; rfl
      simpa using this
    have hlt : k < l0.length := (List.getElem?_eq_some_iff.1 hb).1
    have hbb : l0[k] = v := (List.getElem?_eq_some_iff.1 hb).2
    have hw : IntKind.wrap .i64 ((k : Int) + 1) = k + 1 := wrap_small (by omega) (by omega)
    have hne : l0 ≠ [] := fun h => by rw [h] at hlt; simp at hlt
    have hrow : rowRN loss l0 = .sl 6 (l0.map (Vo.a6 loss)) .no := if_neg hne
    have hbytes : (out.length + 1) * 8 ≤ 140737488355328 := by omega
    have key : run Cv 20 (.loop keep20_0 body20_0) (head20 loss l0 out k) (st20 x out) = run Cv 20 (.loop keep20_0 body20_0) (head20 loss l0 (out ++ [v.low]) (k + 1)) (st20 x (out ++ [v.low])) := by
      rw [run_loop]
      generalize MC.loop keep20_0 body20_0 = L
      by_cases ho' : out = []
      · simp [body20_0, keep20_0, head20, st20, outV, outCh, hlt, hbb, hrow, hw, under, ho', fillE, AV.isAgg, appA, elemsA, grown, ints, Vo.a6, Vo.c6, Book.cells]
      · simp [body20_0, keep20_0, head20, st20, outV, outCh, hlt, hbb, hrow, hw, under, ho', fillE, AV.isAgg, appA, elemsA, grown, ints, Vo.a6, Vo.c6, Book.cells, hbytes]
    rw [key]
    have := loop20 x loss l0 hl l (k + 1) (out ++ [v.low]) hlt (by rw [← List.drop_drop, h]; rfl) (by simp; omega)
    simpa using this
theorem rLowest_call (x : Book) (hx : x.Ok) (boy : Int) : call Cv 20 [x.av, I boy] = some (knownR x boy 0) := by
  have h1 := rAsked_call x hx (isBoyB x boy)
  have h2 := rBoy_call x hx boy
  simp only [Book.av, Book.cells] at h1 h2
  rw [show (decide (0 ≤ boy) && decide (boy < x.boys.length)) = isBoyB x boy from rfl] at h2
  rcases ask_cases x (isBoyB x boy) with ⟨h0, hc, his, hf, hB⟩ | ⟨h0, B, hB1, hB2, hB3⟩
  · have g := good_of hc
    simp only [isBoyB, Bool.and_eq_true, decide_eq_true_eq] at his
    obtain ⟨n, rfl⟩ := Int.eq_ofNat_of_zero_le his.1
    have hlt : n < x.boys.length := by omega
    have hb : x.boys[n]? = some x.boys[n] := List.getElem?_eq_getElem hlt
    have hne := fine_ne hf hb
    have hvl := voices_short hx hc hb [] (by simp)
    have hT : (Ts x [] x.boys 0)[n]? = some (voicesOf x n x.boys[n] []) := by rw [Ts_get, hb]; simp
    have hv := rVoices_call x hx g.boys (by have := g.tl; omega) n x.boys[n] hb 0 (by decide) [] (by simp) (setOf_nil x)
    rw [show ((0 : Nat) : Int) = 0 from rfl] at hv
    have hl := loop20 x x.boys[n].loss (voicesOf x n x.boys[n] []) (by omega) (voicesOf x n x.boys[n] []) 0 [] (Nat.zero_le _) rfl (by simp)
    obtain ⟨v, l, hvs⟩ : ∃ v l, voicesOf x n x.boys[n] [] = v :: l := by
      cases hv : voicesOf x n x.boys[n] [] with
      | nil => exact absurd hv hne
      | cons v l => exact ⟨v, l, rfl⟩
    have hk2 : knownS x (n : Int) 0 = endsOf ((v :: l).map Vo.low) := by
      rw [← spanOf_ends]
      simp [knownS, hT, hvs]
      rfl
    have he := ends_call v.low (l.map Vo.low) .no rfl (by rw [hvs] at hvl; simpa using by simp at hvl ⊢; omega)
    rw [hvs] at hl hv
    simp only [st20, List.nil_append, outCh, if_true, Book.cells] at hl
    simp only [Book.av, Book.cells] at hv
    simp only [ints, List.map_cons, List.map_map] at he
    rw [call_def comp20]
    simp [code20, Book.av, Book.cells, h1, h2, h0, hv, rowRN_pur]
    rw [run_loop_mask, show mask keep20_0 _ = head20 x.boys[n].loss (v :: l) [] (0 : Nat) from by simp [keep20_0, head20, outV]]
    rw [hl]
    simp [head20, outV, ints, he, knownR, h0, hk2, Span.av]
  · rw [call_def comp20]
    simp [code20, Book.av, Book.cells, h1, h2, h0, fillA, knownR, Span.av]

def head22 (loss : Int) (l0 : List Vo) (out : List Int) (k : Int) : Env := [.any, .any, .any, .any, .box 1 0, .any, .any, outV out, rowRN loss l0, I k] ++ List.replicate 28 .any
def st22 (x : Book) (out : List Int) : St := { boxes := [x.cells, [I 0, I 0]], chains := outCh out }
theorem loop22 (x : Book) (loss : Int) (l0 : List Vo) (hl : l0.length < 1000) : ∀ (l : List Vo) (k : Nat) (out : List Int), k ≤ l0.length → l0.drop k = l → out.length ≤ k →
    run Cv 22 (.loop keep22_0 body22_0) (head22 loss l0 out k) (st22 x out) = some (.ex 0, ((((head22 loss l0 (out ++ l.map Vo.brk) l0.length).set 22 (I l0.length)).set 23 (rowRN loss l0)).set 24 (I l0.length)).set 25 (.bool false), st22 x (out ++ l.map Vo.brk))
  | [], k, out, hk, h, ho => by
    have : k = l0.length := Nat.le_antisymm hk (by simpa using h)
    subst this
    rw [run_loop]
    simp [body22_0, keep22_0, head22, rowRN_len]
  | v :: l, k, out, hk, h, ho => by
    have hb : l0[k]? = some v := by
      have : (l0.drop k)[0]? = some v := by rw [h]; rfl
      simpa using this
    have hlt : k < l0.length := (List.getElem?_eq_some_iff.1 hb).1
    have hbb : l0[k] = v := (List.getElem?_eq_some_iff.1 hb).2
    have hw : IntKind.wrap .i64 ((k : Int) + 1) = k + 1 := wrap_small (by omega) (by omega)
    have hne : l0 ≠ [] := fun h => by rw [h] at hlt; simp at hlt
    have hrow : rowRN loss l0 = .sl 6 (l0.map (Vo.a6 loss)) .no := if_neg hne
    have hbytes : (out.length + 1) * 8 ≤ 140737488355328 := by omega
    have key : run Cv 22 (.loop keep22_0 body22_0) (head22 loss l0 out k) (st22 x out) = run Cv 22 (.loop keep22_0 body22_0) (head22 loss l0 (out ++ [v.brk]) (k + 1)) (st22 x (out ++ [v.brk])) := by
      rw [run_loop]
      generalize MC.loop keep22_0 body22_0 = L
      by_cases ho' : out = []
      · simp [body22_0, keep22_0, head22, st22, outV, outCh, hlt, hbb, hrow, hw, under, ho', fillE, AV.isAgg, appA, elemsA, grown, ints, Vo.a6, Vo.c6, Book.cells]
      · simp [body22_0, keep22_0, head22, st22, outV, outCh, hlt, hbb, hrow, hw, under, ho', fillE, AV.isAgg, appA, elemsA, grown, ints, Vo.a6, Vo.c6, Book.cells, hbytes]
    rw [key]
    have := loop22 x loss l0 hl l (k + 1) (out ++ [v.brk]) hlt (by rw [← List.drop_drop, h]; rfl) (by simp; omega)
    simpa using this
theorem rBreaks_call (x : Book) (hx : x.Ok) (boy : Int) : call Cv 22 [x.av, I boy] = some (knownR x boy 4) := by
  have h1 := rAsked_call x hx (isBoyB x boy)
  have h2 := rBoy_call x hx boy
  simp only [Book.av, Book.cells] at h1 h2
  rw [show (decide (0 ≤ boy) && decide (boy < x.boys.length)) = isBoyB x boy from rfl] at h2
  rcases ask_cases x (isBoyB x boy) with ⟨h0, hc, his, hf, hB⟩ | ⟨h0, B, hB1, hB2, hB3⟩
  · have g := good_of hc
    simp only [isBoyB, Bool.and_eq_true, decide_eq_true_eq] at his
    obtain ⟨n, rfl⟩ := Int.eq_ofNat_of_zero_le his.1
    have hlt : n < x.boys.length := by omega
    have hb : x.boys[n]? = some x.boys[n] := List.getElem?_eq_getElem hlt
    have hne := fine_ne hf hb
    have hvl := voices_short hx hc hb [] (by simp)
    have hT : (Ts x [] x.boys 0)[n]? = some (voicesOf x n x.boys[n] []) := by rw [Ts_get, hb]; simp
    have hv := rVoices_call x hx g.boys (by have := g.tl; omega) n x.boys[n] hb 0 (by decide) [] (by simp) (setOf_nil x)
    rw [show ((0 : Nat) : Int) = 0 from rfl] at hv
    have hl := loop22 x x.boys[n].loss (voicesOf x n x.boys[n] []) (by omega) (voicesOf x n x.boys[n] []) 0 [] (Nat.zero_le _) rfl (by simp)
    obtain ⟨v, l, hvs⟩ : ∃ v l, voicesOf x n x.boys[n] [] = v :: l := by
      cases hv : voicesOf x n x.boys[n] [] with
      | nil => exact absurd hv hne
      | cons v l => exact ⟨v, l, rfl⟩
    have hk2 : knownS x (n : Int) 4 = endsOf ((v :: l).map Vo.brk) := by
      rw [← spanOf_ends]
      simp [knownS, hT, hvs]
      rfl
    have he := ends_call v.brk (l.map Vo.brk) .no rfl (by rw [hvs] at hvl; simpa using by simp at hvl ⊢; omega)
    rw [hvs] at hl hv
    simp only [st22, List.nil_append, outCh, if_true, Book.cells] at hl
    simp only [Book.av, Book.cells] at hv
    simp only [ints, List.map_cons, List.map_map] at he
    rw [call_def comp22]
    simp [code22, Book.av, Book.cells, h1, h2, h0, hv, rowRN_pur]
    rw [run_loop_mask, show mask keep22_0 _ = head22 x.boys[n].loss (v :: l) [] (0 : Nat) from by simp [keep22_0, head22, outV]]
    rw [hl]
    simp [head22, outV, ints, he, knownR, h0, hk2, Span.av]
  · rw [call_def comp22]
    simp [code22, Book.av, Book.cells, h1, h2, h0, fillA, knownR, Span.av]
end Go.Ai

set_option maxRecDepth 100000
set_option linter.unusedSimpArgs false
set_option linter.unusedVariables false
namespace Go.Ai
def head24 (week : Int) (loss : Int) (l0 : List Vo) (out : List Int) (k : Int) : Env := [.any, .any, I week, .any, .any, .any, .box 1 0, .any, .any, outV out, rowRN loss l0, I k] ++ List.replicate 45 .any
def topsOf (loss week : Int) (l : List Vo) : List Int := (l.filter fun v => decide (week < v.brk)).map fun v => topW loss v week
theorem loop24 (x : Book) (week loss : Int) (l0 : List Vo) (hl : l0.length < 1000) : ∀ (l : List Vo) (k : Nat) (out : List Int), k ≤ l0.length → l0.drop k = l → out.length ≤ k →
    run Cv 24 (.loop keep24_0 body24_0) (head24 week loss l0 out k) (st20 x out) = some (.ex 0, ((((head24 week loss l0 (out ++ topsOf loss week l) l0.length).set 29 (I l0.length)).set 30 (rowRN loss l0)).set 31 (I l0.length)).set 32 (.bool false), st20 x (out ++ topsOf loss week l))
  | [], k, out, hk, h, ho => by
    have : k = l0.length := Nat.le_antisymm hk (by simpa using h)
    subst this
    rw [run_loop]
    simp [body24_0, keep24_0, head24, rowRN_len, topsOf]
  | v :: l, k, out, hk, h, ho => by
    have hb : l0[k]? = some v := by
      have : (l0.drop k)[0]? = some v := by rw [h]; rfl
      simpa using this
    have hlt : k < l0.length := (List.getElem?_eq_some_iff.1 hb).1
    have hbb : l0[k] = v := (List.getElem?_eq_some_iff.1 hb).2
    have hw : IntKind.wrap .i64 ((k : Int) + 1) = k + 1 := wrap_small (by omega) (by omega)
    have hne : l0 ≠ [] := fun h => by rw [h] at hlt; simp at hlt
    have hrow : rowRN loss l0 = .sl 6 (l0.map (Vo.a6 loss)) .no := if_neg hne
    have hbytes : (out.length + 1) * 8 ≤ 140737488355328 := by omega
    have ht := rTop_call v loss week
    simp only [Vo.a6, Vo.c6] at ht
    have key : run Cv 24 (.loop keep24_0 body24_0) (head24 week loss l0 out k) (st20 x out) = run Cv 24 (.loop keep24_0 body24_0) (head24 week loss l0 (out ++ topsOf loss week [v]) (k + 1)) (st20 x (out ++ topsOf loss week [v])) := by
      rw [run_loop]
      generalize MC.loop keep24_0 body24_0 = L
      by_cases hwk : week < v.brk
      · by_cases ho' : out = []
        · simp [body24_0, keep24_0, head24, st20, outV, outCh, hlt, hbb, hrow, hw, under, ho', fillE, AV.isAgg, appA, elemsA, grown, ints, Vo.a6, Vo.c6, Book.cells, hwk, ht, topsOf]
        · simp [body24_0, keep24_0, head24, st20, outV, outCh, hlt, hbb, hrow, hw, under, ho', fillE, AV.isAgg, appA, elemsA, grown, ints, Vo.a6, Vo.c6, Book.cells, hbytes, hwk, ht, topsOf]
      · by_cases ho' : out = []
        · simp [body24_0, keep24_0, head24, st20, outV, outCh, hlt, hbb, hrow, hw, under, ho', Vo.a6, Vo.c6, Book.cells, hwk, topsOf]
        · simp [body24_0, keep24_0, head24, st20, outV, outCh, hlt, hbb, hrow, hw, under, ho', Vo.a6, Vo.c6, Book.cells, hwk, topsOf]
    rw [key]
    have := loop24 x week loss l0 hl l (k + 1) (out ++ topsOf loss week [v]) hlt (by rw [← List.drop_drop, h]; rfl) (by
      simp only [topsOf, List.filter_cons, List.filter_nil]
      split <;> simp <;> omega)
    have e : topsOf loss week (v :: l) = topsOf loss week [v] ++ topsOf loss week l := by
      simp only [topsOf, List.filter_cons, List.filter_nil]
      split <;> simp
    rw [e]
    simpa [List.append_assoc] using this
theorem rHighest_call (x : Book) (hx : x.Ok) (boy week : Int) : call Cv 24 [x.av, I boy, I week] = some (.tup [Span.av (highS x boy week), I (highE x boy week)]) := by
  have h1 := rAsked_call x hx (isBoyB x boy && isWeekB x week)
  have h2 := rBoy_call x hx boy
  have h3 := rWeek_call x week
  simp only [Book.av, Book.cells] at h1 h2 h3
  rw [show (decide (0 ≤ boy) && decide (boy < x.boys.length)) = isBoyB x boy from rfl] at h2
  rw [show (decide (0 ≤ week) && decide (week ≤ IntKind.wrap .i64 (x.weeks - 1))) = isWeekB x week from rfl] at h3
  rcases ask_cases x (isBoyB x boy && isWeekB x week) with ⟨h0, hc, his, hf, hB⟩ | ⟨h0, B, hB1, hB2, hB3⟩
  · rw [Bool.and_eq_true] at his
    obtain ⟨his, hiw⟩ := his
    rw [his, hiw, Bool.and_self] at h1 h0
    have g := good_of hc
    have his' := his
    have hiw' := hiw
    simp only [isBoyB, Bool.and_eq_true, decide_eq_true_eq] at his'
    simp only [isWeekB, Bool.and_eq_true, decide_eq_true_eq] at hiw'
    rw [wrap_small (by have := g.w1; omega) (by have := g.w6; omega)] at hiw'
    obtain ⟨n, rfl⟩ := Int.eq_ofNat_of_zero_le his'.1
    obtain ⟨w, rfl⟩ := Int.eq_ofNat_of_zero_le hiw'.1
    have hlt : n < x.boys.length := by omega
    have hb : x.boys[n]? = some x.boys[n] := List.getElem?_eq_getElem hlt
    have hvl := voices_short hx hc hb [] (by simp)
    have hv := rVoices_call x hx g.boys (by have := g.tl; omega) n x.boys[n] hb 0 (by decide) [] (by simp) (setOf_nil x)
    rw [show ((0 : Nat) : Int) = 0 from rfl] at hv
    have hl := loop24 x w x.boys[n].loss (voicesOf x n x.boys[n] []) (by omega) (voicesOf x n x.boys[n] []) 0 [] (Nat.zero_le _) rfl (by simp)
    have hwB : wholeB x (n : Int) w = wholeOf x n x.boys[n] [] w := by simp [wholeB, hlt]
    have hlB : lossB x (n : Int) = x.boys[n].loss := by simp [lossB, hlt]
    have htops : topsOf x.boys[n].loss w (voicesOf x n x.boys[n] []) = (wholeOf x n x.boys[n] [] w).map fun v => topW x.boys[n].loss v w := rfl
    have hfl := filter_short x n x.boys[n] [] w
    rw [htops] at hl
    simp only [st20, List.nil_append, outCh, if_true, Book.cells] at hl
    simp only [Book.av, Book.cells] at hv
    rw [call_def comp24]
    cases hvs : wholeOf x n x.boys[n] [] w with
    | nil =>
      rw [hvs] at hl hwB
      have hE : highE x n w = 4 := by simp [highE, his, hiw, h0, hwB]
      have hS : highS x n w = ⟨0, 0⟩ := by simp [highS, hE]
      simp [code24, Book.av, Book.cells, h1, h2, h3, his, hiw, h0, hv, rowRN_pur]
      rw [run_loop_mask, show mask keep24_0 _ = head24 w x.boys[n].loss (voicesOf x n x.boys[n] []) [] (0 : Nat) from by simp [keep24_0, head24, outV]]
      simp only [List.map_nil] at hl
      rw [hl]
      simp [head24, outV, hE, hS, Span.av, fillA]
    | cons v l =>
      rw [hvs] at hl hwB hfl
      have hE : highE x n w = 0 := by simp [highE, his, hiw, h0, hwB]
      have hS : highS x n w = endsOf ((v :: l).map fun v => topW x.boys[n].loss v w) := by
        rw [← spanOf_ends]
        simp [highS, hE, hwB, hlB]
      have he := ends_call (topW x.boys[n].loss v w) (l.map fun v => topW x.boys[n].loss v w) .no rfl (by simp at hfl ⊢; omega)
      simp only [ints, List.map_cons, List.map_map] at he
      have hlen : ((l.length : Int) + 1 == 0) = false := by simp; omega
      simp [code24, Book.av, Book.cells, h1, h2, h3, his, hiw, h0, hv, rowRN_pur]
      rw [run_loop_mask, show mask keep24_0 _ = head24 w x.boys[n].loss (voicesOf x n x.boys[n] []) [] (0 : Nat) from by simp [keep24_0, head24, outV]]
      rw [hl]
      simp [head24, outV, hE, hS, Span.av, fillA, ints, hlen, he]
  · have hE : highE x boy week = askE x (isBoyB x boy && isWeekB x week) := by simp [highE, h0]
    have hS : highS x boy week = ⟨0, 0⟩ := by simp [highS, hE, h0]
    cases hi : isBoyB x boy with
    | true =>
      rw [hi] at h1 h2 h0 hE
      simp only [Bool.true_and] at h1 h0 hE
      rw [call_def comp24]
      simp [code24, Book.av, Book.cells, h1, h2, h3, h0, fillA, Span.av, hE, hS]
    | false =>
      rw [hi] at h1 h2 h0 hE
      simp only [Bool.false_and] at h1 h0 hE
      rw [call_def comp24]
      simp [code24, Book.av, Book.cells, h1, h2, h3, h0, fillA, Span.av, hE, hS]
end Go.Ai

set_option maxRecDepth 100000
set_option linter.unusedSimpArgs false
set_option linter.unusedVariables false
namespace Go.Ai
def head30 (r s : AV) (same : Bool) (k : Int) : Env := [r, s, .any, .any, .any, .bool same, I k] ++ List.replicate 24 .any
theorem loop30 (l0 m0 : List Int) (c c' : Cap) (hc : c.pure = c) (hc' : c'.pure = c') (hl : l0.length < 2 ^ 47) (hlen : l0.length = m0.length) : ∀ (n k : Nat) (same : Bool), k + n = l0.length →
    ∃ e, run Cv 30 (.loop keep30_0 body30_0) (head30 (.sl 1 (ints l0) c) (.sl 1 (ints m0) c') same k) {} = some (.ex 0, e, {}) ∧ e[5]? = some (.bool (same && decide (l0.drop k = m0.drop k))) ∧ e.length = 31
  | n, k, false, hk => by
    rw [run_loop]
    simp [body30_0, keep30_0, head30, ints]
  | 0, k, true, hk => by
    have h1 : l0.drop k = [] := List.drop_eq_nil_iff.2 (by omega)
    have h2 : m0.drop k = [] := List.drop_eq_nil_iff.2 (by omega)
    have h3 : ¬ k < l0.length := by omega
    rw [run_loop]
    simp [body30_0, keep30_0, head30, ints, h1, h2, h3]
  | n + 1, k, true, hk => by
    have hlt : k < l0.length := by omega
    have hlt' : k < m0.length := by omega
    have hw : IntKind.wrap .i64 ((k : Int) + 1) = k + 1 := wrap_small (by omega) (by omega)
    have hu : ∀ (l : List Int) (c : Cap), c.pure = c → ∀ a b c' d m, under a b c' d (m + 1) (.sl 1 (List.map (fun n => I n) l) c) = true := fun l c h a b c' d m => by cases c with
      | chain => cases h
      | no => rfl
      | full => rfl
    have h1 := hu l0 c hc
    have h2 := hu m0 c' hc'
    have key : run Cv 30 (.loop keep30_0 body30_0) (head30 (.sl 1 (ints l0) c) (.sl 1 (ints m0) c') true k) {} = run Cv 30 (.loop keep30_0 body30_0) (head30 (.sl 1 (ints l0) c) (.sl 1 (ints m0) c') (l0[k] == m0[k]) (k + 1)) {} := by
      rw [run_loop]
      generalize MC.loop keep30_0 body30_0 = L
      simp [body30_0, keep30_0, head30, ints, hlt, hlt', hw, h1, h2]
    obtain ⟨e, g1, g2, g3⟩ := loop30 l0 m0 c c' hc hc' hl hlen n (k + 1) (l0[k] == m0[k]) (by omega)
    refine ⟨e, by rw [key]; exact g1, ?_, g3⟩
    have hcons : ∀ (a b : Int) (p q : List Int), decide (a :: p = b :: q) = (a == b && decide (p = q)) := fun a b p q => by rw [Bool.eq_iff_iff]; simp
    rw [g2, List.drop_eq_getElem_cons hlt, List.drop_eq_getElem_cons hlt', hcons, Bool.true_and]
theorem equal_call (l m : List Int) (r s : AV) (hr : IsRow 1 (ints l) r) (hs : IsRow 1 (ints m) s) (hl : l.length < 2 ^ 47) (hm : m.length < 2 ^ 47) : call Cv 30 [r, s] = some (.bool (decide (l = m))) := by
  have h1 : lenA r = some (I l.length) := by rw [hr.len]; simp [ints]
  have h2 : lenA s = some (I m.length) := by rw [hs.len]; simp [ints]
  rw [call_def comp30]
  by_cases hlen : l.length = m.length
  · rcases hr with ⟨rfl, h⟩ | ⟨c, hc, rfl⟩
    · have : l = [] := by cases l with | nil => rfl | cons => simp [ints] at h
      subst this
      have : m = [] := by cases m with | nil => rfl | cons => simp at hlen
      subst this
      simp [code30, h2]
      rw [run_loop]
      simp [body30_0, keep30_0]
    · rcases hs with ⟨rfl, h⟩ | ⟨c', hc', rfl⟩
      · have : m = [] := by cases m with | nil => rfl | cons => simp [ints] at h
        subst this
        have : l = [] := by cases l with | nil => rfl | cons => simp at hlen
        subst this
        simp [code30, ints]
        rw [run_loop]
        simp [body30_0, keep30_0]
      · obtain ⟨e, g1, g2, g3⟩ := loop30 l m c c' hc hc' hl hlen l.length 0 true (by omega)
        simp [code30, h1, h2, hlen]
        rw [run_loop_mask, show mask keep30_0 _ = head30 (.sl 1 (ints l) c) (.sl 1 (ints m) c') true (0 : Nat) from by simp [keep30_0, head30]]
        rw [g1]
        have g5 : ∀ h : 5 < e.length, e[5] = .bool (true && decide (l.drop 0 = m.drop 0)) := fun h => (List.getElem?_eq_some_iff.1 g2).2
        simp [g3, g5]
  · have hne : ((l.length : Int) == m.length) = false := by simp; omega
    have hne' : ¬ l = m := fun h => hlen (by rw [h])
    simp [code30, h1, h2, hne]
    rw [run_loop]
    simp [body30_0, keep30_0, hne', hlen]
end Go.Ai
