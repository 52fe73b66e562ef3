/- This text shows what the reference of the voices answers. No conditions of its own. -/
import Derived.Test.YtbjdaefdifofkaaDoorVoxC
import Derived.Test.YtbjdaefdifofkaaDoorCodesR
set_option linter.unusedSimpArgs false
set_option linter.unusedVariables false
set_option maxRecDepth 100000
namespace Go.Ai.Vc
attribute [local simp] opsA_cons opsA_nil oneA condA putR thenA_nm thenA_rt thenA_ex nmA wantedA operA putA ev retA retsA pur depth List.replicate List.getD purR endA condC_bool blockA_nm blockA_rt blockA_ex againA pureA_call call_none pureCallA backA purAll mask
def hasB (set n : Int) : Bool := decide (0 ≤ n) && decide (n < 62) && (set.toNat.testBit n.toNat)
theorem and1 (m : Nat) : m < 2 ^ 62 → IntKind.wrap .i64 ((BitVec.ofInt 64 (m : Int) &&& BitVec.ofInt 64 1).toNat : Int) = ((m % 2 : Nat) : Int) := by
  intro h
  have : (BitVec.ofInt 64 (m : Int) &&& BitVec.ofInt 64 1).toNat = m % 2 := by
    rw [BitVec.toNat_and]
    have h1 : (BitVec.ofInt 64 (m : Int)).toNat = m := by
      rw [BitVec.toNat_ofInt]; omega
    have h2 : (BitVec.ofInt 64 (1 : Int)).toNat = 1 := by decide
    rw [h1, h2, Nat.and_one_is_mod]
  rw [this]
  exact wrap_small (by omega) (by omega)
theorem has_call (set : Nat) (hs : set < 2 ^ 62) (n : Int) : call Cv 92 [I set, I n] = some (.bool (hasB set n)) := by
  rw [call_def comp92]
  by_cases h0 : 0 ≤ n
  · by_cases h1 : n < 62
    · obtain ⟨k, rfl⟩ := Int.eq_ofNat_of_zero_le h0
      have hk : k < 62 := by omega
      have hmin : min k 64 = k := by omega
      have hsh : Int.fdiv (set : Int) (2 ^ k) = ((set / 2 ^ k : Nat) : Int) := by
        rw [Int.fdiv_eq_ediv_of_nonneg _ (by exact Int.le_of_lt (Int.pow_pos (by decide)))]
        norm_cast
      have hlt : set / 2 ^ k < 2 ^ 62 := Nat.lt_of_le_of_lt (Nat.div_le_self _ _) hs
      have ha := and1 (set / 2 ^ k) hlt
      have hneg : ¬ (k : Int) < 0 := by omega
      have hbit : (((set / 2 ^ k % 2 : Nat) : Int) == 1) = set.testBit k := by
        rw [Nat.testBit_eq_decide_div_mod_eq, Bool.eq_iff_iff, beq_iff_eq, decide_eq_true_eq]
        exact ⟨fun h => by exact_mod_cast h, fun h => by exact_mod_cast h⟩
      simp [code92, h0, h1, binI, hneg, IntKind.bits, hmin, hsh, hasB, hk]
      rw [← hbit]
      have ha' : IntKind.wrap .i64 ((BitVec.ofInt 64 ((set : Int) / 2 ^ k) &&& 1#64).toNat : Int) = ((set / 2 ^ k % 2 : Nat) : Int) := by
        have e : ((set : Int) / 2 ^ k) = ((set / 2 ^ k : Nat) : Int) := by norm_cast
        rw [e]; exact ha
      exact congrArg (fun z : Int => z == 1) ha'
    · simp [code92, h0, h1, hasB]
  · simp [code92, h0, hasB]

theorem only_call (a : Int) : call Cv 44 [I a] = some (Span.av ⟨a, a⟩) := by
  rw [call_def comp44]
  simp [code44, fillA, Span.av]
theorem bounds_call (a b : Int) : call Cv 49 [I a, I b] = some (Span.av ⟨a, b⟩) := by
  rw [call_def comp49]
  simp [code49, fillA, Span.av]
def join (s t : Span) : Span := ⟨if t.low < s.low then t.low else s.low, if s.high < t.high then t.high else s.high⟩
theorem join_call (s t : Span) : call Cv 102 [s.av, t.av] = some (Span.av (join s t)) := by
  have h := bounds_call (join s t).low (join s t).high
  simp only [join, Span.av] at h
  rw [call_def comp102]
  simp [code102, Span.av, foldA, min2, max2, h, join]
def Vo.c6 (v : Vo) (loss : Int) : List AV := [I v.low, I v.high, I v.gain, I v.turn, I loss, I v.brk]
def Vo.a6 (loss : Int) (v : Vo) : AV := .agg (v.c6 loss)
theorem rTop_call (v : Vo) (loss week : Int) : call Cv 132 [v.a6 loss, I week] = some (I (topW loss v week)) := by
  rw [call_def comp132]
  simp [code132, Vo.a6, Vo.c6, foldA, min2, topW]
def canR (loss : Int) (v : Vo) (week note : Int) : Bool := decide (week < v.brk) && (decide (v.low ≤ note) && decide (note ≤ topW loss v week))
theorem rCan_call (v : Vo) (loss week note : Int) : call Cv 126 [v.a6 loss, I week, I note] = some (.bool (canR loss v week note)) := by
  have h := rTop_call v loss week
  simp only [Vo.a6, Vo.c6] at h
  rw [call_def comp126]
  by_cases hw : week < v.brk
  · simp [code126, Vo.a6, Vo.c6, h, lies_call, canR, hw]
  · simp [code126, Vo.a6, Vo.c6, h, lies_call, canR, hw]
def badR (loss : Int) (v : Vo) (boy : Int) (set : Nat) (k : Nat) (tr : Trial) : Bool := decide (tr.boy = boy) && (!hasB set k) && (canR loss v tr.week tr.note != decide (tr.sang = 1))
def rightR (loss : Int) (v : Vo) (boy : Int) (set : Nat) : List Trial → Nat → Bool
  | [], _ => true
  | tr :: l, k => !badR loss v boy set k tr && rightR loss v boy set l (k + 1)
def head99 (boy set k : Int) : Env := [.any, I boy, .any, I set, .box 0 0, .any, .box 1 0, .any, .any, I k] ++ List.replicate 35 .any
theorem loop99 (x : Book) (hx : x.Ok) (boy : Int) (loss : Int) (v : Vo) (set : Nat) (hset : set < 2 ^ 62) : ∀ (l : List Trial) (k : Nat), k ≤ x.trials.length → x.trials.drop k = l →
    ∃ e c σ, run Cv 125 (.loop keep125_0 body125_0) (head99 boy set k) { boxes := [x.cells, v.c6 loss] } = some (c, e, σ) ∧
      ((c = .ex 0 ∧ rightR loss v boy set l k = true) ∨ (c = .rt ∧ rightR loss v boy set l k = false ∧ e[8]? = some (.bool false))) ∧ e.length = 45
  | [], k, hk, h => by
    have : k = x.trials.length := Nat.le_antisymm hk (by simpa using h)
    subst this
    have hlen := hx.lenT
    have key : ∃ e σ, run Cv 125 (.loop keep125_0 body125_0) (head99 boy set x.trials.length) { boxes := [x.cells, v.c6 loss] } = some (.ex 0, e, σ) ∧ e.length = 45 := by
      rw [run_loop]
      simp [body125_0, keep125_0, head99, Book.cells, hlen]
    obtain ⟨e, σ, k1, k2⟩ := key
    exact ⟨e, .ex 0, σ, k1, .inl ⟨rfl, rfl⟩, k2⟩
  | tr :: l, k, hk, h => by
    have hb' : x.trials[k]? = some tr := by
      have : (x.trials.drop k)[0]? = some tr := by rw [h]; rfl
      simpa using this
    have hlt : k < x.trials.length := (List.getElem?_eq_some_iff.1 hb').1
    have hlen := hx.tlen
    have hlen' := hx.lenT
    have hn : ¬ x.tnil.e := fun hn => by rw [hx.trials hn] at hlt; simp at hlt
    have hrow : rowV 4 (x.trials.map Trial.av) x.tnil = .sl 4 (x.trials.map Trial.av) x.tnil.cap := rowV_some hn
    have hi : (k : Int) < (x.trials.length : Int) := by omega
    have hw : IntKind.wrap .i64 ((k : Int) + 1) = k + 1 := wrap_small (by omega) (by omega)
    have hbb : x.trials[k] = tr := (List.getElem?_eq_some_iff.1 hb').2
    have h1 := rCan_call v loss tr.week tr.note
    simp only [Vo.a6, Vo.c6] at h1
    have h2 := has_call set hset k
    have hbe : (tr.sang == 1) = decide (tr.sang = 1) := by rw [Bool.eq_iff_iff]; simp
    cases hbad : badR loss v boy set k tr with
    | false =>
      have key : run Cv 125 (.loop keep125_0 body125_0) (head99 boy set k) { boxes := [x.cells, v.c6 loss] } = run Cv 125 (.loop keep125_0 body125_0) (head99 boy set (k + 1)) { boxes := [x.cells, v.c6 loss] } := by
        have e1 : tr.boy = boy ∧ hasB set k = false → (canR loss v tr.week tr.note = decide (tr.sang = 1)) := by
          rintro ⟨q1, q2⟩
          simpa [badR, q1, q2] using hbad
        rw [run_loop]
        generalize MC.loop keep125_0 body125_0 = L
        by_cases q1 : tr.boy = boy
        · cases q2 : hasB set k with
          | true =>
            rw [q2] at h2
            simp [body125_0, keep125_0, head99, hi, hb', hrow, Book.cells, Trial.av, hw, hlt, under, hbb, h1, h2, Vo.c6, q1]
          | false =>
            rw [q2] at h2
            have e2 := e1 ⟨q1, q2⟩
            simp [body125_0, keep125_0, head99, hi, hb', hrow, Book.cells, Trial.av, hw, hlt, under, hbb, h1, h2, Vo.c6, q1, e2, hbe]
        · simp [body125_0, keep125_0, head99, hi, hb', hrow, Book.cells, Trial.av, hw, hlt, under, hbb, h1, h2, Vo.c6, q1]
      rw [key]
      have := loop99 x hx boy loss v set hset l (k + 1) hlt (by rw [← List.drop_drop, h]; rfl)
      simpa [rightR, hbad] using this
    | true =>
      have hbad' := hbad
      simp only [badR, Bool.and_eq_true, decide_eq_true_eq, Bool.not_eq_true'] at hbad
      obtain ⟨⟨q1, q2⟩, q3⟩ := hbad
      have q4 : ¬ (canR loss v tr.week tr.note = decide (tr.sang = 1)) := by simpa using q3
      rw [q2] at h2
      have key : ∃ e σ, run Cv 125 (.loop keep125_0 body125_0) (head99 boy set k) { boxes := [x.cells, v.c6 loss] } = some (.rt, e, σ) ∧ e[8]? = some (.bool false) ∧ e.length = 45 := by
        rw [run_loop]
        simp [body125_0, keep125_0, head99, hi, hb', hrow, Book.cells, Trial.av, hlt, under, hbb, h1, h2, Vo.c6, q1, q4, hbe]
      obtain ⟨e, σ, k1, k2, k3⟩ := key
      exact ⟨e, .rt, σ, k1, .inr ⟨rfl, by simp [rightR, hbad'], k2⟩, k3⟩
theorem rRight_call (x : Book) (hx : x.Ok) (boy : Int) (loss : Int) (v : Vo) (set : Nat) (hset : set < 2 ^ 62) : call Cv 125 [x.av, I boy, v.a6 loss, I set] = some (.bool (rightR loss v boy set x.trials 0)) := by
  obtain ⟨e, c, σ, h1, h2, h3⟩ := loop99 x hx boy loss v set hset x.trials 0 (Nat.zero_le _) rfl
  simp only [Book.cells, Vo.c6] at h1
  rw [call_def comp125]
  simp [code125, Book.av, Book.cells, Vo.a6, Vo.c6]
  rw [run_loop_mask]
  rw [show mask keep125_0 _ = head99 boy set (0 : Nat) from by simp [keep125_0, head99]]
  rw [h1]
  rcases h2 with ⟨rfl, h2⟩ | ⟨rfl, h2, h4⟩
  · simp [h2, h3]
  · simp [h2, h4]
end Go.Ai.Vc

set_option maxRecDepth 100000
namespace Go.Ai.Vc
attribute [local simp] opsA_cons opsA_nil oneA condA putR thenA_nm thenA_rt thenA_ex nmA wantedA operA putA ev retA retsA pur depth List.replicate List.getD purR endA condC_bool blockA_nm blockA_rt blockA_ex againA pureA_call call_none pureCallA backA purAll mask
def seqI : Int → Nat → List Int
  | _, 0 => []
  | n, m + 1 => n :: seqI (n + 1) m
theorem vals_seq (s : Span) : vals s = seqI s.low (s.high - s.low + 1).toNat := by
  have : ∀ (m : Nat) (a : Int), (List.range m).map (fun (i : Nat) => a + (i : Int)) = seqI a m := by
    intro m
    induction m with
    | zero => intro a; rfl
    | succ m ih =>
      intro a
      rw [List.range_succ_eq_map, List.map_cons, seqI, ← ih (a + 1), List.map_map]
      simp only [Int.natCast_zero, Int.add_zero, List.cons.injEq, true_and]
      refine List.map_congr_left fun i _ => ?_
      simp only [Function.comp]
      omega
  exact this _ _
def okR (x : Book) (boy : Int) (loss : Int) (set : Nat) (v : Vo) : Bool := rightR loss v boy set x.trials 0
def rowR (loss : Int) (out : List Vo) : AV := if out = [] then .nils else .sl 6 (out.map (Vo.a6 loss)) (.chain 0)
def chR (out : List Vo) : List (Nat × Nat) := if out = [] then [] else [(out.length, 6)]
def stR (x : Book) (b : Boy) (out : List Vo) (v : Vo) : St := { boxes := [x.cells, b.cells, v.c6 b.loss], chains := chR out }
def headR (loss boy set : Int) (out : List Vo) : Env := [.any, I boy, I set, .box 0 0, .any, .any, .any, rowR loss out, .box 1 0, .box 2 0] ++ List.replicate 88 .any
theorem cutR_st (x : Book) (b : Boy) (out more : List Vo) (v v' : Vo) (e : Env) (boy set : Int) (he : e = headR b.loss boy set (out ++ more)) : cut (stR x b out v) (stR x b (out ++ more) v') e = stR x b (out ++ more) v' := by
  subst he
  by_cases ho : out = []
  · by_cases hm : more = []
    · simp [stR, ho, hm, chR, headR, rowR, under, Book.cells, Boy.cells, Vo.c6]
    · simp [stR, ho, hm, chR, headR, rowR, under, Book.cells, Boy.cells, Vo.c6]
  · simp [stR, ho, chR, headR, rowR, under, Book.cells, Boy.cells, Vo.c6]
def exitE (loss boy set : Int) (out : List Vo) (t f s : Nat) (n hi : Int) : Env := ((((((headR loss boy set out).set t (.box 2 f)).set (t + 1) (I n)).set (t + 2) (.box 1 s)).set (t + 3) (.box 1 (s + 1))).set (t + 4) (I hi)).set (t + 5) (.bool false)
theorem loopR0 (x : Book) (hx : x.Ok) (boy : Int) (b : Boy) (set : Nat) (hset : set < 2 ^ 62) (hhi : b.brk.high ≤ 100) : ∀ (m : Nat) (n : Int) (out : List Vo) (v : Vo), n + m = b.brk.high + 1 → 0 ≤ n → out.length + (((seqI n m).map (v.put 4)).filter (okR x boy b.loss set)).length < 100000 →
    ∃ v' : Vo, (∀ j, j < 4 → v'.get j = v.get j) ∧ run Cv 112 (.loop keep112_0 body112_0) (headR b.loss boy set out) (stR x b out (v.put 4 n)) =
      some (.ex 8, exitE b.loss boy set (out ++ ((seqI n m).map (v.put 4)).filter (okR x boy b.loss set)) 78 5 9 (b.brk.high + 1) b.brk.high, stR x b (out ++ ((seqI n m).map (v.put 4)).filter (okR x boy b.loss set)) v')
  | 0, n, out, v, hn, h0, hl => by
    have h1 : ¬ n ≤ b.brk.high := by omega
    have h2 : n = b.brk.high + 1 := by omega
    refine ⟨v.put 4 n, fun j hj => by
      have : j = 0 ∨ j = 1 ∨ j = 2 ∨ j = 3 := by omega
      rcases this with rfl | rfl | rfl | rfl <;> rfl, ?_⟩
    rw [run_loop]
    simp [body112_0, keep112_0, headR, stR, Vo.c6, Vo.put, Boy.cells, h1, seqI, exitE]
    exact h2
  | m + 1, n, out, v, hn, h0, hl => by
    have h1 : n ≤ b.brk.high := by omega
    have hw : IntKind.wrap .i64 (n + 1) = n + 1 := wrap_small (by omega) (by omega)
    have hr := rRight_call x hx boy b.loss (v.put 4 n) set hset
    simp only [Book.av, Book.cells, Vo.a6, Vo.c6, Vo.put] at hr
    have hbytes : (out.length + 1) * 48 ≤ 140737488355328 := by omega
    have hl' : (out ++ if okR x boy b.loss set (v.put 4 n) then [v.put 4 n] else []).length + (((seqI (n + 1) m).map (v.put 4)).filter (okR x boy b.loss set)).length < 100000 := by
      simp only [seqI, List.map_cons, List.filter_cons] at hl
      cases hok : okR x boy b.loss set (v.put 4 n) <;> simp [hok] at hl ⊢ <;> omega
    have hcut := fun more v' e => cutR_st x b out more (v.put 4 n) v' e boy set
    simp only [stR, Vo.put, Vo.c6] at hcut
    have key : run Cv 112 (.loop keep112_0 body112_0) (headR b.loss boy set out) (stR x b out (v.put 4 n)) = run Cv 112 (.loop keep112_0 body112_0) (headR b.loss boy set (out ++ if okR x boy b.loss set (v.put 4 n) then [v.put 4 n] else [])) (stR x b (out ++ if okR x boy b.loss set (v.put 4 n) then [v.put 4 n] else []) (v.put 4 (n + 1))) := by
      rw [run_loop]
      generalize MC.loop keep112_0 body112_0 = L
      simp only [okR, Vo.put]
      cases hp : rightR b.loss ⟨v.low, v.high, v.gain, v.turn, n⟩ boy set x.trials 0 with
      | false =>
        rw [hp] at hr
        simp [-cut, body112_0, keep112_0, headR, stR, Vo.c6, Vo.put, Boy.cells, h1, Book.cells, hr, hw]
        have hc := hcut [] ⟨v.low, v.high, v.gain, v.turn, n + 1⟩ _ rfl
        rw [List.append_nil] at hc
        exact congrArg (run Cv 112 L _) hc
      | true =>
        rw [hp] at hr
        have hc := hcut [⟨v.low, v.high, v.gain, v.turn, n⟩] ⟨v.low, v.high, v.gain, v.turn, n + 1⟩ _ rfl
        by_cases ho : out = []
        · simp [-cut, body112_0, keep112_0, headR, stR, Vo.c6, Vo.put, Boy.cells, h1, Book.cells, hr, hw, rowR, chR, ho, fillE, AV.isAgg, appA, elemsA, grown, Vo.a6]
          simp only [ho, List.nil_append] at hc
          exact congrArg (run Cv 112 L _) hc
        · simp [-cut, body112_0, keep112_0, headR, stR, Vo.c6, Vo.put, Boy.cells, h1, Book.cells, hr, hw, rowR, chR, ho, fillE, AV.isAgg, appA, elemsA, grown, Vo.a6, hbytes]
          simp [-cut, headR, rowR, chR, ho, Vo.a6, Vo.c6, Boy.cells, Book.cells] at hc
          rw [hc]
    obtain ⟨v', g1, g2⟩ := loopR0 x hx boy b set hset hhi m (n + 1) (out ++ if okR x boy b.loss set (v.put 4 n) then [v.put 4 n] else []) v (by omega) (by omega) hl'
    refine ⟨v', g1, ?_⟩
    rw [key, g2]
    cases hok : okR x boy b.loss set (v.put 4 n) <;> simp [seqI, hok]

theorem get_put (v : Vo) (k j : Nat) (hk : k < 5) (hj : j < 5) (n : Int) : (v.put k n).get j = if j = k then n else v.get j := by
  have h1 : k = 0 ∨ k = 1 ∨ k = 2 ∨ k = 3 ∨ k = 4 := by omega
  have h2 : j = 0 ∨ j = 1 ∨ j = 2 ∨ j = 3 ∨ j = 4 := by omega
  rcases h1 with rfl | rfl | rfl | rfl | rfl <;> rcases h2 with rfl | rfl | rfl | rfl | rfl <;> rfl
theorem Vo.ext5 {v w : Vo} (h : ∀ j, j < 5 → v.get j = w.get j) : v = w := by
  have h0 := h 0 (by omega)
  have h1 := h 1 (by omega)
  have h2 := h 2 (by omega)
  have h3 := h 3 (by omega)
  have h4 := h 4 (by omega)
  cases v; cases w
  simp only [Vo.get] at h0 h1 h2 h3 h4
  subst h0 h1 h2 h3 h4
  rfl
theorem enum_congr (b : Boy) (ok : Vo → Bool) : ∀ (d : Nat), d ≤ 4 → ∀ (v w : Vo), (∀ j, j < 4 - d → v.get j = w.get j) → enum b ok d v = enum b ok d w
  | 0, _, v, w, h => by
    have : v.put 4 = w.put 4 := by
      funext n
      refine Vo.ext5 fun j hj => ?_
      rw [get_put _ _ _ (by omega) hj, get_put _ _ _ (by omega) hj]
      split
      · rfl
      · exact h j (by omega)
    simp only [enum, this]
  | d + 1, hd, v, w, h => by
    simp only [enum]
    congr 1
    funext n
    refine enum_congr b ok d (by omega) _ _ fun j hj => ?_
    rw [get_put _ _ _ (by omega) (by omega), get_put _ _ _ (by omega) (by omega)]
    split
    · rfl
    · exact h j (by omega)
end Go.Ai.Vc

set_option maxRecDepth 100000
namespace Go.Ai.Vc
attribute [local simp] opsA_cons opsA_nil oneA condA putR thenA_nm thenA_rt thenA_ex nmA wantedA operA putA ev retA retsA pur depth List.replicate List.getD purR endA condC_bool blockA_nm blockA_rt blockA_ex againA pureA_call call_none pureCallA backA purAll mask
structure SpOk (b : Boy) : Prop where
  ok : ∀ k, k < 5 → 0 ≤ (b.span k).low ∧ (b.span k).low ≤ (b.span k).high ∧ (b.span k).high ≤ 100

theorem loopR1 (x : Book) (hx : x.Ok) (boy : Int) (b : Boy) (hsp : SpOk b) (set : Nat) (hset : set < 2 ^ 62) : ∀ (m : Nat) (n : Int) (out : List Vo) (v : Vo), n + m = b.turn.high + 1 → 0 ≤ n → out.length + ((seqI n m).flatMap fun n => enum b (okR x boy b.loss set) 0 (v.put 3 n)).length < 100000 →
    ∃ v' : Vo, (∀ j, j < 3 → v'.get j = v.get j) ∧ run Cv 112 (.loop keep112_1 body112_1) (headR b.loss boy set out) (stR x b out (v.put 3 n)) =
      some (.ex 6, exitE b.loss boy set (out ++ (seqI n m).flatMap fun n => enum b (okR x boy b.loss set) 0 (v.put 3 n)) 64 3 6 (b.turn.high + 1) b.turn.high, stR x b (out ++ (seqI n m).flatMap fun n => enum b (okR x boy b.loss set) 0 (v.put 3 n)) v')
  | 0, n, out, v, hn, h0, hl => by
    have h1 : ¬ n ≤ b.turn.high := by omega
    have h2 : n = b.turn.high + 1 := by omega
    refine ⟨v.put 3 n, fun j hj => by rw [get_put _ _ _ (by omega) (by omega), if_neg (by omega)], ?_⟩
    rw [run_loop]
    simp [body112_1, keep112_1, headR, stR, Vo.c6, Vo.put, Boy.cells, h1, seqI, exitE]
    exact h2
  | m + 1, n, out, v, hn, h0, hl => by
    have hin := hsp.ok 4 (by omega)
    have hown := hsp.ok 3 (by omega)
    simp only [Boy.span] at hin hown
    have h1 : n ≤ b.turn.high := by omega
    have hw : IntKind.wrap .i64 (n + 1) = n + 1 := wrap_small (by omega) (by omega)
    have hlist : enum b (okR x boy b.loss set) 0 (v.put 3 n) = ((seqI (b.brk.low) (b.brk.high - b.brk.low + 1).toNat).map ((v.put 3 n).put 4)).filter (okR x boy b.loss set) := by
      simp only [enum, Boy.span, vals_seq]
    have hl1 : out.length + (((seqI (b.brk.low) (b.brk.high - b.brk.low + 1).toNat).map ((v.put 3 n).put 4)).filter (okR x boy b.loss set)).length < 100000 := by
      rw [← hlist]
      rw [seqI, List.flatMap_cons, List.length_append] at hl
      omega
    obtain ⟨v1, g1, g2⟩ := loopR0 x hx boy b set hset hin.2.2 (b.brk.high - b.brk.low + 1).toNat b.brk.low out (v.put 3 n) (by omega) hin.1 hl1
    rw [← hlist] at g2
    generalize hE : enum b (okR x boy b.loss set) 0 (v.put 3 n) = more at g2
    have hown1 : v1.get 3 = n := by rw [g1 3 (by omega), get_put _ _ _ (by omega) (by omega), if_pos rfl]
    have hcut := fun e he => cutR_st x b out more (v.put 3 n) (v1.put 3 (n + 1)) e boy set he
    have key : run Cv 112 (.loop keep112_1 body112_1) (headR b.loss boy set out) (stR x b out (v.put 3 n)) = run Cv 112 (.loop keep112_1 body112_1) (headR b.loss boy set (out ++ more)) (stR x b (out ++ more) (v1.put 3 (n + 1))) := by
      have hc := hcut _ rfl
      simp only [stR, Vo.put, Vo.c6, Vo.get] at g2 hc hown1
      rw [run_loop]
      generalize MC.loop keep112_1 body112_1 = L
      simp only [body112_1]
      simp [-cut, keep112_1, headR, stR, Vo.c6, Vo.put, Boy.cells, h1]
      rw [run_loop_mask, show mask keep112_0 _ = headR b.loss boy set out from by simp [keep112_0, headR]]
      simp only [Boy.cells] at g2
      rw [g2]
      simp [-cut, exitE, headR, hown1, hw]
      exact congrArg (run Cv 112 L _) hc
    have hrest : ((seqI (n + 1) m).flatMap fun n => enum b (okR x boy b.loss set) 0 (v1.put 3 n)) = ((seqI (n + 1) m).flatMap fun n => enum b (okR x boy b.loss set) 0 (v.put 3 n)) := by
      congr 1
      funext n'
      refine enum_congr b _ 0 (by omega) _ _ fun j hj => ?_
      rw [get_put _ _ _ (by omega) (by omega), get_put _ _ _ (by omega) (by omega)]
      split
      · rfl
      · rw [g1 j (by omega), get_put _ _ _ (by omega) (by omega), if_neg (by omega)]
    obtain ⟨v2, f1, f2⟩ := loopR1 x hx boy b hsp set hset m (n + 1) (out ++ more) v1 (by omega) (by omega) (by
      rw [hrest]
      rw [seqI, List.flatMap_cons, List.length_append, hE] at hl
      rw [List.length_append]
      omega)
    refine ⟨v2, fun j hj => by rw [f1 j hj, g1 j (by omega), get_put _ _ _ (by omega) (by omega), if_neg (by omega)], ?_⟩
    rw [key, f2, hrest, seqI, List.flatMap_cons, hE, List.append_assoc]

theorem loopR2 (x : Book) (hx : x.Ok) (boy : Int) (b : Boy) (hsp : SpOk b) (set : Nat) (hset : set < 2 ^ 62) : ∀ (m : Nat) (n : Int) (out : List Vo) (v : Vo), n + m = b.gain.high + 1 → 0 ≤ n → out.length + ((seqI n m).flatMap fun n => enum b (okR x boy b.loss set) 1 (v.put 2 n)).length < 100000 →
    ∃ v' : Vo, (∀ j, j < 2 → v'.get j = v.get j) ∧ run Cv 112 (.loop keep112_2 body112_2) (headR b.loss boy set out) (stR x b out (v.put 2 n)) =
      some (.ex 4, exitE b.loss boy set (out ++ (seqI n m).flatMap fun n => enum b (okR x boy b.loss set) 1 (v.put 2 n)) 50 2 4 (b.gain.high + 1) b.gain.high, stR x b (out ++ (seqI n m).flatMap fun n => enum b (okR x boy b.loss set) 1 (v.put 2 n)) v')
  | 0, n, out, v, hn, h0, hl => by
    have h1 : ¬ n ≤ b.gain.high := by omega
    have h2 : n = b.gain.high + 1 := by omega
    refine ⟨v.put 2 n, fun j hj => by rw [get_put _ _ _ (by omega) (by omega), if_neg (by omega)], ?_⟩
    rw [run_loop]
    simp [body112_2, keep112_2, headR, stR, Vo.c6, Vo.put, Boy.cells, h1, seqI, exitE]
    exact h2
  | m + 1, n, out, v, hn, h0, hl => by
    have hin := hsp.ok 3 (by omega)
    have hown := hsp.ok 2 (by omega)
    simp only [Boy.span] at hin hown
    have h1 : n ≤ b.gain.high := by omega
    have hw : IntKind.wrap .i64 (n + 1) = n + 1 := wrap_small (by omega) (by omega)
    have hlist : enum b (okR x boy b.loss set) 1 (v.put 2 n) = (seqI (b.turn.low) (b.turn.high - b.turn.low + 1).toNat).flatMap fun n' => enum b (okR x boy b.loss set) 0 ((v.put 2 n).put 3 n') := by
      simp only [enum, Boy.span, vals_seq]
    have hl1 : out.length + ((seqI (b.turn.low) (b.turn.high - b.turn.low + 1).toNat).flatMap fun n' => enum b (okR x boy b.loss set) 0 ((v.put 2 n).put 3 n')).length < 100000 := by
      rw [← hlist]
      rw [seqI, List.flatMap_cons, List.length_append] at hl
      omega
    obtain ⟨v1, g1, g2⟩ := loopR1 x hx boy b hsp set hset (b.turn.high - b.turn.low + 1).toNat b.turn.low out (v.put 2 n) (by omega) hin.1 hl1
    rw [← hlist] at g2
    generalize hE : enum b (okR x boy b.loss set) 1 (v.put 2 n) = more at g2
    have hown1 : v1.get 2 = n := by rw [g1 2 (by omega), get_put _ _ _ (by omega) (by omega), if_pos rfl]
    have hcut := fun e he => cutR_st x b out more (v.put 2 n) (v1.put 2 (n + 1)) e boy set he
    have key : run Cv 112 (.loop keep112_2 body112_2) (headR b.loss boy set out) (stR x b out (v.put 2 n)) = run Cv 112 (.loop keep112_2 body112_2) (headR b.loss boy set (out ++ more)) (stR x b (out ++ more) (v1.put 2 (n + 1))) := by
      have hc := hcut _ rfl
      simp only [stR, Vo.put, Vo.c6, Vo.get] at g2 hc hown1
      rw [run_loop]
      generalize MC.loop keep112_2 body112_2 = L
      simp only [body112_2]
      simp [-cut, keep112_2, headR, stR, Vo.c6, Vo.put, Boy.cells, h1]
      rw [run_loop_mask, show mask keep112_1 _ = headR b.loss boy set out from by simp [keep112_1, headR]]
      simp only [Boy.cells] at g2
      rw [g2]
      simp [-cut, exitE, headR, hown1, hw]
      exact congrArg (run Cv 112 L _) hc
    have hrest : ((seqI (n + 1) m).flatMap fun n => enum b (okR x boy b.loss set) 1 (v1.put 2 n)) = ((seqI (n + 1) m).flatMap fun n => enum b (okR x boy b.loss set) 1 (v.put 2 n)) := by
      congr 1
      funext n'
      refine enum_congr b _ 1 (by omega) _ _ fun j hj => ?_
      rw [get_put _ _ _ (by omega) (by omega), get_put _ _ _ (by omega) (by omega)]
      split
      · rfl
      · rw [g1 j (by omega), get_put _ _ _ (by omega) (by omega), if_neg (by omega)]
    obtain ⟨v2, f1, f2⟩ := loopR2 x hx boy b hsp set hset m (n + 1) (out ++ more) v1 (by omega) (by omega) (by
      rw [hrest]
      rw [seqI, List.flatMap_cons, List.length_append, hE] at hl
      rw [List.length_append]
      omega)
    refine ⟨v2, fun j hj => by rw [f1 j hj, g1 j (by omega), get_put _ _ _ (by omega) (by omega), if_neg (by omega)], ?_⟩
    rw [key, f2, hrest, seqI, List.flatMap_cons, hE, List.append_assoc]

theorem loopR3 (x : Book) (hx : x.Ok) (boy : Int) (b : Boy) (hsp : SpOk b) (set : Nat) (hset : set < 2 ^ 62) : ∀ (m : Nat) (n : Int) (out : List Vo) (v : Vo), n + m = b.high.high + 1 → 0 ≤ n → out.length + ((seqI n m).flatMap fun n => enum b (okR x boy b.loss set) 2 (v.put 1 n)).length < 100000 →
    ∃ v' : Vo, (∀ j, j < 1 → v'.get j = v.get j) ∧ run Cv 112 (.loop keep112_3 body112_3) (headR b.loss boy set out) (stR x b out (v.put 1 n)) =
      some (.ex 2, exitE b.loss boy set (out ++ (seqI n m).flatMap fun n => enum b (okR x boy b.loss set) 2 (v.put 1 n)) 36 1 2 (b.high.high + 1) b.high.high, stR x b (out ++ (seqI n m).flatMap fun n => enum b (okR x boy b.loss set) 2 (v.put 1 n)) v')
  | 0, n, out, v, hn, h0, hl => by
    have h1 : ¬ n ≤ b.high.high := by omega
    have h2 : n = b.high.high + 1 := by omega
    refine ⟨v.put 1 n, fun j hj => by rw [get_put _ _ _ (by omega) (by omega), if_neg (by omega)], ?_⟩
    rw [run_loop]
    simp [body112_3, keep112_3, headR, stR, Vo.c6, Vo.put, Boy.cells, h1, seqI, exitE]
    exact h2
  | m + 1, n, out, v, hn, h0, hl => by
    have hin := hsp.ok 2 (by omega)
    have hown := hsp.ok 1 (by omega)
    simp only [Boy.span] at hin hown
    have h1 : n ≤ b.high.high := by omega
    have hw : IntKind.wrap .i64 (n + 1) = n + 1 := wrap_small (by omega) (by omega)
    have hlist : enum b (okR x boy b.loss set) 2 (v.put 1 n) = (seqI (b.gain.low) (b.gain.high - b.gain.low + 1).toNat).flatMap fun n' => enum b (okR x boy b.loss set) 1 ((v.put 1 n).put 2 n') := by
      simp only [enum, Boy.span, vals_seq]
    have hl1 : out.length + ((seqI (b.gain.low) (b.gain.high - b.gain.low + 1).toNat).flatMap fun n' => enum b (okR x boy b.loss set) 1 ((v.put 1 n).put 2 n')).length < 100000 := by
      rw [← hlist]
      rw [seqI, List.flatMap_cons, List.length_append] at hl
      omega
    obtain ⟨v1, g1, g2⟩ := loopR2 x hx boy b hsp set hset (b.gain.high - b.gain.low + 1).toNat b.gain.low out (v.put 1 n) (by omega) hin.1 hl1
    rw [← hlist] at g2
    generalize hE : enum b (okR x boy b.loss set) 2 (v.put 1 n) = more at g2
    have hown1 : v1.get 1 = n := by rw [g1 1 (by omega), get_put _ _ _ (by omega) (by omega), if_pos rfl]
    have hcut := fun e he => cutR_st x b out more (v.put 1 n) (v1.put 1 (n + 1)) e boy set he
    have key : run Cv 112 (.loop keep112_3 body112_3) (headR b.loss boy set out) (stR x b out (v.put 1 n)) = run Cv 112 (.loop keep112_3 body112_3) (headR b.loss boy set (out ++ more)) (stR x b (out ++ more) (v1.put 1 (n + 1))) := by
      have hc := hcut _ rfl
      simp only [stR, Vo.put, Vo.c6, Vo.get] at g2 hc hown1
      rw [run_loop]
      generalize MC.loop keep112_3 body112_3 = L
      simp only [body112_3]
      simp [-cut, keep112_3, headR, stR, Vo.c6, Vo.put, Boy.cells, h1]
      rw [run_loop_mask, show mask keep112_2 _ = headR b.loss boy set out from by simp [keep112_2, headR]]
      simp only [Boy.cells] at g2
      rw [g2]
      simp [-cut, exitE, headR, hown1, hw]
      exact congrArg (run Cv 112 L _) hc
    have hrest : ((seqI (n + 1) m).flatMap fun n => enum b (okR x boy b.loss set) 2 (v1.put 1 n)) = ((seqI (n + 1) m).flatMap fun n => enum b (okR x boy b.loss set) 2 (v.put 1 n)) := by
      congr 1
      funext n'
      refine enum_congr b _ 2 (by omega) _ _ fun j hj => ?_
      rw [get_put _ _ _ (by omega) (by omega), get_put _ _ _ (by omega) (by omega)]
      split
      · rfl
      · rw [g1 j (by omega), get_put _ _ _ (by omega) (by omega), if_neg (by omega)]
    obtain ⟨v2, f1, f2⟩ := loopR3 x hx boy b hsp set hset m (n + 1) (out ++ more) v1 (by omega) (by omega) (by
      rw [hrest]
      rw [seqI, List.flatMap_cons, List.length_append, hE] at hl
      rw [List.length_append]
      omega)
    refine ⟨v2, fun j hj => by rw [f1 j hj, g1 j (by omega), get_put _ _ _ (by omega) (by omega), if_neg (by omega)], ?_⟩
    rw [key, f2, hrest, seqI, List.flatMap_cons, hE, List.append_assoc]

theorem loopR4 (x : Book) (hx : x.Ok) (boy : Int) (b : Boy) (hsp : SpOk b) (set : Nat) (hset : set < 2 ^ 62) : ∀ (m : Nat) (n : Int) (out : List Vo) (v : Vo), n + m = b.low.high + 1 → 0 ≤ n → out.length + ((seqI n m).flatMap fun n => enum b (okR x boy b.loss set) 3 (v.put 0 n)).length < 100000 →
    ∃ v' : Vo, (∀ j, j < 0 → v'.get j = v.get j) ∧ run Cv 112 (.loop keep112_4 body112_4) (headR b.loss boy set out) (stR x b out (v.put 0 n)) =
      some (.ex 0, exitE b.loss boy set (out ++ (seqI n m).flatMap fun n => enum b (okR x boy b.loss set) 3 (v.put 0 n)) 22 0 0 (b.low.high + 1) b.low.high, stR x b (out ++ (seqI n m).flatMap fun n => enum b (okR x boy b.loss set) 3 (v.put 0 n)) v')
  | 0, n, out, v, hn, h0, hl => by
    have h1 : ¬ n ≤ b.low.high := by omega
    have h2 : n = b.low.high + 1 := by omega
    refine ⟨v.put 0 n, fun j hj => by rw [get_put _ _ _ (by omega) (by omega), if_neg (by omega)], ?_⟩
    rw [run_loop]
    simp [body112_4, keep112_4, headR, stR, Vo.c6, Vo.put, Boy.cells, h1, seqI, exitE]
    exact h2
  | m + 1, n, out, v, hn, h0, hl => by
    have hin := hsp.ok 1 (by omega)
    have hown := hsp.ok 0 (by omega)
    simp only [Boy.span] at hin hown
    have h1 : n ≤ b.low.high := by omega
    have hw : IntKind.wrap .i64 (n + 1) = n + 1 := wrap_small (by omega) (by omega)
    have hlist : enum b (okR x boy b.loss set) 3 (v.put 0 n) = (seqI (b.high.low) (b.high.high - b.high.low + 1).toNat).flatMap fun n' => enum b (okR x boy b.loss set) 2 ((v.put 0 n).put 1 n') := by
      simp only [enum, Boy.span, vals_seq]
    have hl1 : out.length + ((seqI (b.high.low) (b.high.high - b.high.low + 1).toNat).flatMap fun n' => enum b (okR x boy b.loss set) 2 ((v.put 0 n).put 1 n')).length < 100000 := by
      rw [← hlist]
      rw [seqI, List.flatMap_cons, List.length_append] at hl
      omega
    obtain ⟨v1, g1, g2⟩ := loopR3 x hx boy b hsp set hset (b.high.high - b.high.low + 1).toNat b.high.low out (v.put 0 n) (by omega) hin.1 hl1
    rw [← hlist] at g2
    generalize hE : enum b (okR x boy b.loss set) 3 (v.put 0 n) = more at g2
    have hown1 : v1.get 0 = n := by rw [g1 0 (by omega), get_put _ _ _ (by omega) (by omega), if_pos rfl]
    have hcut := fun e he => cutR_st x b out more (v.put 0 n) (v1.put 0 (n + 1)) e boy set he
    have key : run Cv 112 (.loop keep112_4 body112_4) (headR b.loss boy set out) (stR x b out (v.put 0 n)) = run Cv 112 (.loop keep112_4 body112_4) (headR b.loss boy set (out ++ more)) (stR x b (out ++ more) (v1.put 0 (n + 1))) := by
      have hc := hcut _ rfl
      simp only [stR, Vo.put, Vo.c6, Vo.get] at g2 hc hown1
      rw [run_loop]
      generalize MC.loop keep112_4 body112_4 = L
      simp only [body112_4]
      simp [-cut, keep112_4, headR, stR, Vo.c6, Vo.put, Boy.cells, h1]
      rw [run_loop_mask, show mask keep112_3 _ = headR b.loss boy set out from by simp [keep112_3, headR]]
      simp only [Boy.cells] at g2
      rw [g2]
      simp [-cut, exitE, headR, hown1, hw]
      exact congrArg (run Cv 112 L _) hc
    have hrest : ((seqI (n + 1) m).flatMap fun n => enum b (okR x boy b.loss set) 3 (v1.put 0 n)) = ((seqI (n + 1) m).flatMap fun n => enum b (okR x boy b.loss set) 3 (v.put 0 n)) := by
      rfl
    obtain ⟨v2, f1, f2⟩ := loopR4 x hx boy b hsp set hset m (n + 1) (out ++ more) v1 (by omega) (by omega) (by
      rw [hrest]
      rw [seqI, List.flatMap_cons, List.length_append, hE] at hl
      rw [List.length_append]
      omega)
    refine ⟨v2, fun j hj => by rw [f1 j hj, g1 j (by omega), get_put _ _ _ (by omega) (by omega), if_neg (by omega)], ?_⟩
    rw [key, f2, hrest, seqI, List.flatMap_cons, hE, List.append_assoc]

def refVoices (x : Book) (boy : Int) (b : Boy) (set : Nat) : List Vo := enum b (okR x boy b.loss set) 4 ⟨0, 0, 0, 0, 0⟩
def rowRN (loss : Int) (out : List Vo) : AV := if out = [] then .nils else .sl 6 (out.map (Vo.a6 loss)) .no
theorem refVoices_call (x : Book) (hx : x.Ok) (boy : Nat) (b : Boy) (hb : x.boys[boy]? = some b) (hsp : SpOk b) (set : Nat) (hset : set < 2 ^ 62) (hl : (refVoices x boy b set).length < 100000) :
    call Cv 112 [x.av, I boy, I set] = some (rowRN b.loss (refVoices x boy b set)) := by
  have hlt : boy < x.boys.length := (List.getElem?_eq_some_iff.1 hb).1
  have hbb : x.boys[boy] = b := (List.getElem?_eq_some_iff.1 hb).2
  have hn : ¬ x.bnil.e := fun hn => by rw [hx.boys hn] at hlt; simp at hlt
  have hrow : rowV 11 (x.boys.map Boy.av) x.bnil = .sl 11 (x.boys.map Boy.av) x.bnil.cap := rowV_some hn
  have h0 := hsp.ok 0 (by omega)
  simp only [Boy.span] at h0
  have hlist : refVoices x boy b set = ((seqI b.low.low (b.low.high - b.low.low + 1).toNat).flatMap fun n => enum b (okR x boy b.loss set) 3 (Vo.put ⟨0, 0, 0, 0, 0⟩ 0 n)) := by
    simp only [refVoices, enum, Boy.span, vals_seq]
  obtain ⟨v1, g1, g2⟩ := loopR4 x hx boy b hsp set hset (b.low.high - b.low.low + 1).toNat b.low.low [] ⟨0, 0, 0, 0, 0⟩ (by omega) h0.1 (by rw [← hlist]; simpa using hl)
  rw [← hlist] at g2
  generalize hE : refVoices x boy b set = more at *
  simp only [stR, chR, Vo.c6, Vo.put, Boy.cells, if_true, List.nil_append, Book.cells, hrow] at g2
  rw [call_def comp112]
  simp [code112, Book.av, Book.cells, hrow, hlt, hbb, Boy.av, Boy.cells, fillA]
  rw [run_loop_mask, show mask keep112_4 _ = headR b.loss boy set [] from by simp [keep112_4, headR, rowR]]
  rw [g2]
  by_cases hm : more = []
  · simp [exitE, headR, rowR, rowRN, hm]
  · simp [exitE, headR, rowR, rowRN, hm]
end Go.Ai.Vc

set_option maxRecDepth 100000
namespace Go.Ai.Vc
attribute [local simp] opsA_cons opsA_nil oneA condA putR thenA_nm thenA_rt thenA_ex nmA wantedA operA putA ev retA retsA pur depth List.replicate List.getD purR endA condC_bool blockA_nm blockA_rt blockA_ex againA pureA_call call_none pureCallA backA purAll mask
theorem enum_ok (b : Boy) (ok ok' : Vo → Bool) : ∀ (d : Nat), d ≤ 4 → ∀ (v : Vo), (∀ w : Vo, (∀ j, j < 4 - d → w.get j = v.get j) → (∀ j, j < 5 → 4 - d ≤ j → w.get j ∈ vals (b.span j)) → ok w = ok' w) → enum b ok d v = enum b ok' d v
  | 0, _, v, h => by
    simp only [enum]
    refine List.filter_congr fun w hw => ?_
    obtain ⟨n, hn, rfl⟩ := List.mem_map.1 hw
    refine h _ (fun j hj => by rw [get_put _ _ _ (by omega) (by omega), if_neg (by omega)]) fun j hj hj' => ?_
    have : j = 4 := by omega
    subst this
    rw [get_put _ _ _ (by omega) (by omega), if_pos rfl]
    exact hn
  | d + 1, hd, v, h => by
    simp only [enum]
    have : ∀ n ∈ vals (b.span (3 - d)), enum b ok d (v.put (3 - d) n) = enum b ok' d (v.put (3 - d) n) := by
      intro n hn
      refine enum_ok b ok ok' d (by omega) _ fun w h1 h2 => ?_
      refine h w (fun j hj => ?_) fun j hj hj' => ?_
      · rw [h1 j (by omega), get_put _ _ _ (by omega) (by omega), if_neg (by omega)]
      · by_cases hjd : j = 3 - d
        · subst hjd
          rw [h1 _ (by omega), get_put _ _ _ (by omega) (by omega), if_pos rfl]
          exact hn
        · exact h2 j hj (by omega)
    rw [List.flatMap_def, List.flatMap_def]
    congr 1
    exact List.map_congr_left this
theorem mem_vals {s : Span} {n : Int} (h : n ∈ vals s) : s.low ≤ n ∧ n ≤ s.high := by
  simp only [vals, List.mem_map, List.mem_range] at h
  obtain ⟨i, hi, rfl⟩ := h
  omega
def SetOf (x : Book) (set : Nat) (but : List Int) : Prop := ∀ k : Nat, k < x.trials.length → hasB set k = decide ((k : Int) ∈ but)
theorem right_eq (loss : Int) (v : Vo) (hv : 0 ≤ v.low) (boy : Int) (set : Nat) (but : List Int) : ∀ (l : List Trial) (k : Nat), (∀ j, k ≤ j → j < k + l.length → hasB set j = decide ((j : Int) ∈ but)) → rightR loss v boy set l k = rightFrom loss v boy but l k
  | [], _, _ => rfl
  | tr :: l, k, h => by
    have h1 := h k (Nat.le_refl _) (by simp)
    have hc : canR loss v tr.week tr.note = canW loss v tr.week tr.note := by
      have : decide (v.low = -1) = false := by simp; omega
      simp [canR, canW, this]
    simp only [rightR, rightFrom, badR, badT, h1, hc]
    rw [right_eq loss v hv boy set but l (k + 1) fun j hj hj' => h j (by omega) (by simp; omega)]
theorem spOk_of {b : Boy} (h : boyOk b = true) : SpOk b where
  ok k hk := by
    simp only [boyOk, spanOk, Bool.and_eq_true, decide_eq_true_eq] at h
    have : k = 0 ∨ k = 1 ∨ k = 2 ∨ k = 3 ∨ k = 4 := by omega
    rcases this with rfl | rfl | rfl | rfl | rfl <;> simp only [Boy.span] <;> omega
theorem ref_eq (x : Book) (boy : Nat) (b : Boy) (hb : boyOk b = true) (set : Nat) (but : List Int) (hs : SetOf x set but) : refVoices x boy b set = voicesOf x boy b but := by
  rw [refVoices, voicesOf, enum_congr b _ 4 (Nat.le_refl _) _ ⟨-1, -1, -1, -1, -1⟩ (fun j hj => by omega)]
  refine enum_ok b _ _ 4 (Nat.le_refl _) _ fun w _ h2 => ?_
  have h0 := mem_vals (h2 0 (by omega) (by omega))
  have := (spOk_of hb).ok 0 (by omega)
  exact right_eq _ _ (by simp only [Vo.get] at h0; omega) _ _ _ _ _ fun j _ hj => hs j (by simpa using hj)
theorem setOf_nil (x : Book) : SetOf x 0 [] := fun k _ => by simp [hasB]
theorem rVoices_call (x : Book) (hx : x.Ok) (hc : x.boys.all boyOk = true) (hl : x.trials.length < 1000) (boy : Nat) (b : Boy) (hb : x.boys[boy]? = some b) (set : Nat) (hset : set < 2 ^ 62) (but : List Int) (hbl : but.length < 2 ^ 47) (hs : SetOf x set but) :
    call Cv 112 [x.av, I boy, I set] = some (rowRN b.loss (voicesOf x boy b but)) := by
  have hbo := List.all_eq_true.1 hc b (List.mem_of_getElem? hb)
  have hX := fixO_ok hx hb hbo (T := []) (ct := 0) (but := but) (r := .sl 1 (ints but) .no) hbl (.inr ⟨.no, rfl, rfl⟩) 0 (c0 := 0) (fun h => absurd rfl h)
  have hlen : (voicesOf x boy b but).length < 999 := enum_short hX ⟨-1, -1, -1, -1, -1⟩
  have := refVoices_call x hx boy b hb (spOk_of hbo) set hset (by rw [ref_eq x boy b hbo set but hs]; omega)
  rw [ref_eq x boy b hbo set but hs] at this
  exact this
end Go.Ai.Vc

set_option maxRecDepth 100000
namespace Go.Ai.Vc
attribute [local simp] opsA_cons opsA_nil oneA condA putR thenA_nm thenA_rt thenA_ex nmA wantedA operA putA ev retA retsA pur depth List.replicate List.getD purR endA condC_bool blockA_nm blockA_rt blockA_ex againA pureA_call call_none pureCallA backA purAll mask
theorem rowRN_len (loss : Int) (l : List Vo) : lenA (rowRN loss l) = some (I l.length) := by
  unfold rowRN
  split
  · rename_i h; simp [h]
  · simp
theorem rowRN_pur (loss : Int) (l : List Vo) (σ : St) (n : Nat) : pur σ (n + 1) (rowRN loss l) = some (rowRN loss l, false) := by unfold rowRN; split <;> rfl
theorem rowRN_under (loss : Int) (l : List Vo) (a b c d n : Nat) : under a b c d (n + 1) (rowRN loss l) = true := by unfold rowRN; split <;> rfl
theorem len0 {α : Type} (l : List α) : ((l.length : Int) == 0) = decide (l = []) := by
  cases l with
  | nil => rfl
  | cons a l => simp; omega
def head62 (set k : Int) : Env := [.any, I set, .box 0 0, .any, .any, I k] ++ List.replicate 13 .any
theorem loop62 (x : Book) (hx : x.Ok) (hc : x.boys.all boyOk = true) (htl : x.trials.length < 1000) (set : Nat) (hset : set < 2 ^ 62) (but : List Int) (hbl : but.length < 2 ^ 47) (hs : SetOf x set but) : ∀ (l : List Boy) (k : Nat), k ≤ x.boys.length → x.boys.drop k = l →
    ∃ e c σ, run Cv 95 (.loop keep95_0 body95_0) (head62 set k) { boxes := [x.cells] } = some (c, e, σ) ∧ e.length = 19 ∧
      ((c = .ex 0 ∧ (Ts x but l k).all (fun l => !decide (l = [])) = true) ∨ (c = .rt ∧ (Ts x but l k).all (fun l => !decide (l = [])) = false ∧ e[4]? = some (.bool false)))
  | [], k, hk, h => by
    have : k = x.boys.length := Nat.le_antisymm hk (by simpa using h)
    subst this
    have hlen := hx.lenB
    have key : ∃ e σ, run Cv 95 (.loop keep95_0 body95_0) (head62 set x.boys.length) { boxes := [x.cells] } = some (.ex 0, e, σ) ∧ e.length = 19 := by
      rw [run_loop]
      simp [body95_0, keep95_0, head62, Book.cells, hlen]
    obtain ⟨e, σ, k1, k2⟩ := key
    exact ⟨e, _, σ, k1, k2, .inl ⟨rfl, rfl⟩⟩
  | b :: l, k, hk, h => by
    have hb : x.boys[k]? = some b := by
      have : (x.boys.drop k)[0]? = some b := by rw [h]; rfl
      simpa using this
    have hlt : k < x.boys.length := (List.getElem?_eq_some_iff.1 hb).1
    have hbl2 := hx.blen
    have hlen := hx.lenB
    have hw : IntKind.wrap .i64 ((k : Int) + 1) = k + 1 := wrap_small (by omega) (by omega)
    have hv := rVoices_call x hx hc htl k b hb set hset but hbl hs
    simp only [Book.av, Book.cells] at hv
    by_cases hne : voicesOf x k b but = []
    · have key : ∃ e σ, run Cv 95 (.loop keep95_0 body95_0) (head62 set k) { boxes := [x.cells] } = some (.rt, e, σ) ∧ e.length = 19 ∧ e[4]? = some (.bool false) := by
        rw [run_loop]
        simp [body95_0, keep95_0, head62, Book.cells, hlen, hlt, hv, rowRN_len, len0, hne]
      obtain ⟨e, σ, k1, k2, k3⟩ := key
      exact ⟨e, _, σ, k1, k2, .inr ⟨rfl, by simp [Ts, hne], k3⟩⟩
    · have key : run Cv 95 (.loop keep95_0 body95_0) (head62 set k) { boxes := [x.cells] } = run Cv 95 (.loop keep95_0 body95_0) (head62 set (k + 1)) { boxes := [x.cells] } := by
        rw [run_loop]
        generalize MC.loop keep95_0 body95_0 = L
        simp [body95_0, keep95_0, head62, Book.cells, hlen, hlt, hv, rowRN_len, len0, hne, hw, under]
      rw [key]
      have := loop62 x hx hc htl set hset but hbl hs l (k + 1) hlt (by rw [← List.drop_drop, h]; rfl)
      simpa [Ts, hne] using this
theorem rFine_call (x : Book) (hx : x.Ok) (hc : x.boys.all boyOk = true) (htl : x.trials.length < 1000) (set : Nat) (hset : set < 2 ^ 62) (but : List Int) (hbl : but.length < 2 ^ 47) (hs : SetOf x set but) : call Cv 95 [x.av, I set] = some (.bool (fine x but)) := by
  obtain ⟨e, c, σ, h1, h2, h3⟩ := loop62 x hx hc htl set hset but hbl hs x.boys 0 (Nat.zero_le _) rfl
  simp only [Book.cells] at h1
  rw [call_def comp95]
  simp [code95, Book.av, Book.cells]
  rw [run_loop_mask, show mask keep95_0 _ = head62 set (0 : Nat) from by simp [keep95_0, head62]]
  rw [h1]
  rcases h3 with ⟨rfl, h3⟩ | ⟨rfl, h3, h4⟩
  · simp [h2, fine, h3]
  · simp [h4, fine, h3]
theorem rAsked_call (x : Book) (hx : x.Ok) (is : Bool) : call Cv 116 [x.av, .bool is] = some (I (askE x is)) := by
  have h1 := rCheck_call x hx
  simp only [Book.av, Book.cells] at h1
  cases hc : checkOk x with
  | false =>
    rw [hc] at h1
    rw [call_def comp116]
    simp [code116, Book.av, Book.cells, h1, askE, hc]
  | true =>
    rw [hc] at h1
    have g := good_of hc
    have h2 := rFine_call x hx g.boys (by have := g.tl; omega) 0 (by decide) [] (by simp) (setOf_nil x)
    simp only [Book.av, Book.cells] at h2
    cases is with
    | false =>
      rw [call_def comp116]
      simp [code116, Book.av, Book.cells, h1, askE, hc]
    | true =>
      rw [show ((0 : Nat) : Int) = 0 from rfl] at h2
      rw [call_def comp116]
      cases hf : fine x [] with
      | false =>
        rw [hf] at h2
        simp [code116, Book.av, Book.cells, h1, h2, askE, hc, hf]
      | true =>
        rw [hf] at h2
        simp [code116, Book.av, Book.cells, h1, h2, askE, hc, hf]
theorem rRightB_call (x : Book) (hx : x.Ok) : call Cv 58 [x.av] = some (.tup [.bool (checkOk x && fine x []), I (if checkOk x then 0 else 20)]) := by
  have h1 := rCheck_call x hx
  simp only [Book.av, Book.cells] at h1
  cases hc : checkOk x with
  | false =>
    rw [hc] at h1
    rw [call_def comp58]
    simp [code58, Book.av, Book.cells, h1, hc]
  | true =>
    rw [hc] at h1
    have g := good_of hc
    have h2 := rFine_call x hx g.boys (by have := g.tl; omega) 0 (by decide) [] (by simp) (setOf_nil x)
    rw [show ((0 : Nat) : Int) = 0 from rfl] at h2
    simp only [Book.av, Book.cells] at h2
    rw [call_def comp58]
    simp [code58, Book.av, Book.cells, h1, h2, hc]
def endsOf : List Int → Span
  | [] => ⟨0, 0⟩
  | n :: l => (n :: l).foldl (fun s m => join s ⟨m, m⟩) ⟨n, n⟩
def head72 (r : AV) (k : Int) : Env := [r, .any, .box 0 0, .box 1 0, I k] ++ List.replicate 18 .any
def st72 (s : Span) : St := { boxes := [[I 0, I 0], [I s.low, I s.high]] }
end Go.Ai.Vc

set_option maxRecDepth 100000
namespace Go.Ai.Vc
attribute [local simp] opsA_cons opsA_nil oneA condA putR thenA_nm thenA_rt thenA_ex nmA wantedA operA putA ev retA retsA pur depth List.replicate List.getD purR endA condC_bool blockA_nm blockA_rt blockA_ex againA pureA_call call_none pureCallA backA purAll mask
theorem mem_enum (b : Boy) (ok : Vo → Bool) : ∀ (d : Nat), d ≤ 4 → ∀ (v w : Vo), w ∈ enum b ok d v → ∀ j, j < 4 - d → w.get j = v.get j
  | 0, _, v, w, h, j, hj => by
    simp only [enum, List.mem_filter, List.mem_map] at h
    obtain ⟨⟨n, _, rfl⟩, _⟩ := h
    rw [get_put _ _ _ (by omega) (by omega), if_neg (by omega)]
  | d + 1, hd, v, w, h, j, hj => by
    simp only [enum, List.mem_flatMap] at h
    obtain ⟨n, _, h⟩ := h
    rw [mem_enum b ok d (by omega) _ w h j (by omega), get_put _ _ _ (by omega) (by omega), if_neg (by omega)]
theorem voice_low {x : Book} {boy : Nat} {b : Boy} (hb : boyOk b = true) {but : List Int} {v : Vo} (h : v ∈ voicesOf x boy b but) : 0 ≤ v.low := by
  simp only [voicesOf, enum, List.mem_flatMap] at h
  obtain ⟨n, hn, h⟩ := h
  have h1 := mem_enum b (fun v => rightFrom b.loss v boy but x.trials 0) 3 (by omega) (Vo.put ⟨-1, -1, -1, -1, -1⟩ (3 - 3) n) v (by
    simp only [enum, List.mem_flatMap]
    exact h) 0 (by omega)
  have h2 := mem_vals hn
  have h3 := (spOk_of hb).ok 0 (by omega)
  have h4 : v.low = n := h1
  simp only [Boy.span] at h2 h3
  omega
def nCanR (loss week note : Int) : List Vo → Int
  | [] => 0
  | v :: l => (if canR loss v week note then 1 else 0) + nCanR loss week note l
theorem nCanR_le (loss week note : Int) : ∀ l, 0 ≤ nCanR loss week note l ∧ nCanR loss week note l ≤ l.length
  | [] => by simp [nCanR]
  | v :: l => by
    have := nCanR_le loss week note l
    simp only [nCanR, List.length_cons]
    split <;> omega
theorem nCan_eq (loss week note : Int) : ∀ l : List Vo, (∀ v ∈ l, 0 ≤ v.low) → nCanR loss week note l = nCan loss week note (l.filter fun v => decide (week < v.brk))
  | [], _ => rfl
  | v :: l, h => by
    have ih := nCan_eq loss week note l fun w hw => h w (.tail _ hw)
    have hv := h v (.head _)
    have hl : decide (v.low = -1) = false := by simp; omega
    rw [List.filter_cons]
    by_cases hw : week < v.brk
    · have : canR loss v week note = canW loss v week note := by simp [canR, canW, hl]
      simp [nCanR, nCan, hw, ih, this]
    · have : canR loss v week note = false := by simp [canR, hw]
      simp [nCanR, hw, ih, this]
def head85 (week note loss : Int) (l0 : List Vo) (many k : Int) : Env := [.any, .any, I week, I note, .any, .any, .any, .any, .any, rowRN loss l0, I many, I k] ++ List.replicate 25 .any
theorem loop85 (x : Book) (week note loss : Int) (l0 : List Vo) (hl : l0.length < 1000) : ∀ (l : List Vo) (k : Nat) (many : Int), k ≤ l0.length → l0.drop k = l → 0 ≤ many → many ≤ k →
    run Cv 117 (.loop keep117_0 body117_0) (head85 week note loss l0 many k) { boxes := [x.cells] } = some (.ex 0, ((((head85 week note loss l0 (many + nCanR loss week note l) l0.length).set 15 (I l0.length)).set 16 (rowRN loss l0)).set 17 (I l0.length)).set 18 (.bool false), { boxes := [x.cells] })
  | [], k, many, hk, h, h0, h1 => by
    have : k = l0.length := Nat.le_antisymm hk (by simpa using h)
    subst this
    rw [run_loop]
    simp [body117_0, keep117_0, head85, rowRN_len, nCanR]
  | v :: l, k, many, hk, h, h0, h1 => by
    have hb : l0[k]? = some v := by
      have : (l0.drop k)[0]? = some v := by rw [h]; rfl
      simpa using this
    have hlt : k < l0.length := (List.getElem?_eq_some_iff.1 hb).1
    have hbb : l0[k] = v := (List.getElem?_eq_some_iff.1 hb).2
    have hw : IntKind.wrap .i64 ((k : Int) + 1) = k + 1 := wrap_small (by omega) (by omega)
    have hw' : IntKind.wrap .i64 (many + 1) = many + 1 := wrap_small (by omega) (by omega)
    have hne : l0 ≠ [] := fun h => by rw [h] at hlt; simp at hlt
    have hrow : rowRN loss l0 = .sl 6 (l0.map (Vo.a6 loss)) .no := if_neg hne
    have hcan := rCan_call v loss week note
    simp only [Vo.a6, Vo.c6] at hcan
    have key : run Cv 117 (.loop keep117_0 body117_0) (head85 week note loss l0 many k) { boxes := [x.cells] } = run Cv 117 (.loop keep117_0 body117_0) (head85 week note loss l0 (many + if canR loss v week note then 1 else 0) (k + 1)) { boxes := [x.cells] } := by
      rw [run_loop]
      generalize MC.loop keep117_0 body117_0 = L
      cases hc : canR loss v week note with
      | true =>
        rw [hc] at hcan
        simp [body117_0, keep117_0, head85, hlt, hbb, hrow, hw, hw', under, Vo.a6, Vo.c6, Book.cells, hcan]
      | false =>
        rw [hc] at hcan
        simp [body117_0, keep117_0, head85, hlt, hbb, hrow, hw, under, Vo.a6, Vo.c6, Book.cells, hcan]
    rw [key]
    have := loop85 x week note loss l0 hl l (k + 1) (many + if canR loss v week note then 1 else 0) hlt (by rw [← List.drop_drop, h]; rfl) (by split <;> omega) (by split <;> omega)
    simpa [nCanR, Int.add_assoc] using this
theorem rSing_call (x : Book) (hx : x.Ok) (hc : checkOk x = true) (hf : fine x [] = true) (boy w : Nat) (b : Boy) (hb : x.boys[boy]? = some b) (note : Int) :
    call Cv 117 [x.av, I boy, I w, I note] = some (I (countV (nCan b.loss w note (wholeOf x boy b [] w)) (voicesOf x boy b []).length)) := by
  have g := good_of hc
  have hvl := voices_short hx hc hb [] (by simp)
  have hne := fine_ne hf hb
  have hv := rVoices_call x hx g.boys (by have := g.tl; omega) boy b hb 0 (by decide) [] (by simp) (setOf_nil x)
  rw [show ((0 : Nat) : Int) = 0 from rfl] at hv
  have hbo := List.all_eq_true.1 g.boys b (List.mem_of_getElem? hb)
  have hl := loop85 x w note b.loss (voicesOf x boy b []) (by omega) (voicesOf x boy b []) 0 0 (Nat.zero_le _) rfl (by omega) (by omega)
  have hn := nCan_eq b.loss w note (voicesOf x boy b []) fun v hv => voice_low hbo hv
  have hn' : nCanR b.loss w note (voicesOf x boy b []) = nCan b.loss w note (wholeOf x boy b [] w) := hn
  have hle := nCanR_le b.loss w note (voicesOf x boy b [])
  rw [← hn']
  generalize nCanR b.loss w note (voicesOf x boy b []) = c at *
  have hpos : 0 < (voicesOf x boy b []).length := List.length_pos_iff.2 hne
  simp only [Int.zero_add, Book.cells] at hl
  simp only [Book.av, Book.cells] at hv
  rw [call_def comp117]
  simp [code117, Book.av, Book.cells, hv, rowRN_pur]
  rw [run_loop_mask, show mask keep117_0 _ = head85 w note b.loss (voicesOf x boy b []) 0 (0 : Nat) from by simp [keep117_0, head85]]
  rw [hl]
  by_cases h0 : c = 0
  · subst h0
    have : ¬ (0 : Int) = (voicesOf x boy b []).length := by omega
    simp [head85, countV, this]
  · by_cases h1 : c = (voicesOf x boy b []).length
    · have h2 : (0 : Int) < (voicesOf x boy b []).length := by omega
      have h3 : ((voicesOf x boy b []).length : Int) ≠ 0 := by omega
      simp [head85, countV, h1, rowRN_len, h2, h3, hne, hpos]
    · have h2 : 0 < c := by omega
      simp [head85, countV, h0, h1, h2, rowRN_len]

theorem rSings_call (x : Book) (hx : x.Ok) (boy week note : Int) : call Cv 105 [x.av, I boy, I week, I note] =
    some (.tup [I (if askE x (isBoyB x boy && isWeekB x week && isNoteB note) = 0 then singsN x boy week note else 0), I (askE x (isBoyB x boy && isWeekB x week && isNoteB note))]) := by
  have h1 := rAsked_call x hx (isBoyB x boy && isWeekB x week && isNoteB note)
  have h2 := rBoy_call x hx boy
  have h3 := rWeek_call x week
  have h4 := rNote_call note
  simp only [Book.av, Book.cells] at h1 h2 h3
  rw [show (decide (0 ≤ boy) && decide (boy < x.boys.length)) = isBoyB x boy from rfl] at h2
  rw [show (decide (0 ≤ week) && decide (week ≤ IntKind.wrap .i64 (x.weeks - 1))) = isWeekB x week from rfl] at h3
  rw [show (decide (0 ≤ note) && decide (note ≤ 40)) = isNoteB note from rfl] at h4
  rcases ask_cases x (isBoyB x boy && isWeekB x week && isNoteB note) with ⟨h0, hc, his, hf, hB⟩ | ⟨h0, B, hB1, hB2, hB3⟩
  · rw [Bool.and_eq_true, Bool.and_eq_true] at his
    obtain ⟨⟨his, hiw⟩, hin⟩ := his
    rw [his, hiw, hin, Bool.and_self, Bool.and_self] at h1 h0
    have g := good_of hc
    have his' := his
    have hiw' := hiw
    simp only [isBoyB, Bool.and_eq_true, decide_eq_true_eq] at his'
    simp only [isWeekB, Bool.and_eq_true, decide_eq_true_eq] at hiw'
    obtain ⟨n, rfl⟩ := Int.eq_ofNat_of_zero_le his'.1
    obtain ⟨w, rfl⟩ := Int.eq_ofNat_of_zero_le hiw'.1
    have hlt : n < x.boys.length := by omega
    have hb : x.boys[n]? = some x.boys[n] := List.getElem?_eq_getElem hlt
    have hT : (Ts x [] x.boys 0)[n]? = some (voicesOf x n x.boys[n] []) := by rw [Ts_get, hb]; simp
    have hs := rSing_call x hx hc hf n w x.boys[n] hb note
    have hsN : singsN x n w note = countV (nCan x.boys[n].loss w note (wholeOf x n x.boys[n] [] w)) (voicesOf x n x.boys[n] []).length := by
      simp [singsN, lossB, wholeB, hlt, hT]
    simp only [Book.av, Book.cells] at hs
    rw [call_def comp105]
    simp [code105, Book.av, Book.cells, h1, h2, h3, h4, his, hiw, hin, h0, hs, hsN]
  · cases hi : isBoyB x boy with
    | true =>
      cases hj : isWeekB x week with
      | true =>
        rw [hi, hj] at h1 h0
        simp only [Bool.true_and] at h1 h0
        rw [hi] at h2
        rw [hj] at h3
        rw [call_def comp105]
        simp [code105, Book.av, Book.cells, h1, h2, h3, h4, h0]
      | false =>
        rw [hi, hj] at h1 h0
        simp only [Bool.true_and, Bool.and_false, Bool.false_and] at h1 h0
        rw [hi] at h2
        rw [hj] at h3
        rw [call_def comp105]
        simp [code105, Book.av, Book.cells, h1, h2, h3, h4, h0]
    | false =>
      rw [hi] at h1 h2 h0
      simp only [Bool.false_and] at h1 h0
      rw [call_def comp105]
      simp [code105, Book.av, Book.cells, h1, h2, h3, h4, h0]

end Go.Ai.Vc
