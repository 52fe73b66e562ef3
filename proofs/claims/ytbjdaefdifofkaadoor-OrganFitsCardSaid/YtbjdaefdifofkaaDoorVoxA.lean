/- This text shows voices: Check, right, top. No conditions of its own. -/
import Derived.Test.YtbjdaefdifofkaaDoorCodes
set_option linter.unusedSimpArgs false
set_option linter.unusedVariables false
set_option maxRecDepth 100000
namespace Go.Ai.Vc
attribute [local simp] opsA_cons opsA_nil oneA condA putR thenA_nm thenA_rt thenA_ex nmA wantedA operA putA ev retA retsA pur depth List.replicate List.getD purR endA condC_bool blockA_nm blockA_rt blockA_ex againA pureA_call call_none pureCallA backA purAll mask

structure Span where
  low : Int
  high : Int
structure Boy where
  low : Span
  high : Span
  gain : Span
  turn : Span
  loss : Int
  brk : Span
structure Trial where
  boy : Int
  week : Int
  note : Int
  sang : Int
structure Book where
  boys : List Boy
  weeks : Int
  trials : List Trial
  bnil : RK
  tnil : RK
def Boy.cells (b : Boy) : List AV := [I b.low.low, I b.low.high, I b.high.low, I b.high.high, I b.gain.low, I b.gain.high, I b.turn.low, I b.turn.high, I b.loss, I b.brk.low, I b.brk.high]
def Boy.av (b : Boy) : AV := .agg b.cells
def Trial.av (t : Trial) : AV := .agg [I t.boy, I t.week, I t.note, I t.sang]
def Book.boysV (b : Book) : AV := rowV 11 (b.boys.map Boy.av) b.bnil
def Book.trialsV (b : Book) : AV := rowV 4 (b.trials.map Trial.av) b.tnil
def Book.cells (b : Book) : List AV := [rowV 11 (b.boys.map Boy.av) b.bnil, I b.weeks, rowV 4 (b.trials.map Trial.av) b.tnil]
def Book.av (b : Book) : AV := .agg b.cells
structure Book.Ok (b : Book) : Prop where
  boys : b.bnil.e → b.boys = []
  trials : b.tnil.e → b.trials = []
  blen : b.boys.length < 2 ^ 47
  tlen : b.trials.length < 2 ^ 47
theorem Book.Ok.lenB {b : Book} (h : b.Ok) : lenA (rowV 11 (b.boys.map Boy.av) b.bnil) = some (I b.boys.length) := by
  rw [rowV_len _ _ _ (fun hn => by rw [h.boys hn]; rfl)]; simp
theorem Book.Ok.lenT {b : Book} (h : b.Ok) : lenA (rowV 4 (b.trials.map Trial.av) b.tnil) = some (I b.trials.length) := by
  rw [rowV_len _ _ _ (fun hn => by rw [h.trials hn]; rfl)]; simp

theorem within_call (a b c : Int) : call Cv 97 [I a, I b, I c] = some (.bool (decide (b ≤ a) && decide (a ≤ c))) := by
  rw [call_def comp97]
  simp +contextual [code97]

def spanOk (s : Span) (high wide : Int) : Bool := decide (0 ≤ s.low) && decide (s.low ≤ s.high) && decide (s.high ≤ high) && decide (IntKind.wrap .i64 (s.high - s.low) ≤ wide)
theorem isSpan_call (s : Span) (h w : Int) : call Cv 98 [.agg [I s.low, I s.high], I h, I w] = some (.bool (spanOk s h w)) := by
  rw [call_def comp98]
  simp +contextual [code98, spanOk]

theorem isNote_call (a : Int) : call Cv 89 [I a] = some (.bool (decide (0 ≤ a) && decide (a ≤ 40))) := by
  rw [call_def comp89]
  simp +contextual [code89, within_call]

theorem isBoy_call (b : Book) (hb : b.Ok) (n : Int) : call Cv 87 [b.av, I n] = some (.bool (decide (0 ≤ n) && decide (n < b.boys.length))) := by
  have h1 := hb.blen
  have hw : IntKind.wrap .i64 ((b.boys.length : Int) - 1) = b.boys.length - 1 := wrap_small (by omega) (by omega)
  rw [call_def comp87]
  simp +contextual [code87, within_call, Book.av, Book.cells, hb.lenB, hw]
  congr 1
  simp only [decide_eq_decide]
  omega

theorem isWeek_call (b : Book) (n : Int) : call Cv 88 [b.av, I n] = some (.bool (decide (0 ≤ n) && decide (n ≤ IntKind.wrap .i64 (b.weeks - 1)))) := by
  rw [call_def comp88]
  simp +contextual [code88, within_call, Book.av, Book.cells]

def trialOk (b : Book) (t : Trial) : Bool := decide (0 ≤ t.boy) && decide (t.boy < b.boys.length) && (decide (0 ≤ t.week) && decide (t.week ≤ IntKind.wrap .i64 (b.weeks - 1))) && (decide (0 ≤ t.note) && decide (t.note ≤ 40)) && (decide (0 ≤ t.sang) && decide (t.sang ≤ 1))
theorem isTrial_call (b : Book) (hb : b.Ok) (t : Trial) : call Cv 99 [b.av, t.av] = some (.bool (trialOk b t)) := by
  have h1 := isBoy_call b hb
  have h2 := isWeek_call b
  simp only [Book.av, Book.cells] at h1 h2
  rw [call_def comp99]
  simp +contextual [code99, within_call, isNote_call, h1, h2, Book.av, Book.cells, Trial.av, trialOk, Bool.and_assoc]

def boyOk (b : Boy) : Bool := spanOk b.low 40 2 && spanOk b.high 40 2 && (spanOk b.gain 2 1 && (decide (0 ≤ b.loss) && decide (b.loss ≤ 2))) && (spanOk b.turn 6 2 && spanOk b.brk 9 3)
def head17 (x : Book) (ok : Bool) (k : Int) : Env := [.any, .box 0 0, .any, .bool ok] ++ List.replicate 20 .any ++ [x.boysV, I x.boys.length, I k] ++ List.replicate 53 .any

theorem round17 (x : Book) (hx : x.Ok) (ok : Bool) (k : Nat) (b : Boy) (hk : x.boys[k]? = some b) :
    run Cv 61 (.loop keep61_0 body61_0) (head17 x ok k) { boxes := [x.cells] } = run Cv 61 (.loop keep61_0 body61_0) (head17 x (ok && boyOk b) (k + 1)) { boxes := [x.cells] } := by
  have hlt : k < x.boys.length := (List.getElem?_eq_some_iff.1 hk).1
  have hlen := hx.blen
  have hn : ¬ x.bnil.e := fun hn => by rw [hx.boys hn] at hlt; simp at hlt
  have hrow : rowV 11 (x.boys.map Boy.av) x.bnil = .sl 11 (x.boys.map Boy.av) x.bnil.cap := rowV_some hn
  have hi : (k : Int) < (x.boys.length : Int) := by omega
  have hw : IntKind.wrap .i64 ((k : Int) + 1) = k + 1 := wrap_small (by omega) (by omega)
  have hb : x.boys[k] = b := (List.getElem?_eq_some_iff.1 hk).2
  rw [run_loop]
  generalize MC.loop keep61_0 body61_0 = L
  simp +contextual [body61_0, keep61_0, head17, hi, hk, hrow, Book.boysV, Book.cells, Boy.av, Boy.cells, isSpan_call, within_call, boyOk, hw, hlt, underL, under, Bool.and_assoc, hb]
theorem end17 (x : Book) (ok : Bool) (σ : St) : run Cv 61 (.loop keep61_0 body61_0) (head17 x ok x.boys.length) σ = some (.ex 0, (head17 x ok x.boys.length).set 27 (.bool false), σ) := by
  rw [run_loop]
  simp [body61_0, keep61_0, head17]
theorem loop17 (x : Book) (hx : x.Ok) : ∀ (l : List Boy) (k : Nat) (ok : Bool), k ≤ x.boys.length → x.boys.drop k = l →
    run Cv 61 (.loop keep61_0 body61_0) (head17 x ok k) { boxes := [x.cells] } = some (.ex 0, (head17 x (ok && l.all boyOk) x.boys.length).set 27 (.bool false), { boxes := [x.cells] })
  | [], k, ok, hk, h => by
    have : k = x.boys.length := Nat.le_antisymm hk (by simpa using h)
    subst this
    rw [end17]
    simp
  | b :: l, k, ok, hk, h => by
    have hb : x.boys[k]? = some b := by
      have : (x.boys.drop k)[0]? = some b := by rw [h]; rfl
      simpa using this
    have hlt : k < x.boys.length := (List.getElem?_eq_some_iff.1 hb).1
    rw [round17 x hx ok k b hb]
    have := loop17 x hx l (k + 1) (ok && boyOk b) hlt (by rw [← List.drop_drop, h]; rfl)
    simpa [Bool.and_assoc] using this

def tail17 (x : Book) (ok : Bool) (k : Int) : Env := [.any, .box 0 0, .any, .bool ok] ++ List.replicate 61 .any ++ [x.trialsV, I x.trials.length, I k] ++ List.replicate 12 .any
theorem round17' (x : Book) (hx : x.Ok) (ok : Bool) (k : Nat) (b : Trial) (hk : x.trials[k]? = some b) :
    run Cv 61 (.loop keep61_1 body61_1) (tail17 x ok k) { boxes := [x.cells] } = run Cv 61 (.loop keep61_1 body61_1) (tail17 x (ok && trialOk x b) (k + 1)) { boxes := [x.cells] } := by
  have hlt : k < x.trials.length := (List.getElem?_eq_some_iff.1 hk).1
  have hlen := hx.tlen
  have hn : ¬ x.tnil.e := fun hn => by rw [hx.trials hn] at hlt; simp at hlt
  have hrow : rowV 4 (x.trials.map Trial.av) x.tnil = .sl 4 (x.trials.map Trial.av) x.tnil.cap := rowV_some hn
  have hi : (k : Int) < (x.trials.length : Int) := by omega
  have hw : IntKind.wrap .i64 ((k : Int) + 1) = k + 1 := wrap_small (by omega) (by omega)
  have hb : x.trials[k] = b := (List.getElem?_eq_some_iff.1 hk).2
  have ht := isTrial_call x hx b
  simp only [Book.av, Book.cells, hrow, Trial.av] at ht
  rw [run_loop]
  generalize MC.loop keep61_1 body61_1 = L
  simp +contextual [body61_1, keep61_1, tail17, hi, hk, hrow, Book.trialsV, Book.cells, Trial.av, hw, hlt, underL, under, Bool.and_assoc, hb, ht]
theorem end17' (x : Book) (ok : Bool) (σ : St) : run Cv 61 (.loop keep61_1 body61_1) (tail17 x ok x.trials.length) σ = some (.ex 2, (tail17 x ok x.trials.length).set 68 (.bool false), σ) := by
  rw [run_loop]
  simp [body61_1, keep61_1, tail17]
theorem loop17' (x : Book) (hx : x.Ok) : ∀ (l : List Trial) (k : Nat) (ok : Bool), k ≤ x.trials.length → x.trials.drop k = l →
    run Cv 61 (.loop keep61_1 body61_1) (tail17 x ok k) { boxes := [x.cells] } = some (.ex 2, (tail17 x (ok && l.all (trialOk x)) x.trials.length).set 68 (.bool false), { boxes := [x.cells] })
  | [], k, ok, hk, h => by
    have : k = x.trials.length := Nat.le_antisymm hk (by simpa using h)
    subst this
    rw [end17']
    simp
  | b :: l, k, ok, hk, h => by
    have hb : x.trials[k]? = some b := by
      have : (x.trials.drop k)[0]? = some b := by rw [h]; rfl
      simpa using this
    have hlt : k < x.trials.length := (List.getElem?_eq_some_iff.1 hb).1
    rw [round17' x hx ok k b hb]
    have := loop17' x hx l (k + 1) (ok && trialOk x b) hlt (by rw [← List.drop_drop, h]; rfl)
    simpa [Bool.and_assoc] using this
end Go.Ai.Vc

set_option maxRecDepth 100000
namespace Go.Ai.Vc
attribute [local simp] opsA_cons opsA_nil oneA condA putR thenA_nm thenA_rt thenA_ex nmA wantedA operA putA ev retA retsA pur depth List.replicate List.getD purR endA condC_bool blockA_nm blockA_rt blockA_ex againA pureA_call call_none pureCallA backA purAll mask
theorem mask_mask (k : Option (List Tmp)) (e : Env) : mask k (mask k e) = mask k e := by
  cases k with
  | none => rfl
  | some ks =>
    have len : ∀ (ks : List Tmp) (a e : Env), (ks.foldl (fun a k => a.set k (e.getD k .any)) a).length = a.length := by
      intro ks
      induction ks with
      | nil => exact fun _ _ => rfl
      | cons k ks ih => intro a e; simp only [List.foldl_cons]; rw [ih]; simp
    have get : ∀ (ks : List Tmp) (a e : Env) (i : Nat), i < a.length → (ks.foldl (fun a k => a.set k (e.getD k .any)) a).getD i .any = if i ∈ ks then e.getD i .any else a.getD i .any := by
      intro ks
      induction ks with
      | nil => intro a e i _; simp
      | cons k ks ih =>
        intro a e i hi
        simp only [List.foldl_cons]
        rw [ih _ _ _ (by simpa using hi)]
        by_cases h1 : i ∈ ks
        · simp [h1]
        · by_cases h2 : i = k
          · subst h2
            simp [h1, List.getD_eq_getElem?_getD, hi]
          · simp only [h1, if_false, List.mem_cons, h2, or_self]
            rw [List.getD_eq_getElem?_getD, List.getElem?_set_ne (Ne.symm h2), List.getD_eq_getElem?_getD]
    apply List.ext_getElem?
    intro i
    simp only [mask]
    have l1 : ∀ e : Env, (ks.foldl (fun a k => a.set k (e.getD k .any)) (List.replicate e.length .any)).length = e.length := fun e => by rw [len]; simp
    rcases Nat.lt_or_ge i e.length with hi | hi
    · have g : ∀ (a b : Env), i < a.length → i < b.length → a.getD i .any = b.getD i .any → a[i]? = b[i]? := by
        intro a b ha hb h
        rw [List.getElem?_eq_getElem ha, List.getElem?_eq_getElem hb]
        simp only [List.getD_eq_getElem?_getD, List.getElem?_eq_getElem ha, List.getElem?_eq_getElem hb, Option.getD_some] at h
        rw [h]
      refine g _ _ (by rw [l1, l1]; exact hi) (by rw [l1]; exact hi) ?_
      rw [get _ _ _ _ (by rw [List.length_replicate, l1]; exact hi), get _ _ _ _ (by rw [List.length_replicate]; exact hi)]
      have rep : ∀ n, (List.replicate n AV.any).getD i .any = .any := by
        intro n
        rw [List.getD_eq_getElem?_getD, List.getElem?_replicate]
        split <;> rfl
      by_cases h : i ∈ ks
      · simp only [h, if_true]
      · simp only [h, if_false]
        rw [rep, rep]
    · rw [List.getElem?_eq_none (by rw [l1, l1]; exact hi), List.getElem?_eq_none (by rw [l1]; exact hi)]
theorem run_loop_mask {C : Cfg} {f : FuncId} {k : Option (List Tmp)} {b : MC} {e : Env} {σ : St} : run C f (.loop k b) e σ = run C f (.loop k b) (mask k e) σ := by
  rw [run_loop, run_loop, mask_mask]

def checkOk (x : Book) : Bool := (decide (1 ≤ (x.boys.length : Int)) && decide ((x.boys.length : Int) ≤ 4) && (decide (1 ≤ x.weeks) && decide (x.weeks ≤ 6)) && decide ((x.trials.length : Int) ≤ 6)) && x.boys.all boyOk && x.trials.all (trialOk x)
theorem check_call (x : Book) (hx : x.Ok) : call Cv 61 [x.av] = some (I (if checkOk x then 0 else 20)) := by
  have h1 : ∀ ok, _ := fun ok => loop17 x hx x.boys 0 ok (Nat.zero_le _) rfl
  have h2 : ∀ ok, _ := fun ok => loop17' x hx x.trials 0 ok (Nat.zero_le _) rfl
  simp only [Book.cells, Int.natCast_zero] at h1 h2
  rw [call_def comp61]
  simp +contextual [code61, within_call, Book.av, Book.cells, hx.lenB, hx.lenT]
  rw [run_loop_mask]
  rw [show mask keep61_0 _ = head17 x _ 0 from by simp [keep61_0, head17, Book.boysV]; rfl]
  rw [show ∀ ok, run Cv 61 (MC.loop keep61_0 body61_0) (head17 x ok 0) _ = _ from h1]
  simp [head17, hx.lenT]
  rw [run_loop_mask]
  rw [show mask keep61_1 _ = tail17 x _ 0 from by simp [keep61_1, tail17, Book.trialsV]; rfl]
  rw [show ∀ ok, run Cv 61 (MC.loop keep61_1 body61_1) (tail17 x ok 0) _ = _ from h2]
  rw [show (_ && x.trials.all (trialOk x)) = checkOk x from rfl]
  cases checkOk x <;> simp [tail17]
end Go.Ai.Vc

set_option maxRecDepth 100000
namespace Go.Ai.Vc
attribute [local simp] opsA_cons opsA_nil oneA condA putR thenA_nm thenA_rt thenA_ex nmA wantedA operA putA ev retA retsA pur depth List.replicate List.getD purR endA condC_bool blockA_nm blockA_rt blockA_ex againA pureA_call call_none pureCallA backA purAll mask
theorem lies_call (a b c : Int) : call Cv 43 [I a, I b, I c] = some (.bool (decide (b ≤ a) && decide (a ≤ c))) := by
  rw [call_def comp43]
  simp +contextual [code43]
def fairOk (s : Span) (low high wide : Int) : Bool := decide (low ≤ s.low) && decide (s.low ≤ s.high) && decide (s.high ≤ high) && decide (IntKind.wrap .i64 (s.high - s.low) ≤ wide)
theorem fair_call (s : Span) (l h w : Int) : call Cv 45 [.agg [I s.low, I s.high], I l, I h, I w] = some (.bool (fairOk s l h w)) := by
  rw [call_def comp45]
  simp +contextual [code45, fairOk]
theorem fair_span (s : Span) (h w : Int) : fairOk s 0 h w = spanOk s h w := rfl
theorem rNote_call (a : Int) : call Cv 115 [I a] = some (.bool (decide (0 ≤ a) && decide (a ≤ 40))) := by
  rw [call_def comp115]
  simp +contextual [code115, lies_call]
theorem rBoy_call (b : Book) (hb : b.Ok) (n : Int) : call Cv 113 [b.av, I n] = some (.bool (decide (0 ≤ n) && decide (n < b.boys.length))) := by
  have h1 := hb.blen
  have hw : IntKind.wrap .i64 ((b.boys.length : Int) - 1) = b.boys.length - 1 := wrap_small (by omega) (by omega)
  rw [call_def comp113]
  simp +contextual [code113, lies_call, Book.av, Book.cells, hb.lenB, hw]
  congr 1
  simp only [decide_eq_decide]
  omega
theorem rWeek_call (b : Book) (n : Int) : call Cv 114 [b.av, I n] = some (.bool (decide (0 ≤ n) && decide (n ≤ IntKind.wrap .i64 (b.weeks - 1)))) := by
  rw [call_def comp114]
  simp +contextual [code114, lies_call, Book.av, Book.cells]
theorem rTrial_call (b : Book) (hb : b.Ok) (t : Trial) : call Cv 100 [b.av, t.av] = some (.bool (trialOk b t)) := by
  have h1 := rBoy_call b hb
  have h2 := rWeek_call b
  simp only [Book.av, Book.cells] at h1 h2
  rw [call_def comp100]
  simp +contextual [code100, lies_call, rNote_call, h1, h2, Book.av, Book.cells, Trial.av, trialOk, Bool.and_assoc]
end Go.Ai.Vc

set_option maxRecDepth 100000
namespace Go.Ai.Vc
attribute [local simp] opsA_cons opsA_nil oneA condA putR thenA_nm thenA_rt thenA_ex nmA wantedA operA putA ev retA retsA pur depth List.replicate List.getD purR endA condC_bool blockA_nm blockA_rt blockA_ex againA pureA_call call_none pureCallA backA purAll mask
def rBoyOk (b : Boy) : Bool := spanOk b.low 40 2 && (spanOk b.high 40 2 && (spanOk b.gain 2 1 && (spanOk b.turn 6 2 && (decide (0 ≤ b.loss) && (decide (b.loss ≤ 2) && spanOk b.brk 9 3)))))
theorem rBoyOk_eq (b : Boy) : rBoyOk b = boyOk b := by
  unfold rBoyOk boyOk
  cases spanOk b.low 40 2 <;> cases spanOk b.high 40 2 <;> cases spanOk b.gain 2 1 <;> cases spanOk b.turn 6 2 <;> cases spanOk b.brk 9 3 <;> simp
def head18 (x : Book) (ok : Bool) (k : Int) : Env := [.any, .box 0 0, .any, .bool ok, I k] ++ List.replicate 79 .any
def tail18 (x : Book) (ok : Bool) (k : Int) : Env := [.any, .box 0 0, .any, .bool ok, .any, .any, I k] ++ List.replicate 77 .any
theorem round18 (x : Book) (hx : x.Ok) (k : Nat) (b : Boy) (hk : x.boys[k]? = some b) :
    run Cv 64 (.loop keep64_0 body64_0) (head18 x true k) { boxes := [x.cells] } = run Cv 64 (.loop keep64_0 body64_0) (head18 x (rBoyOk b) (k + 1)) { boxes := [x.cells] } := by
  have hlt : k < x.boys.length := (List.getElem?_eq_some_iff.1 hk).1
  have hlen := hx.blen
  have hn : ¬ x.bnil.e := fun hn => by rw [hx.boys hn] at hlt; simp at hlt
  have hrow : rowV 11 (x.boys.map Boy.av) x.bnil = .sl 11 (x.boys.map Boy.av) x.bnil.cap := rowV_some hn
  have hi : (k : Int) < (x.boys.length : Int) := by omega
  have hw : IntKind.wrap .i64 ((k : Int) + 1) = k + 1 := wrap_small (by omega) (by omega)
  have hb : x.boys[k] = b := (List.getElem?_eq_some_iff.1 hk).2
  rw [run_loop]
  generalize MC.loop keep64_0 body64_0 = L
  simp +contextual [body64_0, keep64_0, head18, hi, hk, hrow, Book.boysV, Book.cells, Boy.av, Boy.cells, fair_call, fair_span, lies_call, rBoyOk, hw, hlt, underL, under, Bool.and_assoc, hb]

theorem loop18 (x : Book) (hx : x.Ok) : ∀ (l : List Boy) (k : Nat) (ok : Bool), k ≤ x.boys.length → x.boys.drop k = l →
    ∃ e, run Cv 64 (.loop keep64_0 body64_0) (head18 x ok k) { boxes := [x.cells] } = some (.ex 0, e, { boxes := [x.cells] }) ∧ mask keep64_1 (e.set 6 (I 0)) = tail18 x (ok && l.all rBoyOk) 0
  | l, k, false, hk, h => by
    refine ⟨_, by rw [run_loop]; simp [body64_0, keep64_0, head18]; rfl, ?_⟩
    simp [keep64_1, tail18]
  | [], k, true, hk, h => by
    have : k = x.boys.length := Nat.le_antisymm hk (by simpa using h)
    subst this
    refine ⟨_, by rw [run_loop]; simp [body64_0, keep64_0, head18, Book.cells, hx.lenB]; rfl, ?_⟩
    simp [keep64_1, tail18]
  | b :: l, k, true, hk, h => by
    have hb : x.boys[k]? = some b := by
      have : (x.boys.drop k)[0]? = some b := by rw [h]; rfl
      simpa using this
    have hlt : k < x.boys.length := (List.getElem?_eq_some_iff.1 hb).1
    rw [round18 x hx k b hb]
    have := loop18 x hx l (k + 1) (rBoyOk b) hlt (by rw [← List.drop_drop, h]; rfl)
    simpa using this

theorem round18' (x : Book) (hx : x.Ok) (k : Nat) (b : Trial) (hk : x.trials[k]? = some b) :
    run Cv 64 (.loop keep64_1 body64_1) (tail18 x true k) { boxes := [x.cells] } = run Cv 64 (.loop keep64_1 body64_1) (tail18 x (trialOk x b) (k + 1)) { boxes := [x.cells] } := by
  have hlt : k < x.trials.length := (List.getElem?_eq_some_iff.1 hk).1
  have hlen := hx.tlen
  have hn : ¬ x.tnil.e := fun hn => by rw [hx.trials hn] at hlt; simp at hlt
  have hrow : rowV 4 (x.trials.map Trial.av) x.tnil = .sl 4 (x.trials.map Trial.av) x.tnil.cap := rowV_some hn
  have hi : (k : Int) < (x.trials.length : Int) := by omega
  have hw : IntKind.wrap .i64 ((k : Int) + 1) = k + 1 := wrap_small (by omega) (by omega)
  have hb : x.trials[k] = b := (List.getElem?_eq_some_iff.1 hk).2
  have ht := rTrial_call x hx b
  simp only [Book.av, Book.cells, hrow, Trial.av] at ht
  rw [run_loop]
  generalize MC.loop keep64_1 body64_1 = L
  simp +contextual [body64_1, keep64_1, tail18, hi, hk, hrow, Book.cells, Trial.av, hw, hlt, underL, under, hb, ht]
theorem loop18' (x : Book) (hx : x.Ok) : ∀ (l : List Trial) (k : Nat) (ok : Bool), k ≤ x.trials.length → x.trials.drop k = l →
    ∃ e, run Cv 64 (.loop keep64_1 body64_1) (tail18 x ok k) { boxes := [x.cells] } = some (.ex 2, e, { boxes := [x.cells] }) ∧ e.getD 3 .any = .bool (ok && l.all (trialOk x)) ∧ e.length = 84
  | l, k, false, hk, h => by
    refine ⟨_, by rw [run_loop]; simp [body64_1, keep64_1, tail18]; rfl, ?_⟩
    simp
  | [], k, true, hk, h => by
    have : k = x.trials.length := Nat.le_antisymm hk (by simpa using h)
    subst this
    refine ⟨_, by rw [run_loop]; simp [body64_1, keep64_1, tail18, Book.cells, hx.lenT]; rfl, ?_⟩
    simp
  | b :: l, k, true, hk, h => by
    have hb : x.trials[k]? = some b := by
      have : (x.trials.drop k)[0]? = some b := by rw [h]; rfl
      simpa using this
    have hlt : k < x.trials.length := (List.getElem?_eq_some_iff.1 hb).1
    rw [round18' x hx k b hb]
    have := loop18' x hx l (k + 1) (trialOk x b) hlt (by rw [← List.drop_drop, h]; rfl)
    simpa using this
end Go.Ai.Vc

set_option maxRecDepth 100000
namespace Go.Ai.Vc
attribute [local simp] opsA_cons opsA_nil oneA condA putR thenA_nm thenA_rt thenA_ex nmA wantedA operA putA ev retA retsA pur depth List.replicate List.getD purR endA condC_bool blockA_nm blockA_rt blockA_ex againA pureA_call call_none pureCallA backA purAll mask
theorem rCheck_call (x : Book) (hx : x.Ok) : call Cv 64 [x.av] = some (I (if checkOk x then 0 else 20)) := by
  obtain ⟨e, h1, h1'⟩ := loop18 x hx x.boys 0 (decide (1 ≤ (x.boys.length : Int)) && decide ((x.boys.length : Int) ≤ 4) && (decide (1 ≤ x.weeks) && decide (x.weeks ≤ 6)) && decide ((x.trials.length : Int) ≤ 6)) (Nat.zero_le _) rfl
  obtain ⟨e', h2, h2', h2''⟩ := loop18' x hx x.trials 0 ((decide (1 ≤ (x.boys.length : Int)) && decide ((x.boys.length : Int) ≤ 4) && (decide (1 ≤ x.weeks) && decide (x.weeks ≤ 6)) && decide ((x.trials.length : Int) ≤ 6)) && x.boys.all rBoyOk) (Nat.zero_le _) rfl
  have hb : x.boys.all rBoyOk = x.boys.all boyOk := by congr 1; funext b; exact rBoyOk_eq b
  rw [hb] at h1' h2 h2'
  rw [show (_ && x.trials.all (trialOk x)) = checkOk x from rfl] at h2'
  simp only [Book.cells, Int.natCast_zero] at h1 h2
  rw [call_def comp64]
  simp +contextual [code64, lies_call, Book.av, Book.cells, hx.lenB, hx.lenT]
  rw [run_loop_mask]
  rw [show mask keep64_0 _ = head18 x _ 0 from by simp [keep64_0, head18]; rfl]
  rw [show run Cv 64 (MC.loop keep64_0 body64_0) (head18 x _ 0) _ = _ from h1]
  simp
  rw [run_loop_mask, h1']
  rw [show run Cv 64 (MC.loop keep64_1 body64_1) (tail18 x _ 0) _ = _ from h2]
  rw [List.getD_eq_getElem?_getD] at h2'
  have hl3 : 3 < e'.length := by rw [h2'']; omega
  have h3 : e'[3] = .bool (checkOk x) := by rw [List.getElem?_eq_getElem hl3] at h2'; exact h2'
  cases hc : checkOk x <;> rw [hc] at h3 <;> simp [h3, h2'', List.getElem?_set]
end Go.Ai.Vc

set_option maxRecDepth 100000
namespace Go.Ai.Vc
attribute [local simp] opsA_cons opsA_nil oneA condA putR thenA_nm thenA_rt thenA_ex nmA wantedA operA putA ev retA retsA pur depth List.replicate List.getD purR endA condC_bool blockA_nm blockA_rt blockA_ex againA pureA_call call_none pureCallA backA purAll mask
theorem least_call (a b : Int) : call Cv 121 [I a, .sl 1 [I b] .full] = some (I (if b < a then b else a)) := by
  have hw : IntKind.wrap .i64 1 = 1 := wrap_small (by omega) (by omega)
  rw [call_def comp121]
  simp [code121]
  rw [run_loop]
  simp [body121_0, keep121_0, foldA, min2, underL, under]
  rw [run_loop]
  simp [foldA, min2, hw, underL, under]

structure Vo where
  low : Int
  high : Int
  gain : Int
  turn : Int
  brk : Int
  deriving DecidableEq
def Vo.cells (v : Vo) : List AV := [I v.low, I v.high, I v.gain, I v.turn, I v.brk]
def Vo.av (v : Vo) : AV := .agg v.cells
def topW (loss : Int) (v : Vo) (week : Int) : Int :=
  let up := if v.turn < week then v.turn else week
  IntKind.wrap .i64 (IntKind.wrap .i64 (v.high + IntKind.wrap .i64 (up * v.gain)) - IntKind.wrap .i64 (IntKind.wrap .i64 (week - up) * loss))
theorem top_call (x : Book) (hx : x.Ok) (t m : AV) (boy : Nat) (b : Boy) (hb : x.boys[boy]? = some b) (v : Vo) (week : Int) (ht : ∀ σ n, pur σ (n + 1) t = some (t, false)) (hm : ∀ σ n, pur σ (n + 1) m = some (m, false))
    (hct : t.isCell = true) (hcm : m.isCell = true) :
    call Cv 124 [.agg (x.cells ++ [t, m]), I boy, v.av, I week] = some (I (topW b.loss v week)) := by
  have hlt : boy < x.boys.length := (List.getElem?_eq_some_iff.1 hb).1
  have hn : ¬ x.bnil.e := fun hn => by rw [hx.boys hn] at hlt; simp at hlt
  have hrow : rowV 11 (x.boys.map Boy.av) x.bnil = .sl 11 (x.boys.map Boy.av) x.bnil.cap := rowV_some hn
  have hbb : x.boys[boy] = b := (List.getElem?_eq_some_iff.1 hb).2
  rw [call_def comp124]
  simp +contextual [code124, Book.cells, Vo.av, Vo.cells, hct, hcm, hrow, least_call, hlt, hbb, Boy.av, Boy.cells, topW, fillE, AV.isAgg, ht, hm]

def canW (loss : Int) (v : Vo) (week note : Int) : Bool := (!(decide (v.low = -1) && decide (v.high = -1) && decide (v.gain = -1) && decide (v.turn = -1) && decide (v.brk = -1))) && decide (week < v.brk) && (decide (v.low ≤ note) && decide (note ≤ topW loss v week))
theorem can_call (x : Book) (hx : x.Ok) (t m : AV) (boy : Nat) (b : Boy) (hb : x.boys[boy]? = some b) (v : Vo) (week note : Int) (ht : ∀ σ n, pur σ (n + 1) t = some (t, false)) (hm : ∀ σ n, pur σ (n + 1) m = some (m, false))
    (hct : t.isCell = true) (hcm : m.isCell = true) :
    call Cv 111 [.agg (x.cells ++ [t, m]), I boy, v.av, I week, I note] = some (.bool (canW b.loss v week note)) := by
  have h1 := top_call x hx t m boy b hb v week ht hm hct hcm
  simp only [Book.cells, Vo.av, Vo.cells, List.cons_append, List.nil_append] at h1
  rw [call_def comp111]
  simp +contextual [code111, Book.cells, Vo.av, Vo.cells, hct, hcm, within_call, canW, ht, hm, h1, eqCells, Bool.and_assoc]
end Go.Ai.Vc

set_option maxRecDepth 100000
namespace Go.Ai.Vc
attribute [local simp] opsA_cons opsA_nil oneA condA putR thenA_nm thenA_rt thenA_ex nmA wantedA operA putA ev retA retsA pur depth List.replicate List.getD purR endA condC_bool blockA_nm blockA_rt blockA_ex againA pureA_call call_none pureCallA backA purAll mask
def VRow (sz : Nat) (es : List AV) (r : AV) : Prop := (r = .nils ∧ es = []) ∨ ∃ c : Cap, c.pure = c ∧ r = .sl sz es c
theorem VRow.pur {sz es r} (h : VRow sz es r) (σ : St) (n : Nat) : Ai.pur σ (n + 1) r = some (r, false) := by
  rcases h with ⟨rfl, _⟩ | ⟨c, hc, rfl⟩
  · rfl
  · simp [Ai.pur, hc]
theorem VRow.under {sz es r} (h : VRow sz es r) (a b c d n : Nat) : Ai.under a b c d (n + 1) r = true := by
  rcases h with ⟨rfl, _⟩ | ⟨c, hc, rfl⟩
  · rfl
  · cases c with
    | chain => cases hc
    | no => rfl
    | full => rfl
theorem VRow.cell {sz es r} (h : VRow sz es r) : r.isCell = true := by
  rcases h with ⟨rfl, _⟩ | ⟨c, hc, rfl⟩ <;> rfl
theorem VRow.cells {sz es r} (h : VRow sz es r) : r.cells = [r] := by
  rcases h with ⟨rfl, _⟩ | ⟨c, hc, rfl⟩ <;> rfl
theorem VRow.len {sz es r} (h : VRow sz es r) : lenA r = some (I es.length) := by
  rcases h with ⟨rfl, h⟩ | ⟨c, hc, rfl⟩
  · rw [h]; rfl
  · rfl
def head109 (r : AV) (v : Int) (n k : Int) : Env := [r, I v, .any, .any, .any, .any, .any, r, I n, I k] ++ List.replicate 9 .any
def ints (l : List Int) : List AV := l.map fun n => I n
theorem round109 (l : List Int) (c : Cap) (hl : l.length < 2 ^ 47) (v : Int) (k : Nat) (n : Int) (hk : l[k]? = some n) (hne : v ≠ n) :
    run Cv 127 (.loop keep127_0 body127_0) (mask keep127_0 ([.sl 1 (ints l) c, I v, .any, .any, .any, .any, .any, I l.length, I k] ++ List.replicate 10 .any)) {} =
      run Cv 127 (.loop keep127_0 body127_0) (mask keep127_0 ([.sl 1 (ints l) c, I v, .any, .any, .any, .any, .any, I l.length, I (k + 1)] ++ List.replicate 10 .any)) {} := by
  have hlt : k < l.length := (List.getElem?_eq_some_iff.1 hk).1
  have hw : IntKind.wrap .i64 ((k : Int) + 1) = k + 1 := wrap_small (by omega) (by omega)
  have hb : l[k] = n := (List.getElem?_eq_some_iff.1 hk).2
  rw [run_loop]
  generalize MC.loop keep127_0 body127_0 = L
  simp +contextual [body127_0, keep127_0, ints, hlt, hb, hw, hne, underL, under]

def idx (v : Int) : List Int → Nat → Int
  | [], _ => -1
  | n :: l, k => if v = n then k else idx v l (k + 1)
theorem loop109 (l0 : List Int) (c : Cap) (hl : l0.length < 2 ^ 47) (v : Int) : ∀ (l : List Int) (k : Nat), k ≤ l0.length → l0.drop k = l →
    ∃ e x, run Cv 127 (.loop keep127_0 body127_0) (mask keep127_0 ([.sl 1 (ints l0) c, I v, .any, .any, .any, .any, .any, I l0.length, I k] ++ List.replicate 10 .any)) {} = some (x, e, {}) ∧
      ((x = .ex 0 ∧ idx v l k = -1) ∨ (x = .rt ∧ e.getD 4 .any = I (idx v l k))) ∧ e.length = 19
  | [], k, hk, h => by
    have : k = l0.length := Nat.le_antisymm hk (by simpa using h)
    subst this
    refine ⟨_, .ex 0, by rw [run_loop]; simp [body127_0, keep127_0]; rfl, .inl ⟨rfl, rfl⟩, by simp⟩
  | n :: l, k, hk, h => by
    have hb : l0[k]? = some n := by
      have : (l0.drop k)[0]? = some n := by rw [h]; rfl
      simpa using this
    have hlt : k < l0.length := (List.getElem?_eq_some_iff.1 hb).1
    by_cases hv : v = n
    · have hbb : l0[k] = n := (List.getElem?_eq_some_iff.1 hb).2
      refine ⟨_, .rt, by rw [run_loop]; simp [body127_0, keep127_0, ints, hlt, hbb, hv]; rfl, .inr ⟨rfl, by simp [idx, hv]⟩, by simp⟩
    · rw [round109 l0 c hl v k n hb hv]
      have := loop109 l0 c hl v l (k + 1) hlt (by rw [← List.drop_drop, h]; rfl)
      simpa [idx, hv] using this

theorem index_call (l : List Int) (c : Cap) (hl : l.length < 2 ^ 47) (v : Int) : call Cv 127 [.sl 1 (ints l) c, I v] = some (I (idx v l 0)) := by
  obtain ⟨e, x, h1, h2, h3⟩ := loop109 l c hl v l 0 (Nat.zero_le _) rfl
  have h3' : 4 < e.length := by omega
  rw [call_def comp127]
  simp [code127]
  rw [run_loop_mask]
  rw [show mask keep127_0 _ = mask keep127_0 ([.sl 1 (ints l) c, I v, .any, .any, .any, .any, .any, I l.length, I (0 : Nat)] ++ List.replicate 10 .any) from by simp [keep127_0, ints]]
  rw [h1]
  rcases h2 with ⟨rfl, h2⟩ | ⟨rfl, h2⟩
  · rw [h2]
    simp [h3]
  · rw [List.getD_eq_getElem?_getD] at h2
    simp [h2]

theorem index_nil (v : Int) : call Cv 127 [.nils, I v] = some (I (-1)) := by
  rw [call_def comp127]
  simp [code127]
  rw [run_loop]
  simp [body127_0, keep127_0]
theorem idx_nonneg (v : Int) : ∀ (l : List Int) (k : Nat), decide (0 ≤ idx v l k) = decide (v ∈ l)
  | [], k => by simp [idx]
  | n :: l, k => by
    by_cases h : v = n
    · simp [idx, h]
    · simp only [idx, h, if_false, List.mem_cons, false_or]; exact idx_nonneg v l (k + 1)
theorem contains_call (l : List Int) (r : AV) (hl : l.length < 2 ^ 47) (hr : VRow 1 (ints l) r) (v : Int) : call Cv 119 [r, I v] = some (.bool (decide (v ∈ l))) := by
  rw [call_def comp119]
  rcases hr with ⟨rfl, h⟩ | ⟨c, hc, rfl⟩
  · have : l = [] := by cases l with | nil => rfl | cons => simp [ints] at h
    subst this
    simp [code119, index_nil]
  · simp [code119, index_call l _ hl, idx_nonneg, hc]
end Go.Ai.Vc

set_option maxRecDepth 100000
namespace Go.Ai.Vc
attribute [local simp] opsA_cons opsA_nil oneA condA putR thenA_nm thenA_rt thenA_ex nmA wantedA operA putA ev retA retsA pur depth List.replicate List.getD purR endA condC_bool blockA_nm blockA_rt blockA_ex againA pureA_call call_none pureCallA backA purAll mask
def badT (loss : Int) (v : Vo) (boy : Int) (but : List Int) (k : Nat) (tr : Trial) : Bool := decide (tr.boy = boy) && (!decide ((k : Int) ∈ but)) && (canW loss v tr.week tr.note != decide (tr.sang = 1))
def head104 (x : Book) (boy : Int) (r : AV) (k : Int) : Env := [.any, I boy, .any, r, .box 0 0, .any, .box 1 0, .any, .any, .any, .any, .any, .any, x.trialsV, I x.trials.length, I k] ++ List.replicate 29 .any
theorem round104 (x : Book) (hx : x.Ok) (t m : AV) (boy : Nat) (b : Boy) (hb : x.boys[boy]? = some b) (v : Vo) (ht : ∀ σ n, pur σ (n + 1) t = some (t, false)) (hm : ∀ σ n, pur σ (n + 1) m = some (m, false))
    (hct : t.isCell = true) (hcm : m.isCell = true) (but : List Int) (r : AV) (hbl : but.length < 2 ^ 47) (hr : VRow 1 (ints but) r) (k : Nat) (tr : Trial) (hk : x.trials[k]? = some tr) (hbad : badT b.loss v boy but k tr = false)
    (hut : ∀ a b c d, under a b c d 6 t = true) (hum : ∀ a b c d, under a b c d 6 m = true) :
    run Cv 129 (.loop keep129_0 body129_0) (head104 x boy r k) { boxes := [x.cells ++ [t, m], v.cells] } = run Cv 129 (.loop keep129_0 body129_0) (head104 x boy r (k + 1)) { boxes := [x.cells ++ [t, m], v.cells] } := by
  have hlt : k < x.trials.length := (List.getElem?_eq_some_iff.1 hk).1
  have hlen := hx.tlen
  have hn : ¬ x.tnil.e := fun hn => by rw [hx.trials hn] at hlt; simp at hlt
  have hrow : rowV 4 (x.trials.map Trial.av) x.tnil = .sl 4 (x.trials.map Trial.av) x.tnil.cap := rowV_some hn
  have hi : (k : Int) < (x.trials.length : Int) := by omega
  have hw : IntKind.wrap .i64 ((k : Int) + 1) = k + 1 := wrap_small (by omega) (by omega)
  have hbb : x.trials[k] = tr := (List.getElem?_eq_some_iff.1 hk).2
  have h1 := can_call x hx t m boy b hb v tr.week tr.note ht hm hct hcm
  simp only [Book.cells, Vo.av, Vo.cells, List.cons_append, List.nil_append, hrow] at h1
  have h2 := contains_call but r hbl hr k
  have hp1 := hr.pur
  have hp2 := h2
  have hp3 := fun a b c d => hr.under a b c d 5
  rw [run_loop]
  generalize MC.loop keep129_0 body129_0 = L
  have e1 : tr.boy = boy ∧ (k : Int) ∉ but → (canW b.loss v tr.week tr.note = decide (tr.sang = 1)) := by
    rintro ⟨q1, q2⟩
    simpa [badT, q1, q2] using hbad
  have hbe : (tr.sang == 1) = decide (tr.sang = 1) := by rw [Bool.eq_iff_iff]; simp
  by_cases q1 : tr.boy = boy
  · by_cases q2 : (k : Int) ∈ but
    · simp [body129_0, keep129_0, head104, hi, hk, hrow, Book.trialsV, Book.cells, Trial.av, hw, hlt, underL, under, hbb, h1, h2, hp1, hp2, hp3, ht, hm, hut, hum, Vo.cells, hct, hcm, q1, q2]
    · have e2 := e1 ⟨q1, q2⟩
      simp [body129_0, keep129_0, head104, hi, hk, hrow, Book.trialsV, Book.cells, Trial.av, hw, hlt, underL, under, hbb, h1, h2, hp1, hp2, hp3, ht, hm, hut, hum, Vo.cells, hct, hcm, q1, q2, e2, hbe]
  · simp [body129_0, keep129_0, head104, hi, hk, hrow, Book.trialsV, Book.cells, Trial.av, hw, hlt, underL, under, hbb, h1, h2, hp1, hp2, hp3, ht, hm, hut, hum, Vo.cells, hct, hcm, q1]

def rightFrom (loss : Int) (v : Vo) (boy : Int) (but : List Int) : List Trial → Nat → Bool
  | [], _ => true
  | tr :: l, k => !badT loss v boy but k tr && rightFrom loss v boy but l (k + 1)
theorem loop104 (x : Book) (hx : x.Ok) (t m : AV) (boy : Nat) (b : Boy) (hb : x.boys[boy]? = some b) (v : Vo) (ht : ∀ σ n, pur σ (n + 1) t = some (t, false)) (hm : ∀ σ n, pur σ (n + 1) m = some (m, false))
    (hct : t.isCell = true) (hcm : m.isCell = true) (but : List Int) (r : AV) (hbl : but.length < 2 ^ 47) (hr : VRow 1 (ints but) r)
    (hut : ∀ a b c d, under a b c d 6 t = true) (hum : ∀ a b c d, under a b c d 6 m = true) : ∀ (l : List Trial) (k : Nat), k ≤ x.trials.length → x.trials.drop k = l →
    ∃ e c σ, run Cv 129 (.loop keep129_0 body129_0) (head104 x boy r k) { boxes := [x.cells ++ [t, m], v.cells] } = some (c, e, σ) ∧
      ((c = .ex 0 ∧ rightFrom b.loss v boy but l k = true) ∨ (c = .rt ∧ rightFrom b.loss v boy but l k = false ∧ e[8]? = some (.bool false))) ∧ e.length = 45
  | [], k, hk, h => by
    have : k = x.trials.length := Nat.le_antisymm hk (by simpa using h)
    subst this
    have key : ∃ e σ, run Cv 129 (.loop keep129_0 body129_0) (head104 x boy r x.trials.length) { boxes := [x.cells ++ [t, m], v.cells] } = some (.ex 0, e, σ) ∧ e.length = 45 := by
      rw [run_loop]
      simp [body129_0, keep129_0, head104]
    obtain ⟨e, σ, k1, k2⟩ := key
    exact ⟨e, .ex 0, σ, k1, .inl ⟨rfl, rfl⟩, k2⟩
  | tr :: l, k, hk, h => by
    have hb' : x.trials[k]? = some tr := by
      have : (x.trials.drop k)[0]? = some tr := by rw [h]; rfl
      simpa using this
    have hlt : k < x.trials.length := (List.getElem?_eq_some_iff.1 hb').1
    cases hbad : badT b.loss v boy but k tr with
    | false =>
      rw [round104 x hx t m boy b hb v ht hm hct hcm but r hbl hr k tr hb' hbad hut hum]
      have := loop104 x hx t m boy b hb v ht hm hct hcm but r hbl hr hut hum l (k + 1) hlt (by rw [← List.drop_drop, h]; rfl)
      simpa [rightFrom, hbad] using this
    | true =>
      have hlen := hx.tlen
      have hn : ¬ x.tnil.e := fun hn => by rw [hx.trials hn] at hlt; simp at hlt
      have hrow : rowV 4 (x.trials.map Trial.av) x.tnil = .sl 4 (x.trials.map Trial.av) x.tnil.cap := rowV_some hn
      have hi : (k : Int) < (x.trials.length : Int) := by omega
      have hbb : x.trials[k] = tr := (List.getElem?_eq_some_iff.1 hb').2
      have h1 := can_call x hx t m boy b hb v tr.week tr.note ht hm hct hcm
      simp only [Book.cells, Vo.av, Vo.cells, List.cons_append, List.nil_append, hrow] at h1
      have h2 := contains_call but r hbl hr k
      have hp1 := hr.pur
      have hbe : (tr.sang == 1) = decide (tr.sang = 1) := by rw [Bool.eq_iff_iff]; simp
      simp only [badT, Bool.and_eq_true, decide_eq_true_eq, Bool.not_eq_true', decide_eq_false_iff_not] at hbad
      obtain ⟨⟨q1, q2⟩, q3⟩ := hbad
      have q4 : ¬ (canW b.loss v tr.week tr.note = decide (tr.sang = 1)) := by simpa using q3
      have key : ∃ e σ, run Cv 129 (.loop keep129_0 body129_0) (head104 x boy r k) { boxes := [x.cells ++ [t, m], v.cells] } = some (.rt, e, σ) ∧ e[8]? = some (.bool false) ∧ e.length = 45 := by
        rw [run_loop]
        simp [body129_0, keep129_0, head104, hi, hb', hrow, Book.trialsV, Book.cells, Trial.av, hlt, underL, under, hbb, h1, h2, hp1, ht, hm, Vo.cells, hct, hcm, q1, q2, q4, hbe]
      obtain ⟨e, σ, k1, k2, k3⟩ := key
      exact ⟨e, .rt, σ, k1, .inr ⟨rfl, by simp [rightFrom, badT, q1, q2, q3], k2⟩, k3⟩

theorem right_call (x : Book) (hx : x.Ok) (t m : AV) (boy : Nat) (b : Boy) (hb : x.boys[boy]? = some b) (v : Vo) (ht : ∀ σ n, pur σ (n + 1) t = some (t, false)) (hm : ∀ σ n, pur σ (n + 1) m = some (m, false))
    (hct : t.isCell = true) (hcm : m.isCell = true) (but : List Int) (r : AV) (hbl : but.length < 2 ^ 47) (hr : VRow 1 (ints but) r)
    (hut : ∀ a b c d, under a b c d 6 t = true) (hum : ∀ a b c d, under a b c d 6 m = true) :
    call Cv 129 [.agg (x.cells ++ [t, m]), I boy, v.av, r] = some (.bool (rightFrom b.loss v boy but x.trials 0)) := by
  obtain ⟨e, c, σ, h1, h2, h3⟩ := loop104 x hx t m boy b hb v ht hm hct hcm but r hbl hr hut hum x.trials 0 (Nat.zero_le _) rfl
  simp only [Book.cells, List.cons_append, List.nil_append, Vo.cells] at h1
  rw [call_def comp129]
  simp [code129, Book.cells, hct, hcm, Vo.av, Vo.cells, hx.lenT]
  rw [run_loop_mask]
  rw [show mask keep129_0 _ = head104 x boy r (0 : Nat) from by simp [keep129_0, head104, Book.trialsV]]
  rw [h1]
  rcases h2 with ⟨rfl, h2⟩ | ⟨rfl, h2, h4⟩
  · simp [h2, h3]
  · simp [h2, h4]
end Go.Ai.Vc
