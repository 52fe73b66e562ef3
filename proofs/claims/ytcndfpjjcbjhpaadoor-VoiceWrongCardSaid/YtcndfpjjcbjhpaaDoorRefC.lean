/- This text shows what the reference answers: Fits, Wrong; least lists. No conditions of its own. -/
import Derived.Test.YtcndfpjjcbjhpaaDoorRef
set_option linter.unusedSimpArgs false
set_option linter.unusedVariables false
set_option maxRecDepth 100000
set_option linter.unusedSimpArgs false
set_option linter.unusedVariables false
namespace Go.Ai
theorem rFits_call (x : Book) (hx : x.Ok) (t : Trial) : call Cv 36 [x.av, t.av] = some (.tup [.bool (fitsB x t), I (askE x (trialOk x t))]) := by
  have h1 := rAsked_call x hx (trialOk x t)
  have h2 := rTrial_call x hx t
  simp only [Book.av, Book.cells, Trial.av] at h1 h2
  rcases ask_cases x (trialOk x t) with ⟨h0, hc, his, hf, hB⟩ | ⟨h0, B, hB1, hB2, hB3⟩
  · rw [his] at h1 h0 h2
    have g := good_of hc
    have hm := Book.more_ok hx (by have := g.tl; omega) t
    have ho := rFine_call (x.more t) hm g.boys (by simp [Book.more]; have := g.tl; omega) 0 (by decide) [] (by simp) (setOf_nil _)
    rw [show ((0 : Nat) : Int) = 0 from rfl] at ho
    have hfin : fitsB x t = fine (x.more t) [] := by simp [fitsB, his, h0]
    have hrow : rowV 4 ((x.more t).trials.map Trial.av) (x.more t).tnil = .sl 4 (x.trials.map Trial.av ++ [t.av]) .no := by
      have : (x.more t).trials.map Trial.av = x.trials.map Trial.av ++ [t.av] := by simp [Book.more]
      rw [this]; rfl
    have hbn : rowV 11 ((x.more t).boys.map Boy.av) (x.more t).bnil = rowV 11 (x.boys.map Boy.av) x.bnil := rfl
    have hw : (x.more t).weeks = x.weeks := rfl
    simp only [Book.av, Book.cells, hrow, hbn, hw, Trial.av] at ho
    have hbytes : (x.trials.length + 1) * 32 ≤ 140737488355328 := by have := g.tl; omega
    have hbytes' : x.trials.length * 32 ≤ 140737488355328 := by have := g.tl; omega
    have rv1 : ∀ l, rowV 4 l .nil = .nils := fun _ => rfl
    have hel : elemsA ({ boxes := [x.cells, [I t.boy, I t.week, I t.note, I t.sang], x.cells] } : St) (rowV 4 (x.trials.map Trial.av) x.tnil) = some (x.trials.map Trial.av, if x.tnil = .nil then none else some 4) := by
      by_cases hn : x.tnil = .nil
      · rw [hn, hx.trials hn]; rfl
      · rw [rowV_some hn, if_neg hn]; rfl
    simp only [Book.cells] at hel
    rw [call_def comp36]
    by_cases htr : x.trials = []
    · simp [htr] at hel ho h1 h2
      simp [code36, Book.av, Book.cells, Trial.av, h1, h2, his, h0, htr, fillE, AV.isAgg, appA, hel, isSl]
      simp [elemsA, grown, ho, hfin]
    · have hn : x.tnil ≠ .nil := fun hn => htr (hx.trials hn)
      have hne : x.trials.map Trial.av ≠ [] := by simpa using htr
      rw [if_neg hn] at hel
      simp [code36, Book.av, Book.cells, Trial.av, h1, h2, his, h0, htr, fillE, AV.isAgg, appA, hel, isSl, hne, grown, hbytes']
      simp [elemsA, grown, ho, hfin, hbytes]
  · have hfin : fitsB x t = false := by simp [fitsB, h0]
    rw [call_def comp36]
    simp [code36, Book.av, Book.cells, Trial.av, h1, h2, h0, hfin]
end Go.Ai

set_option maxRecDepth 100000
set_option linter.unusedSimpArgs false
set_option linter.unusedVariables false
namespace Go.Ai
def outF (out : List Int) : AV := if out = [] then .sl 1 [] .full else .sl 1 (ints out) (.chain 0)
theorem outF_pur (out : List Int) : ∃ r, (∀ σ n, pur σ (n + 1) (outF out) = some (r, false)) ∧ IsRow 1 (ints out) r := by
  unfold outF
  split
  · rename_i h; exact ⟨_, fun _ _ => rfl, .inr ⟨.full, rfl, by rw [h]; rfl⟩⟩
  · exact ⟨_, fun _ _ => rfl, .inr ⟨.no, rfl, rfl⟩⟩
def head52 (set below : Int) (out : List Int) (k : Int) : Env := [I set, I below, .any, .any, .any, outF out, I k] ++ List.replicate 14 .any
def st52 (out : List Int) : St := { chains := outCh out }
def bitsL (set : Nat) (T : Nat) : List Int := sel (fun i => hasB set i) 0 T
theorem loop52 (set : Nat) (hset : set < 2 ^ 62) (T : Nat) (hT : T < 1000) : ∀ (n k : Nat) (out : List Int), k + n = T → out.length ≤ k →
    run Cv 52 (.loop keep52_0 body52_0) (head52 set T out k) (st52 out) = some (.ex 0, (((head52 set T (out ++ sel (fun i => hasB set i) k n) T).set 8 (I T)).set 9 (I T)).set 10 (.bool false), st52 (out ++ sel (fun i => hasB set i) k n))
  | 0, k, out, hk, ho => by
    have : k = T := by omega
    subst this
    rw [run_loop]
    simp [body52_0, keep52_0, head52, st52, sel]
  | n + 1, k, out, hk, ho => by
    have hlt : k < T := by omega
    have hw : IntKind.wrap .i64 ((k : Int) + 1) = k + 1 := wrap_small (by omega) (by omega)
    have hh := has_call set hset k
    have hbytes : (out.length + 1) * 8 ≤ 140737488355328 := by omega
    have key : run Cv 52 (.loop keep52_0 body52_0) (head52 set T out k) (st52 out) = run Cv 52 (.loop keep52_0 body52_0) (head52 set T (out ++ if hasB set k then [(k : Int)] else []) (k + 1)) (st52 (out ++ if hasB set k then [(k : Int)] else [])) := by
      rw [run_loop]
      generalize MC.loop keep52_0 body52_0 = L
      cases hp : hasB set k with
      | false =>
        rw [hp] at hh
        by_cases ho' : out = []
        · simp [body52_0, keep52_0, head52, st52, outF, outCh, hlt, hh, hw, under, ho']
        · simp [body52_0, keep52_0, head52, st52, outF, outCh, hlt, hh, hw, under, ho']
      | true =>
        rw [hp] at hh
        by_cases ho' : out = []
        · simp [body52_0, keep52_0, head52, st52, outF, outCh, hlt, hh, hw, under, ho', fillE, AV.isAgg, appA, elemsA, grown, ints]
        · simp [body52_0, keep52_0, head52, st52, outF, outCh, hlt, hh, hw, under, ho', fillE, AV.isAgg, appA, elemsA, grown, ints, hbytes]
    rw [key]
    have := loop52 set hset T hT n (k + 1) (out ++ if hasB set k then [(k : Int)] else []) (by omega) (by split <;> simp <;> omega)
    simpa [sel, List.append_assoc] using this
theorem bits_call (set : Nat) (hset : set < 2 ^ 62) (T : Nat) (hT : T < 1000) : ∃ y, IsRow 1 (ints (bitsL set T)) y ∧ call Cv 52 [I set, I T] = some y := by
  have hl := loop52 set hset T hT T 0 [] (by omega) (by simp)
  obtain ⟨y, p1, p2⟩ := outF_pur (bitsL set T)
  simp only [st52, outCh, if_true, List.nil_append] at hl
  refine ⟨y, p2, ?_⟩
  rw [call_def comp52]
  simp [code52, fillE]
  rw [run_loop_mask, show mask keep52_0 _ = head52 set T [] (0 : Nat) from by simp [keep52_0, head52, outF]]
  rw [hl]
  have p1' := p1
  simp only [bitsL] at p1'
  simp [head52, p1']
/-! ### Which of two lists comes first -/
def earlierL : List Int → List Int → Bool
  | a :: l, b :: m => if a = b then earlierL l m else decide (a < b)
  | [], _ :: _ => true
  | _, [] => false
def shorterL (l m : List Int) : Bool := decide (l.length < m.length) || (decide (l.length = m.length) && earlierL l m)
def head93 (r s : AV) (k : Int) : Env := [r, s, .any, .any, .any, I k] ++ List.replicate 35 .any
theorem earlier_len : ∀ (l m : List Int), l = [] ∨ m = [] → earlierL l m = decide (l.length < m.length)
  | [], [], _ => rfl
  | [], _ :: _, _ => by simp [earlierL]
  | _ :: _, [], _ => by simp [earlierL]
  | _ :: _, _ :: _, h => by rcases h with h | h <;> cases h
theorem loop93 (l0 m0 : List Int) (r s : AV) (hr : IsRow 1 (ints l0) r) (hs : IsRow 1 (ints m0) s) (hl : l0.length < 2 ^ 47) (hm : m0.length < 2 ^ 47) : ∀ (n k : Nat), k + n = min l0.length m0.length → l0.take k = m0.take k →
    ∃ e c, run Cv 93 (.loop keep93_0 body93_0) (head93 r s k) {} = some (c, e, {}) ∧ e.length = 41 ∧
      ((c = .ex 0 ∧ e[0]? = some r ∧ e[1]? = some s ∧ earlierL (l0.drop k) (m0.drop k) = decide (l0.length < m0.length)) ∨ (c = .rt ∧ e[4]? = some (.bool (earlierL (l0.drop k) (m0.drop k)))))
  | 0, k, hk, ht => by
    have h1 : lenA r = some (I l0.length) := by rw [hr.len]; simp [ints]
    have h2 : lenA s = some (I m0.length) := by rw [hs.len]; simp [ints]
    have he : earlierL (l0.drop k) (m0.drop k) = decide (l0.length < m0.length) := by
      rw [earlier_len]
      · simp only [List.length_drop, decide_eq_decide]; omega
      · rcases Nat.le_total l0.length m0.length with h | h
        · left; exact List.drop_eq_nil_iff.2 (by omega)
        · right; exact List.drop_eq_nil_iff.2 (by omega)
    have key : ∃ e, run Cv 93 (.loop keep93_0 body93_0) (head93 r s k) {} = some (.ex 0, e, {}) ∧ e.length = 41 ∧ e[0]? = some r ∧ e[1]? = some s := by
      by_cases hkl : k < l0.length
      · have hkm : ¬ k < m0.length := by omega
        rw [run_loop]
        simp [body93_0, keep93_0, head93, h1, h2, hkl, hkm]
      · rw [run_loop]
        simp [body93_0, keep93_0, head93, h1, h2, hkl]
    obtain ⟨e, g1, g2, g3, g4⟩ := key
    exact ⟨e, _, g1, g2, .inl ⟨rfl, g3, g4, he⟩⟩
  | n + 1, k, hk, ht => by
    have hkl : k < l0.length := by omega
    have hkm : k < m0.length := by omega
    have hw : IntKind.wrap .i64 ((k : Int) + 1) = k + 1 := wrap_small (by omega) (by omega)
    have hnr : ∃ c, c.pure = c ∧ r = .sl 1 (ints l0) c := by
      rcases hr with ⟨_, h⟩ | h
      · have : l0 = [] := by cases l0 with | nil => rfl | cons => simp [ints] at h
        rw [this] at hkl; simp at hkl
      · exact h
    have hns : ∃ c, c.pure = c ∧ s = .sl 1 (ints m0) c := by
      rcases hs with ⟨_, h⟩ | h
      · have : m0 = [] := by cases m0 with | nil => rfl | cons => simp [ints] at h
        rw [this] at hkm; simp at hkm
      · exact h
    have hur := hr.under
    have hus := hs.under
    obtain ⟨c, hc, rfl⟩ := hnr
    obtain ⟨c', hc', rfl⟩ := hns
    simp only [ints] at hur hus
    rw [List.drop_eq_getElem_cons hkl, List.drop_eq_getElem_cons hkm]
    by_cases hab : l0[k] = m0[k]
    · have key : run Cv 93 (.loop keep93_0 body93_0) (head93 (.sl 1 (ints l0) c) (.sl 1 (ints m0) c') k) {} = run Cv 93 (.loop keep93_0 body93_0) (head93 (.sl 1 (ints l0) c) (.sl 1 (ints m0) c') (k + 1)) {} := by
        rw [run_loop]
        generalize MC.loop keep93_0 body93_0 = L
        simp [body93_0, keep93_0, head93, ints, hkl, hkm, hab, hw, hur, hus]
      rw [key]
      have := loop93 l0 m0 _ _ hr hs hl hm n (k + 1) (by omega) (by
        rw [List.take_succ_eq_append_getElem hkl, List.take_succ_eq_append_getElem hkm, ht, hab])
      simpa [earlierL, hab] using this
    · have key : ∃ e, run Cv 93 (.loop keep93_0 body93_0) (head93 (.sl 1 (ints l0) c) (.sl 1 (ints m0) c') k) {} = some (.rt, e, {}) ∧ e.length = 41 ∧ e[4]? = some (.bool (decide (l0[k] < m0[k]))) := by
        rw [run_loop]
        simp [body93_0, keep93_0, head93, ints, hkl, hkm, hab, hw, hur, hus]
      obtain ⟨e, g1, g2, g3⟩ := key
      exact ⟨e, _, g1, g2, .inr ⟨rfl, by rw [g3]; simp [earlierL, hab]⟩⟩
theorem earlier_call (l m : List Int) (r s : AV) (hr : IsRow 1 (ints l) r) (hs : IsRow 1 (ints m) s) (hl : l.length < 2 ^ 47) (hm : m.length < 2 ^ 47) : call Cv 93 [r, s] = some (.bool (earlierL l m)) := by
  have h1 : lenA r = some (I l.length) := by rw [hr.len]; simp [ints]
  have h2 : lenA s = some (I m.length) := by rw [hs.len]; simp [ints]
  obtain ⟨e, c, g1, g2, g3⟩ := loop93 l m r s hr hs hl hm (min l.length m.length) 0 (by omega) rfl
  rw [call_def comp93]
  simp [code93]
  rw [run_loop_mask, show mask keep93_0 _ = head93 r s (0 : Nat) from by simp [keep93_0, head93]]
  rw [g1]
  rcases g3 with ⟨rfl, g3, g4, g5⟩ | ⟨rfl, g3⟩
  · simp only [List.drop_zero] at g5
    have k0 : ∀ h : 0 < e.length, e[0] = r := fun h => (List.getElem?_eq_some_iff.1 g3).2
    have k1 : ∀ h : 1 < e.length, e[1] = s := fun h => (List.getElem?_eq_some_iff.1 g4).2
    simp [k0, k1, g2, h1, h2, g5]
  · simp only [List.drop_zero] at g3
    simp [g3]
theorem shorter_call (l m : List Int) (r s : AV) (hr : IsRow 1 (ints l) r) (hs : IsRow 1 (ints m) s) (hl : l.length < 2 ^ 47) (hm : m.length < 2 ^ 47) : call Cv 55 [r, s] = some (.bool (shorterL l m)) := by
  have h1 : lenA r = some (I l.length) := by rw [hr.len]; simp [ints]
  have h2 : lenA s = some (I m.length) := by rw [hs.len]; simp [ints]
  have h3 := earlier_call l m r s hr hs hl hm
  rw [call_def comp55]
  by_cases q1 : l.length < m.length
  · simp [code55, h1, h2, q1, shorterL]
  · by_cases q2 : l.length = m.length
    · simp [code55, h1, h2, q2, shorterL, hr.pur, hs.pur, h3]
    · have q3 : ((l.length : Int) == m.length) = false := by simp; omega
      simp [code55, h1, h2, q1, q2, q3, shorterL]
end Go.Ai

set_option maxRecDepth 100000
set_option linter.unusedSimpArgs false
set_option linter.unusedVariables false
namespace Go.Ai
/-- The better of two lists of false trials. -/
def better (x : Book) (best : List Int) (set : Nat) : List Int := if shorterL (bitsL set x.trials.length) best && fine x (bitsL set x.trials.length) then bitsL set x.trials.length else best
theorem mem_sel (p : Nat → Bool) (y : Int) : ∀ (n k : Nat), y ∈ sel p k n ↔ ∃ j : Nat, y = j ∧ k ≤ j ∧ j < k + n ∧ p j = true
  | 0, k => by simp [sel]; intro j _ h1 h2; omega
  | n + 1, k => by
    rw [sel, List.mem_append, mem_sel p y n (k + 1)]
    constructor
    · rintro (h | ⟨j, h1, h2, h3, h4⟩)
      · split at h
        · simp only [List.mem_singleton] at h
          exact ⟨k, h, by omega, by omega, by assumption⟩
        · cases h
      · exact ⟨j, h1, by omega, by omega, h4⟩
    · rintro ⟨j, h1, h2, h3, h4⟩
      by_cases hj : j = k
      · subst hj; left; rw [if_pos h4, h1]; simp
      · right; exact ⟨j, h1, by omega, by omega, h4⟩
theorem setOf_bits (x : Book) (set : Nat) : SetOf x set (bitsL set x.trials.length) := by
  intro k hk
  rw [Bool.eq_iff_iff, decide_eq_true_eq, bitsL, mem_sel]
  constructor
  · intro h; exact ⟨k, rfl, by omega, by omega, h⟩
  · rintro ⟨j, h1, _, _, h4⟩
    have : j = k := by omega
    rw [← this]; exact h4
theorem bits_len (set T : Nat) : (bitsL set T).length ≤ T := sel_len _ _ _
def head38 (T : Int) (r : AV) (k : Int) : Env := [.any, .box 0 0, .any, .any, .any, I T, r, I k] ++ List.replicate 33 .any
def st38 (x : Book) : St := { boxes := [x.cells] }
theorem pow_small {T : Nat} (h : T ≤ 6) : 2 ^ T ≤ 64 := by
  have : T = 0 ∨ T = 1 ∨ T = 2 ∨ T = 3 ∨ T = 4 ∨ T = 5 ∨ T = 6 := by omega
  rcases this with h | h | h | h | h | h | h <;> rw [h] <;> decide
theorem better_len (x : Book) (best : List Int) (set : Nat) (h : best.length ≤ x.trials.length) : (better x best set).length ≤ x.trials.length := by
  unfold better
  split
  · exact bits_len _ _
  · exact h
theorem loop38 (x : Book) (hx : x.Ok) (hc : checkOk x = true) (P : Nat) (hP : P = 2 ^ x.trials.length) : ∀ (n k : Nat) (best : List Int) (r : AV), k + n = P → IsRow 1 (ints best) r → best.length ≤ x.trials.length →
    ∃ r', IsRow 1 (ints ((List.range' k n).foldl (better x) best)) r' ∧ ∃ e, run Cv 38 (.loop keep38_0 body38_0) (head38 x.trials.length r k) (st38 x) = some (.ex 0, e, st38 x) ∧ e[6]? = some r' ∧ e.length = 41
  | 0, k, best, r, hk, hr, hb => by
    have g := good_of hc
    have htl := g.tl
    have hpow : P ≤ 64 := by rw [hP]; exact pow_small htl
    have hmin : min x.trials.length 64 = x.trials.length := by omega
    have hcast : ((2 : Int) ^ x.trials.length) = (P : Int) := by rw [hP]; norm_cast
    have hw : IntKind.wrap .i64 ((2 : Int) ^ x.trials.length) = (P : Int) := by rw [hcast]; exact wrap_small (by omega) (by omega)
    have hneg : ¬ (x.trials.length : Int) < 0 := by omega
    have hlt : ¬ k < P := by omega
    refine ⟨r, hr, ?_⟩
    rw [run_loop]
    simp [body38_0, keep38_0, head38, binI, hneg, hmin, IntKind.bits, hw, hlt]
  | n + 1, k, best, r, hk, hr, hb => by
    have g := good_of hc
    have htl := g.tl
    have hpow : P ≤ 64 := by rw [hP]; exact pow_small htl
    have hmin : min x.trials.length 64 = x.trials.length := by omega
    have hcast : ((2 : Int) ^ x.trials.length) = (P : Int) := by rw [hP]; norm_cast
    have hw : IntKind.wrap .i64 ((2 : Int) ^ x.trials.length) = (P : Int) := by rw [hcast]; exact wrap_small (by omega) (by omega)
    have hneg : ¬ (x.trials.length : Int) < 0 := by omega
    have hlt : k < P := by omega
    have hwk : IntKind.wrap .i64 ((k : Int) + 1) = k + 1 := wrap_small (by omega) (by omega)
    obtain ⟨y, hy, hbits⟩ := bits_call k (by omega) x.trials.length (by omega)
    have hbl := bits_len k x.trials.length
    have hsh := shorter_call (bitsL k x.trials.length) best y r hy hr (by omega) (by omega)
    have hfn := rFine_call x hx g.boys (by omega) k (by omega) (bitsL k x.trials.length) (by omega) (setOf_bits x k)
    simp only [Book.av, Book.cells] at hfn
    have hyu := hy.under
    have hru := hr.under
    have hyp := hy.pur
    have hrp := hr.pur
    have key : ∃ r', IsRow 1 (ints (better x best k)) r' ∧ run Cv 38 (.loop keep38_0 body38_0) (head38 x.trials.length r k) (st38 x) = run Cv 38 (.loop keep38_0 body38_0) (head38 x.trials.length r' (k + 1)) (st38 x) := by
      cases hs : shorterL (bitsL k x.trials.length) best with
      | false =>
        rw [hs] at hsh
        refine ⟨r, by rw [better, hs]; simpa using hr, ?_⟩
        rw [run_loop]
        generalize MC.loop keep38_0 body38_0 = L
        simp [body38_0, keep38_0, head38, st38, binI, hneg, hmin, IntKind.bits, hw, hlt, hbits, hsh, hyp, hrp, hwk, hru, Book.cells]
      | true =>
        rw [hs] at hsh
        cases hf : fine x (bitsL k x.trials.length) with
        | false =>
          rw [hf] at hfn
          refine ⟨r, by rw [better, hs, hf]; simpa using hr, ?_⟩
          rw [run_loop]
          generalize MC.loop keep38_0 body38_0 = L
          simp [body38_0, keep38_0, head38, st38, binI, hneg, hmin, IntKind.bits, hw, hlt, hbits, hsh, hyp, hrp, hwk, hru, Book.cells, hfn]
        | true =>
          rw [hf] at hfn
          refine ⟨y, by rw [better, hs, hf]; simpa using hy, ?_⟩
          rw [run_loop]
          generalize MC.loop keep38_0 body38_0 = L
          simp [body38_0, keep38_0, head38, st38, binI, hneg, hmin, IntKind.bits, hw, hlt, hbits, hsh, hyp, hrp, hwk, hyu, Book.cells, hfn]
    obtain ⟨r', hr', hkey⟩ := key
    obtain ⟨r'', k1, e, k2, k3, k4⟩ := loop38 x hx hc P hP n (k + 1) _ r' (by omega) hr' (better_len x best k hb)
    exact ⟨r'', by rw [List.range'_succ, List.foldl_cons]; exact k1, e, by rw [hkey]; exact k2, k3, k4⟩
def refWrong (x : Book) : List Int := if checkOk x = true then (List.range' 0 (2 ^ x.trials.length)).foldl (better x) (bitsL (2 ^ x.trials.length - 1) x.trials.length) else []
theorem rWrong_call (x : Book) (hx : x.Ok) : ∃ y, IsRow 1 (ints (refWrong x)) y ∧ call Cv 38 [x.av] = some (.tup [y, I (if checkOk x then 0 else 20)]) := by
  have h1 := rCheck_call x hx
  simp only [Book.av, Book.cells] at h1
  have hlen := hx.lenT
  cases hc : checkOk x with
  | false =>
    rw [hc] at h1
    refine ⟨.nils, .inl ⟨rfl, by simp [refWrong, hc, ints]⟩, ?_⟩
    rw [call_def comp38]
    simp [code38, Book.av, Book.cells, h1]
  | true =>
    rw [hc] at h1
    have g := good_of hc
    have htl := g.tl
    obtain ⟨P, hP⟩ : ∃ P, P = 2 ^ x.trials.length := ⟨_, rfl⟩
    have hpow : P ≤ 64 := by rw [hP]; exact pow_small htl
    have hpos : 0 < P := by rw [hP]; exact Nat.two_pow_pos _
    have hmin : min x.trials.length 64 = x.trials.length := by omega
    have hcast : ((2 : Int) ^ x.trials.length) = (P : Int) := by rw [hP]; norm_cast
    have hw : IntKind.wrap .i64 ((2 : Int) ^ x.trials.length) = (P : Int) := by rw [hcast]; exact wrap_small (by omega) (by omega)
    have hw2 : IntKind.wrap .i64 ((P : Int) - 1) = ((P - 1 : Nat) : Int) := by rw [wrap_small (by omega) (by omega)]; omega
    have hneg : ¬ (x.trials.length : Int) < 0 := by omega
    obtain ⟨b0, hb0, hbits⟩ := bits_call (P - 1) (by omega) x.trials.length (by omega)
    obtain ⟨y, hy, e, g1, g2, g3⟩ := loop38 x hx hc P hP P 0 _ b0 (by omega) hb0 (bits_len _ _)
    have g2' : ∀ h : 6 < e.length, e[6] = y := fun h => (List.getElem?_eq_some_iff.1 g2).2
    refine ⟨y, by rw [refWrong, if_pos hc, ← hP]; exact hy, ?_⟩
    simp only [st38, Book.cells] at g1
    rw [call_def comp38]
    simp [code38, Book.av, Book.cells, h1, hlen, binI, hneg, hmin, IntKind.bits, hw, hw2, hbits]
    rw [run_loop_mask, show mask keep38_0 _ = head38 x.trials.length b0 (0 : Nat) from by simp [keep38_0, head38]]
    rw [g1]
    simp [g2', g3, hy.pur]
end Go.Ai

set_option maxRecDepth 100000
set_option linter.unusedSimpArgs false
set_option linter.unusedVariables false
namespace Go.Ai
/-! ### The order -/
theorem earlier_total : ∀ (l m : List Int), earlierL l m = false → earlierL m l = false → l = m
  | [], [], _, _ => rfl
  | [], _ :: _, h, _ => by simp [earlierL] at h
  | _ :: _, [], _, h => by simp [earlierL] at h
  | a :: l, b :: m, h, h' => by
    simp only [earlierL] at h h'
    by_cases hab : a = b
    · subst hab
      simp only [if_true] at h h'
      rw [earlier_total l m h h']
    · rw [if_neg hab] at h
      rw [if_neg (Ne.symm hab)] at h'
      simp only [decide_eq_false_iff_not] at h h'
      omega
theorem earlier_trans : ∀ (l m n : List Int), earlierL l m = true → earlierL m n = true → earlierL l n = true
  | [], _, _ :: _, _, _ => rfl
  | _, [], [], _, h => by simp [earlierL] at h
  | _, _ :: _, [], _, h => by simp [earlierL] at h
  | _ :: _, [], _ :: _, h, _ => by simp [earlierL] at h
  | a :: l, b :: m, c :: n, h, h' => by
    simp only [earlierL] at h h' ⊢
    by_cases hab : a = b
    · subst hab
      simp only [if_true] at h
      by_cases hbc : a = c
      · subst hbc
        simp only [if_true] at h' ⊢
        exact earlier_trans l m n h h'
      · rw [if_neg hbc] at h' ⊢
        exact h'
    · rw [if_neg hab] at h
      simp only [decide_eq_true_eq] at h
      by_cases hbc : b = c
      · subst hbc
        rw [if_neg hab]
        simpa using h
      · rw [if_neg hbc] at h'
        simp only [decide_eq_true_eq] at h'
        have : ¬ a = c := by omega
        rw [if_neg this]
        simp; omega
theorem shorter_total (l m : List Int) (h : shorterL l m = false) (h' : shorterL m l = false) : l = m := by
  simp only [shorterL, Bool.or_eq_false_iff, Bool.and_eq_false_iff, decide_eq_false_iff_not] at h h'
  have hlen : l.length = m.length := by omega
  exact earlier_total l m (h.2.resolve_left (fun q => q hlen)) (h'.2.resolve_left (fun q => q hlen.symm))
theorem shorter_trans (l m n : List Int) (h : shorterL l m = true) (h' : shorterL m n = true) : shorterL l n = true := by
  simp only [shorterL, Bool.or_eq_true, Bool.and_eq_true, decide_eq_true_eq] at h h' ⊢
  rcases h with h | ⟨h1, h2⟩
  · left; rcases h' with h' | ⟨h1', _⟩ <;> omega
  · rcases h' with h' | ⟨h1', h2'⟩
    · left; omega
    · right; exact ⟨by omega, earlier_trans l m n h2 h2'⟩
/-! ### Increasing lists -/
def incFrom (T : Nat) : Int → List Int → Prop
  | _, [] => True
  | k, y :: l => k ≤ y ∧ y < T ∧ incFrom T (y + 1) l
theorem sel_inc (p : Nat → Bool) (T : Nat) : ∀ (n k : Nat), k + n = T → ∀ k' : Int, k' ≤ k → incFrom T k' (sel p k n)
  | 0, k, h, k', hk => trivial
  | n + 1, k, h, k', hk => by
    have ih := sel_inc p T n (k + 1) (by omega)
    rw [sel]
    split
    · exact ⟨hk, by omega, ih _ (by omega)⟩
    · simpa using ih k' (by omega)
theorem inc_sel (T : Nat) : ∀ (n k : Nat), k + n = T → ∀ l : List Int, incFrom T k l → ∃ p : Nat → Bool, sel p k n = l
  | 0, k, h, l, hl => by
    cases l with
    | nil => exact ⟨fun _ => false, rfl⟩
    | cons y l => obtain ⟨h1, h2, _⟩ := hl; omega
  | n + 1, k, h, l, hl => by
    have cong : ∀ (p q : Nat → Bool) (n k : Nat), (∀ i, k ≤ i → p i = q i) → sel p k n = sel q k n := by
      intro p q n
      induction n with
      | zero => intro k _; rfl
      | succ n ih =>
        intro k hpq
        rw [sel, sel, hpq k (Nat.le_refl _), ih (k + 1) fun i hi => hpq i (by omega)]
    have build : ∀ (b : Bool) (l' : List Int), incFrom T ((k + 1 : Nat) : Int) l' → ∃ p : Nat → Bool, sel p k (n + 1) = (if b then [(k : Int)] else []) ++ l' := by
      intro b l' hl'
      obtain ⟨p, hp⟩ := inc_sel T n (k + 1) (by omega) l' hl'
      refine ⟨fun i => if i = k then b else p i, ?_⟩
      rw [sel]
      simp only [if_true]
      rw [cong _ p n (k + 1) fun i hi => if_neg (by omega), hp]
    cases l with
    | nil =>
      obtain ⟨p, hp⟩ := build false [] trivial
      exact ⟨p, by simpa using hp⟩
    | cons y l =>
      obtain ⟨h1, h2, h3⟩ := hl
      by_cases hy : y = k
      · subst hy
        obtain ⟨p, hp⟩ := build true l (by simpa using h3)
        exact ⟨p, by simpa using hp⟩
      · obtain ⟨p, hp⟩ := build false (y :: l) ⟨by omega, h2, h3⟩
        exact ⟨p, by simpa using hp⟩
theorem bits_of (p : Nat → Bool) : ∀ T : Nat, ∃ set, set < 2 ^ T ∧ ∀ i, i < T → set.testBit i = p i
  | 0 => ⟨0, by decide, fun i h => by omega⟩
  | T + 1 => by
    obtain ⟨s, h1, h2⟩ := bits_of p T
    have hpow : 2 ^ (T + 1) = 2 ^ T + 2 ^ T := by rw [Nat.pow_succ]; omega
    cases hp : p T with
    | false =>
      refine ⟨s, by omega, fun i hi => ?_⟩
      by_cases hT : i = T
      · subst hT; rw [hp]; exact Nat.testBit_lt_two_pow h1
      · exact h2 i (by omega)
    | true =>
      refine ⟨2 ^ T + s, by omega, fun i hi => ?_⟩
      by_cases hT : i = T
      · subst hT
        rw [Nat.testBit_two_pow_add_eq, Nat.testBit_lt_two_pow h1, hp]; rfl
      · rw [Nat.testBit_two_pow_add_gt (by omega)]
        exact h2 i (by omega)
theorem sel_congr (p q : Nat → Bool) : ∀ (n k : Nat), (∀ i, k ≤ i → i < k + n → p i = q i) → sel p k n = sel q k n
  | 0, _, _ => rfl
  | n + 1, k, h => by
    rw [sel, sel, h k (Nat.le_refl _) (by omega), sel_congr p q n (k + 1) fun i h1 h2 => h i (by omega) (by omega)]
theorem inc_bits (T : Nat) (hT : T ≤ 6) (l : List Int) (h : incFrom T 0 l) : ∃ set, set < 2 ^ T ∧ bitsL set T = l := by
  obtain ⟨p, hp⟩ := inc_sel T T 0 (by omega) l (by simpa using h)
  obtain ⟨s, h1, h2⟩ := bits_of p T
  refine ⟨s, h1, ?_⟩
  rw [← hp, bitsL]
  refine sel_congr _ _ T 0 fun i _ hi => ?_
  have h62 : (i : Int) < 62 := by omega
  simp [hasB, h62, h2 i (by omega)]
theorem bits_inc (set T : Nat) : incFrom T 0 (bitsL set T) := sel_inc _ T T 0 (by omega) 0 (by omega)

/-! ### The reference's choice -/
theorem fold_best (x : Book) : ∀ (L : List Nat) (best : List Int), (fine x best = true ∧ incFrom x.trials.length 0 best) →
    (fine x (L.foldl (better x) best) = true ∧ incFrom x.trials.length 0 (L.foldl (better x) best)) ∧ (∀ l, shorterL l (L.foldl (better x) best) = true → shorterL l best = true) ∧
      ∀ s ∈ L, fine x (bitsL s x.trials.length) = true → shorterL (bitsL s x.trials.length) (L.foldl (better x) best) = false
  | [], best, h => ⟨h, fun _ h => h, fun s hs => by cases hs⟩
  | s :: L, best, h => by
    have hb : (fine x (better x best s) = true ∧ incFrom x.trials.length 0 (better x best s)) ∧ (∀ l, shorterL l (better x best s) = true → shorterL l best = true) ∧ (fine x (bitsL s x.trials.length) = true → shorterL (bitsL s x.trials.length) (better x best s) = false) := by
      unfold better
      split
      · rename_i hc
        simp only [Bool.and_eq_true] at hc
        refine ⟨⟨hc.2, bits_inc _ _⟩, fun l hl => shorter_trans _ _ _ hl hc.1, fun _ => ?_⟩
        have irr : ∀ l : List Int, earlierL l l = false := by
          intro l
          induction l with
          | nil => rfl
          | cons a l ih => simp [earlierL, ih]
        simp [shorterL, irr]
      · rename_i hc
        refine ⟨h, fun l hl => hl, fun hf => ?_⟩
        rw [hf, Bool.and_true] at hc
        simpa using hc
    obtain ⟨i1, i2, i3⟩ := fold_best x L (better x best s) hb.1
    refine ⟨i1, fun l hl => hb.2.1 l (i2 l hl), fun q hq hf => ?_⟩
    rcases List.mem_cons.1 hq with rfl | hq
    · have := hb.2.2 hf
      cases hc : shorterL (bitsL q x.trials.length) (L.foldl (better x) (better x best q)) with
      | false => exact hc
      | true => rw [i2 _ hc] at this; cases this
    · exact i3 q hq hf

/-! ### The program's choice -/
theorem earlier_app : ∀ (p l m : List Int), earlierL (p ++ l) (p ++ m) = earlierL l m
  | [], _, _ => rfl
  | a :: p, l, m => by simp [earlierL, earlier_app p l m]
theorem fromOf_app (l : List Int) (n : Nat) : fromOf (l ++ [(n : Int)]) = n + 1 := by
  simp [fromOf]
theorem inc_mono (T : Nat) : ∀ (l : List Int) (k k' : Int), k' ≤ k → incFrom T k l → incFrom T k' l
  | [], _, _, _, _ => trivial
  | y :: l, k, k', h, ⟨h1, h2, h3⟩ => ⟨by omega, h2, h3⟩
theorem choose_some (x : Book) (T : Nat) : ∀ (d : Nat) (l m : List Int), chooseM x T d l = some m → ∃ e, m = l ++ e ∧ e.length = d ∧ incFrom T (fromOf l) e ∧ fine x m = true
  | 0, l, m, h => by
    simp only [chooseM] at h
    split at h
    · rename_i hf
      simp only [Option.some.injEq] at h
      subst h
      exact ⟨[], by simp, rfl, trivial, hf⟩
    · cases h
  | d + 1, l, m, h => by
    simp only [chooseM] at h
    obtain ⟨n, hn, h⟩ := List.exists_of_findSome?_eq_some h
    rw [List.mem_range'_1] at hn
    obtain ⟨e, rfl, h2, h3, h4⟩ := choose_some x T d _ m h
    rw [fromOf_app] at h3
    exact ⟨(n : Int) :: e, by simp, by simp [h2], ⟨by omega, by omega, by simpa using h3⟩, h4⟩
theorem choose_least (x : Book) (T : Nat) : ∀ (d : Nat) (l e : List Int), e.length = d → incFrom T (fromOf l) e → fine x (l ++ e) = true → ∃ m, chooseM x T d l = some m ∧ earlierL (l ++ e) m = false
  | 0, l, e, h1, h2, h3 => by
    have : e = [] := List.eq_nil_of_length_eq_zero h1
    subst this
    rw [List.append_nil] at h3 ⊢
    have irr : ∀ l : List Int, earlierL l l = false := by
      intro l
      induction l with
      | nil => rfl
      | cons a l ih => simp [earlierL, ih]
    exact ⟨l, by simp [chooseM, h3], irr l⟩
  | d + 1, l, [], h1, _, _ => by simp at h1
  | d + 1, l, y :: e, h1, ⟨h2, h3, h4⟩, h5 => by
    obtain ⟨n, rfl⟩ := Int.eq_ofNat_of_zero_le (show 0 ≤ y by omega)
    obtain ⟨m1, hm1, hm2⟩ := choose_least x T d (l ++ [(n : Int)]) e (by simpa using h1) (by rw [fromOf_app]; simpa using h4) (by simpa using h5)
    have key : ∀ (c k : Nat), k ≤ n → n < k + c → ∃ m, (List.range' k c).findSome? (fun (n : Nat) => chooseM x T d (l ++ [(n : Int)])) = some m ∧ earlierL (l ++ (n : Int) :: e) m = false := by
      intro c
      induction c with
      | zero => intro k hk hk'; omega
      | succ c ih =>
        intro k hk hk'
        rw [List.range'_succ, List.findSome?_cons]
        cases hc : chooseM x T d (l ++ [(k : Int)]) with
        | some m =>
          refine ⟨m, rfl, ?_⟩
          by_cases hkn : k = n
          · subst hkn
            rw [hm1] at hc
            cases hc
            simpa using hm2
          · obtain ⟨e', rfl, _, _, _⟩ := choose_some x T d _ m hc
            rw [List.append_assoc, earlier_app]
            have : ¬ (n : Int) = k := by omega
            simp [earlierL, this]; omega
        | none =>
          have hkn : k ≠ n := fun h => by subst h; rw [hm1] at hc; cases hc
          exact ih (k + 1) (by omega) (by omega)
    simp only [chooseM]
    exact key _ _ (by omega) (by omega)
theorem wrong_some (x : Book) : ∀ (n many : Nat) (m : List Int), wrongFrom x many n = some m → (∃ k, many ≤ k ∧ m.length = k ∧ chooseM x x.trials.length k [] = some m) ∧ ∀ k, many ≤ k → k < m.length → chooseM x x.trials.length k [] = none
  | 0, many, m, h => by cases h
  | n + 1, many, m, h => by
    simp only [wrongFrom] at h
    cases hc : chooseM x x.trials.length many [] with
    | some m' =>
      rw [hc] at h
      cases h
      obtain ⟨e, h1, h2, _, _⟩ := choose_some x _ _ _ _ hc
      rw [List.nil_append] at h1
      subst h1
      exact ⟨⟨many, Nat.le_refl _, h2, hc⟩, fun k h1 h3 => by omega⟩
    | none =>
      rw [hc] at h
      obtain ⟨⟨k, h1, h2, h3⟩, h4⟩ := wrong_some x n (many + 1) m h
      refine ⟨⟨k, by omega, h2, h3⟩, fun j h5 h6 => ?_⟩
      by_cases hj : j = many
      · subst hj; exact hc
      · exact h4 j (by omega) h6
theorem wrong_none (x : Book) : ∀ (n many : Nat), wrongFrom x many n = none → ∀ k, many ≤ k → k < many + n → chooseM x x.trials.length k [] = none
  | 0, many, h, k, h1, h2 => by omega
  | n + 1, many, h, k, h1, h2 => by
    simp only [wrongFrom] at h
    cases hc : chooseM x x.trials.length many [] with
    | some m' => rw [hc] at h; cases h
    | none =>
      rw [hc] at h
      by_cases hj : k = many
      · subst hj; exact hc
      · exact wrong_none x n (many + 1) h k (by omega) (by omega)
theorem inc_length (T : Nat) : ∀ (l : List Int) (k : Nat), k ≤ T → incFrom T k l → l.length ≤ T - k
  | [], _, _, _ => by simp
  | y :: l, k, hk, ⟨h1, h2, h3⟩ => by
    obtain ⟨n, rfl⟩ := Int.eq_ofNat_of_zero_le (show 0 ≤ y by omega)
    have := inc_length T l (n + 1) (by omega) (by simpa using h3)
    simp only [List.length_cons]
    omega
/-- Without all trials the book can be true. -/
theorem fine_all (x : Book) (hb : x.boys.all boyOk = true) (but : List Int) (h : ∀ k : Nat, k < x.trials.length → (k : Int) ∈ but) : fine x but = true := by
  have hr : ∀ (loss : Int) (v : Vo) (boy : Int) (l : List Trial) (k : Nat), (∀ j, k ≤ j → j < k + l.length → (j : Int) ∈ but) → rightFrom loss v boy but l k = true := by
    intro loss v boy l
    induction l with
    | nil => intro k _; rfl
    | cons t l ih =>
      intro k hk
      have h1 := hk k (Nat.le_refl _) (by simp)
      rw [rightFrom, ih (k + 1) fun j hj hj' => hk j (by omega) (by simp; omega)]
      simp [badT, h1]
  have hv : ∀ (b : Boy) (ok : Vo → Bool), boyOk b = true → (∀ v, ok v = true) → ∀ d, d ≤ 4 → ∀ v, enum b ok d v ≠ [] := by
    intro b ok hb hok
    have vne : ∀ k, k < 5 → vals (b.span k) ≠ [] := by
      intro k hk
      have := (spOk_of hb).ok k hk
      intro h
      have h2 := congrArg List.length h
      simp [vals] at h2
      omega
    intro d
    induction d with
    | zero =>
      intro _ v
      have := vne 4 (by omega)
      simp only [Boy.span] at this
      simp only [enum]
      intro h
      rw [List.filter_eq_nil_iff] at h
      cases hvl : vals b.brk with
      | nil => exact this hvl
      | cons a l => rw [hvl] at h; exact h (v.put 4 a) (by simp) (hok _)
    | succ d ih =>
      intro hd v
      have := vne (3 - d) (by omega)
      simp only [enum]
      cases hvl : vals (b.span (3 - d)) with
      | nil => exact absurd hvl this
      | cons a l =>
        rw [List.flatMap_cons]
        intro h
        exact ih (by omega) _ (List.append_eq_nil_iff.1 h).1
  have : ∀ (l : List Boy) (k : Nat), (∀ b ∈ l, boyOk b = true) → (Ts x but l k).all (fun l => !decide (l = [])) = true := by
    intro l
    induction l with
    | nil => intro k _; rfl
    | cons b l ih =>
      intro k hl
      rw [Ts, List.all_cons, ih (k + 1) fun b' hb' => hl b' (.tail _ hb'), Bool.and_true]
      have := hv b (fun v => rightFrom b.loss v k but x.trials 0) (hl b (.head _)) (fun v => hr _ _ _ _ _ fun j _ hj => h j (by simpa using hj)) 4 (Nat.le_refl _) ⟨-1, -1, -1, -1, -1⟩
      rw [Bool.not_eq_true', decide_eq_false_iff_not]
      exact this
  exact this x.boys 0 fun b hb' => List.all_eq_true.1 hb b hb'
theorem wrong_eq (x : Book) : wrongL x = refWrong x := by
  unfold wrongL refWrong
  by_cases hc : checkOk x = true
  · rw [if_pos hc, if_pos hc]
    have g := good_of hc
    have htl := g.tl
    have hpos : 0 < 2 ^ x.trials.length := Nat.two_pow_pos _
    have hfull : ∀ k : Nat, k < x.trials.length → (k : Int) ∈ bitsL (2 ^ x.trials.length - 1) x.trials.length := by
      intro k hk
      rw [bitsL, mem_sel]
      refine ⟨k, rfl, by omega, by omega, ?_⟩
      have h62 : (k : Int) < 62 := by omega
      simp [hasB, h62, Nat.testBit_two_pow_sub_one, hk]
    obtain ⟨⟨f1, f2⟩, _, f3⟩ := fold_best x (List.range' 0 (2 ^ x.trials.length)) (bitsL (2 ^ x.trials.length - 1) x.trials.length) ⟨fine_all x g.boys _ hfull, bits_inc _ _⟩
    generalize (List.range' 0 (2 ^ x.trials.length)).foldl (better x) (bitsL (2 ^ x.trials.length - 1) x.trials.length) = r at *
    have hrl := inc_length x.trials.length r 0 (by omega) (by simpa using f2)
    obtain ⟨m0, hm0, hm1⟩ := choose_least x x.trials.length r.length [] r rfl (by simpa [fromOf] using f2) (by simpa using f1)
    cases hw : wrongFrom x 0 (x.trials.length + 1) with
    | none =>
      have := wrong_none x _ _ hw r.length (by omega) (by omega)
      rw [this] at hm0; cases hm0
    | some m =>
      rw [Option.getD_some]
      obtain ⟨⟨k, _, hk, hch⟩, hmin⟩ := wrong_some x _ _ m hw
      obtain ⟨e, h1, h2, h3, h4⟩ := choose_some x _ _ _ _ hch
      rw [List.nil_append] at h1
      subst h1
      obtain ⟨s, hs, hbs⟩ := inc_bits x.trials.length htl m (by simpa [fromOf] using h3)
      have q1 := f3 s (by rw [List.mem_range'_1]; omega) (by rw [hbs]; exact h4)
      rw [hbs] at q1
      refine shorter_total _ _ q1 ?_
      simp only [shorterL, Bool.or_eq_false_iff, Bool.and_eq_false_iff, decide_eq_false_iff_not]
      have hle : ¬ r.length < m.length := fun h => by
        rw [hmin r.length (by omega) h] at hm0; cases hm0
      refine ⟨hle, ?_⟩
      by_cases hl : r.length = m.length
      · right
        rw [hl, hk, hch] at hm0
        cases hm0
        simpa using hm1
      · exact .inl hl
  · rw [if_neg hc, if_neg hc]
end Go.Ai
