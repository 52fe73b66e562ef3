/- This text shows what gathering answers. No conditions of its own. -/
import Derived.Test.YtknklhodhkohlaaDoorHelpB
set_option linter.unusedSimpArgs false
set_option linter.unusedVariables false
set_option maxRecDepth 100000
namespace Go.Ai
open Go.Least
def gatN : Nat → List Int → Nat
  | s, [] => s
  | s, a :: l => gatN (if 0 ≤ a ∧ a ≤ 61 then s ||| 2 ^ a.toNat else s) l
theorem or_lt (s : Nat) (a : Nat) (hs : s < 2 ^ 62) (ha : a < 62) : s ||| 2 ^ a < 2 ^ 62 := Nat.or_lt_two_pow hs (Nat.pow_lt_pow_right (by decide) ha)
def headG (r : AV) (s k : Int) : Env := mkE 24 .any [(4, I k), (3, I s), (0, r)]
theorem mod_nat {m : Nat} (h : m < 2 ^ 62) : m % 2 ^ IntKind.bits .i64 = m := by
  show m % 2 ^ 64 = m
  omega
theorem pow_lt {m : Nat} (hm : m < 62) : 2 ^ m < 2 ^ 62 := Nat.pow_lt_pow_right (by decide) hm
theorem shl_fact {m : Nat} (hm : m < 62) : IntKind.wrap .i64 ((2 : Int) ^ min m (IntKind.bits .i64)) = ((2 ^ m : Nat) : Int) := by
  have : min m (IntKind.bits .i64) = m := by
    show min m 64 = m
    omega
  have h2 := pow_lt hm
  rw [this, show ((2 : Int) ^ m) = ((2 ^ m : Nat) : Int) from by norm_cast]
  generalize 2 ^ m = P at h2 ⊢
  exact wrap_small (by omega) (by omega)
theorem or_fact {a b : Nat} (ha : a < 2 ^ 62) (hb : b < 2 ^ 62) : IntKind.wrap .i64 ((a ||| b : Nat) : Int) = ((a ||| b : Nat) : Int) := by
  have h : a ||| b < 2 ^ 62 := Nat.or_lt_two_pow ha hb
  exact wrap_small (by omega) (by omega)
theorem and_fact {a b : Nat} (ha : a < 2 ^ 62) : IntKind.wrap .i64 ((a &&& b : Nat) : Int) = ((a &&& b : Nat) : Int) := by
  have : a &&& b ≤ a := Nat.and_le_left
  exact wrap_small (by omega) (by omega)
theorem loopG (l0 : List Int) (r : AV) (hr : IsRow 1 (ints l0) r) (hl : l0.length < 2 ^ 47) : ∀ (l : List Int) (k s : Nat), s < 2 ^ 62 → k ≤ l0.length → l0.drop k = l →
    gatN s l < 2 ^ 62 ∧ ∃ L, run Cv 34 (.loop keep34_0 body34_0) (headG r s k) {} = some (.ex 0, mkE 24 .any L, {}) ∧ gt (mkE 24 .any L) 3 = I (gatN s l)
  | [], k, s, hs, hk, h => by
    obtain rfl := drop_nil hk h
    have h1 := row_len hr
    refine ⟨hs, ?_⟩
    rw [run_loop]
    simp (maxSteps := 10000000) [-List.getD_eq_getElem?_getD, body34_0, keep34_0, headG, h1, gatN]
    exact ⟨_, rfl, by simp (maxSteps := 10000000) [-List.getD_eq_getElem?_getD, ]⟩
  | a :: l, k, s, hs, hk, h => by
    obtain ⟨hlt, ha, hd⟩ := head_drop h
    have hw := wrap_succ hlt hl
    have hlc := lies_call a 0 61
    have hu := hr.under
    obtain ⟨c, hc, rfl⟩ := row_sl hr (by rintro rfl; simp at hlt)
    simp only [ints] at hu
    cases hb : (decide (0 ≤ a) && decide (a ≤ 61)) with
    | false =>
      rw [hb] at hlc
      have hnot : ¬ (0 ≤ a ∧ a ≤ 61) := by simp at hb; omega
      have key : run Cv 34 (.loop keep34_0 body34_0) (headG (.sl 1 (ints l0) c) s k) {} = run Cv 34 (.loop keep34_0 body34_0) (headG (.sl 1 (ints l0) c) s (k + 1)) {} := by
        rw [run_loop]
        generalize MC.loop keep34_0 body34_0 = L
        simp (maxSteps := 10000000) [-List.getD_eq_getElem?_getD, body34_0, keep34_0, headG, ints, hlt, ha, hlc, hw, hu]
      rw [key]
      have := loopG l0 _ hr hl l (k + 1) s hs hlt hd
      rw [gatN, if_neg hnot]
      exact_mod_cast this
    | true =>
      rw [hb] at hlc
      have hyes : 0 ≤ a ∧ a ≤ 61 := by simpa using hb
      obtain ⟨m, rfl⟩ := Int.eq_ofNat_of_zero_le hyes.1
      have hm : m < 62 := by omega
      have h2 := shl_fact hm
      have b1 := mod_nat hs
      have b2 := mod_nat (pow_lt hm)
      have ho := or_fact hs (pow_lt hm)
      have hneg : ¬ (m : Int) < 0 := by omega
      have ih := loopG l0 _ hr hl l (k + 1) (s ||| 2 ^ m) (or_lt s m hs hm) hlt hd
      generalize hP : 2 ^ m = P at *
      have key : run Cv 34 (.loop keep34_0 body34_0) (headG (.sl 1 (ints l0) c) s k) {} = run Cv 34 (.loop keep34_0 body34_0) (headG (.sl 1 (ints l0) c) ((s ||| P : Nat) : Int) (k + 1)) {} := by
        rw [run_loop]
        generalize MC.loop keep34_0 body34_0 = L
        simp (maxSteps := 10000000) [-List.getD_eq_getElem?_getD, body34_0, keep34_0, headG, ints, hlt, ha, hlc, hw, hu, hneg, h2, b1, b2, ho]
      rw [key]
      rw [gatN, if_pos hyes, Int.toNat_natCast, hP]
      exact_mod_cast ih
theorem gather_call (l : List Int) (r : AV) (hr : IsRow 1 (ints l) r) (hl : l.length < 2 ^ 47) : gatN 0 l < 2 ^ 62 ∧ call Cv 34 [r] = some (I (gatN 0 l)) := by
  obtain ⟨h0, L, h, hL⟩ := loopG l r hr hl l 0 0 (by decide) (Nat.zero_le _) rfl
  have h' : ∀ E : Env, mask keep34_0 E = headG r (0 : Nat) (0 : Nat) → run Cv 34 (.loop keep34_0 body34_0) E {} = some (.ex 0, mkE 24 .any L, {}) := fun E hE => by rw [run_loop_mask, hE]; exact h
  simp only [keep34_0, headG] at h'
  refine ⟨h0, ?_⟩
  rw [call_run comp34 (Nat.le_of_ble_eq_true rfl)]
  simp (maxSteps := 10000000) [-List.getD_eq_getElem?_getD, code34, keep34_0, h', hL]
theorem gatN_bit : ∀ (l : List Int) (s i : Nat), i < 62 → (gatN s l).testBit i = (s.testBit i || decide ((i : Int) ∈ l))
  | [], s, i, hi => by simp [gatN]
  | a :: l, s, i, hi => by
    rw [gatN, gatN_bit l _ i hi]
    by_cases h : 0 ≤ a ∧ a ≤ 61
    · obtain ⟨m, rfl⟩ := Int.eq_ofNat_of_zero_le h.1
      rw [if_pos h, Nat.testBit_or, Nat.testBit_two_pow]
      simp only [Int.toNat_natCast, List.mem_cons, Bool.decide_or, Bool.or_assoc]
      congr 2
      by_cases hmi : m = i
      · simp [hmi]
      · have : ¬ (i : Int) = m := by omega
        simp [hmi, this]
    · have : ¬ (i : Int) = a := by omega
      rw [if_neg h]
      simp [this]
theorem andNot_zero {a b : Nat} (ha : a < 2 ^ 62) (hb : b < 2 ^ 62) (h : ∀ j, j < 62 → a.testBit j = true → b.testBit j = true) : IntKind.wrap .i64 ((a &&& 2 ^ IntKind.bits .i64 - 1 - b % 2 ^ IntKind.bits .i64 : Nat) : Int) = 0 := by
  have e : a &&& 2 ^ IntKind.bits .i64 - 1 - b % 2 ^ IntKind.bits .i64 = 0 := by
    rw [mod_nat hb]
    apply Nat.eq_of_testBit_eq
    intro j
    rw [Nat.testBit_and, Nat.zero_testBit, show 2 ^ IntKind.bits .i64 - 1 - b = 2 ^ 64 - (b + 1) from by show 2 ^ 64 - 1 - b = _; omega, Nat.testBit_two_pow_sub_succ (by omega)]
    by_cases hj : j < 62
    · cases hq : a.testBit j with
      | false => rfl
      | true => rw [h j hj hq]; simp
    · rw [Nat.testBit_lt_two_pow (Nat.lt_of_lt_of_le ha (Nat.pow_le_pow_right (by decide) (by omega)))]; rfl
  rw [e]; rfl
theorem gat_sub {l m : List Int} (ha : gatN 0 l < 2 ^ 62) (hb : gatN 0 m < 2 ^ 62) (h : ∀ j : Nat, (j : Int) ∈ l → (j : Int) ∈ m) : IntKind.wrap .i64 ((gatN 0 l &&& 2 ^ IntKind.bits .i64 - 1 - gatN 0 m % 2 ^ IntKind.bits .i64 : Nat) : Int) = 0 :=
  andNot_zero ha hb fun j hj hq => by
    rw [gatN_bit _ _ _ hj] at hq ⊢
    simp only [Nat.zero_testBit, Bool.false_or, decide_eq_true_eq] at hq ⊢
    exact h j hq
end Go.Ai
