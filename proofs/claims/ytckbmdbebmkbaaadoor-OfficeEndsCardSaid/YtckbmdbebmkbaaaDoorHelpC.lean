/- This text shows what gathering answers. No conditions of its own. -/
import Derived.Test.YtckbmdbebmkbaaaDoorHelpB
set_option linter.unusedSimpArgs false
set_option linter.unusedVariables false
set_option maxRecDepth 100000
namespace Go.Ai
open Go.Least
def gatN : Nat → List Int → Nat
  | s, [] => s
  | s, a :: l => gatN (if 0 ≤ a ∧ a ≤ 61 then s ||| 2 ^ a.toNat else s) l
theorem or_lt (s : Nat) (a : Nat) (hs : s < 2 ^ 62) (ha : a < 62) : s ||| 2 ^ a < 2 ^ 62 := Nat.or_lt_two_pow hs (Nat.pow_lt_pow_right (by decide) ha)
def headG (r : AV) (s k : Int) : Env := mkE 24 .any [(4, I k), (3, I s), (0, r)]
theorem mod_nat {m : Nat} (h : m < 2 ^ 62) : m % 2 ^ IntKind.bits .i64 = m := by
  show m % 2 ^ 64 = m
  omega
theorem pow_lt {m : Nat} (hm : m < 62) : 2 ^ m < 2 ^ 62 := Nat.pow_lt_pow_right (by decide) hm
theorem shl_fact {m : Nat} (hm : m < 62) : IntKind.wrap .i64 ((2 : Int) ^ min m (IntKind.bits .i64)) = ((2 ^ m : Nat) : Int) := by
  have : min m (IntKind.bits .i64) = m := by
    show min m 64 = m
    omega
  have h2 := pow_lt hm
  rw [this, show ((2 : Int) ^ m) = ((2 ^ m : Nat) : Int) from by norm_cast]
  generalize 2 ^ m = P at h2 ⊢
  exact wrap_small (by omega) (by omega)
theorem or_fact {a b : Nat} (ha : a < 2 ^ 62) (hb : b < 2 ^ 62) : IntKind.wrap .i64 ((a ||| b : Nat) : Int) = ((a ||| b : Nat) : Int) := by
  have h : a ||| b < 2 ^ 62 := Nat.or_lt_two_pow ha hb
  exact wrap_small (by omega) (by omega)
theorem and_fact {a b : Nat} (ha : a < 2 ^ 62) : IntKind.wrap .i64 ((a &&& b : Nat) : Int) = ((a &&& b : Nat) : Int) := by
  have : a &&& b ≤ a := Nat.and_le_left
  exact wrap_small (by omega) (by omega)
theorem gatN_bit : ∀ (l : List Int) (s i : Nat), i < 62 → (gatN s l).testBit i = (s.testBit i || decide ((i : Int) ∈ l))
  | [], s, i, hi => by simp [gatN]
  | a :: l, s, i, hi => by
    rw [gatN, gatN_bit l _ i hi]
    by_cases h : 0 ≤ a ∧ a ≤ 61
    · obtain ⟨m, rfl⟩ := Int.eq_ofNat_of_zero_le h.1
      rw [if_pos h, Nat.testBit_or, Nat.testBit_two_pow]
      simp only [Int.toNat_natCast, List.mem_cons, Bool.decide_or, Bool.or_assoc]
      congr 2
      by_cases hmi : m = i
      · simp [hmi]
      · have : ¬ (i : Int) = m := by omega
        simp [hmi, this]
    · have : ¬ (i : Int) = a := by omega
      rw [if_neg h]
      simp [this]
theorem andNot_zero {a b : Nat} (ha : a < 2 ^ 62) (hb : b < 2 ^ 62) (h : ∀ j, j < 62 → a.testBit j = true → b.testBit j = true) : IntKind.wrap .i64 ((a &&& 2 ^ IntKind.bits .i64 - 1 - b % 2 ^ IntKind.bits .i64 : Nat) : Int) = 0 := by
  have e : a &&& 2 ^ IntKind.bits .i64 - 1 - b % 2 ^ IntKind.bits .i64 = 0 := by
    rw [mod_nat hb]
    apply Nat.eq_of_testBit_eq
    intro j
    rw [Nat.testBit_and, Nat.zero_testBit, show 2 ^ IntKind.bits .i64 - 1 - b = 2 ^ 64 - (b + 1) from by show 2 ^ 64 - 1 - b = _; omega, Nat.testBit_two_pow_sub_succ (by omega)]
    by_cases hj : j < 62
    · cases hq : a.testBit j with
      | false => rfl
      | true => rw [h j hj hq]; simp
    · rw [Nat.testBit_lt_two_pow (Nat.lt_of_lt_of_le ha (Nat.pow_le_pow_right (by decide) (by omega)))]; rfl
  rw [e]; rfl
theorem gat_sub {l m : List Int} (ha : gatN 0 l < 2 ^ 62) (hb : gatN 0 m < 2 ^ 62) (h : ∀ j : Nat, (j : Int) ∈ l → (j : Int) ∈ m) : IntKind.wrap .i64 ((gatN 0 l &&& 2 ^ IntKind.bits .i64 - 1 - gatN 0 m % 2 ^ IntKind.bits .i64 : Nat) : Int) = 0 :=
  andNot_zero ha hb fun j hj hq => by
    rw [gatN_bit _ _ _ hj] at hq ⊢
    simp only [Nat.zero_testBit, Bool.false_or, decide_eq_true_eq] at hq ⊢
    exact h j hq
end Go.Ai
