/- This text shows what the helpers of the outright laws answer. No conditions of its own. -/
import Derived.Test.YtcndfpjjcbjhpaaDoorRefC
set_option linter.unusedSimpArgs false
set_option linter.unusedVariables false
set_option maxRecDepth 100000
set_option linter.unusedSimpArgs false
set_option linter.unusedVariables false
namespace Go.Ai
/-! ### Numbers that choose -/
def turnI (n b : Int) : Int := if b < 1 then 0 else n % b
theorem turn_call (n b : Int) (hb : b ≤ 2 ^ 62) : call Cv 42 [I n, I b] = some (I (turnI n b)) := by
  rw [call_def comp42]
  by_cases h : b < 1
  · simp [code42, h, turnI]
  · have h0 : ¬ b = 0 := by omega
    have ht : n.tmod b = n % b - if 0 ≤ n ∨ b ∣ n then 0 else b := by
      rw [Int.tmod_eq_emod]
      split
      · rfl
      · rw [Int.natAbs_of_nonneg (by omega)]
    have hs := Int.emod_nonneg n h0
    have hl := Int.emod_lt_of_pos n (show 0 < b by omega)
    by_cases hr : n.tmod b < 0
    · have hw : IntKind.wrap .i64 (n.tmod b + b) = n % b := by
        rw [wrap_small (by split at ht <;> omega) (by split at ht <;> omega), ht]
        split at ht
        · omega
        · split <;> omega
      simp [code42, h, h0, hr, hw, turnI]
    · have : n.tmod b = n % b := by
        split at ht
        · omega
        · omega
      rw [this] at hr
      simp [code42, h, h0, this, hr, turnI]
theorem turn_range (n b : Int) (h : 1 ≤ b) : 0 ≤ turnI n b ∧ turnI n b < b := by
  rw [turnI, if_neg (by omega)]
  exact ⟨Int.emod_nonneg n (by omega), Int.emod_lt_of_pos n (by omega)⟩
def nthI (l : List Int) (n : Int) : Int := l.getD (turnI n l.length).toNat 0
theorem nth_call (l : List Int) (r : AV) (hr : IsRow 1 (ints l) r) (hl : l.length < 2 ^ 47) (n : Int) : call Cv 91 [r, I n] = some (I (nthI l n)) := by
  have h1 : lenA r = some (I l.length) := by rw [hr.len]; simp [ints]
  have ht := turn_call n l.length (by omega)
  rw [call_def comp91]
  by_cases h : l = []
  · simp [code91, h1, h, nthI]
  · have hpos : 0 < l.length := List.length_pos_iff.2 h
    have hnr : ∃ c, c.pure = c ∧ r = .sl 1 (ints l) c := by
      rcases hr with ⟨_, h'⟩ | h'
      · exact absurd (by simpa [ints] using h') h
      · exact h'
    obtain ⟨c, hc, rfl⟩ := hnr
    have hg := turn_range n l.length (by omega)
    have hz : ¬ (l.length : Int) = 0 := by omega
    obtain ⟨m, hm⟩ : ∃ m : Nat, turnI n l.length = m := ⟨(turnI n l.length).toNat, by omega⟩
    have hml : m < l.length := by omega
    rw [hm] at ht
    simp [code91, h, ints, ht, nthI, hm, hml]
def drawI (s : Span) (n : Int) : Int := s.low + turnI n (s.high - s.low + 1)
theorem draw_call (s : Span) (n : Int) (h0 : 0 ≤ s.low) (h1 : s.low ≤ s.high) (h2 : s.high ≤ 1000) : call Cv 90 [s.av, I n] = some (I (drawI s n)) := by
  have ht := turn_call n (s.high - s.low + 1) (by omega)
  have hg := turn_range n (s.high - s.low + 1) (by omega)
  have w1 : IntKind.wrap .i64 (s.high - s.low) = s.high - s.low := wrap_small (by omega) (by omega)
  have w2 : IntKind.wrap .i64 (s.high - s.low + 1) = s.high - s.low + 1 := wrap_small (by omega) (by omega)
  have w3 : IntKind.wrap .i64 (s.low + turnI n (s.high - s.low + 1)) = drawI s n := wrap_small (by omega) (by omega)
  rw [call_def comp90]
  simp [code90, Span.av, ht, w1, w2, w3]
theorem draw_range (s : Span) (n : Int) (h1 : s.low ≤ s.high) : s.low ≤ drawI s n ∧ drawI s n ≤ s.high := by
  have hg := turn_range n (s.high - s.low + 1) (by omega)
  unfold drawI
  omega
def covB (s : Span) (n : Int) : Bool := decide (s.low ≤ n) && decide (n ≤ s.high)
theorem cov_call (s : Span) (n : Int) : call Cv 43 [s.av, I n] = some (.bool (covB s n)) := by
  have h := lies_call n s.low s.high
  rw [call_def comp43]
  simp [code43, Span.av, h, covB]
def undB (s t : Span) : Bool := decide (t.low ≤ s.low) && decide (s.high ≤ t.high)
theorem und_call (s t : Span) : call Cv 48 [s.av, t.av] = some (.bool (undB s t)) := by
  rw [call_def comp48]
  by_cases h : t.low ≤ s.low
  · simp [code48, Span.av, undB, h]
  · simp [code48, Span.av, undB, h]
end Go.Ai

set_option maxRecDepth 100000
set_option linter.unusedSimpArgs false
set_option linter.unusedVariables false
namespace Go.Ai
theorem row_sl {l : List Int} {r : AV} (hr : IsRow 1 (ints l) r) (h : l ≠ []) : ∃ c : Cap, c.pure = c ∧ r = .sl 1 (ints l) c := by
  rcases hr with ⟨_, h'⟩ | h'
  · exact absurd (by simpa [ints] using h') h
  · exact h'
theorem head_drop {l0 l : List Int} {a : Int} {k : Nat} (h : l0.drop k = a :: l) : ∃ hlt : k < l0.length, l0[k] = a ∧ l0.drop (k + 1) = l := by
  have hb : l0[k]? = some a := by
    have : (l0.drop k)[0]? = some a := by rw [h]; rfl
    simpa using this
  exact ⟨(List.getElem?_eq_some_iff.1 hb).1, (List.getElem?_eq_some_iff.1 hb).2, by rw [← List.drop_drop, h]; rfl⟩
/-! ### Where a number is -/
def head53 (r : AV) (n k : Int) : Env := [r, I n, .any, .any, .any, I k] ++ List.replicate 13 .any
theorem loop53 (l0 : List Int) (r : AV) (hr : IsRow 1 (ints l0) r) (hl : l0.length < 2 ^ 47) (v : Int) : ∀ (l : List Int) (k : Nat), k ≤ l0.length → l0.drop k = l →
    ∃ e c, run Cv 53 (.loop keep53_0 body53_0) (head53 r v k) {} = some (c, e, {}) ∧ e.length = 19 ∧ ((c = .ex 0 ∧ idx v l k = -1) ∨ (c = .rt ∧ e[4]? = some (I (idx v l k))))
  | [], k, hk, h => by
    have : k = l0.length := Nat.le_antisymm hk (by simpa using h)
    subst this
    have h1 : lenA r = some (I l0.length) := by rw [hr.len]; simp [ints]
    have key : ∃ e, run Cv 53 (.loop keep53_0 body53_0) (head53 r v l0.length) {} = some (.ex 0, e, {}) ∧ e.length = 19 := by
      rw [run_loop]
      simp [body53_0, keep53_0, head53, h1]
    obtain ⟨e, k1, k2⟩ := key
    exact ⟨e, _, k1, k2, .inl ⟨rfl, rfl⟩⟩
  | a :: l, k, hk, h => by
    obtain ⟨hlt, ha, hd⟩ := head_drop h
    have hw : IntKind.wrap .i64 ((k : Int) + 1) = k + 1 := wrap_small (by omega) (by omega)
    have hu := hr.under
    obtain ⟨c, hc, rfl⟩ := row_sl hr (by rintro rfl; simp at hlt)
    simp only [ints] at hu
    by_cases hv : v = a
    · have key : ∃ e, run Cv 53 (.loop keep53_0 body53_0) (head53 (.sl 1 (ints l0) c) v k) {} = some (.rt, e, {}) ∧ e.length = 19 ∧ e[4]? = some (I k) := by
        rw [run_loop]
        simp [body53_0, keep53_0, head53, ints, hlt, ha, hv]
      obtain ⟨e, k1, k2, k3⟩ := key
      exact ⟨e, _, k1, k2, .inr ⟨rfl, by rw [k3]; simp [idx, hv]⟩⟩
    · have hv' : ¬ a = v := fun h => hv h.symm
      have key : run Cv 53 (.loop keep53_0 body53_0) (head53 (.sl 1 (ints l0) c) v k) {} = run Cv 53 (.loop keep53_0 body53_0) (head53 (.sl 1 (ints l0) c) v (k + 1)) {} := by
        rw [run_loop]
        generalize MC.loop keep53_0 body53_0 = L
        simp [body53_0, keep53_0, head53, ints, hlt, ha, hv', hw, hu]
      rw [key]
      have := loop53 l0 _ hr hl v l (k + 1) hlt hd
      simpa [idx, hv] using this
theorem where_call (l : List Int) (r : AV) (hr : IsRow 1 (ints l) r) (hl : l.length < 2 ^ 47) (v : Int) : call Cv 53 [r, I v] = some (I (idx v l 0)) := by
  obtain ⟨e, c, h1, h2, h3⟩ := loop53 l r hr hl v l 0 (Nat.zero_le _) rfl
  rw [call_def comp53]
  simp [code53]
  rw [run_loop_mask, show mask keep53_0 _ = head53 r v (0 : Nat) from by simp [keep53_0, head53]]
  rw [h1]
  rcases h3 with ⟨rfl, h3⟩ | ⟨rfl, h3⟩
  · simp [h2, h3]
  · simp [h3]
/-! ### Increasing lists -/
def ordF (T : Int) : Int → List Int → Bool
  | _, [] => true
  | p, a :: l => (decide (0 ≤ a) && decide (a ≤ T - 1)) && decide (p < a) && ordF T a l
def prevI (l0 : List Int) (k : Nat) : Int := if k = 0 then -1 else l0.getD (k - 1) 0
def head46 (r : AV) (n k : Int) : Env := [r, I n, .any, .any, .any, I k] ++ List.replicate 30 .any
theorem loop46 (l0 : List Int) (r : AV) (hr : IsRow 1 (ints l0) r) (hl : l0.length < 2 ^ 47) (T : Int) (hT : 0 ≤ T) (hT' : T < 2 ^ 62) : ∀ (l : List Int) (k : Nat), k ≤ l0.length → l0.drop k = l →
    ∃ e c, run Cv 46 (.loop keep46_0 body46_0) (head46 r T k) {} = some (c, e, {}) ∧ e.length = 36 ∧ ((c = .ex 0 ∧ ordF T (prevI l0 k) l = true) ∨ (c = .rt ∧ ordF T (prevI l0 k) l = false ∧ e[4]? = some (.bool false)))
  | [], k, hk, h => by
    have : k = l0.length := Nat.le_antisymm hk (by simpa using h)
    subst this
    have h1 : lenA r = some (I l0.length) := by rw [hr.len]; simp [ints]
    have key : ∃ e, run Cv 46 (.loop keep46_0 body46_0) (head46 r T l0.length) {} = some (.ex 0, e, {}) ∧ e.length = 36 := by
      rw [run_loop]
      simp [body46_0, keep46_0, head46, h1]
    obtain ⟨e, k1, k2⟩ := key
    exact ⟨e, _, k1, k2, .inl ⟨rfl, rfl⟩⟩
  | a :: l, k, hk, h => by
    obtain ⟨hlt, ha, hd⟩ := head_drop h
    have hw : IntKind.wrap .i64 ((k : Int) + 1) = k + 1 := wrap_small (by omega) (by omega)
    have hw2 : IntKind.wrap .i64 (T - 1) = T - 1 := wrap_small (by omega) (by omega)
    have hlc := lies_call a 0 (T - 1)
    have hu := hr.under
    have hnx : prevI l0 (k + 1) = a := by simp [prevI, ha, hlt]
    obtain ⟨c, hc, rfl⟩ := row_sl hr (by rintro rfl; simp at hlt)
    simp only [ints] at hu
    cases hb : (decide (0 ≤ a) && decide (a ≤ T - 1)) with
    | false =>
      rw [hb] at hlc
      have key : ∃ e, run Cv 46 (.loop keep46_0 body46_0) (head46 (.sl 1 (ints l0) c) T k) {} = some (.rt, e, {}) ∧ e.length = 36 ∧ e[4]? = some (.bool false) := by
        rw [run_loop]
        simp [body46_0, keep46_0, head46, ints, hlt, ha, hw2, hlc]
      obtain ⟨e, k1, k2, k3⟩ := key
      exact ⟨e, _, k1, k2, .inr ⟨rfl, by simp only [ordF, hb, Bool.false_and], k3⟩⟩
    | true =>
      rw [hb] at hlc
      by_cases hk0 : k = 0
      · subst hk0
        have hp : prevI l0 0 < a := by
          have : 0 ≤ a := by simp at hb; omega
          simp [prevI]; omega
        have hw1 : IntKind.wrap .i64 1 = 1 := by decide
        have key : run Cv 46 (.loop keep46_0 body46_0) (head46 (.sl 1 (ints l0) c) T (0 : Nat)) {} = run Cv 46 (.loop keep46_0 body46_0) (head46 (.sl 1 (ints l0) c) T ((0 : Nat) + 1)) {} := by
          rw [run_loop]
          generalize MC.loop keep46_0 body46_0 = L
          simp [body46_0, keep46_0, head46, ints, hlt, ha, hw2, hlc, hw1, hu]
        rw [key]
        have := loop46 l0 _ hr hl T hT hT' l 1 hlt hd
        rw [hnx] at this
        simp only [ordF, hb, hp, decide_true, Bool.true_and]
        exact this
      · have hkp : 0 < k := by omega
        have hw3 : IntKind.wrap .i64 ((k : Int) - 1) = ((k - 1 : Nat) : Int) := by rw [wrap_small (by omega) (by omega)]; omega
        have hlt' : k - 1 < l0.length := by omega
        have hpv : prevI l0 k = l0[k - 1] := by simp [prevI, hk0, hlt']
        by_cases hp : a ≤ l0[k - 1]
        · have key : ∃ e, run Cv 46 (.loop keep46_0 body46_0) (head46 (.sl 1 (ints l0) c) T k) {} = some (.rt, e, {}) ∧ e.length = 36 ∧ e[4]? = some (.bool false) := by
            rw [run_loop]
            simp [body46_0, keep46_0, head46, ints, hlt, ha, hw2, hlc, hkp, hw3, hlt', hp]
          obtain ⟨e, k1, k2, k3⟩ := key
          have : ¬ l0[k - 1] < a := by omega
          exact ⟨e, _, k1, k2, .inr ⟨rfl, by simp only [ordF, hpv, this, decide_false, Bool.and_false, Bool.false_and], k3⟩⟩
        · have key : run Cv 46 (.loop keep46_0 body46_0) (head46 (.sl 1 (ints l0) c) T k) {} = run Cv 46 (.loop keep46_0 body46_0) (head46 (.sl 1 (ints l0) c) T (k + 1)) {} := by
            rw [run_loop]
            generalize MC.loop keep46_0 body46_0 = L
            simp [body46_0, keep46_0, head46, ints, hlt, ha, hw2, hlc, hkp, hw3, hlt', hp, hw, hu]
          rw [key]
          have := loop46 l0 _ hr hl T hT hT' l (k + 1) hlt hd
          rw [hnx] at this
          have hp' : l0[k - 1] < a := by omega
          simp only [ordF, hb, hpv, hp', decide_true, Bool.true_and]
          exact this
theorem ord_call (l : List Int) (r : AV) (hr : IsRow 1 (ints l) r) (hl : l.length < 2 ^ 47) (T : Int) (hT : 0 ≤ T) (hT' : T < 2 ^ 62) : call Cv 46 [r, I T] = some (.bool (ordF T (-1) l)) := by
  obtain ⟨e, c, h1, h2, h3⟩ := loop46 l r hr hl T hT hT' l 0 (Nat.zero_le _) rfl
  have hp : prevI l 0 = -1 := rfl
  rw [hp] at h3
  rw [call_def comp46]
  simp [code46]
  rw [run_loop_mask, show mask keep46_0 _ = head46 r T (0 : Nat) from by simp [keep46_0, head46]]
  rw [h1]
  rcases h3 with ⟨rfl, h3⟩ | ⟨rfl, h3, h4⟩
  · simp [h2, h3]
  · simp [h3, h4]
/-! ### Sets of small numbers -/
def gatN : Nat → List Int → Nat
  | s, [] => s
  | s, a :: l => gatN (if 0 ≤ a ∧ a ≤ 61 then s ||| 2 ^ a.toNat else s) l
theorem or_nat (m n : Nat) (hm : m < 2 ^ 62) (hn : n < 2 ^ 62) : IntKind.wrap .i64 ((BitVec.ofNat 64 m ||| BitVec.ofNat 64 n).toNat : Int) = ((m ||| n : Nat) : Int) := by
  have h : m ||| n < 2 ^ 62 := Nat.or_lt_two_pow hm hn
  have e : (BitVec.ofNat 64 m ||| BitVec.ofNat 64 n).toNat = m ||| n := by
    rw [BitVec.toNat_or, BitVec.toNat_ofNat, BitVec.toNat_ofNat, Nat.mod_eq_of_lt (by omega), Nat.mod_eq_of_lt (by omega)]
  rw [e]
  exact wrap_small (by omega) (by omega)
theorem or_lt (s : Nat) (a : Nat) (hs : s < 2 ^ 62) (ha : a < 62) : s ||| 2 ^ a < 2 ^ 62 := Nat.or_lt_two_pow hs (Nat.pow_lt_pow_right (by decide) ha)
def head50 (r : AV) (s k : Int) : Env := [r, .any, .any, I s, I k] ++ List.replicate 19 .any
theorem loop50 (l0 : List Int) (r : AV) (hr : IsRow 1 (ints l0) r) (hl : l0.length < 2 ^ 47) : ∀ (l : List Int) (k s : Nat), s < 2 ^ 62 → k ≤ l0.length → l0.drop k = l →
    gatN s l < 2 ^ 62 ∧ ∃ e, run Cv 50 (.loop keep50_0 body50_0) (head50 r s k) {} = some (.ex 0, e, {}) ∧ e.length = 24 ∧ e[3]? = some (I (gatN s l))
  | [], k, s, hs, hk, h => by
    have : k = l0.length := Nat.le_antisymm hk (by simpa using h)
    subst this
    have h1 : lenA r = some (I l0.length) := by rw [hr.len]; simp [ints]
    refine ⟨hs, ?_⟩
    rw [run_loop]
    simp [body50_0, keep50_0, head50, h1, gatN]
  | a :: l, k, s, hs, hk, h => by
    obtain ⟨hlt, ha, hd⟩ := head_drop h
    have hw : IntKind.wrap .i64 ((k : Int) + 1) = k + 1 := wrap_small (by omega) (by omega)
    have hlc := lies_call a 0 61
    have hu := hr.under
    obtain ⟨c, hc, rfl⟩ := row_sl hr (by rintro rfl; simp at hlt)
    simp only [ints] at hu
    cases hb : (decide (0 ≤ a) && decide (a ≤ 61)) with
    | false =>
      rw [hb] at hlc
      have hnot : ¬ (0 ≤ a ∧ a ≤ 61) := by simp at hb; omega
      have key : run Cv 50 (.loop keep50_0 body50_0) (head50 (.sl 1 (ints l0) c) s k) {} = run Cv 50 (.loop keep50_0 body50_0) (head50 (.sl 1 (ints l0) c) s (k + 1)) {} := by
        rw [run_loop]
        generalize MC.loop keep50_0 body50_0 = L
        simp [body50_0, keep50_0, head50, ints, hlt, ha, hlc, hw, hu]
      rw [key]
      have := loop50 l0 _ hr hl l (k + 1) s hs hlt hd
      rw [gatN, if_neg hnot]
      exact_mod_cast this
    | true =>
      rw [hb] at hlc
      have hyes : 0 ≤ a ∧ a ≤ 61 := by simpa using hb
      obtain ⟨m, rfl⟩ := Int.eq_ofNat_of_zero_le hyes.1
      have hm : m < 62 := by omega
      have hmin : min m (IntKind.bits .i64) = m := by
        show min m 64 = m
        omega
      have h2 : (2 : Nat) ^ m < 2 ^ 62 := Nat.pow_lt_pow_right (by decide) hm
      have hw2 : IntKind.wrap .i64 ((2 : Int) ^ m) = ((2 ^ m : Nat) : Int) := by
        rw [wrap_small]
        · norm_cast
        · have : (0 : Int) ≤ 2 ^ m := Int.le_of_lt (Int.pow_pos (by decide)); omega
        · have : ((2 ^ m : Nat) : Int) < 2 ^ 62 := by exact_mod_cast h2
          push_cast at this; omega
      have ho : IntKind.wrap .i64 ((s % 2 ^ IntKind.bits .i64 ||| ((2 : Int) ^ m % 2 ^ IntKind.bits .i64).toNat : Nat) : Int) = ((s ||| 2 ^ m : Nat) : Int) := by
        have e : (2 : Int) ^ m = ((2 ^ m : Nat) : Int) := by norm_cast
        have e1 : s % 2 ^ IntKind.bits .i64 = s := Nat.mod_eq_of_lt (by show s < 2 ^ 64; omega)
        have e2 : ((2 : Int) ^ m % 2 ^ IntKind.bits .i64).toNat = 2 ^ m := by
          show ((2 : Int) ^ m % 2 ^ 64).toNat = 2 ^ m
          rw [e]
          have hn : (0 : Int) ≤ ((2 ^ m : Nat) : Int) := Int.natCast_nonneg _
          have hl : ((2 ^ m : Nat) : Int) < 2 ^ 62 := by exact_mod_cast h2
          generalize (2 : Nat) ^ m = z at *
          omega
        have := or_lt s m hs hm
        rw [e1, e2, wrap_small (by omega) (by omega)]
      have hneg : ¬ (m : Int) < 0 := by omega
      have key : run Cv 50 (.loop keep50_0 body50_0) (head50 (.sl 1 (ints l0) c) s k) {} = run Cv 50 (.loop keep50_0 body50_0) (head50 (.sl 1 (ints l0) c) ((s ||| 2 ^ m : Nat) : Int) (k + 1)) {} := by
        rw [run_loop]
        generalize MC.loop keep50_0 body50_0 = L
        simp [body50_0, keep50_0, head50, ints, hlt, ha, hlc, hw, hu, hneg, hmin, hw2, ho]
      rw [key]
      have := loop50 l0 _ hr hl l (k + 1) (s ||| 2 ^ m) (or_lt s m hs hm) hlt hd
      rw [gatN, if_pos hyes, Int.toNat_natCast]
      exact_mod_cast this
theorem gather_call (l : List Int) (r : AV) (hr : IsRow 1 (ints l) r) (hl : l.length < 2 ^ 47) : gatN 0 l < 2 ^ 62 ∧ call Cv 50 [r] = some (I (gatN 0 l)) := by
  obtain ⟨h0, e, h1, h2, h3⟩ := loop50 l r hr hl l 0 0 (by decide) (Nat.zero_le _) rfl
  refine ⟨h0, ?_⟩
  rw [call_def comp50]
  simp [code50]
  rw [run_loop_mask, show mask keep50_0 _ = head50 r (0 : Nat) (0 : Nat) from by simp [keep50_0, head50]]
  rw [h1]
  have k3 : ∀ h : 3 < e.length, e[3] = I (gatN 0 l) := fun h => (List.getElem?_eq_some_iff.1 h3).2
  simp [k3, h2]
theorem gatN_bit : ∀ (l : List Int) (s i : Nat), i < 62 → (gatN s l).testBit i = (s.testBit i || decide ((i : Int) ∈ l))
  | [], s, i, hi => by simp [gatN]
  | a :: l, s, i, hi => by
    rw [gatN, gatN_bit l _ i hi]
    by_cases h : 0 ≤ a ∧ a ≤ 61
    · obtain ⟨m, rfl⟩ := Int.eq_ofNat_of_zero_le h.1
      rw [if_pos h, Nat.testBit_or, Nat.testBit_two_pow]
      simp only [Int.toNat_natCast, List.mem_cons, Bool.decide_or, Bool.or_assoc]
      congr 2
      by_cases hmi : m = i
      · simp [hmi]
      · have : ¬ (i : Int) = m := by omega
        simp [hmi, this]
    · have : ¬ (i : Int) = a := by omega
      rw [if_neg h]
      simp [this]
end Go.Ai

set_option maxRecDepth 100000
set_option linter.unusedSimpArgs false
set_option linter.unusedVariables false
namespace Go.Ai
theorem get_some {e : Env} {i : Nat} {v : AV} (h : e[i]? = some v) : ∀ h' : i < e.length, e[i] = v := fun _ => (List.getElem?_eq_some_iff.1 h).2
/-! ### small -/
def head39 (k : Int) : Env := [.any, .box 0 0, .any, .bool true, I k] ++ List.replicate 102 .any
def tail39 (k : Int) : Env := [.any, .box 0 0, .any, .bool true, .any, .any, I k] ++ List.replicate 100 .any
theorem loop39 (x : Book) (hx : x.Ok) (hb : x.boys.all boyOk = true) : ∀ (l : List Boy) (k : Nat), k ≤ x.boys.length → x.boys.drop k = l →
    ∃ e, run Cv 39 (.loop keep39_0 body39_0) (head39 k) { boxes := [x.cells] } = some (.ex 0, e, { boxes := [x.cells] }) ∧ mask keep39_1 (e.set 6 (I 0)) = tail39 0
  | [], k, hk, h => by
    have : k = x.boys.length := Nat.le_antisymm hk (by simpa using h)
    subst this
    refine ⟨_, by rw [run_loop]; simp [body39_0, keep39_0, head39, Book.cells, hx.lenB]; rfl, ?_⟩
    simp [keep39_1, tail39]
  | b :: l, k, hk, h => by
    have hb' : x.boys[k]? = some b := by
      have : (x.boys.drop k)[0]? = some b := by rw [h]; rfl
      simpa using this
    have hlt : k < x.boys.length := (List.getElem?_eq_some_iff.1 hb').1
    have hbb : x.boys[k] = b := (List.getElem?_eq_some_iff.1 hb').2
    have hlen := hx.blen
    have hn : x.bnil ≠ .nil := fun hn => by rw [hx.boys hn] at hlt; simp at hlt
    have hrow : rowV 11 (x.boys.map Boy.av) x.bnil = .sl 11 (x.boys.map Boy.av) x.bnil.cap := rowV_some hn
    have hw : IntKind.wrap .i64 ((k : Int) + 1) = k + 1 := wrap_small (by omega) (by omega)
    have ho := List.all_eq_true.1 hb b (List.mem_of_getElem? hb')
    rw [← rBoyOk_eq] at ho
    simp only [rBoyOk, Bool.and_eq_true, decide_eq_true_eq] at ho
    obtain ⟨s1, s2, s3, s4, s5, s6, s7⟩ := ho
    have key : run Cv 39 (.loop keep39_0 body39_0) (head39 k) { boxes := [x.cells] } = run Cv 39 (.loop keep39_0 body39_0) (head39 (k + 1)) { boxes := [x.cells] } := by
      rw [run_loop]
      generalize MC.loop keep39_0 body39_0 = L
      simp [body39_0, keep39_0, head39, hrow, Book.cells, Boy.av, Boy.cells, fair_call, fair_span, lies_call, hw, hlt, underL, under, hbb, s1, s2, s3, s4, s5, s6, s7]
    rw [key]
    exact loop39 x hx hb l (k + 1) hlt (by rw [← List.drop_drop, h]; rfl)
theorem loop39' (x : Book) (hx : x.Ok) (hc : checkOk x = true) : ∀ (l : List Trial) (k : Nat), k ≤ x.trials.length → x.trials.drop k = l →
    ∃ e, run Cv 39 (.loop keep39_1 body39_1) (tail39 k) { boxes := [x.cells] } = some (.ex 2, e, { boxes := [x.cells] }) ∧ e[3]? = some (.bool true) ∧ e.length = 107
  | [], k, hk, h => by
    have : k = x.trials.length := Nat.le_antisymm hk (by simpa using h)
    subst this
    refine ⟨_, by rw [run_loop]; simp [body39_1, keep39_1, tail39, Book.cells, hx.lenT]; rfl, ?_⟩
    simp
  | t :: l, k, hk, h => by
    have hb' : x.trials[k]? = some t := by
      have : (x.trials.drop k)[0]? = some t := by rw [h]; rfl
      simpa using this
    have hlt : k < x.trials.length := (List.getElem?_eq_some_iff.1 hb').1
    have hbb : x.trials[k] = t := (List.getElem?_eq_some_iff.1 hb').2
    have hlen := hx.tlen
    have hlenB := hx.lenB
    have g := good_of hc
    have hn : x.tnil ≠ .nil := fun hn => by rw [hx.trials hn] at hlt; simp at hlt
    have hrow : rowV 4 (x.trials.map Trial.av) x.tnil = .sl 4 (x.trials.map Trial.av) x.tnil.cap := rowV_some hn
    have hw : IntKind.wrap .i64 ((k : Int) + 1) = k + 1 := wrap_small (by omega) (by omega)
    have hbl := hx.blen
    have hwb : IntKind.wrap .i64 ((x.boys.length : Int) - 1) = x.boys.length - 1 := wrap_small (by omega) (by omega)
    have ho : trialOk x t = true := List.all_eq_true.1 g.tr t (List.mem_of_getElem? hb')
    simp only [trialOk, Bool.and_eq_true, decide_eq_true_eq] at ho
    have q1 : t.boy ≤ (x.boys.length : Int) - 1 := by omega
    have key : run Cv 39 (.loop keep39_1 body39_1) (tail39 k) { boxes := [x.cells] } = run Cv 39 (.loop keep39_1 body39_1) (tail39 (k + 1)) { boxes := [x.cells] } := by
      rw [run_loop]
      generalize MC.loop keep39_1 body39_1 = L
      simp [body39_1, keep39_1, tail39, hrow, Book.cells, Trial.av, lies_call, hw, hlt, underL, under, hbb, hlenB, hwb, ho, q1]
    rw [key]
    exact loop39' x hx hc l (k + 1) hlt (by rw [← List.drop_drop, h]; rfl)
theorem small_call (x : Book) (hx : x.Ok) : call Cv 39 [x.av] = some (.bool (checkOk x)) := by
  have h1 := check_call x hx
  simp only [Book.av, Book.cells] at h1
  cases hc : checkOk x with
  | false =>
    rw [hc] at h1
    rw [call_def comp39]
    simp [code39, Book.av, Book.cells, h1]
    rw [run_loop]
    simp [body39_0, keep39_0]
    rw [run_loop]
    simp [body39_1, keep39_1]
  | true =>
    rw [hc] at h1
    have g := good_of hc
    obtain ⟨e, l1, l2⟩ := loop39 x hx g.boys x.boys 0 (Nat.zero_le _) rfl
    obtain ⟨e', l3, l4, l5⟩ := loop39' x hx hc x.trials 0 (Nat.zero_le _) rfl
    simp only [Book.cells, Int.natCast_zero] at l1 l3
    have hlb := hx.lenB
    have hlt := hx.lenT
    have q0 : 1 ≤ (x.boys.length : Int) := by have := g.bl1; omega
    have q1 : (x.boys.length : Int) ≤ 4 := by have := g.bl; omega
    have q2 : 1 ≤ x.weeks ∧ x.weeks ≤ 6 := ⟨g.w1, g.w6⟩
    have q3 : (x.trials.length : Int) ≤ 6 := by have := g.tl; omega
    rw [call_def comp39]
    simp [code39, Book.av, Book.cells, h1, hlb, hlt, lies_call, q0, q1, q2, q3]
    rw [run_loop_mask, show mask keep39_0 _ = head39 0 from by simp [keep39_0, head39]]
    rw [l1]
    simp
    rw [run_loop_mask, l2, l3]
    have k3 := get_some l4
    simp [k3, l5]
end Go.Ai

set_option maxRecDepth 100000
set_option linter.unusedSimpArgs false
set_option linter.unusedVariables false
namespace Go.Ai
/-! ### What truly is so -/
structure Kn where
  low : Int
  brk : Int
  tops : List Int
def Kn.av (k : Kn) : AV := .agg [I k.low, I k.brk, .sl 1 (ints k.tops) .no]
def Kn.sings (k : Kn) (week note : Int) : Bool := decide (week < k.brk) && (decide (k.low ≤ note) && decide (note ≤ k.tops.getD week.toNat 0))
theorem kn_sings_call (k : Kn) (week note : Int) (h0 : 0 ≤ week) (h1 : week < k.tops.length) : call Cv 45 [k.av, I week, I note] = some (.bool (k.sings week note)) := by
  obtain ⟨w, rfl⟩ := Int.eq_ofNat_of_zero_le h0
  have hw : w < k.tops.length := by omega
  have hl := lies_call note k.low k.tops[w]
  rw [call_def comp45]
  by_cases h : (w : Int) < k.brk
  · simp [code45, Kn.av, ints, h, hw, hl, Kn.sings]
  · simp [code45, Kn.av, ints, h, hw, hl, Kn.sings]
def topsF (gain turn loss : Int) : Int → Nat → Nat → List Int
  | _, _, 0 => []
  | now, w, n + 1 => now :: topsF gain turn loss (if (w : Int) < turn then now + gain else now - loss) (w + 1) n
theorem topsF_len (gain turn loss : Int) : ∀ (n : Nat) (now : Int) (w : Nat), (topsF gain turn loss now w n).length = n
  | 0, _, _ => rfl
  | n + 1, _, _ => by rw [topsF, List.length_cons, topsF_len gain turn loss n]
def trueK (W : Nat) (b : Boy) (bits : List Int) (i : Nat) : Kn :=
  ⟨drawI b.low (nthI bits i), drawI b.brk (nthI bits (i + 1)), topsF (drawI b.gain (nthI bits (i + 3))) (drawI b.turn (nthI bits (i + 4))) b.loss (drawI b.high (nthI bits (i + 2))) 0 W⟩
def trueL (W : Nat) (bits : List Int) : List Boy → Nat → List Kn
  | [], _ => []
  | b :: l, i => trueK W b bits i :: trueL W bits l (i + 1)
def topsV (c : Nat) (tops : List Int) : AV := if tops = [] then .nils else .sl 1 (ints tops) (.chain c)
def knV (out : List Kn) : AV := if out = [] then .nils else .sl 3 (out.map Kn.av) (.chain 1)
def chK (W : Nat) (out : List Kn) : List (Nat × Nat) := if out = [] then [] else [(W, 1), (out.length, 3)]
def chT (W : Nat) (out : List Kn) (tops : List Int) : List (Nat × Nat) := chK W out ++ if tops = [] then [] else [(tops.length, 1)]
def head40 (r : AV) (out : List Kn) (i : Int) (now gain turn w : Int) : Env := [.any, r, .box 0 0, .any, .any, knV out, I i, .box 1 0, .box 2 0, I now, I gain, I turn, I w] ++ List.replicate 74 .any
def st40 (x : Book) (b : Boy) (W : Nat) (out : List Kn) (low brk : Int) (tops : List Int) : St := { boxes := [x.cells, b.cells, [I low, I brk, topsV (chK W out).length tops]], chains := chT W out tops }
theorem round40a (x : Book) (b : Boy) (W : Nat) (hW : x.weeks = W) (hW6 : W ≤ 6) (bits : List Int) (r : AV) (hr : IsRow 1 (ints bits) r) (out : List Kn) (i : Nat) (low brk gain turn : Int) (w : Nat) (now : Int) (tops : List Int) (hlt : w < W) (hl : tops.length = w) (ht : (w : Int) < turn) (hw1 : IntKind.wrap .i64 (now + gain) = now + gain) :
    run Cv 40 (.loop keep40_0 body40_0) (head40 r out i now gain turn w) (st40 x b W out low brk tops) = run Cv 40 (.loop keep40_0 body40_0) (head40 r out i (now + gain) gain turn (w + 1)) (st40 x b W out low brk (tops ++ [now])) := by
  have hwr : IntKind.wrap .i64 ((w : Int) + 1) = w + 1 := wrap_small (by omega) (by omega)
  have hu := hr.under
  have hbytes : (tops.length + 1) * 8 ≤ 140737488355328 := by omega
  rw [run_loop]
  generalize MC.loop keep40_0 body40_0 = L
  by_cases ho : out = []
  · by_cases ht' : tops = []
    · simp [body40_0, keep40_0, head40, st40, Book.cells, Boy.cells, knV, chK, chT, topsV, hW, hlt, hwr, ht, ho, ht', hw1, hu, under, fillE, AV.isAgg, appA, elemsA, grown, ints]
    · simp [body40_0, keep40_0, head40, st40, Book.cells, Boy.cells, knV, chK, chT, topsV, hW, hlt, hwr, ht, ho, ht', hw1, hu, under, fillE, AV.isAgg, appA, elemsA, grown, ints, hbytes]
  · by_cases ht' : tops = []
    · simp [body40_0, keep40_0, head40, st40, Book.cells, Boy.cells, knV, chK, chT, topsV, hW, hlt, hwr, ht, ho, ht', hw1, hu, under, fillE, AV.isAgg, appA, elemsA, grown, ints]
    · simp [body40_0, keep40_0, head40, st40, Book.cells, Boy.cells, knV, chK, chT, topsV, hW, hlt, hwr, ht, ho, ht', hw1, hu, under, fillE, AV.isAgg, appA, elemsA, grown, ints, hbytes]
theorem round40b (x : Book) (b : Boy) (W : Nat) (hW : x.weeks = W) (hW6 : W ≤ 6) (bits : List Int) (r : AV) (hr : IsRow 1 (ints bits) r) (out : List Kn) (i : Nat) (low brk gain turn : Int) (w : Nat) (now : Int) (tops : List Int) (hlt : w < W) (hl : tops.length = w) (ht : ¬ (w : Int) < turn) (hw1 : IntKind.wrap .i64 (now - b.loss) = now - b.loss) :
    run Cv 40 (.loop keep40_0 body40_0) (head40 r out i now gain turn w) (st40 x b W out low brk tops) = run Cv 40 (.loop keep40_0 body40_0) (head40 r out i (now - b.loss) gain turn (w + 1)) (st40 x b W out low brk (tops ++ [now])) := by
  have hwr : IntKind.wrap .i64 ((w : Int) + 1) = w + 1 := wrap_small (by omega) (by omega)
  have hu := hr.under
  have hbytes : (tops.length + 1) * 8 ≤ 140737488355328 := by omega
  rw [run_loop]
  generalize MC.loop keep40_0 body40_0 = L
  by_cases ho : out = []
  · by_cases ht' : tops = []
    · simp [body40_0, keep40_0, head40, st40, Book.cells, Boy.cells, knV, chK, chT, topsV, hW, hlt, hwr, ht, ho, ht', hw1, hu, under, fillE, AV.isAgg, appA, elemsA, grown, ints]
    · simp [body40_0, keep40_0, head40, st40, Book.cells, Boy.cells, knV, chK, chT, topsV, hW, hlt, hwr, ht, ho, ht', hw1, hu, under, fillE, AV.isAgg, appA, elemsA, grown, ints, hbytes]
  · by_cases ht' : tops = []
    · simp [body40_0, keep40_0, head40, st40, Book.cells, Boy.cells, knV, chK, chT, topsV, hW, hlt, hwr, ht, ho, ht', hw1, hu, under, fillE, AV.isAgg, appA, elemsA, grown, ints]
    · simp [body40_0, keep40_0, head40, st40, Book.cells, Boy.cells, knV, chK, chT, topsV, hW, hlt, hwr, ht, ho, ht', hw1, hu, under, fillE, AV.isAgg, appA, elemsA, grown, ints, hbytes]
theorem loop40 (x : Book) (b : Boy) (hb : boyOk b = true) (W : Nat) (hW : x.weeks = W) (hW6 : W ≤ 6) (bits : List Int) (r : AV) (hr : IsRow 1 (ints bits) r) (out : List Kn) (i : Nat) (hi : i < 100) (low brk gain turn : Int) (hg : 0 ≤ gain ∧ gain ≤ 2) : ∀ (n w : Nat) (now : Int) (tops : List Int), w + n = W → tops.length = w → -100 - 10 * w ≤ now ∧ now ≤ 100 + 10 * w →
    ∃ e, run Cv 40 (.loop keep40_0 body40_0) (head40 r out i now gain turn w) (st40 x b W out low brk tops) = some (.ex 2, e, st40 x b W out low brk (tops ++ topsF gain turn b.loss now w n)) ∧ e.length = 87 ∧ e[1]? = some r ∧ e[2]? = some (.box 0 0) ∧ e[5]? = some (knV out) ∧ e[6]? = some (I i) ∧ e[8]? = some (.box 2 0)
  | 0, w, now, tops, hw, hl, hn => by
    have : w = W := by omega
    subst this
    rw [run_loop]
    simp [body40_0, keep40_0, head40, st40, Book.cells, hW, topsF]
  | n + 1, w, now, tops, hw, hl, hn => by
    have hlt : w < W := by omega
    have hwr : IntKind.wrap .i64 ((w : Int) + 1) = w + 1 := wrap_small (by omega) (by omega)
    have hlo : 0 ≤ b.loss ∧ b.loss ≤ 2 := by
      simp only [boyOk, Bool.and_eq_true, decide_eq_true_eq] at hb
      exact ⟨hb.1.2.2.1, hb.1.2.2.2⟩
    have w1 : IntKind.wrap .i64 (now + gain) = now + gain := wrap_small (by omega) (by omega)
    have w2 : IntKind.wrap .i64 (now - b.loss) = now - b.loss := wrap_small (by omega) (by omega)
    have hu := hr.under
    have hbytes : (tops.length + 1) * 8 ≤ 140737488355328 := by omega
    have key : run Cv 40 (.loop keep40_0 body40_0) (head40 r out i now gain turn w) (st40 x b W out low brk tops) = run Cv 40 (.loop keep40_0 body40_0) (head40 r out i (if (w : Int) < turn then now + gain else now - b.loss) gain turn (w + 1)) (st40 x b W out low brk (tops ++ [now])) := by
      by_cases ht : (w : Int) < turn
      · rw [if_pos ht]; exact round40a x b W hW hW6 bits r hr out i low brk gain turn w now tops hlt hl ht w1
      · rw [if_neg ht]; exact round40b x b W hW hW6 bits r hr out i low brk gain turn w now tops hlt hl ht w2
    rw [key]
    have := loop40 x b hb W hW hW6 bits r hr out i hi low brk gain turn hg n (w + 1) (if (w : Int) < turn then now + gain else now - b.loss) (tops ++ [now]) (by omega) (by simp [hl]) (by split <;> omega)
    simpa [topsF, List.append_assoc] using this
end Go.Ai

set_option maxRecDepth 100000
set_option linter.unusedSimpArgs false
set_option linter.unusedVariables false
namespace Go.Ai
def headO (r : AV) (out : List Kn) (i : Int) : Env := [.any, r, .box 0 0, .any, .any, knV out, I i] ++ List.replicate 80 .any
theorem round40 (x : Book) (hx : x.Ok) (b : Boy) (W : Nat) (hW : x.weeks = W) (hW1 : 1 ≤ W) (hW6 : W ≤ 6) (bits : List Int) (hbl : bits.length < 2 ^ 47) (r : AV) (hr : IsRow 1 (ints bits) r) (out : List Kn) (i : Nat) (hi : i < 100) (ho : out.length = i) (hbi : x.boys[i]? = some b) (hb : boyOk b = true) :
    run Cv 40 (.loop keep40_1 body40_1) (headO r out i) { boxes := [x.cells], chains := chK W out } = run Cv 40 (.loop keep40_1 body40_1) (headO r (out ++ [trueK W b bits i]) (i + 1)) { boxes := [x.cells], chains := chK W (out ++ [trueK W b bits i]) } := by
  have hlt : i < x.boys.length := (List.getElem?_eq_some_iff.1 hbi).1
  have hbb : x.boys[i] = b := (List.getElem?_eq_some_iff.1 hbi).2
  have hlen := hx.lenB
  have hn : x.bnil ≠ .nil := fun hn => by rw [hx.boys hn] at hlt; simp at hlt
  have hrow : rowV 11 (x.boys.map Boy.av) x.bnil = .sl 11 (x.boys.map Boy.av) x.bnil.cap := rowV_some hn
  have e0 : IntKind.wrap .i64 ((i : Int) + 1) = i + 1 := wrap_small (by omega) (by omega)
  have e1 : IntKind.wrap .i64 ((i : Int) + 2) = i + 2 := wrap_small (by omega) (by omega)
  have e2 : IntKind.wrap .i64 ((i : Int) + 3) = i + 3 := wrap_small (by omega) (by omega)
  have e3 : IntKind.wrap .i64 ((i : Int) + 4) = i + 4 := wrap_small (by omega) (by omega)
  have hu := hr.under
  have hp := hr.pur
  have hob := hb
  simp only [boyOk, spanOk, Bool.and_eq_true, decide_eq_true_eq] at hob
  have d0 := draw_call b.low (nthI bits i) (by omega) (by omega) (by omega)
  have d1 := draw_call b.brk (nthI bits (i + 1)) (by omega) (by omega) (by omega)
  have d2 := draw_call b.high (nthI bits (i + 2)) (by omega) (by omega) (by omega)
  have d3 := draw_call b.gain (nthI bits (i + 3)) (by omega) (by omega) (by omega)
  have d4 := draw_call b.turn (nthI bits (i + 4)) (by omega) (by omega) (by omega)
  have r2 := draw_range b.high (nthI bits (i + 2)) (by omega)
  have r3 := draw_range b.gain (nthI bits (i + 3)) (by omega)
  have c0 := nth_call bits r hr hbl i
  have c1 := nth_call bits r hr hbl (i + 1)
  have c2 := nth_call bits r hr hbl (i + 2)
  have c3 := nth_call bits r hr hbl (i + 3)
  have c4 := nth_call bits r hr hbl (i + 4)
  simp only [Span.av] at d0 d1 d2 d3 d4
  obtain ⟨e, l1, l2, l3, l4, l5, l6, l7⟩ := loop40 x b hb W hW hW6 bits r hr out i hi (drawI b.low (nthI bits i)) (drawI b.brk (nthI bits (i + 1))) (drawI b.gain (nthI bits (i + 3))) (drawI b.turn (nthI bits (i + 4))) ⟨by omega, by omega⟩ W 0 (drawI b.high (nthI bits (i + 2))) [] (by omega) rfl ⟨by omega, by omega⟩
  have k3 := get_some l3
  have k4 := get_some l4
  have k5 := get_some l5
  have k6 := get_some l6
  have k7 := get_some l7
  simp only [List.nil_append] at l1
  have hTl := topsF_len (drawI b.gain (nthI bits (i + 3))) (drawI b.turn (nthI bits (i + 4))) b.loss W (drawI b.high (nthI bits (i + 2))) 0
  have hTK : trueK W b bits i = ⟨drawI b.low (nthI bits i), drawI b.brk (nthI bits (i + 1)), topsF (drawI b.gain (nthI bits (i + 3))) (drawI b.turn (nthI bits (i + 4))) b.loss (drawI b.high (nthI bits (i + 2))) 0 W⟩ := rfl
  rw [hTK]
  generalize topsF (drawI b.gain (nthI bits (i + 3))) (drawI b.turn (nthI bits (i + 4))) b.loss (drawI b.high (nthI bits (i + 2))) 0 W = T at *
  have hT : T ≠ [] := by rintro rfl; simp at hTl; omega
  generalize drawI b.low (nthI bits i) = D0 at *
  generalize drawI b.brk (nthI bits (i + 1)) = D1 at *
  generalize drawI b.high (nthI bits (i + 2)) = D2 at *
  generalize drawI b.gain (nthI bits (i + 3)) = D3 at *
  generalize drawI b.turn (nthI bits (i + 4)) = D4 at *
  have hby : (out.length + 1) * 40 ≤ 140737488355328 := by omega
  rw [run_loop]
  generalize MC.loop keep40_1 body40_1 = L
  simp [body40_1, keep40_1, headO, Book.cells, hlen, hlt, hbb, hrow, Boy.av, Boy.cells, hu, hp, e0, e1, e2, e3, c0, c1, c2, c3, c4, d0, d1, d2, d3, d4, fillA, fillE, AV.isAgg]
  rw [run_loop_mask, show mask keep40_0 _ = head40 r out i D2 D3 D4 (0 : Nat) from by simp [keep40_0, head40]]
  simp only [st40, Book.cells, Boy.cells, topsV, chT, if_true, List.append_nil, hrow] at l1
  rw [l1]
  by_cases hoo : out = []
  · simp [l2, k3, k4, k5, k6, k7, hoo, knV, chK, hT, hTl, e0, hu, under, fillE, AV.isAgg, appA, elemsA, grown, Kn.av, ints]
  · simp [l2, k3, k4, k5, k6, k7, hoo, knV, chK, hT, hTl, e0, hu, under, fillE, AV.isAgg, appA, elemsA, grown, Kn.av, ints, hby]
end Go.Ai
namespace Go.Ai
theorem loopO (x : Book) (hx : x.Ok) (W : Nat) (hW : x.weeks = W) (hW1 : 1 ≤ W) (hW6 : W ≤ 6) (hB : x.boys.length ≤ 50) (hob : x.boys.all boyOk = true) (bits : List Int) (hbl : bits.length < 2 ^ 47) (r : AV) (hr : IsRow 1 (ints bits) r) : ∀ (l : List Boy) (i : Nat) (out : List Kn), i ≤ x.boys.length → x.boys.drop i = l → out.length = i →
    ∃ e, run Cv 40 (.loop keep40_1 body40_1) (headO r out i) { boxes := [x.cells], chains := chK W out } = some (.ex 0, e, { boxes := [x.cells], chains := chK W (out ++ trueL W bits l i) }) ∧ e.length = 87 ∧ e[5]? = some (knV (out ++ trueL W bits l i))
  | [], i, out, hi, h, ho => by
    have : i = x.boys.length := Nat.le_antisymm hi (by simpa using h)
    subst this
    have hlen := hx.lenB
    rw [run_loop]
    simp [body40_1, keep40_1, headO, Book.cells, hlen, trueL]
  | b :: l, i, out, hi, h, ho => by
    have hb' : x.boys[i]? = some b := by
      have : (x.boys.drop i)[0]? = some b := by rw [h]; rfl
      simpa using this
    have hlt : i < x.boys.length := (List.getElem?_eq_some_iff.1 hb').1
    rw [round40 x hx b W hW hW1 hW6 bits hbl r hr out i (by omega) ho hb' (List.all_eq_true.1 hob b (List.mem_of_getElem? hb'))]
    have := loopO x hx W hW hW1 hW6 hB hob bits hbl r hr l (i + 1) (out ++ [trueK W b bits i]) hlt (by rw [← List.drop_drop, h]; rfl) (by simp [ho])
    simpa [trueL, List.append_assoc] using this
theorem knV_pur (out : List Kn) (σ : St) (n : Nat) : pur σ (n + 1) (knV out) = some (if out = [] then .nils else .sl 3 (out.map Kn.av) .no, false) := by
  unfold knV
  split <;> rfl
theorem truly_call (x : Book) (hx : x.Ok) (hc : checkOk x = true) (bits : List Int) (hbl : bits.length < 2 ^ 47) (r : AV) (hr : IsRow 1 (ints bits) r) :
    call Cv 40 [x.av, r] = some (.sl 3 ((trueL x.weeks.toNat bits x.boys 0).map Kn.av) .no) := by
  have g := good_of hc
  have hw1 := g.w1
  have hw6 := g.w6
  have hbl4 := g.bl
  have hb1 := g.bl1
  obtain ⟨e, l1, l2, l3⟩ := loopO x hx x.weeks.toNat (by omega) (by omega) (by omega) (by omega) g.boys bits hbl r hr x.boys 0 [] (Nat.zero_le _) rfl rfl
  have k3 := get_some l3
  have hne : trueL x.weeks.toNat bits x.boys 0 ≠ [] := by
    cases hb : x.boys with
    | nil => rw [hb] at hb1; simp at hb1
    | cons b l => simp [trueL]
  simp only [List.nil_append, Book.cells, chK, if_true, if_neg hne] at l1 k3
  have hp := knV_pur (trueL x.weeks.toNat bits x.boys 0)
  rw [if_neg hne] at hp
  rw [call_def comp40]
  simp [code40, Book.av, Book.cells]
  rw [run_loop_mask, show mask keep40_1 _ = headO r [] (0 : Nat) from by simp [keep40_1, headO, knV]]
  rw [l1]
  simp [k3, l2, hp]
end Go.Ai

set_option maxRecDepth 100000
set_option linter.unusedSimpArgs false
set_option linter.unusedVariables false
namespace Go.Ai
/-! ### Books with other trials -/
def tsV (ts : List Trial) : AV := if ts = [] then .nils else .sl 4 (ts.map Trial.av) (.chain 0)
def tsCh (ts : List Trial) : List (Nat × Nat) := if ts = [] then [] else [(ts.length, 4)]
def Book.having (x : Book) (ts : List Trial) : Book := { x with trials := ts, tnil := if ts = [] then .nil else .no }
theorem having_ok {x : Book} (hx : x.Ok) (ts : List Trial) (h : ts.length < 2 ^ 47) : (x.having ts).Ok where
  boys := hx.boys
  trials hn := by
    simp only [Book.having] at hn ⊢
    split at hn
    · assumption
    · cases hn
  blen := hx.blen
  tlen := h
theorem tsV_pur (ts : List Trial) (σ : St) (n : Nat) : pur σ (n + 1) (tsV ts) = some (rowV 4 (ts.map Trial.av) (if ts = [] then .nil else .no), false) := by
  unfold tsV
  split <;> rfl
theorem tsV_cell (ts : List Trial) : (tsV ts).isCell = true := by unfold tsV; split <;> rfl
def fixT (l : List Kn) (t : Trial) : Trial := ⟨t.boy, t.week, t.note, if (match l[t.boy.toNat]? with | some k => k.sings t.week t.note | none => false) then 1 else 0⟩
def head41 (r : AV) (k : Int) : Env := [.any, r, .box 0 0, .any, .box 1 0, .box 2 0, I k] ++ List.replicate 34 .any
def st41 (x : Book) (ts : List Trial) : St := { boxes := [x.cells, [.nils, I 0, .nils], [x.boysV, I x.weeks, tsV ts]], chains := tsCh ts }
theorem round41 (x : Book) (hx : x.Ok) (hc : checkOk x = true) (l : List Kn) (hl : l.length = x.boys.length) (hK : ∀ k ∈ l, k.tops.length = x.weeks.toNat) (i : Nat) (t : Trial) (ht : x.trials[i]? = some t) (ts : List Trial) (hts : ts.length = i) :
    run Cv 41 (.loop keep41_0 body41_0) (head41 (.sl 3 (l.map Kn.av) .no) i) (st41 x ts) = run Cv 41 (.loop keep41_0 body41_0) (head41 (.sl 3 (l.map Kn.av) .no) (i + 1)) (st41 x (ts ++ [fixT l t])) := by
  have g := good_of hc
  have hlt : i < x.trials.length := (List.getElem?_eq_some_iff.1 ht).1
  have htt : x.trials[i] = t := (List.getElem?_eq_some_iff.1 ht).2
  have htl := g.tl
  have hlen := hx.lenT
  have hn : x.tnil ≠ .nil := fun hn => by rw [hx.trials hn] at hlt; simp at hlt
  have hrow : rowV 4 (x.trials.map Trial.av) x.tnil = .sl 4 (x.trials.map Trial.av) x.tnil.cap := rowV_some hn
  have hw : IntKind.wrap .i64 ((i : Int) + 1) = i + 1 := wrap_small (by omega) (by omega)
  have ho : trialOk x t = true := List.all_eq_true.1 g.tr t (List.mem_of_getElem? ht)
  simp only [trialOk, Bool.and_eq_true, decide_eq_true_eq] at ho
  obtain ⟨⟨⟨⟨o1, o2⟩, o3, o4⟩, o5, o6⟩, o7⟩ := ho
  have hw1 := g.w1
  have hw6 := g.w6
  rw [wrap_small (by omega) (by omega)] at o4
  obtain ⟨bi, hbi⟩ := Int.eq_ofNat_of_zero_le o1
  have hbl : bi < l.length := by omega
  have hk := kn_sings_call l[bi] t.week t.note o3 (by rw [hK _ (List.getElem_mem hbl)]; omega)
  have hf : fixT l t = ⟨t.boy, t.week, t.note, if l[bi].sings t.week t.note then 1 else 0⟩ := by
    simp [fixT, hbi, hbl]
  have hbz : ¬ (bi : Int) < 0 := by omega
  have hby : (ts.length + 1) * 32 ≤ 140737488355328 := by omega
  simp only [Kn.av] at hk
  rw [hf]
  rw [run_loop]
  generalize MC.loop keep41_0 body41_0 = L
  cases hs : l[bi].sings t.week t.note with
  | false =>
    rw [hs] at hk
    by_cases hoo : ts = []
    · simp [body41_0, keep41_0, head41, st41, Book.cells, Book.boysV, tsV, tsCh, hoo, hlen, hlt, htt, hrow, Trial.av, hbi, hbl, Kn.av, hk, hw, under, fillE, AV.isAgg, appA, elemsA, grown]
    · simp [body41_0, keep41_0, head41, st41, Book.cells, Book.boysV, tsV, tsCh, hoo, hlen, hlt, htt, hrow, Trial.av, hbi, hbl, Kn.av, hk, hw, under, fillE, AV.isAgg, appA, elemsA, grown, hby]
  | true =>
    rw [hs] at hk
    by_cases hoo : ts = []
    · simp [body41_0, keep41_0, head41, st41, Book.cells, Book.boysV, tsV, tsCh, hoo, hlen, hlt, htt, hrow, Trial.av, hbi, hbl, Kn.av, hk, hw, under, fillE, AV.isAgg, appA, elemsA, grown]
    · simp [body41_0, keep41_0, head41, st41, Book.cells, Book.boysV, tsV, tsCh, hoo, hlen, hlt, htt, hrow, Trial.av, hbi, hbl, Kn.av, hk, hw, under, fillE, AV.isAgg, appA, elemsA, grown, hby]
end Go.Ai

set_option maxRecDepth 100000
set_option linter.unusedSimpArgs false
set_option linter.unusedVariables false
namespace Go.Ai
theorem loop41 (x : Book) (hx : x.Ok) (hc : checkOk x = true) (l : List Kn) (hl : l.length = x.boys.length) (hK : ∀ k ∈ l, k.tops.length = x.weeks.toNat) : ∀ (m : List Trial) (i : Nat) (ts : List Trial), i ≤ x.trials.length → x.trials.drop i = m → ts.length = i →
    ∃ e, run Cv 41 (.loop keep41_0 body41_0) (head41 (.sl 3 (l.map Kn.av) .no) i) (st41 x ts) = some (.ex 0, e, st41 x (ts ++ m.map (fixT l))) ∧ e.length = 41 ∧ e[4]? = some (.box 1 0) ∧ e[5]? = some (.box 2 0)
  | [], i, ts, hi, h, ho => by
    have : i = x.trials.length := Nat.le_antisymm hi (by simpa using h)
    subst this
    have hlen := hx.lenT
    rw [run_loop]
    simp [body41_0, keep41_0, head41, st41, Book.cells, hlen]
  | t :: m, i, ts, hi, h, ho => by
    have hb' : x.trials[i]? = some t := by
      have : (x.trials.drop i)[0]? = some t := by rw [h]; rfl
      simpa using this
    have hlt : i < x.trials.length := (List.getElem?_eq_some_iff.1 hb').1
    rw [round41 x hx hc l hl hK i t hb' ts ho]
    have := loop41 x hx hc l hl hK m (i + 1) (ts ++ [fixT l t]) hlt (by rw [← List.drop_drop, h]; rfl) (by simp [ho])
    simpa [List.append_assoc] using this
theorem rightly_call (x : Book) (hx : x.Ok) (hc : checkOk x = true) (l : List Kn) (hl : l.length = x.boys.length) (hK : ∀ k ∈ l, k.tops.length = x.weeks.toNat) :
    call Cv 41 [x.av, .sl 3 (l.map Kn.av) .no] = some (x.having (x.trials.map (fixT l))).av := by
  obtain ⟨e, l1, l2, l3, l4⟩ := loop41 x hx hc l hl hK x.trials 0 [] (Nat.zero_le _) rfl rfl
  have k3 := get_some l3
  have k4 := get_some l4
  have hp := tsV_pur (x.trials.map (fixT l))
  have hcl := tsV_cell (x.trials.map (fixT l))
  have hh : (x.having (x.trials.map (fixT l))).trials = x.trials.map (fixT l) := rfl
  generalize x.trials.map (fixT l) = ts at *
  simp only [List.nil_append, st41, tsV, tsCh, if_true, Book.cells, Book.boysV] at l1
  simp only [tsV] at hp hcl
  rw [call_def comp41]
  simp [code41, Book.av, Book.cells]
  rw [run_loop_mask, show mask keep41_0 _ = head41 (.sl 3 (l.map Kn.av) .no) (0 : Nat) from by simp [keep41_0, head41]]
  rw [l1]
  simp [k3, k4, l2, hp, hcl, Book.having]
/-! ### One trial more -/
theorem with_call (x : Book) (hx : x.Ok) (t : Trial) (htl : x.trials.length < 1000) : ∃ y : Book, y.boys = x.boys ∧ y.bnil = x.bnil ∧ y.weeks = x.weeks ∧ y.trials = x.trials ++ [t] ∧ y.tnil = .no ∧ call Cv 49 [x.av, t.av] = some y.av := by
  refine ⟨{ x with trials := x.trials ++ [t], tnil := .no }, rfl, rfl, rfl, rfl, rfl, ?_⟩
  rw [call_def comp49]
  have hby : (x.trials.length + 1) * 32 ≤ 140737488355328 := by omega
  have hby2 : x.trials.length * 32 ≤ 140737488355328 := by omega
  by_cases hk : x.tnil = .nil
  · have := hx.trials hk
    have hr : rowV 4 [] x.tnil = .nils := by rw [hk]; rfl
    have hr' : rowV 4 [t.av] .no = .sl 4 [t.av] .no := rfl
    simp only [Trial.av] at hr'
    simp [code49, Book.av, Book.cells, Trial.av, this, hr, hr', fillE, AV.isAgg, appA, elemsA, grown, isSl]
  · have hr : rowV 4 (x.trials.map Trial.av) x.tnil = .sl 4 (x.trials.map Trial.av) x.tnil.cap := rowV_some hk
    have hr' : ∀ l, rowV 4 l .no = .sl 4 l .no := fun _ => rfl
    by_cases hz : x.trials = []
    · rw [hz] at hr
      simp at hr
      simp [code49, Book.av, Book.cells, Trial.av, hz, hr, hr', fillE, AV.isAgg, appA, elemsA, grown, isSl]
    · simp [code49, Book.av, Book.cells, Trial.av, hz, hr, hr', fillE, AV.isAgg, appA, elemsA, grown, isSl, hby, hby2]
/-! ### Some trials less -/
def keepT (l : List Int) : List Trial → Nat → List Trial
  | [], _ => []
  | t :: ts, k => (if (k : Int) ∈ l then [] else [t]) ++ keepT l ts (k + 1)
def head54 (r : AV) (k : Int) : Env := [.any, r, .box 0 0, .any, .box 1 0, .box 2 0, I k] ++ List.replicate 24 .any
theorem round54 (x : Book) (hx : x.Ok) (hT : x.trials.length < 1000) (l : List Int) (hl : l.length < 2 ^ 47) (r : AV) (hr : IsRow 1 (ints l) r) (i : Nat) (t : Trial) (ht : x.trials[i]? = some t) (ts : List Trial) (hts : ts.length ≤ i) :
    run Cv 54 (.loop keep54_0 body54_0) (head54 r i) (st41 x ts) = run Cv 54 (.loop keep54_0 body54_0) (head54 r (i + 1)) (st41 x (ts ++ if (i : Int) ∈ l then [] else [t])) := by
  have hlt : i < x.trials.length := (List.getElem?_eq_some_iff.1 ht).1
  have htt : x.trials[i] = t := (List.getElem?_eq_some_iff.1 ht).2
  have hlen := hx.lenT
  have hn : x.tnil ≠ .nil := fun hn => by rw [hx.trials hn] at hlt; simp at hlt
  have hrow : rowV 4 (x.trials.map Trial.av) x.tnil = .sl 4 (x.trials.map Trial.av) x.tnil.cap := rowV_some hn
  have hw : IntKind.wrap .i64 ((i : Int) + 1) = i + 1 := wrap_small (by omega) (by omega)
  have hwc := where_call l r hr hl i
  have hwi := idx_nonneg (i : Int) l 0
  have hu := hr.under
  have hp := hr.pur
  have hby : (ts.length + 1) * 32 ≤ 140737488355328 := by omega
  rw [run_loop]
  generalize MC.loop keep54_0 body54_0 = L
  by_cases hm : (i : Int) ∈ l
  · have hneg : ¬ idx (i : Int) l 0 < 0 := by simp [hm] at hwi; omega
    simp [body54_0, keep54_0, head54, st41, Book.cells, Book.boysV, hlen, hlt, htt, hrow, hp, hwc, hneg, hm, hw, hu, under, tsV, tsCh]
  · have hneg : idx (i : Int) l 0 < 0 := by simp [hm] at hwi; omega
    by_cases hoo : ts = []
    · simp [body54_0, keep54_0, head54, st41, Book.cells, Book.boysV, hlen, hlt, htt, hrow, hp, hwc, hneg, hm, hw, hu, under, tsV, tsCh, hoo, Trial.av, fillE, AV.isAgg, appA, elemsA, grown]
    · simp [body54_0, keep54_0, head54, st41, Book.cells, Book.boysV, hlen, hlt, htt, hrow, hp, hwc, hneg, hm, hw, hu, under, tsV, tsCh, hoo, Trial.av, fillE, AV.isAgg, appA, elemsA, grown, hby]
theorem loop54 (x : Book) (hx : x.Ok) (hT : x.trials.length < 1000) (l : List Int) (hl : l.length < 2 ^ 47) (r : AV) (hr : IsRow 1 (ints l) r) : ∀ (m : List Trial) (i : Nat) (ts : List Trial), i ≤ x.trials.length → x.trials.drop i = m → ts.length ≤ i →
    ∃ e, run Cv 54 (.loop keep54_0 body54_0) (head54 r i) (st41 x ts) = some (.ex 0, e, st41 x (ts ++ keepT l m i)) ∧ e.length = 31 ∧ e[4]? = some (.box 1 0) ∧ e[5]? = some (.box 2 0)
  | [], i, ts, hi, h, ho => by
    have : i = x.trials.length := Nat.le_antisymm hi (by simpa using h)
    subst this
    have hlen := hx.lenT
    rw [run_loop]
    simp [body54_0, keep54_0, head54, st41, Book.cells, hlen, keepT]
  | t :: m, i, ts, hi, h, ho => by
    have hb' : x.trials[i]? = some t := by
      have : (x.trials.drop i)[0]? = some t := by rw [h]; rfl
      simpa using this
    have hlt : i < x.trials.length := (List.getElem?_eq_some_iff.1 hb').1
    rw [round54 x hx hT l hl r hr i t hb' ts ho]
    have := loop54 x hx hT l hl r hr m (i + 1) (ts ++ if (i : Int) ∈ l then [] else [t]) hlt (by rw [← List.drop_drop, h]; rfl) (by split <;> simp <;> omega)
    simpa [List.append_assoc, keepT] using this
theorem without_call (x : Book) (hx : x.Ok) (hT : x.trials.length < 1000) (l : List Int) (hl : l.length < 2 ^ 47) (r : AV) (hr : IsRow 1 (ints l) r) : call Cv 54 [x.av, r] = some (x.having (keepT l x.trials 0)).av := by
  obtain ⟨e, l1, l2, l3, l4⟩ := loop54 x hx hT l hl r hr x.trials 0 [] (Nat.zero_le _) rfl (Nat.le_refl _)
  have k3 := get_some l3
  have k4 := get_some l4
  have hp := tsV_pur (keepT l x.trials 0)
  have hcl := tsV_cell (keepT l x.trials 0)
  simp only [List.nil_append, st41, tsV, tsCh, if_true, Book.cells, Book.boysV] at l1
  simp only [tsV] at hp hcl
  rw [call_def comp54]
  simp [code54, Book.av, Book.cells]
  rw [run_loop_mask, show mask keep54_0 _ = head54 r (0 : Nat) from by simp [keep54_0, head54]]
  rw [l1]
  simp [k3, k4, l2, hp, hcl, Book.having]
end Go.Ai
