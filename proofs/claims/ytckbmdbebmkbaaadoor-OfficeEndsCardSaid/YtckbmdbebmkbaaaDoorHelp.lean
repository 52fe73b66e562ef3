/- This text shows what the helpers of all layers answer. No conditions of its own. -/
import Derived.Test.YtckbmdbebmkbaaaDoorCodes
import Derived.Test.YtckbmdbebmkbaaaDoorSteps
import Derived.Test.YtckbmdbebmkbaaaDoorRd
import Derived.Test.YtckbmdbebmkbaaaDoorLeast
set_option linter.unusedSimpArgs false
set_option linter.unusedVariables false
set_option maxRecDepth 100000
namespace Go.Ai
open Go.Least
def ints (l : List Int) : List AV := l.map fun n => I n
theorem row_len {l : List Int} {r : AV} (hr : IsRow 1 (ints l) r) : lenA r = some (I l.length) := by rw [hr.len]; simp [ints]
theorem row_sl {l : List Int} {r : AV} (hr : IsRow 1 (ints l) r) (h : l ≠ []) : ∃ c : Cap, c.pure = c ∧ r = .sl 1 (ints l) c := hr.sl (by simpa [ints] using h)
theorem head_drop {α : Type} {l0 l : List α} {a : α} {k : Nat} (h : l0.drop k = a :: l) : ∃ hlt : k < l0.length, l0[k] = a ∧ l0.drop (k + 1) = l := by
  have hb : l0[k]? = some a := by
    have : (l0.drop k)[0]? = some a := by rw [h]; rfl
    simpa using this
  exact ⟨(List.getElem?_eq_some_iff.1 hb).1, (List.getElem?_eq_some_iff.1 hb).2, by rw [← List.drop_drop, h]; rfl⟩
theorem drop_nil {α : Type} {l : List α} {k : Nat} (hk : k ≤ l.length) (h : l.drop k = []) : k = l.length := Nat.le_antisymm hk (by simpa using h)
theorem wrap_succ {k : Nat} {n : Nat} (h : k < n) (h' : n < 2 ^ 47) : IntKind.wrap .i64 ((k : Int) + 1) = k + 1 := wrap_small (by omega) (by omega)
theorem nils_row : IsRow 1 (ints []) .nils := .inl ⟨rfl, rfl⟩
theorem cut_self (σ : St) (e : Env) (h : σ.ro ≤ σ.boxes.length) (h' : σ.mro ≤ σ.maps.length) : cut σ σ e = σ := by
  have : ∀ nc, nc = σ.chains.length → cutAt nc σ σ = σ := by
    intro nc hn
    subst hn
    cases σ
    simp only [cutAt, List.take_length]
    simp only at h h'
    rw [Nat.min_eq_left h, Nat.min_eq_left h']
  unfold cut
  split
  · exact this _ rfl
  · rfl
theorem lies_call (n low high : Int) : call Cv 34 [I n, I low, I high] = some (.bool (decide (low ≤ n) && decide (n ≤ high))) := by
  rw [call_run comp34 (Nat.le_of_ble_eq_true rfl)]
  simp +contextual (maxSteps := 10000000) [-List.getD_eq_getElem?_getD, code34]
theorem only_call (a : Int) : call Cv 25 [I a] = some (.agg [I a, I a]) := by
  rw [call_run comp25 (Nat.le_of_ble_eq_true rfl)]
  simp (maxSteps := 10000000) [-List.getD_eq_getElem?_getD, code25, fillA]
theorem bounds_call (a b : Int) : call Cv 42 [I a, I b] = some (.agg [I a, I b]) := by
  rw [call_run comp42 (Nat.le_of_ble_eq_true rfl)]
  simp (maxSteps := 10000000) [-List.getD_eq_getElem?_getD, code42, fillA]
def fairB (a b low high wide : Int) : Bool := decide (low ≤ a) && (decide (a ≤ b) && (decide (b ≤ high) && decide (IntKind.wrap .i64 (b - a) ≤ wide)))
theorem fair_call (a b low high wide : Int) : call Cv 31 [.agg [I a, I b], I low, I high, I wide] = some (.bool (fairB a b low high wide)) := by
  rw [call_run comp31 (Nat.le_of_ble_eq_true rfl)]
  simp +contextual (maxSteps := 10000000) [-List.getD_eq_getElem?_getD, code31, fairB, Bool.and_assoc]
def turnI (n b : Int) : Int := if b < 1 then 0 else n % b
theorem turn_call (n b : Int) (hb : b ≤ 2 ^ 62) : call Cv 14 [I n, I b] = some (I (turnI n b)) := by
  rw [call_run comp14 (Nat.le_of_ble_eq_true rfl)]
  by_cases h : b < 1
  · simp (maxSteps := 10000000) [-List.getD_eq_getElem?_getD, code14, h, turnI]
  · have h0 : ¬ b = 0 := by omega
    have ht : n.tmod b = n % b - if 0 ≤ n ∨ b ∣ n then 0 else b := by
      rw [Int.tmod_eq_emod]
      split
      · rfl
      · rw [Int.natAbs_of_nonneg (by omega)]
    have hs := Int.emod_nonneg n h0
    have hl := Int.emod_lt_of_pos n (show 0 < b by omega)
    by_cases hr : n.tmod b < 0
    · have hw : IntKind.wrap .i64 (n.tmod b + b) = n % b := by
        rw [wrap_small (by split at ht <;> omega) (by split at ht <;> omega), ht]
        split at ht
        · omega
        · split <;> omega
      simp (maxSteps := 10000000) [-List.getD_eq_getElem?_getD, code14, h, h0, hr, hw, turnI]
    · have : n.tmod b = n % b := by
        split at ht
        · omega
        · omega
      rw [this] at hr
      simp (maxSteps := 10000000) [-List.getD_eq_getElem?_getD, code14, h, h0, this, hr, turnI]
theorem turn_range (n b : Int) (h : 1 ≤ b) : 0 ≤ turnI n b ∧ turnI n b < b := by
  rw [turnI, if_neg (by omega)]
  exact ⟨Int.emod_nonneg n (by omega), Int.emod_lt_of_pos n (by omega)⟩
def nthI (l : List Int) (n : Int) : Int := l.getD (turnI n l.length).toNat 0
def drawI (a b n : Int) : Int := a + turnI n (b - a + 1)
theorem draw_range (a b n : Int) (h1 : a ≤ b) : a ≤ drawI a b n ∧ drawI a b n ≤ b := by
  have hg := turn_range n (b - a + 1) (by omega)
  unfold drawI
  omega
def idx (v : Int) : List Int → Nat → Int
  | [], _ => -1
  | n :: l, k => if n = v then k else idx v l (k + 1)
theorem idx_nonneg (v : Int) : ∀ (l : List Int) (k : Nat), decide (0 ≤ idx v l k) = decide (v ∈ l)
  | [], k => by simp [idx]
  | n :: l, k => by
    by_cases h : n = v
    · simp [idx, h]
    · have : ¬ v = n := fun h' => h h'.symm
      simp [idx, h, this, idx_nonneg v l (k + 1)]
def headW (r : AV) (n k : Int) : Env := mkE 19 .any [(5, I k), (1, I n), (0, r)]
theorem loopW (l0 : List Int) (r : AV) (hr : IsRow 1 (ints l0) r) (hl : l0.length < 2 ^ 47) (v : Int) : ∀ (l : List Int) (k : Nat), k ≤ l0.length → l0.drop k = l →
    ∃ L, (run Cv 21 (.loop keep21_0 body21_0) (headW r v k) {} = some (.ex 0, mkE 19 .any L, {}) ∧ idx v l k = -1) ∨ run Cv 21 (.loop keep21_0 body21_0) (headW r v k) {} = some (.rt, mkE 19 .any ((4, I (idx v l k)) :: L), {})
  | [], k, hk, h => by
    obtain rfl := drop_nil hk h
    have h1 := row_len hr
    have key : ∃ L, run Cv 21 (.loop keep21_0 body21_0) (headW r v l0.length) {} = some (.ex 0, mkE 19 .any L, {}) := by
      rw [run_loop]
      simp (maxSteps := 10000000) [-List.getD_eq_getElem?_getD, body21_0, keep21_0, headW, h1]
      exact ⟨_, rfl⟩
    obtain ⟨L, hL⟩ := key
    exact ⟨L, .inl ⟨hL, rfl⟩⟩
  | a :: l, k, hk, h => by
    obtain ⟨hlt, ha, hd⟩ := head_drop h
    have hw := wrap_succ hlt hl
    have hu := hr.under
    obtain ⟨c, hc, rfl⟩ := row_sl hr (by rintro rfl; simp at hlt)
    simp only [ints] at hu
    by_cases hv : a = v
    · have key : ∃ L, run Cv 21 (.loop keep21_0 body21_0) (headW (.sl 1 (ints l0) c) v k) {} = some (.rt, mkE 19 .any ((4, I k) :: L), {}) := by
        rw [run_loop]
        simp (maxSteps := 10000000) [-List.getD_eq_getElem?_getD, body21_0, keep21_0, headW, ints, hlt, ha, hv]
        exact ⟨_, rfl⟩
      obtain ⟨L, hL⟩ := key
      exact ⟨L, .inr (by rw [hL]; simp [idx, hv])⟩
    · have key : run Cv 21 (.loop keep21_0 body21_0) (headW (.sl 1 (ints l0) c) v k) {} = run Cv 21 (.loop keep21_0 body21_0) (headW (.sl 1 (ints l0) c) v (k + 1)) {} := by
        rw [run_loop]
        generalize MC.loop keep21_0 body21_0 = L
        simp (maxSteps := 10000000) [-List.getD_eq_getElem?_getD, body21_0, keep21_0, headW, ints, hlt, ha, hv, hw, hu]
      rw [key]
      have := loopW l0 _ hr hl v l (k + 1) hlt hd
      simpa [idx, hv] using this
theorem where_call (l : List Int) (r : AV) (hr : IsRow 1 (ints l) r) (hl : l.length < 2 ^ 47) (v : Int) : call Cv 21 [r, I v] = some (I (idx v l 0)) := by
  obtain ⟨L, h⟩ := loopW l r hr hl v l 0 (Nat.zero_le _) rfl
  rw [call_run comp21 (Nat.le_of_ble_eq_true rfl)]
  rcases h with ⟨h, hi⟩ | h
  · have h' : ∀ E : Env, mask keep21_0 E = headW r v (0 : Nat) → run Cv 21 (.loop keep21_0 body21_0) E {} = some (.ex 0, mkE 19 .any L, {}) := fun E hE => by rw [run_loop_mask, hE]; exact h
    simp only [keep21_0, headW] at h'
    simp (maxSteps := 10000000) [-List.getD_eq_getElem?_getD, code21, keep21_0, h', hi]
  · have h' : ∀ E : Env, mask keep21_0 E = headW r v (0 : Nat) → run Cv 21 (.loop keep21_0 body21_0) E {} = some (.rt, mkE 19 .any ((4, I (idx v l 0)) :: L), {}) := fun E hE => by rw [run_loop_mask, hE]; exact h
    simp only [keep21_0, headW] at h'
    simp (maxSteps := 10000000) [-List.getD_eq_getElem?_getD, code21, keep21_0, h']
def headQ (r s : AV) (same : Bool) (k : Int) : Env := mkE 31 .any [(6, I k), (5, .bool same), (1, s), (0, r)]
theorem loopQ (l0 m0 : List Int) (r s : AV) (hr : IsRow 1 (ints l0) r) (hs : IsRow 1 (ints m0) s) (hl : l0.length < 2 ^ 47) (hlen : l0.length = m0.length) : ∀ (n k : Nat) (same : Bool), k + n = l0.length →
    ∃ L, run Cv 22 (.loop keep22_0 body22_0) (headQ r s same k) {} = some (.ex 0, mkE 31 .any L, {}) ∧ gt (mkE 31 .any L) 5 = .bool (same && decide (l0.drop k = m0.drop k))
  | n, k, false, hk => by
    rw [run_loop]
    simp (maxSteps := 10000000) [-List.getD_eq_getElem?_getD, body22_0, keep22_0, headQ]
    exact ⟨_, rfl, by simp (maxSteps := 10000000) [-List.getD_eq_getElem?_getD, ]⟩
  | 0, k, true, hk => by
    have h1 : l0.drop k = [] := List.drop_eq_nil_iff.2 (by omega)
    have h2 : m0.drop k = [] := List.drop_eq_nil_iff.2 (by omega)
    have h3 : ¬ k < l0.length := by omega
    have h4 := row_len hr
    rw [run_loop]
    simp (maxSteps := 10000000) [-List.getD_eq_getElem?_getD, body22_0, keep22_0, headQ, h1, h2, h3, h4]
    exact ⟨_, rfl, by simp (maxSteps := 10000000) [-List.getD_eq_getElem?_getD, ]⟩
  | n + 1, k, true, hk => by
    have hlt : k < l0.length := by omega
    have hlt' : k < m0.length := by omega
    have hw := wrap_succ hlt hl
    have hu := hr.under
    have hu' := hs.under
    obtain ⟨c, hc, rfl⟩ := row_sl hr (by rintro rfl; simp at hlt)
    obtain ⟨c', hc', rfl⟩ := row_sl hs (by rintro rfl; simp at hlt')
    simp only [ints] at hu hu'
    have key : run Cv 22 (.loop keep22_0 body22_0) (headQ (.sl 1 (ints l0) c) (.sl 1 (ints m0) c') true k) {} = run Cv 22 (.loop keep22_0 body22_0) (headQ (.sl 1 (ints l0) c) (.sl 1 (ints m0) c') (l0[k] == m0[k]) (k + 1)) {} := by
      rw [run_loop]
      generalize MC.loop keep22_0 body22_0 = L
      simp (maxSteps := 10000000) [-List.getD_eq_getElem?_getD, body22_0, keep22_0, headQ, ints, hlt, hlt', hw, hu, hu']
    obtain ⟨L, g1, g2⟩ := loopQ l0 m0 _ _ hr hs hl hlen n (k + 1) (l0[k] == m0[k]) (by omega)
    refine ⟨L, by rw [key]; exact g1, ?_⟩
    have hcons : ∀ (a b : Int) (p q : List Int), decide (a :: p = b :: q) = (a == b && decide (p = q)) := fun a b p q => by rw [Bool.eq_iff_iff]; simp
    rw [g2, List.drop_eq_getElem_cons hlt, List.drop_eq_getElem_cons hlt', hcons, Bool.true_and]
theorem equal_call (l m : List Int) (r s : AV) (hr : IsRow 1 (ints l) r) (hs : IsRow 1 (ints m) s) (hl : l.length < 2 ^ 47) (hm : m.length < 2 ^ 47) : call Cv 22 [r, s] = some (.bool (decide (l = m))) := by
  have h1 := row_len hr
  have h2 := row_len hs
  rw [call_run comp22 (Nat.le_of_ble_eq_true rfl)]
  by_cases hlen : l.length = m.length
  · obtain ⟨L, g1, g2⟩ := loopQ l m r s hr hs hl hlen l.length 0 true (by omega)
    have h' : ∀ E : Env, mask keep22_0 E = headQ r s true (0 : Nat) → run Cv 22 (.loop keep22_0 body22_0) E {} = some (.ex 0, mkE 31 .any L, {}) := fun E hE => by rw [run_loop_mask, hE]; exact g1
    simp only [keep22_0, headQ] at h'
    simp only [List.drop_zero, Bool.true_and] at g2
    simp (maxSteps := 10000000) [-List.getD_eq_getElem?_getD, code22, keep22_0, h1, h2, hlen, h', g2]
  · have hne : ((l.length : Int) == m.length) = false := by simp; omega
    have hne' : ¬ l = m := fun h => hlen (by rw [h])
    obtain ⟨L, g1, g2⟩ : ∃ L, run Cv 22 (.loop keep22_0 body22_0) (headQ r s false (0 : Nat)) {} = some (.ex 0, mkE 31 .any L, {}) ∧ gt (mkE 31 .any L) 5 = .bool false := by
      rw [run_loop]
      simp (maxSteps := 10000000) [-List.getD_eq_getElem?_getD, body22_0, keep22_0, headQ]
      exact ⟨_, rfl, by simp (maxSteps := 10000000) [-List.getD_eq_getElem?_getD, ]⟩
    have h' : ∀ E : Env, mask keep22_0 E = headQ r s false (0 : Nat) → run Cv 22 (.loop keep22_0 body22_0) E {} = some (.ex 0, mkE 31 .any L, {}) := fun E hE => by rw [run_loop_mask, hE]; exact g1
    simp only [keep22_0, headQ] at h'
    simp (maxSteps := 10000000) [-List.getD_eq_getElem?_getD, code22, keep22_0, h1, h2, hne, hne', h', g2]
end Go.Ai
