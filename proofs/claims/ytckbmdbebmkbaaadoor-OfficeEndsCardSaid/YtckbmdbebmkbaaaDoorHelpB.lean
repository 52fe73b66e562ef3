/- This text shows what more helpers of all layers answer. No conditions of its own. -/
import Derived.Test.YtckbmdbebmkbaaaDoorHelp
set_option linter.unusedSimpArgs false
set_option linter.unusedVariables false
set_option maxRecDepth 100000
namespace Go.Ai
open Go.Least
def ordF (T : Int) : Int → List Int → Bool
  | _, [] => true
  | p, a :: l => (decide (0 ≤ a) && decide (a ≤ T - 1)) && decide (p < a) && ordF T a l
def prevI (l0 : List Int) (k : Nat) : Int := if k = 0 then -1 else l0.getD (k - 1) 0
def headO (r : AV) (n k : Int) : Env := mkE 36 .any [(5, I k), (1, I n), (0, r)]
theorem loopO (l0 : List Int) (r : AV) (hr : IsRow 1 (ints l0) r) (hl : l0.length < 2 ^ 47) (T : Int) (hT : 0 ≤ T) (hT' : T < 2 ^ 62) : ∀ (l : List Int) (k : Nat), k ≤ l0.length → l0.drop k = l →
    ∃ L, (run Cv 36 (.loop keep36_0 body36_0) (headO r T k) {} = some (.ex 0, mkE 36 .any L, {}) ∧ ordF T (prevI l0 k) l = true) ∨ (run Cv 36 (.loop keep36_0 body36_0) (headO r T k) {} = some (.rt, mkE 36 .any ((4, .bool false) :: L), {}) ∧ ordF T (prevI l0 k) l = false)
  | [], k, hk, h => by
    obtain rfl := drop_nil hk h
    have h1 := row_len hr
    have key : ∃ L, run Cv 36 (.loop keep36_0 body36_0) (headO r T l0.length) {} = some (.ex 0, mkE 36 .any L, {}) := by
      rw [run_loop]
      simp (maxSteps := 10000000) [-List.getD_eq_getElem?_getD, body36_0, keep36_0, headO, h1]
      exact ⟨_, rfl⟩
    obtain ⟨L, hL⟩ := key
    exact ⟨L, .inl ⟨hL, rfl⟩⟩
  | a :: l, k, hk, h => by
    obtain ⟨hlt, ha, hd⟩ := head_drop h
    have hw := wrap_succ hlt hl
    have hw2 : IntKind.wrap .i64 (T - 1) = T - 1 := wrap_small (by omega) (by omega)
    have hlc := lies_call a 0 (T - 1)
    have hu := hr.under
    have hnx : prevI l0 (k + 1) = a := by simp [prevI, ha, hlt]
    obtain ⟨c, hc, rfl⟩ := row_sl hr (by rintro rfl; simp at hlt)
    simp only [ints] at hu
    cases hb : (decide (0 ≤ a) && decide (a ≤ T - 1)) with
    | false =>
      rw [hb] at hlc
      have key : ∃ L, run Cv 36 (.loop keep36_0 body36_0) (headO (.sl 1 (ints l0) c) T k) {} = some (.rt, mkE 36 .any ((4, .bool false) :: L), {}) := by
        rw [run_loop]
        simp (maxSteps := 10000000) [-List.getD_eq_getElem?_getD, body36_0, keep36_0, headO, ints, hlt, ha, hw2, hlc]
        exact ⟨_, rfl⟩
      obtain ⟨L, hL⟩ := key
      exact ⟨L, .inr ⟨hL, by simp only [ordF, hb, Bool.false_and]⟩⟩
    | true =>
      rw [hb] at hlc
      by_cases hk0 : k = 0
      · subst hk0
        have hp : prevI l0 0 < a := by
          have : 0 ≤ a := by simp at hb; omega
          simp [prevI]; omega
        have hw1 : IntKind.wrap .i64 1 = 1 := by decide
        have key : run Cv 36 (.loop keep36_0 body36_0) (headO (.sl 1 (ints l0) c) T (0 : Nat)) {} = run Cv 36 (.loop keep36_0 body36_0) (headO (.sl 1 (ints l0) c) T ((0 : Nat) + 1)) {} := by
          rw [run_loop]
          generalize MC.loop keep36_0 body36_0 = L
          simp (maxSteps := 10000000) [-List.getD_eq_getElem?_getD, body36_0, keep36_0, headO, ints, hlt, ha, hw2, hlc, hw1, hu]
        rw [key]
        have := loopO l0 _ hr hl T hT hT' l 1 hlt hd
        rw [hnx] at this
        simp only [ordF, hb, hp, decide_true, Bool.true_and]
        exact this
      · have hkp : 0 < k := by omega
        have hw3 : IntKind.wrap .i64 ((k : Int) - 1) = ((k - 1 : Nat) : Int) := by rw [wrap_small (by omega) (by omega)]; omega
        have hlt' : k - 1 < l0.length := by omega
        have hpv : prevI l0 k = l0[k - 1] := by simp [prevI, hk0, hlt']
        by_cases hp : a ≤ l0[k - 1]
        · have key : ∃ L, run Cv 36 (.loop keep36_0 body36_0) (headO (.sl 1 (ints l0) c) T k) {} = some (.rt, mkE 36 .any ((4, .bool false) :: L), {}) := by
            rw [run_loop]
            simp (maxSteps := 10000000) [-List.getD_eq_getElem?_getD, body36_0, keep36_0, headO, ints, hlt, ha, hw2, hlc, hkp, hw3, hlt', hp]
            exact ⟨_, rfl⟩
          obtain ⟨L, hL⟩ := key
          have : ¬ l0[k - 1] < a := by omega
          exact ⟨L, .inr ⟨hL, by simp only [ordF, hpv, this, decide_false, Bool.and_false, Bool.false_and]⟩⟩
        · have key : run Cv 36 (.loop keep36_0 body36_0) (headO (.sl 1 (ints l0) c) T k) {} = run Cv 36 (.loop keep36_0 body36_0) (headO (.sl 1 (ints l0) c) T (k + 1)) {} := by
            rw [run_loop]
            generalize MC.loop keep36_0 body36_0 = L
            simp (maxSteps := 10000000) [-List.getD_eq_getElem?_getD, body36_0, keep36_0, headO, ints, hlt, ha, hw2, hlc, hkp, hw3, hlt', hp, hw, hu]
          rw [key]
          have := loopO l0 _ hr hl T hT hT' l (k + 1) hlt hd
          rw [hnx] at this
          have hp' : l0[k - 1] < a := by omega
          simp only [ordF, hb, hpv, hp', decide_true, Bool.true_and]
          exact this
theorem ord_call (l : List Int) (r : AV) (hr : IsRow 1 (ints l) r) (hl : l.length < 2 ^ 47) (T : Int) (hT : 0 ≤ T) (hT' : T < 2 ^ 62) : call Cv 36 [r, I T] = some (.bool (ordF T (-1) l)) := by
  obtain ⟨L, h⟩ := loopO l r hr hl T hT hT' l 0 (Nat.zero_le _) rfl
  have hp : prevI l 0 = -1 := rfl
  rw [hp] at h
  rw [call_run comp36 (Nat.le_of_ble_eq_true rfl)]
  rcases h with ⟨h, hi⟩ | ⟨h, hi⟩
  · have h' : ∀ E : Env, mask keep36_0 E = headO r T (0 : Nat) → run Cv 36 (.loop keep36_0 body36_0) E {} = some (.ex 0, mkE 36 .any L, {}) := fun E hE => by rw [run_loop_mask, hE]; exact h
    simp only [keep36_0, headO] at h'
    simp (maxSteps := 10000000) [-List.getD_eq_getElem?_getD, code36, keep36_0, h', hi]
  · have h' : ∀ E : Env, mask keep36_0 E = headO r T (0 : Nat) → run Cv 36 (.loop keep36_0 body36_0) E {} = some (.rt, mkE 36 .any ((4, .bool false) :: L), {}) := fun E hE => by rw [run_loop_mask, hE]; exact h
    simp only [keep36_0, headO] at h'
    simp (maxSteps := 10000000) [-List.getD_eq_getElem?_getD, code36, keep36_0, h', hi]
theorem inc_ord (T : Nat) : ∀ (l : List Int) (k p : Int), p < k → 0 ≤ k → incFrom T k l → ordF T p l = true
  | [], _, _, _, _, _ => rfl
  | a :: l, k, p, hp, hk, h => by
    obtain ⟨h1, h2, h3⟩ := h
    simp only [ordF, Bool.and_eq_true, decide_eq_true_eq]
    exact ⟨⟨⟨by omega, by omega⟩, by omega⟩, inc_ord T l (a + 1) a (by omega) (by omega) h3⟩
theorem and1 (m : Nat) : m < 2 ^ 62 → IntKind.wrap .i64 ((BitVec.ofInt 64 (m : Int) &&& BitVec.ofInt 64 1).toNat : Int) = ((m % 2 : Nat) : Int) := by
  intro h
  have : (BitVec.ofInt 64 (m : Int) &&& BitVec.ofInt 64 1).toNat = m % 2 := by
    rw [BitVec.toNat_and]
    have h1 : (BitVec.ofInt 64 (m : Int)).toNat = m := by
      rw [BitVec.toNat_ofInt]; omega
    have h2 : (BitVec.ofInt 64 (1 : Int)).toNat = 1 := by decide
    rw [h1, h2, Nat.and_one_is_mod]
  rw [this]
  exact wrap_small (by omega) (by omega)
theorem shr_and (set k : Nat) (hs : set < 2 ^ 62) : IntKind.wrap .i64 ((BitVec.ofInt 64 ((set : Int) / 2 ^ k) &&& 1#64).toNat : Int) = ((set / 2 ^ k % 2 : Nat) : Int) := by
  have hlt : set / 2 ^ k < 2 ^ 62 := Nat.lt_of_le_of_lt (Nat.div_le_self _ _) hs
  have e : ((set : Int) / 2 ^ k) = ((set / 2 ^ k : Nat) : Int) := by norm_cast
  rw [e]; exact and1 _ hlt
theorem bit_eq (set k : Nat) : (((set / 2 ^ k % 2 : Nat) : Int) == 1) = set.testBit k := by
  rw [Nat.testBit_eq_decide_div_mod_eq, Bool.eq_iff_iff, beq_iff_eq, decide_eq_true_eq]
  exact ⟨fun h => by exact_mod_cast h, fun h => by exact_mod_cast h⟩
theorem has_call (set : Nat) (hs : set < 2 ^ 62) (n : Int) : call Cv 65 [I set, I n] = some (.bool (hasB set n)) := by
  rw [call_run comp65 (Nat.le_of_ble_eq_true rfl)]
  by_cases h0 : 0 ≤ n
  · by_cases h1 : n < 62
    · obtain ⟨k, rfl⟩ := Int.eq_ofNat_of_zero_le h0
      have hk : k < 62 := by omega
      have hmin : min k 64 = k := by omega
      have hsh : Int.fdiv (set : Int) (2 ^ k) = ((set / 2 ^ k : Nat) : Int) := by
        rw [Int.fdiv_eq_ediv_of_nonneg _ (by exact Int.le_of_lt (Int.pow_pos (by decide)))]
        norm_cast
      have hneg : ¬ (k : Int) < 0 := by omega
      have hbit := bit_eq set k
      simp (maxSteps := 10000000) [-List.getD_eq_getElem?_getD, code65, h0, h1, binI, hneg, IntKind.bits, hmin, hsh, hasB, hk]
      rw [← hbit]
      exact congrArg (fun z : Int => z == 1) (shr_and set k hs)
    · simp (maxSteps := 10000000) [-List.getD_eq_getElem?_getD, code65, h0, h1, hasB]
  · simp (maxSteps := 10000000) [-List.getD_eq_getElem?_getD, code65, h0, hasB]
def outV (out : List Int) : AV := if out = [] then .sl 1 [] .full else .sl 1 (ints out) (.chain 0)
def outC (out : List Int) : List (Nat × Nat) := if out = [] then [] else [(out.length, 1)]
theorem outV_pur (out : List Int) : ∃ r, (∀ σ n, pur σ (n + 1) (outV out) = some (r, false)) ∧ IsRow 1 (ints out) r := by
  unfold outV
  split
  · rename_i h; exact ⟨_, fun _ _ => rfl, .inr (.inr ⟨.full, rfl, by rw [h]; rfl⟩)⟩
  · exact ⟨_, fun _ _ => rfl, .inr (.inr ⟨.no, rfl, rfl⟩)⟩
def headB (set below : Int) (out : List Int) (k : Int) : Env := mkE 21 .any [(6, I k), (5, outV out), (1, I below), (0, I set)]
def stB (out : List Int) : St := { chains := outC out }
theorem loopB (set : Nat) (hset : set < 2 ^ 62) (T : Nat) (hT : T < 1000) : ∀ (n k : Nat) (out : List Int), k + n = T → out.length ≤ k →
    ∃ L, run Cv 37 (.loop keep37_0 body37_0) (headB set T out k) (stB out) = some (.ex 0, mkE 21 .any L, stB (out ++ sel (fun i => hasB set i) k n)) ∧ gt (mkE 21 .any L) 5 = outV (out ++ sel (fun i => hasB set i) k n)
  | 0, k, out, hk, ho => by
    have : k = T := by omega
    subst this
    rw [run_loop]
    simp (maxSteps := 10000000) [-List.getD_eq_getElem?_getD, body37_0, keep37_0, headB, stB, sel]
    exact ⟨_, rfl, by simp (maxSteps := 10000000) [-List.getD_eq_getElem?_getD, ]⟩
  | n + 1, k, out, hk, ho => by
    have hlt : k < T := by omega
    have hw := wrap_succ hlt (by omega)
    have hh := has_call set hset k
    have hbytes : (out.length + 1) * 8 ≤ 140737488355328 := by omega
    have key : run Cv 37 (.loop keep37_0 body37_0) (headB set T out k) (stB out) = run Cv 37 (.loop keep37_0 body37_0) (headB set T (out ++ if hasB set k then [(k : Int)] else []) (k + 1)) (stB (out ++ if hasB set k then [(k : Int)] else [])) := by
      rw [run_loop]
      generalize MC.loop keep37_0 body37_0 = L
      cases hp : hasB set k with
      | false =>
        rw [hp] at hh
        by_cases ho' : out = []
        · simp (maxSteps := 10000000) [-List.getD_eq_getElem?_getD, body37_0, keep37_0, headB, stB, outV, outC, hlt, hh, hw, under, ho']
        · simp (maxSteps := 10000000) [-List.getD_eq_getElem?_getD, body37_0, keep37_0, headB, stB, outV, outC, hlt, hh, hw, under, ho']
      | true =>
        rw [hp] at hh
        by_cases ho' : out = []
        · simp (maxSteps := 10000000) [-List.getD_eq_getElem?_getD, body37_0, keep37_0, headB, stB, outV, outC, hlt, hh, hw, under, ho', fillE, AV.isAgg, appA, elemsA, grown, ints, @all_f 21 .any _ _ 5]
        · simp (maxSteps := 10000000) [-List.getD_eq_getElem?_getD, body37_0, keep37_0, headB, stB, outV, outC, hlt, hh, hw, under, ho', fillE, AV.isAgg, appA, elemsA, grown, ints, hbytes]
    rw [key]
    have := loopB set hset T hT n (k + 1) (out ++ if hasB set k then [(k : Int)] else []) (by omega) (by split <;> simp <;> omega)
    simpa [sel, List.append_assoc] using this
theorem bits_call (set : Nat) (hset : set < 2 ^ 62) (T : Nat) (hT : T < 1000) : ∃ y, IsRow 1 (ints (bitsL set T)) y ∧ call Cv 37 [I set, I T] = some y := by
  obtain ⟨L, hl, hL⟩ := loopB set hset T hT T 0 [] (by omega) (by simp)
  obtain ⟨y, p1, p2⟩ := outV_pur (bitsL set T)
  rw [List.nil_append] at hl hL
  change run _ _ _ _ _ = some (.ex 0, _, stB (bitsL set T)) at hl
  change gt _ 5 = outV (bitsL set T) at hL
  have h' : ∀ E : Env, mask keep37_0 E = headB set T [] (0 : Nat) → run Cv 37 (.loop keep37_0 body37_0) E {} = some (.ex 0, mkE 21 .any L, stB (bitsL set T)) := fun E hE => by rw [run_loop_mask, hE]; exact hl
  simp only [keep37_0, headB, outV, if_true] at h'
  refine ⟨y, p2, ?_⟩
  rw [call_run comp37 (Nat.le_of_ble_eq_true rfl)]
  simp (maxSteps := 10000000) [-List.getD_eq_getElem?_getD, code37, keep37_0, fillE, h', hL, p1]
theorem earlier_len : ∀ (l m : List Int), l = [] ∨ m = [] → earlierL l m = decide (l.length < m.length)
  | [], [], _ => rfl
  | [], _ :: _, _ => by simp [earlierL]
  | _ :: _, [], _ => by simp [earlierL]
  | _ :: _, _ :: _, h => by rcases h with h | h <;> cases h
def headE (r s : AV) (k : Int) : Env := mkE 41 .any [(5, I k), (1, s), (0, r)]
theorem loopE (l0 m0 : List Int) (r s : AV) (hr : IsRow 1 (ints l0) r) (hs : IsRow 1 (ints m0) s) (hl : l0.length < 2 ^ 47) (hm : m0.length < 2 ^ 47) : ∀ (n k : Nat), k + n = min l0.length m0.length → l0.take k = m0.take k →
    ∃ L, (run Cv 66 (.loop keep66_0 body66_0) (headE r s k) {} = some (.ex 0, mkE 41 .any L, {}) ∧ gt (mkE 41 .any L) 0 = r ∧ gt (mkE 41 .any L) 1 = s ∧ earlierL (l0.drop k) (m0.drop k) = decide (l0.length < m0.length)) ∨
      run Cv 66 (.loop keep66_0 body66_0) (headE r s k) {} = some (.rt, mkE 41 .any ((4, .bool (earlierL (l0.drop k) (m0.drop k))) :: L), {})
  | 0, k, hk, ht => by
    have h1 := row_len hr
    have h2 := row_len hs
    have he : earlierL (l0.drop k) (m0.drop k) = decide (l0.length < m0.length) := by
      rw [earlier_len]
      · simp only [List.length_drop, decide_eq_decide]; omega
      · rcases Nat.le_total l0.length m0.length with h | h
        · left; exact List.drop_eq_nil_iff.2 (by omega)
        · right; exact List.drop_eq_nil_iff.2 (by omega)
    have key : ∃ L, run Cv 66 (.loop keep66_0 body66_0) (headE r s k) {} = some (.ex 0, mkE 41 .any L, {}) ∧ gt (mkE 41 .any L) 0 = r ∧ gt (mkE 41 .any L) 1 = s := by
      by_cases hkl : k < l0.length
      · have hkm : ¬ k < m0.length := by omega
        rw [run_loop]
        simp (maxSteps := 10000000) [-List.getD_eq_getElem?_getD, body66_0, keep66_0, headE, h1, h2, hkl, hkm]
        exact ⟨_, rfl, by simp (maxSteps := 10000000) [-List.getD_eq_getElem?_getD, ], by simp (maxSteps := 10000000) [-List.getD_eq_getElem?_getD, ]⟩
      · rw [run_loop]
        simp (maxSteps := 10000000) [-List.getD_eq_getElem?_getD, body66_0, keep66_0, headE, h1, h2, hkl]
        exact ⟨_, rfl, by simp (maxSteps := 10000000) [-List.getD_eq_getElem?_getD, ], by simp (maxSteps := 10000000) [-List.getD_eq_getElem?_getD, ]⟩
    obtain ⟨L, g1, g2, g3⟩ := key
    exact ⟨L, .inl ⟨g1, g2, g3, he⟩⟩
  | n + 1, k, hk, ht => by
    have hkl : k < l0.length := by omega
    have hkm : k < m0.length := by omega
    have hw := wrap_succ hkl hl
    have hur := hr.under
    have hus := hs.under
    obtain ⟨c, hc, rfl⟩ := row_sl hr (by rintro rfl; simp at hkl)
    obtain ⟨c', hc', rfl⟩ := row_sl hs (by rintro rfl; simp at hkm)
    simp only [ints] at hur hus
    rw [List.drop_eq_getElem_cons hkl, List.drop_eq_getElem_cons hkm]
    by_cases hab : l0[k] = m0[k]
    · have key : run Cv 66 (.loop keep66_0 body66_0) (headE (.sl 1 (ints l0) c) (.sl 1 (ints m0) c') k) {} = run Cv 66 (.loop keep66_0 body66_0) (headE (.sl 1 (ints l0) c) (.sl 1 (ints m0) c') (k + 1)) {} := by
        rw [run_loop]
        generalize MC.loop keep66_0 body66_0 = L
        simp (maxSteps := 10000000) [-List.getD_eq_getElem?_getD, body66_0, keep66_0, headE, ints, hkl, hkm, hab, hw, hur, hus]
      rw [key]
      have := loopE l0 m0 _ _ hr hs hl hm n (k + 1) (by omega) (by
        rw [List.take_succ_eq_append_getElem hkl, List.take_succ_eq_append_getElem hkm, ht, hab])
      simpa [earlierL, hab] using this
    · have key : ∃ L, run Cv 66 (.loop keep66_0 body66_0) (headE (.sl 1 (ints l0) c) (.sl 1 (ints m0) c') k) {} = some (.rt, mkE 41 .any ((4, .bool (decide (l0[k] < m0[k]))) :: L), {}) := by
        rw [run_loop]
        simp (maxSteps := 10000000) [-List.getD_eq_getElem?_getD, body66_0, keep66_0, headE, ints, hkl, hkm, hab, hw, hur, hus]
        exact ⟨_, rfl⟩
      obtain ⟨L, g1⟩ := key
      exact ⟨L, .inr (by rw [g1]; simp [earlierL, hab])⟩
theorem earlier_call (l m : List Int) (r s : AV) (hr : IsRow 1 (ints l) r) (hs : IsRow 1 (ints m) s) (hl : l.length < 2 ^ 47) (hm : m.length < 2 ^ 47) : call Cv 66 [r, s] = some (.bool (earlierL l m)) := by
  have h1 := row_len hr
  have h2 := row_len hs
  obtain ⟨L, h⟩ := loopE l m r s hr hs hl hm (min l.length m.length) 0 (by omega) rfl
  simp only [List.drop_zero] at h
  rw [call_run comp66 (Nat.le_of_ble_eq_true rfl)]
  rcases h with ⟨h, g0, g1, g2⟩ | h
  · have h' : ∀ E : Env, mask keep66_0 E = headE r s (0 : Nat) → run Cv 66 (.loop keep66_0 body66_0) E {} = some (.ex 0, mkE 41 .any L, {}) := fun E hE => by rw [run_loop_mask, hE]; exact h
    simp only [keep66_0, headE] at h'
    simp (maxSteps := 10000000) [-List.getD_eq_getElem?_getD, code66, keep66_0, h', g0, g1, g2, h1, h2]
  · have h' : ∀ E : Env, mask keep66_0 E = headE r s (0 : Nat) → run Cv 66 (.loop keep66_0 body66_0) E {} = some (.rt, mkE 41 .any ((4, .bool (earlierL l m)) :: L), {}) := fun E hE => by rw [run_loop_mask, hE]; exact h
    simp only [keep66_0, headE] at h'
    simp (maxSteps := 10000000) [-List.getD_eq_getElem?_getD, code66, keep66_0, h']
theorem shorter_call (l m : List Int) (r s : AV) (hr : IsRow 1 (ints l) r) (hs : IsRow 1 (ints m) s) (hl : l.length < 2 ^ 47) (hm : m.length < 2 ^ 47) : call Cv 39 [r, s] = some (.bool (shorterL l m)) := by
  have h1 := row_len hr
  have h2 := row_len hs
  have h3 := earlier_call l m r s hr hs hl hm
  have p1 := hr.pur
  have p2 := hs.pur
  rw [call_run comp39 (Nat.le_of_ble_eq_true rfl)]
  by_cases q1 : l.length < m.length
  · simp (maxSteps := 10000000) [-List.getD_eq_getElem?_getD, code39, h1, h2, q1, shorterL]
  · by_cases q2 : l.length = m.length
    · simp (maxSteps := 10000000) [-List.getD_eq_getElem?_getD, code39, h1, h2, q2, shorterL, p1, p2, h3]
    · have q3 : ((l.length : Int) == m.length) = false := by simp; omega
      simp (maxSteps := 10000000) [-List.getD_eq_getElem?_getD, code39, h1, h2, q1, q2, q3, shorterL]
end Go.Ai
