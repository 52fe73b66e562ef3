/- This text shows a list that grows. No conditions of its own. -/
import Derived.Test.YtckbmdbebmkbaaaDoorHelpF
import Derived.Test.YtckbmdbebmkbaaaDoorHelpE
import Derived.Test.YtckbmdbebmkbaaaDoorPlainG
set_option linter.unusedSimpArgs false
set_option linter.unusedVariables false
set_option maxRecDepth 100000
namespace Go.Ai
def head18 (r : AV) (T k : Int) : Env := mkE 39 .any [(5, I k), (1, I T), (0, r)]
theorem loop18 (l0 : List Int) (r : AV) (hr : IsRow 1 (ints l0) r) (hl : l0.length < 1000) (T : Int) (hT : 0 ≤ T) (hT' : T < 1000) (hu : l0.Pairwise (· < ·)) (hb : ∀ v ∈ l0, -1 ≤ v ∧ v ≤ T - 1) : ∀ (l : List Int) (k : Nat), k ≤ l0.length → l0.drop k = l →
    ∃ L, run Cv 18 (.loop keep18_0 body18_0) (head18 r T k) {} = some (.ex 0, mkE 39 .any L, {}) ∧ gt (mkE 39 .any L) 0 = r
  | [], k, hk, h => by
    obtain rfl := drop_nil hk h
    have hlen := row_len hr
    rw [run_loop]
    simp (maxSteps := 10000000) [-List.getD_eq_getElem?_getD, body18_0, keep18_0, head18, hlen]
    exact ⟨_, rfl, by simp (maxSteps := 10000000) [-List.getD_eq_getElem?_getD, ]⟩
  | a :: l, k, hk, h => by
    obtain ⟨hlt, ha, hd⟩ := head_drop h
    have hw := wrap_succ hlt (by omega)
    have hlt' : (k : Int) < (l0.length : Int) := by omega
    have hlen := row_len hr
    have hm := hb a (by rw [← ha]; exact List.getElem_mem _)
    have w1 : IntKind.wrap .i64 (T - 1) = T - 1 := wrap_small (by omega) (by omega)
    have hlc := lies_call a (-1) (T - 1)
    have hlb : (decide (-1 ≤ a) && decide (a ≤ T - 1)) = true := by simp; omega
    rw [hlb] at hlc
    have hru := hr.under
    have hix : ixsA 1 r (I k) = some (.rp [I a] 0) := by
      obtain ⟨c, hc, rfl⟩ := row_sl hr (by intro hn; rw [hn] at hlt; simp at hlt)
      simp [ixsA, ints, AV.cells, hlt, ha]
    have hlr : ∀ (n : Int), loadA {} none (.rp [I n] 0) = some (I n) := fun _ => rfl
    obtain ⟨L, ih, g⟩ := loop18 l0 r hr hl T hT hT' hu hb l (k + 1) hlt hd
    refine ⟨L, ?_, g⟩
    have e1 : ((k + 1 : Nat) : Int) = (k : Int) + 1 := by omega
    rw [← ih, e1, run_loop]
    generalize MC.loop keep18_0 body18_0 = LL
    by_cases hk0 : k = 0
    · subst hk0
      have hw1 : IntKind.wrap .i64 1 = 1 := by decide
      have e0 : ((0 : Nat) : Int) = 0 := rfl
      rw [e0] at hix hlt' ⊢
      simp (maxSteps := 10000000) [-List.getD_eq_getElem?_getD, -ixsA, -loadA, body18_0, keep18_0, head18, hlen, hlt', hlt, hix, hlr, w1, hlc, hw1, hru]
    · obtain ⟨m, rfl⟩ : ∃ m, k = m + 1 := ⟨k - 1, by omega⟩
      have hml : m < l0.length := by omega
      have hw3 : IntKind.wrap .i64 (((m + 1 : Nat) : Int) - 1) = (m : Nat) := by rw [wrap_small (by omega) (by omega)]; omega
      have hp : l0[m] < a := by
        rw [← ha]
        exact List.pairwise_iff_getElem.1 hu m (m + 1) hml hlt (by omega)
      have hix2 : ixsA 1 r (I (m : Nat)) = some (.rp [I l0[m]] 0) := by
        obtain ⟨c, hc, rfl⟩ := row_sl hr (by intro hn; rw [hn] at hlt; simp at hlt)
        simp [ixsA, ints, AV.cells, hml]
      generalize l0[m] = pv at *
      have hgt : (0 : Int) < ((m + 1 : Nat) : Int) := by omega
      have hnle : ¬ a ≤ pv := by omega
      generalize ((m + 1 : Nat) : Int) = K at *
      simp (maxSteps := 10000000) [-List.getD_eq_getElem?_getD, -ixsA, -loadA, body18_0, keep18_0, head18, hlen, hlt', hix, hix2, hlr, w1, hlc, hw, hw3, hgt, hnle, hru]
theorem grown_call (l0 : List Int) (r : AV) (hr : IsRow 1 (ints l0) r) (hl : l0.length < 1000) (T : Int) (hT : 0 ≤ T) (hT' : T < 1000) (hu : l0.Pairwise (· < ·)) (hb : ∀ v ∈ l0, -1 ≤ v ∧ v ≤ T - 1) (hn : l0 ≠ []) : call Cv 18 [r, I T] = some (.bool true) := by
  obtain ⟨L, h, g⟩ := loop18 l0 r hr hl T hT hT' hu hb l0 0 (Nat.zero_le _) rfl
  have h' := fun E (hE : mask keep18_0 E = _) => run_at h hE
  have e0 : ((0 : Nat) : Int) = 0 := rfl
  simp only [keep18_0, head18, e0] at h'
  have hlen := row_len hr
  have hpos : (0 : Int) < (l0.length : Int) := by
    have : l0.length ≠ 0 := fun h => hn (List.eq_nil_of_length_eq_zero h)
    omega
  have hpos' : 0 < l0.length := by omega
  rw [call_run comp18 (Nat.le_of_ble_eq_true rfl)]
  simp (maxSteps := 10000000) [-List.getD_eq_getElem?_getD, code18, keep18_0, h', g, hlen, hpos, hpos', hn]
end Go.Ai
