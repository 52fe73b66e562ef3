/- This text shows rows that rise are sorted and compacted. No conditions of its own. -/
import Derived.Test.YtknklhodhkohlaaDoorFnF
set_option linter.unusedSimpArgs false
set_option linter.unusedVariables false
set_option maxRecDepth 100000
namespace Go.Ai
def upL (l : List Int) : Prop := ∀ i j, i ≤ j → j < l.length → l.getD i 0 ≤ l.getD j 0
def srow (l : List Int) : AV := .sl 1 (ints l) .no
theorem s_ix (l : List Int) {i : Nat} (h : i < l.length) : ixsA 1 (.sl 1 (ints l) .no) (I i) = some (.rp [I (l.getD i 0)] 0) := by
  have hl : (ints l).length = l.length := by simp [ints]
  have h1 : (i : Int) < ((ints l).length : Int) := by rw [hl]; omega
  have h0 : (0 : Int) ≤ i := by omega
  have hg : (ints l)[i]? = some (I (l.getD i 0)) := by
    simp [ints, h]
  simp only [ixsA, h0, h1, Int.toNat_natCast, hg, and_self, if_true, Option.map_some, AV.cells]
theorem s_ix' (l : List Int) {n : Int} (i : Nat) (hn : n = i) (h : i < l.length) : ixsA 1 (.sl 1 (ints l) .no) (I n) = some (.rp [I (l.getD i 0)] 0) := by rw [hn]; exact s_ix l h
theorem isnan_call (a : Int) : call Cv 113 [I a] = some (.bool false) := by
  rw [call_run comp113 (Nat.le_of_ble_eq_true rfl)]
  simp (maxSteps := 10000000) [-List.getD_eq_getElem?_getD, code113]
theorem less_call (a b : Int) : call Cv 100 [I a, I b] = some (.bool (decide (a < b))) := by
  have h := isnan_call a
  rw [call_run comp100 (Nat.le_of_ble_eq_true rfl)]
  simp (maxSteps := 10000000) [-List.getD_eq_getElem?_getD, code100, h]
theorem order2_call (l : List Int) (hu : upL l) (a b : Nat) (hab : a ≤ b) (hb : b < l.length) (sw : AV) : call Cv 115 [srow l, I a, I b, sw] = some (.tup [I a, I b]) := by
  have h1 := s_ix l hb
  have h2 := s_ix l (i := a) (by omega)
  have h3 := less_call (l.getD b 0) (l.getD a 0)
  have h4 : decide (l.getD b 0 < l.getD a 0) = false := decide_eq_false (Int.not_lt.2 (hu a b hab hb))
  rw [h4] at h3
  have hlr : ∀ (σ : St) n, loadA σ none (.rp [I n] 0) = some (I n) := fun _ _ => rfl
  rw [srow, call_run comp115 (Nat.le_of_ble_eq_true rfl)]
  simp (maxSteps := 10000000) [-List.getD_eq_getElem?_getD, -ixsA, -loadA, code115, h1, h2, h3, hlr, ret2]
theorem median_call (l : List Int) (hu : upL l) (a b c : Nat) (hab : a ≤ b) (hbc : b ≤ c) (hc : c < l.length) (sw : AV) (hp : ∀ σ n, pur σ (n + 1) sw = some (sw, false)) : call Cv 112 [srow l, I a, I b, I c, sw] = some (I b) := by
  have h1 := order2_call l hu a b hab (by omega) sw
  have h2 := order2_call l hu b c hbc hc sw
  simp only [srow] at h1 h2 ⊢
  rw [call_run comp112 (Nat.le_of_ble_eq_true rfl)]
  simp (maxSteps := 10000000) [-List.getD_eq_getElem?_getD, code112, h1, h2, hp]
theorem medianAdj_call (l : List Int) (hu : upL l) (a : Nat) (ha : 1 ≤ a) (hc : a + 1 < l.length) (hl : l.length < 1000) (sw : AV) (hp : ∀ σ n, pur σ (n + 1) sw = some (sw, false)) : call Cv 111 [srow l, I a, sw] = some (I a) := by
  obtain ⟨m, rfl⟩ : ∃ m, a = m + 1 := ⟨a - 1, by omega⟩
  have h1 := median_call l hu m (m + 1) (m + 1 + 1) (by omega) (by omega) hc sw hp
  have w1 : IntKind.wrap .i64 (((m + 1 : Nat) : Int) - 1) = (m : Nat) := by rw [wrap_small (by omega) (by omega)]; omega
  have w2 : IntKind.wrap .i64 (((m + 1 : Nat) : Int) + 1) = ((m + 1 + 1 : Nat) : Int) := by rw [wrap_small (by omega) (by omega)]; omega
  generalize ((m + 1 : Nat) : Int) = A at *
  generalize ((m + 1 + 1 : Nat) : Int) = B at *
  simp only [srow] at h1 ⊢
  rw [call_run comp111 (Nat.le_of_ble_eq_true rfl)]
  simp (maxSteps := 10000000) [-List.getD_eq_getElem?_getD, code111, h1, hp, w1, w2]
end Go.Ai

set_option maxRecDepth 100000
namespace Go.Ai
theorem less_up {l : List Int} (hu : upL l) {i : Nat} (h0 : 1 ≤ i) (hi : i < l.length) : call Cv 100 [I (l.getD i 0), I (l.getD (i - 1) 0)] = some (.bool false) := by
  rw [less_call]
  have := hu (i - 1) i (by omega) hi
  rw [decide_eq_false (Int.not_lt.2 this)]
theorem load_rp1 (σ : St) (n : Int) : loadA σ none (.rp [I n] 0) = some (I n) := rfl
def head94a (l : List Int) (i j : Int) : Env := mkE 49 .any [(7, I j), (6, I i), (2, I l.length), (1, I 0), (0, srow l)]
theorem loop94a (l : List Int) (hu : upL l) (hl : l.length < 1000) (i : Nat) (h0 : 1 ≤ i) (hi : i < l.length) : ∃ L, run Cv 94 (.loop keep94_0 body94_0) (head94a l i i) {} = some (.ex 2, mkE 49 .any L, {}) ∧ gt (mkE 49 .any L) 6 = I i ∧ gt (mkE 49 .any L) 2 = I l.length ∧ gt (mkE 49 .any L) 1 = I 0 ∧ gt (mkE 49 .any L) 0 = srow l := by
  obtain ⟨m, rfl⟩ : ∃ m, i = m + 1 := ⟨i - 1, by omega⟩
  have hx1 := s_ix l hi
  have hx2 := s_ix l (i := m) (by omega)
  have hls := less_up hu h0 hi
  rw [Nat.add_sub_cancel] at hls
  have w1 : IntKind.wrap .i64 (((m + 1 : Nat) : Int) - 1) = (m : Nat) := by rw [wrap_small (by omega) (by omega)]; omega
  have hgt : (0 : Int) < ((m + 1 : Nat) : Int) := by omega
  generalize ((m + 1 : Nat) : Int) = A at *
  generalize l.getD (m + 1) 0 = p at *
  generalize l.getD m 0 = q at *
  rw [run_loop]
  simp (maxSteps := 10000000) [-List.getD_eq_getElem?_getD, -ixsA, -loadA, body94_0, keep94_0, head94a, srow, hgt, hx1, hx2, w1, load_rp1, hls]
  exact ⟨_, rfl, by simp (maxSteps := 10000000) [-List.getD_eq_getElem?_getD, ], by simp (maxSteps := 10000000) [-List.getD_eq_getElem?_getD, ], by simp (maxSteps := 10000000) [-List.getD_eq_getElem?_getD, ], by simp (maxSteps := 10000000) [-List.getD_eq_getElem?_getD, ]⟩
def head94b (l : List Int) (i : Int) : Env := mkE 49 .any [(6, I i), (2, I l.length), (1, I 0), (0, srow l)]
theorem loop94b (l : List Int) (hu : upL l) (hl : l.length < 1000) : ∀ (n i : Nat), i + n = l.length → 1 ≤ i → ∃ e, run Cv 94 (.loop keep94_1 body94_1) (head94b l i) {} = some (.ex 0, e, {})
  | 0, i, hi, h1 => by
    have : ¬ (i : Int) < (l.length : Int) := by omega
    rw [run_loop]
    simp (maxSteps := 10000000) [-List.getD_eq_getElem?_getD, body94_1, keep94_1, head94b, srow, this]
  | n + 1, i, hi, h1 => by
    have hlt : (i : Int) < (l.length : Int) := by omega
    have w1 : IntKind.wrap .i64 ((i : Int) + 1) = ((i + 1 : Nat) : Int) := by rw [wrap_small (by omega) (by omega)]; omega
    obtain ⟨L, ha, g6, g2, g1, g0⟩ := loop94a l hu hl i h1 (by omega)
    have ha' := fun E (hE : mask keep94_0 E = _) => run_at ha hE
    simp only [keep94_0, head94a, srow] at ha'
    obtain ⟨e, ih⟩ := loop94b l hu hl n (i + 1) (by omega) (by omega)
    simp only [srow] at g0
    refine ⟨e, ?_⟩
    rw [← ih, run_loop]
    generalize MC.loop keep94_1 body94_1 = LL
    simp (maxSteps := 10000000) [-List.getD_eq_getElem?_getD, body94_1, keep94_1, keep94_0, head94b, srow, hlt, w1, ha', g6, g2, g1, g0]
theorem insertion_call (l : List Int) (hu : upL l) (hl : l.length < 1000) (h0 : 1 ≤ l.length) : call Cv 94 [srow l, I 0, I l.length] = some (.tup []) := by
  obtain ⟨e, h⟩ := loop94b l hu hl (l.length - 1) 1 (by omega) (Nat.le_refl _)
  have h' := fun E (hE : mask keep94_1 E = _) => run_at h hE
  have e1 : ((1 : Nat) : Int) = 1 := rfl
  simp only [keep94_1, head94b, srow, e1] at h'
  rw [srow, call_run comp94 (Nat.le_of_ble_eq_true rfl)]
  simp (maxSteps := 10000000) [-List.getD_eq_getElem?_getD, code94, keep94_1, h', retA, retsA]
def head99a (l : List Int) (i : Int) : Env := mkE 133 .any [(8, I 0), (7, I i), (2, I l.length), (1, I 0), (0, srow l)]
theorem loop99a (l : List Int) (hu : upL l) (hl : l.length < 1000) : ∀ (n i : Nat), i + n = l.length → 1 ≤ i → ∃ L, run Cv 99 (.loop keep99_0 body99_0) (head99a l i) {} = some (.ex 2, mkE 133 .any L, {}) ∧ gt (mkE 133 .any L) 7 = I l.length ∧ gt (mkE 133 .any L) 2 = I l.length
  | 0, i, hi, h1 => by
    have : ¬ (i : Int) < (l.length : Int) := by omega
    have hi' : (i : Int) = (l.length : Int) := by omega
    rw [run_loop]
    simp (maxSteps := 10000000) [-List.getD_eq_getElem?_getD, body99_0, keep99_0, head99a, srow, this]
    exact ⟨_, rfl, by simp (maxSteps := 10000000) [-List.getD_eq_getElem?_getD, hi'], by simp (maxSteps := 10000000) [-List.getD_eq_getElem?_getD, ]⟩
  | n + 1, i, hi, h1 => by
    obtain ⟨m, rfl⟩ : ∃ m, i = m + 1 := ⟨i - 1, by omega⟩
    have hlt : ((m + 1 : Nat) : Int) < (l.length : Int) := by omega
    have w1 : IntKind.wrap .i64 (((m + 1 : Nat) : Int) + 1) = ((m + 1 + 1 : Nat) : Int) := by rw [wrap_small (by omega) (by omega)]; omega
    have w2 : IntKind.wrap .i64 (((m + 1 : Nat) : Int) - 1) = (m : Nat) := by rw [wrap_small (by omega) (by omega)]; omega
    have hx1 := s_ix l (i := m + 1) (by omega)
    have hx2 := s_ix l (i := m) (by omega)
    have hls := less_up hu h1 (by omega)
    rw [Nat.add_sub_cancel] at hls
    obtain ⟨L, ih, g1, g2⟩ := loop99a l hu hl n (m + 1 + 1) (by omega) (by omega)
    refine ⟨L, ?_, g1, g2⟩
    rw [← ih, run_loop]
    generalize MC.loop keep99_0 body99_0 = LL
    generalize ((m + 1 + 1 : Nat) : Int) = B at *
    generalize ((m + 1 : Nat) : Int) = A at *
    generalize l.getD (m + 1) 0 = p at *
    generalize l.getD m 0 = q at *
    simp (maxSteps := 10000000) [-List.getD_eq_getElem?_getD, -ixsA, -loadA, body99_0, keep99_0, head99a, srow, hlt, hx1, hx2, w1, w2, load_rp1, hls]
theorem partial_call (l : List Int) (hu : upL l) (hl : l.length < 1000) (h0 : 1 ≤ l.length) : call Cv 99 [srow l, I 0, I l.length] = some (.bool true) := by
  obtain ⟨L, h, g7, g2⟩ := loop99a l hu hl (l.length - 1) 1 (by omega) (Nat.le_refl _)
  have h' := fun E (hE : mask keep99_0 E = _) => run_at h hE
  have e1 : ((1 : Nat) : Int) = 1 := rfl
  simp only [keep99_0, head99a, srow, e1] at h'
  have key : ∃ e, run Cv 99 (.loop keep99_3 body99_3) (mkE 133 .any [(8, I 0), (7, I 1), (2, I l.length), (1, I 0), (0, .sl 1 (ints l) .no)]) {} = some (.rt, e, {}) ∧ gt e 6 = .bool true := by
    rw [run_loop]
    simp (maxSteps := 10000000) [-List.getD_eq_getElem?_getD, body99_3, keep99_3, keep99_0, h', g7, g2]
  obtain ⟨e, k1, k2⟩ := key
  have k1' := fun E (hE : mask keep99_3 E = _) => run_at k1 hE
  simp only [keep99_3] at k1'
  rw [srow, call_run comp99 (Nat.le_of_ble_eq_true rfl)]
  simp (maxSteps := 10000000) [-List.getD_eq_getElem?_getD, code99, keep99_3, k1', k2]
end Go.Ai

set_option maxRecDepth 100000
namespace Go.Ai
theorem pivot_call (l : List Int) (hu : upL l) (hl : l.length < 1000) (h13 : 13 ≤ l.length) : call Cv 97 [srow l, I 0, I l.length] = some (.tup [I ((l.length / 4 * 2 : Nat) : Int), I 1]) := by
  have hq : IntKind.wrap .i64 ((l.length : Int) / 4) = ((l.length / 4 : Nat) : Int) := by
    rw [wrap_small (by omega) (by omega)]
    norm_cast
  obtain ⟨m, hm⟩ : ∃ m, m = l.length / 4 := ⟨_, rfl⟩
  rw [← hm] at hq ⊢
  have w1 : IntKind.wrap .i64 (m : Int) = m := wrap_small (by omega) (by omega)
  have w2 : IntKind.wrap .i64 ((m : Int) * 2) = ((m * 2 : Nat) : Int) := by rw [wrap_small (by omega) (by omega)]; norm_cast
  have w3 : IntKind.wrap .i64 ((m : Int) * 3) = ((m * 3 : Nat) : Int) := by rw [wrap_small (by omega) (by omega)]; norm_cast
  have v2 : IntKind.wrap .i64 ((m * 2 : Nat) : Int) = ((m * 2 : Nat) : Int) := wrap_small (by omega) (by omega)
  have v3 : IntKind.wrap .i64 ((m * 3 : Nat) : Int) = ((m * 3 : Nat) : Int) := wrap_small (by omega) (by omega)
  have wl : IntKind.wrap .i64 (l.length : Int) = l.length := wrap_small (by omega) (by omega)
  have hp : ∀ (σ : St) n, pur σ (n + 1) (.rp [I 0] 0) = some (.rp [I 0] 0, false) := fun _ _ => rfl
  have a2 := medianAdj_call l hu (m * 2) (by omega) (by omega) hl (.rp [I 0] 0) hp
  have md := median_call l hu m (m * 2) (m * 3) (by omega) (by omega) (by omega) (.rp [I 0] 0) hp
  have h8 : (8 : Int) ≤ (l.length : Int) := by omega
  have hpu : ∀ σ : St, σ.boxes[0]? = some [I 0] → ∀ n, pur σ (n + 2) (.box 0 0) = some (.rp [I 0] 0, true) := fun σ h n => by simp [pur, purAll, h]
  simp only [srow] at a2 md ⊢
  by_cases h50 : (50 : Int) ≤ (l.length : Int)
  · have a1 := medianAdj_call l hu m (by omega) (by omega) hl (.rp [I 0] 0) hp
    have a3 := medianAdj_call l hu (m * 3) (by omega) (by omega) hl (.rp [I 0] 0) hp
    simp only [srow] at a1 a3
    generalize ((m * 2 : Nat) : Int) = M2 at *
    generalize ((m * 3 : Nat) : Int) = M3 at *
    rw [call_run comp97 (Nat.le_of_ble_eq_true rfl)]
    simp (maxSteps := 10000000) [-List.getD_eq_getElem?_getD, code97, wl, hq, w1, w2, w3, v2, v3, h8, h50, a1, a2, a3, md, binI, ret2]
  · generalize ((m * 2 : Nat) : Int) = M2 at *
    generalize ((m * 3 : Nat) : Int) = M3 at *
    rw [call_run comp97 (Nat.le_of_ble_eq_true rfl)]
    simp (maxSteps := 10000000) [-List.getD_eq_getElem?_getD, code97, wl, hq, w1, w2, w3, v2, v3, h8, h50, md, binI, ret2]
theorem pdq_call (l : List Int) (hu : upL l) (hl : l.length < 1000) (h0 : 1 ≤ l.length) (lim : Int) (hlim : 13 ≤ l.length → lim ≠ 0) : call Cv 84 [srow l, I 0, I l.length, I lim] = some (.tup []) := by
  have wl : IntKind.wrap .i64 (l.length : Int) = l.length := wrap_small (by omega) (by omega)
  have key : ∃ e, run Cv 84 (.loop keep84_0 body84_0) (mkE 134 .any [(9, .bool true), (8, .bool true), (3, I lim), (2, I l.length), (1, I 0), (0, .sl 1 (ints l) .no)]) {} = some (.rt, e, {}) := by
    by_cases h12 : (l.length : Int) ≤ 12
    · have hi := insertion_call l hu hl h0
      simp only [srow] at hi
      rw [run_loop]
      simp (maxSteps := 10000000) [-List.getD_eq_getElem?_getD, body84_0, keep84_0, wl, h12, hi]
    · have h13 : 13 ≤ l.length := by omega
      have hp := pivot_call l hu hl h13
      have hq := partial_call l hu hl h0
      have hz := hlim h13
      simp only [srow] at hp hq
      rw [run_loop]
      simp (maxSteps := 10000000) [-List.getD_eq_getElem?_getD, body84_0, keep84_0, wl, h12, hz, hp, hq]
  obtain ⟨e, h⟩ := key
  have h' := fun E (hE : mask keep84_0 E = _) => run_at h hE
  simp only [keep84_0] at h'
  rw [srow, call_run comp84 (Nat.le_of_ble_eq_true rfl)]
  simp (maxSteps := 10000000) [-List.getD_eq_getElem?_getD, code84, keep84_0, h', retA, retsA]
end Go.Ai

set_option maxRecDepth 100000
namespace Go.Ai
def tab8 : ByteArray := ⟨#[0, 1, 2, 2, 3, 3, 3, 3, 4, 4, 4, 4, 4, 4, 4, 4, 5, 5, 5, 5, 5, 5, 5, 5, 5, 5, 5, 5, 5, 5, 5, 5, 6, 6, 6, 6, 6, 6, 6, 6, 6, 6, 6, 6, 6, 6, 6, 6, 6, 6, 6, 6, 6, 6, 6, 6, 6, 6, 6, 6, 6, 6, 6, 6, 7, 7, 7, 7, 7, 7, 7, 7, 7, 7, 7, 7, 7, 7, 7, 7, 7, 7, 7, 7, 7, 7, 7, 7, 7, 7, 7, 7, 7, 7, 7, 7, 7, 7, 7, 7, 7, 7, 7, 7, 7, 7, 7, 7, 7, 7, 7, 7, 7, 7, 7, 7, 7, 7, 7, 7, 7, 7, 7, 7, 7, 7, 7, 7, 8, 8, 8, 8, 8, 8, 8, 8, 8, 8, 8, 8, 8, 8, 8, 8, 8, 8, 8, 8, 8, 8, 8, 8, 8, 8, 8, 8, 8, 8, 8, 8, 8, 8, 8, 8, 8, 8, 8, 8, 8, 8, 8, 8, 8, 8, 8, 8, 8, 8, 8, 8, 8, 8, 8, 8, 8, 8, 8, 8, 8, 8, 8, 8, 8, 8, 8, 8, 8, 8, 8, 8, 8, 8, 8, 8, 8, 8, 8, 8, 8, 8, 8, 8, 8, 8, 8, 8, 8, 8, 8, 8, 8, 8, 8, 8, 8, 8, 8, 8, 8, 8, 8, 8, 8, 8, 8, 8, 8, 8, 8, 8, 8, 8, 8, 8, 8, 8, 8, 8, 8, 8, 8, 8, 8, 8, 8, 8]⟩
theorem tab8_all : ∀ n, n < 256 → ((tab8[n]?).map fun b => decide (1 ≤ n → 1 ≤ b.toNat) && decide (b.toNat ≤ 8)) = some true := by decide +kernel
theorem tab_get {n : Nat} (h : n < 256) : ∃ b : Nat, (1 ≤ n → 1 ≤ b) ∧ b ≤ 8 ∧ ixtA (.str tab8) (.int .u8 n) = some (.int .u8 b) := by
  have h1 := tab8_all n h
  rw [Option.map_eq_some_iff] at h1
  obtain ⟨b, hb, hc⟩ := h1
  rw [Bool.and_eq_true, decide_eq_true_eq, decide_eq_true_eq] at hc
  refine ⟨b.toNat, hc.1, hc.2, ?_⟩
  have h0 : (0 : Int) ≤ (n : Int) := by omega
  simp only [ixtA, h0, if_true, Int.toNat_natCast, hb, Option.map_some]
theorem len64_call {n : Nat} (h : n < 256) : ∃ b : Nat, (1 ≤ n → 1 ≤ b) ∧ call Cv 104 [.int .u64 n] = some (I b) := by
  obtain ⟨b, h1, h2, h3⟩ := tab_get h
  refine ⟨b, h1, ?_⟩
  have g1 : ¬ (4294967296 : Int) ≤ (n : Int) := by omega
  have g2 : ¬ (65536 : Int) ≤ (n : Int) := by omega
  have g3 : ¬ (256 : Int) ≤ (n : Int) := by omega
  have w1 : IntKind.wrap .u8 (n : Int) = n := by
    unfold IntKind.wrap
    simp [IntKind.bits, IntKind.signed]
    omega
  have w2 : IntKind.wrap .i64 (b : Int) = b := wrap_small (by omega) (by omega)
  simp only [tab8] at h3
  rw [call_run comp104 (Nat.le_of_ble_eq_true rfl)]
  simp (maxSteps := 10000000) [-List.getD_eq_getElem?_getD, code104, g1, g2, g3, w1, w2, h3]
theorem len_call {n : Nat} (h : n < 256) : ∃ b : Nat, (1 ≤ n → 1 ≤ b) ∧ call Cv 85 [.int .u64 n] = some (I b) := by
  obtain ⟨b, h1, h2⟩ := len64_call h
  refine ⟨b, h1, ?_⟩
  rw [call_run comp85 (Nat.le_of_ble_eq_true rfl)]
  simp (maxSteps := 10000000) [-List.getD_eq_getElem?_getD, code85, h2]
theorem sort_call (l : List Int) (hu : upL l) (hl : l.length < 256) (h0 : 1 ≤ l.length) : call Cv 60 [srow l] = some (.tup []) := by
  obtain ⟨b, h1, h2⟩ := len_call hl
  have hp := pdq_call l hu (by omega) h0 b (fun _ => by have := h1 h0; omega)
  have w1 : IntKind.wrap .u64 (l.length : Int) = l.length := by
    unfold IntKind.wrap
    simp [IntKind.bits, IntKind.signed]
    omega
  have hil : (ints l).length = l.length := by simp [ints]
  simp only [srow] at hp ⊢
  rw [call_run comp60 (Nat.le_of_ble_eq_true rfl)]
  simp (maxSteps := 10000000) [-List.getD_eq_getElem?_getD, code60, hil, w1, h2, hp, retA, retsA]
end Go.Ai

set_option maxRecDepth 100000
namespace Go.Ai
open Go.Cold (compactF)
theorem compact_app (x : Int) : ∀ (l : List Int) (h : l ≠ []), compactF (l ++ [x]) = if l.getLast h = x then compactF l else compactF l ++ [x]
  | [a], _ => by
    by_cases h : a = x <;> simp [compactF, h]
  | a :: b :: l, h => by
    have ih := compact_app x (b :: l) (by simp)
    simp only [List.cons_append] at ih ⊢
    have hg : (a :: b :: l).getLast h = (b :: l).getLast (by simp) := by simp
    rw [hg]
    simp only [compactF, ih]
    by_cases hab : a = b
    · simp [hab]
    · simp only [hab, if_false]
      split <;> simp
theorem compact_take {l : List Int} {k : Nat} (h0 : 1 ≤ k) (hk : k < l.length) : compactF (l.take (k + 1)) = if l.getD (k - 1) 0 = l.getD k 0 then compactF (l.take k) else compactF (l.take k) ++ [l.getD k 0] := by
  have hne : l.take k ≠ [] := by
    intro h
    have := congrArg List.length h
    rw [List.length_take, List.length_nil] at this
    omega
  have e1 : l.take (k + 1) = l.take k ++ [l.getD k 0] := by
    rw [List.take_add_one, List.getElem?_eq_getElem hk]
    simp [hk]
  rw [e1, compact_app _ _ hne]
  have e2 : (l.take k).getLast hne = l.getD (k - 1) 0 := by
    rw [List.getLast_eq_getElem]
    simp only [List.getElem_take, List.length_take]
    have hm : min k l.length - 1 = k - 1 := by omega
    have : k - 1 < l.length := by omega
    simp [hm, this]
  rw [e2]
theorem compact_len {l : List Int} : ∀ k, 1 ≤ k → k ≤ l.length → (compactF (l.take k)).length ≤ k ∧ 1 ≤ (compactF (l.take k)).length
  | 0, h, _ => by omega
  | 1, _, hk => by
    match l, hk with
    | a :: l, _ => simp [compactF]
  | k + 2, _, hk => by
    have ih := compact_len (l := l) (k + 1) (by omega) (by omega)
    rw [compact_take (by omega) (by omega)]
    split
    · omega
    · rw [List.length_append, List.length_singleton]; omega
def stS (pre : List (List AV)) (es : List Int) : St := { boxes := pre ++ [ints es] }
theorem sS_get (pre : List (List AV)) (es : List Int) : (stS pre es).boxes[pre.length]? = some (ints es) := by simp [stS]
theorem sS_load (pre : List (List AV)) (es : List Int) {i : Nat} (h : i < es.length) : loadA (stS pre es) none (.box pre.length i) = some (I (es.getD i 0)) := by
  simp only [loadA, sS_get, Option.bind_some, partA]
  simp [ints, h]
theorem sS_store (pre : List (List AV)) (es : List Int) {i : Nat} (h : i < es.length) (n : Int) : storeA (stS pre es) 1 (.box pre.length i) (I n) = some (stS pre (es.set i n)) := by
  have hl : i + 1 ≤ (ints es).length := by simp [ints]; omega
  have ro : (stS pre es).ro = 0 := rfl
  have hs : setAt (ints es) i [I n] = ints (es.set i n) := by
    unfold setAt ints
    rw [← List.map_take, List.length_singleton, ← List.map_drop, List.set_eq_take_append_cons_drop, if_pos h]
    simp
  simp only [storeA, sS_get, Option.bind_some, ro, Nat.zero_le, AV.cells, List.length_singleton, hl, List.all_cons, List.all_nil, AV.isCell, Bool.and_true, and_self, if_true, hs]
  simp [stS]
theorem sS_ix (p n off : Nat) {i : Nat} (h : i < n) : ixsA 1 (.wsl p off n 1 false) (I i) = some (.box p (off + i)) := by
  have h0 : (0 : Int) ≤ i := by omega
  have h1 : (i : Int) < (n : Int) := by omega
  simp [ixsA, h0, h1]
theorem sS_clr (pre : List (List AV)) (es : List Int) {d m : Nat} (hm : 0 < m) (h : d + m = es.length) : clrA (stS pre es) 1 [I 0] (.wsl pre.length d m 1 false) = some (stS pre (es.take d ++ List.replicate m 0)) := by
  have ro : (stS pre es).ro = 0 := rfl
  have hl : d + m * 1 ≤ (ints es).length := by simp [ints]; omega
  have hz : (List.replicate m [I 0]).flatten = ints (List.replicate m 0) := by
    simp [ints]
  have hs : setAt (ints es) d (ints (List.replicate m 0)) = ints (es.take d ++ List.replicate m 0) := by
    unfold setAt ints
    rw [← List.map_take, ← List.map_drop, List.length_map, List.length_replicate, List.drop_eq_nil_of_le (by omega)]
    simp
  simp only [clrA, sS_get, Option.bind_some, hm, ro, Nat.zero_le, hl, and_self, if_true, hz, hs]
  simp [stS]
theorem sS_slc1 (p n : Nat) {k : Nat} (hk : k < n) : slcA 1 (.wsl p 0 n 1 false) (some (I k)) none none = some (.wsl p k (n - k) 1 false) := by
  have h0 : (0 : Int) ≤ k := by omega
  simp [slcA, boundA, h0, hk]
theorem sS_slc2 (p n : Nat) {k : Nat} (h1 : 1 ≤ k) (hk : k ≤ n) : slcA 1 (.wsl p 0 n 1 false) none (some (I k)) none = some (.wsl p 0 k 1 false) := by
  have h0 : (0 : Int) ≤ k := by omega
  have h2 : 0 < k := by omega
  simp [slcA, boundA, h0, hk, h2]
theorem sS_slc3 (p n : Nat) (h1 : 1 ≤ n) : slcA 1 (.wsl p 0 n 1 false) none (some (I n)) (some (I n)) = some (.wsl p 0 n 1 false) := by
  have h0 : (0 : Int) ≤ n := by omega
  have h2 : 0 < n := by omega
  simp [slcA, boundA, h0, h2]
theorem cut_size (σ σ' : St) (e : Env) (h1 : σ'.boxes.length = σ.boxes.length) (h2 : σ'.chains.length = σ.chains.length) (h3 : σ'.maps.length = σ.maps.length) (h4 : σ'.loops.length = σ.loops.length) (h5 : σ'.ro ≤ σ.boxes.length) (h6 : σ'.mro ≤ σ.maps.length) : cut σ σ' e = σ' := by
  have : ∀ nc, nc = σ.chains.length ∨ nc = σ'.chains.length → cutAt nc σ σ' = σ' := by
    intro nc hn
    have hn' : nc = σ'.chains.length := by rcases hn with h | h <;> omega
    subst hn'
    cases σ'
    simp only [cutAt] at *
    simp only [← h1, ← h3, ← h4, List.take_length]
    rw [Nat.min_eq_left (by omega), Nat.min_eq_left (by omega)]
  unfold cut
  split
  · exact this _ (.inl rfl)
  · split
    · exact this _ (.inr rfl)
    · rfl
theorem sS_cut (pre : List (List AV)) (es es' : List Int) (e : Env) : cut (stS pre es) (stS pre es') e = stS pre es' :=
  cut_size _ _ _ (by simp [stS]) rfl rfl rfl (Nat.zero_le _) (Nat.zero_le _)
end Go.Ai

set_option maxRecDepth 100000
namespace Go.Ai
open Go.Cold (compactF)
def head61a (p n k0 d k2 : Nat) : Env := mkE 61 .any [(5, I k2), (4, .wsl p k0 (n - k0) 1 false), (3, I d), (0, .wsl p 0 n 1 false)]
theorem loop61a (pre : List (List AV)) (es : List Int) (hn : es.length < 1000) (k0 : Nat) (hk0 : 1 ≤ k0) (hk : k0 < es.length) : ∀ (n k2 d : Nat) (a : List Int), k0 + k2 + n = es.length → 1 ≤ k2 → a.length = es.length → d + 1 ≤ k0 + k2 → 1 ≤ d → (∀ i, d ≤ i → i < es.length → a.getD i 0 = es.getD i 0) → a.take d = compactF (es.take (k0 + k2)) →
    ∃ L d' a', run Cv 61 (.loop keep61_0 body61_0) (head61a pre.length es.length k0 d k2) (stS pre a) = some (.ex 2, mkE 61 .any L, stS pre a') ∧ gt (mkE 61 .any L) 3 = I (d' : Nat) ∧ gt (mkE 61 .any L) 0 = .wsl pre.length 0 es.length 1 false ∧ a'.take d' = compactF es ∧ d' + 1 ≤ es.length ∧ 1 ≤ d' ∧ a'.length = es.length
  | 0, k2, d, a, hj, h2, ha, hd, hd1, hi, ht => by
    have hlt : ¬ (k2 : Int) < ((es.length - k0 : Nat) : Int) := by omega
    rw [run_loop]
    have hfin : ∃ L, run Cv 61 body61_0 (head61a pre.length es.length k0 d k2) (stS pre a) = some (.ex 2, mkE 61 .any L, stS pre a) ∧ gt (mkE 61 .any L) 3 = I (d : Nat) ∧ gt (mkE 61 .any L) 0 = .wsl pre.length 0 es.length 1 false := by
      simp (maxSteps := 10000000) [-List.getD_eq_getElem?_getD, body61_0, head61a, hlt]
      exact ⟨_, rfl, by simp (maxSteps := 10000000) [-List.getD_eq_getElem?_getD, ], by simp (maxSteps := 10000000) [-List.getD_eq_getElem?_getD, ]⟩
    obtain ⟨L, h1, h3, h0⟩ := hfin
    refine ⟨L, d, a, ?_, h3, h0, by rw [ht, List.take_of_length_le (by omega)], by omega, hd1, ha⟩
    have hm : mask keep61_0 (head61a pre.length es.length k0 d k2) = head61a pre.length es.length k0 d k2 := by simp (maxSteps := 10000000) [-List.getD_eq_getElem?_getD, keep61_0, head61a]
    rw [hm, h1]
    rfl
  | n + 1, k2, d, a, hj, h2, ha, hd, hd1, hi, ht => by
    obtain ⟨m, rfl⟩ : ∃ m, k2 = m + 1 := ⟨k2 - 1, by omega⟩
    have hlt : ((m + 1 : Nat) : Int) < ((es.length - k0 : Nat) : Int) := by omega
    have x1 := sS_ix pre.length (es.length - k0) k0 (i := m + 1) (by omega)
    have x2 := sS_ix pre.length (es.length - k0) k0 (i := m) (by omega)
    have x3 := sS_ix pre.length es.length 0 (i := d) (by omega)
    rw [Nat.zero_add] at x3
    have l1 := sS_load pre a (i := k0 + (m + 1)) (by omega)
    have l2 := sS_load pre a (i := k0 + m) (by omega)
    rw [hi _ (by omega) (by omega)] at l1 l2
    have s1 := sS_store pre a (i := d) (by omega) (es.getD (k0 + (m + 1)) 0)
    have w1 : IntKind.wrap .i64 (((m + 1 : Nat) : Int) - 1) = (m : Nat) := by rw [wrap_small (by omega) (by omega)]; omega
    have w2 : IntKind.wrap .i64 (((m + 1 : Nat) : Int) + 1) = ((m + 1 + 1 : Nat) : Int) := by rw [wrap_small (by omega) (by omega)]; omega
    have hAB : ((m + 1 : Nat) : Int) + 1 = ((m + 1 + 1 : Nat) : Int) := by omega
    have w2b : IntKind.wrap .i64 ((m + 1 + 1 : Nat) : Int) = ((m + 1 + 1 : Nat) : Int) := wrap_small (by omega) (by omega)
    have w3 : IntKind.wrap .i64 ((d : Int) + 1) = ((d + 1 : Nat) : Int) := by rw [wrap_small (by omega) (by omega)]; omega
    have hct := compact_take (l := es) (k := k0 + (m + 1)) (by omega) (by omega)
    rw [show k0 + (m + 1) - 1 = k0 + m by omega, ← ht] at hct
    have hcut := sS_cut pre a
    by_cases he : es.getD (k0 + (m + 1)) 0 = es.getD (k0 + m) 0
    · have hbe : (es.getD (k0 + (m + 1)) 0 == es.getD (k0 + m) 0) = true := by simpa using he
      rw [if_pos he.symm] at hct
      obtain ⟨L, d', a', ih, g⟩ := loop61a pre es hn k0 hk0 hk n (m + 1 + 1) d a (by omega) (by omega) ha (by omega) hd1 hi (by rw [show k0 + (m + 1 + 1) = k0 + (m + 1) + 1 by omega, hct])
      refine ⟨L, d', a', ?_, g⟩
      rw [← ih, run_loop]
      generalize MC.loop keep61_0 body61_0 = LL
      generalize es.getD (k0 + (m + 1)) 0 = u at *
      generalize es.getD (k0 + m) 0 = v at *
      generalize hA : ((m + 1 : Nat) : Int) = A at *
      generalize ((m + 1 + 1 : Nat) : Int) = B at *
      simp (maxSteps := 10000000) [-List.getD_eq_getElem?_getD, -ixsA, -loadA, -storeA, -cut, -List.all_eq_true, body61_0, keep61_0, head61a, hA, hlt, x1, x2, x3, l1, l2, w1, w2, w3, hbe, hcut, he, hAB, w2b]
    · have hbe : (es.getD (k0 + (m + 1)) 0 == es.getD (k0 + m) 0) = false := by simpa using he
      rw [if_neg fun h => he h.symm] at hct
      have htk : (a.set d (es.getD (k0 + (m + 1)) 0)).take (d + 1) = a.take d ++ [es.getD (k0 + (m + 1)) 0] := by
        rw [List.take_add_one, List.getElem?_set_self (by omega), List.take_set_of_le (Nat.le_refl d)]
        rfl
      obtain ⟨L, d', a', ih, g⟩ := loop61a pre es hn k0 hk0 hk n (m + 1 + 1) (d + 1) (a.set d (es.getD (k0 + (m + 1)) 0)) (by omega) (by omega) (by simpa using ha) (by omega) (by omega) (fun i h1 h2 => by
          have := hi i (by omega) h2
          rw [List.getD_eq_getElem?_getD, List.getElem?_set_ne (by omega), ← List.getD_eq_getElem?_getD]
          exact this) (by rw [show k0 + (m + 1 + 1) = k0 + (m + 1) + 1 by omega, hct, htk])
      refine ⟨L, d', a', ?_, g⟩
      rw [← ih, run_loop]
      generalize MC.loop keep61_0 body61_0 = LL
      generalize es.getD (k0 + (m + 1)) 0 = u at *
      generalize es.getD (k0 + m) 0 = v at *
      generalize hA : ((m + 1 : Nat) : Int) = A at *
      generalize ((m + 1 + 1 : Nat) : Int) = B at *
      generalize hD : ((d + 1 : Nat) : Int) = D at *
      simp (maxSteps := 10000000) [-List.getD_eq_getElem?_getD, -ixsA, -loadA, -storeA, -cut, -List.all_eq_true, body61_0, keep61_0, head61a, hA, hD, hlt, x1, x2, x3, l1, l2, s1, w1, w2, w3, hbe, hcut, he, hAB, w2b]
end Go.Ai

set_option maxRecDepth 100000
namespace Go.Ai
open Go.Cold (compactF)
def head61b (p n k : Nat) : Env := mkE 61 .any [(3, I k), (0, .wsl p 0 n 1 false)]
theorem loop61b (pre : List (List AV)) (es : List Int) (hn : es.length < 1000) : ∀ (n k : Nat), k + n = es.length → 1 ≤ k → compactF (es.take k) = es.take k →
    ∃ e a' m x, run Cv 61 (.loop keep61_1 body61_1) (head61b pre.length es.length k) (stS pre es) = some (x, e, stS pre a') ∧ ((x = .ex 0 ∧ gt e 0 = .wsl pre.length 0 es.length 1 false ∧ a' = es ∧ m = es.length ∧ ∃ L, e = mkE 61 .any L) ∨ (x = .rt ∧ gt e 2 = .wsl pre.length 0 m 1 false)) ∧ a'.take m = compactF es ∧ 1 ≤ m ∧ m ≤ a'.length ∧ a'.length = es.length
  | 0, k, hj, h1, ht => by
    have hlt : ¬ (k : Int) < (es.length : Int) := by omega
    have hfull : es.take k = es := List.take_of_length_le (by omega)
    rw [hfull] at ht
    have hfin : ∃ L, run Cv 61 (.loop keep61_1 body61_1) (head61b pre.length es.length k) (stS pre es) = some (.ex 0, mkE 61 .any L, stS pre es) ∧ gt (mkE 61 .any L) 0 = .wsl pre.length 0 es.length 1 false := by
      rw [run_loop]
      simp (maxSteps := 10000000) [-List.getD_eq_getElem?_getD, body61_1, keep61_1, head61b, hlt]
      exact ⟨_, rfl, by simp (maxSteps := 10000000) [-List.getD_eq_getElem?_getD, ]⟩
    obtain ⟨L, h2, h3⟩ := hfin
    exact ⟨_, es, es.length, .ex 0, h2, .inl ⟨rfl, h3, rfl, rfl, L, rfl⟩, by rw [List.take_length, ht], by omega, Nat.le_refl _, rfl⟩
  | n + 1, k, hj, h1, ht => by
    obtain ⟨m, rfl⟩ : ∃ m, k = m + 1 := ⟨k - 1, by omega⟩
    have hlt : ((m + 1 : Nat) : Int) < (es.length : Int) := by omega
    have x1 := sS_ix pre.length es.length 0 (i := m + 1) (by omega)
    have x2 := sS_ix pre.length es.length 0 (i := m) (by omega)
    have l1 := sS_load pre es (i := m + 1) (by omega)
    have l2 := sS_load pre es (i := m) (by omega)
    rw [Nat.zero_add] at x1 x2
    have w1 : IntKind.wrap .i64 (((m + 1 : Nat) : Int) - 1) = (m : Nat) := by rw [wrap_small (by omega) (by omega)]; omega
    have hAB : ((m + 1 : Nat) : Int) + 1 = ((m + 1 + 1 : Nat) : Int) := by omega
    have w2b : IntKind.wrap .i64 ((m + 1 + 1 : Nat) : Int) = ((m + 1 + 1 : Nat) : Int) := wrap_small (by omega) (by omega)
    have hct := compact_take (l := es) (k := m + 1) (by omega) (by omega)
    rw [show m + 1 - 1 = m by omega, ht] at hct
    have hcut := sS_cut pre es
    by_cases he : es.getD (m + 1) 0 = es.getD m 0
    · rw [if_pos he.symm] at hct
      obtain ⟨L, d', a', hl, g3, g0, g4, g5, g6, g7⟩ := loop61a pre es hn (m + 1) (by omega) (by omega) (es.length - (m + 1) - 1) 1 (m + 1) es (by omega) (Nat.le_refl _) rfl (by omega) (by omega) (fun _ _ _ => rfl) (by rw [hct])
      have hl' := fun E (hE : mask keep61_0 E = _) => run_at hl hE
      have e1 : ((1 : Nat) : Int) = 1 := rfl
      simp only [keep61_0, head61a, e1] at hl'
      have c1 := sS_slc1 pre.length es.length (k := m + 1) (by omega)
      have c2 := sS_slc1 pre.length es.length (k := d') (by omega)
      have c3 := sS_slc2 pre.length es.length (k := d') g6 (by omega)
      have c4 := sS_clr pre a' (d := d') (m := es.length - d') (by omega) (by omega)
      have hfin : ∃ e, run Cv 61 (.loop keep61_1 body61_1) (head61b pre.length es.length (m + 1)) (stS pre es) = some (.rt, e, stS pre (a'.take d' ++ List.replicate (es.length - d') 0)) ∧ gt e 2 = .wsl pre.length 0 d' 1 false := by
        generalize es.getD (m + 1) 0 = u at *
        generalize es.getD m 0 = v at *
        generalize hA : ((m + 1 : Nat) : Int) = A at *
        rw [run_loop]
        simp (maxSteps := 10000000) [-List.getD_eq_getElem?_getD, -ixsA, -loadA, -storeA, -cut, -List.all_eq_true, body61_1, keep61_1, keep61_0, head61b, hA, hlt, x1, x2, l1, l2, w1, he, c1, hl', g0, g3, c2, c3, c4]
      obtain ⟨e, h2, h3⟩ := hfin
      refine ⟨e, a'.take d' ++ List.replicate (es.length - d') 0, d', .rt, h2, .inr ⟨rfl, h3⟩, ?_, g6, by simp; omega, by simp; omega⟩
      rw [List.take_append_of_le_length (by simp; omega), List.take_take, Nat.min_self, g4]
    · rw [if_neg fun h => he h.symm] at hct
      have hte : es.take (m + 1) ++ [es.getD (m + 1) 0] = es.take (m + 1 + 1) := by
        rw [List.take_add_one (i := m + 1), List.getElem?_eq_getElem (by omega)]
        simp [show m + 1 < es.length by omega]
      rw [hte] at hct
      obtain ⟨e, a', mm, x, hl, g⟩ := loop61b pre es hn n (m + 1 + 1) (by omega) (by omega) hct
      refine ⟨e, a', mm, x, ?_, g⟩
      rw [← hl, run_loop]
      generalize MC.loop keep61_1 body61_1 = LL
      generalize es.getD (m + 1) 0 = u at *
      generalize es.getD m 0 = v at *
      generalize hA : ((m + 1 : Nat) : Int) = A at *
      generalize ((m + 1 + 1 : Nat) : Int) = B at *
      simp (maxSteps := 10000000) [-List.getD_eq_getElem?_getD, -ixsA, -loadA, -storeA, -cut, -List.all_eq_true, body61_1, keep61_1, head61b, hA, hlt, x1, x2, l1, l2, w1, he, hAB, w2b, hcut]
theorem compact_callA (pre : List (List AV)) (es : List Int) (hn : es.length < 1000) (h1 : 1 ≤ es.length) : ∃ a' m, callA Cv (run Cv) false (.fn (.func 61) [] []) [.wsl pre.length 0 es.length 1 false] (stS pre es) = some (.wsl pre.length 0 m 1 false, stS pre a') ∧ a'.take m = compactF es ∧ 1 ≤ m ∧ m ≤ a'.length := by
  have hcut := sS_cut pre es
  by_cases h2 : es.length = 1
  · match es, h2 with
    | [a], _ =>
      refine ⟨[a], 1, ?_, rfl, Nat.le_refl _, Nat.le_refl _⟩
      rw [callA_imp rfl, body_run comp61 (Nat.le_of_ble_eq_true rfl)]
      simp (maxSteps := 10000000) [-List.getD_eq_getElem?_getD, -cut, code61, cutR, hcut]
  · obtain ⟨e, a', m, x, hl, hx, g1, g2, g3, g4⟩ := loop61b pre es hn (es.length - 1) 1 (by omega) (Nat.le_refl _) (by
      match es, h1 with
      | a :: l, _ => rfl)
    have hl' := fun E (hE : mask keep61_1 E = _) => run_at hl hE
    have e1 : ((1 : Nat) : Int) = 1 := rfl
    simp only [keep61_1, head61b, e1] at hl'
    have hlt : ¬ (es.length : Int) < 2 := by omega
    refine ⟨a', m, ?_, g1, g2, g3⟩
    rw [callA_imp rfl, body_run comp61 (Nat.le_of_ble_eq_true rfl)]
    rcases hx with ⟨rfl, h0, h3, h4, L, rfl⟩ | ⟨rfl, h0⟩
    · rw [h4]
      simp (maxSteps := 10000000) [-List.getD_eq_getElem?_getD, -cut, code61, keep61_1, hlt, hl', h0, cutR, hcut]
    · simp (maxSteps := 10000000) [-List.getD_eq_getElem?_getD, -cut, code61, keep61_1, hlt, hl', h0, cutR, hcut]
end Go.Ai
