/- This text shows rows that are sorted and compacted. No conditions of its own. -/
import Derived.Test.YtckbmdbebmkbaaaDoorFnG
set_option linter.unusedSimpArgs false
set_option linter.unusedVariables false
set_option maxRecDepth 100000
namespace Go.Ai
open Go.Office (compactF)
theorem compact_app (x : Int) : ∀ (l : List Int) (h : l ≠ []), compactF (l ++ [x]) = if l.getLast h = x then compactF l else compactF l ++ [x]
  | [a], _ => by
    by_cases h : a = x <;> simp [compactF, h]
  | a :: b :: l, h => by
    have ih := compact_app x (b :: l) (by simp)
    simp only [List.cons_append] at ih ⊢
    have hg : (a :: b :: l).getLast h = (b :: l).getLast (by simp) := by simp
    rw [hg]
    simp only [compactF, ih]
    by_cases hab : a = b
    · simp [hab]
    · simp only [hab, if_false]
      split <;> simp
theorem compact_take {l : List Int} {k : Nat} (h0 : 1 ≤ k) (hk : k < l.length) : compactF (l.take (k + 1)) = if l.getD (k - 1) 0 = l.getD k 0 then compactF (l.take k) else compactF (l.take k) ++ [l.getD k 0] := by
  have hne : l.take k ≠ [] := by
    intro h
    have := congrArg List.length h
    rw [List.length_take, List.length_nil] at this
    omega
  have e1 : l.take (k + 1) = l.take k ++ [l.getD k 0] := by
    rw [List.take_add_one, List.getElem?_eq_getElem hk]
    simp [hk]
  rw [e1, compact_app _ _ hne]
  have e2 : (l.take k).getLast hne = l.getD (k - 1) 0 := by
    rw [List.getLast_eq_getElem]
    simp only [List.getElem_take, List.length_take]
    have hm : min k l.length - 1 = k - 1 := by omega
    have : k - 1 < l.length := by omega
    simp [hm, this]
  rw [e2]
theorem compact_len {l : List Int} : ∀ k, 1 ≤ k → k ≤ l.length → (compactF (l.take k)).length ≤ k ∧ 1 ≤ (compactF (l.take k)).length
  | 0, h, _ => by omega
  | 1, _, hk => by
    match l, hk with
    | a :: l, _ => simp [compactF]
  | k + 2, _, hk => by
    have ih := compact_len (l := l) (k + 1) (by omega) (by omega)
    rw [compact_take (by omega) (by omega)]
    split
    · omega
    · rw [List.length_append, List.length_singleton]; omega
def stS (pre : List (List AV)) (es : List Int) : St := { boxes := pre ++ [ints es] }
theorem sS_get (pre : List (List AV)) (es : List Int) : (stS pre es).boxes[pre.length]? = some (ints es) := by simp [stS]
theorem sS_load (pre : List (List AV)) (es : List Int) {i : Nat} (h : i < es.length) : loadA (stS pre es) none (.box pre.length i) = some (I (es.getD i 0)) := by
  simp only [loadA, sS_get, Option.bind_some, partA]
  simp [ints, h]
theorem sS_store (pre : List (List AV)) (es : List Int) {i : Nat} (h : i < es.length) (n : Int) : storeA (stS pre es) 1 (.box pre.length i) (I n) = some (stS pre (es.set i n)) := by
  have hl : i + 1 ≤ (ints es).length := by simp [ints]; omega
  have ro : (stS pre es).ro = 0 := rfl
  have hs : setAt (ints es) i [I n] = ints (es.set i n) := by
    unfold setAt ints
    rw [← List.map_take, List.length_singleton, ← List.map_drop, List.set_eq_take_append_cons_drop, if_pos h]
    simp
  simp only [storeA, sS_get, Option.bind_some, ro, Nat.zero_le, AV.cells, List.length_singleton, hl, List.all_cons, List.all_nil, AV.isCell, Bool.and_true, and_self, if_true, hs]
  simp [stS]
theorem sS_ix (p n off : Nat) {i : Nat} (h : i < n) : ixsA 1 (.wsl p off n 1 false) (I i) = some (.box p (off + i)) := by
  have h0 : (0 : Int) ≤ i := by omega
  have h1 : (i : Int) < (n : Int) := by omega
  simp [ixsA, h0, h1]
theorem sS_clr (pre : List (List AV)) (es : List Int) {d m : Nat} (hm : 0 < m) (h : d + m = es.length) : clrA (stS pre es) 1 [I 0] (.wsl pre.length d m 1 false) = some (stS pre (es.take d ++ List.replicate m 0)) := by
  have ro : (stS pre es).ro = 0 := rfl
  have hl : d + m * 1 ≤ (ints es).length := by simp [ints]; omega
  have hz : (List.replicate m [I 0]).flatten = ints (List.replicate m 0) := by
    simp [ints]
  have hs : setAt (ints es) d (ints (List.replicate m 0)) = ints (es.take d ++ List.replicate m 0) := by
    unfold setAt ints
    rw [← List.map_take, ← List.map_drop, List.length_map, List.length_replicate, List.drop_eq_nil_of_le (by omega)]
    simp
  simp only [clrA, sS_get, Option.bind_some, hm, ro, Nat.zero_le, hl, and_self, if_true, hz, hs]
  simp [stS]
theorem sS_slc1 (p n : Nat) {k : Nat} (hk : k < n) : slcA 1 (.wsl p 0 n 1 false) (some (I k)) none none = some (.wsl p k (n - k) 1 false) := by
  have h0 : (0 : Int) ≤ k := by omega
  have h3 : k ≤ n := by omega
  simp [slcA, boundA, h0, hk, h3]
theorem sS_slc2 (p n : Nat) {k : Nat} (h1 : 1 ≤ k) (hk : k ≤ n) : slcA 1 (.wsl p 0 n 1 false) none (some (I k)) none = some (.wsl p 0 k 1 false) := by
  have h0 : (0 : Int) ≤ k := by omega
  have h2 : 0 < k := by omega
  have h3 : ¬ n = 0 := by omega
  have h4 : 0 < n := by omega
  simp [slcA, boundA, h0, hk, h2, h3, h4]
theorem sS_slc3 (p n : Nat) (h1 : 1 ≤ n) : slcA 1 (.wsl p 0 n 1 false) none (some (I n)) (some (I n)) = some (.wsl p 0 n 1 false) := by
  have h0 : (0 : Int) ≤ n := by omega
  have h2 : 0 < n := by omega
  simp [slcA, boundA, h0, h2]
theorem cut_size (σ σ' : St) (e : Env) (h1 : σ'.boxes.length = σ.boxes.length) (h2 : σ'.chains.length = σ.chains.length) (h3 : σ'.maps.length = σ.maps.length) (h4 : σ'.loops.length = σ.loops.length) (h5 : σ'.ro ≤ σ.boxes.length) (h6 : σ'.mro ≤ σ.maps.length) : cut σ σ' e = σ' := by
  have : ∀ nc, nc = σ.chains.length ∨ nc = σ'.chains.length → cutAt nc σ σ' = σ' := by
    intro nc hn
    have hn' : nc = σ'.chains.length := by rcases hn with h | h <;> omega
    subst hn'
    cases σ'
    simp only [cutAt] at *
    simp only [← h1, ← h3, ← h4, List.take_length]
    rw [Nat.min_eq_left (by omega), Nat.min_eq_left (by omega)]
  unfold cut
  split
  · exact this _ (.inl rfl)
  · split
    · exact this _ (.inr rfl)
    · rfl
theorem sS_cut (pre : List (List AV)) (es es' : List Int) (e : Env) : cut (stS pre es) (stS pre es') e = stS pre es' :=
  cut_size _ _ _ (by simp [stS]) rfl rfl rfl (Nat.zero_le _) (Nat.zero_le _)
end Go.Ai

set_option maxRecDepth 100000
namespace Go.Ai
open Go.Office (compactF)
def head70a (p n k0 d k2 : Nat) : Env := mkE 61 .any [(5, I k2), (4, .wsl p k0 (n - k0) 1 false), (3, I d), (0, .wsl p 0 n 1 false)]
theorem loop70a (pre : List (List AV)) (es : List Int) (hn : es.length < 1000) (k0 : Nat) (hk0 : 1 ≤ k0) (hk : k0 < es.length) : ∀ (n k2 d : Nat) (a : List Int), k0 + k2 + n = es.length → 1 ≤ k2 → a.length = es.length → d + 1 ≤ k0 + k2 → 1 ≤ d → (∀ i, d ≤ i → i < es.length → a.getD i 0 = es.getD i 0) → a.take d = compactF (es.take (k0 + k2)) →
    ∃ L d' a', run Cv 70 (.loop keep70_0 body70_0) (head70a pre.length es.length k0 d k2) (stS pre a) = some (.ex 2, mkE 61 .any L, stS pre a') ∧ gt (mkE 61 .any L) 3 = I (d' : Nat) ∧ gt (mkE 61 .any L) 0 = .wsl pre.length 0 es.length 1 false ∧ a'.take d' = compactF es ∧ d' + 1 ≤ es.length ∧ 1 ≤ d' ∧ a'.length = es.length
  | 0, k2, d, a, hj, h2, ha, hd, hd1, hi, ht => by
    have hlt : ¬ (k2 : Int) < ((es.length - k0 : Nat) : Int) := by omega
    rw [run_loop]
    have hfin : ∃ L, run Cv 70 body70_0 (head70a pre.length es.length k0 d k2) (stS pre a) = some (.ex 2, mkE 61 .any L, stS pre a) ∧ gt (mkE 61 .any L) 3 = I (d : Nat) ∧ gt (mkE 61 .any L) 0 = .wsl pre.length 0 es.length 1 false := by
      simp (maxSteps := 10000000) [-List.getD_eq_getElem?_getD, body70_0, head70a, hlt]
      exact ⟨_, rfl, by simp (maxSteps := 10000000) [-List.getD_eq_getElem?_getD, ], by simp (maxSteps := 10000000) [-List.getD_eq_getElem?_getD, ]⟩
    obtain ⟨L, h1, h3, h0⟩ := hfin
    refine ⟨L, d, a, ?_, h3, h0, by rw [ht, List.take_of_length_le (by omega)], by omega, hd1, ha⟩
    have hm : mask keep70_0 (head70a pre.length es.length k0 d k2) = head70a pre.length es.length k0 d k2 := by simp (maxSteps := 10000000) [-List.getD_eq_getElem?_getD, keep70_0, head70a]
    rw [hm, h1]
    rfl
  | n + 1, k2, d, a, hj, h2, ha, hd, hd1, hi, ht => by
    obtain ⟨m, rfl⟩ : ∃ m, k2 = m + 1 := ⟨k2 - 1, by omega⟩
    have hlt : ((m + 1 : Nat) : Int) < ((es.length - k0 : Nat) : Int) := by omega
    have x1 := sS_ix pre.length (es.length - k0) k0 (i := m + 1) (by omega)
    have x2 := sS_ix pre.length (es.length - k0) k0 (i := m) (by omega)
    have x3 := sS_ix pre.length es.length 0 (i := d) (by omega)
    rw [Nat.zero_add] at x3
    have l1 := sS_load pre a (i := k0 + (m + 1)) (by omega)
    have l2 := sS_load pre a (i := k0 + m) (by omega)
    rw [hi _ (by omega) (by omega)] at l1 l2
    have s1 := sS_store pre a (i := d) (by omega) (es.getD (k0 + (m + 1)) 0)
    have w1 : IntKind.wrap .i64 (((m + 1 : Nat) : Int) - 1) = (m : Nat) := by rw [wrap_small (by omega) (by omega)]; omega
    have w2 : IntKind.wrap .i64 (((m + 1 : Nat) : Int) + 1) = ((m + 1 + 1 : Nat) : Int) := by rw [wrap_small (by omega) (by omega)]; omega
    have hAB : ((m + 1 : Nat) : Int) + 1 = ((m + 1 + 1 : Nat) : Int) := by omega
    have w2b : IntKind.wrap .i64 ((m + 1 + 1 : Nat) : Int) = ((m + 1 + 1 : Nat) : Int) := wrap_small (by omega) (by omega)
    have w3 : IntKind.wrap .i64 ((d : Int) + 1) = ((d + 1 : Nat) : Int) := by rw [wrap_small (by omega) (by omega)]; omega
    have hct := compact_take (l := es) (k := k0 + (m + 1)) (by omega) (by omega)
    rw [show k0 + (m + 1) - 1 = k0 + m by omega, ← ht] at hct
    have hcut := sS_cut pre a
    by_cases he : es.getD (k0 + (m + 1)) 0 = es.getD (k0 + m) 0
    · have hbe : (es.getD (k0 + (m + 1)) 0 == es.getD (k0 + m) 0) = true := by simpa using he
      rw [if_pos he.symm] at hct
      obtain ⟨L, d', a', ih, g⟩ := loop70a pre es hn k0 hk0 hk n (m + 1 + 1) d a (by omega) (by omega) ha (by omega) hd1 hi (by rw [show k0 + (m + 1 + 1) = k0 + (m + 1) + 1 by omega, hct])
      refine ⟨L, d', a', ?_, g⟩
      rw [← ih, run_loop]
      generalize MC.loop keep70_0 body70_0 = LL
      generalize es.getD (k0 + (m + 1)) 0 = u at *
      generalize es.getD (k0 + m) 0 = v at *
      generalize hA : ((m + 1 : Nat) : Int) = A at *
      generalize ((m + 1 + 1 : Nat) : Int) = B at *
      simp (maxSteps := 10000000) [-List.getD_eq_getElem?_getD, -ixsA, -loadA, -storeA, -cut, -List.all_eq_true, body70_0, keep70_0, head70a, hA, hlt, x1, x2, x3, l1, l2, w1, w2, w3, hbe, hcut, he, hAB, w2b]
    · have hbe : (es.getD (k0 + (m + 1)) 0 == es.getD (k0 + m) 0) = false := by simpa using he
      rw [if_neg fun h => he h.symm] at hct
      have htk : (a.set d (es.getD (k0 + (m + 1)) 0)).take (d + 1) = a.take d ++ [es.getD (k0 + (m + 1)) 0] := by
        rw [List.take_add_one, List.getElem?_set_self (by omega), List.take_set_of_le (Nat.le_refl d)]
        rfl
      obtain ⟨L, d', a', ih, g⟩ := loop70a pre es hn k0 hk0 hk n (m + 1 + 1) (d + 1) (a.set d (es.getD (k0 + (m + 1)) 0)) (by omega) (by omega) (by simpa using ha) (by omega) (by omega) (fun i h1 h2 => by
          have := hi i (by omega) h2
          rw [List.getD_eq_getElem?_getD, List.getElem?_set_ne (by omega), ← List.getD_eq_getElem?_getD]
          exact this) (by rw [show k0 + (m + 1 + 1) = k0 + (m + 1) + 1 by omega, hct, htk])
      refine ⟨L, d', a', ?_, g⟩
      rw [← ih, run_loop]
      generalize MC.loop keep70_0 body70_0 = LL
      generalize es.getD (k0 + (m + 1)) 0 = u at *
      generalize es.getD (k0 + m) 0 = v at *
      generalize hA : ((m + 1 : Nat) : Int) = A at *
      generalize ((m + 1 + 1 : Nat) : Int) = B at *
      generalize hD : ((d + 1 : Nat) : Int) = D at *
      simp (maxSteps := 10000000) [-List.getD_eq_getElem?_getD, -ixsA, -loadA, -storeA, -cut, -List.all_eq_true, body70_0, keep70_0, head70a, hA, hD, hlt, x1, x2, x3, l1, l2, s1, w1, w2, w3, hbe, hcut, he, hAB, w2b]
end Go.Ai

set_option maxRecDepth 100000
namespace Go.Ai
open Go.Office (compactF)
def head70b (p n k : Nat) : Env := mkE 61 .any [(3, I k), (0, .wsl p 0 n 1 false)]
theorem loop70b (pre : List (List AV)) (es : List Int) (hn : es.length < 1000) : ∀ (n k : Nat), k + n = es.length → 1 ≤ k → compactF (es.take k) = es.take k →
    ∃ e a' m x, run Cv 70 (.loop keep70_1 body70_1) (head70b pre.length es.length k) (stS pre es) = some (x, e, stS pre a') ∧ ((x = .ex 0 ∧ gt e 0 = .wsl pre.length 0 es.length 1 false ∧ a' = es ∧ m = es.length ∧ ∃ L, e = mkE 61 .any L) ∨ (x = .rt ∧ gt e 2 = .wsl pre.length 0 m 1 false)) ∧ a'.take m = compactF es ∧ 1 ≤ m ∧ m ≤ a'.length ∧ a'.length = es.length
  | 0, k, hj, h1, ht => by
    have hlt : ¬ (k : Int) < (es.length : Int) := by omega
    have hfull : es.take k = es := List.take_of_length_le (by omega)
    rw [hfull] at ht
    have hfin : ∃ L, run Cv 70 (.loop keep70_1 body70_1) (head70b pre.length es.length k) (stS pre es) = some (.ex 0, mkE 61 .any L, stS pre es) ∧ gt (mkE 61 .any L) 0 = .wsl pre.length 0 es.length 1 false := by
      rw [run_loop]
      simp (maxSteps := 10000000) [-List.getD_eq_getElem?_getD, body70_1, keep70_1, head70b, hlt]
      exact ⟨_, rfl, by simp (maxSteps := 10000000) [-List.getD_eq_getElem?_getD, ]⟩
    obtain ⟨L, h2, h3⟩ := hfin
    exact ⟨_, es, es.length, .ex 0, h2, .inl ⟨rfl, h3, rfl, rfl, L, rfl⟩, by rw [List.take_length, ht], by omega, Nat.le_refl _, rfl⟩
  | n + 1, k, hj, h1, ht => by
    obtain ⟨m, rfl⟩ : ∃ m, k = m + 1 := ⟨k - 1, by omega⟩
    have hlt : ((m + 1 : Nat) : Int) < (es.length : Int) := by omega
    have x1 := sS_ix pre.length es.length 0 (i := m + 1) (by omega)
    have x2 := sS_ix pre.length es.length 0 (i := m) (by omega)
    have l1 := sS_load pre es (i := m + 1) (by omega)
    have l2 := sS_load pre es (i := m) (by omega)
    rw [Nat.zero_add] at x1 x2
    have w1 : IntKind.wrap .i64 (((m + 1 : Nat) : Int) - 1) = (m : Nat) := by rw [wrap_small (by omega) (by omega)]; omega
    have hAB : ((m + 1 : Nat) : Int) + 1 = ((m + 1 + 1 : Nat) : Int) := by omega
    have w2b : IntKind.wrap .i64 ((m + 1 + 1 : Nat) : Int) = ((m + 1 + 1 : Nat) : Int) := wrap_small (by omega) (by omega)
    have hct := compact_take (l := es) (k := m + 1) (by omega) (by omega)
    rw [show m + 1 - 1 = m by omega, ht] at hct
    have hcut := sS_cut pre es
    by_cases he : es.getD (m + 1) 0 = es.getD m 0
    · rw [if_pos he.symm] at hct
      obtain ⟨L, d', a', hl, g3, g0, g4, g5, g6, g7⟩ := loop70a pre es hn (m + 1) (by omega) (by omega) (es.length - (m + 1) - 1) 1 (m + 1) es (by omega) (Nat.le_refl _) rfl (by omega) (by omega) (fun _ _ _ => rfl) (by rw [hct])
      have hl' := fun E (hE : mask keep70_0 E = _) => run_at hl hE
      have e1 : ((1 : Nat) : Int) = 1 := rfl
      simp only [keep70_0, head70a, e1] at hl'
      have c1 := sS_slc1 pre.length es.length (k := m + 1) (by omega)
      have c2 := sS_slc1 pre.length es.length (k := d') (by omega)
      have c3 := sS_slc2 pre.length es.length (k := d') g6 (by omega)
      have c4 := sS_clr pre a' (d := d') (m := es.length - d') (by omega) (by omega)
      have hfin : ∃ e, run Cv 70 (.loop keep70_1 body70_1) (head70b pre.length es.length (m + 1)) (stS pre es) = some (.rt, e, stS pre (a'.take d' ++ List.replicate (es.length - d') 0)) ∧ gt e 2 = .wsl pre.length 0 d' 1 false := by
        generalize es.getD (m + 1) 0 = u at *
        generalize es.getD m 0 = v at *
        generalize hA : ((m + 1 : Nat) : Int) = A at *
        rw [run_loop]
        simp (maxSteps := 10000000) [-List.getD_eq_getElem?_getD, -ixsA, -loadA, -storeA, -cut, -List.all_eq_true, body70_1, keep70_1, keep70_0, head70b, hA, hlt, x1, x2, l1, l2, w1, he, c1, hl', g0, g3, c2, c3, c4]
      obtain ⟨e, h2, h3⟩ := hfin
      refine ⟨e, a'.take d' ++ List.replicate (es.length - d') 0, d', .rt, h2, .inr ⟨rfl, h3⟩, ?_, g6, by simp; omega, by simp; omega⟩
      rw [List.take_append_of_le_length (by simp; omega), List.take_take, Nat.min_self, g4]
    · rw [if_neg fun h => he h.symm] at hct
      have hte : es.take (m + 1) ++ [es.getD (m + 1) 0] = es.take (m + 1 + 1) := by
        rw [List.take_add_one (i := m + 1), List.getElem?_eq_getElem (by omega)]
        simp [show m + 1 < es.length by omega]
      rw [hte] at hct
      obtain ⟨e, a', mm, x, hl, g⟩ := loop70b pre es hn n (m + 1 + 1) (by omega) (by omega) hct
      refine ⟨e, a', mm, x, ?_, g⟩
      rw [← hl, run_loop]
      generalize MC.loop keep70_1 body70_1 = LL
      generalize es.getD (m + 1) 0 = u at *
      generalize es.getD m 0 = v at *
      generalize hA : ((m + 1 : Nat) : Int) = A at *
      generalize ((m + 1 + 1 : Nat) : Int) = B at *
      simp (maxSteps := 10000000) [-List.getD_eq_getElem?_getD, -ixsA, -loadA, -storeA, -cut, -List.all_eq_true, body70_1, keep70_1, head70b, hA, hlt, x1, x2, l1, l2, w1, he, hAB, w2b, hcut]
theorem compact_callA (pre : List (List AV)) (es : List Int) (hn : es.length < 1000) (h1 : 1 ≤ es.length) : ∃ a' m, callA Cv (run Cv) false (.fn (.func 70) [] []) [.wsl pre.length 0 es.length 1 false] (stS pre es) = some (.wsl pre.length 0 m 1 false, stS pre a') ∧ a'.take m = compactF es ∧ 1 ≤ m ∧ m ≤ a'.length := by
  have hcut := sS_cut pre es
  by_cases h2 : es.length = 1
  · match es, h2 with
    | [a], _ =>
      refine ⟨[a], 1, ?_, rfl, Nat.le_refl _, Nat.le_refl _⟩
      rw [callA_imp (by rfl) (by rfl), body_run comp70 (Nat.le_of_ble_eq_true rfl)]
      simp (maxSteps := 10000000) [-List.getD_eq_getElem?_getD, -cut, code70, cutR, hcut]
  · obtain ⟨e, a', m, x, hl, hx, g1, g2, g3, g4⟩ := loop70b pre es hn (es.length - 1) 1 (by omega) (Nat.le_refl _) (by
      match es, h1 with
      | a :: l, _ => rfl)
    have hl' := fun E (hE : mask keep70_1 E = _) => run_at hl hE
    have e1 : ((1 : Nat) : Int) = 1 := rfl
    simp only [keep70_1, head70b, e1] at hl'
    have hlt : ¬ (es.length : Int) < 2 := by omega
    refine ⟨a', m, ?_, g1, g2, g3⟩
    rw [callA_imp (by rfl) (by rfl), body_run comp70 (Nat.le_of_ble_eq_true rfl)]
    rcases hx with ⟨rfl, h0, h3, h4, L, rfl⟩ | ⟨rfl, h0⟩
    · rw [h4]
      simp (maxSteps := 10000000) [-List.getD_eq_getElem?_getD, -cut, code70, keep70_1, hlt, hl', h0, cutR, hcut]
    · simp (maxSteps := 10000000) [-List.getD_eq_getElem?_getD, -cut, code70, keep70_1, hlt, hl', h0, cutR, hcut]
end Go.Ai

set_option maxRecDepth 100000
namespace Go.Ai
open Go.Office (Ft Rl Us Nt Bk Mt Dy DyK Dy0 Sg now0 seas vals keptN butF cnt vote allI compactF)
theorem cut_no (σ σ' : St) (e : Env) (h : ∀ nc, e.all (under σ.boxes.length nc σ.maps.length σ.loops.length 6) = false) : cut σ σ' e = σ' := by
  unfold cut
  have : ∀ nc, dryAt nc σ σ' e = false := fun nc => by simp only [dryAt, h nc, Bool.false_and]
  simp only [this, Bool.false_eq_true, if_false]
def stS2 (pre : List (List AV)) (es : List Int) (z : List AV) : St := { boxes := pre ++ [ints es, z] }
theorem sF_alloc (pre : List (List AV)) (es : List Int) (z : List AV) {C : Cfg} {R : Rec} {d : Bool} {e : Env} : operA C R d e (stS pre es) (.alloc z) = some (.box (pre.length + 1) 0, stS2 pre es z) := by
  rw [op_alloc]
  simp [stS, stS2]
theorem sF_get (pre : List (List AV)) (es : List Int) (z : List AV) : (stS2 pre es z).boxes[pre.length + 1]? = some z := by simp [stS2]
theorem sF_store (pre : List (List AV)) (es : List Int) (z : List AV) (v : List AV) (h1 : v.length = z.length) (h2 : v.all AV.isCell = true) : storeA (stS2 pre es z) z.length (.box (pre.length + 1) 0) (.agg v) = some (stS2 pre es v) := by
  have hc : (AV.agg v).cells = v := rfl
  have ro : (stS2 pre es z).ro = 0 := rfl
  have hs : setAt z 0 v = v := by simp [setAt, h1]
  simp only [storeA, sF_get, Option.bind_some, ro, Nat.zero_le, hc, h1, Nat.zero_add, Nat.le_refl, h2, and_self, if_true, hs]
  simp [stS2]
theorem sF_load (pre : List (List AV)) (es : List Int) (z : List AV) (off : Nat) : loadA (stS2 pre es z) none (.box (pre.length + 1) off) = z[off]? := by
  simp only [loadA, sF_get, Option.bind_some, partA]
theorem sF_app (pre : List (List AV)) (es : List Int) (z : List AV) (n : Int) (h0 : 0 < es.length) (hl : es.length < 1000) : appA (stS2 pre es z) true 1 8 false (.wsl pre.length 0 es.length 1 false) (.sl 1 [I n] .full) = some (.wsl (pre ++ [[], z]).length 0 (es ++ [n]).length 1 false, stS (pre ++ [[], z]) (es ++ [n])) := by
  have hb : (stS2 pre es z).boxes[pre.length]? = some (ints es) := by simp [stS2]
  have ro : (stS2 pre es z).ro = 0 := rfl
  have hil : (ints es).length = es.length := by simp [ints]
  have hby : (es.length + 1) * 8 ≤ 140737488355328 := by omega
  have hf : ([I n] : List AV).flatMap AV.cells = [I n] := rfl
  have hc : ([I n] : List AV).all AV.isCell = true := rfl
  simp only [appA, elemsA, Option.bind_some, List.cons_ne_nil, if_false, if_true, hb, h0, hil, Nat.mul_one, ro, Nat.zero_le, List.length_singleton, hby, hf, hc, and_self, true_and]
  simp [stS2, stS, ints]
theorem sF_cut (pre pre' : List (List AV)) (es es' : List Int) (e : Env) (h : ∀ nc, e.all (under (pre.length + 1) nc 0 0 6) = false) : cut (stS pre es) (stS pre' es') e = stS pre' es' := by
  refine cut_no _ _ _ fun nc => ?_
  have hb : (stS pre es).boxes.length = pre.length + 1 := by simp [stS]
  have hm : (stS pre es).maps.length = 0 := rfl
  have hp : (stS pre es).loops.length = 0 := rfl
  rw [hb, hm, hp]
  exact h nc
theorem chunk_ints : ∀ l : List Int, chunk 1 false l.length (ints l) = ints l
  | [] => rfl
  | n :: l => by
    have := chunk_ints l
    simp only [ints] at this ⊢
    simp [chunk, cellV, this]
theorem chunk_take (l : List Int) (m : Nat) (h : m ≤ l.length) : chunk 1 false m (ints l) = ints (l.take m) := by
  have : ∀ (m : Nat) (l : List Int), m ≤ l.length → chunk 1 false m (ints l) = ints (l.take m) := by
    intro m
    induction m with
    | zero => intro l _; rfl
    | succ m ih =>
      intro l h
      match l, h with
      | a :: l, h =>
        have := ih l (by simpa using h)
        simp only [ints] at this ⊢
        simp [chunk, cellV, this]
  exact this m l h
theorem ints_pur (σ : St) (n : Nat) : ∀ l : List Int, purAll (pur σ (n + 1)) (ints l) = some (ints l, false)
  | [] => rfl
  | a :: l => by
    have := ints_pur σ n l
    simp only [ints] at this ⊢
    simp [purAll, pur, this]
theorem wsl_pur (pre : List (List AV)) (es : List Int) (m : Nat) (h : m ≤ es.length) (n : Nat) : pur (stS pre es) (n + 2) (.wsl pre.length 0 m 1 false) = some (.sl 1 (ints (es.take m)) .no, true) := by
  have h1 := ints_pur (stS pre es) n es
  have hil : (ints es).length = es.length := by simp [ints]
  have h2 : 0 + m * 1 ≤ (ints es).length := by omega
  have h3 := chunk_take es m h
  simp only [pur, sS_get, Option.bind_some, h1, h2, Bool.false_or, true_or, or_true, and_true, and_self, if_true, List.drop_zero, h3]

def tC (x : OB) (q : List Int) : List AV := trC (now0 q) (smX x q) (growP 3 ((x.bk.mt q 0).map metA)) (growP 3 ((x.bk.mt q 1).map metA))
theorem cX_is (x : OB) (q : List Int) : cX x q = .agg (tC x q) := rfl
structure XO (x : OB) (T : List (List Int)) where
  hv : AV
  tv : AV
  K : List Nt
  hrow : IsRow 3 (K.map ntA) hv
  trow : IsRow 7 (T.map (cX x)) tv
  lt : T.length ≤ 256
  lk : K.length < 1000
  f : x.Fine
  x : x.Ok
section
variable {x : OB} {T : List (List Int)}
def XO.c (O : XO x T) : List AV := bkC x O.hv O.tv
theorem XO.cells (O : XO x T) : O.c = [I x.days, I x.first, x.fr, x.q0, .bool x.g0, x.q1, .bool x.g1, O.hv, O.tv] := rfl
theorem XO.pur (O : XO x T) (σ : St) (n : Nat) : purAll (Ai.pur σ (n + 1)) O.c = some (O.c, false) := by
  rw [O.cells]
  have p1 := O.x.fr.pur
  have p2 := O.x.q0.pur
  have p3 := O.x.q1.pur
  have p4 := O.hrow.pur
  have p5 := O.trow.pur
  simp [purAll, Ai.pur, p1, p2, p3, p4, p5]
theorem XO.cell (O : XO x T) : O.c.all AV.isCell = true := by
  rw [O.cells]
  have p1 := O.x.fr.cell
  have p2 := O.x.q0.cell
  have p3 := O.x.q1.cell
  have p4 := O.hrow.cell
  have p5 := O.trow.cell
  simp [p1, p2, p3, p4, p5]
theorem XO.under (O : XO x T) (a b c d n : Nat) : O.c.all (Ai.under a b c d (n + 1)) = true := by
  rw [O.cells]
  have p1 := O.x.fr.under a b c d n
  have p2 := O.x.q0.under a b c d n
  have p3 := O.x.q1.under a b c d n
  have p4 := O.hrow.under a b c d n
  have p5 := O.trow.under a b c d n
  simp [Ai.under, p1, p2, p3, p4, p5]
theorem q_ix (O : XO x T) {k : Nat} (hk : k < T.length) : ixsA 7 O.tv (I k) = some (.rp (tC x T[k]) 0) := by
  have hne : T.map (cX x) ≠ [] := by
    intro h
    have : T = [] := by simpa using h
    rw [this] at hk
    simp at hk
  obtain ⟨c, hc, hr'⟩ := O.trow.sl hne
  rw [hr']
  simp [ixsA, hk, cX_is, AV.cells]
theorem q_len (O : XO x T) : lenA O.tv = some (I T.length) := row_len7 O.trow
theorem load7 (q : List Int) (σ : St) : loadA σ (some 7) (.rp (tC x q) 0) = some (.agg (tC x q)) := rfl
theorem tC_len (q : List Int) : (tC x q).length = 7 := rfl
theorem tC_cell (q : List Int) : (tC x q).all AV.isCell = true := by
  have p0 := (growP_row 3 ((x.bk.mt q 0).map metA)).cell
  have p1 := (growP_row 3 ((x.bk.mt q 1).map metA)).cell
  simp [tC, trC, arr4, p0, p1]
theorem tC_pur (q : List Int) (σ : St) (n : Nat) : purAll (Ai.pur σ (n + 1)) (tC x q) = some (tC x q, false) := by
  have a0 := (growP_row 3 ((x.bk.mt q 0).map metA)).pur σ n
  have a1 := (growP_row 3 ((x.bk.mt q 1).map metA)).pur σ n
  simp [tC, trC, arr4, purAll, Ai.pur, a0, a1]
theorem tC_under (q : List Int) (a b c d n : Nat) : (tC x q).all (Ai.under a b c d (n + 1)) = true := by
  have a0 := (growP_row 3 ((x.bk.mt q 0).map metA)).under a b c d n
  have a1 := (growP_row 3 ((x.bk.mt q 1).map metA)).under a b c d n
  simp [tC, trC, arr4, Ai.under, a0, a1]
structure FnOk (g : Nat) (caps : List AV) : Prop where
  imp : Cv.imp g = false
  pur : ∀ σ n, purAll (Ai.pur σ (n + 1)) caps = some (caps, false)
  under : ∀ a b c d n, caps.all (Ai.under a b c d (n + 1)) = true
theorem FnOk.callA {g : Nat} {caps : List AV} (h : FnOk g caps) (q : List Int) (σ : St) (v : AV) (hg : call Cv g (.agg (tC x q) :: caps) = some v) : callA Cv (run Cv) false (.fn (.func g) [] caps) [.agg (tC x q)] σ = some (v, σ) := by
  have hpu : purAll (Ai.pur σ 12) ([] ++ [.agg (tC x q)] ++ caps) = some (.agg (tC x q) :: caps, false) := by
    have h1 := h.pur σ 11
    have h2 : Ai.pur σ 12 (.agg (tC x q)) = some (.agg (tC x q), false) := by
      have := tC_pur (x := x) q σ 10
      simp [Ai.pur, this]
    simp [purAll, h1, h2]
  rw [ca_none h.imp, hpu]
  simp only [pureCallA, pureA_call, hg, backA]
  rfl
theorem FnOk.un {g : Nat} {caps : List AV} (h : FnOk g caps) (a b c d n : Nat) : Ai.under a b c d (n + 2) (.fn (.func g) [] caps) = true := by
  have := h.under a b c d n
  simp [Ai.under, this]
end
end Go.Ai
