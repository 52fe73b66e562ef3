/- This text shows both ends of some numbers. No conditions of its own. -/
import Derived.Test.YtckbmdbebmkbaaaDoorFnI
set_option linter.unusedSimpArgs false
set_option linter.unusedVariables false
set_option maxRecDepth 100000
namespace Go.Ai
open Go.Office (nonNeg)
theorem clone_callA (B : List (List AV)) (l : List Int) (hl : l ≠ []) (h9 : l.length < 1000) (r : AV) (hnil : isNil r = some false) (he : elemsA { boxes := B } r = some (ints l, some 1)) : callA Cv (run Cv) false (.fn (.func 75) [] []) [r] { boxes := B } = some (.wsl B.length 0 l.length 1 false, stS B l) := by
  have hne : ints l ≠ [] := by simpa [ints] using hl
  have hlen : (ints l).length = l.length := by simp [ints]
  have hby : l.length * 8 ≤ 140737488355328 := by omega
  have hfl : (ints l).flatMap AV.cells = ints l := by
    unfold ints
    rw [List.flatMap_map]
    show (l.flatMap fun n => [I n]) = _
    rw [← List.map_eq_flatMap]
  have hcell : ((ints l).flatMap AV.cells).all AV.isCell = true := by
    rw [hfl]; simp [ints]
  have happ : appA { boxes := B } true 1 8 false (.sl 1 [] .full) r = some (.wsl B.length 0 l.length 1 false, stS B l) := by
    simp only [appA, he, Option.bind_some, hne, if_false, if_true, List.nil_append, hlen, hby, and_self, grown, hcell]
    simp [stS, hfl, hlen]
  rw [callA_imp (by rfl) (by rfl), body_run comp75 (Nat.le_of_ble_eq_true rfl)]
  simp (maxSteps := 10000000) [-List.getD_eq_getElem?_getD, -cut, code75, fillE, hnil, happ, cutR]
  have hcut : ∀ e : Env, (∀ nc, e.all (under B.length nc 0 0 6) = false) → cut { boxes := B } (stS B l) e = stS B l := fun e he => cut_no _ _ _ fun nc => he nc
  rw [hcut]
  intro nc
  simp [under]
theorem neg_call (n : Int) : call Cv 76 [I n] = some (.bool (decide (n < 0))) := by
  rw [call_run comp76 (Nat.le_of_ble_eq_true rfl)]
  simp (maxSteps := 10000000) [-List.getD_eq_getElem?_getD, code76]
theorem neg_callA (n : Int) (σ : St) : callA Cv (run Cv) false (.fn (.func 76) [] []) [I n] σ = some (.bool (decide (n < 0)), σ) := by
  have hp : purAll (pur σ 12) ([] ++ [I n] ++ []) = some ([I n], false) := rfl
  rw [ca_none (by rfl), hp]
  simp only [pureCallA, pureA_call, neg_call, backA]
  rfl
theorem sS_slc4 (p n : Nat) {k : Nat} (h : 0 < n) (hk : k ≤ n) : slcA 1 (.wsl p 0 n 1 false) none (some (I k)) none = some (.wsl p 0 k 1 false) := by
  have h0 : (0 : Int) ≤ k := by omega
  simp [slcA, boundA, h0, hk, h]
theorem nonNeg_take {l : List Int} {k : Nat} (hk : k < l.length) : nonNeg (l.take (k + 1)) = nonNeg (l.take k) ++ if 0 ≤ l.getD k 0 then [l.getD k 0] else [] := by
  have e1 : l.take (k + 1) = l.take k ++ [l.getD k 0] := by
    rw [List.take_add_one, List.getElem?_eq_getElem hk]
    simp [hk]
  unfold nonNeg
  rw [e1, List.filter_append]
  congr 1
  by_cases h : 0 ≤ l.getD k 0 <;> simp only [List.filter_cons, h, decide_true, decide_false, if_true, if_false, List.filter_nil, Bool.false_eq_true]
def head74 (p n i j : Nat) : Env := mkE 42 .any [(6, I j), (5, I i), (1, .fn (.func 76) [] []), (0, .wsl p 0 n 1 false)]
theorem loop74 (pre : List (List AV)) (es : List Int) (hn : es.length < 1000) : ∀ (n j i : Nat) (a : List Int), j + n = es.length → a.length = es.length → i < j → (∀ t, j ≤ t → t < es.length → a.getD t 0 = es.getD t 0) → a.take i = nonNeg (es.take j) →
    ∃ L i' a', run Cv 74 (.loop keep74_0 body74_0) (head74 pre.length es.length i j) (stS pre a) = some (.ex 0, mkE 42 .any L, stS pre a') ∧ gt (mkE 42 .any L) 0 = .wsl pre.length 0 es.length 1 false ∧ gt (mkE 42 .any L) 5 = I (i' : Nat) ∧ a'.take i' = nonNeg es ∧ i' < es.length ∧ a'.length = es.length
  | 0, j, i, a, hj, ha, hi, ht, hk => by
    have hlt : ¬ (j : Int) < (es.length : Int) := by omega
    have hfin : ∃ L, run Cv 74 (.loop keep74_0 body74_0) (head74 pre.length es.length i j) (stS pre a) = some (.ex 0, mkE 42 .any L, stS pre a) ∧ gt (mkE 42 .any L) 0 = .wsl pre.length 0 es.length 1 false ∧ gt (mkE 42 .any L) 5 = I (i : Nat) := by
      rw [run_loop]
      simp (maxSteps := 10000000) [-List.getD_eq_getElem?_getD, body74_0, keep74_0, head74, hlt]
      exact ⟨_, rfl, by simp (maxSteps := 10000000) [-List.getD_eq_getElem?_getD, ], by simp (maxSteps := 10000000) [-List.getD_eq_getElem?_getD, ]⟩
    obtain ⟨L, h1, h0, h5⟩ := hfin
    rw [List.take_of_length_le (l := es) (i := j) (by omega)] at hk
    exact ⟨L, i, a, h1, h0, h5, hk, by omega, ha⟩
  | n + 1, j, i, a, hj, ha, hi, ht, hk => by
    have hlt : (j : Int) < (es.length : Int) := by omega
    have x1 := sS_ix pre.length es.length 0 (i := j) (by omega)
    have x2 := sS_ix pre.length es.length 0 (i := i) (by omega)
    rw [Nat.zero_add] at x1 x2
    have l1 := sS_load pre a (i := j) (by omega)
    rw [ht _ (Nat.le_refl _) (by omega)] at l1
    have s1 := sS_store pre a (i := i) (by omega) (es.getD j 0)
    have w2 : IntKind.wrap .i64 ((j : Int) + 1) = ((j + 1 : Nat) : Int) := by rw [wrap_small (by omega) (by omega)]; omega
    have w3 : IntKind.wrap .i64 ((i : Int) + 1) = ((i + 1 : Nat) : Int) := by rw [wrap_small (by omega) (by omega)]; omega
    have hct := nonNeg_take (l := es) (k := j) (by omega)
    rw [← hk] at hct
    have hcut := sS_cut pre a
    have hca := neg_callA (es.getD j 0)
    have hlt2 : j < es.length := by omega
    by_cases he : 0 ≤ es.getD j 0
    · rw [if_pos he] at hct
      have hd : decide (es.getD j 0 < 0) = false := by rw [decide_eq_false_iff_not]; omega
      rw [hd] at hca
      have htk : (a.set i (es.getD j 0)).take (i + 1) = a.take i ++ [es.getD j 0] := by
        rw [List.take_add_one, List.getElem?_set_self (by omega), List.take_set_of_le (Nat.le_refl i)]
        rfl
      obtain ⟨L, i', a', ih, g⟩ := loop74 pre es hn n (j + 1) (i + 1) (a.set i (es.getD j 0)) (by omega) (by simpa using ha) (by omega) (fun t h1 h2 => by
        have := ht t (by omega) h2
        rw [List.getD_eq_getElem?_getD, List.getElem?_set_ne (by omega), ← List.getD_eq_getElem?_getD]
        exact this) (by rw [hct, htk])
      refine ⟨L, i', a', ?_, g⟩
      rw [← ih, run_loop]
      generalize MC.loop keep74_0 body74_0 = LL
      generalize es.getD j 0 = u at *
      generalize hA : ((j + 1 : Nat) : Int) = A at *
      generalize hB : ((i + 1 : Nat) : Int) = B at *
      simp (maxSteps := 10000000) [-List.getD_eq_getElem?_getD, -ixsA, -loadA, -storeA, -cut, -List.all_eq_true, body74_0, keep74_0, head74, hA, hB, hlt, hlt2, x1, x2, l1, s1, w2, w3, hcut, hca]
    · rw [if_neg he, List.append_nil] at hct
      have hd : decide (es.getD j 0 < 0) = true := by rw [decide_eq_true_eq]; omega
      rw [hd] at hca
      obtain ⟨L, i', a', ih, g⟩ := loop74 pre es hn n (j + 1) i a (by omega) ha (by omega) (fun t h1 h2 => ht t (by omega) h2) hct.symm
      refine ⟨L, i', a', ?_, g⟩
      rw [← ih, run_loop]
      generalize MC.loop keep74_0 body74_0 = LL
      generalize es.getD j 0 = u at *
      generalize hA : ((j + 1 : Nat) : Int) = A at *
      simp (maxSteps := 10000000) [-List.getD_eq_getElem?_getD, -ixsA, -loadA, -storeA, -cut, -List.all_eq_true, body74_0, keep74_0, head74, hA, hlt, hlt2, x1, x2, l1, w2, w3, hcut, hca]
end Go.Ai

set_option maxRecDepth 100000
namespace Go.Ai
open Go.Office (nonNeg mem_nonNeg loE hiE ends)
def head77 (l0 : List Int) (a k : Int) : Env := mkE 18 .any [(9, I k), (8, I l0.length), (7, .sl 1 (ints l0) .no), (0, I a)]
theorem loop77 (l0 : List Int) (hl : l0.length < 2 ^ 47) : ∀ (l : List Int) (k : Nat) (a : Int), k ≤ l0.length → l0.drop k = l →
    run Cv 77 (.loop keep77_0 body77_0) (head77 l0 a k) {} = some (.ex 0, mkE 18 .any [(10, .bool false), (9, I l0.length), (8, I l0.length), (7, .sl 1 (ints l0) .no), (0, I (loE l a))], {})
  | [], k, a, hk, h => by
    obtain rfl := drop_nil hk h
    rw [run_loop]
    simp (maxSteps := 10000000) [-List.getD_eq_getElem?_getD, body77_0, keep77_0, head77, loE]
  | n :: l, k, a, hk, h => by
    obtain ⟨hlt, ha, hd⟩ := head_drop h
    have hw := wrap_succ hlt (by omega)
    have key : run Cv 77 (.loop keep77_0 body77_0) (head77 l0 a k) {} = run Cv 77 (.loop keep77_0 body77_0) (head77 l0 (min a n) (k + 1)) {} := by
      have hm : (if n < a then n else a) = min a n := by omega
      rw [run_loop, ← hm]
      generalize MC.loop keep77_0 body77_0 = L
      simp (maxSteps := 10000000) [-List.getD_eq_getElem?_getD, body77_0, keep77_0, head77, ints, hlt, ha, hw, foldA, min2]
    rw [key]
    exact loop77 l0 hl l (k + 1) _ hlt hd
theorem least_call (l : List Int) (hl : l.length < 2 ^ 47) (a : Int) : call Cv 77 [I a, .sl 1 (ints l) .no] = some (I (loE l a)) := by
  have h := fun E (hE : mask keep77_0 E = _) => run_at (loop77 l hl l 0 a (Nat.zero_le _) rfl) hE
  have e5 : ((0 : Nat) : Int) = 0 := rfl
  have hil : (ints l).length = l.length := by simp [ints]
  simp only [head77, keep77_0, e5] at h
  rw [call_run comp77 (Nat.le_of_ble_eq_true rfl)]
  simp (maxSteps := 10000000) [-List.getD_eq_getElem?_getD, code77, keep77_0, h, hil]
def head78 (l0 : List Int) (a k : Int) : Env := mkE 25 .any [(4, I k), (3, I a), (0, .sl 1 (ints l0) .no)]
theorem loop78 (l0 : List Int) (hl : l0.length < 2 ^ 47) : ∀ (l : List Int) (k : Nat) (a : Int), k ≤ l0.length → l0.drop k = l → ∃ L,
    run Cv 78 (.loop keep78_0 body78_0) (head78 l0 a k) {} = some (.ex 0, mkE 25 .any L, {}) ∧ gt (mkE 25 .any L) 3 = I (hiE l a)
  | [], k, a, hk, h => by
    obtain rfl := drop_nil hk h
    have hil : (ints l0).length = l0.length := by simp [ints]
    rw [run_loop]
    simp (maxSteps := 10000000) [-List.getD_eq_getElem?_getD, body78_0, keep78_0, head78, hil]
    exact ⟨_, rfl, by simp (maxSteps := 10000000) [-List.getD_eq_getElem?_getD, hiE]⟩
  | n :: l, k, a, hk, h => by
    obtain ⟨hlt, ha, hd⟩ := head_drop h
    have hw := wrap_succ hlt (by omega)
    have hil : (ints l0).length = l0.length := by simp [ints]
    have key : run Cv 78 (.loop keep78_0 body78_0) (head78 l0 a k) {} = run Cv 78 (.loop keep78_0 body78_0) (head78 l0 (max a n) (k + 1)) {} := by
      have hm : (if a < n then n else a) = max a n := by omega
      rw [run_loop, ← hm]
      generalize MC.loop keep78_0 body78_0 = L
      simp (maxSteps := 10000000) [-List.getD_eq_getElem?_getD, body78_0, keep78_0, head78, ints, hlt, ha, hw, foldA, max2]
    rw [key]
    exact loop78 l0 hl l (k + 1) _ hlt hd
theorem max_call (l : List Int) (hl : l.length < 2 ^ 46) (a : Int) : call Cv 78 [.sl 1 (ints (a :: l)) .no] = some (I (hiE l a)) := by
  obtain ⟨L, h1, h3⟩ := loop78 (a :: l) (by rw [List.length_cons]; omega) l 1 a (by simp) rfl
  have h := fun E (hE : mask keep78_0 E = _) => run_at h1 hE
  have e5 : ((1 : Nat) : Int) = 1 := rfl
  have hil : (ints l).length = l.length := by simp [ints]
  have hlt : ¬ ((l.length : Int) + 1 < 1) := by omega
  have hic : ints (a :: l) = I a :: ints l := rfl
  simp only [head78, keep78_0, e5, hic] at h
  rw [hic, call_run comp78 (Nat.le_of_ble_eq_true rfl)]
  simp (maxSteps := 10000000) [-List.getD_eq_getElem?_getD, code78, keep78_0, hil, hlt, h, h3]

def negP (n : Int) : Bool := decide (n < 0)
theorem idx_neg : ∀ (l : List Int) (k : Nat), (idxP negP l k = -1 ∧ nonNeg l = l) ∨ ∃ i : Nat, i < l.length ∧ idxP negP l k = (k + i : Nat) ∧ nonNeg (l.take (i + 1)) = l.take i
  | [], k => .inl ⟨rfl, rfl⟩
  | a :: l, k => by
    by_cases h : a < 0
    · right
      have hp : negP a = true := by simpa [negP] using h
      refine ⟨0, by simp, by rw [idxP, hp]; simp, ?_⟩
      have : ¬ 0 ≤ a := by omega
      simp [nonNeg, this]
    · have hp : negP a = false := by simpa [negP] using h
      have h0 : 0 ≤ a := by omega
      rw [idxP, hp]
      rcases idx_neg l (k + 1) with ⟨h1, h2⟩ | ⟨i, h1, h2, h3⟩
      · left
        refine ⟨h1, ?_⟩
        unfold nonNeg at h2 ⊢
        rw [List.filter_cons, if_pos (by simpa using h0), h2]
      · right
        refine ⟨i + 1, by simpa using h1, ?_, ?_⟩
        · rw [if_neg (by simp), h2]
          congr 1
          omega
        · unfold nonNeg at h3 ⊢
          rw [List.take_succ_cons, List.filter_cons, if_pos (by simpa using h0), h3, List.take_succ_cons]
theorem idx90_callA (pre : List (List AV)) (es : List Int) (hl : es.length < 1000) (h1 : 1 ≤ es.length) : callA Cv (run Cv) false (.fn (.func 90) [] []) [.wsl pre.length 0 es.length 1 false, .fn (.func 76) [] []] (stS pre es) = some (I (idxP negP es 0), stS pre es) := by
  have hp := wsl_pur pre es es.length (Nat.le_refl _) 10
  rw [List.take_length] at hp
  have hc := idx90_call (fun n : Int => I n) (fun _ => rfl) (fun _ _ => rfl) (fun _ _ _ => rfl) negP 76 [] (fun _ _ => rfl) (fun _ _ _ _ _ => rfl) rfl es (fun a _ => neg_call a) (.sl 1 (ints es) .no) (.inr (.inr ⟨.no, rfl, rfl⟩)) (by omega)
  have hpu : purAll (pur (stS pre es) 12) ([] ++ [.wsl pre.length 0 es.length 1 false, .fn (.func 76) [] []] ++ []) = some ([.sl 1 (ints es) .no, .fn (.func 76) [] []], true) := by
    have hF : pur (stS pre es) 12 (.fn (.func 76) [] []) = some (.fn (.func 76) [] [], false) := rfl
    simp only [List.nil_append, List.append_nil, purAll, hp, hF, Option.bind_some]
    rfl
  rw [ca_none (by rfl), hpu]
  simp only [pureCallA, pureA_call, hc, backA, if_true]
  rfl
theorem delete_callA (pre : List (List AV)) (es : List Int) (hn : es.length < 1000) (h1 : 1 ≤ es.length) : ∃ a' m, callA Cv (run Cv) false (.fn (.func 74) [] []) [.wsl pre.length 0 es.length 1 false, .fn (.func 76) [] []] (stS pre es) = some (.wsl pre.length 0 m 1 false, stS pre a') ∧ a'.take m = nonNeg es ∧ m ≤ a'.length := by
  have hcut := sS_cut pre es
  have hi := idx90_callA pre es hn h1
  rcases idx_neg es 0 with ⟨g1, g2⟩ | ⟨i, g1, g2, g3⟩
  · refine ⟨es, es.length, ?_, by rw [List.take_length, g2], Nat.le_refl _⟩
    rw [g1] at hi
    rw [callA_imp (by rfl) (by rfl), body_run comp74 (Nat.le_of_ble_eq_true rfl)]
    simp (maxSteps := 10000000) [-List.getD_eq_getElem?_getD, -cut, code74, hi, cutR, hcut]
  · rw [g2, Nat.zero_add] at hi
    obtain ⟨L, i', a', hl, h0, h5, k1, k2, k3⟩ := loop74 pre es hn (es.length - (i + 1)) (i + 1) i es (by omega) rfl (by omega) (fun _ _ _ => rfl) g3.symm
    have hl' := fun E (hE : mask keep74_0 E = _) => run_at hl hE
    simp only [keep74_0, head74] at hl'
    have hne : ((i : Int) == -1) = false := by rw [beq_eq_false_iff_ne]; omega
    have w1 : IntKind.wrap .i64 ((i : Int) + 1) = ((i + 1 : Nat) : Int) := by rw [wrap_small (by omega) (by omega)]; omega
    have c2 := sS_slc1 pre.length es.length (k := i') k2
    have c3 := sS_slc4 pre.length es.length (k := i') (by omega) (by omega)
    have c4 := sS_clr pre a' (d := i') (m := es.length - i') (by omega) (by omega)
    refine ⟨a'.take i' ++ List.replicate (es.length - i') 0, i', ?_, ?_, by simp; omega⟩
    · rw [callA_imp (by rfl) (by rfl), body_run comp74 (Nat.le_of_ble_eq_true rfl)]
      generalize ((i + 1 : Nat) : Int) = A at *
      simp (maxSteps := 10000000) [-List.getD_eq_getElem?_getD, -cut, code74, hi, hne, w1, keep74_0, hl', h0, h5, c2, c3, c4, cutR, hcut]
    · rw [List.take_append_of_le_length (by simp; omega), List.take_take, Nat.min_self, k1]
theorem ints_take0 {a' : List Int} {m : Nat} {b : Int} {l : List Int} (h : a'.take m = b :: l) : a'.getD 0 0 = b ∧ 0 < m ∧ 0 < a'.length := by
  cases a' with
  | nil => simp at h
  | cons c a' =>
    cases m with
    | zero => simp at h
    | succ m => simp at h; exact ⟨h.1, by omega, by simp⟩
theorem purE_ints : ∀ l : List Int, purAll (pur {} depth) (ints l) = some (ints l, false) := fun l => ints_pur {} 11 l
theorem hull_callA (pre : List (List AV)) (a : List Int) (m0 : Nat) (l : List Int) (hk0 : a.take m0 = l) (hm1 : 1 ≤ m0) (hm2 : m0 ≤ a.length) (h9 : l.length < 1000) : ∃ p a2, ∀ d, callA Cv (run Cv) d (.fn (.func 55) [] []) [.wsl pre.length 0 m0 1 false] (stS pre a) = some (.tup [.agg (if nonNeg l = [] then [I 0, I 0] else [I (ends (nonNeg l)).1, I (ends (nonNeg l)).2]), I (if nonNeg l = [] then 4 else 0)], cut (stS pre a) (stS (pre ++ p) a2) [.tup [.agg (if nonNeg l = [] then [I 0, I 0] else [I (ends (nonNeg l)).1, I (ends (nonNeg l)).2]), I (if nonNeg l = [] then 4 else 0)]]) ∧ p.head? = some (ints a) := by
  have hl : l ≠ [] := by
    intro h
    rw [h, List.take_eq_nil_iff] at hk0
    rcases hk0 with h | h
    · omega
    · rw [h] at hm2; simp at hm2; omega
  have hpos : 1 ≤ l.length := by cases l with | nil => exact absurd rfl hl | cons a l => simp
  obtain ⟨B, hB⟩ : ∃ B : List (List AV), B = pre ++ [ints a, [I 0, I 0]] := ⟨_, rfl⟩
  have hel : elemsA { boxes := B } (.wsl pre.length 0 m0 1 false) = some (ints l, some 1) := by
    have h1 : B[pre.length]? = some (ints a) := by rw [hB]; simp
    have h2 := purE_ints a
    have h3 : 0 + m0 * 1 ≤ (ints a).length := by simp [ints]; omega
    have h4 := chunk_take a m0 hm2
    simp only [elemsA, h1, Option.bind_some, h2, h3, or_true, and_self, if_true, List.drop_zero, h4, hk0]
  have hcl := clone_callA B l hl h9 (.wsl pre.length 0 m0 1 false) rfl hel
  obtain ⟨a', m, hd, k1, k2⟩ := delete_callA B l h9 hpos
  have hlen : (nonNeg l).length ≤ l.length := List.length_filter_le _ _
  have hal : ∀ R e d, operA Cv R d e (stS pre a) (.alloc [I 0, I 0]) = some (.box (pre.length + 1) 0, { boxes := B }) := fun R e d => by
    rw [op_alloc, hB]
    simp [stS]
  have hst : ∀ u v : Int, storeA (stS B a') 2 (.box (pre.length + 1) 0) (.agg [I u, I v]) = some (stS (pre ++ [ints a, [I u, I v]]) a') := fun u v => by
    have h1 : (stS B a').boxes[pre.length + 1]? = some [I 0, I 0] := by
      rw [hB]
      show (pre ++ [ints a, [I 0, I 0]] ++ [ints a'])[pre.length + 1]? = _
      rw [List.append_assoc, List.getElem?_append_right (by omega), show pre.length + 1 - pre.length = 1 by omega]
      rfl
    have ro : (stS B a').ro = 0 := rfl
    have hs : setAt [I 0, I 0] 0 [I u, I v] = [I u, I v] := rfl
    have hc : (AV.agg [I u, I v]).cells = [I u, I v] := rfl
    have h2 : ([I u, I v] : List AV).length = 2 := rfl
    have h3 : ([I u, I v] : List AV).all AV.isCell = true := rfl
    have h4 : (0 : Nat) + 2 ≤ ([I 0, I 0] : List AV).length := by decide
    simp only [storeA, h1, Option.bind_some, ro, Nat.zero_le, hc, h2, h3, h4, and_self, if_true, hs]
    rw [hB]
    simp [stS]
  have hld : ∀ u v : Int, loadA (stS (pre ++ [ints a, [I u, I v]]) a') (some 2) (.box (pre.length + 1) 0) = some (.agg [I u, I v]) := fun u v => by
    have h1 : (stS (pre ++ [ints a, [I u, I v]]) a').boxes[pre.length + 1]? = some [I u, I v] := by
      show (pre ++ [ints a, [I u, I v]] ++ [ints a'])[pre.length + 1]? = _
      rw [List.append_assoc, List.getElem?_append_right (by omega), show pre.length + 1 - pre.length = 1 by omega]
      rfl
    simp only [loadA, h1, Option.bind_some]
    rfl
  cases hnn : nonNeg l with
  | nil =>
    have hm0 : m = 0 := by
      rw [hnn, List.take_eq_nil_iff] at k1
      rcases k1 with h | h
      · exact h
      · rw [h] at k2; simpa using k2
    subst hm0
    refine ⟨[ints a, [I 0, I 0]], a', fun d => ⟨?_, rfl⟩⟩
    rw [callA_imp (by rfl) (by rfl), body_run comp55 (Nat.le_of_ble_eq_true rfl)]
    generalize stS B a' = S1 at *
    generalize stS B l = S2 at *
    generalize B.length = Bl at *
    generalize pre.length + 1 = b1 at *
    simp (maxSteps := 10000000) [-List.getD_eq_getElem?_getD, -loadA, -storeA, -op_alloc, -cut, code55, hal, hcl, hd, hst, fillA, retc2, hld, cutR]
  | cons b t =>
    rw [hnn] at k1 hlen
    rw [List.length_cons] at hlen
    obtain ⟨g1, g2, g3⟩ := ints_take0 k1
    have hm := max_call t (by omega) b
    have hs := least_call (b :: t) (by rw [List.length_cons]; omega) b
    have hmm : hiE t b = hiE (b :: t) b := by show hiE t b = hiE t (max b b); rw [show max b b = b by omega]
    rw [hmm] at hm
    have hpu : ∀ n, pur (stS B a') (n + 2) (.wsl B.length 0 m 1 false) = some (.sl 1 (ints (b :: t)) .no, true) := fun n => by
      have := wsl_pur B a' m k2 n
      rw [k1] at this
      exact this
    have x1 := sS_ix B.length m 0 (i := 0) g2
    have l1 := sS_load B a' (i := 0) g3
    rw [g1] at l1
    have e0 : ((0 : Nat) : Int) = 0 := rfl
    rw [e0, Nat.zero_add] at x1
    have hca : callA Cv (run Cv) false (.fn (.func 77) [] []) [I b, .wsl B.length 0 m 1 false] (stS B a') = some (I (loE (b :: t) b), stS B a') := by
      have hp : purAll (pur (stS B a') 12) ([] ++ [I b, .wsl B.length 0 m 1 false] ++ []) = some ([I b, .sl 1 (ints (b :: t)) .no], true) := by
        simp only [List.nil_append, List.append_nil, purAll, hpu 10, Option.bind_some]
        rfl
      rw [ca_none (by rfl), hp]
      simp only [pureCallA, pureA_call, hs, backA, if_true]
      rfl
    have hcb : callA Cv (run Cv) false (.fn (.func 78) [] []) [.wsl B.length 0 m 1 false] (stS B a') = some (I (hiE (b :: t) b), stS B a') := by
      have hp : purAll (pur (stS B a') 12) ([] ++ [.wsl B.length 0 m 1 false] ++ []) = some ([.sl 1 (ints (b :: t)) .no], true) := by
        simp only [List.nil_append, List.append_nil, purAll, hpu 10, Option.bind_some]
        rfl
      rw [ca_none (by rfl), hp]
      simp only [pureCallA, pureA_call, hm, backA, if_true]
      rfl
    have hz : ((m : Int) == 0) = false := by rw [beq_eq_false_iff_ne]; omega
    have he : ends (b :: t) = (loE (b :: t) b, hiE (b :: t) b) := rfl
    refine ⟨[ints a, [I (loE (b :: t) b), I (hiE (b :: t) b)]], a', fun d => ⟨?_, rfl⟩⟩
    have hst' := hst (loE (b :: t) b) (hiE (b :: t) b)
    have hld' := hld (loE (b :: t) b) (hiE (b :: t) b)
    rw [he, callA_imp (by rfl) (by rfl), body_run comp55 (Nat.le_of_ble_eq_true rfl)]
    generalize loE (b :: t) b = lo at *
    generalize hiE (b :: t) b = hi at *
    generalize stS B a' = S1 at *
    generalize stS B l = S2 at *
    generalize B.length = Bl at *
    generalize pre.length + 1 = b1 at *
    generalize stS (pre ++ [ints a, [I lo, I hi]]) a' = S3 at *
    simp (maxSteps := 10000000) [-List.getD_eq_getElem?_getD, -loadA, -storeA, -ixsA, -op_alloc, -cut, code55, hal, hcl, hd, hz, x1, l1, hca, hcb, hst', fillA, retc2, hld', cutR]
end Go.Ai
