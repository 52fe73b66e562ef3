/- This text shows what Part answers. No conditions of its own. -/
import Derived.Test.YtckbmdbebmkbaaaDoorFnN
import Derived.Test.YtckbmdbebmkbaaaDoorPlainB
set_option linter.unusedSimpArgs false
set_option linter.unusedVariables false
set_option maxRecDepth 100000
namespace Go.Ai
def cmpI (a b : Int) : Int := if a < b then -1 else if b < a then 1 else 0
def cmpL : List Int → List Int → Int
  | a :: l, b :: m => if cmpI a b = 0 then cmpL l m else cmpI a b
  | _, _ => 0
theorem nan_call (a : Int) : call Cv 91 [I a] = some (.bool false) := by
  rw [call_run comp91 (Nat.le_of_ble_eq_true rfl)]
  simp (maxSteps := 10000000) [-List.getD_eq_getElem?_getD, code91]
theorem cmp_call (a b : Int) : call Cv 82 [I a, I b] = some (I (cmpI a b)) := by
  have h1 := nan_call a
  have h2 := nan_call b
  unfold cmpI
  rw [call_run comp82 (Nat.le_of_ble_eq_true rfl)]
  by_cases h : a < b
  · simp (maxSteps := 10000000) [-List.getD_eq_getElem?_getD, code82, h1, h2, h]
  · by_cases h' : b < a
    · simp (maxSteps := 10000000) [-List.getD_eq_getElem?_getD, code82, h1, h2, h, h']
    · simp (maxSteps := 10000000) [-List.getD_eq_getElem?_getD, code82, h1, h2, h, h']
def head64 (r s : AV) (n k : Int) : Env := mkE 36 .any [(11, I k), (10, I n), (9, r), (1, s), (0, r)]
theorem loop64 (l0 m0 : List Int) (r s : AV) (hr : IsRow 1 (ints l0) r) (hs : IsRow 1 (ints m0) s) (hl : l0.length < 2 ^ 47) (hlen : l0.length = m0.length) : ∀ (l m : List Int) (k : Nat), k ≤ l0.length → l0.drop k = l → m0.drop k = m → ∃ L,
    (run Cv 64 (.loop keep64_0 body64_0) (head64 r s l0.length k) {} = some (.ex 0, mkE 36 .any [(12, .bool false), (11, I l0.length), (10, I l0.length), (9, r), (1, s), (0, r)], {}) ∧ cmpL l m = 0) ∨ (run Cv 64 (.loop keep64_0 body64_0) (head64 r s l0.length k) {} = some (.rt, mkE 36 .any ((4, I (cmpL l m)) :: L), {}))
  | [], m, k, hk, h, h' => by
    obtain rfl := drop_nil hk h
    refine ⟨[], .inl ⟨?_, rfl⟩⟩
    rw [run_loop]
    simp (maxSteps := 10000000) [-List.getD_eq_getElem?_getD, body64_0, keep64_0, head64]
  | a :: l, m, k, hk, h, h' => by
    obtain ⟨hlt, ha, hd⟩ := head_drop h
    have hltm : k < m0.length := by omega
    obtain ⟨b, m', rfl, hb, hd'⟩ : ∃ b m', m = b :: m' ∧ m0[k] = b ∧ m0.drop (k + 1) = m' := by
      rw [List.drop_eq_getElem_cons hltm] at h'
      exact ⟨_, _, h'.symm, rfl, rfl⟩
    have hw := wrap_succ hlt hl
    have hlt' : (k : Int) < (l0.length : Int) := by omega
    have hge : ¬ (m0.length : Int) ≤ (k : Int) := by omega
    have hlm := row_len hs
    have ix1 : ixsA 1 r (I k) = some (.rp [I a] 0) := by
      obtain ⟨c, hc, rfl⟩ := row_sl hr (by intro hn; rw [hn] at hlt; simp at hlt)
      simp [ixsA, ints, AV.cells, hlt, ha]
    have ix2 : ixsA 1 s (I k) = some (.rp [I b] 0) := by
      obtain ⟨c, hc, rfl⟩ := row_sl hs (by intro hn; rw [hn] at hltm; simp at hltm)
      simp [ixsA, ints, AV.cells, hltm, hb]
    have hc := cmp_call a b
    have u1 := hr.under
    have u2 := hs.under
    have hlr : ∀ n : Int, loadA {} none (.rp [I n] 0) = some (I n) := fun _ => rfl
    rw [cmpL]
    by_cases h0 : cmpI a b = 0
    · rw [if_pos h0]
      rw [h0] at hc
      have key : run Cv 64 (.loop keep64_0 body64_0) (head64 r s l0.length k) {} = run Cv 64 (.loop keep64_0 body64_0) (head64 r s l0.length ((k : Int) + 1)) {} := by
        rw [run_loop]
        generalize MC.loop keep64_0 body64_0 = L
        simp (maxSteps := 10000000) [-List.getD_eq_getElem?_getD, -ixsA, -loadA, body64_0, keep64_0, head64, hlt', hge, hw, hlm, ix1, ix2, hlr, hc, u1, u2]
      have e1 : (k : Int) + 1 = ((k + 1 : Nat) : Int) := by omega
      rw [key, e1]
      exact loop64 l0 m0 r s hr hs hl hlen l m' (k + 1) hlt hd hd'
    · rw [if_neg h0]
      have hb0 : (cmpI a b == 0) = false := by rw [beq_eq_false_iff_ne]; exact h0
      generalize cmpI a b = c at *
      have hfin : ∃ L, run Cv 64 (.loop keep64_0 body64_0) (head64 r s l0.length k) {} = some (.rt, mkE 36 .any ((4, I c) :: L), {}) := by
        rw [run_loop]
        simp (maxSteps := 10000000) [-List.getD_eq_getElem?_getD, -ixsA, -loadA, body64_0, keep64_0, head64, hlt', hge, hw, hlm, ix1, ix2, hlr, hc, h0, hb0]
        exact ⟨_, rfl⟩
      obtain ⟨L, h1⟩ := hfin
      exact ⟨L, .inr h1⟩
theorem compare_call (l m : List Int) (r s : AV) (hr : IsRow 1 (ints l) r) (hs : IsRow 1 (ints m) s) (hl : l.length < 2 ^ 47) (hlen : l.length = m.length) : call Cv 64 [r, s] = some (I (cmpL l m)) := by
  have h1 := row_len hr
  have h2 := row_len hs
  have hnl : ¬ (l.length : Int) < (m.length : Int) := by omega
  have e0 : ((0 : Nat) : Int) = 0 := rfl
  obtain ⟨L, ⟨hl', h0⟩ | hl'⟩ := loop64 l m r s hr hs hl hlen l m 0 (Nat.zero_le _) rfl rfl
  · have h' := fun E (hE : mask keep64_0 E = _) => run_at hl' hE
    simp only [keep64_0, head64, e0] at h'
    rw [h0, call_run comp64 (Nat.le_of_ble_eq_true rfl)]
    simp (maxSteps := 10000000) [-List.getD_eq_getElem?_getD, code64, h1, h2, hnl, keep64_0, h']
  · have h' := fun E (hE : mask keep64_0 E = _) => run_at hl' hE
    simp only [keep64_0, head64, e0] at h'
    rw [call_run comp64 (Nat.le_of_ble_eq_true rfl)]
    simp (maxSteps := 10000000) [-List.getD_eq_getElem?_getD, code64, h1, h2, keep64_0, h']
theorem cmp3 (a b c a' b' c' : Int) : decide (cmpL [a, b, c] [a', b', c'] < 0) = Go.Office.lt3 (a, b, c) (a', b', c') := by
  unfold Go.Office.lt3
  simp only [cmpL, cmpI]
  by_cases h1 : a = a'
  · subst h1
    by_cases h2 : b = b'
    · subst h2
      by_cases h3 : c < c'
      · simp [h3]
      · by_cases h4 : c' < c <;> simp [h3, h4]
    · by_cases h3 : b < b'
      · simp [h2, h3]
      · have : b' < b := by omega
        simp [h2, h3, this]
  · by_cases h3 : a < a'
    · simp [h1, h3]
    · have : a' < a := by omega
      simp [h1, h3, this]
end Go.Ai

set_option maxRecDepth 100000
namespace Go.Ai
open Go.Office (Ft Rl Us Nt Bk Mt Dy DyK Dy0 Sg now0 seas vals keptN butF cnt vote lt3 best3 MtOk)
abbrev P3 := Int × Int × Int
def p3L (p : P3) : List Int := [p.1, p.2.1, p.2.2]
def bestA : Option P3 → AV
  | none => .nils
  | some p => .sl 1 (ints (p3L p)) .full
theorem compare_callA (p c : P3) (σ : St) : callA Cv (run Cv) false (.fn (.func 64) [] []) [.sl 1 (ints (p3L p)) .full, .sl 1 (ints (p3L c)) .full] σ = some (I (cmpL (p3L p) (p3L c)), σ) := by
  have hc := fun cp => compare_call (p3L p) (p3L c) (.sl 1 (ints (p3L p)) cp) (.sl 1 (ints (p3L c)) cp)
  have hpu : ∀ l : List Int, ∃ cp, cp.pure = cp ∧ ∀ σ, pur σ 12 (.sl 1 (ints l) .full) = some (.sl 1 (ints l) cp, false) := fun l => by
    exact ⟨_, by rfl, fun σ => rfl⟩
  have hp1 : ∃ cp : Cap, cp.pure = cp ∧ ∀ (l : List Int) (σ : St), pur σ 12 (.sl 1 (ints l) .full) = some (.sl 1 (ints l) cp, false) := ⟨_, by rfl, fun l σ => rfl⟩
  obtain ⟨cp, h0, h1⟩ := hp1
  have hpp : purAll (pur σ 12) ([] ++ [.sl 1 (ints (p3L p)) .full, .sl 1 (ints (p3L c)) .full] ++ []) = some ([.sl 1 (ints (p3L p)) cp, .sl 1 (ints (p3L c)) cp], false) := by
    simp only [List.nil_append, List.append_nil, purAll, h1, Option.bind_some]
    rfl
  rw [ca_none (by rfl), hpp]
  simp only [pureCallA, pureA_call, hc cp (.inr (.inr ⟨cp, h0, rfl⟩)) (.inr (.inr ⟨cp, h0, rfl⟩)) (by simp [p3L]) (by simp [p3L]), backA]
  rfl
section
variable {x : OB} {T : List (List Int)}
theorem rule_callA' (O : XO x T) (σ : St) (d : Int) {u y t : Nat} (hu : u < 2) (hy : y < x.fs.length) (ht : t < x.fs.length) : callA Cv (run Cv) false (.fn (.func 63) [] []) [.agg O.c, I (u : Nat), .agg (mtC d y t)] σ = some (.tup [I (x.bk.ruleI u y t), I (x.bk.does u y t)], σ) := by
  have h := rule_call x O.x O.hv O.tv ⟨_, O.hrow⟩ ⟨_, O.trow⟩ d hu hy ht
  have h4 := O.purA σ 10
  have hpu : purAll (pur σ 12) ([] ++ [.agg O.c, I (u : Nat), .agg (mtC d y t)] ++ []) = some ([.agg O.c, I (u : Nat), .agg (mtC d y t)], false) := by
    simp only [List.nil_append, List.append_nil, purAll, h4, Option.bind_some]
    rfl
  rw [ca_none (by rfl), hpu]
  simp only [pureCallA, pureA_call, backA]
  rw [show (.agg O.c : AV) = .agg (bkC x O.hv O.tv) from rfl, h]
  rfl
def placeF (b : Bk) (l : List Mt) : Option P3 := (l.find? fun m => !b.same m).map fun m => (m.day, b.ruleI 0 m.y m.t, b.ruleI 1 m.y m.t)
def head33_0 (O : XO x T) (row best : AV) (n k1 k : Int) : Env := mkE 82 .any [(36, I k), (35, I n), (34, row), (28, I k1), (27, I T.length), (26, O.tv), (7, best), (6, .box 1 0)]
theorem loop33_0 (O : XO x T) (q : List Int) (ms : List Mt) (row : AV) (hrow : IsRow 3 (ms.map metA) row) (hms : ∀ m ∈ ms, MtOk x.bk m) (hlen : ms.length < 1000) (k1 : Int) (best : Option P3) : ∀ (l : List Mt) (k : Nat), k ≤ ms.length → ms.drop k = l →
    ∃ L E, run Cv 33 (.loop keep33_0 body33_0) (head33_0 O row (bestA best) ms.length k1 k) { boxes := [x.cells, O.c, tC x q] } = some (.ex 2, mkE 82 .any L, { boxes := [x.cells, O.c, tC x q] ++ E }) ∧ gt (mkE 82 .any L) 6 = .box 1 0 ∧ gt (mkE 82 .any L) 7 = bestA (best3 best (placeF x.bk l)) ∧ gt (mkE 82 .any L) 26 = O.tv ∧ gt (mkE 82 .any L) 27 = I T.length ∧ gt (mkE 82 .any L) 28 = I k1
  | [], k, hk, h => by
    obtain rfl := drop_nil hk h
    have hb : best3 best (placeF x.bk []) = best := rfl
    rw [hb]
    generalize bestA best = bA
    rw [run_loop]
    simp (maxSteps := 10000000) [-List.getD_eq_getElem?_getD, body33_0, keep33_0, head33_0]
    exact ⟨_, rfl, by simp (maxSteps := 10000000) [-List.getD_eq_getElem?_getD, ], by simp (maxSteps := 10000000) [-List.getD_eq_getElem?_getD, ], by simp (maxSteps := 10000000) [-List.getD_eq_getElem?_getD, ], by simp (maxSteps := 10000000) [-List.getD_eq_getElem?_getD, ], by simp (maxSteps := 10000000) [-List.getD_eq_getElem?_getD, ]⟩
  | m :: l, k, hk, h => by
    obtain ⟨hlt, ha, hd⟩ := head_drop h
    have hw := wrap_succ hlt (by omega)
    have hlt' : (k : Int) < (ms.length : Int) := by omega
    have hix := row_at (f := fun m : Mt => mtC m.day m.y m.t) hrow hlt
    rw [ha] at hix
    obtain ⟨hy, ht⟩ := hms m (by rw [← ha]; exact List.getElem_mem _)
    have hlr : ∀ σ : St, loadA σ (some 3) (.rp (mtC m.day m.y m.t) 0) = some (.agg (mtC m.day m.y m.t)) := fun _ => rfl
    have hst : ∀ a b c : List AV, storeA { boxes := [a, b, c, [I 0, I 0, I 0]] } 3 (.box 3 0) (.agg (mtC m.day m.y m.t)) = some { boxes := [a, b, c, mtC m.day m.y m.t] } := fun _ _ _ => rfl
    have h9 := O.load9 (B := [x.cells, O.c, tC x q, mtC m.day m.y m.t]) (k := 1) rfl
    have h3 : ∀ a b c : List AV, loadA { boxes := [a, b, c, mtC m.day m.y m.t] } (some 3) (.box 3 0) = some (.agg (mtC m.day m.y m.t)) := fun _ _ _ => rfl
    have hd3 : ∀ a b c : List AV, loadA { boxes := [a, b, c, mtC m.day m.y m.t] } none (.box 3 0) = some (I m.day) := fun _ _ _ => rfl
    have e0 : ((0 : Nat) : Int) = 0 := rfl
    have e1 : ((1 : Nat) : Int) = 1 := rfl
    have c0 := fun σ => rule_callA' O σ m.day (u := 0) (by decide) hy ht
    have c1 := fun σ => rule_callA' O σ m.day (u := 1) (by decide) hy ht
    rw [e0] at c0
    rw [e1] at c1
    have hfe : ∀ a b c : Int, fillE 1 false [(0, I a), (1, I b), (2, I c)] [I 0, I 0, I 0] = some [I a, I b, I c] := fun a b c => by simp [fillE, depth, AV.isAgg]
    have hrp : List.replicate 3 (I 0) = [I 0, I 0, I 0] := rfl
    cases hs : x.bk.same m with
    | true =>
      have hp : placeF x.bk (m :: l) = placeF x.bk l := by
        unfold placeF
        rw [List.find?_cons, hs]
        rfl
      rw [hp]
      have hse : x.bk.does 0 m.y m.t = x.bk.does 1 m.y m.t := by simpa [Bk.same] using hs
      rw [← hse] at c1
      obtain ⟨L, E, ih, g⟩ := loop33_0 O q ms row hrow hms hlen k1 best l (k + 1) hlt hd
      refine ⟨L, E, ?_, g⟩
      rw [← ih]
      have e2 : ((k + 1 : Nat) : Int) = (k : Int) + 1 := by omega
      rw [e2]
      have hcut : ∀ (F : List (List AV)) (e : Env), e.all (under 3 0 0 0 6) = true → cut { boxes := [x.cells, O.c, tC x q] } { boxes := x.cells :: O.c :: tC x q :: F } e = { boxes := [x.cells, O.c, tC x q] } := fun F e he => by
        have := cut_add [x.cells, O.c, tC x q] F e (by
          have u1 := x_under O.x 3 0 0 0 5
          have u2 := O.under 3 0 0 0 5
          have u3 := tC_under (x := x) q 3 0 0 0 5
          simp only [List.length_cons, List.length_nil, List.all_cons, List.all_nil, u1, u2, u3, Bool.and_self]) he
        exact this
      have ub : ∀ a b c d, under a b c d 6 (bestA best) = true := fun a b c d => by cases best <;> rfl
      have u4 := O.trow.under
      have u5 := hrow.under
      generalize bestA best = bA at *
      generalize x.bk.ruleI 0 m.y m.t = r0 at *
      generalize x.bk.ruleI 1 m.y m.t = r1 at *
      generalize x.bk.does 0 m.y m.t = d0 at *
      rw [run_loop]
      generalize MC.loop keep33_0 body33_0 = LL
      simp (maxSteps := 10000000) [-List.getD_eq_getElem?_getD, -ixsA, -loadA, -storeA, -cut, -List.all_eq_true, body33_0, keep33_0, head33_0, hlt', hw, hix, hlr, hst, h9, h3, c0, c1]
      rw [hcut]
      simp (maxSteps := 10000000) [-List.getD_eq_getElem?_getD, ub, u4, u5]
    | false =>
      have hp : placeF x.bk (m :: l) = some (m.day, x.bk.ruleI 0 m.y m.t, x.bk.ruleI 1 m.y m.t) := by
        unfold placeF
        rw [List.find?_cons, hs]
        rfl
      rw [hp]
      have hse : (x.bk.does 0 m.y m.t == x.bk.does 1 m.y m.t) = false := by
        rw [beq_eq_false_iff_ne]
        simpa [Bk.same] using hs
      generalize x.bk.ruleI 0 m.y m.t = r0 at *
      generalize x.bk.ruleI 1 m.y m.t = r1 at *
      generalize x.bk.does 0 m.y m.t = d0 at *
      generalize x.bk.does 1 m.y m.t = d1 at *
      have hnew : ints (p3L (m.day, r0, r1)) = [I m.day, I r0, I r1] := rfl
      cases best with
      | none =>
        have hb : best3 none (some (m.day, r0, r1)) = some (m.day, r0, r1) := rfl
        rw [hb, run_loop]
        simp (maxSteps := 10000000) [-List.getD_eq_getElem?_getD, -ixsA, -loadA, -storeA, -cut, -List.all_eq_true, body33_0, keep33_0, head33_0, hlt', hw, hix, hlr, hst, h9, h3, hd3, c0, c1, hse, hfe, hrp, bestA, isNil]
        exact ⟨_, rfl, by simp (maxSteps := 10000000) [-List.getD_eq_getElem?_getD, ], by simp (maxSteps := 10000000) [-List.getD_eq_getElem?_getD, hnew], by simp (maxSteps := 10000000) [-List.getD_eq_getElem?_getD, ], by simp (maxSteps := 10000000) [-List.getD_eq_getElem?_getD, ], by simp (maxSteps := 10000000) [-List.getD_eq_getElem?_getD, ]⟩
      | some c =>
        have hcc := fun σ => compare_callA (m.day, r0, r1) c σ
        have hcmp := cmp3 m.day r0 r1 c.1 c.2.1 c.2.2
        have hbb : best3 (some c) (some (m.day, r0, r1)) = if lt3 (m.day, r0, r1) c then some (m.day, r0, r1) else some c := rfl
        have hcmp' : decide (cmpL (p3L (m.day, r0, r1)) (p3L c) < 0) = lt3 (m.day, r0, r1) c := hcmp
        rw [hnew] at hcc
        generalize cmpL (p3L (m.day, r0, r1)) (p3L c) = z at *
        rw [hbb]
        cases hz : lt3 (m.day, r0, r1) c with
        | true =>
          rw [hz, decide_eq_true_eq] at hcmp'
          rw [run_loop]
          simp (maxSteps := 10000000) [-List.getD_eq_getElem?_getD, -ixsA, -loadA, -storeA, -cut, -List.all_eq_true, body33_0, keep33_0, head33_0, hlt', hw, hix, hlr, hst, h9, h3, hd3, c0, c1, hse, hfe, hrp, bestA, isNil, hcc, hcmp']
          exact ⟨_, rfl, by simp (maxSteps := 10000000) [-List.getD_eq_getElem?_getD, ], by simp (maxSteps := 10000000) [-List.getD_eq_getElem?_getD, hnew], by simp (maxSteps := 10000000) [-List.getD_eq_getElem?_getD, ], by simp (maxSteps := 10000000) [-List.getD_eq_getElem?_getD, ], by simp (maxSteps := 10000000) [-List.getD_eq_getElem?_getD, ]⟩
        | false =>
          rw [hz, decide_eq_false_iff_not] at hcmp'
          rw [run_loop]
          simp (maxSteps := 10000000) [-List.getD_eq_getElem?_getD, -ixsA, -loadA, -storeA, -cut, -List.all_eq_true, body33_0, keep33_0, head33_0, hlt', hw, hix, hlr, hst, h9, h3, hd3, c0, c1, hse, hfe, hrp, bestA, isNil, hcc, hcmp']
          exact ⟨_, rfl, by simp (maxSteps := 10000000) [-List.getD_eq_getElem?_getD, ], by simp (maxSteps := 10000000) [-List.getD_eq_getElem?_getD, hnew], by simp (maxSteps := 10000000) [-List.getD_eq_getElem?_getD, ], by simp (maxSteps := 10000000) [-List.getD_eq_getElem?_getD, ], by simp (maxSteps := 10000000) [-List.getD_eq_getElem?_getD, ]⟩
end
end Go.Ai

set_option maxRecDepth 100000
namespace Go.Ai
open Go.Office (Ft Rl Us Nt Bk Mt Dy DyK Dy0 Sg now0 seas vals keptN butF cnt vote lt3 best3 MtOk)
theorem ret4 {e : Env} {σ : St} {a b c d : Tmp} : retA [(a, none), (b, none), (c, none), (d, none)] e σ = some (.tup [gt e a, gt e b, gt e c, gt e d]) := rfl
section
variable {x : OB} {T : List (List Int)}
def head33_1 (O : XO x T) (best : AV) (k : Int) : Env := mkE 82 .any [(28, I k), (27, I T.length), (26, O.tv), (7, best), (6, .box 1 0)]
theorem loop33_1 (O : XO x T) : ∀ (l : List (List Int)) (k : Nat) (best : Option P3), k ≤ T.length → T.drop k = l →
    run Cv 33 (.loop keep33_1 body33_1) (head33_1 O (bestA best) k) { boxes := [x.cells, O.c] } = some (.ex 0, mkE 82 .any [(29, .bool false), (28, I T.length), (27, I T.length), (26, O.tv), (7, bestA (l.foldl (fun best q => best3 best (x.bk.partQ q)) best)), (6, .box 1 0)], { boxes := [x.cells, O.c] })
  | [], k, best, hk, h => by
    obtain rfl := drop_nil hk h
    rw [List.foldl_nil]
    generalize bestA best = bA
    rw [run_loop]
    simp (maxSteps := 10000000) [-List.getD_eq_getElem?_getD, body33_1, keep33_1, head33_1]
  | q :: l, k, best, hk, h => by
    obtain ⟨hlt, ha, hd⟩ := head_drop h
    have hTl := O.lt
    have hw := wrap_succ hlt (by omega)
    have hlt' : (k : Int) < (T.length : Int) := by omega
    have hix := q_ix O hlt
    rw [ha] at hix
    have hD6 : x.bk.D ≤ 6 := O.f.bk.d6
    have hn4 := O.f.bk.n4
    have hml : (x.bk.mt q 0).length < 1000 := by
      have h1 := Go.Office.meet_len (b := x.bk) (u := 0) x.bk.D.toNat 0 (now0 q)
      have h2 : x.bk.D.toNat * x.bk.fs.length ≤ 6 * 4 := Nat.mul_le_mul (by omega) hn4
      show (x.bk.meet 0 x.bk.D.toNat 0 (now0 q)).length < 1000
      omega
    have hrow := growP_row 3 ((x.bk.mt q 0).map metA)
    obtain ⟨L, E, hl, g6, g7, g26, g27, g28⟩ := loop33_0 O q (x.bk.mt q 0) (growP 3 ((x.bk.mt q 0).map metA)) hrow (Go.Office.meet_ok _ _ _) hml k best (x.bk.mt q 0) 0 (Nat.zero_le _) rfl
    have hpq : placeF x.bk (x.bk.mt q 0) = x.bk.partQ q := rfl
    rw [hpq] at g7
    rw [List.foldl_cons, ← loop33_1 O l (k + 1) (best3 best (x.bk.partQ q)) hlt hd]
    have e1 : ((k + 1 : Nat) : Int) = (k : Int) + 1 := by omega
    rw [e1]
    have hl' := fun E (hE : mask keep33_0 E = _) => run_at hl hE
    have e0 : ((0 : Nat) : Int) = 0 := rfl
    simp only [keep33_0, head33_0, e0] at hl'
    have l7 := load7 (x := x) q
    have hcell := tC_cell (x := x) q
    have hst : storeA { boxes := [x.cells, O.c, [I 0, I 0, I 0, I 0, .nilm, .nils, .nils]] } 7 (.box 2 0) (.agg (tC x q)) = some { boxes := [x.cells, O.c, tC x q] } := by
      have hlen : (tC x q).length = 7 := rfl
      have hs7 : setAt [I 0, I 0, I 0, I 0, .nilm, .nils, .nils] 0 (tC x q) = tC x q := rfl
      simp [storeA, AV.cells, hlen, hcell, hs7]
    have hld : loadA { boxes := [x.cells, O.c, tC x q] } none (.box 2 5) = some (growP 3 ((x.bk.mt q 0).map metA)) := rfl
    have hixa : ixaA 2 1 (.box 2 5) (I 0) = some (.box 2 5) := rfl
    have hll : lenA (growP 3 ((x.bk.mt q 0).map metA)) = some (I (x.bk.mt q 0).length) := by rw [hrow.len]; simp
    have hcut : ∀ (F : List (List AV)) (e : Env), e.all (under 2 0 0 0 6) = true → cut { boxes := [x.cells, O.c] } { boxes := x.cells :: O.c :: F } e = { boxes := [x.cells, O.c] } := fun F e he => by
      have := cut_add [x.cells, O.c] F e (by
        have u1 := x_under O.x 2 0 0 0 5
        have u2 := O.under 2 0 0 0 5
        simp only [List.length_cons, List.length_nil, List.all_cons, List.all_nil, u1, u2, Bool.and_self]) he
      exact this
    have ub : ∀ a b c d (bb : Option P3), under a b c d 6 (bestA bb) = true := fun a b c d bb => by cases bb <;> rfl
    have u4 := O.trow.under
    have ub1 := fun a b c d => ub a b c d (best3 best (x.bk.partQ q))
    generalize bestA (best3 best (x.bk.partQ q)) = bA' at *
    generalize bestA best = bA at *
    generalize growP 3 ((x.bk.mt q 0).map metA) = gr at *
    generalize (x.bk.mt q 0).length = ml at *
    rw [run_loop]
    generalize MC.loop keep33_1 body33_1 = LL
    simp (maxSteps := 10000000) [-List.getD_eq_getElem?_getD, -ixsA, -loadA, -storeA, -ixaA, -cut, -List.all_eq_true, body33_1, keep33_1, keep33_0, head33_1, hlt', hw, hix, l7, hst, hld, hixa, hll, hl', g6, g7, g26, g27, g28]
    rw [hcut]
    simp (maxSteps := 10000000) [-List.getD_eq_getElem?_getD, ub1, u4]
end
def partR (x : OB) : AV := if errQ x true = 0 then (match x.bk.part with | none => .tup [I 0, I 0, I 0, I 4] | some p => .tup [I p.1, I p.2.1, I p.2.2, I 0]) else .tup [I 0, I 0, I 0, I (errQ x true)]
theorem Part_call (x : OB) (hx : x.Ok) : call Cv 33 [x.av] = some (partR x) := by
  have p1 := hx.fr.cell
  have p2 := hx.q0.cell
  have p3 := hx.q1.cell
  have p4 := hx.nr.cell
  have r1 := hx.fr.pur
  have r2 := hx.q0.pur
  have r3 := hx.q1.pur
  have r4 := hx.nr.pur
  have hl0 : ∀ E, loadA { boxes := [I x.days, I x.first, x.fr, x.q0, .bool x.g0, x.q1, .bool x.g1, x.nr] :: E } (some 8) (.box 0 0) = some (.agg [I x.days, I x.first, x.fr, x.q0, .bool x.g0, x.q1, .bool x.g1, x.nr]) := fun _ => rfl
  unfold partR
  rcases asked_cases x hx true with ⟨he, A, hA, hAc, hc⟩ | ⟨he, O, hc⟩
  · rw [if_neg he]
    have hse := zero9_set A hA
    simp only [OB.av, OB.cells] at hc
    have hne : ((errQ x true) == 0) = false := by rw [beq_eq_false_iff_ne]; exact he
    rw [call_run comp33 (Nat.le_of_ble_eq_true rfl)]
    simp (maxSteps := 10000000) [-List.getD_eq_getElem?_getD, -loadA, code33, OB.av, OB.cells, p1, p2, p3, p4, r1, r2, r3, r4, hl0, hc, hA, hAc, hse, hne, he, AV.cells, ret4]
  · rw [if_pos he]
    have hl := loop33_1 O x.bk.tr 0 none (Nat.zero_le _) rfl
    have hl' := fun E (hE : mask keep33_1 E = _) => run_at hl hE
    have e0 : ((0 : Nat) : Int) = 0 := rfl
    have hq := q_len O
    have hpt : x.bk.tr.foldl (fun best q => best3 best (x.bk.partQ q)) none = x.bk.part := rfl
    rw [hpt] at hl'
    have hOl : O.c.length = 9 := rfl
    have hOc := O.cell
    have hse := zero9_set O.c rfl
    have h9 : ∀ (Z : List AV), loadA { boxes := [Z, O.c] } none (.box 1 8) = some O.tv := fun _ => rfl
    simp only [keep33_1, head33_1, e0, OB.cells, bestA] at hl'
    simp only [OB.av, OB.cells] at hc
    have hst0 : storeA { boxes := [[I x.days, I x.first, x.fr, x.q0, .bool x.g0, x.q1, .bool x.g1, x.nr], [I 0, I 0, .nils, .nils, .bool false, .nils, .bool false, .nils, .nils]] } 9 (.box 1 0) (.agg O.c) = some { boxes := [[I x.days, I x.first, x.fr, x.q0, .bool x.g0, x.q1, .bool x.g1, x.nr], O.c] } := by
      simp [storeA, AV.cells, hOl, hOc, hse]
    rw [call_run comp33 (Nat.le_of_ble_eq_true rfl)]
    cases hp : x.bk.part with
    | none =>
      rw [hp] at hl'
      simp (maxSteps := 10000000) [-List.getD_eq_getElem?_getD, -storeA, -loadA, code33, OB.av, OB.cells, p1, p2, p3, p4, r1, r2, r3, r4, hl0, hc, hst0, h9, hq, keep33_1, hl', isNil, ret4]
    | some p =>
      rw [hp] at hl'
      have hix : ∀ c, ixsA 1 (.sl 1 (ints (p3L p)) c) (I 0) = some (.rp [I p.1] 0) ∧ ixsA 1 (.sl 1 (ints (p3L p)) c) (I 1) = some (.rp [I p.2.1] 0) ∧ ixsA 1 (.sl 1 (ints (p3L p)) c) (I 2) = some (.rp [I p.2.2] 0) := fun c => ⟨rfl, rfl, rfl⟩
      have i0 := fun c => (hix c).1
      have i1 := fun c => (hix c).2.1
      have i2 := fun c => (hix c).2.2
      have hlr : ∀ (σ : St) (n : Int), loadA σ none (.rp [I n] 0) = some (I n) := fun _ _ => rfl
      simp (maxSteps := 10000000) [-List.getD_eq_getElem?_getD, -storeA, -loadA, -ixsA, code33, OB.av, OB.cells, p1, p2, p3, p4, r1, r2, r3, r4, hl0, hc, hst0, h9, hq, keep33_1, hl', isNil, i0, i1, i2, hlr, ret4]
end Go.Ai
