/- This text shows what the reference answers: First, Ask. No conditions of its own. -/
import Derived.Test.YtogfbfpinhcajaaDoorRefB
set_option linter.unusedSimpArgs false
set_option linter.unusedVariables false
set_option maxRecDepth 100000
set_option linter.unusedSimpArgs false
set_option linter.unusedVariables false
/-! The reference's First. -/
namespace Go.Ai
open Go.Part (Sp Cp Bk truths cnt at' vals worst maxTo)
/-- What is asked of all truths together. -/
structure Asked (x : PB) (r : AV) : Prop where
  ok : Chk x
  row : IsRow 1 ((Pp x 0).map pieceV) r
  ne : Ts x noneF ≠ []
theorem Asked.many {x : PB} {r : AV} (h : Asked x r) {v i : Nat} (hv : v < x.spans.length) (hi : i < x.N.toNat) (n : Int) : call Cv 73 [r, I v, I i, I n] = some (I (cnt (Ts x noneF) (v * x.N.toNat + i) n)) := by
  rw [many_call (Pp x 0) (by have := Pp_short h.ok 0; omega) r h.row v i (Pp_place h.ok hv hi) n, cntP_cnt h.ok hv hi, outB_zero]
theorem Asked.len {x : PB} {r : AV} (h : Asked x r) : lenA r = some (I (Ts x noneF).length) := by
  have := rowG_len h.row
  rw [List.length_map, Pp_len h.ok 0, outB_zero] at this
  exact this
theorem Asked.first {x : PB} {r : AV} (h : Asked x r) {v i : Nat} (hv : v < x.spans.length) (hi : i < x.N.toNat) : ∃ (p0 : List (List Int)) (q : List Int) (U : List (List Int)), Ts x noneF = q :: U ∧ ixsA 1 r (I 0) = some (.rp [pieceV p0] 0) ∧ ixsA 1 (pieceV p0) (I v) = some (.rp [rowR (p0.getD v [])] 0) ∧ ixsA 1 (rowR (p0.getD v [])) (I i) = some (.rp [I (at' q (v * x.N.toNat + i))] 0) := by
  have hPT := Pp_zero h.ok
  cases hP : Pp x 0 with
  | nil => rw [hP] at hPT; exact absurd hPT.symm h.ne
  | cons p0 rest =>
    have h0m : p0 ∈ Pp x 0 := by rw [hP]; exact .head _
    have h1 := Pp_in h.ok p0 h0m
    have h2 := Pp_place h.ok hv hi p0 h0m
    have i0 := row_at h.row (k := 0) (by rw [hP]; simp)
    have e0 : (Pp x 0)[0]'(by rw [hP]; simp) = p0 := by simp [hP]
    rw [e0] at i0
    refine ⟨p0, p0.flatten, rest.map List.flatten, ?_, i0, pieceV_at h2.1, ?_⟩
    · rw [← hPT, hP]; rfl
    · rw [rowR_at h2.2, flat_at p0 v i (fun l hl => (h1.2 l hl).1) hi h2.1]
def nb : Int → Int → Bool := fun _ _ => false
theorem op_done (T : List (List Int)) (N : Nat) (v : Nat) : ∀ (l : List Nat) (s : Op), s.e = 0 → l.foldl (fun s i => opStep T N nb s v i) s = s
  | [], s, _ => rfl
  | i :: l, s, h => by
    have : opStep T N nb s v i = s := by
      unfold opStep
      rw [if_neg (by simp [h, nb])]
    rw [List.foldl_cons, this]
    exact op_done T N v l s h
theorem op_first (T : List (List Int)) (N : Nat) (v i : Nat) (s : Op) (h : s.e = 4) : opStep T N nb s v i = if worst T (v * N + i) < T.length then ⟨v, i, worst T (v * N + i), 0⟩ else s := by
  unfold opStep
  by_cases hw : worst T (v * N + i) < T.length
  · rw [if_pos hw, if_pos (by simp [h, hw])]
  · rw [if_neg hw, if_neg (by simp [hw])]
def head28_0 (r : AV) (v : Nat) (i : Int) : Env := mkE 48 .any [(8, I i), (7, I v), (5, r), (1, .box 0 0)]
theorem loop28_0 (x : PB) (hx : x.Ok) (r : AV) (h : Asked x r) (v : Nat) (hv : v < x.spans.length) : ∀ (m i : Nat), i + m = x.N.toNat →
    ∃ L, (run Cv 28 (.loop keep28_0 body28_0) (head28_0 r v i) (stX x) = some (.ex 2, mkE 48 .any L, stX x) ∧ gt (mkE 48 .any L) 1 = .box 0 0 ∧ gt (mkE 48 .any L) 5 = r ∧ gt (mkE 48 .any L) 7 = I v ∧ ∀ s : Op, s.e = 4 → (List.range' i m).foldl (fun s i => opStep (Ts x noneF) x.N.toNat nb s v i) s = s) ∨
      (run Cv 28 (.loop keep28_0 body28_0) (head28_0 r v i) (stX x) = some (.rt, mkE 48 .any L, stX x) ∧ ∃ t : Op, t.e = 0 ∧ gt (mkE 48 .any L) 2 = I t.v ∧ gt (mkE 48 .any L) 3 = I t.i ∧ gt (mkE 48 .any L) 4 = I 0 ∧ ∀ s : Op, s.e = 4 → (List.range' i m).foldl (fun s i => opStep (Ts x noneF) x.N.toNat nb s v i) s = t)
  | 0, i, hi => by
    have hN := h.ok.N
    have h1 : ¬ (i : Int) < x.N := by omega
    have key : ∃ L, run Cv 28 (.loop keep28_0 body28_0) (head28_0 r v i) (stX x) = some (.ex 2, mkE 48 .any L, stX x) ∧ gt (mkE 48 .any L) 1 = .box 0 0 ∧ gt (mkE 48 .any L) 5 = r ∧ gt (mkE 48 .any L) 7 = I v := by
      rw [run_loop]
      simp (maxSteps := 10000000) [-List.getD_eq_getElem?_getD, body28_0, keep28_0, head28_0, stX, PB.cells, h1]
      exact ⟨_, rfl, by simp (maxSteps := 10000000) [-List.getD_eq_getElem?_getD, ], by simp (maxSteps := 10000000) [-List.getD_eq_getElem?_getD, ], by simp (maxSteps := 10000000) [-List.getD_eq_getElem?_getD, ]⟩
    obtain ⟨L, g1, g2, g3, g4⟩ := key
    exact ⟨L, .inl ⟨g1, g2, g3, g4, fun s _ => rfl⟩⟩
  | m + 1, i, hi => by
    have hN := h.ok.N
    have hiN : i < x.N.toNat := by omega
    have h1 : (i : Int) < x.N := by omega
    have hw : IntKind.wrap .i64 ((i : Int) + 1) = i + 1 := wrap_small (by omega) (by omega)
    obtain ⟨p0, q, U, hT, i0, i1, i2⟩ := h.first hv hiN
    have hmany := h.many hv hiN (at' q (v * x.N.toNat + i))
    have hlen := h.len
    have hru := h.row.under
    have hrp := h.row.pur
    have hvu := hx.vrow.under
    have hcu := hx.crow.under
    have hwl := Part.worst_lt hT (j := v * x.N.toNat + i) fun p hp => Ts_note h.ok hp hv hiN
    by_cases hW : worst (Ts x noneF) (v * x.N.toNat + i) < (Ts x noneF).length
    · have hc := hwl.1 hW
      have hc' : ((cnt (Ts x noneF) (v * x.N.toNat + i) (at' q (v * x.N.toNat + i)) : Nat) : Int) < ((Ts x noneF).length : Int) := by omega
      have key : ∃ L, run Cv 28 (.loop keep28_0 body28_0) (head28_0 r v i) (stX x) = some (.rt, mkE 48 .any L, stX x) ∧ gt (mkE 48 .any L) 2 = I v ∧ gt (mkE 48 .any L) 3 = I i ∧ gt (mkE 48 .any L) 4 = I 0 := by
        generalize cnt (Ts x noneF) (v * x.N.toNat + i) (at' q (v * x.N.toNat + i)) = C at *
        generalize at' q (v * x.N.toNat + i) = y at *
        generalize p0.getD v [] = q0 at *
        generalize ((Ts x noneF).length : Int) = lT at *
        generalize (C : Int) = CC at *
        rw [run_loop]
        simp (maxSteps := 10000000) [-List.getD_eq_getElem?_getD, -ixsA, -List.all_eq_true, body28_0, keep28_0, head28_0, stX, PB.cells, h1, hw, i0, i1, i2, hmany, hlen, hru, hrp, hvu, hcu, hc']
        exact ⟨_, rfl, by simp (maxSteps := 10000000) [-List.getD_eq_getElem?_getD, ], by simp (maxSteps := 10000000) [-List.getD_eq_getElem?_getD, ], by simp (maxSteps := 10000000) [-List.getD_eq_getElem?_getD, ]⟩
      obtain ⟨L, g1, g2, g3, g4⟩ := key
      refine ⟨L, .inr ⟨g1, ⟨v, i, worst (Ts x noneF) (v * x.N.toNat + i), 0⟩, rfl, g2, g3, g4, fun s hs => ?_⟩⟩
      rw [List.range'_succ, List.foldl_cons, op_first _ _ _ _ _ hs, if_pos hW]
      exact op_done _ _ _ _ _ rfl
    · have hc : ¬ ((cnt (Ts x noneF) (v * x.N.toNat + i) (at' q (v * x.N.toNat + i)) : Nat) : Int) < ((Ts x noneF).length : Int) := fun hc => hW (hwl.2 (by omega))
      have key : run Cv 28 (.loop keep28_0 body28_0) (head28_0 r v i) (stX x) = run Cv 28 (.loop keep28_0 body28_0) (head28_0 r v (i + 1)) (stX x) := by
        generalize cnt (Ts x noneF) (v * x.N.toNat + i) (at' q (v * x.N.toNat + i)) = C at *
        generalize at' q (v * x.N.toNat + i) = y at *
        generalize p0.getD v [] = q0 at *
        generalize ((Ts x noneF).length : Int) = lT at *
        generalize (C : Int) = CC at *
        rw [run_loop]
        generalize MC.loop keep28_0 body28_0 = L
        simp (maxSteps := 10000000) [-List.getD_eq_getElem?_getD, -ixsA, -List.all_eq_true, body28_0, keep28_0, head28_0, stX, PB.cells, h1, hw, i0, i1, i2, hmany, hlen, hru, hrp, hvu, hcu, hc]
      rw [key]
      obtain ⟨L, g⟩ := loop28_0 x hx r h v hv m (i + 1) (by omega)
      refine ⟨L, ?_⟩
      have hst : ∀ s : Op, s.e = 4 → (List.range' i (m + 1)).foldl (fun s i => opStep (Ts x noneF) x.N.toNat nb s v i) s = (List.range' (i + 1) m).foldl (fun s i => opStep (Ts x noneF) x.N.toNat nb s v i) s := fun s hs => by
        rw [List.range'_succ, List.foldl_cons, op_first _ _ _ _ _ hs, if_neg hW]
      rcases g with ⟨g1, g2, g3, g4, g5⟩ | ⟨g1, t, g2, g3, g4, g5, g6⟩
      · exact .inl ⟨g1, g2, g3, g4, fun s hs => by rw [hst s hs]; exact g5 s hs⟩
      · exact .inr ⟨g1, t, g2, g3, g4, g5, fun s hs => by rw [hst s hs]; exact g6 s hs⟩
theorem row_done (T : List (List Int)) (N : Nat) : ∀ (l : List Nat) (s : Op), s.e = 0 → l.foldl (rowStep T N nb) s = s
  | [], s, _ => rfl
  | v :: l, s, h => by
    have : rowStep T N nb s v = s := op_done T N v _ s h
    rw [List.foldl_cons, this]
    exact row_done T N l s h
def head28_1 (r : AV) (v : Int) : Env := mkE 48 .any [(7, I v), (5, r), (1, .box 0 0)]
theorem loop28_1 (x : PB) (hx : x.Ok) (r : AV) (h : Asked x r) : ∀ (m v : Nat), v + m = x.spans.length →
    ∃ L, (run Cv 28 (.loop keep28_1 body28_1) (head28_1 r v) (stX x) = some (.ex 0, mkE 48 .any L, stX x) ∧ ∀ s : Op, s.e = 4 → (List.range' v m).foldl (rowStep (Ts x noneF) x.N.toNat nb) s = s) ∨
      (run Cv 28 (.loop keep28_1 body28_1) (head28_1 r v) (stX x) = some (.rt, mkE 48 .any L, stX x) ∧ ∃ t : Op, t.e = 0 ∧ gt (mkE 48 .any L) 2 = I t.v ∧ gt (mkE 48 .any L) 3 = I t.i ∧ gt (mkE 48 .any L) 4 = I 0 ∧ ∀ s : Op, s.e = 4 → (List.range' v m).foldl (rowStep (Ts x noneF) x.N.toNat nb) s = t)
  | 0, v, hv => by
    have hvl := vlen hx
    have h1 : ¬ (v : Int) < (x.spans.length : Int) := by omega
    have key : ∃ L, run Cv 28 (.loop keep28_1 body28_1) (head28_1 r v) (stX x) = some (.ex 0, mkE 48 .any L, stX x) := by
      rw [run_loop]
      simp (maxSteps := 10000000) [-List.getD_eq_getElem?_getD, body28_1, keep28_1, head28_1, stX, PB.cells, hvl, h1]
      exact ⟨_, rfl⟩
    obtain ⟨L, g1⟩ := key
    exact ⟨L, .inl ⟨g1, fun s _ => rfl⟩⟩
  | m + 1, v, hv => by
    have hV := h.ok.V
    have hvl := vlen hx
    have h1 : (v : Int) < (x.spans.length : Int) := by omega
    have hw : IntKind.wrap .i64 ((v : Int) + 1) = v + 1 := wrap_small (by omega) (by omega)
    have hru := h.row.under
    have hvu := hx.vrow.under
    have hcu := hx.crow.under
    have e5 : ((0 : Nat) : Int) = 0 := rfl
    obtain ⟨L0, g⟩ := loop28_0 x hx r h v (by omega) x.N.toNat 0 (by omega)
    rcases g with ⟨g1, g2, g3, g4, g5⟩ | ⟨g1, t, g2, g3, g4, g5, g6⟩
    · have hin := fun E (hE : mask keep28_0 E = _) => run_at g1 hE
      simp only [stX, head28_0, keep28_0, PB.cells, e5] at hin
      have key : run Cv 28 (.loop keep28_1 body28_1) (head28_1 r v) (stX x) = run Cv 28 (.loop keep28_1 body28_1) (head28_1 r (v + 1)) (stX x) := by
        rw [run_loop]
        generalize MC.loop keep28_1 body28_1 = L
        simp (maxSteps := 10000000) [-List.getD_eq_getElem?_getD, -List.all_eq_true, body28_1, keep28_1, head28_1, stX, PB.cells, hvl, h1, hw, keep28_0, hin, g2, g3, g4, hru, hvu, hcu]
      rw [key]
      obtain ⟨L, g⟩ := loop28_1 x hx r h m (v + 1) (by omega)
      refine ⟨L, ?_⟩
      have hst : ∀ s : Op, s.e = 4 → (List.range' v (m + 1)).foldl (rowStep (Ts x noneF) x.N.toNat nb) s = (List.range' (v + 1) m).foldl (rowStep (Ts x noneF) x.N.toNat nb) s := fun s hs => by
        rw [List.range'_succ, List.foldl_cons]
        congr 1
        exact g5 s hs
      rcases g with ⟨k1, k2⟩ | ⟨k1, t, k2, k3, k4, k5, k6⟩
      · exact .inl ⟨k1, fun s hs => by rw [hst s hs]; exact k2 s hs⟩
      · exact .inr ⟨k1, t, k2, k3, k4, k5, fun s hs => by rw [hst s hs]; exact k6 s hs⟩
    · have hin := fun E (hE : mask keep28_0 E = _) => run_at g1 hE
      simp only [stX, head28_0, keep28_0, PB.cells, e5] at hin
      have key : run Cv 28 (.loop keep28_1 body28_1) (head28_1 r v) (stX x) = some (.rt, mkE 48 .any L0, stX x) := by
        rw [run_loop]
        simp (maxSteps := 10000000) [-List.getD_eq_getElem?_getD, -List.all_eq_true, body28_1, keep28_1, head28_1, stX, PB.cells, hvl, h1, hw, keep28_0, hin]
      refine ⟨L0, .inr ⟨key, t, g2, g3, g4, g5, fun s hs => ?_⟩⟩
      rw [List.range'_succ, List.foldl_cons]
      have : rowStep (Ts x noneF) x.N.toNat nb s v = t := g6 s hs
      rw [this]
      exact row_done _ _ _ _ g2
theorem rFirst_call (x : PB) (hx : x.Ok) : call Cv 28 [x.av] = some (trip (firstR x)) := by
  obtain ⟨r0, hr0, h1, hrp⟩ := asked_call_ref x hx true
  have hvc := hx.vrow.cell
  have hcc := hx.crow.cell
  have hvp := hx.vrow.pur
  have hcp := hx.crow.pur
  simp only [PB.av, PB.cells] at h1
  unfold firstR openR
  by_cases he : ansE x true = 0
  · obtain ⟨hc, _, hT⟩ := ansE_zero he
    have hk := chk_of hc
    have hA : Asked x r0 := ⟨hk, hr0 he, hT⟩
    rw [if_pos he]
    rw [he] at h1
    have e5 : ((0 : Nat) : Int) = 0 := rfl
    obtain ⟨L, g⟩ := loop28_1 x hx r0 hA x.spans.length 0 (by omega)
    have hos : openS (Ts x noneF) x.spans.length x.N.toNat (fun _ _ => false) = (List.range' 0 x.spans.length).foldl (rowStep (Ts x noneF) x.N.toNat nb) ⟨0, 0, 0, 4⟩ := rfl
    rw [hos]
    rcases g with ⟨g1, g2⟩ | ⟨g1, t, g2, g3, g4, g5, g6⟩
    · rw [g2 _ rfl]
      have hin := fun E (hE : mask keep28_1 E = _) => run_at g1 hE
      simp only [stX, head28_1, keep28_1, PB.cells, e5] at hin
      rw [call_run comp28 (Nat.le_of_ble_eq_true rfl)]
      simp (maxSteps := 10000000) [-List.getD_eq_getElem?_getD, ret2, ret3, retc2, -List.all_eq_true, code28, PB.av, PB.cells, hvc, hcc, hvp, hcp, h1, hrp, keep28_1, hin, trip]
    · rw [g6 _ rfl]
      have hin := fun E (hE : mask keep28_1 E = _) => run_at g1 hE
      simp only [stX, head28_1, keep28_1, PB.cells, e5] at hin
      rw [call_run comp28 (Nat.le_of_ble_eq_true rfl)]
      simp (maxSteps := 10000000) [-List.getD_eq_getElem?_getD, ret2, ret3, retc2, -List.all_eq_true, code28, PB.av, PB.cells, hvc, hcc, hvp, hcp, h1, hrp, keep28_1, hin, trip, g2, g3, g4, g5]
  · rw [if_neg he]
    have hne : (ansE x true != 0) = true := by simpa using he
    generalize ansE x true = W at *
    rw [call_run comp28 (Nat.le_of_ble_eq_true rfl)]
    simp (maxSteps := 10000000) [-List.getD_eq_getElem?_getD, ret2, ret3, retc2, -List.all_eq_true, code28, PB.av, PB.cells, hvc, hcc, hvp, hcp, h1, hrp, hne, trip]
end Go.Ai

set_option maxRecDepth 100000
set_option linter.unusedSimpArgs false
set_option linter.unusedVariables false
/-! The reference's Ask. -/
namespace Go.Ai
open Go.Part (Sp Cp Bk truths cnt at' vals worst maxTo)
def lb : Int → Int → Bool := fun a b => decide (a < b)
/-- What the reference remembers of a place. -/
structure OpI (s : Op) : Prop where
  is : (s.e = 0 ∧ 0 ≤ s.v) ∨ (s.e = 4 ∧ s.v = 0 ∧ s.i = 0 ∧ s.least = 0)
def rv (s : Op) : Int := if s.e = 0 then s.v else -1
def ri (s : Op) : Int := if s.e = 0 then s.i else -1
theorem OpI.step {s : Op} (h : OpI s) (T : List (List Int)) (N v i : Nat) : OpI (opStep T N lb s v i) := by
  unfold opStep
  split
  · exact ⟨.inl ⟨rfl, by show (0 : Int) ≤ (v : Int); omega⟩⟩
  · exact h
def head30_0 (r : AV) (s : Op) (v i : Nat) (w k : Int) : Env := mkE 66 .any [(13, I k), (12, I w), (11, I i), (10, I v), (9, I s.least), (8, I (ri s)), (7, I (rv s)), (5, r), (1, .box 0 0)]
theorem loop30_0 (x : PB) (hx : x.Ok) (r : AV) (h : Asked x r) (v : Nat) (hv : v < x.spans.length) (i : Nat) (hi : i < x.N.toNat) (s : Op) : ∀ (m k : Nat), k + m = 13 →
    run Cv 30 (.loop keep30_0 body30_0) (head30_0 r s v i (maxTo (fun n => cnt (Ts x noneF) (v * x.N.toNat + i) n) k) k) (stX x) = some (.ex 4, mkE 66 .any ((36, .bool false) :: (35, I 13) :: [(13, I 13), (12, I (worst (Ts x noneF) (v * x.N.toNat + i))), (11, I i), (10, I v), (9, I s.least), (8, I (ri s)), (7, I (rv s)), (5, r), (1, .box 0 0)]), stX x)
  | 0, k, hk => by
    have hk' : k = 13 := by omega
    subst hk'
    have e : maxTo (fun n => cnt (Ts x noneF) (v * x.N.toNat + i) n) 13 = worst (Ts x noneF) (v * x.N.toNat + i) := rfl
    rw [e]
    have e13 : ((13 : Nat) : Int) = 13 := rfl
    rw [e13, run_loop]
    simp (maxSteps := 10000000) [-List.getD_eq_getElem?_getD, body30_0, keep30_0, head30_0, stX]
  | m + 1, k, hk => by
    have h1 : (k : Int) ≤ 12 := by omega
    have hw : IntKind.wrap .i64 ((k : Int) + 1) = k + 1 := wrap_small (by omega) (by omega)
    have hmany := h.many hv hi k
    have hru := h.row.under
    have hrp := h.row.pur
    have hvu := hx.vrow.under
    have hcu := hx.crow.under
    have e : maxTo (fun n => cnt (Ts x noneF) (v * x.N.toNat + i) n) (k + 1) = max (maxTo (fun n => cnt (Ts x noneF) (v * x.N.toNat + i) n) k) (cnt (Ts x noneF) (v * x.N.toNat + i) k) := rfl
    have ih := loop30_0 x hx r h v hv i hi s m (k + 1) (by omega)
    rw [e] at ih
    have hmx : max2 (I (maxTo (fun n => cnt (Ts x noneF) (v * x.N.toNat + i) n) k)) (I (cnt (Ts x noneF) (v * x.N.toNat + i) k)) = some (I ((max (maxTo (fun n => cnt (Ts x noneF) (v * x.N.toNat + i) n) k) (cnt (Ts x noneF) (v * x.N.toNat + i) k) : Nat) : Int)) := by
      simp only [max2, Option.some.injEq, AV.int.injEq, true_and]
      split <;> omega
    have key : run Cv 30 (.loop keep30_0 body30_0) (head30_0 r s v i (maxTo (fun n => cnt (Ts x noneF) (v * x.N.toNat + i) n) k) k) (stX x) = run Cv 30 (.loop keep30_0 body30_0) (head30_0 r s v i ((max (maxTo (fun n => cnt (Ts x noneF) (v * x.N.toNat + i) n) k) (cnt (Ts x noneF) (v * x.N.toNat + i) k) : Nat) : Int) (k + 1)) (stX x) := by
      generalize max (maxTo (fun n => cnt (Ts x noneF) (v * x.N.toNat + i) n) k) (cnt (Ts x noneF) (v * x.N.toNat + i) k) = m2 at *
      generalize maxTo (fun n => cnt (Ts x noneF) (v * x.N.toNat + i) n) k = m1 at *
      generalize cnt (Ts x noneF) (v * x.N.toNat + i) k = C at *
      generalize (m2 : Int) = mm at *
      rw [run_loop]
      generalize MC.loop keep30_0 body30_0 = L
      simp (maxSteps := 10000000) [-List.getD_eq_getElem?_getD, -List.all_eq_true, body30_0, keep30_0, head30_0, stX, PB.cells, h1, hw, hmany, hru, hrp, hvu, hcu, foldA, hmx]
    rw [key]
    exact ih
def head30_1 (r : AV) (s : Op) (v : Nat) (i : Int) : Env := mkE 66 .any [(11, I i), (10, I v), (9, I s.least), (8, I (ri s)), (7, I (rv s)), (5, r), (1, .box 0 0)]
theorem loop30_1 (x : PB) (hx : x.Ok) (r : AV) (h : Asked x r) (v : Nat) (hv : v < x.spans.length) : ∀ (m i : Nat) (s : Op), i + m = x.N.toNat → OpI s →
    ∃ L, run Cv 30 (.loop keep30_1 body30_1) (head30_1 r s v i) (stX x) = some (.ex 2, mkE 66 .any L, stX x) ∧ OpI ((List.range' i m).foldl (fun s i => opStep (Ts x noneF) x.N.toNat lb s v i) s) ∧ gt (mkE 66 .any L) 1 = .box 0 0 ∧ gt (mkE 66 .any L) 5 = r ∧ gt (mkE 66 .any L) 7 = I (rv ((List.range' i m).foldl (fun s i => opStep (Ts x noneF) x.N.toNat lb s v i) s)) ∧ gt (mkE 66 .any L) 8 = I (ri ((List.range' i m).foldl (fun s i => opStep (Ts x noneF) x.N.toNat lb s v i) s)) ∧ gt (mkE 66 .any L) 9 = I ((List.range' i m).foldl (fun s i => opStep (Ts x noneF) x.N.toNat lb s v i) s).least ∧ gt (mkE 66 .any L) 10 = I v
  | 0, i, s, hi, hs => by
    have hN := h.ok.N
    have h1 : ¬ (i : Int) < x.N := by omega
    have e : (List.range' i 0).foldl (fun s i => opStep (Ts x noneF) x.N.toNat lb s v i) s = s := rfl
    rw [e]
    have key : ∃ L, run Cv 30 (.loop keep30_1 body30_1) (head30_1 r s v i) (stX x) = some (.ex 2, mkE 66 .any L, stX x) ∧ gt (mkE 66 .any L) 1 = .box 0 0 ∧ gt (mkE 66 .any L) 5 = r ∧ gt (mkE 66 .any L) 7 = I (rv s) ∧ gt (mkE 66 .any L) 8 = I (ri s) ∧ gt (mkE 66 .any L) 9 = I s.least ∧ gt (mkE 66 .any L) 10 = I v := by
      rw [run_loop]
      simp (maxSteps := 10000000) [-List.getD_eq_getElem?_getD, body30_1, keep30_1, head30_1, stX, PB.cells, h1]
      exact ⟨_, rfl, by simp (maxSteps := 10000000) [-List.getD_eq_getElem?_getD, ], by simp (maxSteps := 10000000) [-List.getD_eq_getElem?_getD, ], by simp (maxSteps := 10000000) [-List.getD_eq_getElem?_getD, ], by simp (maxSteps := 10000000) [-List.getD_eq_getElem?_getD, ], by simp (maxSteps := 10000000) [-List.getD_eq_getElem?_getD, ], by simp (maxSteps := 10000000) [-List.getD_eq_getElem?_getD, ]⟩
    obtain ⟨L, g1, g2⟩ := key
    exact ⟨L, g1, hs, g2⟩
  | m + 1, i, s, hi, hs => by
    have hN := h.ok.N
    have hiN : i < x.N.toNat := by omega
    have h1 : (i : Int) < x.N := by omega
    have hw : IntKind.wrap .i64 ((i : Int) + 1) = i + 1 := wrap_small (by omega) (by omega)
    have hlen := h.len
    have hru := h.row.under
    have hvu := hx.vrow.under
    have hcu := hx.crow.under
    have hin := fun E (hE : mask keep30_0 E = _) => run_at (loop30_0 x hx r h v hv i hiN s 13 0 rfl) hE
    have e5 : ((0 : Nat) : Int) = 0 := rfl
    have em : maxTo (fun n => cnt (Ts x noneF) (v * x.N.toNat + i) n) 0 = 0 := rfl
    rw [em] at hin
    simp only [stX, head30_0, keep30_0, PB.cells, e5] at hin
    have hs' := hs.step (Ts x noneF) x.N.toNat v i
    have key : run Cv 30 (.loop keep30_1 body30_1) (head30_1 r s v i) (stX x) = run Cv 30 (.loop keep30_1 body30_1) (head30_1 r (opStep (Ts x noneF) x.N.toNat lb s v i) v (i + 1)) (stX x) := by
      have hop : opStep (Ts x noneF) x.N.toNat lb s v i = if (decide (worst (Ts x noneF) (v * x.N.toNat + i) < (Ts x noneF).length) && ((s.e != 0) || decide ((worst (Ts x noneF) (v * x.N.toNat + i) : Int) < s.least))) = true then ⟨v, i, worst (Ts x noneF) (v * x.N.toNat + i), 0⟩ else s := rfl
      rw [hop]
      generalize worst (Ts x noneF) (v * x.N.toNat + i) = W at *
      by_cases q1 : W < (Ts x noneF).length
      · have q1' : (W : Int) < ((Ts x noneF).length : Int) := by omega
        rcases hs.is with ⟨he, hv0⟩ | ⟨he, hev, hei, hel⟩
        · have hrv : rv s = s.v := by unfold rv; rw [if_pos he]
          have hri : ri s = s.i := by unfold ri; rw [if_pos he]
          have hneg : ¬ s.v < 0 := by omega
          by_cases q2 : (W : Int) < s.least
          · rw [if_pos (by simp [q1, q2])]
            have hr1 : rv ⟨v, i, W, 0⟩ = v := rfl
            have hr2 : ri ⟨v, i, W, 0⟩ = i := rfl
            rw [hrv, hri] at hin
            generalize ((Ts x noneF).length : Int) = lT at *
            rw [run_loop]
            generalize MC.loop keep30_1 body30_1 = L
            simp (maxSteps := 10000000) [-List.getD_eq_getElem?_getD, -List.all_eq_true, body30_1, keep30_1, head30_1, stX, PB.cells, h1, hw, hlen, hru, hvu, hcu, keep30_0, hin, hrv, hri, hneg, q1', q2, hr1, hr2]
          · rw [if_neg (by simp [q1, q2, he])]
            rw [hrv, hri] at hin
            generalize ((Ts x noneF).length : Int) = lT at *
            rw [run_loop]
            generalize MC.loop keep30_1 body30_1 = L
            simp (maxSteps := 10000000) [-List.getD_eq_getElem?_getD, -List.all_eq_true, body30_1, keep30_1, head30_1, stX, PB.cells, h1, hw, hlen, hru, hvu, hcu, keep30_0, hin, hrv, hri, hneg, q1', q2]
        · have hne : ¬ s.e = 0 := by omega
          have hrv : rv s = -1 := by unfold rv; rw [if_neg hne]
          have hri : ri s = -1 := by unfold ri; rw [if_neg hne]
          rw [if_pos (by simp [q1, hne])]
          have hr1 : rv ⟨v, i, W, 0⟩ = v := rfl
          have hr2 : ri ⟨v, i, W, 0⟩ = i := rfl
          rw [hrv, hri] at hin
          generalize ((Ts x noneF).length : Int) = lT at *
          rw [run_loop]
          generalize MC.loop keep30_1 body30_1 = L
          simp (maxSteps := 10000000) [-List.getD_eq_getElem?_getD, -List.all_eq_true, body30_1, keep30_1, head30_1, stX, PB.cells, h1, hw, hlen, hru, hvu, hcu, keep30_0, hin, hrv, hri, q1', hr1, hr2]
      · have q1' : ¬ (W : Int) < ((Ts x noneF).length : Int) := by omega
        rw [if_neg (by simp [q1])]
        generalize ((Ts x noneF).length : Int) = lT at *
        unfold head30_1
        generalize rv s = a at *
        generalize ri s = b at *
        rw [run_loop]
        generalize MC.loop keep30_1 body30_1 = L
        simp (maxSteps := 10000000) [-List.getD_eq_getElem?_getD, -List.all_eq_true, body30_1, keep30_1, head30_1, stX, PB.cells, h1, hw, hlen, hru, hvu, hcu, keep30_0, hin, q1']
    rw [key]
    obtain ⟨L, g1, g2⟩ := loop30_1 x hx r h v hv m (i + 1) _ (by omega) hs'
    rw [List.range'_succ, List.foldl_cons]
    exact ⟨L, g1, g2⟩
def head30_2 (r : AV) (s : Op) (v : Int) : Env := mkE 66 .any [(10, I v), (9, I s.least), (8, I (ri s)), (7, I (rv s)), (5, r), (1, .box 0 0)]
theorem loop30_2 (x : PB) (hx : x.Ok) (r : AV) (h : Asked x r) : ∀ (m v : Nat) (s : Op), v + m = x.spans.length → OpI s →
    ∃ L, run Cv 30 (.loop keep30_2 body30_2) (head30_2 r s v) (stX x) = some (.ex 0, mkE 66 .any L, stX x) ∧ OpI ((List.range' v m).foldl (rowStep (Ts x noneF) x.N.toNat lb) s) ∧ gt (mkE 66 .any L) 7 = I (rv ((List.range' v m).foldl (rowStep (Ts x noneF) x.N.toNat lb) s)) ∧ gt (mkE 66 .any L) 8 = I (ri ((List.range' v m).foldl (rowStep (Ts x noneF) x.N.toNat lb) s))
  | 0, v, s, hv, hs => by
    have hvl := vlen hx
    have h1 : ¬ (v : Int) < (x.spans.length : Int) := by omega
    have e : (List.range' v 0).foldl (rowStep (Ts x noneF) x.N.toNat lb) s = s := rfl
    rw [e]
    have key : ∃ L, run Cv 30 (.loop keep30_2 body30_2) (head30_2 r s v) (stX x) = some (.ex 0, mkE 66 .any L, stX x) ∧ gt (mkE 66 .any L) 7 = I (rv s) ∧ gt (mkE 66 .any L) 8 = I (ri s) := by
      rw [run_loop]
      simp (maxSteps := 10000000) [-List.getD_eq_getElem?_getD, body30_2, keep30_2, head30_2, stX, PB.cells, hvl, h1]
      exact ⟨_, rfl, by simp (maxSteps := 10000000) [-List.getD_eq_getElem?_getD, ], by simp (maxSteps := 10000000) [-List.getD_eq_getElem?_getD, ]⟩
    obtain ⟨L, g1, g2⟩ := key
    exact ⟨L, g1, hs, g2⟩
  | m + 1, v, s, hv, hs => by
    have hV := h.ok.V
    have hvl := vlen hx
    have h1 : (v : Int) < (x.spans.length : Int) := by omega
    have hw : IntKind.wrap .i64 ((v : Int) + 1) = v + 1 := wrap_small (by omega) (by omega)
    have hru := h.row.under
    have hvu := hx.vrow.under
    have hcu := hx.crow.under
    have e5 : ((0 : Nat) : Int) = 0 := rfl
    obtain ⟨L0, g0, gI, g1, g5, g7, g8, g9, g10⟩ := loop30_1 x hx r h v (by omega) x.N.toNat 0 s (by omega) hs
    have hrs : (List.range' 0 x.N.toNat).foldl (fun s i => opStep (Ts x noneF) x.N.toNat lb s v i) s = rowStep (Ts x noneF) x.N.toNat lb s v := rfl
    rw [hrs] at gI g7 g8 g9
    have hin := fun E (hE : mask keep30_1 E = _) => run_at g0 hE
    simp only [stX, head30_1, keep30_1, PB.cells, e5] at hin
    have key : run Cv 30 (.loop keep30_2 body30_2) (head30_2 r s v) (stX x) = run Cv 30 (.loop keep30_2 body30_2) (head30_2 r (rowStep (Ts x noneF) x.N.toNat lb s v) (v + 1)) (stX x) := by
      generalize rowStep (Ts x noneF) x.N.toNat lb s v = t at *
      rw [run_loop]
      generalize MC.loop keep30_2 body30_2 = L
      simp (maxSteps := 10000000) [-List.getD_eq_getElem?_getD, -List.all_eq_true, body30_2, keep30_2, head30_2, stX, PB.cells, hvl, h1, hw, keep30_1, hin, g1, g5, g7, g8, g9, g10, hru, hvu, hcu]
    rw [key]
    obtain ⟨L, k1, k2⟩ := loop30_2 x hx r h m (v + 1) _ (by omega) gI
    rw [List.range'_succ, List.foldl_cons]
    exact ⟨L, k1, k2⟩
theorem rAsk_call (x : PB) (hx : x.Ok) : call Cv 30 [x.av] = some (trip (askR x)) := by
  obtain ⟨r0, hr0, h1, hrp⟩ := asked_call_ref x hx true
  have hvc := hx.vrow.cell
  have hcc := hx.crow.cell
  have hvp := hx.vrow.pur
  have hcp := hx.crow.pur
  simp only [PB.av, PB.cells] at h1
  unfold askR openR
  by_cases he : ansE x true = 0
  · obtain ⟨hc, _, hT⟩ := ansE_zero he
    have hk := chk_of hc
    have hA : Asked x r0 := ⟨hk, hr0 he, hT⟩
    rw [if_pos he]
    rw [he] at h1
    have e5 : ((0 : Nat) : Int) = 0 := rfl
    obtain ⟨L, g0, gI, g7, g8⟩ := loop30_2 x hx r0 hA x.spans.length 0 ⟨0, 0, 0, 4⟩ (by omega) ⟨.inr ⟨rfl, rfl, rfl, rfl⟩⟩
    have hos : openS (Ts x noneF) x.spans.length x.N.toNat (fun a b => decide (a < b)) = (List.range' 0 x.spans.length).foldl (rowStep (Ts x noneF) x.N.toNat lb) ⟨0, 0, 0, 4⟩ := rfl
    rw [hos]
    have hin := fun E (hE : mask keep30_2 E = _) => run_at g0 hE
    have e1 : rv ⟨0, 0, 0, 4⟩ = -1 := rfl
    have e2 : ri ⟨0, 0, 0, 4⟩ = -1 := rfl
    simp only [stX, head30_2, keep30_2, PB.cells, e5, e1, e2] at hin
    generalize (List.range' 0 x.spans.length).foldl (rowStep (Ts x noneF) x.N.toNat lb) ⟨0, 0, 0, 4⟩ = s at *
    rcases gI.is with ⟨hse, hv0⟩ | ⟨hse, hev, hei, hel⟩
    · have hrv : rv s = s.v := by unfold rv; rw [if_pos hse]
      have hri : ri s = s.i := by unfold ri; rw [if_pos hse]
      have hneg : ¬ s.v < 0 := by omega
      rw [hrv] at g7
      rw [hri] at g8
      rw [call_run comp30 (Nat.le_of_ble_eq_true rfl)]
      simp (maxSteps := 10000000) [-List.getD_eq_getElem?_getD, ret2, ret3, retc2, -List.all_eq_true, code30, PB.av, PB.cells, hvc, hcc, hvp, hcp, h1, hrp, keep30_2, hin, trip, g7, g8, hneg, hse]
    · have hne : ¬ s.e = 0 := by omega
      have hrv : rv s = -1 := by unfold rv; rw [if_neg hne]
      have hri : ri s = -1 := by unfold ri; rw [if_neg hne]
      rw [hrv] at g7
      rw [hri] at g8
      rw [call_run comp30 (Nat.le_of_ble_eq_true rfl)]
      simp (maxSteps := 10000000) [-List.getD_eq_getElem?_getD, ret2, ret3, retc2, -List.all_eq_true, code30, PB.av, PB.cells, hvc, hcc, hvp, hcp, h1, hrp, keep30_2, hin, trip, g7, g8, hse, hev, hei]
  · rw [if_neg he]
    have hne : (ansE x true != 0) = true := by simpa using he
    generalize ansE x true = W at *
    rw [call_run comp30 (Nat.le_of_ble_eq_true rfl)]
    simp (maxSteps := 10000000) [-List.getD_eq_getElem?_getD, ret2, ret3, retc2, -List.all_eq_true, code30, PB.av, PB.cells, hvc, hcc, hvp, hcp, h1, hrp, hne, trip]
end Go.Ai
