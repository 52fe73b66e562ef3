/- This text shows the law of forks that read more, in the interpreter. No conditions of its own. -/
import Derived.Test.YtbjdaefdifofkaaDoorHelpC
import Derived.Test.YtbjdaefdifofkaaDoorCodesL12
import Derived.Test.YtbjdaefdifofkaaDoorPlainM
set_option linter.unusedSimpArgs false
set_option linter.unusedVariables false
set_option maxRecDepth 100000
set_option linter.unusedSimpArgs false
set_option linter.unusedVariables false
/-! The law of forks that read more: its loops. -/
namespace Go.Ai
open Go.Organ (T4 F3 Tb T6 shiftF)
theorem under_call (a b c d : Int) : call Cv 48 [.agg [I a, I b], .agg [I c, I d]] = some (.bool (decide (c ≤ a) && decide (b ≤ d))) := by
  rw [call_run comp48 (Nat.le_of_ble_eq_true rfl)]
  simp +contextual (maxSteps := 10000000) [-List.getD_eq_getElem?_getD, code48]
/-- A row that grows; as others see it. -/
def growV (sz : Nat) (es : List AV) : AV := if es = [] then .nils else .sl sz es (.chain 0)
def growP (sz : Nat) (es : List AV) : AV := if es = [] then .nils else .sl sz es .no
def growC (sz : Nat) (es : List AV) : List (Nat × Nat) := if es = [] then [] else [(es.length, sz)]
theorem growP_row (sz : Nat) (es : List AV) : IsRow sz es (growP sz es) := by
  unfold growP
  split
  · rename_i h; exact .inl ⟨rfl, h⟩
  · exact .inr (.inr ⟨.no, rfl, rfl⟩)
theorem growV_pur (sz : Nat) (es : List AV) (σ : St) (n : Nat) : pur σ (n + 1) (growV sz es) = some (growP sz es, false) := by
  unfold growV growP
  split <;> rfl
theorem growV_cell (sz : Nat) (es : List AV) : (growV sz es).isCell = true := by unfold growV; split <;> rfl
theorem growV_cells (sz : Nat) (es : List AV) : (growV sz es).cells = [growV sz es] := by unfold growV; split <;> rfl
theorem growV_under (sz : Nat) (es : List AV) (a b c d n : Nat) : under a b c d (n + 1) (growV sz es) = decide (es = [] ∨ 0 < b) := by
  unfold growV
  split
  · rename_i h; simp [h, under]
  · rename_i h; simp [h, under]
theorem growV_app {B : List (List AV)} {sz bytes : Nat} {es : List AV} {v : AV} (h : (es.length + 1) * bytes ≤ 140737488355328) (hb : bytes ≤ 140737488355328) : appA { boxes := B, chains := growC sz es } false sz bytes true (growV sz es) (.sl sz [v] .full) = some (growV sz (es ++ [v]), { boxes := B, chains := growC sz (es ++ [v]) }) := by
  have hn : es ++ [v] ≠ [] := by simp
  unfold growV growC
  rw [if_neg hn, if_neg hn]
  by_cases he : es = []
  · subst he
    simp [appA, elemsA, grown, hb]
  · rw [if_neg he, if_neg he]
    simp [appA, elemsA, h]
def st12 (x : OB) (ns : List AV) (es : List AV) (E : List (List AV)) : St := { boxes := [x.cells, ns, [I x.pipes, x.tr, growV 3 es, x.br, I x.voice.weeks, x.vr]] ++ E, chains := growC 3 es }
theorem cut12 (x : OB) (hx : x.Ok) (n0 n1 n2 : Int) (es es' : List AV) (hes : es' = es ∨ es' ≠ []) (E : List (List AV)) (e : Env) (he : ∀ nc, e.all (under 3 nc 0 0 6) = true) : cut (st12 x [I n0, I n1, I n2] es []) (st12 x [I n0, I n1, I n2] es' E) e = st12 x [I n0, I n1, I n2] es' [] := by
  have hb : ∀ nc, (List.take 3 ([x.cells, [I n0, I n1, I n2], [I x.pipes, x.tr, growV 3 es', x.br, I x.voice.weeks, x.vr]] ++ E)).all (fun cs => cs.all (under 3 nc 0 0 6)) = decide (es' = [] ∨ 0 < nc) := fun nc => by
    have u1 := hx.trow.under 3 nc 0 0 5
    have u2 := hx.frow.under 3 nc 0 0 5
    have u3 := br_under x 3 nc 0 0 5
    have u4 := vr_under x 3 nc 0 0 5
    have u5 := growV_under 3 es' 3 nc 0 0 5
    have h0 : (x.cells).all (under 3 nc 0 0 6) = true := by
      simp only [OB.cells, List.all_cons, List.all_nil, u1, u2, u3, u4, un_int, Bool.and_self]
    show List.all [x.cells, [I n0, I n1, I n2], [I x.pipes, x.tr, growV 3 es', x.br, I x.voice.weeks, x.vr]] _ = _
    simp only [List.all_cons, List.all_nil, h0, u1, u3, u4, u5, un_int, Bool.and_self, Bool.true_and, Bool.and_true]
  have hd : ∀ nc, dryAt nc (st12 x [I n0, I n1, I n2] es []) (st12 x [I n0, I n1, I n2] es' E) e = decide (es' = [] ∨ 0 < nc) := fun nc => by
    show (e.all (under 3 nc 0 0 6) && (List.take 3 ([x.cells, [I n0, I n1, I n2], [I x.pipes, x.tr, growV 3 es', x.br, I x.voice.weeks, x.vr]] ++ E)).all (fun cs => cs.all (under 3 nc 0 0 6)) && true && true) = _
    rw [he, hb]; simp
  have hat : ∀ nc, nc = (growC 3 es').length → cutAt nc (st12 x [I n0, I n1, I n2] es []) (st12 x [I n0, I n1, I n2] es' E) = st12 x [I n0, I n1, I n2] es' [] := fun nc h => by
    subst h
    simp only [cutAt, st12, List.take_length]
    rfl
  have e1 : (st12 x [I n0, I n1, I n2] es []).chains.length = (growC 3 es).length := rfl
  have e2 : (st12 x [I n0, I n1, I n2] es' E).chains.length = (growC 3 es').length := rfl
  have g : ∀ es : List AV, (growC 3 es).length = if es = [] then 0 else 1 := fun es => by unfold growC; split <;> rfl
  unfold cut
  rw [e1, e2, hd, hd]
  by_cases h' : es' = []
  · have h0 : es = [] := by
      rcases hes with h | h
      · rw [← h]; exact h'
      · exact absurd h' h
    rw [if_pos (by simp [h']), hat]
    rw [h', h0]
  · by_cases h0 : es = []
    · rw [if_neg (by simp [h', g, h0]), if_pos (by simp [g, h']), hat _ rfl]
    · rw [if_pos (by simp [g, h0]), hat]
      rw [g, g, if_neg h', if_neg h0]
def head12_0 (by' one other k : Int) : Env := mkE 169 .any [(9, I k), (8, .box 2 0), (7, I other), (6, I one), (5, I by'), (2, .box 0 0)]
structure Kept12 (by' one other : Int) (e : Env) : Prop where
  g2 : gt e 2 = .box 0 0
  g5 : gt e 5 = I by'
  g6 : gt e 6 = I one
  g7 : gt e 7 = I other
  g8 : gt e 8 = .box 2 0
def readOk (by' : Int) (f : F3) : Bool := lie (f.read + by') (-60) 60
theorem loop12_0 (x : OB) (hx : x.Ok) (hc : Chk x) (n0 n1 n2 by' one other : Int) (hby : -20 ≤ by' ∧ by' ≤ 20) : ∀ (l : List F3) (k : Nat) (es : List AV), k ≤ x.forks.length → x.forks.drop k = l → es.length = k →
    (l.all (readOk by') = true ∧ ∃ L, run Cv 12 (.loop keep12_0 body12_0) (head12_0 by' one other k) (st12 x [I n0, I n1, I n2] es []) = some (.ex 0, mkE 169 .any L, st12 x [I n0, I n1, I n2] (es ++ l.map fun f => foA (shiftF by' f)) []) ∧ Kept12 by' one other (mkE 169 .any L)) ∨
    (l.all (readOk by') = false ∧ ∃ L σ, run Cv 12 (.loop keep12_0 body12_0) (head12_0 by' one other k) (st12 x [I n0, I n1, I n2] es []) = some (.rt, mkE 169 .any L, σ) ∧ gt (mkE 169 .any L) 4 = .bool true)
  | [], k, es, hk, h, he => by
    obtain rfl := drop_nil hk h
    have hlen := flen hx
    refine .inl ⟨rfl, ?_⟩
    rw [List.map_nil, List.append_nil, run_loop]
    simp (maxSteps := 10000000) [-List.getD_eq_getElem?_getD, body12_0, keep12_0, head12_0, st12, OB.cells, hlen]
    exact ⟨_, rfl, ⟨by simp (maxSteps := 10000000) [-List.getD_eq_getElem?_getD, ], by simp (maxSteps := 10000000) [-List.getD_eq_getElem?_getD, ], by simp (maxSteps := 10000000) [-List.getD_eq_getElem?_getD, ], by simp (maxSteps := 10000000) [-List.getD_eq_getElem?_getD, ], by simp (maxSteps := 10000000) [-List.getD_eq_getElem?_getD, ]⟩⟩
  | f :: l, k, es, hk, h, he => by
    obtain ⟨hlt, ha, hd⟩ := head_drop h
    have hw := wrap_succ hlt hx.lf
    have hlt' : (k : Int) < (x.forks.length : Int) := by omega
    have hix : ixsA 3 x.fr (I k) = some (.rp [I f.pipe, I f.read, I f.err] 0) := by
      obtain ⟨c, hc, hr⟩ := hx.frow.sl (by intro hn; simp at hn; rw [hn] at hlt; simp at hlt)
      rw [hr]
      simp [ixsA, hlt, ha, foA, AV.cells]
    have hlen := flen hx
    have hf := hc.b.forks f (ha ▸ List.getElem_mem _)
    have hf3 := hc.forks
    have h1 := hf.read
    have w1 : IntKind.wrap .i64 (f.read + by') = f.read + by' := wrap_small (by omega) (by omega)
    have c1 := lies' (f.read + by') (-60) 60
    have hs := tuned_call
    have hld : ∀ E off, loadA (st12 x [I n0, I n1, I n2] es E) none (.box 0 off) = x.cells[off]? := fun _ _ => rfl
    have hx2 : x.cells[2]? = some x.fr := rfl
    have hlr : ∀ σ, loadA σ (some 3) (.rp [I f.pipe, I f.read, I f.err] 0) = some (.agg [I f.pipe, I f.read, I f.err]) := fun _ => rfl
    have hal : ∀ z, { st12 x [I n0, I n1, I n2] es [] with boxes := (st12 x [I n0, I n1, I n2] es []).boxes ++ [z] } = st12 x [I n0, I n1, I n2] es [z] := fun _ => rfl
    have hbl : (st12 x [I n0, I n1, I n2] es []).boxes.length = 3 := rfl
    have hst : storeA (st12 x [I n0, I n1, I n2] es [[I 0, I 0, I 0]]) 3 (.box 3 0) (.agg [I f.pipe, I f.read, I f.err]) = some (st12 x [I n0, I n1, I n2] es [[I f.pipe, I f.read, I f.err]]) := rfl
    have hl3 : ∀ z off, loadA (st12 x [I n0, I n1, I n2] es [z]) none (.box 3 off) = z[off]? := fun _ _ => rfl
    have hst1 : storeA (st12 x [I n0, I n1, I n2] es [[I f.pipe, I f.read, I f.err]]) 1 (.box 3 1) (I (f.read + by')) = some (st12 x [I n0, I n1, I n2] es [[I f.pipe, I (f.read + by'), I f.err]]) := rfl
    rw [List.all_cons]
    cases hq : readOk by' f with
    | false =>
      rw [show lie (f.read + by') (-60) 60 = false from hq] at c1
      refine .inr ⟨Bool.false_and _, ?_⟩
      rw [run_loop]
      simp (maxSteps := 10000000) [-List.getD_eq_getElem?_getD, -loadA, -storeA, -cut, -ixsA, body12_0, keep12_0, head12_0, hlen, hlt', hw, hix, hld, hx2, hlr, hal, hbl, hst, hl3, w1, hst1, c1, hs]
      exact ⟨_, rfl, by simp (maxSteps := 10000000) [-List.getD_eq_getElem?_getD, ]⟩
    | true =>
      rw [show lie (f.read + by') (-60) 60 = true from hq] at c1
      have hl8 : ∀ z, loadA (st12 x [I n0, I n1, I n2] es [z]) none (.box 2 2) = some (growV 3 es) := fun _ => rfl
      have hl33 : loadA (st12 x [I n0, I n1, I n2] es [[I f.pipe, I (f.read + by'), I f.err]]) (some 3) (.box 3 0) = some (foA (shiftF by' f)) := rfl
      have hfe : fillE 3 true [(0, foA (shiftF by' f))] [.agg [I 0, I 0, I 0]] = some [foA (shiftF by' f)] := rfl
      have happ : appA (st12 x [I n0, I n1, I n2] es [[I f.pipe, I (f.read + by'), I f.err]]) false 3 24 true (growV 3 es) (.sl 3 [foA (shiftF by' f)] .full) = some (growV 3 (es ++ [foA (shiftF by' f)]), { boxes := [x.cells, [I n0, I n1, I n2], [I x.pipes, x.tr, growV 3 es, x.br, I x.voice.weeks, x.vr], [I f.pipe, I (f.read + by'), I f.err]], chains := growC 3 (es ++ [foA (shiftF by' f)]) }) := growV_app (by omega) (by omega)
      have hst8 : storeA { boxes := [x.cells, [I n0, I n1, I n2], [I x.pipes, x.tr, growV 3 es, x.br, I x.voice.weeks, x.vr], [I f.pipe, I (f.read + by'), I f.err]], chains := growC 3 (es ++ [foA (shiftF by' f)]) } 1 (.box 2 2) (growV 3 (es ++ [foA (shiftF by' f)])) = some (st12 x [I n0, I n1, I n2] (es ++ [foA (shiftF by' f)]) [[I f.pipe, I (f.read + by'), I f.err]]) := by
        have g1 := growV_cell 3 (es ++ [foA (shiftF by' f)])
        have g2 := growV_cells 3 (es ++ [foA (shiftF by' f)])
        simp [storeA, g1, g2, st12, setAt]
      have hcut := fun e he => cut12 x hx n0 n1 n2 es (es ++ [foA (shiftF by' f)]) (.inr (by simp)) [[I f.pipe, I (f.read + by'), I f.err]] e he
      have step : run Cv 12 (.loop keep12_0 body12_0) (head12_0 by' one other k) (st12 x [I n0, I n1, I n2] es []) = run Cv 12 (.loop keep12_0 body12_0) (head12_0 by' one other (k + 1)) (st12 x [I n0, I n1, I n2] (es ++ [foA (shiftF by' f)]) []) := by
        rw [run_loop]
        generalize MC.loop keep12_0 body12_0 = L
        simp (maxSteps := 10000000) [-List.getD_eq_getElem?_getD, -loadA, -storeA, -cut, -ixsA, body12_0, keep12_0, head12_0, hlen, hlt', hw, hix, hld, hx2, hlr, hal, hbl, hst, hl3, w1, hst1, c1, hl8, hl33, hfe, happ, hst8]
        rw [hcut]
        intro nc
        simp (maxSteps := 10000000) [-List.getD_eq_getElem?_getD, ]
      rw [step, Bool.true_and]
      have := loop12_0 x hx hc n0 n1 n2 by' one other hby l (k + 1) (es ++ [foA (shiftF by' f)]) hlt hd (by simp [he])
      simpa using this
end Go.Ai

set_option maxRecDepth 100000
set_option linter.unusedSimpArgs false
set_option linter.unusedVariables false
/-! The law of forks that read more. -/
namespace Go.Ai
open Go.Organ (T4 F3 Tb T6 shiftF)
/-- The book with other forks. -/
def OB.forked (x : OB) (fs : List F3) (r : AV) : OB := { x with forks := fs, fr := r }
theorem forked_ok {x : OB} (hx : x.Ok) {fs : List F3} {r : AV} (hr : IsRow 3 (fs.map foA) r) (hl : fs.length < 2 ^ 47) : (x.forked fs r).Ok := ⟨hx.trow, hr, hx.lt, hl, hx.voice⟩
theorem forked_chk {x : OB} (hc : Chk x) {fs : List F3} {r : AV} (ht : ∀ f ∈ fs, Organ.FOk x.N f) (hl : fs.length ≤ 3) : Chk (x.forked fs r) := ⟨⟨⟨hc.b.one, hc.b.five, ht, hc.b.tunes⟩, hc.pipes⟩, hc.tunes, hl, hc.voice⟩
theorem true_iff (x : OB) : trueO x = (Vc.fine x.voice [] && Organ.isO x.N x.forks x.tunes) := by rw [trueO, canO, kept_noF]
/-- No end is reached, as it is, and as it would be. -/
def inside (x : OB) (by' : Int) (p : Nat) : Bool := (decide (-59 ≤ -tab x p 5) && decide (tab x 5 p ≤ 59)) && (decide (-59 ≤ -tab x p 5 + by') && decide (tab x 5 p + by' ≤ 59))
def head12_1 (by' one other k : Int) : Env := mkE 169 .any [(11, I k), (8, .box 2 0), (7, I other), (6, I one), (5, I by'), (2, .box 0 0)]
theorem loop12_1 (x : OB) (hx : x.Ok) (hc : Chk x) (ht : trueO x = true) (n0 n1 n2 by' one other : Int) (hby : -20 ≤ by' ∧ by' ≤ 20) (es : List AV) : ∀ (n k : Nat), k + n = x.N →
    ((List.range' k n).all (inside x by') = true ∧ ∃ L, run Cv 12 (.loop keep12_1 body12_1) (head12_1 by' one other k) (st12 x [I n0, I n1, I n2] es []) = some (.ex 2, mkE 169 .any L, st12 x [I n0, I n1, I n2] es []) ∧ Kept12 by' one other (mkE 169 .any L)) ∨
    ((List.range' k n).all (inside x by') = false ∧ ∃ L σ, run Cv 12 (.loop keep12_1 body12_1) (head12_1 by' one other k) (st12 x [I n0, I n1, I n2] es []) = some (.rt, mkE 169 .any L, σ) ∧ gt (mkE 169 .any L) 4 = .bool true)
  | 0, k, hk => by
    have hpp := hc.pipes
    have hlt : ¬ (k : Int) < x.pipes := by omega
    refine .inl ⟨rfl, ?_⟩
    rw [run_loop]
    simp (maxSteps := 10000000) [-List.getD_eq_getElem?_getD, body12_1, keep12_1, head12_1, st12, OB.cells, hlt]
    exact ⟨_, rfl, ⟨by simp (maxSteps := 10000000) [-List.getD_eq_getElem?_getD, ], by simp (maxSteps := 10000000) [-List.getD_eq_getElem?_getD, ], by simp (maxSteps := 10000000) [-List.getD_eq_getElem?_getD, ], by simp (maxSteps := 10000000) [-List.getD_eq_getElem?_getD, ], by simp (maxSteps := 10000000) [-List.getD_eq_getElem?_getD, ]⟩⟩
  | n + 1, k, hk => by
    have hpp := hc.pipes
    have h5 := hc.b.five
    have hkN : k < x.N := by omega
    have hlt : (k : Int) < x.pipes := by omega
    have hw : IntKind.wrap .i64 ((k : Int) + 1) = ((k + 1 : Nat) : Int) := by rw [wrap_small (by omega) (by omega)]; rfl
    have hp := av_pur x hx
    have hpi := pitch_t hx hc ht hkN
    have m1 := tab_real hc ht (.inl hkN : Organ.Real x.N k) (.inr rfl : Organ.Real x.N 5)
    have m2 := tab_real hc ht (.inr rfl : Organ.Real x.N 5) (.inl hkN : Organ.Real x.N k)
    have hb1 := bounds_call (-59) 59
    have hb2 := bounds_call (-tab x k 5 + by') (tab x 5 k + by')
    have hu1 := under_call (-tab x k 5) (tab x 5 k) (-59) 59
    have hu2 := under_call (-tab x k 5 + by') (tab x 5 k + by') (-59) 59
    have hs := tuned_call
    have hld : ∀ E n off, loadA (st12 x [I n0, I n1, I n2] es E) n (.box 0 off) = partA n x.cells off := fun _ _ _ => rfl
    have hx0 : x.cells[0]? = some (I x.pipes) := rfl
    have hal : ∀ z, { st12 x [I n0, I n1, I n2] es [] with boxes := (st12 x [I n0, I n1, I n2] es []).boxes ++ [z] } = st12 x [I n0, I n1, I n2] es [z] := fun _ => rfl
    have hbl : (st12 x [I n0, I n1, I n2] es []).boxes.length = 3 := rfl
    have hst : ∀ a b, storeA (st12 x [I n0, I n1, I n2] es [[I 0, I 0]]) 2 (.box 3 0) (.agg [I a, I b]) = some (st12 x [I n0, I n1, I n2] es [[I a, I b]]) := fun _ _ => rfl
    have hl3 : ∀ z n off, loadA (st12 x [I n0, I n1, I n2] es [z]) n (.box 3 off) = partA n z off := fun _ _ _ => rfl
    have hcut := fun z e he => cut12 x hx n0 n1 n2 es es (.inl rfl) [z] e he
    have w1 : IntKind.wrap .i64 (-tab x k 5 + by') = -tab x k 5 + by' := wrap_small (by omega) (by omega)
    have w2 : IntKind.wrap .i64 (tab x 5 k + by') = tab x 5 k + by' := wrap_small (by omega) (by omega)
    have hin : inside x by' k = ((decide (-59 ≤ -tab x k 5) && decide (tab x 5 k ≤ 59)) && (decide (-59 ≤ -tab x k 5 + by') && decide (tab x 5 k + by' ≤ 59))) := rfl
    rw [List.range'_succ, List.all_cons, hin]
    generalize -tab x k 5 = a at *
    generalize tab x 5 k = b at *
    generalize (decide (-59 ≤ a) && decide (b ≤ 59)) = q1 at *
    generalize (decide (-59 ≤ a + by') && decide (b + by' ≤ 59)) = q2 at *
    have fin : ∀ q1' q2', q1 = q1' → q2 = q2' → (q1' && q2') = false → ∃ L σ, run Cv 12 (.loop keep12_1 body12_1) (head12_1 by' one other k) (st12 x [I n0, I n1, I n2] es []) = some (.rt, mkE 169 .any L, σ) ∧ gt (mkE 169 .any L) 4 = .bool true := by
      intro q1' q2' e1 e2 hq
      subst e1 e2
      rw [run_loop]
      cases q1 with
      | false =>
        simp (maxSteps := 10000000) [-List.getD_eq_getElem?_getD, -loadA, -storeA, -cut, -partA, part_none, part_two, part_x, body12_1, keep12_1, head12_1, hlt, hld, hx0, hp, hpi, hal, hbl, hst, hl3, hb1, hb2, hu1, hu2, w1, w2, hs, still]
        exact ⟨_, rfl, by simp (maxSteps := 10000000) [-List.getD_eq_getElem?_getD, ]⟩
      | true =>
        have : q2 = false := by simpa using hq
        subst this
        simp (maxSteps := 10000000) [-List.getD_eq_getElem?_getD, -loadA, -storeA, -cut, -partA, part_none, part_two, part_x, body12_1, keep12_1, head12_1, hlt, hld, hx0, hp, hpi, hal, hbl, hst, hl3, hb1, hb2, hu1, hu2, w1, w2, hs, still]
        exact ⟨_, rfl, by simp (maxSteps := 10000000) [-List.getD_eq_getElem?_getD, ]⟩
    cases hq : (q1 && q2) with
    | false => exact .inr ⟨Bool.false_and _, fin q1 q2 rfl rfl hq⟩
    | true =>
      simp only [Bool.and_eq_true] at hq
      obtain ⟨rfl, rfl⟩ := hq
      have step : run Cv 12 (.loop keep12_1 body12_1) (head12_1 by' one other k) (st12 x [I n0, I n1, I n2] es []) = run Cv 12 (.loop keep12_1 body12_1) (head12_1 by' one other ((k + 1 : Nat) : Int)) (st12 x [I n0, I n1, I n2] es []) := by
        rw [run_loop]
        generalize MC.loop keep12_1 body12_1 = L
        simp (maxSteps := 10000000) [-List.getD_eq_getElem?_getD, -loadA, -storeA, -cut, -partA, part_none, part_two, part_x, body12_1, keep12_1, head12_1, hlt, hld, hx0, hp, hpi, hal, hbl, hst, hl3, hb1, hb2, hu1, hu2, w1, w2, hw, still]
        rw [hcut]
        intro nc
        simp (maxSteps := 10000000) [-List.getD_eq_getElem?_getD, ]
      rw [step, Bool.true_and]
      exact loop12_1 x hx hc ht n0 n1 n2 by' one other hby es n (k + 1) (by omega)
theorem loop12_f (x : OB) (hx : x.Ok) (hc : Chk x) (ht : trueO x = false) (n0 n1 n2 by' one other : Int) (es : List AV) : ∃ L σ, run Cv 12 (.loop keep12_1 body12_1) (head12_1 by' one other 0) (st12 x [I n0, I n1, I n2] es []) = some (.rt, mkE 169 .any L, σ) ∧ gt (mkE 169 .any L) 4 = .bool true := by
  have hpp := hc.pipes
  have h1 := hc.b.one
  have hlt : (0 : Int) < x.pipes := by omega
  have hp := av_pur x hx
  have hpi := pitch_f hx hc ht (p := 0) (by omega)
  have e0 : ((0 : Nat) : Int) = 0 := rfl
  rw [e0] at hpi
  have hs := tuned_call
  have hld : ∀ E n off, loadA (st12 x [I n0, I n1, I n2] es E) n (.box 0 off) = partA n x.cells off := fun _ _ _ => rfl
  have hx0 : x.cells[0]? = some (I x.pipes) := rfl
  have hal : ∀ z, { st12 x [I n0, I n1, I n2] es [] with boxes := (st12 x [I n0, I n1, I n2] es []).boxes ++ [z] } = st12 x [I n0, I n1, I n2] es [z] := fun _ => rfl
  have hbl : (st12 x [I n0, I n1, I n2] es []).boxes.length = 3 := rfl
  have hst : ∀ a b, storeA (st12 x [I n0, I n1, I n2] es [[I 0, I 0]]) 2 (.box 3 0) (.agg [I a, I b]) = some (st12 x [I n0, I n1, I n2] es [[I a, I b]]) := fun _ _ => rfl
  rw [run_loop]
  simp (maxSteps := 10000000) [-List.getD_eq_getElem?_getD, -loadA, -storeA, -cut, -partA, part_none, part_two, part_x, body12_1, keep12_1, head12_1, hlt, hld, hx0, hp, hpi, hal, hbl, hst, hs, still]
  exact ⟨_, rfl, by simp (maxSteps := 10000000) [-List.getD_eq_getElem?_getD, ]⟩
set_option maxHeartbeats 4000000 in
theorem shift_law (x : OB) (hx : x.Ok) (n0 n1 n2 : Int) : call Cv 12 [x.av, .agg [I n0, I n1, I n2]] = some (.bool true) := by
  have hsm := small_call x hx
  have hs := tuned_call
  have hcl := xcells_cell x hx
  have hp := av_pur x hx
  have hbox : boxA {} x.av = some (.box 0 0, { boxes := [x.cells] }) := by
    simp only [boxA, OB.av, AV.cells, hcl, if_true]; rfl
  have hbox2 : boxA { boxes := [x.cells] } (.agg [I n0, I n1, I n2]) = some (.box 1 0, { boxes := [x.cells, [I n0, I n1, I n2]] }) := rfl
  have x0 : x.cells[0]? = some (I x.pipes) := rfl
  have x0' : ∀ h : 0 < x.cells.length, x.cells[0]'h = I x.pipes := fun _ => rfl
  have hav : x.av.cells = x.cells := rfl
  cases hc : checkOk x with
  | false =>
    rw [hc] at hsm
    rw [call_run comp12 (Nat.le_of_ble_eq_true rfl)]
    simp (maxSteps := 10000000) [-List.getD_eq_getElem?_getD, -boxA, -partA, part_none, part_x, code12, hbox, hbox2, hp, hsm, hs]
  | true =>
    rw [hc] at hsm
    have hch := (chk_iff x).1 hc
    obtain ⟨p, hpl, t1⟩ := turn_pipe hch n1
    obtain ⟨q, hql, t2⟩ := turn_pipe hch n2
    have t0 := turn_call n0 41 (by omega)
    obtain ⟨r1, r2⟩ := turn_range n0 41 (by omega)
    generalize turnI n0 41 = u at *
    have w0 : IntKind.wrap .i64 (u - 20) = u - 20 := wrap_small (by omega) (by omega)
    have hz : setAt [I 0, .nils, .nils, .nils, I 0, .nils] 0 x.cells = x.cells := rfl
    have hxl : x.cells.length = 6 := rfl
    have hs2 : setAt x.cells 2 [.nils] = [I x.pipes, x.tr, .nils, x.br, I x.voice.weeks, x.vr] := rfl
    have hst0 : ({ boxes := [x.cells, [I n0, I n1, I n2], [I x.pipes, x.tr, .nils, x.br, I x.voice.weeks, x.vr]] } : St) = st12 x [I n0, I n1, I n2] [] [] := rfl
    have e5 : ((0 : Nat) : Int) = 0 := rfl
    rcases loop12_0 x hx hch n0 n1 n2 (u - 20) p q (by omega) x.forks 0 [] (Nat.zero_le _) rfl rfl with ⟨hro, L, l0, g0⟩ | ⟨hro, L, σ, l0, g4⟩
    · obtain ⟨g2, g5, g6, g7, g8⟩ := g0
      have l0' := fun E (hE : mask keep12_0 E = _) => run_at l0 hE
      simp only [keep12_0, head12_0, e5, List.nil_append] at l0'
      rw [← hst0] at l0'
      cases ht : trueO x with
      | false =>
        obtain ⟨L1, σ, l1, k4⟩ := loop12_f x hx hch ht n0 n1 n2 (u - 20) p q (x.forks.map fun f => foA (shiftF (u - 20) f))
        have l1' := fun E (hE : mask keep12_1 E = _) => run_at l1 hE
        simp only [keep12_1, head12_1] at l1'
        rw [call_run comp12 (Nat.le_of_ble_eq_true rfl)]
        simp (maxSteps := 10000000) [-List.getD_eq_getElem?_getD, -boxA, -partA, -setAt, -List.all_eq_true, part_none, part_x, code12, hbox, hbox2, hp, hsm, hs, x0, x0', t0, t1, t2, w0, hcl, hav, hz, hxl, hs2, keep12_0, l0', g2, g5, g6, g7, g8, keep12_1, l1', k4, still]
      | true =>
        rcases loop12_1 x hx hch ht n0 n1 n2 (u - 20) p q (by omega) (x.forks.map fun f => foA (shiftF (u - 20) f)) x.N 0 (by omega) with ⟨hin, L1, l1, k0⟩ | ⟨hin, L1, σ, l1, k4⟩
        · obtain ⟨k2, k5, k6, k7, k8⟩ := k0
          have l1' := fun E (hE : mask keep12_1 E = _) => run_at l1 hE
          simp only [keep12_1, head12_1, e5] at l1'
          have hfr : ∀ f ∈ x.forks, -60 ≤ f.read + (u - 20) ∧ f.read + (u - 20) ≤ 60 := fun f hf => lie_iff.1 (List.all_eq_true.1 hro f hf)
          have hins : ∀ r, r < x.N → T6 x.N x.forks x.tunes 5 r ≤ 59 ∧ -59 ≤ -T6 x.N x.forks x.tunes r 5 ∧ T6 x.N x.forks x.tunes 5 r + (u - 20) ≤ 59 ∧ -59 ≤ -T6 x.N x.forks x.tunes r 5 + (u - 20) := fun r hr => by
            have := List.all_eq_true.1 hin r (List.mem_range'_1.2 ⟨Nat.zero_le _, by omega⟩)
            simp only [inside, tab, Bool.and_eq_true] at this
            exact ⟨of_decide_eq_true this.1.2, of_decide_eq_true this.1.1, of_decide_eq_true this.2.2, of_decide_eq_true this.2.1⟩
          have hiso := true_can ht
          obtain ⟨s1, s2⟩ := Organ.shift_table hch.b hiso hfr hins
          have hf3 := hch.forks
          have hlf := hx.lf
          have hmap : (x.forks.map fun f => foA (shiftF (u - 20) f)) = (x.forks.map (shiftF (u - 20))).map foA := by rw [List.map_map]; rfl
          have hy := forked_ok (fs := x.forks.map (shiftF (u - 20))) hx (growP_row 3 _) (by simp; omega)
          have hyc := forked_chk (fs := x.forks.map (shiftF (u - 20))) (r := growP 3 ((x.forks.map (shiftF (u - 20))).map foA)) hch (Organ.shift_ok hch.b hfr).forks (by simp; omega)
          have hyt : trueO (x.forked (x.forks.map (shiftF (u - 20))) (growP 3 ((x.forks.map (shiftF (u - 20))).map foA))) = true := by
            rw [true_iff] at ht ⊢
            simp only [Bool.and_eq_true] at ht ⊢
            exact ⟨ht.1, s1⟩
          have a1 := pitch_t hx hch ht hpl
          have a2 := apart_t hx hch ht hpl hql
          have a3 := pitch_t hy hyc hyt (p := p) hpl
          have a4 := apart_t hy hyc hyt (p := p) (q := q) hpl hql
          have v1 : tab (x.forked (x.forks.map (shiftF (u - 20))) (growP 3 ((x.forks.map (shiftF (u - 20))).map foA))) 5 p = tab x 5 p + (u - 20) := (s2 p hpl).1
          have v2 : tab (x.forked (x.forks.map (shiftF (u - 20))) (growP 3 ((x.forks.map (shiftF (u - 20))).map foA))) p 5 = tab x p 5 - (u - 20) := (s2 p hpl).2.1
          have v3 : tab (x.forked (x.forks.map (shiftF (u - 20))) (growP 3 ((x.forks.map (shiftF (u - 20))).map foA))) p q = tab x p q := (s2 p hpl).2.2 q hql
          have v4 : tab (x.forked (x.forks.map (shiftF (u - 20))) (growP 3 ((x.forks.map (shiftF (u - 20))).map foA))) q p = tab x q p := (s2 q hql).2.2 p hpl
          have hyav : (x.forked (x.forks.map (shiftF (u - 20))) (growP 3 ((x.forks.map (shiftF (u - 20))).map foA))).av = .agg [I x.pipes, x.tr, growP 3 ((x.forks.map (shiftF (u - 20))).map foA), x.br, I x.voice.weeks, x.vr] := rfl
          rw [v1, v2, hyav] at a3
          rw [v3, v4, hyav] at a4
          rw [hmap] at l0' l1'
          have m1 := tab_real hch ht (.inl hpl : Organ.Real x.N p) (.inr rfl : Organ.Real x.N 5)
          have m2 := tab_real hch ht (.inr rfl : Organ.Real x.N 5) (.inl hpl : Organ.Real x.N p)
          have hb : ∀ a b, call Cv 49 [I a, I b] = some (.agg [I a, I b]) := bounds_call
          have w1 : IntKind.wrap .i64 (-tab x p 5 + (u - 20)) = -tab x p 5 + (u - 20) := wrap_small (by omega) (by omega)
          have w2 : IntKind.wrap .i64 (tab x 5 p + (u - 20)) = tab x 5 p + (u - 20) := wrap_small (by omega) (by omega)
          have en : -(tab x p 5 - (u - 20)) = -tab x p 5 + (u - 20) := by omega
          rw [en] at a3
          have ee : ∀ a b, eqCells [I a, I b] [I a, I b] = some true := fun a b => by simp [eqCells]
          have gp := fun σ n => growV_pur 3 ((x.forks.map (shiftF (u - 20))).map foA) σ n
          have q1 := hx.trow.pur
          have q3 := br_pur x
          have q4 := vr_pur x
          have hp6 : ∀ v : AV, partA (some 6) [I x.pipes, x.tr, v, x.br, I x.voice.weeks, x.vr] 0 = some (.agg [I x.pipes, x.tr, v, x.br, I x.voice.weeks, x.vr]) := fun _ => rfl
          have hstd : ∀ es, st12 x [I n0, I n1, I n2] es [] = { boxes := [x.cells, [I n0, I n1, I n2], [I x.pipes, x.tr, growV 3 es, x.br, I x.voice.weeks, x.vr]], chains := growC 3 es } := fun _ => rfl
          rw [hstd] at l0' l1'
          generalize (x.forks.map (shiftF (u - 20))).map foA = R at *
          rw [call_run comp12 (Nat.le_of_ble_eq_true rfl)]
          simp (maxSteps := 10000000) [-List.getD_eq_getElem?_getD, -boxA, -partA, -setAt, -List.all_eq_true, part_none, part_x, part_two, set_two, code12, hbox, hbox2, hp, hsm, hs, x0, x0', t0, t1, t2, w0, hcl, hav, hz, hxl, hs2, keep12_0, l0', g2, g5, g6, g7, g8, keep12_1, l1', k2, k5, k6, k7, k8, a1, a2, a3, a4, hb, w1, w2, ee, gp, q1, q3, q4, hp6, still]
        · have l1' := fun E (hE : mask keep12_1 E = _) => run_at l1 hE
          simp only [keep12_1, head12_1, e5] at l1'
          rw [call_run comp12 (Nat.le_of_ble_eq_true rfl)]
          simp (maxSteps := 10000000) [-List.getD_eq_getElem?_getD, -boxA, -partA, -setAt, -List.all_eq_true, part_none, part_x, code12, hbox, hbox2, hp, hsm, hs, x0, x0', t0, t1, t2, w0, hcl, hav, hz, hxl, hs2, keep12_0, l0', g2, g5, g6, g7, g8, keep12_1, l1', k4, still]
    · have l0' := fun E (hE : mask keep12_0 E = _) => run_at l0 hE
      simp only [keep12_0, head12_0, e5] at l0'
      rw [← hst0] at l0'
      rw [call_run comp12 (Nat.le_of_ble_eq_true rfl)]
      simp (maxSteps := 10000000) [-List.getD_eq_getElem?_getD, -boxA, -partA, -setAt, -List.all_eq_true, part_none, part_x, code12, hbox, hbox2, hp, hsm, hs, x0, x0', t0, t1, t2, w0, hcl, hav, hz, hxl, hs2, keep12_0, l0', g4, still]
end Go.Ai
