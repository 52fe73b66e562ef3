/- This text shows rows that grow; a book without some tunings. No conditions of its own. -/
import Derived.Test.YtbjdaefdifofkaaDoorHelpD
set_option linter.unusedSimpArgs false
set_option linter.unusedVariables false
set_option maxRecDepth 100000
set_option linter.unusedSimpArgs false
set_option linter.unusedVariables false
/-! Rows that grow in a variable; a book without some tunings. -/
namespace Go.Ai
open Go.Organ (T4 F3 Tb T6 kept)
def growAt (c sz : Nat) (es : List AV) : AV := if es = [] then .nils else .sl sz es (.chain c)
theorem growAt_pur (c sz : Nat) (es : List AV) (σ : St) (n : Nat) : pur σ (n + 1) (growAt c sz es) = some (growP sz es, false) := by
  unfold growAt growP
  split <;> rfl
theorem growAt_cell (c sz : Nat) (es : List AV) : (growAt c sz es).isCell = true := by unfold growAt; split <;> rfl
theorem growAt_cells (c sz : Nat) (es : List AV) : (growAt c sz es).cells = [growAt c sz es] := by unfold growAt; split <;> rfl
theorem growAt_under (k sz : Nat) (es : List AV) (a b c d n : Nat) : under a b c d (n + 1) (growAt k sz es) = decide (es = [] ∨ k < b) := by
  unfold growAt
  split
  · rename_i h; simp [h, under]
  · rename_i h; simp [h, under]
theorem growAt_app {B : List (List AV)} {ch0 : List (Nat × Nat)} {sz bytes : Nat} {es : List AV} {v : AV} (h : (es.length + 1) * bytes ≤ 140737488355328) (hb : bytes ≤ 140737488355328) : appA { boxes := B, chains := ch0 ++ growC sz es } false sz bytes true (growAt ch0.length sz es) (.sl sz [v] .full) = some (growAt ch0.length sz (es ++ [v]), { boxes := B, chains := ch0 ++ growC sz (es ++ [v]) }) := by
  have hn : es ++ [v] ≠ [] := by simp
  unfold growAt growC
  rw [if_neg hn, if_neg hn]
  by_cases he : es = []
  · subst he
    simp [appA, elemsA, grown, hb]
  · rw [if_neg he, if_neg he]
    simp [appA, elemsA, h]
theorem cut_grow {sz n : Nat} (F : AV → List (List AV)) (hn : ∀ g, (F g).length = n) (ch0 : List (Nat × Nat)) (hu : ∀ g nc, ch0.length ≤ nc → (F g).all (fun cs => cs.all (under n nc 0 0 6)) = under n nc 0 0 6 g) (es es' : List AV) (hes : es' = es ∨ es' ≠ []) (E : List (List AV)) (e : Env) (he : ∀ nc, ch0.length ≤ nc → e.all (under n nc 0 0 6) = true) :
    cut { boxes := F (growAt ch0.length sz es), chains := ch0 ++ growC sz es } { boxes := F (growAt ch0.length sz es') ++ E, chains := ch0 ++ growC sz es' } e = { boxes := F (growAt ch0.length sz es'), chains := ch0 ++ growC sz es' } := by
  have hd : ∀ nc, ch0.length ≤ nc → dryAt nc { boxes := F (growAt ch0.length sz es), chains := ch0 ++ growC sz es } { boxes := F (growAt ch0.length sz es') ++ E, chains := ch0 ++ growC sz es' } e = decide (es' = [] ∨ ch0.length < nc) := fun nc hnc => by
    have ht : (F (growAt ch0.length sz es') ++ E).take n = F (growAt ch0.length sz es') := List.take_left' (hn _)
    have h1 := hu (growAt ch0.length sz es') nc hnc
    rw [growAt_under] at h1
    simp only [dryAt, hn, ht, he nc hnc, h1, List.length_nil, List.take_zero, List.all_nil, Bool.true_and, Bool.and_true]
  have hat : ∀ nc, nc = (ch0 ++ growC sz es').length → cutAt nc { boxes := F (growAt ch0.length sz es), chains := ch0 ++ growC sz es } { boxes := F (growAt ch0.length sz es') ++ E, chains := ch0 ++ growC sz es' } = { boxes := F (growAt ch0.length sz es'), chains := ch0 ++ growC sz es' } := fun nc h => by
    subst h
    have ht : (F (growAt ch0.length sz es') ++ E).take n = F (growAt ch0.length sz es') := List.take_left' (hn _)
    simp only [cutAt, hn, ht, List.take_length, List.length_nil, List.take_zero, Nat.zero_min, Nat.min_self]
  have g : ∀ es : List AV, (growC sz es).length = if es = [] then 0 else 1 := fun es => by unfold growC; split <;> rfl
  unfold cut
  rw [hd _ (by simp), hd _ (by simp)]
  by_cases h' : es' = []
  · have h0 : es = [] := by
      rcases hes with h | h
      · rw [← h]; exact h'
      · exact absurd h' h
    rw [if_pos (by simp [h']), hat]
    rw [h', h0]
  · by_cases h0 : es = []
    · rw [if_neg (by simp [h', g, h0]), if_pos (by simp [g, h']), hat _ rfl]
    · rw [if_pos (by simp [g, h0]), hat]
      simp [g, h', h0]
def F53 (x : OB) (g : AV) : List (List AV) := [x.cells, [I 0, .nils, .nils, .nils, I 0, .nils], [I x.pipes, g, x.fr, x.br, I x.voice.weeks, x.vr]]
theorem F53_under (x : OB) (hx : x.Ok) (g : AV) (nc : Nat) : (F53 x g).all (fun cs => cs.all (under 3 nc 0 0 6)) = under 3 nc 0 0 6 g := by
  have u1 := hx.trow.under 3 nc 0 0 5
  have u2 := hx.frow.under 3 nc 0 0 5
  have u3 := br_under x 3 nc 0 0 5
  have u4 := vr_under x 3 nc 0 0 5
  have u0 : under 3 nc 0 0 6 AV.nils = true := rfl
  simp only [F53, OB.cells, List.all_cons, List.all_nil, u1, u2, u3, u4, u0, un_int, Bool.and_self, Bool.true_and, Bool.and_true]
def st53 (x : OB) (es : List AV) (E : List (List AV)) : St := { boxes := F53 x (growAt 0 4 es) ++ E, chains := [] ++ growC 4 es }
def head53 (r : AV) (k : Int) : Env := mkE 31 .any [(6, I k), (5, .box 2 0), (4, .box 1 0), (2, .box 0 0), (1, r)]
theorem loop53 (x : OB) (hx : x.Ok) (hl : x.tunes.length < 1000) (but : List Int) (r : AV) (hr : IsRow 1 (ints but) r) (hbl : but.length < 2 ^ 47) : ∀ (l : List T4) (k : Nat) (es : List T4), k ≤ x.tunes.length → x.tunes.drop k = l → es.length ≤ k →
    ∃ L, run Cv 53 (.loop keep53_0 body53_0) (head53 r k) (st53 x (es.map tuA) []) = some (.ex 0, mkE 31 .any L, st53 x ((es ++ kept (butF but) l k).map tuA) []) ∧ gt (mkE 31 .any L) 5 = .box 2 0 ∧ gt (mkE 31 .any L) 4 = .box 1 0
  | [], k, es, hk, h, he => by
    obtain rfl := drop_nil hk h
    have hlen := tlen hx
    rw [run_loop, kept, List.append_nil]
    simp (maxSteps := 10000000) [-List.getD_eq_getElem?_getD, body53_0, keep53_0, head53, st53, F53, OB.cells, hlen]
    exact ⟨_, rfl, by simp (maxSteps := 10000000) [-List.getD_eq_getElem?_getD, ], by simp (maxSteps := 10000000) [-List.getD_eq_getElem?_getD, ]⟩
  | t :: l, k, es, hk, h, he => by
    obtain ⟨hlt, ha, hd⟩ := head_drop h
    have hw := wrap_succ hlt hx.lt
    have hlt' : (k : Int) < (x.tunes.length : Int) := by omega
    have hlen := tlen hx
    have hwc := where_call but r hr hbl k
    have hrp := hr.pur
    have hru := hr.under
    have hneg : decide (idx k but 0 < 0) = !butF but k := by
      have := idx_nonneg k but 0
      rw [show butF but k = decide ((k : Int) ∈ but) from rfl, ← this]
      by_cases h0 : 0 ≤ idx k but 0 <;> simp [h0] <;> omega
    have hld : ∀ es E off, loadA (st53 x es E) none (.box 0 off) = x.cells[off]? := fun _ _ _ => rfl
    have hx1 : x.cells[1]? = some x.tr := rfl
    have hix : ixsA 4 x.tr (I k) = some (.rp [I t.src, I t.dst, I t.off, I t.err] 0) := by
      obtain ⟨c, hc, hr⟩ := hx.trow.sl (by intro hn; simp at hn; rw [hn] at hlt; simp at hlt)
      rw [hr]
      simp [ixsA, hlt, ha, tuA, AV.cells]
    have hlr : ∀ σ, loadA σ (some 4) (.rp [I t.src, I t.dst, I t.off, I t.err] 0) = some (tuA t) := fun _ => rfl
    have hl5 : ∀ es, loadA (st53 x es []) none (.box 2 1) = some (growAt 0 4 es) := fun _ => rfl
    have hfe : ∀ z, fillE 4 true [(0, tuA t)] [z] = some [tuA t] := fun _ => rfl
    have hr1 : ∀ z : AV, List.replicate 1 z = [z] := fun _ => rfl
    have happ : appA (st53 x (es.map tuA) []) false 4 32 true (growAt 0 4 (es.map tuA)) (.sl 4 [tuA t] .full) = some (growAt 0 4 (es.map tuA ++ [tuA t]), { boxes := F53 x (growAt 0 4 (es.map tuA)), chains := [] ++ growC 4 (es.map tuA ++ [tuA t]) }) := growAt_app (ch0 := []) (by simp; omega) (by omega)
    have hst : storeA { boxes := F53 x (growAt 0 4 (es.map tuA)), chains := [] ++ growC 4 (es.map tuA ++ [tuA t]) } 1 (.box 2 1) (growAt 0 4 (es.map tuA ++ [tuA t])) = some (st53 x (es.map tuA ++ [tuA t]) []) := by
      have g1 := growAt_cell 0 4 (es.map tuA ++ [tuA t])
      have g2 := growAt_cells 0 4 (es.map tuA ++ [tuA t])
      simp [storeA, g1, g2, st53, F53, setAt]
    rw [show ([] : List (Nat × Nat)) ++ growC 4 (es.map tuA ++ [tuA t]) = growC 4 (es.map tuA ++ [tuA t]) from rfl] at happ hst
    have hcut : ∀ (es' : List AV), (es' = es.map tuA ∨ es' ≠ []) → ∀ e : Env, (∀ nc, e.all (under 3 nc 0 0 6) = true) → cut (st53 x (es.map tuA) []) (st53 x es' []) e = st53 x es' [] := fun es' hes e hE => by
      have := cut_grow (sz := 4) (F53 x) (fun _ => rfl) [] (fun g nc _ => F53_under x hx g nc) (es.map tuA) es' hes [] e (fun nc _ => hE nc)
      show cut { boxes := F53 x (growAt 0 4 (es.map tuA)) ++ [], chains := [] ++ growC 4 (es.map tuA) } { boxes := F53 x (growAt 0 4 es') ++ [], chains := [] ++ growC 4 es' } e = { boxes := F53 x (growAt 0 4 es') ++ [], chains := [] ++ growC 4 es' }
      rw [List.append_nil] at this ⊢
      rw [List.append_nil]
      exact this
    have hkept : kept (butF but) (t :: l) k = (if butF but k then [] else [t]) ++ kept (butF but) l (k + 1) := rfl
    rw [hkept, ← List.append_assoc]
    cases hb : butF but k with
    | true =>
      have hj : ¬ idx k but 0 < 0 := by rw [hb] at hneg; simpa using hneg
      have hc2 := hcut (es.map tuA) (.inl rfl)
      have step : run Cv 53 (.loop keep53_0 body53_0) (head53 r k) (st53 x (es.map tuA) []) = run Cv 53 (.loop keep53_0 body53_0) (head53 r (k + 1)) (st53 x (es.map tuA) []) := by
        rw [run_loop]
        generalize MC.loop keep53_0 body53_0 = L
        simp (maxSteps := 10000000) [-List.getD_eq_getElem?_getD, -loadA, -storeA, -cut, -ixsA, body53_0, keep53_0, head53, hlen, hlt', hw, hwc, hrp, hj, hld, hx1]
        rw [hc2]
        intro nc
        simp (maxSteps := 10000000) [-List.getD_eq_getElem?_getD, hru]
      rw [step, if_pos rfl, List.append_nil]
      exact loop53 x hx hl but r hr hbl l (k + 1) es hlt hd (by omega)
    | false =>
      have hj : idx k but 0 < 0 := by rw [hb] at hneg; simpa using hneg
      have hc2 := hcut (es.map tuA ++ [tuA t]) (.inr (by simp))
      have step : run Cv 53 (.loop keep53_0 body53_0) (head53 r k) (st53 x (es.map tuA) []) = run Cv 53 (.loop keep53_0 body53_0) (head53 r (k + 1)) (st53 x (es.map tuA ++ [tuA t]) []) := by
        rw [run_loop]
        generalize MC.loop keep53_0 body53_0 = L
        simp (maxSteps := 10000000) [-List.getD_eq_getElem?_getD, -loadA, -storeA, -cut, -ixsA, body53_0, keep53_0, head53, hlen, hlt', hw, hwc, hrp, hj, hld, hx1, hix, hlr, hl5, hfe, hr1, happ, hst]
        rw [hc2]
        intro nc
        simp (maxSteps := 10000000) [-List.getD_eq_getElem?_getD, hru]
      rw [step, if_neg (by simp)]
      have := loop53 x hx hl but r hr hbl l (k + 1) (es ++ [t]) hlt hd (by simp; omega)
      simpa [List.append_assoc] using this
def OB.left (x : OB) (but : List Int) : OB := x.tuned (kept (butF but) x.tunes 0) (growP 4 ((kept (butF but) x.tunes 0).map tuA))
theorem without_call (x : OB) (hx : x.Ok) (hl : x.tunes.length < 1000) (but : List Int) (r : AV) (hr : IsRow 1 (ints but) r) (hbl : but.length < 2 ^ 47) : call Cv 53 [x.av, r] = some (x.left but).av := by
  have hcl := xcells_cell x hx
  have hav : x.av.cells = x.cells := rfl
  have hxl : x.cells.length = 6 := rfl
  have hbox : boxA {} x.av = some (.box 0 0, { boxes := [x.cells] }) := by
    simp only [boxA, OB.av, AV.cells, hcl, if_true]; rfl
  obtain ⟨L, l0, g5, g4⟩ := loop53 x hx hl but r hr hbl x.tunes 0 [] (Nat.zero_le _) rfl (Nat.le_refl _)
  have l0' := fun E (hE : mask keep53_0 E = _) => run_at l0 hE
  have e5 : ((0 : Nat) : Int) = 0 := rfl
  simp only [keep53_0, head53, e5, List.nil_append, List.map_nil] at l0'
  have hz : setAt [I 0, .nils, .nils, .nils, I 0, .nils] 0 x.cells = x.cells := rfl
  have hs1 : setAt x.cells 1 [.nils] = [I x.pipes, .nils, x.fr, x.br, I x.voice.weeks, x.vr] := rfl
  have hst0 : st53 x [] [] = { boxes := [x.cells, [I 0, .nils, .nils, .nils, I 0, .nils], [I x.pipes, .nils, x.fr, x.br, I x.voice.weeks, x.vr]] } := rfl
  rw [hst0] at l0'
  have hstd : ∀ es, st53 x es [] = { boxes := [x.cells, [I 0, .nils, .nils, .nils, I 0, .nils], [I x.pipes, growAt 0 4 es, x.fr, x.br, I x.voice.weeks, x.vr]], chains := growC 4 es } := fun _ => rfl
  rw [hstd] at l0'
  have hp6 : ∀ a b c d e f : AV, partA (some 6) [a, b, c, d, e, f] 0 = some (.agg [a, b, c, d, e, f]) := fun _ _ _ _ _ _ => rfl
  have hs6 : ∀ a b c d e f : AV, setAt [I 0, .nils, .nils, .nils, I 0, .nils] 0 [a, b, c, d, e, f] = [a, b, c, d, e, f] := fun _ _ _ _ _ _ => rfl
  have c1 := hx.frow.cell
  have c2 := br_cell x
  have c3 := vr_cell x
  have q1 := hx.frow.pur
  have q2 := br_pur x
  have q3 := vr_pur x
  have hm : (x.left but).av = .agg [I x.pipes, growP 4 ((kept (butF but) x.tunes 0).map tuA), x.fr, x.br, I x.voice.weeks, x.vr] := rfl
  rw [hm]
  have gc := growAt_cell 0 4 ((kept (butF but) x.tunes 0).map tuA)
  have gp := growAt_pur 0 4 ((kept (butF but) x.tunes 0).map tuA)
  generalize (kept (butF but) x.tunes 0).map tuA = R at *
  rw [call_run comp53 (Nat.le_of_ble_eq_true rfl)]
  simp (maxSteps := 10000000) [-List.getD_eq_getElem?_getD, -boxA, -partA, -setAt, -List.all_eq_true, part_none, part_x, code53, hbox, hav, hcl, hxl, hz, hs1, keep53_0, l0', g5, g4, hp6, hs6, gc, gp, c1, c2, c3, q1, q2, q3]
end Go.Ai
