/- This text shows books with other hearings. No conditions of its own. -/
import Derived.Test.YtknklhodhkohlaaDoorFnN
set_option linter.unusedSimpArgs false
set_option linter.unusedVariables false
set_option maxRecDepth 100000
namespace Go.Ai
open Go.Cold (Mv Hd Bk Tr keptH butF)
def growP (sz : Nat) (es : List AV) : AV := if es = [] then .nils else .sl sz es .no
theorem growP_row (sz : Nat) (es : List AV) : IsRow sz es (growP sz es) := by
  unfold growP
  split
  · rename_i h; exact .inl ⟨rfl, h⟩
  · exact .inr (.inr ⟨.no, rfl, rfl⟩)
theorem growV_puri (c sz : Nat) (es : List AV) (σ : St) (n : Nat) : pur σ (n + 1) (growV c sz es) = some (growP sz es, false) := by
  unfold growV growP
  split <;> rfl
theorem growV_under (k sz : Nat) (es : List AV) (a b c d n : Nat) : under a b c d (n + 1) (growV k sz es) = decide (es = [] ∨ k < b) := by
  unfold growV
  split
  · rename_i h; simp [h, under]
  · rename_i h; simp [h, under]
theorem growV_app {B : List (List AV)} {ch0 : List (Nat × Nat)} {sz bytes : Nat} {es : List AV} {v : AV} (h : (es.length + 1) * bytes ≤ 140737488355328) (hb : bytes ≤ 140737488355328) : appA { boxes := B, chains := ch0 ++ growC sz es } false sz bytes true (growV ch0.length sz es) (.sl sz [v] .full) = some (growV ch0.length sz (es ++ [v]), { boxes := B, chains := ch0 ++ growC sz (es ++ [v]) }) :=
  app_row B [] [] ch0 es v sz bytes true h ch0.length rfl
theorem cut_grow {sz n : Nat} (F : AV → List (List AV)) (hn : ∀ g, (F g).length = n) (ch0 : List (Nat × Nat)) (hu : ∀ g nc, ch0.length ≤ nc → (F g).all (fun cs => cs.all (under n nc 0 0 6)) = under n nc 0 0 6 g) (es es' : List AV) (hes : es' = es ∨ es' ≠ []) (E : List (List AV)) (e : Env) (he : ∀ nc, ch0.length ≤ nc → e.all (under n nc 0 0 6) = true) :
    cut { boxes := F (growV ch0.length sz es), chains := ch0 ++ growC sz es } { boxes := F (growV ch0.length sz es') ++ E, chains := ch0 ++ growC sz es' } e = { boxes := F (growV ch0.length sz es'), chains := ch0 ++ growC sz es' } := by
  have hd : ∀ nc, ch0.length ≤ nc → dryAt nc { boxes := F (growV ch0.length sz es), chains := ch0 ++ growC sz es } { boxes := F (growV ch0.length sz es') ++ E, chains := ch0 ++ growC sz es' } e = decide (es' = [] ∨ ch0.length < nc) := fun nc hnc => by
    have ht : (F (growV ch0.length sz es') ++ E).take n = F (growV ch0.length sz es') := List.take_left' (hn _)
    have h1 := hu (growV ch0.length sz es') nc hnc
    rw [growV_under] at h1
    simp only [dryAt, hn, ht, he nc hnc, h1, List.length_nil, List.take_zero, List.all_nil, Bool.true_and, Bool.and_true]
  have hat : ∀ nc, nc = (ch0 ++ growC sz es').length → cutAt nc { boxes := F (growV ch0.length sz es), chains := ch0 ++ growC sz es } { boxes := F (growV ch0.length sz es') ++ E, chains := ch0 ++ growC sz es' } = { boxes := F (growV ch0.length sz es'), chains := ch0 ++ growC sz es' } := fun nc h => by
    subst h
    have ht : (F (growV ch0.length sz es') ++ E).take n = F (growV ch0.length sz es') := List.take_left' (hn _)
    simp only [cutAt, hn, ht, List.take_length, List.length_nil, List.take_zero, Nat.zero_min, Nat.min_self]
  have g : ∀ es : List AV, (growC sz es).length = if es = [] then 0 else 1 := fun es => by unfold growC; split <;> rfl
  unfold cut
  rw [hd _ (by simp), hd _ (by simp)]
  by_cases h' : es' = []
  · have h0 : es = [] := by
      rcases hes with h | h
      · rw [← h]; exact h'
      · exact absurd h' h
    rw [if_pos (by simp [h']), hat]
    rw [h', h0]
  · by_cases h0 : es = []
    · rw [if_neg (by simp [h', g, h0]), if_pos (by simp [g, h']), hat _ rfl]
    · rw [if_pos (by simp [g, h0]), hat]
      simp [g, h', h0]
theorem join_row {sz bytes : Nat} {es : List AV} {r : AV} (hr : IsRow sz es r) (hb : (es.length + 1) * bytes ≤ 140737488355328) (v : AV) (B : List (List AV)) :
    ∃ y ch, appA { boxes := B } false sz bytes true (.sl sz [] .full) r = some (y, { boxes := B, chains := ch }) ∧ appA { boxes := B, chains := ch } false sz bytes true y (.sl sz [v] .full) = some (.sl sz (es ++ [v]) (.chain 0), { boxes := B, chains := [(es.length + 1, sz)] }) := by
  have hb1 : bytes ≤ 140737488355328 := by
    have : bytes ≤ (es.length + 1) * bytes := Nat.le_mul_of_pos_left _ (by omega)
    omega
  have hb0 : es.length * bytes ≤ 140737488355328 := Nat.le_trans (Nat.mul_le_mul_right _ (by omega)) hb
  by_cases he : es = []
  · subst he
    refine ⟨.sl sz [] .full, [], ?_, ?_⟩
    · rcases hr with ⟨rfl, _⟩ | ⟨rfl, _⟩ | ⟨c, hc, rfl⟩ <;> simp [appA, elemsA, isSl]
    · simp [appA, elemsA, grown, hb1]
  · obtain ⟨c, hc, rfl⟩ := hr.sl he
    refine ⟨.sl sz es (.chain 0), [(es.length, sz)], ?_, ?_⟩
    · simp [appA, elemsA, grown, he, hb0]
    · simp [appA, elemsA, hb]
def hdA (h : Hd) : AV := .agg (hdC h)
def mvA (m : Mv) : AV := .agg (mvC m)
theorem hdA_row (x : CB) (hx : x.Ok) : IsRow 3 (x.hs.map hdA) x.hr := hx.hrow
theorem mvA_row (x : CB) (hx : x.Ok) : IsRow 2 (x.ms.map mvA) x.mr := hx.mrow
def CB.hear (x : CB) (l : List Hd) (r : AV) : CB := { x with hs := l, hr := r }
theorem hear_ok {x : CB} (hx : x.Ok) {l : List Hd} {r : AV} (hr : IsRow 3 (l.map hdA) r) (hl : l.length < 2 ^ 47) : (x.hear l r).Ok := { mrow := hx.mrow, hrow := hr, lm := hx.lm, lh := hl }
theorem moves_hear (x : CB) (hs : List Hd) (r : AV) : ∀ (l : List Mv) (k : Nat), movesB (x.hear hs r) l k = movesB x l k
  | [], _ => rfl
  | m :: l, k => by
    rw [movesB, movesB, moves_hear x hs r l (k + 1)]
    rfl
theorem okOne_hear {x : CB} (h : okOne x = true) {l : List Hd} (r : AV) (hl : l.length ≤ 4) : okOne (x.hear l r) = true := by
  have hl' : ((l.length : Nat) : Int) ≤ 4 := by omega
  simp only [okOne, Bool.and_eq_true] at h ⊢
  exact ⟨h.1, h.2.1, h.2.2.1, h.2.2.2.1, h.2.2.2.2.1, h.2.2.2.2.2.1, h.2.2.2.2.2.2.1, decide_eq_true hl'⟩
theorem hear_check {x : CB} (hk : checkB x = true) {l : List Hd} (r : AV) (hl : l.length ≤ 4) (h : ∀ y ∈ l, spotB x y.bed y.day = true) : checkB (x.hear l r) = true := by
  simp only [checkB, Bool.and_eq_true] at hk ⊢
  refine ⟨⟨⟨okOne_hear hk.1.1.1 r hl, hk.1.1.2⟩, ?_⟩, List.all_eq_true.2 h⟩
  show movesB (x.hear l r) x.ms 0 = true
  rw [moves_hear]
  exact hk.1.2
theorem check_spots {x : CB} (hk : checkB x = true) : ∀ y ∈ x.hs, spotB x y.bed y.day = true := by
  simp only [checkB, Bool.and_eq_true, List.all_eq_true] at hk
  exact hk.2
theorem not_spot {x : CB} (hk : checkB x = true) {l : List Hd} (r : AV) {y : Hd} (hy : y ∈ l) (h : spotB x y.bed y.day = false) : checkB (x.hear l r) = false := by
  cases hc : checkB (x.hear l r) with
  | false => rfl
  | true =>
    have : spotB x y.bed y.day = true := check_spots hc y hy
    rw [h] at this
    cases this
theorem hear_bk (x : CB) (l : List Hd) (r : AV) : (x.hear l r).bk = { x.bk with hs := l } := rfl
def CB.more (x : CB) (h : Hd) : CB := x.hear (x.hs ++ [h]) (.sl 3 ((x.hs ++ [h]).map hdA) .no)
def CB.left (x : CB) (but : List Int) : CB := x.hear (keptH (butF but) x.hs 0) (growP 3 ((keptH (butF but) x.hs 0).map hdA))
theorem keptH_len (f : Nat → Bool) : ∀ (l : List Hd) (k : Nat), (keptH f l k).length ≤ l.length
  | [], _ => Nat.le_refl _
  | t :: l, k => by
    rw [keptH, List.length_append, List.length_cons]
    have := keptH_len f l (k + 1)
    split <;> simp <;> omega
theorem keptH_sub {f : Nat → Bool} {l : List Hd} {k : Nat} : ∀ y ∈ keptH f l k, y ∈ l := fun y hy => by
  obtain ⟨j, hj, h1, _⟩ := (Go.Cold.kept_mem _ _).1 hy
  exact h1 ▸ List.getElem_mem _
theorem more_ok {x : CB} (hx : x.Ok) (hl : x.hs.length < 1000) (h : Hd) : (x.more h).Ok := hear_ok hx (.inr (.inr ⟨.no, rfl, rfl⟩)) (by simp; omega)
theorem left_ok {x : CB} (hx : x.Ok) (but : List Int) : (x.left but).Ok := hear_ok hx (growP_row _ _) (by have := keptH_len (butF but) x.hs 0; have := hx.lh; omega)
theorem left_check {x : CB} (hk : checkB x = true) (but : List Int) : checkB (x.left but) = true := hear_check hk _ (by have := keptH_len (butF but) x.hs 0; have := (check_fine hk).lh; omega) fun y hy => check_spots hk y (keptH_sub y hy)
theorem more_check {x : CB} (hk : checkB x = true) (hl : x.hs.length < 4) {h : Hd} (hs : spotB x h.bed h.day = true) : checkB (x.more h) = true := hear_check hk _ (by simp; omega) fun y hy => by
  rcases List.mem_append.1 hy with hy | hy
  · exact check_spots hk y hy
  · rw [List.mem_singleton.1 hy]; exact hs
theorem more_bad {x : CB} (hk : checkB x = true) {h : Hd} (hs : spotB x h.bed h.day = false) : checkB (x.more h) = false := not_spot hk _ (List.mem_append.2 (.inr (List.mem_singleton.2 rfl))) hs
theorem more_bk (x : CB) (h : Hd) : (x.more h).bk = x.bk.more h := rfl
theorem left_bk (x : CB) (but : List Int) : (x.left but).bk = x.bk.left but := rfl
def F44 (x : CB) (g : AV) : List (List AV) := [x.cells, [I 0, I 0, I 0, I 0, I 0, I 0, I 0, I 0, .nils, I 0, .nils], [I x.beds, I x.days, I x.begins, I x.until_, I x.oL, I x.oH, I x.gL, I x.gH, x.mr, I x.rooms, g]]
theorem F44_under (x : CB) (hx : x.Ok) (g : AV) (nc : Nat) : (F44 x g).all (fun cs => cs.all (under 3 nc 0 0 6)) = under 3 nc 0 0 6 g := by
  have u1 := hx.mrow.under 3 nc 0 0 5
  have u2 := hx.hrow.under 3 nc 0 0 5
  have u0 : under 3 nc 0 0 6 AV.nils = true := rfl
  simp only [F44, CB.cells, List.all_cons, List.all_nil, u1, u2, u0, un_int, Bool.and_self, Bool.true_and, Bool.and_true]
def st44 (x : CB) (es : List AV) : St := { boxes := F44 x (growV 0 3 es), chains := [] ++ growC 3 es }
theorem cut44 (x : CB) (hx : x.Ok) (es es' : List AV) (hes : es' = es ∨ es' ≠ []) (e : Env) (hE : ∀ nc, e.all (under 3 nc 0 0 6) = true) : cut (st44 x es) (st44 x es') e = st44 x es' := by
  have := cut_grow (sz := 3) (F44 x) (fun _ => rfl) [] (fun g nc _ => F44_under x hx g nc) es es' hes [] e (fun nc _ => hE nc)
  rw [List.append_nil] at this
  exact this
theorem app44 (x : CB) (es : List AV) (v : AV) (hl : es.length < 1000) : appA (st44 x es) false 3 24 true (growV 0 3 es) (.sl 3 [v] .full) = some (growV 0 3 (es ++ [v]), { boxes := F44 x (growV 0 3 es), chains := [] ++ growC 3 (es ++ [v]) }) := growV_app (ch0 := []) (by omega) (by omega)
theorem sto44 (x : CB) (es : List AV) (v : AV) : storeA { boxes := F44 x (growV 0 3 es), chains := [] ++ growC 3 (es ++ [v]) } 1 (.box 2 10) (growV 0 3 (es ++ [v])) = some (st44 x (es ++ [v])) := by
  have g1 := growV_cell 0 3 (es ++ [v])
  have g2 := growV_cells 0 3 (es ++ [v])
  simp [storeA, g1, g2, st44, F44, setAt]
def head44 (r : AV) (k : Int) : Env := mkE 31 .any [(6, I k), (5, .box 2 0), (4, .box 1 0), (2, .box 0 0), (1, r)]
theorem loop44 (x : CB) (hx : x.Ok) (hl : x.hs.length < 1000) (but : List Int) (r : AV) (hr : IsRow 1 (ints but) r) (hbl : but.length < 2 ^ 47) : ∀ (l : List Hd) (k : Nat) (es : List Hd), k ≤ x.hs.length → x.hs.drop k = l → es.length ≤ k →
    ∃ L, run Cv 44 (.loop keep44_0 body44_0) (head44 r k) (st44 x (es.map hdA)) = some (.ex 0, mkE 31 .any L, st44 x ((es ++ keptH (butF but) l k).map hdA)) ∧ gt (mkE 31 .any L) 5 = .box 2 0 ∧ gt (mkE 31 .any L) 4 = .box 1 0
  | [], k, es, hk, h, he => by
    obtain rfl := drop_nil hk h
    have hlen := hlen hx
    have hld : ∀ es off, loadA (st44 x es) none (.box 0 off) = x.cells[off]? := fun _ _ => rfl
    have hx1 : x.cells[10]? = some x.hr := rfl
    rw [run_loop, keptH, List.append_nil]
    simp (maxSteps := 10000000) [-List.getD_eq_getElem?_getD, -loadA, body44_0, keep44_0, head44, hld, hx1, hlen]
    exact ⟨_, rfl, by simp (maxSteps := 10000000) [-List.getD_eq_getElem?_getD, ], by simp (maxSteps := 10000000) [-List.getD_eq_getElem?_getD, ]⟩
  | t :: l, k, es, hk, h, he => by
    obtain ⟨hlt, ha, hd⟩ := head_drop h
    have hw := wrap_succ hlt hx.lh
    have hlt' : (k : Int) < (x.hs.length : Int) := by omega
    have hlen := hlen hx
    have hwc := where_call but r hr hbl k
    have hrp := hr.pur
    have hru := hr.under
    have hneg : decide (idx k but 0 < 0) = !butF but k := by
      have := idx_nonneg k but 0
      rw [show butF but k = decide ((k : Int) ∈ but) from rfl, ← this]
      by_cases h0 : 0 ≤ idx k but 0 <;> simp [h0] <;> omega
    have hld : ∀ es off, loadA (st44 x es) none (.box 0 off) = x.cells[off]? := fun _ _ => rfl
    have hx1 : x.cells[10]? = some x.hr := rfl
    have hix := h_ix hx hlt
    rw [ha] at hix
    have hlr : ∀ σ, loadA σ (some 3) (.rp (hdC t) 0) = some (hdA t) := fun _ => rfl
    have hl5 : ∀ es, loadA (st44 x es) none (.box 2 10) = some (growV 0 3 es) := fun _ => rfl
    have hfe : ∀ z, fillE 3 true [(0, hdA t)] [z] = some [hdA t] := fun _ => rfl
    have hr1 : ∀ z : AV, List.replicate 1 z = [z] := fun _ => rfl
    have happ := app44 x (es.map hdA) (hdA t) (by simp; omega)
    have hst := sto44 x (es.map hdA) (hdA t)
    rw [show ([] : List (Nat × Nat)) ++ growC 3 (es.map hdA ++ [hdA t]) = growC 3 (es.map hdA ++ [hdA t]) from rfl] at happ hst
    have hkept : keptH (butF but) (t :: l) k = (if butF but k then [] else [t]) ++ keptH (butF but) l (k + 1) := rfl
    rw [hkept, ← List.append_assoc]
    cases hb : butF but k with
    | true =>
      have hj : ¬ idx k but 0 < 0 := by rw [hb] at hneg; simpa using hneg
      have hc2 := cut44 x hx (es.map hdA) (es.map hdA) (.inl rfl)
      have step : run Cv 44 (.loop keep44_0 body44_0) (head44 r k) (st44 x (es.map hdA)) = run Cv 44 (.loop keep44_0 body44_0) (head44 r (k + 1)) (st44 x (es.map hdA)) := by
        rw [run_loop]
        generalize MC.loop keep44_0 body44_0 = L
        simp (maxSteps := 10000000) [-List.getD_eq_getElem?_getD, -loadA, -storeA, -cut, -ixsA, body44_0, keep44_0, head44, hlen, hlt', hw, hwc, hrp, hj, hld, hx1]
        rw [hc2]
        intro nc
        simp (maxSteps := 10000000) [-List.getD_eq_getElem?_getD, hru]
      rw [step, if_pos rfl, List.append_nil]
      exact loop44 x hx hl but r hr hbl l (k + 1) es hlt hd (by omega)
    | false =>
      have hj : idx k but 0 < 0 := by rw [hb] at hneg; simpa using hneg
      have hc2 := cut44 x hx (es.map hdA) (es.map hdA ++ [hdA t]) (.inr (by simp))
      have step : run Cv 44 (.loop keep44_0 body44_0) (head44 r k) (st44 x (es.map hdA)) = run Cv 44 (.loop keep44_0 body44_0) (head44 r (k + 1)) (st44 x (es.map hdA ++ [hdA t])) := by
        rw [run_loop]
        generalize MC.loop keep44_0 body44_0 = L
        simp (maxSteps := 10000000) [-List.getD_eq_getElem?_getD, -loadA, -storeA, -cut, -ixsA, body44_0, keep44_0, head44, hlen, hlt', hw, hwc, hrp, hj, hld, hx1, hix, hlr, hl5, hfe, hr1, happ, hst]
        rw [hc2]
        intro nc
        simp (maxSteps := 10000000) [-List.getD_eq_getElem?_getD, hru]
      rw [step, if_neg (by simp)]
      have := loop44 x hx hl but r hr hbl l (k + 1) (es ++ [t]) hlt hd (by simp; omega)
      simpa [List.append_assoc] using this
theorem x_cells_len (x : CB) : x.cells.length = 11 := rfl
theorem z11 (x : CB) : setAt [I 0, I 0, I 0, I 0, I 0, I 0, I 0, I 0, .nils, I 0, .nils] 0 x.cells = x.cells := rfl
theorem x_cell (x : CB) (hx : x.Ok) : x.cells.all AV.isCell = true := by
  have p1 := hx.mrow.cell
  have p2 := hx.hrow.cell
  have hi : ∀ n, AV.isCell (I n) = true := fun _ => rfl
  simp [CB.cells, p1, p2, hi]
theorem without_call (x : CB) (hx : x.Ok) (hl : x.hs.length < 1000) (but : List Int) (r : AV) (hr : IsRow 1 (ints but) r) (hbl : but.length < 2 ^ 47) : call Cv 44 [x.av, r] = some (x.left but).av := by
  have hcl := x_cell x hx
  have hav : x.av.cells = x.cells := rfl
  have hxl : x.cells.length = 11 := rfl
  have hbox := x_box x hx
  obtain ⟨L, l0, g5, g4⟩ := loop44 x hx hl but r hr hbl x.hs 0 [] (Nat.zero_le _) rfl (Nat.le_refl _)
  have l0' := fun E (hE : mask keep44_0 E = _) => run_at l0 hE
  have e5 : ((0 : Nat) : Int) = 0 := rfl
  simp only [keep44_0, head44, e5, List.nil_append, List.map_nil] at l0'
  have hz := z11 x
  have hs1 : setAt x.cells 10 [.nils] = [I x.beds, I x.days, I x.begins, I x.until_, I x.oL, I x.oH, I x.gL, I x.gH, x.mr, I x.rooms, .nils] := rfl
  have hst0 : st44 x [] = { boxes := [x.cells, [I 0, I 0, I 0, I 0, I 0, I 0, I 0, I 0, .nils, I 0, .nils], [I x.beds, I x.days, I x.begins, I x.until_, I x.oL, I x.oH, I x.gL, I x.gH, x.mr, I x.rooms, .nils]] } := rfl
  rw [hst0] at l0'
  have hstd : ∀ es, st44 x es = { boxes := [x.cells, [I 0, I 0, I 0, I 0, I 0, I 0, I 0, I 0, .nils, I 0, .nils], [I x.beds, I x.days, I x.begins, I x.until_, I x.oL, I x.oH, I x.gL, I x.gH, x.mr, I x.rooms, growV 0 3 es]], chains := growC 3 es } := fun _ => rfl
  rw [hstd] at l0'
  have hp11 : ∀ a b c d e f g h i j k : AV, partA (some 11) [a, b, c, d, e, f, g, h, i, j, k] 0 = some (.agg [a, b, c, d, e, f, g, h, i, j, k]) := fun _ _ _ _ _ _ _ _ _ _ _ => rfl
  have hs11 : ∀ a b c d e f g h i j k : AV, setAt [I 0, I 0, I 0, I 0, I 0, I 0, I 0, I 0, .nils, I 0, .nils] 0 [a, b, c, d, e, f, g, h, i, j, k] = [a, b, c, d, e, f, g, h, i, j, k] := fun _ _ _ _ _ _ _ _ _ _ _ => rfl
  have hpx := part_x x
  have c1 := hx.mrow.cell
  have q1 := hx.mrow.pur
  have gc := growV_cell 0 3 ((keptH (butF but) x.hs 0).map hdA)
  have gp := growV_puri 0 3 ((keptH (butF but) x.hs 0).map hdA)
  have hm : (x.left but).av = .agg [I x.beds, I x.days, I x.begins, I x.until_, I x.oL, I x.oH, I x.gL, I x.gH, x.mr, I x.rooms, growP 3 ((keptH (butF but) x.hs 0).map hdA)] := rfl
  rw [hm]
  rw [call_run comp44 (Nat.le_of_ble_eq_true rfl)]
  simp (maxSteps := 10000000) [-List.getD_eq_getElem?_getD, -boxA, -partA, -setAt, -List.all_eq_true, code44, hbox, hav, hcl, hxl, hz, hs1, keep44_0, l0', g5, g4, hp11, hs11, hpx, c1, q1, gc, gp]
theorem with_call (x : CB) (hx : x.Ok) (hl : x.hs.length < 1000) (t : Hd) : call Cv 33 [x.av, hdA t] = some (x.more t).av := by
  have hcl := x_cell x hx
  have hav : x.av.cells = x.cells := rfl
  have hxl : x.cells.length = 11 := rfl
  have hbox := x_box x hx
  have hbox2 : boxA { boxes := [x.cells] } (hdA t) = some (.box 1 0, { boxes := [x.cells, hdC t] }) := rfl
  obtain ⟨y, ch, j1, j2⟩ := join_row (sz := 3) (bytes := 24) (hdA_row x hx) (by simp; omega) (hdA t) [x.cells, hdC t, [I 0, I 0, I 0, I 0, I 0, I 0, I 0, I 0, .nils, I 0, .nils], x.cells]
  have hz := z11 x
  have hx1 : x.cells[10]? = some x.hr := rfl
  have hx1g : ∀ h : 10 < x.cells.length, x.cells[10]'h = x.hr := fun _ => rfl
  have hp3 : partA (some 3) (hdC t) 0 = some (hdA t) := rfl
  have hr0 : ∀ z : AV, List.replicate 0 z = [] := fun _ => rfl
  have hr1 : ∀ z : AV, List.replicate 1 z = [z] := fun _ => rfl
  have hf0 : fillE 3 true [] [] = some [] := rfl
  have hf1 : ∀ z, fillE 3 true [(0, hdA t)] [z] = some [hdA t] := fun _ => rfl
  have hs1 : ∀ v : AV, setAt x.cells 10 [v] = [I x.beds, I x.days, I x.begins, I x.until_, I x.oL, I x.oH, I x.gL, I x.gH, x.mr, I x.rooms, v] := fun _ => rfl
  have hp11 : ∀ a b c d e f g h i j k : AV, partA (some 11) [a, b, c, d, e, f, g, h, i, j, k] 0 = some (.agg [a, b, c, d, e, f, g, h, i, j, k]) := fun _ _ _ _ _ _ _ _ _ _ _ => rfl
  have hs11 : ∀ a b c d e f g h i j k : AV, setAt [I 0, I 0, I 0, I 0, I 0, I 0, I 0, I 0, .nils, I 0, .nils] 0 [a, b, c, d, e, f, g, h, i, j, k] = [a, b, c, d, e, f, g, h, i, j, k] := fun _ _ _ _ _ _ _ _ _ _ _ => rfl
  have hpx := part_x x
  have hpn : ∀ i, partA none x.cells i = x.cells[i]? := fun _ => rfl
  have c1 := hx.mrow.cell
  have q1 := hx.mrow.pur
  have hm : (x.more t).av = .agg [I x.beds, I x.days, I x.begins, I x.until_, I x.oL, I x.oH, I x.gL, I x.gH, x.mr, I x.rooms, .sl 3 (x.hs.map hdA ++ [hdA t]) .no] := by
    show AV.agg [I x.beds, I x.days, I x.begins, I x.until_, I x.oL, I x.oH, I x.gL, I x.gH, x.mr, I x.rooms, .sl 3 ((x.hs ++ [t]).map hdA) .no] = _
    rw [List.map_append]; rfl
  rw [hm]
  rw [call_run comp33 (Nat.le_of_ble_eq_true rfl)]
  simp (maxSteps := 10000000) [-List.getD_eq_getElem?_getD, -boxA, -partA, -setAt, -List.all_eq_true, code33, hbox, hbox2, hav, hcl, hxl, hz, hx1, hx1g, hp3, hr0, hr1, hf0, hf1, j1, j2, hs1, hp11, hs11, hpx, hpn, c1, q1]
end Go.Ai
