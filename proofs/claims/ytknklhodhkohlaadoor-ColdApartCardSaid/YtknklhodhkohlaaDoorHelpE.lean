/- This text shows books in which others are moved. No conditions of its own. -/
import Derived.Test.YtknklhodhkohlaaDoorHelpD
set_option linter.unusedSimpArgs false
set_option linter.unusedVariables false
set_option maxRecDepth 100000
namespace Go.Ai
open Go.Cold (Mv Hd Bk Tr asideL awayL)
def goneF (bed : Int) (acc : Int) : List Mv → Int
  | [] => acc
  | m :: l => goneF bed (if m.bed = bed then min acc m.day else acc) l
theorem gone_le {bed d : Int} : ∀ (l : List Mv) (acc : Int), goneF bed acc l ≤ d ↔ acc ≤ d ∨ ∃ m ∈ l, m.bed = bed ∧ m.day ≤ d
  | [], acc => by simp [goneF]
  | m :: l, acc => by
    rw [goneF, gone_le l]
    simp only [List.mem_cons, exists_eq_or_imp]
    by_cases h : m.bed = bed
    · rw [if_pos h]
      simp only [h, true_and]
      rw [← or_assoc]
      exact or_congr_left (by omega)
    · rw [if_neg h]
      simp [h]
def CB.gone (x : CB) (bed : Int) : Int := goneF bed x.days x.ms
theorem gone_away {x : CB} {bed : Nat} {d : Int} (hd : d < x.days) : x.gone bed ≤ d ↔ awayL x.ms bed d = true := by
  rw [CB.gone, gone_le, Go.Cold.away_iff]
  constructor
  · rintro (h | h)
    · omega
    · exact h
  · exact .inr
theorem gone_max {x : CB} {bed : Int} : x.gone bed ≤ x.days := by
  rw [CB.gone, gone_le]
  exact .inl (Int.le_refl _)
theorem gone_m {x : CB} {bed : Int} {m : Mv} (hm : m ∈ x.ms) (hb : m.bed = bed) : x.gone bed ≤ m.day := by
  rw [CB.gone, gone_le]
  exact .inr ⟨m, hm, hb, Int.le_refl _⟩
theorem gone_pos {x : CB} (f : x.Fine) {bed : Int} : 1 ≤ x.gone bed := by
  rcases Int.lt_or_le (x.gone bed) 1 with h | h
  · have h0 : x.gone bed ≤ 0 := by omega
    rw [CB.gone, gone_le] at h0
    have := f.d1
    rcases h0 with h0 | ⟨m, h1, _, h2⟩
    · omega
    · have := f.ms m h1
      omega
  · exact h
def head37 (bed acc k : Int) : Env := mkE 33 .any [(6, I k), (5, I acc), (2, .box 0 0), (1, I bed)]
theorem loop37 (x : CB) (hx : x.Ok) (bed : Int) : ∀ (l : List Mv) (k : Nat) (acc : Int), k ≤ x.ms.length → x.ms.drop k = l →
    ∃ L, run Cv 37 (.loop keep37_0 body37_0) (head37 bed acc k) (stC x) = some (.ex 0, mkE 33 .any L, stC x) ∧ gt (mkE 33 .any L) 5 = I (goneF bed acc l)
  | [], k, acc, hk, h => by
    obtain rfl := drop_nil hk h
    have hm := mlen hx
    rw [run_loop, goneF]
    simp (maxSteps := 10000000) [-List.getD_eq_getElem?_getD, body37_0, keep37_0, head37, stC, CB.cells, hm]
    exact ⟨_, rfl, by simp (maxSteps := 10000000) [-List.getD_eq_getElem?_getD, ]⟩
  | m :: l, k, acc, hk, h => by
    obtain ⟨hlt, ha, hd⟩ := head_drop h
    have hw := wrap_succ hlt hx.lm
    have hlt' : (k : Int) < (x.ms.length : Int) := by omega
    have hix := m_ix hx hlt
    rw [ha] at hix
    have hm := mlen hx
    have u1 := hx.mrow.under
    have u2 := hx.hrow.under
    obtain ⟨L, g⟩ := loop37 x hx bed l (k + 1) (if m.bed = bed then min acc m.day else acc) hlt hd
    refine ⟨L, ?_, g.2⟩
    rw [← g.1, run_loop]
    generalize MC.loop keep37_0 body37_0 = L
    have hmin : foldA min2 (I acc) [I m.day] = some (I (min acc m.day)) := by
      show some (I (if m.day < acc then m.day else acc)) = _
      congr 2
      split <;> omega
    by_cases hb : m.bed = bed
    · subst hb
      simp (maxSteps := 10000000) [-List.getD_eq_getElem?_getD, -ixsA, body37_0, keep37_0, head37, stC, CB.cells, mvC, hm, hlt', hw, hix, u1, u2, hmin]
    · simp (maxSteps := 10000000) [-List.getD_eq_getElem?_getD, -ixsA, body37_0, keep37_0, head37, stC, CB.cells, mvC, hm, hlt', hw, hix, u1, u2, hb]
theorem gone_call (x : CB) (hx : x.Ok) (bed : Int) : call Cv 37 [x.av, I bed] = some (I (x.gone bed)) := by
  have hbox := x_box x hx
  have hpn : ∀ i, partA none x.cells i = x.cells[i]? := fun _ => rfl
  have x1 : x.cells[1]? = some (I x.days) := rfl
  have e0 : ((0 : Nat) : Int) = 0 := rfl
  obtain ⟨L, g1, g2⟩ := loop37 x hx bed x.ms 0 x.days (Nat.zero_le _) rfl
  rw [e0] at g1
  have g' := fun E (hE : mask keep37_0 E = _) => run_at g1 hE
  simp only [keep37_0, head37, stC] at g'
  rw [call_run comp37 (Nat.le_of_ble_eq_true rfl)]
  simp (maxSteps := 10000000) [-List.getD_eq_getElem?_getD, -boxA, -partA, code37, hbox, hpn, x1, keep37_0, g', g2, CB.gone]
def CB.aside (x : CB) (l : List Int) (day : Int) : CB := { x with ms := asideL x.ms l day, mr := growP 2 ((asideL x.ms l day).map mvA), hs := [], hr := .nils }
theorem aside_len (ms : List Mv) (l : List Int) (day : Int) : (asideL ms l day).length ≤ ms.length + l.length := by
  rw [asideL, List.length_append, List.length_map]
  have := List.length_filter_le (fun m : Mv => !decide (m.bed ∈ l)) ms
  omega
theorem aside_ok {x : CB} (hx : x.Ok) (hm : x.ms.length < 1000) {l : List Int} (hl : l.length < 1000) (day : Int) : (x.aside l day).Ok where
  mrow := growP_row _ _
  hrow := .inl ⟨rfl, rfl⟩
  lm := by
    have := aside_len x.ms l day
    show (asideL x.ms l day).length < _
    omega
  lh := by
    show ([] : List Hd).length < _
    decide
def F40 (x : CB) (g : AV) : List (List AV) := [x.cells, [I 0, I 0, I 0, I 0, I 0, I 0, I 0, I 0, .nils, I 0, .nils], [I x.beds, I x.days, I x.begins, I x.until_, I x.oL, I x.oH, I x.gL, I x.gH, g, I x.rooms, .nils]]
theorem F40_under (x : CB) (hx : x.Ok) (g : AV) (nc : Nat) : (F40 x g).all (fun cs => cs.all (under 3 nc 0 0 6)) = under 3 nc 0 0 6 g := by
  have u1 := hx.mrow.under 3 nc 0 0 5
  have u2 := hx.hrow.under 3 nc 0 0 5
  have u0 : under 3 nc 0 0 6 AV.nils = true := rfl
  simp only [F40, CB.cells, List.all_cons, List.all_nil, u1, u2, u0, un_int, Bool.and_self, Bool.true_and, Bool.and_true]
def st40 (x : CB) (es : List AV) : St := { boxes := F40 x (growV 0 2 es), chains := [] ++ growC 2 es }
theorem cut40 (x : CB) (hx : x.Ok) (es es' : List AV) (hes : es' = es ∨ es' ≠ []) (e : Env) (hE : ∀ nc, e.all (under 3 nc 0 0 6) = true) : cut (st40 x es) (st40 x es') e = st40 x es' := by
  have := cut_grow (sz := 2) (F40 x) (fun _ => rfl) [] (fun g nc _ => F40_under x hx g nc) es es' hes [] e (fun nc _ => hE nc)
  rw [List.append_nil] at this
  exact this
theorem app40 (x : CB) (es : List AV) (v : AV) (hl : es.length < 10000) : appA (st40 x es) false 2 16 true (growV 0 2 es) (.sl 2 [v] .full) = some (growV 0 2 (es ++ [v]), { boxes := F40 x (growV 0 2 es), chains := [] ++ growC 2 (es ++ [v]) }) := growV_app (ch0 := []) (by omega) (by omega)
theorem sto40 (x : CB) (es : List AV) (v : AV) : storeA { boxes := F40 x (growV 0 2 es), chains := [] ++ growC 2 (es ++ [v]) } 1 (.box 2 8) (growV 0 2 (es ++ [v])) = some (st40 x (es ++ [v])) := by
  have g1 := growV_cell 0 2 (es ++ [v])
  have g2 := growV_cells 0 2 (es ++ [v])
  simp [storeA, g1, g2, st40, F40, setAt]
def head40a (r : AV) (day k : Int) : Env := mkE 57 .any [(8, I k), (7, .box 2 0), (6, .box 1 0), (3, .box 0 0), (2, I day), (1, r)]
def head40b (r : AV) (day k : Int) : Env := mkE 57 .any [(9, I k), (7, .box 2 0), (6, .box 1 0), (2, I day), (1, r)]
def keptM (l : List Int) (ms : List Mv) : List Mv := ms.filter fun m => !decide (m.bed ∈ l)
theorem loop40a (x : CB) (hx : x.Ok) (hl : x.ms.length < 1000) (but : List Int) (r : AV) (hr : IsRow 1 (ints but) r) (hbl : but.length < 2 ^ 47) (day : Int) : ∀ (l : List Mv) (k : Nat) (es : List Mv), k ≤ x.ms.length → x.ms.drop k = l → es.length ≤ k →
    ∃ L, run Cv 40 (.loop keep40_0 body40_0) (head40a r day k) (st40 x (es.map mvA)) = some (.ex 0, mkE 57 .any L, st40 x ((es ++ keptM but l).map mvA)) ∧ gt (mkE 57 .any L) 7 = .box 2 0 ∧ gt (mkE 57 .any L) 6 = .box 1 0 ∧ gt (mkE 57 .any L) 2 = I day ∧ gt (mkE 57 .any L) 1 = r
  | [], k, es, hk, h, he => by
    obtain rfl := drop_nil hk h
    have hlen := mlen hx
    have hld : ∀ es off, loadA (st40 x es) none (.box 0 off) = x.cells[off]? := fun _ _ => rfl
    have hx1 : x.cells[8]? = some x.mr := rfl
    rw [run_loop, keptM, List.filter_nil, List.append_nil]
    simp (maxSteps := 10000000) [-List.getD_eq_getElem?_getD, -loadA, body40_0, keep40_0, head40a, hld, hx1, hlen]
    exact ⟨_, rfl, by simp (maxSteps := 10000000) [-List.getD_eq_getElem?_getD, ], by simp (maxSteps := 10000000) [-List.getD_eq_getElem?_getD, ], by simp (maxSteps := 10000000) [-List.getD_eq_getElem?_getD, ], by simp (maxSteps := 10000000) [-List.getD_eq_getElem?_getD, ]⟩
  | t :: l, k, es, hk, h, he => by
    obtain ⟨hlt, ha, hd⟩ := head_drop h
    have hw := wrap_succ hlt hx.lm
    have hlt' : (k : Int) < (x.ms.length : Int) := by omega
    have hlen := mlen hx
    have hwc := where_call but r hr hbl t.bed
    have hrp := hr.pur
    have hru := hr.under
    have hneg : decide (idx t.bed but 0 < 0) = !decide (t.bed ∈ but) := by
      have := idx_nonneg t.bed but 0
      rw [← this]
      by_cases h0 : 0 ≤ idx t.bed but 0 <;> simp [h0] <;> omega
    have hld : ∀ es off, loadA (st40 x es) none (.box 0 off) = x.cells[off]? := fun _ _ => rfl
    have hx1 : x.cells[8]? = some x.mr := rfl
    have hix := m_ix hx hlt
    rw [ha] at hix
    have hlr : ∀ σ, loadA σ (some 2) (.rp (mvC t) 0) = some (mvA t) := fun _ => rfl
    have hlr0 : ∀ σ, loadA σ none (.rp (mvC t) 0) = some (I t.bed) := fun _ => rfl
    have hl5 : ∀ es, loadA (st40 x es) none (.box 2 8) = some (growV 0 2 es) := fun _ => rfl
    have hfe : ∀ z, fillE 2 true [(0, mvA t)] [z] = some [mvA t] := fun _ => rfl
    have hr1 : ∀ z : AV, List.replicate 1 z = [z] := fun _ => rfl
    have happ := app40 x (es.map mvA) (mvA t) (by simp; omega)
    have hst := sto40 x (es.map mvA) (mvA t)
    rw [show ([] : List (Nat × Nat)) ++ growC 2 (es.map mvA ++ [mvA t]) = growC 2 (es.map mvA ++ [mvA t]) from rfl] at happ hst
    cases hb : decide (t.bed ∈ but) with
    | true =>
      have hj : ¬ idx t.bed but 0 < 0 := by rw [hb] at hneg; simpa using hneg
      have hkept : keptM but (t :: l) = keptM but l := by rw [keptM, List.filter_cons, hb, if_neg (by decide)]; rfl
      have hc2 := cut40 x hx (es.map mvA) (es.map mvA) (.inl rfl)
      have step : run Cv 40 (.loop keep40_0 body40_0) (head40a r day k) (st40 x (es.map mvA)) = run Cv 40 (.loop keep40_0 body40_0) (head40a r day (k + 1)) (st40 x (es.map mvA)) := by
        rw [run_loop]
        generalize MC.loop keep40_0 body40_0 = L
        simp (maxSteps := 10000000) [-List.getD_eq_getElem?_getD, -loadA, -storeA, -cut, -ixsA, body40_0, keep40_0, head40a, hlen, hlt', hw, hwc, hrp, hj, hld, hx1, hix, hlr0]
        rw [hc2]
        intro nc
        simp (maxSteps := 10000000) [-List.getD_eq_getElem?_getD, hru]
      rw [step, hkept]
      exact loop40a x hx hl but r hr hbl day l (k + 1) es hlt hd (by omega)
    | false =>
      have hj : idx t.bed but 0 < 0 := by rw [hb] at hneg; simpa using hneg
      have hkept : keptM but (t :: l) = t :: keptM but l := by rw [keptM, List.filter_cons, hb, if_pos (by decide)]; rfl
      have hc2 := cut40 x hx (es.map mvA) (es.map mvA ++ [mvA t]) (.inr (by simp))
      have step : run Cv 40 (.loop keep40_0 body40_0) (head40a r day k) (st40 x (es.map mvA)) = run Cv 40 (.loop keep40_0 body40_0) (head40a r day (k + 1)) (st40 x (es.map mvA ++ [mvA t])) := by
        rw [run_loop]
        generalize MC.loop keep40_0 body40_0 = L
        simp (maxSteps := 10000000) [-List.getD_eq_getElem?_getD, -loadA, -storeA, -cut, -ixsA, body40_0, keep40_0, head40a, hlen, hlt', hw, hwc, hrp, hj, hld, hx1, hix, hlr, hlr0, hl5, hfe, hr1, happ, hst]
        rw [hc2]
        intro nc
        simp (maxSteps := 10000000) [-List.getD_eq_getElem?_getD, hru]
      rw [step, hkept]
      have := loop40a x hx hl but r hr hbl day l (k + 1) (es ++ [t]) hlt hd (by simp; omega)
      simpa [List.append_assoc] using this
theorem loop40b (x : CB) (hx : x.Ok) (but : List Int) (r : AV) (hr : IsRow 1 (ints but) r) (hbl : but.length < 1000) (day : Int) : ∀ (l : List Int) (k : Nat) (es : List Mv), k ≤ but.length → but.drop k = l → es.length ≤ 1000 + k →
    ∃ L, run Cv 40 (.loop keep40_1 body40_1) (head40b r day k) (st40 x (es.map mvA)) = some (.ex 2, mkE 57 .any L, st40 x ((es ++ l.map fun b => (⟨b, day⟩ : Mv)).map mvA)) ∧ gt (mkE 57 .any L) 7 = .box 2 0 ∧ gt (mkE 57 .any L) 6 = .box 1 0
  | [], k, es, hk, h, he => by
    obtain rfl := drop_nil hk h
    have hlen := row_len hr
    rw [run_loop, List.map_nil, List.append_nil]
    simp (maxSteps := 10000000) [-List.getD_eq_getElem?_getD, -loadA, body40_1, keep40_1, head40b, hlen]
    exact ⟨_, rfl, by simp (maxSteps := 10000000) [-List.getD_eq_getElem?_getD, ], by simp (maxSteps := 10000000) [-List.getD_eq_getElem?_getD, ]⟩
  | b :: l, k, es, hk, h, he => by
    obtain ⟨hlt, ha, hd⟩ := head_drop h
    have hw := wrap_succ hlt (show but.length < 2 ^ 47 by omega)
    have hlt' : (k : Int) < (but.length : Int) := by omega
    have hlen := row_len hr
    have hru := hr.under
    have hix : ixsA 1 r (I k) = some (.rp [I b] 0) := by
      obtain ⟨c, hc, rfl⟩ := row_sl hr (by intro e; rw [e] at hlt; simp at hlt)
      simp [ixsA, ints, hlt, ha, AV.cells]
    have hlr : ∀ σ, loadA σ none (.rp [I b] 0) = some (I b) := fun _ => rfl
    have hl5 : ∀ es, loadA (st40 x es) none (.box 2 8) = some (growV 0 2 es) := fun _ => rfl
    have hfe : ∀ z, fillE 2 true [(0, .agg [I b, I day])] [z] = some [.agg [I b, I day]] := fun _ => rfl
    have hr1 : ∀ z : AV, List.replicate 1 z = [z] := fun _ => rfl
    have happ := app40 x (es.map mvA) (.agg [I b, I day]) (by simp; omega)
    have hst := sto40 x (es.map mvA) (.agg [I b, I day])
    rw [show ([] : List (Nat × Nat)) ++ growC 2 (es.map mvA ++ [.agg [I b, I day]]) = growC 2 (es.map mvA ++ [.agg [I b, I day]]) from rfl] at happ hst
    have hc2 := cut40 x hx (es.map mvA) (es.map mvA ++ [.agg [I b, I day]]) (.inr (by simp))
    have step : run Cv 40 (.loop keep40_1 body40_1) (head40b r day k) (st40 x (es.map mvA)) = run Cv 40 (.loop keep40_1 body40_1) (head40b r day (k + 1)) (st40 x (es.map mvA ++ [.agg [I b, I day]])) := by
      rw [run_loop]
      generalize MC.loop keep40_1 body40_1 = L
      simp (maxSteps := 10000000) [-List.getD_eq_getElem?_getD, -loadA, -storeA, -cut, -ixsA, body40_1, keep40_1, head40b, hlen, hlt', hw, hix, hlr, hl5, hfe, hr1, happ, hst]
      rw [hc2]
      intro nc
      simp (maxSteps := 10000000) [-List.getD_eq_getElem?_getD, hru]
    rw [step]
    have := loop40b x hx but r hr hbl day l (k + 1) (es ++ [⟨b, day⟩]) hlt hd (by simp; omega)
    simpa [List.append_assoc, mvA, mvC] using this
theorem aside_call (x : CB) (hx : x.Ok) (hm : x.ms.length < 1000) (but : List Int) (r : AV) (hr : IsRow 1 (ints but) r) (hbl : but.length < 1000) (day : Int) : call Cv 40 [x.av, r, I day] = some (x.aside but day).av := by
  have hcl := x_cell x hx
  have hav : x.av.cells = x.cells := rfl
  have hxl : x.cells.length = 11 := rfl
  have hbox := x_box x hx
  obtain ⟨L, l0, g7, g6, g2, g1⟩ := loop40a x hx hm but r hr (by omega) day x.ms 0 [] (Nat.zero_le _) rfl (Nat.le_refl _)
  have hkl : (keptM but x.ms).length ≤ 1000 := by
    have : (keptM but x.ms).length ≤ x.ms.length := List.length_filter_le _ _
    omega
  obtain ⟨M, l1, h7, h6⟩ := loop40b x hx but r hr hbl day but 0 (keptM but x.ms) (Nat.zero_le _) rfl (by omega)
  have l0' := fun E (hE : mask keep40_0 E = _) => run_at l0 hE
  have l1' := fun E (hE : mask keep40_1 E = _) => run_at l1 hE
  have e5 : ((0 : Nat) : Int) = 0 := rfl
  simp only [keep40_0, head40a, e5, List.nil_append, List.map_nil] at l0'
  simp only [keep40_1, head40b, e5] at l1'
  have hz := z11 x
  have hs0 : setAt x.cells 10 [.nils] = [I x.beds, I x.days, I x.begins, I x.until_, I x.oL, I x.oH, I x.gL, I x.gH, x.mr, I x.rooms, .nils] := rfl
  have hs1 : setAt [I x.beds, I x.days, I x.begins, I x.until_, I x.oL, I x.oH, I x.gL, I x.gH, x.mr, I x.rooms, .nils] 8 [.nils] = [I x.beds, I x.days, I x.begins, I x.until_, I x.oL, I x.oH, I x.gL, I x.gH, .nils, I x.rooms, .nils] := rfl
  have hst0 : st40 x [] = { boxes := [x.cells, [I 0, I 0, I 0, I 0, I 0, I 0, I 0, I 0, .nils, I 0, .nils], [I x.beds, I x.days, I x.begins, I x.until_, I x.oL, I x.oH, I x.gL, I x.gH, .nils, I x.rooms, .nils]] } := rfl
  rw [hst0] at l0'
  have hasd : keptM but x.ms ++ but.map (fun b => (⟨b, day⟩ : Mv)) = asideL x.ms but day := rfl
  rw [hasd] at l1'
  have hm' : (x.aside but day).av = .agg [I x.beds, I x.days, I x.begins, I x.until_, I x.oL, I x.oH, I x.gL, I x.gH, growP 2 ((asideL x.ms but day).map mvA), I x.rooms, .nils] := rfl
  rw [hm']
  have gc := growV_cell 0 2 ((asideL x.ms but day).map mvA)
  have gp := growV_puri 0 2 ((asideL x.ms but day).map mvA)
  generalize (asideL x.ms but day).map mvA = E1 at *
  have hstd : st40 x E1 = { boxes := [x.cells, [I 0, I 0, I 0, I 0, I 0, I 0, I 0, I 0, .nils, I 0, .nils], [I x.beds, I x.days, I x.begins, I x.until_, I x.oL, I x.oH, I x.gL, I x.gH, growV 0 2 E1, I x.rooms, .nils]], chains := growC 2 E1 } := rfl
  rw [hstd] at l1'
  have hp11 : ∀ a b c d e f g h i j k : AV, partA (some 11) [a, b, c, d, e, f, g, h, i, j, k] 0 = some (.agg [a, b, c, d, e, f, g, h, i, j, k]) := fun _ _ _ _ _ _ _ _ _ _ _ => rfl
  have hs11 : ∀ a b c d e f g h i j k : AV, setAt [I 0, I 0, I 0, I 0, I 0, I 0, I 0, I 0, .nils, I 0, .nils] 0 [a, b, c, d, e, f, g, h, i, j, k] = [a, b, c, d, e, f, g, h, i, j, k] := fun _ _ _ _ _ _ _ _ _ _ _ => rfl
  have hpx := part_x x
  rw [call_run comp40 (Nat.le_of_ble_eq_true rfl)]
  simp (maxSteps := 10000000) [-List.getD_eq_getElem?_getD, -boxA, -partA, -setAt, -List.all_eq_true, code40, hbox, hav, hcl, hxl, hz, hs0, hs1, keep40_0, l0', g7, g6, g2, g1, keep40_1, l1', h7, h6, hp11, hs11, hpx, gc, gp]
end Go.Ai

set_option maxRecDepth 100000
namespace Go.Ai
open Go.Cold (Mv Hd Bk Tr asideL awayL)
theorem movesB_iff (x : CB) : ∀ (l pre : List Mv), x.ms = pre ++ l → (movesB x l pre.length = true ↔ (∀ m ∈ l, spotB x m.bed m.day = true ∧ 0 < m.day) ∧ (∀ m ∈ l, ∀ y ∈ pre, y.bed ≠ m.bed) ∧ l.Pairwise fun a b => a.bed ≠ b.bed)
  | [], pre, h => by simp [movesB]
  | m :: l, pre, h => by
    have ih := movesB_iff x l (pre ++ [m]) (by rw [h]; simp)
    rw [List.length_append, List.length_singleton] at ih
    have ht : x.ms.take pre.length = pre := by rw [h]; exact List.take_left' rfl
    rw [movesB, Bool.and_eq_true, ih, moveB, ht]
    simp only [Bool.and_eq_true, decide_eq_true_eq, Bool.not_eq_true', List.any_eq_false, List.mem_cons, forall_eq_or_imp, List.mem_append, List.mem_singleton, List.pairwise_cons, List.not_mem_nil, or_false]
    constructor
    · rintro ⟨⟨h1, h2, h3⟩, h4, h5, h6⟩
      exact ⟨⟨⟨h1, h2⟩, h4⟩, ⟨h3, fun a ha y hy => h5 a ha y (.inl hy)⟩, fun a ha => h5 a ha m (.inr rfl), h6⟩
    · rintro ⟨⟨⟨h1, h2⟩, h4⟩, ⟨h3, h5⟩, h7, h6⟩
      refine ⟨⟨h1, h2, h3⟩, h4, fun a ha y hy => ?_, h6⟩
      rcases hy with hy | rfl
      · exact h5 a ha y hy
      · exact h7 a ha
theorem check_pair {x : CB} (hk : checkB x = true) : x.ms.Pairwise fun a b => a.bed ≠ b.bed := by
  simp only [checkB, Bool.and_eq_true] at hk
  exact ((movesB_iff x x.ms [] rfl).1 hk.1.2).2.2
theorem check_mk {x : CB} (f : x.Fine) (y : CB) (e1 : y.beds = x.beds) (e2 : y.days = x.days) (e3 : y.oL = x.oL ∧ y.oH = x.oH ∧ y.gL = x.gL ∧ y.gH = x.gH ∧ y.rooms = x.rooms) (hu : 0 ≤ y.until_ ∧ y.until_ ≤ x.days - 1) (hb : 1 ≤ y.begins ∧ y.begins < 2 ^ x.beds.toNat) (hm : y.ms.length ≤ 3) (hh : y.hs.length ≤ 4)
    (hms : ∀ m ∈ y.ms, 0 ≤ m.bed ∧ m.bed < x.beds ∧ 1 ≤ m.day ∧ m.day ≤ x.days - 1) (hpw : y.ms.Pairwise fun a b => a.bed ≠ b.bed) (hhs : ∀ h ∈ y.hs, 0 ≤ h.bed ∧ h.bed < x.beds ∧ 0 ≤ h.day ∧ h.day ≤ x.days - 1) : checkB y = true := by
  obtain ⟨e3, e4, e5, e6, e7⟩ := e3
  have b1 := f.b1; have b5 := f.b5; have d1 := f.d1; have d6 := f.d6; have o1 := f.o1; have o2 := f.o2; have o3 := f.o3; have o4 := f.o4; have g1 := f.g1; have g2 := f.g2; have g3 := f.g3; have g4 := f.g4; have r0 := f.r0; have r3 := f.r3
  have hp := pow_small (n := x.beds.toNat) (by omega)
  have w1 : IntKind.wrap .i64 (x.days - 1) = x.days - 1 := wrap_small (by omega) (by omega)
  have w2 : IntKind.wrap .i64 (x.beds - 1) = x.beds - 1 := wrap_small (by omega) (by omega)
  have w3 : IntKind.wrap .i64 (2 ^ x.beds.toNat - 1) = 2 ^ x.beds.toNat - 1 := wrap_small (by omega) (by omega)
  have w4 : IntKind.wrap .i64 (x.oH - x.oL) = x.oH - x.oL := wrap_small (by omega) (by omega)
  have w5 : IntKind.wrap .i64 (x.gH - x.gL) = x.gH - x.gL := wrap_small (by omega) (by omega)
  have hspot : ∀ a b, 0 ≤ a → a < x.beds → 0 ≤ b → b ≤ x.days - 1 → spotB y a b = true := fun a b h1 h2 h3 h4 => by
    simp only [spotB, lie, e1, e2, w1, w2, Bool.and_eq_true, decide_eq_true_eq]
    omega
  simp only [checkB, Bool.and_eq_true]
  refine ⟨⟨⟨?_, ?_⟩, ?_⟩, ?_⟩
  · simp only [okOne, lie, spanB, e1, e2, e3, e4, e5, e6, e7, w1, w4, w5, Bool.and_eq_true, decide_eq_true_eq]
    omega
  · simp only [lie, e1, w3, Bool.and_eq_true, decide_eq_true_eq]
    omega
  · refine (movesB_iff y y.ms [] rfl).2 ⟨fun m hm => ?_, (fun m hm z hz => nomatch hz), hpw⟩
    have := hms m hm
    exact ⟨hspot _ _ this.1 this.2.1 (by omega) this.2.2.2, by omega⟩
  · refine List.all_eq_true.2 fun h hh => ?_
    have := hhs h hh
    exact hspot _ _ this.1 this.2.1 this.2.2.1 this.2.2.2
def CB.bare (x : CB) : CB := { x with until_ := 0, hs := [], hr := .nils }
theorem bare_ok {x : CB} (hx : x.Ok) : x.bare.Ok := { mrow := hx.mrow, hrow := .inl ⟨rfl, rfl⟩, lm := hx.lm, lh := by show ([] : List Hd).length < _; decide }
theorem bare_check {x : CB} (hk : checkB x = true) : checkB x.bare = true := by
  have f := check_fine hk
  have d1 := f.d1
  exact check_mk f x.bare rfl rfl ⟨rfl, rfl, rfl, rfl, rfl⟩ ⟨Int.le_refl _, by show (0 : Int) ≤ _; omega⟩ ⟨f.n1, f.n2⟩ f.lm (by show ([] : List Hd).length ≤ 4; decide) f.ms (check_pair (x := x) hk) fun h hh => by cases hh
theorem aside_bed {ms : List Mv} {bed day : Int} : ∀ m ∈ asideL ms [bed] day, (m ∈ ms ∧ m.bed ≠ bed) ∨ m = ⟨bed, day⟩ := fun m hm => by
  rw [asideL, List.mem_append, List.mem_filter] at hm
  rcases hm with ⟨h1, h2⟩ | h
  · exact .inl ⟨h1, by simpa using h2⟩
  · exact .inr (by simpa using h)
theorem aside_pair {ms : List Mv} {bed day : Int} (h : ms.Pairwise fun a b => a.bed ≠ b.bed) : (asideL ms [bed] day).Pairwise fun a b => a.bed ≠ b.bed := by
  rw [asideL, List.pairwise_append]
  refine ⟨h.filter _, by simp, fun a ha b hb => ?_⟩
  have h2 := (List.mem_filter.1 ha).2
  rw [List.map_singleton, List.mem_singleton] at hb
  subst hb
  simpa using h2
theorem soon_check {x : CB} (hk : checkB x = true) {bed : Nat} (hb : (bed : Int) < x.beds) {day : Int} (h1 : 1 ≤ day) (h2 : day < x.days) (hl : (asideL x.ms [(bed : Int)] day).length ≤ 3) : checkB (x.bare.aside [(bed : Int)] day) = true := by
  have f := check_fine hk
  have d1 := f.d1
  refine check_mk f _ rfl rfl ⟨rfl, rfl, rfl, rfl, rfl⟩ ⟨Int.le_refl _, by show (0 : Int) ≤ _; omega⟩ ⟨f.n1, f.n2⟩ hl (by show ([] : List Hd).length ≤ 4; decide) (fun m hm => ?_) (aside_pair (check_pair (x := x) hk)) fun h hh => by cases hh
  rcases aside_bed m hm with ⟨h3, _⟩ | rfl
  · exact f.ms m h3
  · exact ⟨Int.natCast_nonneg _, hb, h1, by show day ≤ x.days - 1; omega⟩
end Go.Ai
