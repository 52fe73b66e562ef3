/- This text shows what is written is a truth; the walk through it. No conditions of its own. -/
import Derived.Test.YtogfbfpinhcajaaDoorTrueA
import Derived.Test.YtogfbfpinhcajaaDoorLawsU
import Derived.Test.YtogfbfpinhcajaaDoorLawsD
import Derived.Test.YtogfbfpinhcajaaDoorCodesL
set_option linter.unusedSimpArgs false
set_option linter.unusedVariables false
set_option maxRecDepth 100000
set_option linter.unusedSimpArgs false
set_option linter.unusedVariables false
/-! What is written is a truth of the book whose copies are right. -/
namespace Go.Ai
open Go.Part (Sp Cp Bk truths cnt at' vals okAll rightK Piece tr seg)
theorem right_of (out : Nat → Bool) (v i : Nat) (n : Int) : ∀ (cs : List Cp) (k : Nat), (∀ c ∈ cs, c.voice = (v : Int) → c.notes.getD i 0 = n) → rightK out v i n cs k = true
  | [], _, _ => rfl
  | c :: cs, k, h => by
    rw [rightK, right_of out v i n cs (k + 1) fun d hd => h d (.tail _ hd), Bool.and_true]
    by_cases hv : c.voice = (v : Int)
    · simp only [decide_eq_true (h c (.head _) hv), Bool.or_true]
    · simp only [decide_eq_false hv, Bool.not_false, Bool.true_or]
theorem rightly_ok {x : PB} (hx : x.Ok) (h : Chk x) (l : List Int) : (x.rightly l).Ok := having_ok hx _ (by rw [List.length_map]; have := h.nc; omega) fun c hc => by
  obtain ⟨d, hd, rfl⟩ := List.mem_map.1 hc
  refine ⟨.inr (.inr ⟨.no, rfl, rfl⟩), ?_⟩
  have := h.N
  show (lineW _ _ l _).length < 2 ^ 47
  simp [lineW]; omega
/-- A piece that could have been written. -/
structure Written (x : PB) (l : List Int) : Prop where
  len : l.length = x.N.toNat * x.spans.length
  ok : okAll (okW x) [] l = true
theorem Written.at {x : PB} {l : List Int} (h : Written x l) {j : Nat} (hj : j < l.length) : okW x (l.take j) (at' l j) = true := by
  have := (Part.okAll_iff (okW x) l []).1 h.ok j l[j] (List.getElem?_eq_getElem hj)
  rw [List.nil_append] at this
  rw [show at' l j = l[j] from by simp [at', hj]]
  exact this
theorem place_lt {V N v i : Nat} (hv : v < V) (hi : i < N) : i * V + v < N * V := by
  calc i * V + v < i * V + V := by omega
    _ = (i + 1) * V := by rw [Nat.add_mul, Nat.one_mul]
    _ ≤ N * V := Nat.mul_le_mul_right _ hi
theorem Written.span {x : PB} {l : List Int} (h : Written x l) {v i : Nat} {s : Sp} (hs : x.spans[v]? = some s) (hi : i < x.N.toNat) : s.low ≤ at' l (i * x.spans.length + v) ∧ at' l (i * x.spans.length + v) ≤ s.high := by
  have hv := (List.getElem?_eq_some_iff.1 hs).1
  have hlt : i * x.spans.length + v < l.length := by rw [h.len]; exact place_lt hv hi
  have := h.at hlt
  rw [okW, Bool.and_eq_true, decide_eq_true_eq] at this
  have hl : (l.take (i * x.spans.length + v)).length = i * x.spans.length + v := by rw [List.length_take]; omega
  have hsp : spanAt x (l.take (i * x.spans.length + v)).length = s := by
    rw [hl, spanAt, Nat.add_comm, Nat.add_mul_mod_self_right, Nat.mod_eq_of_lt hv, List.getD_eq_getElem?_getD, hs]; rfl
  rw [hsp] at this
  exact this.1
theorem Written.fits {x : PB} {l : List Int} (h : Written x l) : okAll (Part.fitsP (bkOf x)) [] l = true := by
  rw [Part.okAll_iff]
  intro j n hj
  have := (Part.okAll_iff (okW x) l []).1 h.ok j n hj
  rw [okW, Bool.and_eq_true] at this
  exact this.2
theorem Written.note {x : PB} (hk : Chk x) {l : List Int} (h : Written x l) {v i : Nat} (hv : v < x.spans.length) (hi : i < x.N.toNat) : 0 ≤ at' l (i * x.spans.length + v) ∧ at' l (i * x.spans.length + v) ≤ 12 := by
  have h1 := h.span (List.getElem?_eq_getElem hv) hi
  have h2 := hk.spans _ (List.getElem_mem hv)
  omega
theorem lineW_get {V N v i : Nat} (l : List Int) (hi : i < N) : (lineW V N l v).getD i 0 = at' l (i * V + v) := by
  simp [lineW, hi]
theorem rightly_check {x : PB} (hc : checkOk x = true) {l : List Int} (h : Written x l) : checkOk (x.rightly l) = true := by
  have hk := chk_of hc
  have hN := hk.N
  refine having_check hc _ (fun c hcm => ?_) (by rw [List.length_map]; exact hk.nc)
  obtain ⟨d, hd, rfl⟩ := List.mem_map.1 hcm
  have hco := hk.copies d hd
  obtain ⟨v, hv⟩ := Int.eq_ofNat_of_zero_le hco.1
  have hvl : v < x.spans.length := by omega
  have hl : (lineW x.spans.length x.N.toNat l d.cp.voice.toNat).length = x.N.toNat := by simp [lineW]
  have e : (copyW x l d).cp = ⟨d.cp.voice, lineW x.spans.length x.N.toNat l d.cp.voice.toNat⟩ := rfl
  rw [copyOk, e]
  have h1 : lie d.cp.voice 0 ((x.spans.length : Int) - 1) = true := by simp [lie]; omega
  have h2 : (((lineW x.spans.length x.N.toNat l d.cp.voice.toNat).length : Int) == x.N) = true := by rw [hl]; simp; omega
  have h3 : (lineW x.spans.length x.N.toNat l d.cp.voice.toNat).any bad12 = false := by
    rw [List.any_eq_false]
    intro n hn
    obtain ⟨i, hi, rfl⟩ := List.mem_map.1 hn
    rw [List.mem_range'_1] at hi
    rw [hv]
    have := h.note hk (v := v) (i := i) hvl (by omega)
    rw [show ((v : Int)).toNat = v from rfl]
    simp only [bad12, lie, Bool.not_eq_true, Bool.not_eq_false', Bool.and_eq_true, decide_eq_true_eq]
    exact this
  simp only [h1, h2, h3, Bool.not_false, Bool.and_self]
theorem rightly_piece {x : PB} (hc : checkOk x = true) {l : List Int} (h : Written x l) : tr x.spans.length x.N.toNat l ∈ Ts (x.rightly l) noneF := by
  have hk := chk_of hc
  have hN := hk.N
  have hV := hk.V
  refine (Part.truths_mem (b := bkOf (x.rightly l)) (by show 0 < x.N.toNat; omega) _).2 ?_
  refine Part.written_truth (b := bkOf (x.rightly l)) (by show 0 < x.spans.length; omega) h.len (fun v i s hs hi => h.span hs hi) h.fits fun v i hv hi => ?_
  refine right_of _ _ _ _ _ _ fun c hcm hcv => ?_
  obtain ⟨c', hc', rfl⟩ := List.mem_map.1 hcm
  obtain ⟨d, hd, rfl⟩ := List.mem_map.1 hc'
  have hcv' : d.cp.voice = (v : Int) := hcv
  show (lineW x.spans.length x.N.toNat l d.cp.voice.toNat).getD i 0 = _
  rw [hcv']
  exact lineW_get l hi
/-- If nothing can be written no book of it can be true. -/
theorem none_true {x : PB} (hc : checkOk x = true) (hno : ∀ rest : List Int, rest.length = x.N.toNat * x.spans.length → okAll (okW x) [] rest = false) (out : Nat → Bool) : Ts x out = [] := by
  have hk := chk_of hc
  have hV := hk.V
  have hN := hk.N
  apply Classical.byContradiction
  intro hne
  obtain ⟨q, hq⟩ := List.exists_mem_of_ne_nil _ hne
  obtain ⟨l, h1, h2, h3⟩ := Part.truth_written (b := bkOf x) (by show 0 < x.spans.length; omega) (Ts_mem hk hq)
  have h1' : l.length = x.N.toNat * x.spans.length := h1
  have := hno l h1'
  rw [← Bool.not_eq_true] at this
  refine this ((Part.okAll_iff _ _ _).2 fun j n hj => ?_)
  have hlt : j < l.length := (List.getElem?_eq_some_iff.1 hj).1
  have hf := (Part.okAll_iff _ _ _).1 h3 j n hj
  rw [okW, hf, Bool.and_true, decide_eq_true_eq, List.nil_append]
  have hl : (l.take j).length = j := by rw [List.length_take]; omega
  rw [hl]
  have hV0 : 0 < x.spans.length := by omega
  have hi : j / x.spans.length < x.N.toNat := by rw [Nat.div_lt_iff_lt_mul hV0, ← h1']; exact hlt
  have hjj : j / x.spans.length * x.spans.length + j % x.spans.length = j := by rw [Nat.mul_comm]; exact Nat.div_add_mod j _
  have := h2 (j % x.spans.length) (j / x.spans.length) _ (span_in hk j).2 hi
  rw [show (bkOf x).spans = x.spans from rfl, hjj, show at' l j = n from by simp [at', hj]] at this
  exact this
end Go.Ai

set_option maxRecDepth 100000
set_option linter.unusedSimpArgs false
set_option linter.unusedVariables false
/-! The law of the lost part, in the interpreter. -/
namespace Go.Ai
open Go.Part (Sp Cp Bk truths cnt at' vals okAll rightK Piece tr seg worst)
/-- A book whose copies are right, of what was written. -/
structure Rt (x y : PB) (l : List Int) : Prop where
  hx : x.Ok
  hc : checkOk x = true
  hy : y.Ok
  hcy : checkOk y = true
  N : y.N = x.N
  spans : y.spans = x.spans
  wr : Written x l
  mem : tr x.spans.length x.N.toNat l ∈ Ts y noneF
theorem Rt.ne {x y : PB} {l : List Int} (h : Rt x y l) : Ts y noneF ≠ [] := List.ne_nil_of_mem h.mem
theorem Rt.pos {x y : PB} {l : List Int} (h : Rt x y l) {v i : Nat} (hv : v < x.spans.length) (hi : i < x.N.toNat) : 0 < cnt (Ts y noneF) (v * x.N.toNat + i) (at' l (i * x.spans.length + v)) :=
  Part.cnt_pos.2 ⟨_, h.mem, Part.tr_at l hv hi⟩
theorem tr_seg {V N v : Nat} (l : List Int) (hv : v < V) : seg N (tr V N l) v = lineW V N l v := by
  rw [← line_seg (V := V) (Part.tr_len V N l) hv, lineW]
  refine List.map_congr_left fun i hi => ?_
  rw [List.mem_range'_1] at hi
  exact Part.tr_at l hv (by omega)
theorem lineW_at {V N v i : Nat} (l : List Int) (hi : i < N) : ixsA 1 (rowR (lineW V N l v)) (I i) = some (.rp [I (at' l (i * V + v))] 0) := by
  simp [rowR, ixsA, ints, lineW, hi, AV.cells]
theorem rowF_nilT : rowF [] = .nils := rfl
def st6 (x y : PB) : St := { boxes := [x.cells, y.cells] }
def head6_0 (l : List Int) (R : AV) (n h : Int) (v : Nat) (i : Int) : Env := mkE 205 .any [(22, I i), (21, I h), (19, R), (18, I v), (11, I n), (10, .box 1 0), (5, someV l), (2, .box 0 0)]
theorem loop6_0 (x y : PB) (l : List Int) (H : Rt x y l) (n e : Int) (v : Nat) (hv : v < x.spans.length) (he : e = 0 → ∀ i, i < x.N.toNat → (posOf (Ts y noneF) (v * x.N.toNat + i)).length = 1) : ∀ (m i : Nat), i + m = x.N.toNat →
    ∃ L, run Cv 6 (.loop keep6_0 body6_0) (head6_0 l (rowR (lineW x.spans.length x.N.toNat l v)) n e v i) (st6 x y) = some (.ex 2, mkE 205 .any L, st6 x y) ∧ gt (mkE 205 .any L) 2 = .box 0 0 ∧ gt (mkE 205 .any L) 5 = someV l ∧ gt (mkE 205 .any L) 10 = .box 1 0 ∧ gt (mkE 205 .any L) 11 = I n ∧ gt (mkE 205 .any L) 18 = I v
  | 0, i, hi => by
    have hN := (chk_of H.hc).N
    have h1 : ¬ (i : Int) < x.N := by omega
    rw [run_loop]
    simp (maxSteps := 10000000) [-List.getD_eq_getElem?_getD, body6_0, keep6_0, head6_0, st6, PB.cells, h1]
    exact ⟨_, rfl, by simp (maxSteps := 10000000) [-List.getD_eq_getElem?_getD, ], by simp (maxSteps := 10000000) [-List.getD_eq_getElem?_getD, ], by simp (maxSteps := 10000000) [-List.getD_eq_getElem?_getD, ], by simp (maxSteps := 10000000) [-List.getD_eq_getElem?_getD, ], by simp (maxSteps := 10000000) [-List.getD_eq_getElem?_getD, ]⟩
  | m + 1, i, hi => by
    have hN := (chk_of H.hc).N
    have hV := (chk_of H.hc).V
    have hiN : i < x.N.toNat := by omega
    have h1 : (i : Int) < x.N := by omega
    have hw : IntKind.wrap .i64 ((i : Int) + 1) = i + 1 := wrap_small (by omega) (by omega)
    have hno := notes_ok H.hy H.hcy H.ne (v := v) (i := i) (by rw [H.spans]; exact hv) (by rw [H.N]; exact hiN)
    rw [H.N] at hno
    have hmem : at' l (i * x.spans.length + v) ∈ posOf (Ts y noneF) (v * x.N.toNat + i) := by
      rw [posOf_mem]
      have := H.wr.note (chk_of H.hc) hv hiN
      exact ⟨this.1, this.2, H.pos hv hiN⟩
    have he' := fun h => he h i hiN
    have hix := lineW_at (V := x.spans.length) (v := v) l hiN
    have hpl := posOf_len (Ts y noneF) (v * x.N.toNat + i)
    have hord := ord_call (posOf (Ts y noneF) (v * x.N.toNat + i)) _ (rowF_row _) (by omega) 13 (by omega) (by omega)
    rw [show ordF 13 (-1) (posOf (Ts y noneF) (v * x.N.toNat + i)) = true from inc_ord 13 _ 0 (-1) (by omega) (by omega) (posOf_inc _ _)] at hord
    have hwh := where_call (posOf (Ts y noneF) (v * x.N.toNat + i)) _ (rowF_row _) (by omega) (at' l (i * x.spans.length + v))
    have hnn : ¬ idx (at' l (i * x.spans.length + v)) (posOf (Ts y noneF) (v * x.N.toNat + i)) 0 < 0 := by
      have := idx_nonneg (at' l (i * x.spans.length + v)) (posOf (Ts y noneF) (v * x.N.toNat + i)) 0
      rw [decide_eq_true hmem, decide_eq_true_eq] at this
      omega
    have hlen := row_len (rowF_row (posOf (Ts y noneF) (v * x.N.toNat + i)))
    have hp := fun σ n => rowF_pur σ n (posOf (Ts y noneF) (v * x.N.toNat + i))
    have hsu := fun a b c d n => someV_under a b c d n l
    have hru : ∀ F a b c d n, under a b c d (n + 1) (rowR F) = true := fun _ _ _ _ _ _ => rfl
    have hvu := H.hx.vrow.under
    have hcu := H.hx.crow.under
    have hvu2 := H.hy.vrow.under
    have hcu2 := H.hy.crow.under
    have hvp2 := H.hy.vrow.pur
    have hcp2 := H.hy.crow.pur
    have key : run Cv 6 (.loop keep6_0 body6_0) (head6_0 l (rowR (lineW x.spans.length x.N.toNat l v)) n e v i) (st6 x y) = run Cv 6 (.loop keep6_0 body6_0) (head6_0 l (rowR (lineW x.spans.length x.N.toNat l v)) n e v (i + 1)) (st6 x y) := by
      simp only [PB.av, PB.cells] at hno
      generalize idx (at' l (i * x.spans.length + v)) (posOf (Ts y noneF) (v * x.N.toNat + i)) 0 = ix at *
      generalize at' l (i * x.spans.length + v) = a at *
      generalize posOf (Ts y noneF) (v * x.N.toNat + i) = P at *
      generalize rowF P = RP at *
      generalize lineW x.spans.length x.N.toNat l v = F at *
      rw [run_loop]
      generalize MC.loop keep6_0 body6_0 = L
      by_cases h0 : e = 0
      · have hl1 := he' h0
        have e1 : (e == 0) = true := by simpa using h0
        rw [hl1] at hlen
        simp (maxSteps := 10000000) [-List.getD_eq_getElem?_getD, -ixsA, -List.all_eq_true, body6_0, keep6_0, head6_0, st6, PB.cells, h1, hw, hno, hix, hord, hwh, hnn, hlen, hp, hsu, hru, hvu, hcu, hvu2, hcu2, hvp2, hcp2, e1]
      · have e1 : (e == 0) = false := by simpa using h0
        simp (maxSteps := 10000000) [-List.getD_eq_getElem?_getD, -ixsA, -List.all_eq_true, body6_0, keep6_0, head6_0, st6, PB.cells, h1, hw, hno, hix, hord, hwh, hnn, hlen, hp, hsu, hru, hvu, hcu, hvu2, hcu2, hvp2, hcp2, e1]
    rw [key]
    exact loop6_0 x y l H n e v hv he m (i + 1) (by omega)
def head6_1 (l : List Int) (n : Int) (v : Int) : Env := mkE 205 .any [(18, I v), (11, I n), (10, .box 1 0), (5, someV l), (2, .box 0 0)]
theorem loop6_1 (x y : PB) (l : List Int) (H : Rt x y l) : ∀ (m v : Nat), v + m = x.spans.length →
    ∃ L, run Cv 6 (.loop keep6_1 body6_1) (head6_1 l (Ts y noneF).length v) (st6 x y) = some (.ex 0, mkE 205 .any L, st6 x y) ∧ gt (mkE 205 .any L) 10 = .box 1 0
  | 0, v, hv => by
    have hvl := vlen H.hx
    have h1 : ¬ (v : Int) < (x.spans.length : Int) := by omega
    rw [run_loop]
    simp (maxSteps := 10000000) [-List.getD_eq_getElem?_getD, body6_1, keep6_1, head6_1, st6, PB.cells, hvl, h1]
    exact ⟨_, rfl, by simp (maxSteps := 10000000) [-List.getD_eq_getElem?_getD, ]⟩
  | m + 1, v, hv => by
    have hk := chk_of H.hc
    have hky := chk_of H.hcy
    have hN := hk.N
    have hV := hk.V
    have hvl := vlen H.hx
    have hvV : v < x.spans.length := by omega
    have h1 : (v : Int) < (x.spans.length : Int) := by omega
    have hw : IntKind.wrap .i64 ((v : Int) + 1) = v + 1 := wrap_small (by omega) (by omega)
    have hsing := sings_call x H.hx hk l H.wr.len v hvV
    have hlin := lineP_call y H.hy v
    have hTl : ∀ q ∈ Ts y noneF, q.length = x.spans.length * x.N.toNat := fun q hq => by
      have := Ts_len hky q hq
      rwa [H.N, H.spans] at this
    have hnote : ∀ i, i < x.N.toNat → ∀ p ∈ Ts y noneF, 0 ≤ at' p (v * x.N.toNat + i) ∧ at' p (v * x.N.toNat + i) ≤ 12 := fun i hi p hp => by
      have := Ts_note hky hp (v := v) (i := i) (by rw [H.spans]; exact hvV) (by rw [H.N]; exact hi)
      rwa [H.N] at this
    have hspec := lineOf_spec hTl hvV H.ne
    have he0 : ansE y (isVoice y v) = 0 := by
      have : isVoice y v = true := by simp [isVoice, lie, H.spans]; omega
      simp [ansE, H.hcy, H.ne, this]
    have hlR : lineR y v = match lineOf (Ts y noneF) x.N.toNat v with | some l => (l, 0) | none => ([], 4) := by
      unfold lineR; rw [if_pos he0, H.N]; rfl
    have hsu := fun a b c d n => someV_under a b c d n l
    have hsp := fun σ n => someV_pur σ n l
    have hru : ∀ F a b c d n, under a b c d (n + 1) (rowR F) = true := fun _ _ _ _ _ _ => rfl
    have hrp : ∀ F σ n, pur σ (n + 1) (rowR F) = some (rowR F, false) := fun _ _ _ => rfl
    have hvu := H.hx.vrow.under
    have hcu := H.hx.crow.under
    have hvp := H.hx.vrow.pur
    have hcp := H.hx.crow.pur
    have hvu2 := H.hy.vrow.under
    have hcu2 := H.hy.crow.under
    have hvp2 := H.hy.vrow.pur
    have hcp2 := H.hy.crow.pur
    have e5 : ((0 : Nat) : Int) = 0 := rfl
    have key : run Cv 6 (.loop keep6_1 body6_1) (head6_1 l (Ts y noneF).length v) (st6 x y) = run Cv 6 (.loop keep6_1 body6_1) (head6_1 l (Ts y noneF).length (v + 1)) (st6 x y) := by
      rcases hspec with ⟨q, hq, hlo, hall⟩ | ⟨hlo, p, hp, q, hq, hne⟩
      · have hsq : seg x.N.toNat q v = lineW x.spans.length x.N.toNat l v := by
          rw [← tr_seg l hvV]; exact (hall _ H.mem).symm
        rw [hlR, hlo, hsq] at hlin
        have heq := equal_call (lineW x.spans.length x.N.toNat l v) (lineW x.spans.length x.N.toNat l v) (rowF (lineW x.spans.length x.N.toNat l v)) (rowR (lineW x.spans.length x.N.toNat l v)) (rowF_row _) (.inr (.inr ⟨.no, rfl, rfl⟩)) (by simp [lineW]; omega) (by simp [lineW]; omega)
        simp only [decide_true] at heq
        have hone : (0 : Int) = 0 → ∀ i, i < x.N.toNat → (posOf (Ts y noneF) (v * x.N.toNat + i)).length = 1 := fun _ i hi => by
          rw [pos_one H.ne (hnote i hi), known_at H.ne (hnote i hi)]
          intro a ha b hb
          rw [← Part.seg_at hi, ← Part.seg_at hi, hall a ha, hall b hb]
        obtain ⟨L0, g0, g2, g5, g10, g11, g18⟩ := loop6_0 x y l H (Ts y noneF).length 0 v hvV hone x.N.toNat 0 (by omega)
        have hin := fun E (hE : mask keep6_0 E = _) => run_at g0 hE
        have hrf := fun σ n => rowF_pur σ n (lineW x.spans.length x.N.toNat l v)
        simp only [st6, head6_0, keep6_0, PB.cells, e5] at hin
        simp only [PB.av, PB.cells] at hsing hlin
        generalize ((Ts y noneF).length : Int) = n at *
        generalize lineW x.spans.length x.N.toNat l v = F at *
        rw [run_loop]
        generalize MC.loop keep6_1 body6_1 = L
        cases hn1 : (n == 1) <;>
          simp (maxSteps := 10000000) [-List.getD_eq_getElem?_getD, -ixsA, -List.all_eq_true, body6_1, keep6_1, head6_1, st6, PB.cells, hvl, h1, hw, hsing, hlin, heq, hrf, hsu, hsp, hru, hrp, hvu, hcu, hvp, hcp, hvu2, hcu2, hvp2, hcp2, hn1, keep6_0, hin, g2, g5, g10, g11, g18]
      · rw [hlR, hlo] at hlin
        have hn1 : (((Ts y noneF).length : Int) == 1) = false := by
          simp only [beq_eq_false_iff_ne, ne_eq]
          intro h
          obtain ⟨a, ha⟩ := List.length_eq_one_iff.1 (show (Ts y noneF).length = 1 by omega)
          rw [ha] at hp hq
          rw [List.mem_singleton.1 hp, List.mem_singleton.1 hq] at hne
          exact hne rfl
        obtain ⟨L0, g0, g2, g5, g10, g11, g18⟩ := loop6_0 x y l H (Ts y noneF).length 4 v hvV (fun h => by cases h) x.N.toNat 0 (by omega)
        have hin := fun E (hE : mask keep6_0 E = _) => run_at g0 hE
        simp only [st6, head6_0, keep6_0, PB.cells, e5] at hin
        simp only [PB.av, PB.cells, rowF_nilT] at hsing hlin
        generalize ((Ts y noneF).length : Int) = n at *
        generalize lineW x.spans.length x.N.toNat l v = F at *
        rw [run_loop]
        generalize MC.loop keep6_1 body6_1 = L
        simp (maxSteps := 10000000) [-List.getD_eq_getElem?_getD, -ixsA, -List.all_eq_true, body6_1, keep6_1, head6_1, st6, PB.cells, hvl, h1, hw, hsing, hlin, hsu, hsp, hru, hrp, hvu, hcu, hvp, hcp, hvu2, hcu2, hvp2, hcp2, hn1, keep6_0, hin, g2, g5, g10, g11, g18]
    rw [key]
    exact loop6_1 x y l H m (v + 1) (by omega)
end Go.Ai
