/- This text shows the law of what is easier, in the interpreter. No conditions of its own. -/
import Derived.Test.YtogfbfpinhcajaaDoorLawsB
set_option linter.unusedSimpArgs false
set_option linter.unusedVariables false
set_option maxRecDepth 100000
set_option linter.unusedSimpArgs false
set_option linter.unusedVariables false
/-! Easier: plain facts. -/
namespace Go.Ai
open Go.Part (Sp Cp Bk truths cnt at' rightK Piece Good)
theorem easier_piece {b b' : Bk} {out : Nat → Bool} {q : List Int} (hN : b'.N = b.N) (hs : b'.spans = b.spans) (hc : b'.copies = b.copies) (h1 : b.step ≤ b'.step) (h2 : ∀ n, Part.has b.chords n = true → Part.has b'.chords n = true) (h3 : ∀ n, Part.has b'.perfect n = true → Part.has b.perfect n = true) (h : Piece b out q) : Piece b' out q where
  len := by rw [hN, hs]; exact h.len
  span v i s hv hi := by rw [hN] at hi ⊢; rw [hs] at hv; exact h.span v i s hv hi
  good v i hv hi := by
    rw [hs] at hv
    rw [hN] at hi
    have g := h.good v i hv hi
    refine ⟨?_, fun h0 => ?_, fun h0 => ?_, fun h0 h0' => ?_⟩
    · rw [hN, hc]; exact g.right
    · rw [hN]; exact h2 _ (g.chord h0)
    · have := g.step h0
      rw [hN]
      simp only [Part.stepOk, Bool.and_eq_true, decide_eq_true_eq] at this ⊢
      omega
    · have := g.move h0 h0'
      rw [hN]
      simp only [Part.moveOk, Bool.or_eq_true, decide_eq_true_eq, Bool.not_eq_true', decide_eq_false_iff_not] at this ⊢
      rcases this with (h | h) | h
      · exact .inl (.inl h)
      · exact .inl (.inr h)
      · right
        cases hp : Part.has b'.perfect (at' q (v * b.N + i) - at' q ((v - 1) * b.N + i)) with
        | false => rfl
        | true => rw [h3 _ hp] at h; exact h
/-- One book's truths are another one's, too. -/
structure Sub (x x' : PB) : Prop where
  N : x'.N = x.N
  V : x'.spans.length = x.spans.length
  len : x'.copies.length = x.copies.length
  sub : ∀ out q, q ∈ Ts x out → q ∈ Ts x' out
theorem sub_ways {x x' : PB} (h : Sub x x') (out : Nat → Bool) : (Ts x out).length ≤ (Ts x' out).length := Part.nodup_sub (Part.truths_nodup _ _) (h.sub out)
theorem sub_ok {x x' : PB} (h : Sub x x') (l : List Int) (hl : okL x l = true) : okL x' l = true := by
  simp only [okL, decide_eq_true_eq] at hl ⊢
  intro hn
  have := sub_ways h (butF l)
  rw [hn] at this
  exact hl (List.length_eq_zero_iff.1 (by simpa using this))
theorem sub_wrong {x x' : PB} (h : Sub x x') (hc : checkOk x = true) (hc' : checkOk x' = true) {w : List Int} (hw : wrongO x = some w) : ∃ u, wrongO x' = some u ∧ u.length ≤ w.length := by
  have tw := wrong_told hc hw
  have hnc := (chk_of hc).nc
  cases hu : wrongO x' with
  | none =>
    have hn := wrong_not hc' hu
    obtain ⟨s, _, hs⟩ := Least.inc_bits _ (by omega) w tw.inc
    have := hn s
    rw [h.len, hs, sub_ok h w tw.fine] at this
    cases this
  | some u =>
    have tu := wrong_told hc' hu
    rw [h.len] at tu
    exact ⟨u, rfl, Part.told_len (by omega) (sub_ok h) tw tu⟩
theorem sub_notes {x x' : PB} (h : Sub x x') (j : Nat) : ∀ n, n ∈ posOf (Ts x noneF) j → n ∈ posOf (Ts x' noneF) j := by
  intro n hn
  rw [posOf_mem] at hn ⊢
  refine ⟨hn.1, hn.2.1, ?_⟩
  have := Part.cnt_le_of (Part.truths_nodup _ _) (h.sub noneF) j n
  exact Nat.lt_of_lt_of_le hn.2.2 this
theorem sub_of {x x' : PB} (h : Chk x) (hN : x'.N = x.N) (hs : x'.spans = x.spans) (hc : x'.copies = x.copies) (h1 : x.step ≤ x'.step) (h2 : ∀ n, Part.has x.chords n = true → Part.has x'.chords n = true) (h3 : ∀ n, Part.has x'.perfect n = true → Part.has x.perfect n = true) : Sub x x' where
  N := hN
  V := by rw [hs]
  len := by rw [hc]
  sub out q hq := by
    have hn := h.N
    refine (Part.truths_mem (by show 0 < x'.N.toNat; rw [hN]; omega) q).2 ?_
    exact easier_piece (b := bkOf x) (b' := bkOf x') (by show x'.N.toNat = x.N.toNat; rw [hN]) hs (by show x'.copies.map _ = x.copies.map _; rw [hc]) h1 h2 h3 (Ts_mem h hq)
theorem or_all : ∀ c : Fin 256, ∀ k : Fin 8, IntKind.wrap .i64 ((BitVec.ofInt 64 (c.val : Int) ||| BitVec.ofInt 64 ((2 ^ k.val : Nat) : Int)).toNat : Int) = ((c.val ||| 2 ^ k.val : Nat) : Int) ∧ (c.val ||| 2 ^ k.val) < 256 := by decide +kernel
def dropBit (c k : Nat) : Nat := if c.testBit k then c - 2 ^ k else c
theorem not_all : ∀ c : Fin 256, ∀ k : Fin 8, IntKind.wrap .i64 ((BitVec.ofInt 64 (c.val : Int) &&& ~~~BitVec.ofInt 64 ((2 ^ k.val : Nat) : Int)).toNat : Int) = ((dropBit c.val k.val : Nat) : Int) ∧ dropBit c.val k.val < 256 ∧ ∀ j : Fin 62, (dropBit c.val k.val).testBit j.val = true → c.val.testBit j.val = true := by decide +kernel
theorem has_or (c k : Nat) (n : Int) (h : Part.has (c : Int) n = true) : Part.has ((c ||| 2 ^ k : Nat) : Int) n = true := by
  simp only [Part.has, Bool.and_eq_true, decide_eq_true_eq, Int.toNat_natCast] at h ⊢
  refine ⟨h.1, ?_⟩
  rw [Nat.testBit_or, h.2]; rfl
theorem has_drop {c k : Nat} (hc : c < 256) (hk : k < 8) (n : Int) (h : Part.has ((dropBit c k : Nat) : Int) n = true) : Part.has (c : Int) n = true := by
  simp only [Part.has, Bool.and_eq_true, decide_eq_true_eq, Int.toNat_natCast] at h ⊢
  refine ⟨h.1, ?_⟩
  exact (not_all ⟨c, hc⟩ ⟨k, hk⟩).2.2 ⟨n.toNat, by omega⟩ h.2
end Go.Ai

set_option maxRecDepth 100000
set_option linter.unusedSimpArgs false
set_option linter.unusedVariables false
/-! The law of what is easier. -/
namespace Go.Ai
open Go.Part (Sp Cp Bk truths cnt at' rightK Piece Good)
/-- What the law asks of a book and another one. -/
structure Easy (x x' : PB) (v i : Int) : Prop where
  ok : x'.Ok
  chk : checkOk x' = true
  le : (Ts x noneF).length ≤ (Ts x' noneF).length
  wr : wrongE x = 0 → wrongE x' = 0 ∧ (wrongL x').length ≤ (wrongL x).length
  nt : Ts x noneF ≠ [] → ansE x (isPlace x v i) = 0 ∧ ansE x' (isPlace x' v i) = 0 ∧ ∃ l m : List Int, call Cv 21 [x.av, I v, I i] = some (.tup [rowF l, I 0]) ∧ call Cv 21 [x'.av, I v, I i] = some (.tup [rowF m, I 0]) ∧ l.length < 100 ∧ m.length < 100 ∧ ∀ n, n ∈ l → n ∈ m
theorem easy_of {x x' : PB} (hx : x.Ok) (hc : checkOk x = true) (ho : x'.Ok) (hc' : checkOk x' = true) (hs : Sub x x') {v i : Nat} (hv : v < x.spans.length) (hi : i < x.N.toNat) : Easy x x' v i where
  ok := ho
  chk := hc'
  le := sub_ways hs noneF
  wr h := by
    have hw : ∃ w, wrongO x = some w := by
      unfold wrongE at h
      rw [if_pos hc] at h
      cases hwo : wrongO x with
      | none => rw [hwo] at h; simp at h
      | some w => exact ⟨w, rfl⟩
    obtain ⟨w, hw⟩ := hw
    obtain ⟨u, hu, hl⟩ := sub_wrong hs hc hc' hw
    refine ⟨by simp [wrongE, hc', hu], ?_⟩
    simp only [wrongL, hw, hu, Option.getD_some]
    exact hl
  nt hT := by
    have h := chk_of hc
    have hN := h.N
    have hT' : Ts x' noneF ≠ [] := by
      intro hn
      have := sub_ways hs noneF
      rw [hn] at this
      exact hT (List.length_eq_zero_iff.1 (by simpa using this))
    have p1 : isPlace x v i = true := by
      simp only [isPlace, lie, Bool.and_eq_true, decide_eq_true_eq]
      rw [wrap_small (by omega) (by omega)]
      omega
    have p2 : isPlace x' v i = true := by
      have e1 := hs.N
      have e2 := hs.V
      simp only [isPlace, lie, Bool.and_eq_true, decide_eq_true_eq, e1, e2]
      rw [wrap_small (by omega) (by omega)]
      omega
    refine ⟨by simp [ansE, hc, p1, hT], by simp [ansE, hc', p2, hT'], _, _, notes_ok hx hc hT hv hi, notes_ok ho hc' hT' (by rw [hs.V]; exact hv) (by rw [hs.N]; exact hi), ?_, ?_, ?_⟩
    · have := posOf_len (Ts x noneF) (v * x.N.toNat + i); omega
    · have := posOf_len (Ts x' noneF) (v * x'.N.toNat + i); omega
    · rw [hs.N]; exact sub_notes hs _
theorem fits_check {x : PB} (hc : checkOk x = true) (st ch pf : Int) (h1 : 0 ≤ st ∧ st ≤ 7) (h2 : 0 ≤ ch ∧ ch ≤ 255) (h3 : 0 ≤ pf ∧ pf ≤ 255) : checkOk { x with step := st, chords := ch, perfect := pf } = true := by
  simp only [checkOk, lie, Bool.and_eq_true, decide_eq_true_eq, List.all_eq_true] at hc ⊢
  obtain ⟨⟨⟨a1, a2, a3, a4, a5, a6⟩, a7⟩, a8⟩ := hc
  exact ⟨⟨⟨a1, a2, h1, h2, h3, a6⟩, a7⟩, fun c hcm => a8 c hcm⟩
theorem fits_ok {x : PB} (hx : x.Ok) (st ch pf : Int) : PB.Ok { x with step := st, chords := ch, perfect := pf } := ⟨hx.vrow, hx.crow, hx.lv, hx.lc, hx.cp⟩
theorem andNot_int {a b : Nat} (ha : a < 2 ^ 62) (hb : b < 2 ^ 62) (h : IntKind.wrap .i64 ((a &&& 2 ^ IntKind.bits .i64 - 1 - b % 2 ^ IntKind.bits .i64 : Nat) : Int) = 0) : binA .andNot (I (a : Int)) (I (b : Int)) = some (I 0) := by
  have e : (BitVec.ofInt 64 (a : Int) &&& ~~~BitVec.ofInt 64 (b : Int)).toNat = (a &&& 2 ^ 64 - 1 - b % 2 ^ 64 : Nat) := by
    rw [BitVec.toNat_and, BitVec.toNat_not, BitVec.ofInt_natCast, BitVec.ofInt_natCast, BitVec.toNat_ofNat, BitVec.toNat_ofNat, Nat.mod_eq_of_lt (show a < 2 ^ 64 by omega)]
  simp only [binA, binI, true_or, if_true]
  refine congrArg (fun z => some (I z)) ?_
  show IntKind.wrap .i64 (((BitVec.ofInt 64 (a : Int) &&& ~~~BitVec.ofInt 64 (b : Int)).toNat : Nat) : Int) = 0
  rw [e]
  exact h
set_option maxHeartbeats 4000000 in
theorem easier_a (x : PB) (hx : x.Ok) (hc : checkOk x = true) (n0 n1 n2 n3 : Int) (v i k : Nat) (bit : Int) (hsh : binA .shl (I 1) (I (k : Int)) = some (I bit)) (t2 : call Cv 43 [I n2, I x.spans.length] = some (I v)) (t3 : call Cv 43 [I n3, I x.N] = some (I i)) (t1 : call Cv 43 [I n1, I 8] = some (I k))
    (t0 : call Cv 43 [I n0, I 3] = some (I 0)) (ws : IntKind.wrap .i64 (x.step + 1) = x.step + 1)
    (E : Easy x { x with step := if x.step + 1 < 7 then x.step + 1 else 7, chords := x.chords, perfect := x.perfect } v i) : call Cv 9 [x.av, .agg [I n0, I n1, I n2, I n3]] = some (.bool true) := by
  have hsm := sound_call x hx
  have hs := noted_call
  have hvc := hx.vrow.cell
  have hcc := hx.crow.cell
  have hvp := hx.vrow.pur
  have hcp := hx.crow.pur
  have hvl := vlen hx
  have w1 := ways_call x hx
  have w2 := ways_call _ E.ok
  rw [hc] at hsm w1
  rw [E.chk] at w2
  obtain ⟨y, hy, hyc, hyp, v1⟩ := wrongP_call x hx
  obtain ⟨z, hz, hzc, hzp, v2⟩ := wrongP_call _ E.ok
  have hyl := row_len hy
  have hzl := row_len hz
  have hle := E.le
  have hwr := E.wr
  have hnt := E.nt
  simp only [PB.av, PB.cells, if_true] at hsm w1 w2 v1 v2 hnt
  clear E
  generalize Ts { x with step := if x.step + 1 < 7 then x.step + 1 else 7, chords := x.chords, perfect := x.perfect } noneF = T' at *
  generalize wrongE { x with step := if x.step + 1 < 7 then x.step + 1 else 7, chords := x.chords, perfect := x.perfect } = we' at *
  generalize wrongL { x with step := if x.step + 1 < 7 then x.step + 1 else 7, chords := x.chords, perfect := x.perfect } = wl' at *
  generalize wrongE x = we at *
  generalize wrongL x = wl at *
  have hlt : ¬ (T'.length : Int) < ((Ts x noneF).length : Int) := by omega
  have b1 : ∀ a b : Int, binA .gtr (I a) (I b) = some (.bool (decide (a > b))) := fun _ _ => rfl
  by_cases hw : we = 0
  · obtain ⟨rfl, hl⟩ := hwr hw
    subst hw
    have hl' : ¬ (wl.length : Int) < (wl'.length : Int) := by omega
    by_cases hT : Ts x noneF = []
    · have h0 : ((Ts x noneF).length : Int) = 0 := by rw [hT]; rfl
      rw [h0] at w1 hlt
      rw [call_run comp9 (Nat.le_of_ble_eq_true rfl)]
      simp (maxSteps := 10000000) [-List.getD_eq_getElem?_getD, -binA, -binI, -List.all_eq_true, bi_eql, bi_neq, bi_lss, bi_gtr, bi_add, code9, PB.av, PB.cells, hvc, hcc, hvp, hcp, hsm, hs, hvl, hsh, t1, t2, t3, t0, ws, w1, w2, v1, v2, hyp, hzp, hyl, hzl, hlt, hl', setAt, foldA, min2]
    · obtain ⟨_, _, l, m, d1, d2, hll, hml, hsub⟩ := hnt hT
      have hne : (((Ts x noneF).length : Int) == 0) = false := by
        have := List.length_pos_iff.2 hT
        simp; exact hT
      obtain ⟨ga, gl⟩ := gather_call l _ (rowF_row l) (by omega)
      obtain ⟨gb, gm⟩ := gather_call m _ (rowF_row m) (by omega)
      have hand : binA .andNot (I (gatN 0 l)) (I (gatN 0 m)) = some (I 0) := by
        have := gat_sub ga gb fun j hj => hsub j hj
        have h2 := andNot_int ga gb this
        exact h2
      have q1 := fun σ n => rowF_pur σ n l
      have q2 := fun σ n => rowF_pur σ n m
      rw [call_run comp9 (Nat.le_of_ble_eq_true rfl)]
      simp (maxSteps := 10000000) [-List.getD_eq_getElem?_getD, -binA, -binI, -List.all_eq_true, bi_eql, bi_neq, bi_lss, bi_gtr, bi_add, code9, PB.av, PB.cells, hvc, hcc, hvp, hcp, hsm, hs, hvl, hsh, t1, t2, t3, t0, ws, w1, w2, v1, v2, hyp, hzp, hyl, hzl, hlt, hl', hne, d1, d2, gl, gm, hand, q1, q2, setAt, foldA, min2]
  · have hw' : (we == 0) = false := by simpa using hw
    by_cases hT : Ts x noneF = []
    · have h0 : ((Ts x noneF).length : Int) = 0 := by rw [hT]; rfl
      rw [h0] at w1 hlt
      rw [call_run comp9 (Nat.le_of_ble_eq_true rfl)]
      simp (maxSteps := 10000000) [-List.getD_eq_getElem?_getD, -binA, -binI, -List.all_eq_true, bi_eql, bi_neq, bi_lss, bi_gtr, bi_add, code9, PB.av, PB.cells, hvc, hcc, hvp, hcp, hsm, hs, hvl, hsh, t1, t2, t3, t0, ws, w1, w2, v1, v2, hyp, hzp, hyl, hzl, hlt, hw', setAt, foldA, min2]
    · obtain ⟨_, _, l, m, d1, d2, hll, hml, hsub⟩ := hnt hT
      have hne : (((Ts x noneF).length : Int) == 0) = false := by
        have := List.length_pos_iff.2 hT
        simp; exact hT
      obtain ⟨ga, gl⟩ := gather_call l _ (rowF_row l) (by omega)
      obtain ⟨gb, gm⟩ := gather_call m _ (rowF_row m) (by omega)
      have hand : binA .andNot (I (gatN 0 l)) (I (gatN 0 m)) = some (I 0) := by
        have := gat_sub ga gb fun j hj => hsub j hj
        have h2 := andNot_int ga gb this
        exact h2
      have q1 := fun σ n => rowF_pur σ n l
      have q2 := fun σ n => rowF_pur σ n m
      rw [call_run comp9 (Nat.le_of_ble_eq_true rfl)]
      simp (maxSteps := 10000000) [-List.getD_eq_getElem?_getD, -binA, -binI, -List.all_eq_true, bi_eql, bi_neq, bi_lss, bi_gtr, bi_add, code9, PB.av, PB.cells, hvc, hcc, hvp, hcp, hsm, hs, hvl, hsh, t1, t2, t3, t0, ws, w1, w2, v1, v2, hyp, hzp, hyl, hzl, hlt, hw', hne, d1, d2, gl, gm, hand, q1, q2, setAt, foldA, min2]
set_option maxHeartbeats 4000000 in
theorem easier_b (x : PB) (hx : x.Ok) (hc : checkOk x = true) (n0 n1 n2 n3 : Int) (v i k : Nat) (bit : Int) (hsh : binA .shl (I 1) (I (k : Int)) = some (I bit)) (t2 : call Cv 43 [I n2, I x.spans.length] = some (I v)) (t3 : call Cv 43 [I n3, I x.N] = some (I i)) (t1 : call Cv 43 [I n1, I 8] = some (I k))
    (t0 : call Cv 43 [I n0, I 3] = some (I 1)) (c : Int) (hor : binA .or (I x.chords) (I bit) = some (I c))
    (E : Easy x { x with step := x.step, chords := c, perfect := x.perfect } v i) : call Cv 9 [x.av, .agg [I n0, I n1, I n2, I n3]] = some (.bool true) := by
  have hsm := sound_call x hx
  have hs := noted_call
  have hvc := hx.vrow.cell
  have hcc := hx.crow.cell
  have hvp := hx.vrow.pur
  have hcp := hx.crow.pur
  have hvl := vlen hx
  have w1 := ways_call x hx
  have w2 := ways_call _ E.ok
  rw [hc] at hsm w1
  rw [E.chk] at w2
  obtain ⟨y, hy, hyc, hyp, v1⟩ := wrongP_call x hx
  obtain ⟨z, hz, hzc, hzp, v2⟩ := wrongP_call _ E.ok
  have hyl := row_len hy
  have hzl := row_len hz
  have hle := E.le
  have hwr := E.wr
  have hnt := E.nt
  simp only [PB.av, PB.cells, if_true] at hsm w1 w2 v1 v2 hnt
  clear E
  generalize Ts { x with step := x.step, chords := c, perfect := x.perfect } noneF = T' at *
  generalize wrongE { x with step := x.step, chords := c, perfect := x.perfect } = we' at *
  generalize wrongL { x with step := x.step, chords := c, perfect := x.perfect } = wl' at *
  generalize wrongE x = we at *
  generalize wrongL x = wl at *
  have hlt : ¬ (T'.length : Int) < ((Ts x noneF).length : Int) := by omega
  have b1 : ∀ a b : Int, binA .gtr (I a) (I b) = some (.bool (decide (a > b))) := fun _ _ => rfl
  by_cases hw : we = 0
  · obtain ⟨rfl, hl⟩ := hwr hw
    subst hw
    have hl' : ¬ (wl.length : Int) < (wl'.length : Int) := by omega
    by_cases hT : Ts x noneF = []
    · have h0 : ((Ts x noneF).length : Int) = 0 := by rw [hT]; rfl
      rw [h0] at w1 hlt
      rw [call_run comp9 (Nat.le_of_ble_eq_true rfl)]
      simp (maxSteps := 10000000) [-List.getD_eq_getElem?_getD, -binA, -binI, -List.all_eq_true, bi_eql, bi_neq, bi_lss, bi_gtr, bi_add, code9, PB.av, PB.cells, hvc, hcc, hvp, hcp, hsm, hs, hvl, hsh, t1, t2, t3, t0, hor, w1, w2, v1, v2, hyp, hzp, hyl, hzl, hlt, hl', setAt, foldA, min2]
    · obtain ⟨_, _, l, m, d1, d2, hll, hml, hsub⟩ := hnt hT
      have hne : (((Ts x noneF).length : Int) == 0) = false := by
        have := List.length_pos_iff.2 hT
        simp; exact hT
      obtain ⟨ga, gl⟩ := gather_call l _ (rowF_row l) (by omega)
      obtain ⟨gb, gm⟩ := gather_call m _ (rowF_row m) (by omega)
      have hand : binA .andNot (I (gatN 0 l)) (I (gatN 0 m)) = some (I 0) := by
        have := gat_sub ga gb fun j hj => hsub j hj
        have h2 := andNot_int ga gb this
        exact h2
      have q1 := fun σ n => rowF_pur σ n l
      have q2 := fun σ n => rowF_pur σ n m
      rw [call_run comp9 (Nat.le_of_ble_eq_true rfl)]
      simp (maxSteps := 10000000) [-List.getD_eq_getElem?_getD, -binA, -binI, -List.all_eq_true, bi_eql, bi_neq, bi_lss, bi_gtr, bi_add, code9, PB.av, PB.cells, hvc, hcc, hvp, hcp, hsm, hs, hvl, hsh, t1, t2, t3, t0, hor, w1, w2, v1, v2, hyp, hzp, hyl, hzl, hlt, hl', hne, d1, d2, gl, gm, hand, q1, q2, setAt, foldA, min2]
  · have hw' : (we == 0) = false := by simpa using hw
    by_cases hT : Ts x noneF = []
    · have h0 : ((Ts x noneF).length : Int) = 0 := by rw [hT]; rfl
      rw [h0] at w1 hlt
      rw [call_run comp9 (Nat.le_of_ble_eq_true rfl)]
      simp (maxSteps := 10000000) [-List.getD_eq_getElem?_getD, -binA, -binI, -List.all_eq_true, bi_eql, bi_neq, bi_lss, bi_gtr, bi_add, code9, PB.av, PB.cells, hvc, hcc, hvp, hcp, hsm, hs, hvl, hsh, t1, t2, t3, t0, hor, w1, w2, v1, v2, hyp, hzp, hyl, hzl, hlt, hw', setAt, foldA, min2]
    · obtain ⟨_, _, l, m, d1, d2, hll, hml, hsub⟩ := hnt hT
      have hne : (((Ts x noneF).length : Int) == 0) = false := by
        have := List.length_pos_iff.2 hT
        simp; exact hT
      obtain ⟨ga, gl⟩ := gather_call l _ (rowF_row l) (by omega)
      obtain ⟨gb, gm⟩ := gather_call m _ (rowF_row m) (by omega)
      have hand : binA .andNot (I (gatN 0 l)) (I (gatN 0 m)) = some (I 0) := by
        have := gat_sub ga gb fun j hj => hsub j hj
        have h2 := andNot_int ga gb this
        exact h2
      have q1 := fun σ n => rowF_pur σ n l
      have q2 := fun σ n => rowF_pur σ n m
      rw [call_run comp9 (Nat.le_of_ble_eq_true rfl)]
      simp (maxSteps := 10000000) [-List.getD_eq_getElem?_getD, -binA, -binI, -List.all_eq_true, bi_eql, bi_neq, bi_lss, bi_gtr, bi_add, code9, PB.av, PB.cells, hvc, hcc, hvp, hcp, hsm, hs, hvl, hsh, t1, t2, t3, t0, hor, w1, w2, v1, v2, hyp, hzp, hyl, hzl, hlt, hw', hne, d1, d2, gl, gm, hand, q1, q2, setAt, foldA, min2]
set_option maxHeartbeats 4000000 in
theorem easier_c (x : PB) (hx : x.Ok) (hc : checkOk x = true) (n0 n1 n2 n3 : Int) (v i k : Nat) (bit : Int) (hsh : binA .shl (I 1) (I (k : Int)) = some (I bit)) (t2 : call Cv 43 [I n2, I x.spans.length] = some (I v)) (t3 : call Cv 43 [I n3, I x.N] = some (I i)) (t1 : call Cv 43 [I n1, I 8] = some (I k))
    (t0 : call Cv 43 [I n0, I 3] = some (I 2)) (c : Int) (hno : binA .andNot (I x.perfect) (I bit) = some (I c))
    (E : Easy x { x with step := x.step, chords := x.chords, perfect := c } v i) : call Cv 9 [x.av, .agg [I n0, I n1, I n2, I n3]] = some (.bool true) := by
  have hsm := sound_call x hx
  have hs := noted_call
  have hvc := hx.vrow.cell
  have hcc := hx.crow.cell
  have hvp := hx.vrow.pur
  have hcp := hx.crow.pur
  have hvl := vlen hx
  have w1 := ways_call x hx
  have w2 := ways_call _ E.ok
  rw [hc] at hsm w1
  rw [E.chk] at w2
  obtain ⟨y, hy, hyc, hyp, v1⟩ := wrongP_call x hx
  obtain ⟨z, hz, hzc, hzp, v2⟩ := wrongP_call _ E.ok
  have hyl := row_len hy
  have hzl := row_len hz
  have hle := E.le
  have hwr := E.wr
  have hnt := E.nt
  simp only [PB.av, PB.cells, if_true] at hsm w1 w2 v1 v2 hnt
  clear E
  generalize Ts { x with step := x.step, chords := x.chords, perfect := c } noneF = T' at *
  generalize wrongE { x with step := x.step, chords := x.chords, perfect := c } = we' at *
  generalize wrongL { x with step := x.step, chords := x.chords, perfect := c } = wl' at *
  generalize wrongE x = we at *
  generalize wrongL x = wl at *
  have hlt : ¬ (T'.length : Int) < ((Ts x noneF).length : Int) := by omega
  have b1 : ∀ a b : Int, binA .gtr (I a) (I b) = some (.bool (decide (a > b))) := fun _ _ => rfl
  by_cases hw : we = 0
  · obtain ⟨rfl, hl⟩ := hwr hw
    subst hw
    have hl' : ¬ (wl.length : Int) < (wl'.length : Int) := by omega
    by_cases hT : Ts x noneF = []
    · have h0 : ((Ts x noneF).length : Int) = 0 := by rw [hT]; rfl
      rw [h0] at w1 hlt
      rw [call_run comp9 (Nat.le_of_ble_eq_true rfl)]
      simp (maxSteps := 10000000) [-List.getD_eq_getElem?_getD, -binA, -binI, -List.all_eq_true, bi_eql, bi_neq, bi_lss, bi_gtr, bi_add, code9, PB.av, PB.cells, hvc, hcc, hvp, hcp, hsm, hs, hvl, hsh, t1, t2, t3, t0, hno, w1, w2, v1, v2, hyp, hzp, hyl, hzl, hlt, hl', setAt, foldA, min2]
    · obtain ⟨_, _, l, m, d1, d2, hll, hml, hsub⟩ := hnt hT
      have hne : (((Ts x noneF).length : Int) == 0) = false := by
        have := List.length_pos_iff.2 hT
        simp; exact hT
      obtain ⟨ga, gl⟩ := gather_call l _ (rowF_row l) (by omega)
      obtain ⟨gb, gm⟩ := gather_call m _ (rowF_row m) (by omega)
      have hand : binA .andNot (I (gatN 0 l)) (I (gatN 0 m)) = some (I 0) := by
        have := gat_sub ga gb fun j hj => hsub j hj
        have h2 := andNot_int ga gb this
        exact h2
      have q1 := fun σ n => rowF_pur σ n l
      have q2 := fun σ n => rowF_pur σ n m
      rw [call_run comp9 (Nat.le_of_ble_eq_true rfl)]
      simp (maxSteps := 10000000) [-List.getD_eq_getElem?_getD, -binA, -binI, -List.all_eq_true, bi_eql, bi_neq, bi_lss, bi_gtr, bi_add, code9, PB.av, PB.cells, hvc, hcc, hvp, hcp, hsm, hs, hvl, hsh, t1, t2, t3, t0, hno, w1, w2, v1, v2, hyp, hzp, hyl, hzl, hlt, hl', hne, d1, d2, gl, gm, hand, q1, q2, setAt, foldA, min2]
  · have hw' : (we == 0) = false := by simpa using hw
    by_cases hT : Ts x noneF = []
    · have h0 : ((Ts x noneF).length : Int) = 0 := by rw [hT]; rfl
      rw [h0] at w1 hlt
      rw [call_run comp9 (Nat.le_of_ble_eq_true rfl)]
      simp (maxSteps := 10000000) [-List.getD_eq_getElem?_getD, -binA, -binI, -List.all_eq_true, bi_eql, bi_neq, bi_lss, bi_gtr, bi_add, code9, PB.av, PB.cells, hvc, hcc, hvp, hcp, hsm, hs, hvl, hsh, t1, t2, t3, t0, hno, w1, w2, v1, v2, hyp, hzp, hyl, hzl, hlt, hw', setAt, foldA, min2]
    · obtain ⟨_, _, l, m, d1, d2, hll, hml, hsub⟩ := hnt hT
      have hne : (((Ts x noneF).length : Int) == 0) = false := by
        have := List.length_pos_iff.2 hT
        simp; exact hT
      obtain ⟨ga, gl⟩ := gather_call l _ (rowF_row l) (by omega)
      obtain ⟨gb, gm⟩ := gather_call m _ (rowF_row m) (by omega)
      have hand : binA .andNot (I (gatN 0 l)) (I (gatN 0 m)) = some (I 0) := by
        have := gat_sub ga gb fun j hj => hsub j hj
        have h2 := andNot_int ga gb this
        exact h2
      have q1 := fun σ n => rowF_pur σ n l
      have q2 := fun σ n => rowF_pur σ n m
      rw [call_run comp9 (Nat.le_of_ble_eq_true rfl)]
      simp (maxSteps := 10000000) [-List.getD_eq_getElem?_getD, -binA, -binI, -List.all_eq_true, bi_eql, bi_neq, bi_lss, bi_gtr, bi_add, code9, PB.av, PB.cells, hvc, hcc, hvp, hcp, hsm, hs, hvl, hsh, t1, t2, t3, t0, hno, w1, w2, v1, v2, hyp, hzp, hyl, hzl, hlt, hw', hne, d1, d2, gl, gm, hand, q1, q2, setAt, foldA, min2]
theorem easier_law (x : PB) (hx : x.Ok) (n0 n1 n2 n3 : Int) : call Cv 9 [x.av, .agg [I n0, I n1, I n2, I n3]] = some (.bool true) := by
  cases hc : checkOk x with
  | false =>
    have hsm := sound_call x hx
    have hs := noted_call
    have hvc := hx.vrow.cell
    have hcc := hx.crow.cell
    have hvp := hx.vrow.pur
    have hcp := hx.crow.pur
    rw [hc] at hsm
    simp only [PB.av, PB.cells] at hsm
    rw [call_run comp9 (Nat.le_of_ble_eq_true rfl)]
    simp (maxSteps := 10000000) [-List.getD_eq_getElem?_getD, code9, PB.av, PB.cells, hvc, hcc, hvp, hcp, hsm, hs]
  | true =>
    have hk := chk_of hc
    have hN := hk.N
    have hV := hk.V
    have hch := hk.ch
    have hpf := hk.pf
    have hst := hk.step
    have t2 := turn_call n2 (x.spans.length : Int) (by omega)
    obtain ⟨r21, r22⟩ := turn_range n2 (x.spans.length : Int) (by omega)
    have t3 := turn_call n3 x.N (by omega)
    obtain ⟨r31, r32⟩ := turn_range n3 x.N (by omega)
    have t1 := turn_call n1 8 (by omega)
    obtain ⟨r11, r12⟩ := turn_range n1 8 (by omega)
    have t0 := turn_call n0 3 (by omega)
    obtain ⟨r01, r02⟩ := turn_range n0 3 (by omega)
    obtain ⟨v, hv⟩ := Int.eq_ofNat_of_zero_le r21
    obtain ⟨i, hi⟩ := Int.eq_ofNat_of_zero_le r31
    obtain ⟨k, hk1⟩ := Int.eq_ofNat_of_zero_le r11
    rw [hv] at t2 r22
    rw [hi] at t3 r32
    rw [hk1] at t1 r12
    have hk8 : k < 8 := by omega
    obtain ⟨ch, hch'⟩ := Int.eq_ofNat_of_zero_le hch.1
    obtain ⟨pf, hpf'⟩ := Int.eq_ofNat_of_zero_le hpf.1
    have o1 := or_all ⟨ch, by omega⟩ ⟨k, hk8⟩
    have o2 := not_all ⟨pf, by omega⟩ ⟨k, hk8⟩
    simp only at o1 o2
    have hsh : binA .shl (I 1) (I (k : Int)) = some (I ((2 ^ k : Nat) : Int)) := by
      have h1 := shl_fact (m := k) (by omega)
      have hneg : ¬ (k : Int) < 0 := by omega
      simp only [binA, binI, true_or, or_true, if_true, hneg, if_false, Int.one_mul, Int.toNat_natCast]
      rw [h1]
    have h3 : turnI n0 3 = 0 ∨ turnI n0 3 = 1 ∨ turnI n0 3 = 2 := by omega
    rcases h3 with h | h | h
    · rw [h] at t0
      exact easier_a x hx hc n0 n1 n2 n3 v i k ((2 ^ k : Nat) : Int) hsh t2 t3 t1 t0 (wrap_small (by omega) (by omega)) (easy_of hx hc (fits_ok hx _ _ _) (fits_check hc (if x.step + 1 < 7 then x.step + 1 else 7) x.chords x.perfect (by split <;> omega) hch hpf) (sub_of hk rfl rfl rfl (by show x.step ≤ if x.step + 1 < 7 then x.step + 1 else 7; split <;> omega) (fun _ h => h) (fun _ h => h)) (by omega) (by omega))
    · rw [h] at t0
      refine easier_b x hx hc n0 n1 n2 n3 v i k ((2 ^ k : Nat) : Int) hsh t2 t3 t1 t0 ((ch ||| 2 ^ k : Nat) : Int) ?_ (easy_of (v := v) (i := i) hx hc (fits_ok hx _ _ _) (fits_check hc x.step ((ch ||| 2 ^ k : Nat) : Int) x.perfect hst (by omega) hpf) (sub_of hk rfl rfl rfl (Int.le_refl _) (fun n h => ?_) (fun _ h => h)) (by omega) (by omega))
      · have := o1.1
        rw [hch']
        simp only [binA, binI, true_or, if_true]
        exact congrArg (fun z => some (I z)) this
      · rw [hch'] at h
        exact has_or ch k n h
    · rw [h] at t0
      refine easier_c x hx hc n0 n1 n2 n3 v i k ((2 ^ k : Nat) : Int) hsh t2 t3 t1 t0 ((dropBit pf k : Nat) : Int) ?_ (easy_of (v := v) (i := i) hx hc (fits_ok hx _ _ _) (fits_check hc x.step x.chords ((dropBit pf k : Nat) : Int) hst hch (by omega)) (sub_of hk rfl rfl rfl (Int.le_refl _) (fun _ h => h) (fun n h => ?_)) (by omega) (by omega))
      · have := o2.1
        rw [hpf']
        simp only [binA, binI, true_or, if_true]
        exact congrArg (fun z => some (I z)) this
      · rw [hpf']
        exact has_drop (by omega) hk8 n h
end Go.Ai
