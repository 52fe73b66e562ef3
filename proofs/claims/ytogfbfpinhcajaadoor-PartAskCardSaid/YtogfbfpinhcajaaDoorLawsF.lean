/- This text shows the law of all ways, in the interpreter. No conditions of its own. -/
import Derived.Test.YtogfbfpinhcajaaDoorLawsE
set_option linter.unusedSimpArgs false
set_option linter.unusedVariables false
set_option maxRecDepth 100000
set_option linter.unusedSimpArgs false
set_option linter.unusedVariables false
/-! The law of all ways. -/
namespace Go.Ai
open Go.Part (Sp Cp Bk truths cnt at' vals seqs seg sumN)
theorem or_int {a b : Nat} (ha : a < 2 ^ 62) (hb : b < 2 ^ 62) : binA .or (I (a : Int)) (I (b : Int)) = some (I ((a ||| b : Nat) : Int)) := by
  have e : (BitVec.ofInt 64 (a : Int) ||| BitVec.ofInt 64 (b : Int)).toNat = (a ||| b : Nat) := by
    rw [BitVec.toNat_or, BitVec.ofInt_natCast, BitVec.ofInt_natCast, BitVec.toNat_ofNat, BitVec.toNat_ofNat, Nat.mod_eq_of_lt (show a < 2 ^ 64 by omega), Nat.mod_eq_of_lt (show b < 2 ^ 64 by omega)]
  simp only [binA, binI, true_or, if_true]
  refine congrArg (fun z => some (I z)) ?_
  show IntKind.wrap .i64 (((BitVec.ofInt 64 (a : Int) ||| BitVec.ofInt 64 (b : Int)).toNat : Nat) : Int) = _
  rw [e]
  exact or_fact ha hb
theorem shl_int {k : Nat} (hk : k < 62) : binA .shl (I 1) (I (k : Int)) = some (I ((2 ^ k : Nat) : Int)) := by
  have h1 := shl_fact (m := k) hk
  have hneg : ¬ (k : Int) < 0 := by omega
  simp only [binA, binI, true_or, or_true, if_true, hneg, if_false, Int.one_mul, Int.toNat_natCast]
  rw [h1]
def copyL (v : Nat) (l : List Int) : CpV := ⟨⟨v, l⟩, rowN l⟩
theorem copyL_ok (v : Nat) (l : List Int) (hl : l.length < 100) : (copyL v l).Ok := ⟨.inr (.inr ⟨.no, rfl, rfl⟩), by show l.length < _; omega⟩
structure AtLine (x : PB) (v : Nat) (l : List Int) : Prop where
  wi : call Cv 45 [x.av, .agg [I v, rowN l]] = some (x.more (copyL v l)).av
  ok : (x.more (copyL v l)).Ok
  ways : call Cv 19 [(x.more (copyL v l)).av] = some (.tup [I (segs x.N.toNat v (Ts x noneF) l), I 0])
  fits : call Cv 31 [x.av, .agg [I v, rowN l]] = some (.tup [.bool (decide (0 < segs x.N.toNat v (Ts x noneF) l)), I (if Ts x noneF = [] then 52 else 0)])
theorem at_line {x : PB} (hx : x.Ok) (hc : checkOk x = true) (hl4 : x.copies.length < 4) {v : Nat} {s : Sp} (h : Lines x v s) {l : List Int} (hl : l ∈ linesN s x.N.toNat) : AtLine x v l := by
  have hk := h.ok
  have hN := hk.N
  obtain ⟨h1, h2⟩ := lines_mem h hl
  have hs := hk.spans s (List.mem_of_getElem? h.v)
  have hv := (List.getElem?_eq_some_iff.1 h.v).1
  have hco : (copyL v l).Ok := copyL_ok v l (by omega)
  have hq : copyOk x (copyL v l) = true := by
    simp only [copyOk, copyL, lie, Bool.and_eq_true, decide_eq_true_eq, Bool.not_eq_true', beq_iff_eq]
    refine ⟨⟨decide_eq_true (by omega), decide_eq_true (by omega)⟩, by omega, ?_⟩
    rw [List.any_eq_false]
    intro n hn
    have := h2 n hn
    have e : bad12 n = false := by
      simp only [bad12, lie, Bool.not_eq_false', Bool.and_eq_true, decide_eq_true_eq]; omega
    simp [e]
  have ho := more_ok hx (by omega) hco
  have hT : (Ts (x.more (copyL v l)) noneF).length = segs x.N.toNat v (Ts x noneF) l := by
    rw [more_Ts hk hq rfl]
    have : (copyL v l).cp.voice.toNat = v := by show ((v : Int)).toNat = v; omega
    rw [this]
    rfl
  refine ⟨withC_call x hx (by omega) (copyL v l) hco, ho, ?_, ?_⟩
  · rw [ways_call _ ho, more_check hc hl4, hq, hT]; rfl
  · have := fitsP_call x hx (copyL v l) hco
    rw [fitsP_iff hc hq, hq] at this
    have e1 : decide (Ts (x.more (copyL v l)) noneF ≠ []) = decide (0 < segs x.N.toNat v (Ts x noneF) l) := by
      rw [← hT, decide_eq_decide, List.length_pos_iff]
    have e2 : ansE x true = if Ts x noneF = [] then 52 else 0 := by simp [ansE, hc]
    rw [e1, e2] at this
    exact this
def head7 (x : PB) (v i : Nat) (ls : List (List Int)) (many sum set : Nat) (o : AV) (k : Int) : Env := mkE 200 .any [(14, I k), (13, o), (12, I set), (11, I sum), (10, I many), (9, .sl 1 (ls.map rowN) .no), (7, I (Ts x noneF).length), (6, I i), (5, I v), (2, .box 0 0)]
def st7 (x : PB) (n0 n1 : Int) : St := { boxes := [x.cells, [I n0, I n1]] }
def onlyV (o : AV) (fl : List (List Int)) : AV := (fl.getLast?.map rowN).getD o
theorem onlyV_cons (o : AV) (l : List Int) (fl : List (List Int)) : onlyV o (l :: fl) = onlyV (rowN l) fl := by
  unfold onlyV
  cases fl with
  | nil => rfl
  | cons a fl => rw [List.getLast?_cons_cons]; simp [List.getLast?_cons]
theorem loop7 (x : PB) (hx : x.Ok) (hc : checkOk x = true) (hl4 : x.copies.length < 4) {v i : Nat} {s : Sp} (h : Lines x v s) (hi : i < x.N.toNat) (n0 n1 : Int) (hls : (linesN s x.N.toNat).length ≤ 27) : ∀ (rest : List (List Int)) (k many sum set : Nat) (o : AV), k ≤ (linesN s x.N.toNat).length → (linesN s x.N.toNat).drop k = rest → many ≤ k → sum ≤ 20000 * k → set < 2 ^ 62 → (∀ a b c d n, under a b c d (n + 1) o = true) →
    ∃ L, run Cv 7 (.loop keep7_0 body7_0) (head7 x v i (linesN s x.N.toNat) many sum set o k) (st7 x n0 n1) = some (.ex 0, mkE 200 .any L, st7 x n0 n1) ∧ gt (mkE 200 .any L) 2 = .box 0 0 ∧ gt (mkE 200 .any L) 5 = I v ∧ gt (mkE 200 .any L) 6 = I i ∧ gt (mkE 200 .any L) 7 = I (Ts x noneF).length ∧ gt (mkE 200 .any L) 10 = I ((many + (withW (segs x.N.toNat v (Ts x noneF)) rest).length : Nat)) ∧ gt (mkE 200 .any L) 11 = I ((sum + sumN (rest.map (segs x.N.toNat v (Ts x noneF))) : Nat)) ∧
      gt (mkE 200 .any L) 12 = I (gatN set ((withW (segs x.N.toNat v (Ts x noneF)) rest).map fun l => at' l i)) ∧ gt (mkE 200 .any L) 13 = onlyV o (withW (segs x.N.toNat v (Ts x noneF)) rest)
  | [], k, many, sum, set, o, hk, hd, hm, hsu, hse, ho => by
    obtain rfl := drop_nil hk hd
    rw [run_loop]
    simp (maxSteps := 10000000) [-List.getD_eq_getElem?_getD, body7_0, keep7_0, head7, st7]
    exact ⟨_, rfl, by simp (maxSteps := 10000000) [-List.getD_eq_getElem?_getD, ], by simp (maxSteps := 10000000) [-List.getD_eq_getElem?_getD, ], by simp (maxSteps := 10000000) [-List.getD_eq_getElem?_getD, ], by simp (maxSteps := 10000000) [-List.getD_eq_getElem?_getD, ], by simp (maxSteps := 10000000) [-List.getD_eq_getElem?_getD, withW], by simp (maxSteps := 10000000) [-List.getD_eq_getElem?_getD, sumN], by simp (maxSteps := 10000000) [-List.getD_eq_getElem?_getD, withW, gatN], by simp (maxSteps := 10000000) [-List.getD_eq_getElem?_getD, withW, onlyV]⟩
  | l :: rest, k, many, sum, set, o, hk, hd, hm, hsu, hse, ho => by
    obtain ⟨hlt, hg, hd'⟩ := head_drop hd
    have hlm : l ∈ linesN s x.N.toNat := hg ▸ List.getElem_mem _
    have hkk := h.ok
    have hlt' : (k : Int) < ((linesN s x.N.toNat).length : Int) := by omega
    have hw := wrap_succ hlt (by omega)
    have A := at_line hx hc hl4 h hlm
    have a1 := A.wi
    have a2 := A.ways
    have a3 := A.fits
    obtain ⟨hll, hlr⟩ := lines_mem h hlm
    have hs := hkk.spans s (List.mem_of_getElem? h.v)
    have hsc := scribe_call v l (rowN l) rfl rfl (fun _ _ => rfl)
    have hix : ixsA 1 (.sl 1 ((linesN s x.N.toNat).map rowN) .no) (I k) = some (.rp [rowN l] 0) := by
      simp [ixsA, hlt, hg, AV.cells, rowN]
    have hil : i < l.length := by omega
    have hni := hlr _ (List.getElem_mem hil)
    have hat : at' l i = l[i] := by simp [at', hil]
    have hix2 : ixsA 1 (rowN l) (I i) = some (.rp [I (at' l i)] 0) := by
      rw [hat]
      simp [rowN, ixsA, ints, hil, AV.cells]
    obtain ⟨n, hn⟩ := Int.eq_ofNat_of_zero_le (show 0 ≤ at' l i by rw [hat]; omega)
    have hn13 : n < 13 := by rw [hat] at hn; omega
    have hsh := shl_int (k := n) (by omega)
    have hpw := pow_lt (m := n) (by omega)
    have hor := or_int hse hpw
    have hTl := truths_short hkk noneF
    have hseg : segs x.N.toNat v (Ts x noneF) l ≤ 20000 := by
      have : segs x.N.toNat v (Ts x noneF) l ≤ (Ts x noneF).length := List.length_filter_le _ _
      have e : (Ts x noneF).length = (truths (bkOf x) noneF).length := rfl
      omega
    have wsum : IntKind.wrap .i64 ((sum : Int) + segs x.N.toNat v (Ts x noneF) l) = ((sum + segs x.N.toNat v (Ts x noneF) l : Nat) : Int) := by rw [wrap_small (by omega) (by omega)]; rfl
    have wmany : IntKind.wrap .i64 ((many : Int) + 1) = ((many + 1 : Nat) : Int) := by rw [wrap_small (by omega) (by omega)]; rfl
    have hvu := hx.vrow.under
    have hcu := hx.crow.under
    have hvp := hx.vrow.pur
    have hcp := hx.crow.pur
    have hvp2 := A.ok.vrow.pur
    have hcp2 := A.ok.crow.pur
    have hmp : ∀ σ n, pur σ (n + 1) (rowN l) = some (rowN l, false) := fun _ _ => rfl
    have hmu : ∀ a b c d n, under a b c d (n + 1) (rowN l) = true := fun _ _ _ _ _ => rfl
    have hsz : segs x.N.toNat v (Ts x noneF) l = 0 ∨ 0 < segs x.N.toNat v (Ts x noneF) l := by omega
    have hT0 : Ts x noneF = [] → segs x.N.toNat v (Ts x noneF) l = 0 := fun h => by rw [h]; rfl
    rw [hn] at hix2
    have hcyc : withW (segs x.N.toNat v (Ts x noneF)) (l :: rest) = (if 0 < segs x.N.toNat v (Ts x noneF) l then [l] else []) ++ withW (segs x.N.toNat v (Ts x noneF)) rest := by
      unfold withW
      rw [List.filter_cons]
      by_cases h : 0 < segs x.N.toNat v (Ts x noneF) l <;> simp [h]
    have hne : Ts x noneF ≠ [] → decide (((Ts x noneF).length : Int) > 0) = true ∧ (((Ts x noneF).length : Int) == 0) = false := fun h => by
      have := List.length_pos_iff.2 h
      refine ⟨by simp only [decide_eq_true_eq]; omega, by simp; exact h⟩
    rw [hcyc]
    simp only [PB.av, PB.cells] at a1 a2 a3
    simp only [List.map_cons, sumN]
    have IH := loop7 x hx hc hl4 h hi n0 n1 hls rest (k + 1)
    generalize hwl : segs x.N.toNat v (Ts x noneF) l = w at *
    generalize hu : x.more (copyL v l) = u at *
    generalize hlT : (Ts x noneF).length = lT at *
    rcases hsz with hz | hz
    · have key : run Cv 7 (.loop keep7_0 body7_0) (head7 x v i (linesN s x.N.toNat) many sum set o k) (st7 x n0 n1) = run Cv 7 (.loop keep7_0 body7_0) (head7 x v i (linesN s x.N.toNat) many (sum + w) set o (k + 1)) (st7 x n0 n1) := by
        have hgt : ¬ 0 < w := by omega
        have hgi : ¬ (w : Int) > 0 := by omega
        have hw0 : ((w : Int) != 0) = false := by rw [hz]; rfl
        have hwb : decide (0 < w) = false := by simp only [decide_eq_false_iff_not]; omega
        rw [hwb] at a3
        rw [run_loop]
        generalize MC.loop keep7_0 body7_0 = L
        by_cases hTe : Ts x noneF = []
        · have hl0 : lT = 0 := by rw [← hlT, hTe]; rfl
          subst hl0
          rw [if_pos hTe] at a3
          simp (maxSteps := 10000000) [-List.getD_eq_getElem?_getD, -binA, -binI, -ixsA, -List.all_eq_true, bi_eql, bi_neq, bi_lss, bi_gtr, bi_add, body7_0, keep7_0, head7, st7, PB.cells, hlt', hw, hix, hsc, a1, a2, a3, hvp, hcp, hvp2, hcp2, hmp, hmu, hvu, hcu, ho, hlT, hgt, hgi, hw0, wsum]
        · obtain ⟨e1, e2⟩ := hne hTe
          have e3 : 0 < lT := by rw [← hlT]; exact List.length_pos_iff.2 hTe
          have e4 : ¬ lT = 0 := by omega
          rw [if_neg hTe] at a3
          simp (maxSteps := 10000000) [-List.getD_eq_getElem?_getD, -binA, -binI, -ixsA, -List.all_eq_true, bi_eql, bi_neq, bi_lss, bi_gtr, bi_add, body7_0, keep7_0, head7, st7, PB.cells, hlt', hw, hix, hsc, a1, a2, a3, hvp, hcp, hvp2, hcp2, hmp, hmu, hvu, hcu, ho, hlT, hgt, hgi, hw0, wsum, e1, e2, e3, e4]
      rw [key]
      obtain ⟨L, g⟩ := IH many (sum + w) set o hlt hd' (by omega) (by omega) hse ho
      refine ⟨L, ?_⟩
      have h0 : ¬ 0 < w := by omega
      have e2 : sum + (w + sumN (rest.map (segs x.N.toNat v (Ts x noneF)))) = sum + w + sumN (rest.map (segs x.N.toNat v (Ts x noneF))) := by omega
      rw [if_neg h0, List.nil_append, e2]
      exact g
    · have hTe : Ts x noneF ≠ [] := fun hh => by have := hT0 hh; omega
      have key : run Cv 7 (.loop keep7_0 body7_0) (head7 x v i (linesN s x.N.toNat) many sum set o k) (st7 x n0 n1) = run Cv 7 (.loop keep7_0 body7_0) (head7 x v i (linesN s x.N.toNat) (many + 1) (sum + w) (set ||| 2 ^ n) (rowN l) (k + 1)) (st7 x n0 n1) := by
        have hgt : 0 < w := by omega
        have hgi : (w : Int) > 0 := by omega
        have hwb : decide (0 < w) = true := by simp only [decide_eq_true_eq]; omega
        rw [hwb] at a3
        obtain ⟨e1, e2⟩ := hne hTe
        have e3 : 0 < lT := by rw [← hlT]; exact List.length_pos_iff.2 hTe
        have e4 : ¬ lT = 0 := by omega
        rw [if_neg hTe] at a3
        generalize ((2 ^ n : Nat) : Int) = P at *
        rw [run_loop]
        generalize MC.loop keep7_0 body7_0 = L
        simp (maxSteps := 10000000) [-List.getD_eq_getElem?_getD, -binA, -binI, -ixsA, -List.all_eq_true, bi_eql, bi_neq, bi_lss, bi_gtr, bi_add, body7_0, keep7_0, head7, st7, PB.cells, hlt', hw, hix, hsc, a1, a2, a3, hvp, hcp, hvp2, hcp2, hmp, hmu, hvu, hcu, ho, hlT, hgt, hgi, wsum, wmany, e1, e2, e3, e4, hix2, hsh, hor]
      rw [key]
      obtain ⟨L, g⟩ := IH (many + 1) (sum + w) (set ||| 2 ^ n) (rowN l) hlt hd' (by omega) (by omega) (or_lt set n hse (by omega)) (fun _ _ _ _ _ => rfl)
      refine ⟨L, ?_⟩
      have e1 : many + ((withW (segs x.N.toNat v (Ts x noneF)) rest).length + 1) = many + 1 + (withW (segs x.N.toNat v (Ts x noneF)) rest).length := by omega
      have e2 : sum + (w + sumN (rest.map (segs x.N.toNat v (Ts x noneF)))) = sum + w + sumN (rest.map (segs x.N.toNat v (Ts x noneF))) := by omega
      rw [if_pos hz, List.singleton_append, List.length_cons, List.map_cons, onlyV_cons, gatN, hn, if_pos (by omega), Int.toNat_natCast, e1, e2]
      exact g
end Go.Ai
