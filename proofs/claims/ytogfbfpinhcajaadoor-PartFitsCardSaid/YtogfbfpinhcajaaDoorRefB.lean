/- This text shows what the reference answers: pieces, Right, Ways, Notes, Line. No conditions of its own. -/
import Derived.Test.YtogfbfpinhcajaaDoorRefA
set_option linter.unusedSimpArgs false
set_option linter.unusedVariables false
set_option maxRecDepth 100000
set_option linter.unusedSimpArgs false
set_option linter.unusedVariables false
/-! The reference's pieces. -/
namespace Go.Ai
open Go.Part (Sp Cp Bk truths cnt at' vals dfs lineK stepOk copiedK agreeK agree pieces prevOk lines)
theorem rowG_len {es : List AV} {r : AV} (h : IsRow 1 es r) : lenA r = some (I es.length) := by
  rcases h with ⟨rfl, rfl⟩ | ⟨rfl, rfl⟩ | ⟨c, hc, rfl⟩ <;> rfl
def pieceV (p : List (List Int)) : AV := .sl 1 (p.map rowR) .no
def someP (P : List (List Int)) : AV := if P = [] then .nils else pieceV P
theorem someP_len (q : List (List Int)) : lenA (someP q) = some (I q.length) := by
  unfold someP
  split
  · rename_i h; rw [h]; rfl
  · simp [pieceV]
theorem someP_pur (σ : St) (n : Nat) (q : List (List Int)) : pur σ (n + 1) (someP q) = some (someP q, false) := by
  unfold someP; split <;> rfl
theorem someP_under (a b c d n : Nat) (q : List (List Int)) : under a b c d (n + 1) (someP q) = true := by
  unfold someP; split <;> rfl
theorem someP_last {q : List (List Int)} (h : q ≠ []) : ixsA 1 (someP q) (I ((q.length : Int) - 1)) = some (.rp [rowR (q.getLast h)] 0) := by
  have hp := List.length_pos_iff.2 h
  have h2 : ((q.length : Int) - 1).toNat = q.length - 1 := by omega
  have h3 : q.length - 1 < q.length := by omega
  have h4 : (0 : Int) ≤ (q.length : Int) - 1 ∧ (q.length : Int) - 1 < (q.length : Int) := by omega
  rw [List.getLast_eq_getElem]
  simp only [someP, if_neg h, pieceV, ixsA, List.length_map, h4, and_self, if_true, h2]
  simp [h3, rowR, AV.cells]
def V1 (P : List (List Int)) (n : Nat) : AV := if P = [] then .sl 1 [] .full else .sl 1 (P.map rowR) (.chain n)
def C1 (P : List (List Int)) (C : List (Nat × Nat)) : List (Nat × Nat) := if P = [] then C else C ++ [(P.length, 1)]
theorem appP1 (bx : List (List AV)) (C : List (Nat × Nat)) (P : List (List Int)) (hP : P.length < 100) : appA (stG bx C) false 1 24 false (.sl 1 [] .full) (someP P) = some (V1 P C.length, stG bx (C1 P C)) := by
  unfold someP V1 C1
  by_cases h : P = []
  · simp [h, appA, elemsA, isSl]
  · have hb : P.length * 24 ≤ 140737488355328 := by omega
    simp [h, appA, elemsA, pieceV, grown, stG, hb]
theorem appP2 (bx : List (List AV)) (C : List (Nat × Nat)) (P : List (List Int)) (hP : P.length < 100) (l : List Int) : appA (stG bx (C1 P C)) false 1 24 false (V1 P C.length) (.sl 1 [rowR l] .full) = some (.sl 1 ((P ++ [l]).map rowR) (.chain C.length), stG bx (C ++ [(P.length + 1, 1)])) := by
  unfold V1 C1
  by_cases h : P = []
  · simp [h, appA, elemsA, grown, stG]
  · have hb : (P.length + 1) * 24 ≤ 140737488355328 := by omega
    simp [h, appA, elemsA, grown, stG, hb]
/-- What one line gives. -/
def nextP (x : PB) (set : Nat) (ss : List Sp) (P : List (List Int)) (l : List Int) : List (List (List Int)) :=
  (if copiedK (outB set) P.length l (x.copies.map CpV.cp) 0 && prevOk (bkOf x) P.getLast? l then (pieces (bkOf x) (outB set) ss (P.length + 1) (some l)).map (l :: ·) else []).map (P ++ ·)
theorem pieces_len (b : Bk) (out : Nat → Bool) (hl : ∀ s ∈ b.spans, (lines b s).length ≤ 27) : ∀ (ss : List Sp) (k : Nat) (prev : Option (List Int)), (∀ s ∈ ss, s ∈ b.spans) → (pieces b out ss k prev).length ≤ 27 ^ ss.length
  | [], _, _, _ => by simp [pieces]
  | s :: ss, k, prev, hs => by
    rw [pieces, List.length_cons, Nat.pow_succ]
    have := flat_len (fun l => if copiedK out k l b.copies 0 && prevOk b prev l then (pieces b out ss (k + 1) (some l)).map (l :: ·) else []) (27 ^ ss.length) (lines b s) fun l _ => by
      split
      · rw [List.length_map]; exact pieces_len b out hl ss _ _ fun s h => hs s (.tail _ h)
      · simp
    calc _ ≤ (lines b s).length * 27 ^ ss.length := this
      _ ≤ 27 ^ ss.length * 27 := by rw [Nat.mul_comm]; exact Nat.mul_le_mul_left _ (hl s (hs s (.head _)))
theorem lines_len {x : PB} (h : ChkR x) {s : Sp} (hs : s ∈ x.spans) : (lines (bkOf x) s).length ≤ 27 := by
  have hN := h.N
  exact Nat.le_trans (dfs_len _ _ (vals_len s (h.wide s hs)) x.N.toNat []) (pow27 (by omega))
theorem lines_in {x : PB} (h : ChkR x) {s : Sp} (hs : s ∈ x.spans) : ∀ l ∈ lines (bkOf x) s, l.length = x.N.toNat ∧ ∀ n ∈ l, 0 ≤ n ∧ n ≤ 12 := fun l hl => by
  rw [Part.lines_eq, List.mem_filter, Part.seqs_mem] at hl
  obtain ⟨⟨h1, h2⟩, _⟩ := hl
  rw [List.length_replicate] at h1
  refine ⟨h1, fun n hn => ?_⟩
  obtain ⟨i, hi⟩ := List.getElem?_of_mem hn
  have hlt := (List.getElem?_eq_some_iff.1 hi).1
  have h3 := Part.vals_mem.1 (h2 i n (vals s) hi (by rw [List.getElem?_replicate, if_pos (by rw [← h1]; exact hlt)]))
  have h4 := h.spans s hs
  omega
def head67 (set : Nat) (P : List (List Int)) (r0 : AV) (L0 : List (Nat × Nat)) (acc : List AV) (j : Int) : Env := mkE 69 .any [(10, I j), (9, r0), (8, accG L0 acc), (7, I P.length), (3, .box 0 0), (2, someP P), (1, I set)]
theorem loop67 (x : PB) (hx : x.Ok) (h : ChkR x) (set : Nat) (hset : set < 2 ^ 62) (P : List (List Int)) (hP : P.length < 3) (hPl : ∀ l ∈ P, l.length = x.N.toNat ∧ ∀ n ∈ l, 0 ≤ n ∧ n ≤ 12) (ss : List Sp) (ls : List (List Int)) (hls : ls.length ≤ 27) (hll : ∀ l ∈ ls, l.length = x.N.toNat ∧ ∀ n ∈ l, 0 ≤ n ∧ n ≤ 12) (r0 : AV) (hr0 : IsRow 1 (ls.map rowR) r0)
    (hrec : ∀ l ∈ ls, ∃ r, IsRow 1 (((pieces (bkOf x) (outB set) ss (P ++ [l]).length (P ++ [l]).getLast?).map ((P ++ [l]) ++ ·)).map pieceV) r ∧ call Cv 67 [x.av, I set, someP (P ++ [l])] = some r)
    (hlen : ∀ l, (pieces (bkOf x) (outB set) ss (P.length + 1) (some l)).length ≤ 729) : ∀ (rest : List (List Int)) (j : Nat) (L0 : List (Nat × Nat)) (acc : List AV), j ≤ ls.length → ls.drop j = rest → acc.length ≤ 729 * j →
    ∃ L σ L1, run Cv 67 (.loop keep67_0 body67_0) (head67 set P r0 L0 acc j) (stG [x.cells] (L0 ++ tlG acc)) = some (.ex 0, mkE 69 .any L, σ) ∧ gt (mkE 69 .any L) 8 = accG L1 (acc ++ (rest.flatMap fun l => nextP x set ss P l).map pieceV)
  | [], j, L0, acc, hj, hd, ha => by
    obtain rfl := drop_nil hj hd
    have hol := rowG_len hr0
    rw [List.length_map] at hol
    rw [run_loop]
    simp (maxSteps := 10000000) [-List.getD_eq_getElem?_getD, body67_0, keep67_0, head67, stG, hol]
    exact ⟨_, rfl, L0, by simp (maxSteps := 10000000) [-List.getD_eq_getElem?_getD, ]⟩
  | l :: rest, j, L0, acc, hj, hd, ha => by
    obtain ⟨hlt, hg, hd'⟩ := head_drop hd
    have hlt' : (j : Int) < (ls.length : Int) := by omega
    have hw := wrap_succ hlt (by omega)
    have hol := rowG_len hr0
    rw [List.length_map] at hol
    have hlm : l ∈ ls := hg ▸ List.getElem_mem _
    obtain ⟨hl1, hl2⟩ := hll l hlm
    have hN := h.N
    have hix : ixsA 1 r0 (I j) = some (.rp [rowR l] 0) := by
      obtain ⟨cc, hcc, hr⟩ := hr0.sl (by intro hn; simp at hn; rw [hn] at hlt; simp at hlt)
      rw [hr]
      simp [ixsA, hlt, hg, rowR, AV.cells]
    have hru := hr0.under
    have hvu := hx.vrow.under
    have hcu := hx.crow.under
    have hvp := hx.vrow.pur
    have hcp := hx.crow.pur
    have hsl := someP_len P
    have hsp := fun σ n => someP_pur σ n P
    have hsu := fun a b c d n => someP_under a b c d n P
    have hlp : ∀ l σ n, pur σ (n + 1) (rowR l) = some (rowR l, false) := fun _ _ _ => rfl
    have hlu : ∀ l a b c d n, under a b c d (n + 1) (rowR l) = true := fun _ _ _ _ _ _ => rfl
    have hcopy := copied_call x hx P.length l (by omega) set hset
    have key : ∃ L1, run Cv 67 (.loop keep67_0 body67_0) (head67 set P r0 L0 acc j) (stG [x.cells] (L0 ++ tlG acc)) = run Cv 67 (.loop keep67_0 body67_0) (head67 set P r0 L1 (acc ++ (nextP x set ss P l).map pieceV) (j + 1)) (stG [x.cells] (L1 ++ tlG (acc ++ (nextP x set ss P l).map pieceV))) := by
      cases hg : (copiedK (outB set) P.length l (x.copies.map CpV.cp) 0 && prevOk (bkOf x) P.getLast? l) with
      | true =>
        obtain ⟨r, hr, hc⟩ := hrec l hlm
        have hnx : nextP x set ss P l = (pieces (bkOf x) (outB set) ss (P ++ [l]).length (P ++ [l]).getLast?).map ((P ++ [l]) ++ ·) := by
          rw [nextP, if_pos hg, List.map_map]
          simp only [List.length_append, List.length_singleton, List.getLast?_append, List.getLast?_singleton, Option.some_or]
          refine List.map_congr_left fun p _ => ?_
          simp
        have hl := hlen l
        have hl' : (nextP x set ss P l).length ≤ 729 := by
          rw [hnx, List.length_map]
          simp only [List.length_append, List.length_singleton, List.getLast?_append, List.getLast?_singleton, Option.some_or]
          exact hl
        rw [← hnx] at hr
        obtain ⟨g1, g2⟩ := Bool.and_eq_true_iff.1 hg
        rw [g1] at hcopy
        have happ := app_G [x.cells] L0 [(P.length + 1, 1)] acc _ r hr (by rw [List.length_map]; omega)
        rw [accGN_eq] at happ
        have hcut := cut_G [x.cells] L0 [(P.length + 1, 1)] acc ((nextP x set ss P l).map pieceV)
        simp only [accGN_eq] at hcut
        have ap1 := appP1 [x.cells] (L0 ++ tlG acc) P (by omega)
        have ap2 := appP2 [x.cells] (L0 ++ tlG acc) P (by omega) l
        have hpc : ∀ σ n c, pur σ (n + 1) (.sl 1 ((P ++ [l]).map rowR) (.chain c)) = some (someP (P ++ [l]), false) := fun σ n c => by
          have : P ++ [l] ≠ [] := by simp
          simp [pur, someP, pieceV, Cap.pure]
        refine ⟨nextL L0 [(P.length + 1, 1)] acc ((nextP x set ss P l).map pieceV), ?_⟩
        have hf1 : fillE 1 false [(0, rowR l)] [.nils] = some [rowR l] := rfl
        have hr1 : List.replicate 1 AV.nils = [.nils] := rfl
        have hr0' : List.replicate 0 AV.nils = [] := rfl
        have hf0 : fillE 1 false [] [] = some [] := rfl
        generalize (P ++ [l]).map rowR = Q at *
        generalize someP (P ++ [l]) = SQ at *
        generalize (nextP x set ss P l).map pieceV = vs at *
        generalize nextL L0 [(P.length + 1, 1)] acc vs = L1 at *
        generalize tlGN L0 [(P.length + 1, 1)] acc vs = T at *
        generalize V1 P (L0 ++ tlG acc).length = v1 at *
        generalize C1 P (L0 ++ tlG acc) = c1 at *
        generalize (L0 ++ tlG acc).length = cl at *
        simp only [PB.av, PB.cells, stG, List.append_assoc] at happ hcut hc ap1 ap2 hcopy
        rw [run_loop]
        generalize MC.loop keep67_0 body67_0 = L
        by_cases hq0 : P = []
        · have e0 : ((P.length : Int) == 0) = true := by rw [hq0]; rfl
          simp (maxSteps := 10000000) [-List.getD_eq_getElem?_getD, -ixsA, -cut, -List.all_eq_true, body67_0, keep67_0, head67, stG, PB.cells, hlt', hw, hol, hix, hvp, hcp, hsl, hsp, hlp, e0, hcopy, hc, happ, ap1, ap2, hpc, hf1, hf0, hr1, hr0']
          rw [hcut _ 8 (by rw [mkE_len]; decide) (by simp (maxSteps := 10000000) [-List.getD_eq_getElem?_getD, ])]
          · intro nc _ h2
            simp (maxSteps := 10000000) [-List.getD_eq_getElem?_getD, -List.all_eq_true, h2, hsu, hru]
          · intro nc
            simp (maxSteps := 10000000) [-List.getD_eq_getElem?_getD, -List.all_eq_true, hvu, hcu]
        · have e0 : ((P.length : Int) == 0) = false := by simp; exact hq0
          have hp := List.length_pos_iff.2 hq0
          have hi2 := someP_last hq0
          have w1 : IntKind.wrap .i64 ((P.length : Int) - 1) = (P.length : Int) - 1 := wrap_small (by omega) (by omega)
          have hla := hPl _ (List.getLast_mem hq0)
          have hag := agree_call x hx h (P.getLast hq0) l hla.1 hl1 hla.2 hl2
          rw [List.getLast?_eq_some_getLast hq0] at g2
          simp only [prevOk] at g2
          rw [g2] at hag
          simp only [PB.av, PB.cells] at hag
          simp (maxSteps := 10000000) [-List.getD_eq_getElem?_getD, -ixsA, -cut, -List.all_eq_true, body67_0, keep67_0, head67, stG, PB.cells, hlt', hw, hol, hix, hvp, hcp, hsl, hsp, hlp, e0, hcopy, hc, happ, ap1, ap2, hpc, hf1, hf0, hr1, hr0', w1, hi2, hag]
          rw [hcut _ 8 (by rw [mkE_len]; decide) (by simp (maxSteps := 10000000) [-List.getD_eq_getElem?_getD, ])]
          · intro nc _ h2
            simp (maxSteps := 10000000) [-List.getD_eq_getElem?_getD, -List.all_eq_true, h2, hsu, hru]
          · intro nc
            simp (maxSteps := 10000000) [-List.getD_eq_getElem?_getD, -List.all_eq_true, hvu, hcu]
      | false =>
        have hnx : nextP x set ss P l = [] := by rw [nextP, if_neg (by rw [hg]; simp)]; rfl
        rw [hnx, List.map_nil, List.append_nil]
        refine ⟨L0, ?_⟩
        have s1 : ∀ e, cut { boxes := [x.cells], chains := L0 ++ tlG acc } { boxes := [x.cells], chains := L0 ++ tlG acc } e = { boxes := [x.cells], chains := L0 ++ tlG acc } := fun e => cut_self _ _ (by simp) (by simp)
        simp only [PB.cells] at s1
        simp only [PB.av, PB.cells] at hcopy
        rw [run_loop]
        generalize MC.loop keep67_0 body67_0 = L
        cases g1 : copiedK (outB set) P.length l (x.copies.map CpV.cp) 0 with
        | false =>
          rw [g1] at hcopy
          simp (maxSteps := 10000000) [-List.getD_eq_getElem?_getD, -ixsA, -cut, -List.all_eq_true, body67_0, keep67_0, head67, stG, PB.cells, hlt', hw, hol, hix, hvp, hcp, hsl, hsp, hlp, hcopy, s1]
        | true =>
          rw [g1] at hcopy hg
          rw [Bool.true_and] at hg
          have hq0 : P ≠ [] := fun h0 => by rw [h0] at hg; simp [prevOk] at hg
          have e0 : ((P.length : Int) == 0) = false := by simp; exact hq0
          have hp := List.length_pos_iff.2 hq0
          have hi2 := someP_last hq0
          have w1 : IntKind.wrap .i64 ((P.length : Int) - 1) = (P.length : Int) - 1 := wrap_small (by omega) (by omega)
          have hla := hPl _ (List.getLast_mem hq0)
          have hag := agree_call x hx h (P.getLast hq0) l hla.1 hl1 hla.2 hl2
          rw [List.getLast?_eq_some_getLast hq0] at hg
          simp only [prevOk] at hg
          rw [hg] at hag
          simp only [PB.av, PB.cells] at hag
          simp (maxSteps := 10000000) [-List.getD_eq_getElem?_getD, -ixsA, -cut, -List.all_eq_true, body67_0, keep67_0, head67, stG, PB.cells, hlt', hw, hol, hix, hvp, hcp, hsl, hsp, hlp, e0, hcopy, w1, hi2, hag, s1]
    obtain ⟨L1, key⟩ := key
    rw [key]
    have hnl : (nextP x set ss P l).length ≤ 729 := by
      unfold nextP
      rw [List.length_map]
      split
      · rw [List.length_map]; exact hlen l
      · simp
    obtain ⟨L, σ, L2, g1, g2⟩ := loop67 x hx h set hset P hP hPl ss ls hls hll r0 hr0 hrec hlen rest (j + 1) L1 (acc ++ (nextP x set ss P l).map pieceV) hlt hd' (by rw [List.length_append, List.length_map]; omega)
    refine ⟨L, σ, L2, g1, ?_⟩
    rw [g2, List.append_assoc, ← List.map_append, List.flatMap_cons]
end Go.Ai

set_option maxRecDepth 100000
set_option linter.unusedSimpArgs false
set_option linter.unusedVariables false
/-! The reference's pieces, and what is asked of them. -/
namespace Go.Ai
open Go.Part (Sp Cp Bk truths cnt at' vals dfs lineK stepOk copiedK agreeK agree pieces prevOk lines)
open Go.Least (hasB)
theorem next_pieces (x : PB) (set : Nat) (s : Sp) (ss : List Sp) (P : List (List Int)) : (lines (bkOf x) s).flatMap (fun l => nextP x set ss P l) = (pieces (bkOf x) (outB set) (s :: ss) P.length P.getLast?).map (P ++ ·) := by
  rw [pieces, List.map_flatMap]
  rfl
theorem rPieces_call (x : PB) (hx : x.Ok) (h : ChkR x) (set : Nat) (hset : set < 2 ^ 62) : ∀ (ss : List Sp) (P : List (List Int)), x.spans.drop P.length = ss → P.length ≤ x.spans.length → (∀ l ∈ P, l.length = x.N.toNat ∧ ∀ n ∈ l, 0 ≤ n ∧ n ≤ 12) →
    ∃ r, IsRow 1 (((pieces (bkOf x) (outB set) ss P.length P.getLast?).map (P ++ ·)).map pieceV) r ∧ call Cv 67 [x.av, I set, someP P] = some r
  | [], P, hd, hle, hP => by
    have hV := h.V
    have hl : P.length = x.spans.length := by
      have := congrArg List.length hd
      simp at this; omega
    have hP0 : P ≠ [] := fun h0 => by rw [h0] at hl; simp at hl; omega
    have e0 : ((P.length : Int) == (x.spans.length : Int)) = true := by simp; omega
    have hsl := someP_len P
    have hsv : someP P = pieceV P := by unfold someP; rw [if_neg hP0]
    have hfl : fillE 1 false [(0, pieceV P)] [.nils] = some [pieceV P] := rfl
    rw [hsv] at hsl ⊢
    have hr1 : List.replicate 1 AV.nils = [.nils] := rfl
    have hvl := vlen hx
    have hvc := hx.vrow.cell
    have hcc := hx.crow.cell
    refine ⟨.sl 1 [pieceV P] .full, .inr (.inr ⟨.full, rfl, ?_⟩), ?_⟩
    · simp [pieces]
    rw [call_run comp67 (Nat.le_of_ble_eq_true rfl)]
    simp (maxSteps := 10000000) [-List.getD_eq_getElem?_getD, code67, PB.av, PB.cells, hvc, hcc, hvl, hsl, e0, hfl, hr1]
  | s :: ss, P, hd, hle, hP => by
    have hN := h.N
    have hV := h.V
    have hlt : P.length < x.spans.length := by
      have := congrArg List.length hd
      simp at this; omega
    have hg : x.spans[P.length] = s := by
      have := List.drop_eq_getElem_cons hlt
      rw [hd] at this
      exact (List.cons.inj this).1.symm
    have hd' : x.spans.drop (P.length + 1) = ss := by
      have := List.drop_eq_getElem_cons hlt
      rw [hd] at this
      exact (List.cons.inj this).2.symm
    have hsm : s ∈ x.spans := hg ▸ List.getElem_mem _
    have hin := lines_in h hsm
    have hsub : ∀ y ∈ ss, y ∈ (bkOf x).spans := fun y hy => by
      have : y ∈ x.spans.drop (P.length + 1) := by rw [hd']; exact hy
      exact List.mem_of_mem_drop this
    have hsl : ss.length ≤ 2 := by
      have := congrArg List.length hd'
      simp at this; omega
    obtain ⟨r0, hr0, hc0⟩ := rLines_call x hx h (v := P.length) (s := s) (by rw [List.getElem?_eq_getElem hlt, hg]) x.N.toNat [] (by simp) (fun n hn => absurd hn List.not_mem_nil)
    obtain ⟨L, σ, L1, h0, g8⟩ := loop67 x hx h set hset P (by omega) hP ss (lines (bkOf x) s) (lines_len h hsm) hin r0 hr0 (fun l hl => rPieces_call x hx h set hset ss (P ++ [l]) (by rw [List.length_append]; exact hd') (by rw [List.length_append, List.length_singleton]; omega) (fun y hy => by
        rcases List.mem_append.1 hy with hy | hy
        · exact hP y hy
        · rw [List.mem_singleton.1 hy]; exact hin l hl)) (fun l => by
        have := pieces_len (bkOf x) (outB set) (fun s hs => lines_len h hs) ss (P.length + 1) (some l) hsub
        have hp : 27 ^ ss.length ≤ 27 ^ 2 := Nat.pow_le_pow_right (by omega) hsl
        omega) (lines (bkOf x) s) 0 [] [] (Nat.zero_le _) rfl (Nat.zero_le _)
    rw [List.nil_append, next_pieces] at g8
    obtain ⟨r, hr, hp⟩ := accG_row L1 (((pieces (bkOf x) (outB set) (s :: ss) P.length P.getLast?).map (P ++ ·)).map pieceV)
    refine ⟨r, hr, ?_⟩
    have hin' := fun E (hE : mask keep67_0 E = _) => run_at h0 hE
    have k0 : accG [] [] = .nils := rfl
    have k1 : tlG [] = [] := rfl
    have e5 : ((0 : Nat) : Int) = 0 := rfl
    simp only [stG, head67, keep67_0, PB.cells, k0, k1, List.append_nil, e5] at hin'
    have e0 : ((P.length : Int) == (x.spans.length : Int)) = false := by simp; omega
    have hsl' := someP_len P
    have hsp := fun σ n => someP_pur σ n P
    have hvl := vlen hx
    have hvc := hx.vrow.cell
    have hcc := hx.crow.cell
    have hvp := hx.vrow.pur
    have hcp := hx.crow.pur
    have hs0 : someV [] = .nils := rfl
    rw [hs0] at hc0
    simp only [PB.av, PB.cells] at hc0
    generalize ((pieces (bkOf x) (outB set) (s :: ss) P.length P.getLast?).map (P ++ ·)).map pieceV = F at *
    rw [call_run comp67 (Nat.le_of_ble_eq_true rfl)]
    simp (maxSteps := 10000000) [-List.getD_eq_getElem?_getD, -List.all_eq_true, code67, PB.av, PB.cells, hvc, hcc, hvp, hcp, hvl, hsl', hsp, e0, hc0, keep67_0, hin', g8, hp]
/-- The pieces of a book. -/
def Pp (x : PB) (set : Nat) : List (List (List Int)) := pieces (bkOf x) (outB set) x.spans 0 none
theorem pieces_call (x : PB) (hx : x.Ok) (h : ChkR x) (set : Nat) (hset : set < 2 ^ 62) : ∃ r, IsRow 1 ((Pp x set).map pieceV) r ∧ call Cv 67 [x.av, I set, .nils] = some r := by
  obtain ⟨r, hr, hc⟩ := rPieces_call x hx h set hset x.spans [] rfl (Nat.zero_le _) fun l hl => absurd hl List.not_mem_nil
  refine ⟨r, ?_, hc⟩
  have : (pieces (bkOf x) (outB set) x.spans ([] : List (List Int)).length ([] : List (List Int)).getLast?).map (([] : List (List Int)) ++ ·) = Pp x set := by
    simp [Pp]
  rw [this] at hr
  exact hr
theorem Pp_flat {x : PB} (h : ChkR x) (set : Nat) : (Pp x set).map List.flatten = Ts x (outB set) := by
  have hN := h.N
  refine Part.truths_eq (b := bkOf x) (out := outB set) (by show 0 < x.N.toNat; omega) fun c hc => ?_
  obtain ⟨c', hc', rfl⟩ := List.mem_map.1 hc
  have := (h.copies c' hc').2.2.1
  show c'.cp.notes.length = x.N.toNat
  omega
theorem Pp_len {x : PB} (h : ChkR x) (set : Nat) : (Pp x set).length = (Ts x (outB set)).length := by
  rw [← Pp_flat h, List.length_map]
theorem pieces_in (b : Bk) (out : Nat → Bool) (Q : List Int → Prop) : ∀ (ss : List Sp) (k : Nat) (prev : Option (List Int)), (∀ s ∈ ss, ∀ l ∈ lines b s, Q l) → ∀ p ∈ pieces b out ss k prev, p.length = ss.length ∧ ∀ l ∈ p, Q l
  | [], _, _, _, p, hp => by
    rw [pieces, List.mem_singleton] at hp
    subst hp
    exact ⟨rfl, fun l hl => absurd hl List.not_mem_nil⟩
  | s :: ss, k, prev, hs, p, hp => by
    rw [pieces, List.mem_flatMap] at hp
    obtain ⟨l, hl, hp⟩ := hp
    split at hp
    · obtain ⟨q, hq, rfl⟩ := List.mem_map.1 hp
      have := pieces_in b out Q ss _ _ (fun s h => hs s (.tail _ h)) q hq
      refine ⟨by rw [List.length_cons, List.length_cons, this.1], fun y hy => ?_⟩
      rcases List.mem_cons.1 hy with rfl | hy
      · exact hs s (.head _) _ hl
      · exact this.2 y hy
    · cases hp
theorem Pp_in {x : PB} (h : ChkR x) {set : Nat} : ∀ p ∈ Pp x set, p.length = x.spans.length ∧ ∀ l ∈ p, l.length = x.N.toNat ∧ ∀ n ∈ l, 0 ≤ n ∧ n ≤ 12 := fun p hp =>
  pieces_in (bkOf x) (outB set) (fun l => l.length = x.N.toNat ∧ ∀ n ∈ l, 0 ≤ n ∧ n ≤ 12) x.spans 0 none (fun s hs l hl => lines_in h hs l hl) p hp
theorem flat_at {N : Nat} : ∀ (p : List (List Int)) (v i : Nat), (∀ l ∈ p, l.length = N) → i < N → v < p.length → at' p.flatten (v * N + i) = at' (p.getD v []) i
  | [], v, i, _, _, hv => by simp at hv
  | l :: p, 0, i, hl, hi, _ => by
    have h1 := hl l (.head _)
    simp only [at', List.flatten_cons, Nat.zero_mul, Nat.zero_add, List.getD_eq_getElem?_getD]
    rw [List.getElem?_append_left (by omega)]
    rfl
  | l :: p, v + 1, i, hl, hi, hv => by
    have h1 := hl l (.head _)
    have := flat_at p v i (fun l h => hl l (.tail _ h)) hi (by simpa using hv)
    simp only [at', List.flatten_cons, List.getD_eq_getElem?_getD, List.getElem?_cons_succ] at this ⊢
    rw [List.getElem?_append_right (by rw [h1, Nat.add_mul]; omega), ← this]
    congr 2
    rw [h1, Nat.add_mul]; omega
theorem outB_zero : outB 0 = noneF := by
  funext k
  simp [outB, noneF, hasB]
theorem Pp_zero {x : PB} (h : ChkR x) : (Pp x 0).map List.flatten = Ts x noneF := by rw [Pp_flat h, outB_zero]
theorem asked_call_ref (x : PB) (hx : x.Ok) (ok : Bool) : ∃ r, (ansE x ok = 0 → IsRow 1 ((Pp x 0).map pieceV) r) ∧ call Cv 70 [x.av, .bool ok] = some (.tup [r, I (ansE x ok)]) ∧ (∀ σ n, pur σ (n + 1) r = some (r, false)) := by
  have hchk := rCheck_call x hx
  have hvc := hx.vrow.cell
  have hcc := hx.crow.cell
  have hvp := hx.vrow.pur
  have hcp := hx.crow.pur
  simp only [PB.av, PB.cells] at hchk
  cases hc : checkOk x with
  | false =>
    have he : ansE x ok = 50 := by simp [ansE, hc]
    rw [hc] at hchk
    simp only [Bool.false_eq_true, if_false] at hchk
    refine ⟨.nils, fun h => (by rw [he] at h; cases h), ?_, fun _ _ => rfl⟩
    rw [he]
    rw [call_run comp70 (Nat.le_of_ble_eq_true rfl)]
    simp (maxSteps := 10000000) [-List.getD_eq_getElem?_getD, ret2, ret3, retc2, code70, PB.av, PB.cells, hvc, hcc, hvp, hcp, hchk]
  | true =>
    rw [hc] at hchk
    simp only [if_true] at hchk
    cases ok with
    | false =>
      have he : ansE x false = 51 := by simp [ansE, hc]
      refine ⟨.nils, fun h => (by rw [he] at h; cases h), ?_, fun _ _ => rfl⟩
      rw [he]
      rw [call_run comp70 (Nat.le_of_ble_eq_true rfl)]
      simp (maxSteps := 10000000) [-List.getD_eq_getElem?_getD, ret2, ret3, retc2, code70, PB.av, PB.cells, hvc, hcc, hvp, hcp, hchk]
    | true =>
      have hk := (chk_of hc).toR
      obtain ⟨r, hr, hp⟩ := pieces_call x hx hk 0 (by decide)
      have hl := rowG_len hr
      rw [List.length_map] at hl
      have hlen := Pp_len hk 0
      rw [outB_zero] at hlen
      have hrp := hr.pur
      have e5 : ((0 : Nat) : Int) = 0 := rfl
      simp only [PB.av, PB.cells, e5] at hp
      by_cases hT : Ts x noneF = []
      · have he : ansE x true = 52 := by simp [ansE, hc, hT]
        have e0 : (((Pp x 0).length : Int) == 0) = true := by rw [hlen, hT]; rfl
        refine ⟨.nils, fun h => (by rw [he] at h; cases h), ?_, fun _ _ => rfl⟩
        rw [he]
        rw [call_run comp70 (Nat.le_of_ble_eq_true rfl)]
        simp (maxSteps := 10000000) [-List.getD_eq_getElem?_getD, ret2, ret3, retc2, code70, PB.av, PB.cells, hvc, hcc, hvp, hcp, hchk, hp, hl, e0]
      · have he : ansE x true = 0 := by simp [ansE, hc, hT]
        have e0 : (((Pp x 0).length : Int) == 0) = false := by rw [hlen]; simp; exact hT
        refine ⟨r, fun _ => hr, ?_, hrp⟩
        rw [he]
        rw [call_run comp70 (Nat.le_of_ble_eq_true rfl)]
        simp (maxSteps := 10000000) [-List.getD_eq_getElem?_getD, ret2, ret3, retc2, code70, PB.av, PB.cells, hvc, hcc, hvp, hcp, hchk, hp, hl, e0, hrp]
theorem rWays_call (x : PB) (hx : x.Ok) : call Cv 20 [x.av] = some (.tup [I (if checkOk x then ((Ts x noneF).length : Int) else 0), I (if checkOk x then 0 else 50)]) := by
  have hchk := rCheck_call x hx
  have hvc := hx.vrow.cell
  have hcc := hx.crow.cell
  have hvp := hx.vrow.pur
  have hcp := hx.crow.pur
  simp only [PB.av, PB.cells] at hchk
  cases hc : checkOk x with
  | false =>
    rw [hc] at hchk
    simp only [Bool.false_eq_true, if_false] at hchk ⊢
    rw [call_run comp20 (Nat.le_of_ble_eq_true rfl)]
    simp (maxSteps := 10000000) [-List.getD_eq_getElem?_getD, ret2, ret3, retc2, code20, PB.av, PB.cells, hvc, hcc, hvp, hcp, hchk]
  | true =>
    rw [hc] at hchk
    simp only [if_true] at hchk ⊢
    have hk := (chk_of hc).toR
    obtain ⟨r, hr, hp⟩ := pieces_call x hx hk 0 (by decide)
    have hl := rowG_len hr
    rw [List.length_map] at hl
    have hlen := Pp_len hk 0
    rw [outB_zero] at hlen
    rw [hlen] at hl
    have e5 : ((0 : Nat) : Int) = 0 := rfl
    simp only [PB.av, PB.cells, e5] at hp
    rw [call_run comp20 (Nat.le_of_ble_eq_true rfl)]
    simp (maxSteps := 10000000) [-List.getD_eq_getElem?_getD, ret2, ret3, retc2, code20, PB.av, PB.cells, hvc, hcc, hvp, hcp, hchk, hp, hl]
end Go.Ai

set_option maxRecDepth 100000
set_option linter.unusedSimpArgs false
set_option linter.unusedVariables false
/-! The reference's Right, and how many truths have a note at a place. -/
namespace Go.Ai
open Go.Part (Sp Cp Bk truths cnt at' vals)
theorem rRight_call (x : PB) (hx : x.Ok) : call Cv 16 [x.av] = some (.tup [.bool (checkOk x && decide (Ts x noneF ≠ [])), I (if checkOk x then 0 else 50)]) := by
  have h1 := rWays_call x hx
  have hvc := hx.vrow.cell
  have hcc := hx.crow.cell
  have hvp := hx.vrow.pur
  have hcp := hx.crow.pur
  simp only [PB.av, PB.cells] at h1
  cases hc : checkOk x with
  | false =>
    rw [hc] at h1
    simp only [Bool.false_eq_true, if_false] at h1 ⊢
    rw [call_run comp16 (Nat.le_of_ble_eq_true rfl)]
    simp (maxSteps := 10000000) [-List.getD_eq_getElem?_getD, ret2, ret3, retc2, code16, PB.av, PB.cells, hvc, hcc, hvp, hcp, h1]
  | true =>
    rw [hc] at h1
    simp only [if_true] at h1 ⊢
    have e : decide (((Ts x noneF).length : Int) > 0) = decide (Ts x noneF ≠ []) := by
      rw [decide_eq_decide, ← List.length_pos_iff]; omega
    by_cases hT : Ts x noneF = []
    · rw [hT] at h1 ⊢
      have e5 : (([] : List (List Int)).length : Int) = 0 := rfl
      rw [e5] at h1
      rw [call_run comp16 (Nat.le_of_ble_eq_true rfl)]
      simp (maxSteps := 10000000) [-List.getD_eq_getElem?_getD, ret2, ret3, retc2, code16, PB.av, PB.cells, hvc, hcc, hvp, hcp, h1]
    · have hp := List.length_pos_iff.2 hT
      have e1 : ((Ts x noneF).length : Int) > 0 := by omega
      have e2 : decide (Ts x noneF ≠ []) = true := by simpa using hT
      rw [e2]
      rw [call_run comp16 (Nat.le_of_ble_eq_true rfl)]
      simp (maxSteps := 10000000) [-List.getD_eq_getElem?_getD, ret2, ret3, retc2, code16, PB.av, PB.cells, hvc, hcc, hvp, hcp, h1, e1, hp]
def cntP (Ls : List (List (List Int))) (v i : Nat) (n : Int) : Nat := (Ls.filter fun p => decide (at' (p.getD v []) i = n)).length
def head73 (r : AV) (v i : Nat) (n : Int) (c k : Int) : Env := mkE 32 .any [(10, I k), (9, I c), (3, I n), (2, I i), (1, I v), (0, r)]
theorem pieceV_at {p : List (List Int)} {v : Nat} (h : v < p.length) : ixsA 1 (pieceV p) (I v) = some (.rp [rowR (p.getD v [])] 0) := by
  simp [pieceV, ixsA, h, rowR, AV.cells]
theorem row_at {Ls : List (List (List Int))} {r : AV} (hr : IsRow 1 (Ls.map pieceV) r) {k : Nat} (h : k < Ls.length) : ixsA 1 r (I k) = some (.rp [pieceV Ls[k]] 0) := by
  obtain ⟨cc, hcc, hr⟩ := hr.sl (by intro hn; simp at hn; rw [hn] at h; simp at h)
  rw [hr]
  simp [ixsA, h, pieceV, AV.cells]
theorem loop73 (Ls : List (List (List Int))) (hL : Ls.length < 1000000) (r : AV) (hr : IsRow 1 (Ls.map pieceV) r) (v i : Nat) (hv : ∀ p ∈ Ls, v < p.length ∧ i < (p.getD v []).length) (n : Int) : ∀ (rest : List (List (List Int))) (k c : Nat), k ≤ Ls.length → Ls.drop k = rest → c ≤ k →
    ∃ L, run Cv 73 (.loop keep73_0 body73_0) (head73 r v i n c k) {} = some (.ex 0, mkE 32 .any L, {}) ∧ gt (mkE 32 .any L) 9 = I ((c + cntP rest v i n : Nat) : Int)
  | [], k, c, hk, hd, hc => by
    obtain rfl := drop_nil hk hd
    have hol := rowG_len hr
    rw [List.length_map] at hol
    have e : c + cntP [] v i n = c := rfl
    rw [e, run_loop]
    simp (maxSteps := 10000000) [-List.getD_eq_getElem?_getD, body73_0, keep73_0, head73, hol]
    exact ⟨_, rfl, by simp (maxSteps := 10000000) [-List.getD_eq_getElem?_getD, ]⟩
  | p :: rest, k, c, hk, hd, hc => by
    obtain ⟨hlt, hg, hd'⟩ := head_drop hd
    have hlt' : (k : Int) < (Ls.length : Int) := by omega
    have hw := wrap_succ hlt (by omega)
    have hw2 : IntKind.wrap .i64 ((c : Int) + 1) = c + 1 := wrap_small (by omega) (by omega)
    have hol := rowG_len hr
    rw [List.length_map] at hol
    have hpm : p ∈ Ls := hg ▸ List.getElem_mem _
    have i1 := row_at hr hlt
    rw [hg] at i1
    have i2 := pieceV_at (hv p hpm).1
    have i3 := rowR_at (hv p hpm).2
    have hru := hr.under
    have e : cntP (p :: rest) v i n = (if at' (p.getD v []) i = n then 1 else 0) + cntP rest v i n := by
      unfold cntP
      rw [List.filter_cons]
      by_cases h : at' (p.getD v []) i = n
      · rw [if_pos h, if_pos (by simpa using h), List.length_cons]; omega
      · rw [if_neg h, if_neg (by simpa using h)]; omega
    have key : run Cv 73 (.loop keep73_0 body73_0) (head73 r v i n c k) {} = run Cv 73 (.loop keep73_0 body73_0) (head73 r v i n ((c + if at' (p.getD v []) i = n then 1 else 0 : Nat) : Int) (k + 1)) {} := by
      generalize p.getD v [] = q at *
      rw [run_loop]
      generalize MC.loop keep73_0 body73_0 = L
      by_cases h : at' q i = n
      · have e1 : (at' q i == n) = true := by simpa using h
        rw [if_pos h]
        have e2 : ((c + 1 : Nat) : Int) = (c : Int) + 1 := by omega
        rw [e2]
        simp (maxSteps := 10000000) [-List.getD_eq_getElem?_getD, -ixsA, body73_0, keep73_0, head73, hol, hlt', hw, hw2, i1, i2, i3, e1, hru]
      · have e1 : (at' q i == n) = false := by simpa using h
        rw [if_neg h, Nat.add_zero]
        simp (maxSteps := 10000000) [-List.getD_eq_getElem?_getD, -ixsA, body73_0, keep73_0, head73, hol, hlt', hw, hw2, i1, i2, i3, e1, hru]
    rw [key]
    obtain ⟨L, g1, g2⟩ := loop73 Ls hL r hr v i hv n rest (k + 1) (c + if at' (p.getD v []) i = n then 1 else 0) hlt hd' (by split <;> omega)
    refine ⟨L, g1, ?_⟩
    rw [g2, e, Nat.add_assoc]
theorem many_call (Ls : List (List (List Int))) (hL : Ls.length < 1000000) (r : AV) (hr : IsRow 1 (Ls.map pieceV) r) (v i : Nat) (hv : ∀ p ∈ Ls, v < p.length ∧ i < (p.getD v []).length) (n : Int) : call Cv 73 [r, I v, I i, I n] = some (I (cntP Ls v i n)) := by
  obtain ⟨L, h0, h9⟩ := loop73 Ls hL r hr v i hv n Ls 0 0 (Nat.zero_le _) rfl (Nat.le_refl _)
  rw [Nat.zero_add] at h9
  have hin := fun E (hE : mask keep73_0 E = _) => run_at h0 hE
  have e5 : ((0 : Nat) : Int) = 0 := rfl
  simp only [head73, keep73_0, e5] at hin
  have hrp := hr.pur
  have hrc := hr.cell
  rw [call_run comp73 (Nat.le_of_ble_eq_true rfl)]
  simp (maxSteps := 10000000) [-List.getD_eq_getElem?_getD, code73, keep73_0, hin, h9, hrp, hrc]
theorem cntP_cnt {x : PB} (h : ChkR x) {set : Nat} {v i : Nat} (hv : v < x.spans.length) (hi : i < x.N.toNat) (n : Int) : cntP (Pp x set) v i n = cnt (Ts x (outB set)) (v * x.N.toNat + i) n := by
  rw [← Pp_flat h set, cnt, cntP, List.filter_map, List.length_map]
  congr 1
  refine List.filter_congr fun p hp => ?_
  have h1 := Pp_in h p hp
  have := flat_at p v i (fun l hl => (h1.2 l hl).1) hi (by rw [h1.1]; exact hv)
  simp only [Function.comp, this]
theorem Pp_place {x : PB} (h : ChkR x) {set : Nat} {v i : Nat} (hv : v < x.spans.length) (hi : i < x.N.toNat) : ∀ p ∈ Pp x set, v < p.length ∧ i < (p.getD v []).length := fun p hp => by
  have h1 := Pp_in h p hp
  have hlt : v < p.length := by rw [h1.1]; exact hv
  refine ⟨hlt, ?_⟩
  rw [List.getD_eq_getElem?_getD, List.getElem?_eq_getElem hlt, Option.getD_some, (h1.2 _ (List.getElem_mem hlt)).1]
  exact hi
theorem Pp_short {x : PB} (h : ChkR x) (set : Nat) : (Pp x set).length < 20000 := by
  have hV := h.V
  have := pieces_len (bkOf x) (outB set) (fun s hs => lines_len h hs) x.spans 0 none (fun s hs => hs)
  have hp : 27 ^ x.spans.length ≤ 27 ^ 3 := Nat.pow_le_pow_right (by omega) hV.2
  unfold Pp
  omega
end Go.Ai

set_option maxRecDepth 100000
set_option linter.unusedSimpArgs false
set_option linter.unusedVariables false
/-! The reference's Notes. -/
namespace Go.Ai
open Go.Part (Sp Cp Bk truths cnt at' vals)
def accE (l : List Int) : AV := if l = [] then .sl 1 [] .full else .sl 1 (ints l) (.chain 0)
theorem accE_row (l : List Int) : ∃ r, IsRow 1 (ints l) r ∧ ∀ σ n, pur σ (n + 1) (accE l) = some (r, false) := by
  unfold accE
  by_cases h : l = []
  · subst h
    exact ⟨.sl 1 [] .full, .inr (.inr ⟨.full, rfl, rfl⟩), fun _ _ => rfl⟩
  · rw [if_neg h]
    exact ⟨.sl 1 (ints l) .no, .inr (.inr ⟨.no, rfl, rfl⟩), fun _ _ => rfl⟩
def head22 (r : AV) (v i : Nat) (acc : List Int) (k : Int) : Env := mkE 44 .any [(11, I k), (10, accE acc), (8, r), (2, I i), (1, I v)]
def st22 (x : PB) (acc : List Int) : St := { boxes := [x.cells], chains := chI acc }
theorem loop22 (x : PB) (hx : x.Ok) (r : AV) (hrp : ∀ σ n, pur σ (n + 1) r = some (r, false)) (hru : ∀ a b c d n, under a b c d (n + 1) r = true) (v i : Nat) (C : List Int) (hC : C.length = 13) (hm : ∀ (k : Nat) (c : Int), C[k]? = some c → call Cv 73 [r, I v, I i, I k] = some (I c)) : ∀ (l : List Int) (k : Nat) (acc : List Int), k ≤ C.length → C.drop k = l → acc.length ≤ k →
    ∃ L σ, run Cv 22 (.loop keep22_0 body22_0) (head22 r v i acc k) (st22 x acc) = some (.ex 0, mkE 44 .any L, σ) ∧ gt (mkE 44 .any L) 10 = accE (acc ++ posL C k l)
  | [], k, acc, hk, h, ha => by
    obtain rfl := drop_nil hk h
    have hlt : ¬ ((C.length : Nat) : Int) ≤ 12 := by omega
    rw [run_loop]
    simp (maxSteps := 10000000) [-List.getD_eq_getElem?_getD, body22_0, keep22_0, head22, st22, posL, hlt]
    exact ⟨_, rfl, by simp (maxSteps := 10000000) [-List.getD_eq_getElem?_getD, ]⟩
  | c :: l, k, acc, hk, h, hacc => by
    obtain ⟨hlt, ha, hd⟩ := head_drop h
    have hw := wrap_succ hlt (by omega)
    have hlt' : ((k : Nat) : Int) ≤ 12 := by omega
    have hbytes : (acc.length + 1) * 8 ≤ 140737488355328 := by omega
    have hCk : C[k]? = some c := by rw [List.getElem?_eq_getElem hlt, ha]
    have hcall := hm k c hCk
    have hvu := hx.vrow.under
    have hcu := hx.crow.under
    have iu := fun a b c d n p => ints_under a b c d n p
    have key : run Cv 22 (.loop keep22_0 body22_0) (head22 r v i acc k) (st22 x acc) = run Cv 22 (.loop keep22_0 body22_0) (head22 r v i (acc ++ if 0 < c then [(k : Int)] else []) (k + 1)) (st22 x (acc ++ if 0 < c then [(k : Int)] else [])) := by
      rw [run_loop]
      generalize MC.loop keep22_0 body22_0 = L
      by_cases hp : 0 < c
      · have hp' : c > 0 := hp
        by_cases ho' : acc = []
        · simp (maxSteps := 10000000) [-List.getD_eq_getElem?_getD, -List.all_eq_true, body22_0, keep22_0, head22, st22, PB.cells, accE, chI, hlt', hcall, hp, hp', hw, ho', hvu, hcu, iu, hru, hrp, fillE, AV.isAgg, appA, elemsA, grown, ints, @all_f 44 .any _ _ 10]
        · simp (maxSteps := 10000000) [-List.getD_eq_getElem?_getD, -List.all_eq_true, body22_0, keep22_0, head22, st22, PB.cells, accE, chI, hlt', hcall, hp, hp', hw, ho', hvu, hcu, iu, hru, hrp, fillE, AV.isAgg, appA, elemsA, grown, ints, hbytes]
      · have hp' : ¬ c > 0 := hp
        by_cases ho' : acc = []
        · simp (maxSteps := 10000000) [-List.getD_eq_getElem?_getD, -List.all_eq_true, body22_0, keep22_0, head22, st22, PB.cells, accE, chI, hlt', hcall, hp, hp', hw, ho', hvu, hcu, iu, hru, hrp]
        · simp (maxSteps := 10000000) [-List.getD_eq_getElem?_getD, -List.all_eq_true, body22_0, keep22_0, head22, st22, PB.cells, accE, chI, hlt', hcall, hp, hp', hw, ho', hvu, hcu, iu, hru, hrp]
    rw [key]
    have := loop22 x hx r hrp hru v i C hC hm l (k + 1) (acc ++ if 0 < c then [(k : Int)] else []) hlt hd (by split <;> simp <;> omega)
    simpa [posL, List.append_assoc] using this
theorem isNote_call (x : PB) (hx : x.Ok) (n : Int) : call Cv 72 [x.av, I n] = some (.bool (lie n 0 (IntKind.wrap .i64 (x.N - 1)))) := by
  have h5 := lies' n 0 (IntKind.wrap .i64 (x.N - 1))
  have hvc := hx.vrow.cell
  have hcc := hx.crow.cell
  rw [call_run comp72 (Nat.le_of_ble_eq_true rfl)]
  simp (maxSteps := 10000000) [-List.getD_eq_getElem?_getD, code72, PB.av, PB.cells, hvc, hcc, h5]
theorem rNotes_call (x : PB) (hx : x.Ok) (v i : Int) : ∃ r, IsRow 1 (ints (if ansE x (isPlace x v i) = 0 then posOf (Ts x noneF) (v.toNat * x.N.toNat + i.toNat) else [])) r ∧ call Cv 22 [x.av, I v, I i] = some (.tup [r, I (ansE x (isPlace x v i))]) := by
  obtain ⟨r0, hr0, h1, hrp⟩ := asked_call_ref x hx (isPlace x v i)
  have w1 := isVoice_call x hx v
  have w2 := isNote_call x hx i
  have hvc := hx.vrow.cell
  have hcc := hx.crow.cell
  have hvp := hx.vrow.pur
  have hcp := hx.crow.pur
  have hpl : isPlace x v i = (lie v 0 ((x.spans.length : Int) - 1) && lie i 0 (IntKind.wrap .i64 (x.N - 1))) := rfl
  simp only [PB.av, PB.cells] at h1 w1 w2
  by_cases he : ansE x (isPlace x v i) = 0
  · obtain ⟨hc, his, hT⟩ := ansE_zero he
    have hk := chk_of hc
    have hN := hk.N
    have hr0' := hr0 he
    rw [hpl, Bool.and_eq_true] at his
    have hq1 := his.1
    have hq2 := his.2
    rw [if_pos he]
    rw [hq1] at w1
    rw [hq2] at w2
    rw [he, hpl, hq1, hq2] at h1
    simp only [Bool.and_self] at h1
    simp only [lie, Bool.and_eq_true, decide_eq_true_eq] at hq1 hq2
    rw [wrap_small (by omega) (by omega)] at hq2
    obtain ⟨v', rfl⟩ := Int.eq_ofNat_of_zero_le hq1.1
    obtain ⟨i', rfl⟩ := Int.eq_ofNat_of_zero_le hq2.1
    have hv' : v' < x.spans.length := by omega
    have hi' : i' < x.N.toNat := by omega
    have hCl : (cntsL (Ts x noneF) (v' * x.N.toNat + i')).length = 13 := by simp [cntsL]
    obtain ⟨L, σ, g0, g10⟩ := loop22 x hx r0 hrp hr0'.under v' i' (cntsL (Ts x noneF) (v' * x.N.toNat + i')) hCl (fun k c hkc => by
      have hk13 : k < 13 := by
        have := (List.getElem?_eq_some_iff.1 hkc).1
        omega
      rw [cntsL, List.getElem?_map, List.getElem?_range hk13] at hkc
      simp only [Option.map_some, Option.some.injEq] at hkc
      rw [← hkc, many_call (Pp x 0) (by have := Pp_short hk.toR 0; omega) r0 hr0' v' i' (Pp_place hk.toR hv' hi') k, cntP_cnt hk.toR hv' hi', outB_zero]) (cntsL (Ts x noneF) (v' * x.N.toNat + i')) 0 [] (Nat.zero_le _) rfl (Nat.le_refl _)
    rw [List.nil_append, show posL (cntsL (Ts x noneF) (v' * x.N.toNat + i')) 0 (cntsL (Ts x noneF) (v' * x.N.toNat + i')) = posOf (Ts x noneF) (v' * x.N.toNat + i') from rfl] at g10
    obtain ⟨r, hr, hp⟩ := accE_row (posOf (Ts x noneF) (v' * x.N.toNat + i'))
    refine ⟨r, by simpa using hr, ?_⟩
    rw [he]
    have hin := fun E (hE : mask keep22_0 E = _) => run_at g0 hE
    have e5 : ((0 : Nat) : Int) = 0 := rfl
    have e6 : accE [] = .sl 1 [] .full := rfl
    have hr0e : List.replicate 0 (I 0) = [] := rfl
    have hf0 : fillE 1 false [] [] = some [] := rfl
    simp only [st22, head22, keep22_0, PB.cells, e5, e6, chI_nil] at hin
    generalize posOf (Ts x noneF) (v' * x.N.toNat + i') = F at *
    rw [call_run comp22 (Nat.le_of_ble_eq_true rfl)]
    simp (maxSteps := 10000000) [-List.getD_eq_getElem?_getD, ret2, ret3, retc2, -List.all_eq_true, code22, PB.av, PB.cells, hvc, hcc, hvp, hcp, w1, w2, h1, hrp, hr0e, hf0, keep22_0, hin, g10, hp]
  · rw [if_neg he]
    refine ⟨.nils, nils_row, ?_⟩
    have hne : (ansE x (isPlace x v i) != 0) = true := by simpa using he
    generalize ansE x (isPlace x v i) = W at *
    rw [hpl] at h1
    generalize hq1 : lie v 0 ((x.spans.length : Int) - 1) = b1 at *
    generalize hq2 : lie i 0 (IntKind.wrap .i64 (x.N - 1)) = b2 at *
    rw [call_run comp22 (Nat.le_of_ble_eq_true rfl)]
    cases b1 <;> cases b2 <;> simp only [Bool.and_true, Bool.and_false, Bool.and_self] at h1 <;>
      simp (maxSteps := 10000000) [-List.getD_eq_getElem?_getD, ret2, ret3, retc2, -List.all_eq_true, code22, PB.av, PB.cells, hvc, hcc, hvp, hcp, w1, w2, h1, hrp, hne]
end Go.Ai

set_option maxRecDepth 100000
set_option linter.unusedSimpArgs false
set_option linter.unusedVariables false
/-! The reference's Line. -/
namespace Go.Ai
open Go.Part (Sp Cp Bk truths cnt at' vals)
theorem knownB_iff {T : List (List Int)} {q : List Int} {j : Nat} : knownB T q j = true ↔ ∀ p ∈ T, at' p j = at' q j := by
  rw [knownB, decide_eq_true_eq, ← Part.cnt_all]
  have := Part.cnt_le T j (at' q j)
  omega
theorem getD_len {N V v : Nat} {p : List (List Int)} (h : p.length = V ∧ ∀ l ∈ p, l.length = N) (hv : v < V) : (p.getD v []).length = N := by
  have hlt : v < p.length := by omega
  rw [List.getD_eq_getElem?_getD, List.getElem?_eq_getElem hlt, Option.getD_some]
  exact h.2 _ (List.getElem_mem hlt)
theorem ext_at {N : Nat} {l m : List Int} (hl : l.length = N) (hm : m.length = N) (h : ∀ j, j < N → at' l j = at' m j) : l = m := by
  refine List.ext_getElem? fun j => ?_
  by_cases hj : j < N
  · have := h j hj
    rw [List.getElem?_eq_getElem (by omega), List.getElem?_eq_getElem (by omega)]
    simpa [at', List.getElem?_eq_getElem (show j < l.length by omega), List.getElem?_eq_getElem (show j < m.length by omega)] using this
  · rw [List.getElem?_eq_none (by omega), List.getElem?_eq_none (by omega)]
theorem lineOf_pieces {Ls : List (List (List Int))} {N V v : Nat} (hin : ∀ p ∈ Ls, p.length = V ∧ ∀ l ∈ p, l.length = N) (hv : v < V) {p0 : List (List Int)} {rest : List (List (List Int))} (hL : Ls = p0 :: rest) : ((∀ p ∈ Ls, p.getD v [] = p0.getD v []) → lineOf (Ls.map List.flatten) N v = some (p0.getD v [])) ∧ ((∃ p ∈ Ls, p.getD v [] ≠ p0.getD v []) → lineOf (Ls.map List.flatten) N v = none) := by
  have h0 : p0 ∈ Ls := by rw [hL]; exact .head _
  have hfl : ∀ p ∈ Ls, ∀ j, j < N → at' p.flatten (v * N + j) = at' (p.getD v []) j := fun p hp j hj => flat_at p v j (hin p hp).2 hj (by rw [(hin p hp).1]; exact hv)
  have hlo : lineOf (Ls.map List.flatten) N v = if (List.range N).all (fun j => knownB (Ls.map List.flatten) p0.flatten (v * N + j)) then some ((List.range' 0 N).map fun j => at' p0.flatten (v * N + j)) else none := by
    rw [hL]; rfl
  rw [hlo]
  constructor
  · intro h
    rw [if_pos]
    · congr 1
      refine ext_at (N := N) (by simp) (getD_len (hin p0 h0) hv) fun j hj => ?_
      rw [← hfl p0 h0 j hj]
      simp [at', hj]
    · rw [List.all_eq_true]
      intro j hj
      rw [knownB_iff]
      intro t ht
      obtain ⟨p, hp, rfl⟩ := List.mem_map.1 ht
      have hjN := List.mem_range.1 hj
      rw [hfl p hp j hjN, hfl p0 h0 j hjN, h p hp]
  · rintro ⟨p, hp, hne⟩
    rw [if_neg]
    intro hall
    rw [List.all_eq_true] at hall
    refine hne (ext_at (getD_len (hin p hp) hv) (getD_len (hin p0 h0) hv) fun j hj => ?_)
    have := knownB_iff.1 (hall j (List.mem_range.2 hj)) p.flatten (List.mem_map.2 ⟨p, hp, rfl⟩)
    rwa [hfl p hp j hj, hfl p0 h0 j hj] at this
def head25 (r : AV) (v : Nat) (k : Int) : Env := mkE 49 .any [(8, I k), (6, r), (1, I v)]
theorem loop25 (x : PB) (hx : x.Ok) (Ls : List (List (List Int))) (hL : Ls.length < 1000000) (r : AV) (hr : IsRow 1 (Ls.map pieceV) r) (v : Nat) (hv : ∀ p ∈ Ls, v < p.length ∧ (p.getD v []).length < 100) (p0 : List (List Int)) (rest0 : List (List (List Int))) (hp0 : Ls = p0 :: rest0) : ∀ (rest : List (List (List Int))) (k : Nat), k ≤ Ls.length → Ls.drop k = rest →
    ∃ L, (run Cv 25 (.loop keep25_0 body25_0) (head25 r v k) (stX x) = some (.ex 0, mkE 49 .any L, stX x) ∧ gt (mkE 49 .any L) 6 = r ∧ gt (mkE 49 .any L) 1 = I v ∧ ∀ p ∈ rest, p.getD v [] = p0.getD v []) ∨
      (run Cv 25 (.loop keep25_0 body25_0) (head25 r v k) (stX x) = some (.rt, mkE 49 .any L, stX x) ∧ gt (mkE 49 .any L) 4 = .nils ∧ gt (mkE 49 .any L) 5 = I 4 ∧ ∃ p ∈ rest, p.getD v [] ≠ p0.getD v [])
  | [], k, hk, hd => by
    obtain rfl := drop_nil hk hd
    have hol := rowG_len hr
    rw [List.length_map] at hol
    have key : ∃ L, run Cv 25 (.loop keep25_0 body25_0) (head25 r v Ls.length) (stX x) = some (.ex 0, mkE 49 .any L, stX x) ∧ gt (mkE 49 .any L) 6 = r ∧ gt (mkE 49 .any L) 1 = I v := by
      rw [run_loop]
      simp (maxSteps := 10000000) [-List.getD_eq_getElem?_getD, body25_0, keep25_0, head25, stX, hol]
      exact ⟨_, rfl, by simp (maxSteps := 10000000) [-List.getD_eq_getElem?_getD, ], by simp (maxSteps := 10000000) [-List.getD_eq_getElem?_getD, ]⟩
    obtain ⟨L, h1, h2, h3⟩ := key
    exact ⟨L, .inl ⟨h1, h2, h3, fun p hp => absurd hp List.not_mem_nil⟩⟩
  | p :: rest, k, hk, hd => by
    obtain ⟨hlt, hg, hd'⟩ := head_drop hd
    have hlt' : (k : Int) < (Ls.length : Int) := by omega
    have hw := wrap_succ hlt (by omega)
    have hol := rowG_len hr
    rw [List.length_map] at hol
    have hpm : p ∈ Ls := hg ▸ List.getElem_mem _
    have h0m : p0 ∈ Ls := by rw [hp0]; exact .head _
    have i1 := row_at hr hlt
    rw [hg] at i1
    have h0lt : 0 < Ls.length := by omega
    have i0 := row_at hr h0lt
    have e0 : Ls[0] = p0 := by simp [hp0]
    rw [e0] at i0
    have e5 : ((0 : Nat) : Int) = 0 := rfl
    rw [e5] at i0
    have i2 := pieceV_at (hv p hpm).1
    have i3 := pieceV_at (hv p0 h0m).1
    have heq := equal_call (p.getD v []) (p0.getD v []) (rowR (p.getD v [])) (rowR (p0.getD v [])) (.inr (.inr ⟨.no, rfl, rfl⟩)) (.inr (.inr ⟨.no, rfl, rfl⟩)) (by have := (hv p hpm).2; omega) (by have := (hv p0 h0m).2; omega)
    have hru := hr.under
    have hvu := hx.vrow.under
    have hcu := hx.crow.under
    have hlp : ∀ l σ n, pur σ (n + 1) (rowR l) = some (rowR l, false) := fun _ _ _ => rfl
    by_cases he : p.getD v [] = p0.getD v []
    · have key : run Cv 25 (.loop keep25_0 body25_0) (head25 r v k) (stX x) = run Cv 25 (.loop keep25_0 body25_0) (head25 r v (k + 1)) (stX x) := by
        rw [decide_eq_true he] at heq
        generalize p.getD v [] = q at *
        generalize p0.getD v [] = q0 at *
        rw [run_loop]
        generalize MC.loop keep25_0 body25_0 = L
        simp (maxSteps := 10000000) [-List.getD_eq_getElem?_getD, -ixsA, -List.all_eq_true, body25_0, keep25_0, head25, stX, PB.cells, hol, hlt', hw, i0, i1, i2, i3, heq, hlp, hru, hvu, hcu]
      rw [key]
      obtain ⟨L, g⟩ := loop25 x hx Ls hL r hr v hv p0 rest0 hp0 rest (k + 1) hlt hd'
      refine ⟨L, ?_⟩
      rcases g with ⟨g1, g2, g3, g4⟩ | ⟨g1, g2, g3, q, hq, g4⟩
      · refine .inl ⟨g1, g2, g3, fun q hq => ?_⟩
        rcases List.mem_cons.1 hq with rfl | hq
        · exact he
        · exact g4 q hq
      · exact .inr ⟨g1, g2, g3, q, .tail _ hq, g4⟩
    · have key : ∃ L, run Cv 25 (.loop keep25_0 body25_0) (head25 r v k) (stX x) = some (.rt, mkE 49 .any L, stX x) ∧ gt (mkE 49 .any L) 4 = .nils ∧ gt (mkE 49 .any L) 5 = I 4 := by
        rw [decide_eq_false he] at heq
        generalize p.getD v [] = q at *
        generalize p0.getD v [] = q0 at *
        rw [run_loop]
        simp (maxSteps := 10000000) [-List.getD_eq_getElem?_getD, -ixsA, -List.all_eq_true, body25_0, keep25_0, head25, stX, PB.cells, hol, hlt', hw, i0, i1, i2, i3, heq, hlp, hru, hvu, hcu]
        exact ⟨_, rfl, by simp (maxSteps := 10000000) [-List.getD_eq_getElem?_getD, ], by simp (maxSteps := 10000000) [-List.getD_eq_getElem?_getD, ]⟩
      obtain ⟨L, g1, g2, g3⟩ := key
      exact ⟨L, .inr ⟨g1, g2, g3, p, .head _, he⟩⟩
theorem rLine_call (x : PB) (hx : x.Ok) (v : Int) : ∃ r, IsRow 1 (ints (lineR x v).1) r ∧ call Cv 25 [x.av, I v] = some (.tup [r, I (lineR x v).2]) := by
  obtain ⟨r0, hr0, h1, hrp⟩ := asked_call_ref x hx (isVoice x v)
  have w1 := isVoice_call x hx v
  have hvc := hx.vrow.cell
  have hcc := hx.crow.cell
  have hvp := hx.vrow.pur
  have hcp := hx.crow.pur
  have hpl : isVoice x v = lie v 0 ((x.spans.length : Int) - 1) := rfl
  rw [← hpl] at w1
  simp only [PB.av, PB.cells] at h1 w1
  by_cases he : ansE x (isVoice x v) = 0
  · obtain ⟨hc, his, hT⟩ := ansE_zero he
    have hk := chk_of hc
    have hN := hk.N
    have hr0' := hr0 he
    have hq1 := his
    rw [hpl] at hq1
    rw [his] at w1
    simp only [lie, Bool.and_eq_true, decide_eq_true_eq] at hq1
    obtain ⟨v', rfl⟩ := Int.eq_ofNat_of_zero_le hq1.1
    have hv' : v' < x.spans.length := by omega
    have hin0 := fun p hp => Pp_in hk.toR (set := 0) p hp
    have hin1 : ∀ p ∈ Pp x 0, p.length = x.spans.length ∧ ∀ l ∈ p, l.length = x.N.toNat := fun p hp => ⟨(hin0 p hp).1, fun l hl => ((hin0 p hp).2 l hl).1⟩
    have hPl := Pp_len hk.toR 0
    rw [outB_zero] at hPl
    have hPT := Pp_zero hk.toR
    have hsh := Pp_short hk.toR 0
    obtain ⟨p0, rest0, hL0⟩ : ∃ p0 rest0, Pp x 0 = p0 :: rest0 := by
      cases hP : Pp x 0 with
      | nil =>
        rw [hP] at hPl
        exact absurd (List.length_eq_zero_iff.1 hPl.symm) hT
      | cons p r => exact ⟨p, r, rfl⟩
    have h0m : p0 ∈ Pp x 0 := by rw [hL0]; exact .head _
    have hl0 := getD_len (hin1 p0 h0m) hv'
    obtain ⟨s1, s2⟩ := lineOf_pieces hin1 hv' hL0
    rw [hPT] at s1 s2
    obtain ⟨L, g⟩ := loop25 x hx (Pp x 0) (by omega) r0 hr0' v' (fun p hp => ⟨by rw [(hin1 p hp).1]; exact hv', by rw [getD_len (hin1 p hp) hv']; omega⟩) p0 rest0 hL0 (Pp x 0) 0 (Nat.zero_le _) rfl
    have hlr : lineR x v' = match lineOf (Ts x noneF) x.N.toNat v' with | some l => (l, 0) | none => ([], 4) := by
      unfold lineR; rw [if_pos he]; rfl
    rw [hlr]
    have e5 : ((0 : Nat) : Int) = 0 := rfl
    have i0 := row_at hr0' (k := 0) (by rw [hL0]; simp)
    have e0 : (Pp x 0)[0]'(by rw [hL0]; simp) = p0 := by simp [hL0]
    rw [e0, e5] at i0
    have i3 := pieceV_at (p := p0) (v := v') (by rw [(hin1 p0 h0m).1]; exact hv')
    have hr0e : List.replicate 0 (I 0) = [] := rfl
    have hf0 : fillE 1 false [] [] = some [] := rfl
    rw [he, his] at h1
    rcases g with ⟨g1, g6, g1v, g4⟩ | ⟨g1, g2, g3, g4⟩
    · rw [s1 g4]
      refine ⟨rowR (p0.getD v' []), .inr (.inr ⟨.no, rfl, rfl⟩), ?_⟩
      have hin := fun E (hE : mask keep25_0 E = _) => run_at g1 hE
      simp only [stX, head25, keep25_0, PB.cells, e5] at hin
      have happ : appA { boxes := [x.cells] } false 1 8 false (.sl 1 [] .full) (rowR (p0.getD v' [])) = some (.sl 1 (ints (p0.getD v' [])) (.chain 0), { boxes := [x.cells], chains := [((p0.getD v' []).length, 1)] }) := by
        have hne : ints (p0.getD v' []) ≠ [] := by
          intro h0
          have := congrArg List.length h0
          rw [ints_len, hl0] at this
          simp at this; omega
        have hb : (p0.getD v' []).length * 8 ≤ 140737488355328 := by rw [hl0]; omega
        have hb2 : ([] ++ ints (p0.getD v' [])).length * 8 ≤ 140737488355328 := by rw [List.nil_append, ints_len]; exact hb
        simp only [appA, elemsA, rowR, Option.bind_some, if_neg hne, hb2, grown, if_true, and_self, List.nil_append, ints_len]
        rw [if_pos ⟨trivial, hb⟩, if_neg (by simp)]
        rfl
      have hpp : ∀ σ n, pur σ (n + 1) (.sl 1 (ints (p0.getD v' [])) (.chain 0)) = some (rowR (p0.getD v' []), false) := fun _ _ => rfl
      simp only [PB.cells] at happ
      generalize p0.getD v' [] = q at *
      generalize hiq : AV.sl 1 (ints q) (.chain 0) = iq at *
      rw [call_run comp25 (Nat.le_of_ble_eq_true rfl)]
      simp (maxSteps := 10000000) [-List.getD_eq_getElem?_getD, ret2, ret3, retc2, -ixsA, -List.all_eq_true, code25, PB.av, PB.cells, hvc, hcc, hvp, hcp, w1, h1, hrp, hr0e, hf0, keep25_0, hin, g6, g1v, i0, i3, happ, hpp]
    · rw [s2 g4]
      refine ⟨.nils, nils_row, ?_⟩
      have hin := fun E (hE : mask keep25_0 E = _) => run_at g1 hE
      simp only [stX, head25, keep25_0, PB.cells, e5] at hin
      rw [call_run comp25 (Nat.le_of_ble_eq_true rfl)]
      simp (maxSteps := 10000000) [-List.getD_eq_getElem?_getD, ret2, ret3, retc2, -ixsA, -List.all_eq_true, code25, PB.av, PB.cells, hvc, hcc, hvp, hcp, w1, h1, hrp, hr0e, hf0, keep25_0, hin, g2, g3]
  · have hlr : lineR x v = ([], ansE x (isVoice x v)) := by unfold lineR; rw [if_neg he]
    rw [hlr]
    refine ⟨.nils, nils_row, ?_⟩
    have hne : (ansE x (isVoice x v) != 0) = true := by simpa using he
    generalize ansE x (isVoice x v) = W at *
    generalize isVoice x v = b1 at *
    rw [call_run comp25 (Nat.le_of_ble_eq_true rfl)]
    simp (maxSteps := 10000000) [-List.getD_eq_getElem?_getD, ret2, ret3, retc2, -List.all_eq_true, code25, PB.av, PB.cells, hvc, hcc, hvp, hcp, w1, h1, hrp, hne]
end Go.Ai
