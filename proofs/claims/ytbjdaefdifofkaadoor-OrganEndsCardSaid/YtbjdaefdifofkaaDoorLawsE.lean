/- This text shows the law of both ends, in the interpreter. No conditions of its own. -/
import Derived.Test.YtbjdaefdifofkaaDoorHelpD
import Derived.Test.YtbjdaefdifofkaaDoorCodesL8
set_option linter.unusedSimpArgs false
set_option linter.unusedVariables false
set_option maxRecDepth 100000
set_option linter.unusedSimpArgs false
set_option linter.unusedVariables false
/-! The law of both ends: its loops. -/
namespace Go.Ai
open Go.Organ (T4 F3 Tb T6)
theorem covers_call' (a b c : Int) : call Cv 39 [.agg [I a, I b], I c] = some (.bool (decide (a ≤ c) && decide (c ≤ b))) := by
  have h := lies_call c a b
  rw [call_run comp39 (Nat.le_of_ble_eq_true rfl)]
  simp (maxSteps := 10000000) [-List.getD_eq_getElem?_getD, code39, h]
def st8 (x : OB) (n0 n1 n2 a b c d : Int) : St := { boxes := [x.cells, [I n0, I n1, I n2], [I a, I b], [I c, I d]] }
def head8_0 (r : AV) (p q k : Int) : Env := mkE 236 .any [(12, I k), (11, r), (9, .box 3 0), (7, .box 2 0), (6, I q), (5, I p), (2, .box 0 0)]
structure Kept8 (p : Int) (e : Env) : Prop where
  g2 : gt e 2 = .box 0 0
  g5 : gt e 5 = I p
  g9 : gt e 9 = .box 3 0
theorem row_ix {l0 : List Int} {r : AV} (hr : IsRow 1 (ints l0) r) {k : Nat} (hk : k < l0.length) : ixsA 1 r (I k) = some (.rp [I l0[k]] 0) := by
  obtain ⟨c, hc, hr⟩ := row_sl hr (by intro hn; subst hn; simp at hk)
  rw [hr]
  simp [ixsA, ints, hk, AV.cells]
theorem more_tok {x : OB} {p q : Nat} (hp : p < x.N) (hq : q < x.N) (hne : p ≠ q) {c : Int} (hcr : -30 ≤ c ∧ c ≤ 30) : Organ.TOk x.N ⟨(p : Int), (q : Int), c, 0⟩ :=
  ⟨by dsimp only; omega, by dsimp only; omega, by dsimp only; omega, by dsimp only; omega, by dsimp only; omega⟩
theorem fits_between {x : OB} (hc : Chk x) (ht : trueO x = true) {p q : Nat} (hp : p < x.N) (hq : q < x.N) (hne : p ≠ q) {c : Int} (hcr : -30 ≤ c ∧ c ≤ 30) : Organ.isO x.N x.forks (x.tunes ++ [⟨(p : Int), (q : Int), c, 0⟩]) = (decide (-tab x q p ≤ c) && decide (c ≤ tab x p q)) := by
  have hto := more_tok hp hq hne hcr
  have hb : Organ.BOk x.N x.forks (x.tunes ++ [⟨(p : Int), (q : Int), c, 0⟩]) := ⟨hc.b.one, hc.b.five, hc.b.forks, fun u hu => by
    rcases List.mem_append.1 hu with hu | hu
    · exact hc.b.tunes u hu
    · rw [List.mem_singleton.1 hu]; exact hto⟩
  have hi := true_can ht
  rw [Bool.eq_iff_iff, Organ.isO_iff hb, Bool.and_eq_true, decide_eq_true_eq, decide_eq_true_eq]
  exact Organ.fits_iff hc.b.five hc.b.forks hc.b.tunes ((Organ.isO_iff hc.b).1 hi) hp hq (Organ.T6_most hc.b hi (.inl hp) (.inl hq)) (Organ.T6_most hc.b hi (.inl hq) (.inl hp))
theorem fork_fok {x : OB} {p : Nat} (hp : p < x.N) {c : Int} (hcr : -60 ≤ c ∧ c ≤ 60) : Organ.FOk x.N ⟨(p : Int), c, 0⟩ :=
  ⟨by dsimp only; omega, by dsimp only; omega, by dsimp only; omega⟩
theorem fork_between {x : OB} (hc : Chk x) (ht : trueO x = true) {p : Nat} (hp : p < x.N) {c : Int} (hcr : -60 ≤ c ∧ c ≤ 60) : Organ.isO x.N (x.forks ++ [⟨(p : Int), c, 0⟩]) x.tunes = (decide (-tab x p 5 ≤ c) && decide (c ≤ tab x 5 p)) := by
  have hfo := fork_fok hp hcr
  have hb : Organ.BOk x.N (x.forks ++ [⟨(p : Int), c, 0⟩]) x.tunes := ⟨hc.b.one, hc.b.five, fun u hu => by
    rcases List.mem_append.1 hu with hu | hu
    · exact hc.b.forks u hu
    · rw [List.mem_singleton.1 hu]; exact hfo, hc.b.tunes⟩
  have hi := true_can ht
  rw [Bool.eq_iff_iff, Organ.isO_iff hb, Bool.and_eq_true, decide_eq_true_eq, decide_eq_true_eq]
  exact Organ.fork_iff hc.b.five hc.b.forks hc.b.tunes ((Organ.isO_iff hc.b).1 hi) hp (Organ.T6_most hc.b hi (.inr rfl) (.inl hp)) (Organ.T6_most hc.b hi (.inl hp) (.inr rfl))
theorem loop8_0 (x : OB) (hx : x.Ok) (hc : Chk x) (ht : trueO x = true) (hl6 : x.tunes.length < 6) (n0 n1 n2 c0 d0 : Int) {p q : Nat} (hp : p < x.N) (hq : q < x.N) (hne : p ≠ q) (l0 : List Int) (r : AV) (hr : IsRow 1 (ints l0) r) (hl : l0.length < 100) : ∀ (l : List Int) (k : Nat), k ≤ l0.length → l0.drop k = l →
    ∃ L, run Cv 8 (.loop keep8_0 body8_0) (head8_0 r p q k) (st8 x n0 n1 n2 (-tab x q p) (tab x p q) c0 d0) = some (.ex 0, mkE 236 .any L, st8 x n0 n1 n2 (-tab x q p) (tab x p q) c0 d0) ∧ Kept8 p (mkE 236 .any L)
  | [], k, hk, h => by
    obtain rfl := drop_nil hk h
    have hlen := row_len hr
    have hb : ((p : Int) != q) = true := by simp; omega
    rw [run_loop]
    simp (maxSteps := 10000000) [-List.getD_eq_getElem?_getD, body8_0, keep8_0, head8_0, st8, hlen, hb]
    exact ⟨_, rfl, ⟨by simp (maxSteps := 10000000) [-List.getD_eq_getElem?_getD, ], by simp (maxSteps := 10000000) [-List.getD_eq_getElem?_getD, ], by simp (maxSteps := 10000000) [-List.getD_eq_getElem?_getD, ]⟩⟩
  | c :: l, k, hk, h => by
    obtain ⟨hlt, ha, hd⟩ := head_drop h
    have hlen := row_len hr
    have hw := wrap_succ hlt (by omega)
    have hlt' : (k : Int) < (l0.length : Int) := by omega
    have hb : ((p : Int) != q) = true := by simp; omega
    have hix := row_ix hr hlt
    rw [ha] at hix
    have hlr : ∀ σ, loadA σ none (.rp [I c] 0) = some (I c) := fun _ => rfl
    have c1 := lies' c (-30) 30
    have hld : ∀ n off, loadA (st8 x n0 n1 n2 (-tab x q p) (tab x p q) c0 d0) n (.box 0 off) = partA n x.cells off := fun _ _ => rfl
    have hl2 : loadA (st8 x n0 n1 n2 (-tab x q p) (tab x p q) c0 d0) (some 2) (.box 2 0) = some (.agg [I (-tab x q p), I (tab x p q)]) := rfl
    have hcut := fun e => cut_self (st8 x n0 n1 n2 (-tab x q p) (tab x p q) c0 d0) e (by simp [st8]) (by simp [st8])
    have hxp := av_pur x hx
    have hru := hr.under
    have step : run Cv 8 (.loop keep8_0 body8_0) (head8_0 r p q k) (st8 x n0 n1 n2 (-tab x q p) (tab x p q) c0 d0) = run Cv 8 (.loop keep8_0 body8_0) (head8_0 r p q (k + 1)) (st8 x n0 n1 n2 (-tab x q p) (tab x p q) c0 d0) := by
      cases hq' : lie c (-30) 30 with
      | false =>
        rw [hq'] at c1
        rw [run_loop]
        generalize MC.loop keep8_0 body8_0 = L'
        simp (maxSteps := 10000000) [-List.getD_eq_getElem?_getD, -loadA, -cut, -ixsA, -partA, body8_0, keep8_0, head8_0, hb, hlen, hlt', hw, hix, hlr, c1, hcut]
      | true =>
        rw [hq'] at c1
        have hcr := lie_iff.1 hq'
        have c2 := tune_call p q c 0
        have c3 := fits_t hx hc ht (more_tok hp hq hne hcr)
        have c4 := with_call x hx (by omega) ⟨(p : Int), (q : Int), c, 0⟩
        have c5 := right_more hx hc ht hl6 (more_tok hp hq hne hcr)
        have c6 := covers_call' (-tab x q p) (tab x p q) c
        have hmp := av_pur (x.more ⟨(p : Int), (q : Int), c, 0⟩) (more_ok hx (by omega) _)
        rw [fits_between hc ht hp hq hne hcr] at c3 c5
        rw [show tuA ⟨(p : Int), (q : Int), c, 0⟩ = .agg [I p, I q, I c, I 0] from rfl] at c3 c4
        generalize (x.more ⟨(p : Int), (q : Int), c, 0⟩).av = M at *
        generalize (decide (-tab x q p ≤ c) && decide (c ≤ tab x p q)) = b at *
        rw [run_loop]
        generalize MC.loop keep8_0 body8_0 = L'
        simp (maxSteps := 10000000) [-List.getD_eq_getElem?_getD, -loadA, -cut, -ixsA, -partA, part_x, body8_0, keep8_0, head8_0, hb, hlen, hlt', hw, hix, hlr, hld, hl2, c1, c2, c3, c4, c5, c6, hxp, hmp, hcut, still]
    rw [step]
    exact loop8_0 x hx hc ht hl6 n0 n1 n2 c0 d0 hp hq hne l0 r hr hl l (k + 1) hlt hd
theorem loop8_e (x : OB) (n0 n1 n2 a b c d : Int) (r : AV) (p : Int) : ∃ L, run Cv 8 (.loop keep8_0 body8_0) (head8_0 r p p 0) (st8 x n0 n1 n2 a b c d) = some (.ex 0, mkE 236 .any L, st8 x n0 n1 n2 a b c d) ∧ Kept8 p (mkE 236 .any L) := by
  have hb : (p != p) = false := by simp
  rw [run_loop]
  simp (maxSteps := 10000000) [-List.getD_eq_getElem?_getD, body8_0, keep8_0, head8_0, st8, hb]
  exact ⟨_, rfl, ⟨by simp (maxSteps := 10000000) [-List.getD_eq_getElem?_getD, ], by simp (maxSteps := 10000000) [-List.getD_eq_getElem?_getD, ], by simp (maxSteps := 10000000) [-List.getD_eq_getElem?_getD, ]⟩⟩
def head8_1 (r : AV) (p k : Int) : Env := mkE 236 .any [(18, I k), (17, r), (5, I p), (2, .box 0 0)]
theorem cut8 (x : OB) (hx : x.Ok) (n0 n1 n2 a b c d : Int) (E : List (List AV)) (ch : List (Nat × Nat)) (e : Env) (he : e.all (under 4 0 0 0 6) = true) : cut (st8 x n0 n1 n2 a b c d) { boxes := [x.cells, [I n0, I n1, I n2], [I a, I b], [I c, I d]] ++ E, chains := ch } e = st8 x n0 n1 n2 a b c d := by
  have u1 := hx.trow.under 4 0 0 0 5
  have u2 := hx.frow.under 4 0 0 0 5
  have u3 := br_under x 4 0 0 0 5
  have u4 := vr_under x 4 0 0 0 5
  have h0 : (x.cells).all (under 4 0 0 0 6) = true := by
    simp only [OB.cells, List.all_cons, List.all_nil, u1, u2, u3, u4, un_int, Bool.and_self]
  have hd : dryAt 0 (st8 x n0 n1 n2 a b c d) { boxes := [x.cells, [I n0, I n1, I n2], [I a, I b], [I c, I d]] ++ E, chains := ch } e = true := by
    show (e.all (under 4 0 0 0 6) && List.all [x.cells, [I n0, I n1, I n2], [I a, I b], [I c, I d]] (fun cs => cs.all (under 4 0 0 0 6)) && true && true) = true
    simp only [he, List.all_cons, List.all_nil, h0, un_int, Bool.and_self]
  unfold cut
  rw [if_pos (show dryAt (st8 x n0 n1 n2 a b c d).chains.length _ _ e = true from hd)]
  rfl
theorem loop8_1 (x : OB) (hx : x.Ok) (hc : Chk x) (ht : trueO x = true) (hl3 : x.forks.length < 3) (n0 n1 n2 a b : Int) {p : Nat} (hp : p < x.N) (l0 : List Int) (r : AV) (hr : IsRow 1 (ints l0) r) (hl : l0.length < 100)
    (hin : ∀ (k : Nat) (h : k < l0.length), (decide (-tab x p 5 ≤ l0[k]) && decide (l0[k] ≤ tab x 5 p)) = decide ((k : Int) < 2)) : ∀ (l : List Int) (k : Nat), k ≤ l0.length → l0.drop k = l →
    ∃ L, run Cv 8 (.loop keep8_1 body8_1) (head8_1 r p k) (st8 x n0 n1 n2 a b (-tab x p 5) (tab x 5 p)) = some (.ex 2, mkE 236 .any L, st8 x n0 n1 n2 a b (-tab x p 5) (tab x 5 p))
  | [], k, hk, h => by
    obtain rfl := drop_nil hk h
    have hlen := row_len hr
    rw [run_loop]
    simp (maxSteps := 10000000) [-List.getD_eq_getElem?_getD, body8_1, keep8_1, head8_1, st8, hlen]
    exact ⟨_, rfl⟩
  | c :: l, k, hk, h => by
    obtain ⟨hlt, ha, hd⟩ := head_drop h
    have hlen := row_len hr
    have hw := wrap_succ hlt (by omega)
    have hlt' : (k : Int) < (l0.length : Int) := by omega
    have hix := row_ix hr hlt
    have hin' := hin k hlt
    rw [ha] at hix hin'
    have hlr : ∀ σ, loadA σ none (.rp [I c] 0) = some (I c) := fun _ => rfl
    have c1 := lies' c (-60) 60
    have hcut := fun E ch e he => cut8 x hx n0 n1 n2 a b (-tab x p 5) (tab x 5 p) E ch e he
    simp only [st8, List.cons_append, List.nil_append] at hcut
    have hcut0 := fun e => cut_self (st8 x n0 n1 n2 a b (-tab x p 5) (tab x 5 p)) e (by simp [st8]) (by simp [st8])
    have hru := hr.under
    have step : run Cv 8 (.loop keep8_1 body8_1) (head8_1 r p k) (st8 x n0 n1 n2 a b (-tab x p 5) (tab x 5 p)) = run Cv 8 (.loop keep8_1 body8_1) (head8_1 r p (k + 1)) (st8 x n0 n1 n2 a b (-tab x p 5) (tab x 5 p)) := by
      cases hq' : lie c (-60) 60 with
      | false =>
        rw [hq'] at c1
        rw [run_loop]
        generalize MC.loop keep8_1 body8_1 = L'
        simp (maxSteps := 10000000) [-List.getD_eq_getElem?_getD, -loadA, -cut, -ixsA, -partA, body8_1, keep8_1, head8_1, hlen, hlt', hw, hix, hlr, c1, hcut0]
      | true =>
        rw [hq'] at c1
        have hcr := lie_iff.1 hq'
        have hf3 := hc.forks
        have c5 := right_forkMore hx hc ht hl3 (fork_fok hp hcr)
        rw [fork_between hc ht hp hcr, hin'] at c5
        obtain ⟨y, ch, j1, j2⟩ := join_row (sz := 3) (bytes := 24) hx.frow (by simp; omega) (foA ⟨(p : Int), c, 0⟩) [x.cells, [I n0, I n1, I n2], [I a, I b], [I (-tab x p 5), I (tab x 5 p)], x.cells]
        have hm : (x.forkMore ⟨(p : Int), c, 0⟩).av = .agg [I x.pipes, x.tr, .sl 3 (x.forks.map foA ++ [foA ⟨(p : Int), c, 0⟩]) .no, x.br, I x.voice.weeks, x.vr] := by
          show AV.agg [I x.pipes, x.tr, .sl 3 ((x.forks ++ [(⟨(p : Int), c, 0⟩ : F3)]).map foA) .no, x.br, I x.voice.weeks, x.vr] = _
          rw [List.map_append]; rfl
        rw [hm] at c5
        have hcl := xcells_cell x hx
        have hav : x.av.cells = x.cells := rfl
        have hxl : x.cells.length = 6 := rfl
        have hz : setAt [I 0, .nils, .nils, .nils, I 0, .nils] 0 x.cells = x.cells := rfl
        have hx2 : x.cells[2]? = some x.fr := rfl
        have hx2g : ∀ h : 2 < x.cells.length, x.cells[2]'h = x.fr := fun _ => rfl
        have hr0 : ∀ z : AV, List.replicate 0 z = [] := fun _ => rfl
        have hr1 : ∀ z : AV, List.replicate 1 z = [z] := fun _ => rfl
        have hf0 : fillE 3 true [] [] = some [] := rfl
        have hfa : fillA [(0, 1, I (p : Int)), (1, 1, I c)] [I 0, I 0, I 0] = some [I p, I c, I 0] := rfl
        have hf1 : ∀ z, fillE 3 true [(0, .agg [I p, I c, I 0])] [z] = some [foA ⟨(p : Int), c, 0⟩] := fun _ => rfl
        have hs2 : ∀ v : AV, setAt x.cells 2 [v] = [I x.pipes, x.tr, v, x.br, I x.voice.weeks, x.vr] := fun _ => rfl
        have hp6 : ∀ a b c d e f : AV, partA (some 6) [a, b, c, d, e, f] 0 = some (.agg [a, b, c, d, e, f]) := fun _ _ _ _ _ _ => rfl
        have q1 := hx.trow.pur
        have q2 := br_pur x
        have q3 := vr_pur x
        rw [run_loop]
        generalize MC.loop keep8_1 body8_1 = L'
        simp (maxSteps := 10000000) [-List.getD_eq_getElem?_getD, -cut, -ixsA, -partA, -setAt, -List.all_eq_true, part_none, part_x, body8_1, keep8_1, head8_1, st8, hlen, hlt', hw, hix, hlr, c1, hcl, hav, hxl, hz, hx2, hx2g, hr0, hr1, hf0, hfa, hf1, j1, j2, hs2, hp6, q1, q2, q3, c5, still]
        rw [hcut]
        simp (maxSteps := 10000000) [-List.getD_eq_getElem?_getD, hru]
    rw [step]
    exact loop8_1 x hx hc ht hl3 n0 n1 n2 a b hp l0 r hr hl hin l (k + 1) hlt hd
end Go.Ai

set_option maxRecDepth 100000
set_option linter.unusedSimpArgs false
set_option linter.unusedVariables false
/-! The law of both ends. -/
namespace Go.Ai
open Go.Organ (T4 F3 Tb T6)
theorem full_row (l : List Int) : IsRow 1 (ints l) (.sl 1 (ints l) .full) := .inr (.inr ⟨.full, rfl, rfl⟩)
theorem loop8_any (x : OB) (hx : x.Ok) (hc : Chk x) (ht : trueO x = true) (hl6 : x.tunes.length < 6) (n0 n1 n2 c0 d0 : Int) {p q : Nat} (hp : p < x.N) (hq : q < x.N) (l0 : List Int) (r : AV) (hr : IsRow 1 (ints l0) r) (hl : l0.length < 100) :
    ∃ L, run Cv 8 (.loop keep8_0 body8_0) (head8_0 r p q 0) (st8 x n0 n1 n2 (-tab x q p) (tab x p q) c0 d0) = some (.ex 0, mkE 236 .any L, st8 x n0 n1 n2 (-tab x q p) (tab x p q) c0 d0) ∧ Kept8 p (mkE 236 .any L) := by
  by_cases hne : p = q
  · subst hne; exact loop8_e ..
  · exact loop8_0 x hx hc ht hl6 n0 n1 n2 c0 d0 hp hq hne l0 r hr hl l0 0 (Nat.zero_le _) rfl
set_option maxHeartbeats 4000000 in
theorem ends_law (x : OB) (hx : x.Ok) (n0 n1 n2 : Int) : call Cv 8 [x.av, .agg [I n0, I n1, I n2]] = some (.bool true) := by
  have hsm := small_call x hx
  have hs := tuned_call
  have hcl := xcells_cell x hx
  have hp := av_pur x hx
  have hbox : boxA {} x.av = some (.box 0 0, { boxes := [x.cells] }) := by
    simp only [boxA, OB.av, AV.cells, hcl, if_true]; rfl
  have hbox2 : boxA { boxes := [x.cells] } (.agg [I n0, I n1, I n2]) = some (.box 1 0, { boxes := [x.cells, [I n0, I n1, I n2]] }) := rfl
  have x0 : x.cells[0]? = some (I x.pipes) := rfl
  have x1 : x.cells[1]? = some x.tr := rfl
  have x2 : x.cells[2]? = some x.fr := rfl
  have hlt := tlen hx
  have hlf := flen hx
  cases hc : checkOk x with
  | false =>
    rw [hc] at hsm
    rw [call_run comp8 (Nat.le_of_ble_eq_true rfl)]
    simp (maxSteps := 10000000) [-List.getD_eq_getElem?_getD, -boxA, -partA, part_none, part_x, code8, hbox, hbox2, hp, hsm, hs]
  | true =>
    rw [hc] at hsm
    have hch := (chk_iff x).1 hc
    have ht6 := hch.tunes
    have hf3 := hch.forks
    by_cases h6 : x.tunes.length = 6
    · have e6 : ((x.tunes.length : Int) == 6) = true := by rw [h6]; rfl
      rw [call_run comp8 (Nat.le_of_ble_eq_true rfl)]
      simp (maxSteps := 10000000) [-List.getD_eq_getElem?_getD, -boxA, -partA, part_none, part_x, code8, hbox, hbox2, hp, hsm, hs, x1, x2, hlt, hlf, e6]
    have e6 : ((x.tunes.length : Int) == 6) = false := by simp; omega
    by_cases h3 : x.forks.length = 3
    · have e3 : ((x.forks.length : Int) == 3) = true := by rw [h3]; rfl
      rw [call_run comp8 (Nat.le_of_ble_eq_true rfl)]
      simp (maxSteps := 10000000) [-List.getD_eq_getElem?_getD, -boxA, -partA, part_none, part_x, code8, hbox, hbox2, hp, hsm, hs, x1, x2, hlt, hlf, e6, e3]
    have e3 : ((x.forks.length : Int) == 3) = false := by simp; omega
    obtain ⟨p, hpl, t0⟩ := turn_pipe hch n0
    obtain ⟨q, hql, t1⟩ := turn_pipe hch n1
    have ho := only_call 0
    have ee : ∀ a b, eqCells [I a, I b] [I a, I b] = some true := fun a b => by simp [eqCells]
    cases ht : trueO x with
    | false =>
      have a1 := apart_f hx hch ht hpl hql
      have a2 := pitch_f hx hch ht hpl
      rw [call_run comp8 (Nat.le_of_ble_eq_true rfl)]
      simp (maxSteps := 10000000) [-List.getD_eq_getElem?_getD, -boxA, -partA, -setAt, part_none, part_two, part_x, set_two, code8, hbox, hbox2, hp, hsm, hs, x0, x1, x2, hlt, hlf, e6, e3, t0, t1, a1, a2, ho, ee, still]
    | true =>
      have a1 := apart_t hx hch ht hpl hql
      have a2 := pitch_t hx hch ht hpl
      have rp : Organ.Real x.N p := .inl hpl
      have rq : Organ.Real x.N q := .inl hql
      have r5 : Organ.Real x.N 5 := .inr rfl
      have hi := true_can ht
      have m1 := tab_real hch ht rp rq
      have m2 := tab_real hch ht rq rp
      have k1 := Organ.T6_turn hch.b hi rp rq
      have k2 := Organ.T6_turn hch.b hi r5 rp
      have k3 := (Organ.T6_near hch.b hi r5 rp).2.2.1 rfl
      have k4 := (Organ.T6_near hch.b hi rp r5).2.2.2 rfl
      have ks := Organ.T6_same hch.b hi rp
      rw [show T6 x.N x.forks x.tunes = tab x from rfl] at k1 k2 k3 k4 ks
      have t2 := turn_call n2 61 (by omega)
      obtain ⟨u1, u2⟩ := turn_range n2 61 (by omega)
      generalize turnI n2 61 = u at *
      have hfair := fair_call (-tab x p 5) (tab x 5 p) (-60) 60 120
      have hfb : fairB (-tab x p 5) (tab x 5 p) (-60) 60 120 = true := by
        have hw : IntKind.wrap .i64 (tab x 5 p - -tab x p 5) = tab x 5 p - -tab x p 5 := wrap_small (by omega) (by omega)
        simp only [fairB, hw, Bool.and_eq_true, decide_eq_true_eq]
        omega
      rw [hfb] at hfair
      obtain ⟨L0, l0, g2, g5, g9⟩ := loop8_any x hx hch ht (by omega) n0 n1 n2 (-tab x p 5) (tab x 5 p) hpl hql [-tab x q p, tab x p q, -tab x q p - 1, tab x p q + 1, u - 30] _ (full_row _) (by simp)
      obtain ⟨L1, l1⟩ := loop8_1 x hx hch ht (by omega) n0 n1 n2 (-tab x q p) (tab x p q) hpl [-tab x p 5, tab x 5 p, -tab x p 5 - 1, tab x 5 p + 1] _ (full_row _) (by simp) (fun k h => by
        have h4 : k < 4 := h
        obtain rfl | rfl | rfl | rfl : k = 0 ∨ k = 1 ∨ k = 2 ∨ k = 3 := by omega
        all_goals simp
        all_goals omega) [-tab x p 5, tab x 5 p, -tab x p 5 - 1, tab x 5 p + 1] 0 (Nat.zero_le _) rfl
      have l0' := fun E (hE : mask keep8_0 E = _) => run_at l0 hE
      have l1' := fun E (hE : mask keep8_1 E = _) => run_at l1 hE
      have e5 : ((0 : Nat) : Int) = 0 := rfl
      simp only [keep8_0, head8_0, st8, e5] at l0'
      simp only [keep8_1, head8_1, st8, e5] at l1'
      have gt0 : ¬ -tab x q p > tab x p q := by omega
      have w1 : IntKind.wrap .i64 (-tab x q p - 1) = -tab x q p - 1 := wrap_small (by omega) (by omega)
      have w2 : IntKind.wrap .i64 (tab x p q + 1) = tab x p q + 1 := wrap_small (by omega) (by omega)
      have w3 : IntKind.wrap .i64 (u - 30) = u - 30 := wrap_small (by omega) (by omega)
      have w4 : IntKind.wrap .i64 (-tab x p 5 - 1) = -tab x p 5 - 1 := wrap_small (by omega) (by omega)
      have w5 : IntKind.wrap .i64 (tab x 5 p + 1) = tab x 5 p + 1 := wrap_small (by omega) (by omega)
      have f5 : ∀ a b c d e z : Int, fillE 1 false [(0, I a), (1, I b), (2, I c), (3, I d), (4, I e)] [I z, I z, I z, I z, I z] = some [I a, I b, I c, I d, I e] := fun _ _ _ _ _ _ => rfl
      have f4 : ∀ a b c d z : Int, fillE 1 false [(0, I a), (1, I b), (2, I c), (3, I d)] [I z, I z, I z, I z] = some [I a, I b, I c, I d] := fun _ _ _ _ _ => rfl
      have rp4 : ∀ z : AV, List.replicate 4 z = [z, z, z, z] := fun _ => rfl
      have rp5 : ∀ z : AV, List.replicate 5 z = [z, z, z, z, z] := fun _ => rfl
      have i5 : ∀ a b c d e : Int, ints [a, b, c, d, e] = [I a, I b, I c, I d, I e] := fun _ _ _ _ _ => rfl
      have i4 : ∀ a b c d : Int, ints [a, b, c, d] = [I a, I b, I c, I d] := fun _ _ _ _ => rfl
      rw [i5] at l0'
      rw [i4] at l1'
      by_cases hpq : p = q
      · subst hpq
        rw [ks] at a1 l0' l1' w1 w2 gt0
        have eb : ((p : Int) == p) = true := by simp
        have gz : ¬ (-0 : Int) > 0 := by omega
        have nz : (-0 : Int) = 0 := rfl
        rw [nz] at a1 l0' l1' w1 gt0
        rw [call_run comp8 (Nat.le_of_ble_eq_true rfl)]
        simp (maxSteps := 10000000) [-List.getD_eq_getElem?_getD, -boxA, -partA, -setAt, part_none, part_two, part_x, set_two, code8, hbox, hbox2, hp, hsm, hs, x0, x1, x2, hlt, hlf, e6, e3, t0, t1, t2, a1, a2, ho, ee, hfair, gt0, eb, w1, w2, w3, w4, w5, f5, f4, rp4, rp5, keep8_0, l0', g2, g5, g9, keep8_1, l1', still]
      · have eb : ((p : Int) == q) = false := by simp; omega
        rw [call_run comp8 (Nat.le_of_ble_eq_true rfl)]
        simp (maxSteps := 10000000) [-List.getD_eq_getElem?_getD, -boxA, -partA, -setAt, part_none, part_two, part_x, set_two, code8, hbox, hbox2, hp, hsm, hs, x0, x1, x2, hlt, hlf, e6, e3, t0, t1, t2, a1, a2, ho, ee, hfair, gt0, eb, w1, w2, w3, w4, w5, f5, f4, rp4, rp5, keep8_0, l0', g2, g5, g9, keep8_1, l1', still]
end Go.Ai
