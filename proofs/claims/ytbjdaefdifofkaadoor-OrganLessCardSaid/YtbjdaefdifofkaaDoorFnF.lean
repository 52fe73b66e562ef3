/- This text shows small books; what is told of pipes. No conditions of its own. -/
import Derived.Test.YtbjdaefdifofkaaDoorFnE
set_option linter.unusedSimpArgs false
set_option linter.unusedVariables false
set_option maxRecDepth 100000
set_option linter.unusedSimpArgs false
set_option linter.unusedVariables false
/-! Small books; what is told of pipes of a book. -/
namespace Go.Ai
open Go.Organ (T4 F3 Tb T6)
def head35_0 (k : Int) (ok : Bool) : Env := mkE 125 .any [(4, I k), (3, .bool ok), (1, .box 0 0)]
theorem lie_true {n a b : Int} (h : a ≤ n ∧ n ≤ b) : lie n a b = true := lie_iff.2 h
theorem loop35_0 (x : OB) (hx : x.Ok) (hc : Chk x) : ∀ (l : List T4) (k : Nat), k ≤ x.tunes.length → x.tunes.drop k = l →
    ∃ L, run Cv 35 (.loop keep35_0 body35_0) (head35_0 k true) (stO x) = some (.ex 0, mkE 125 .any L, stO x) ∧ gt (mkE 125 .any L) 1 = .box 0 0 ∧ gt (mkE 125 .any L) 3 = .bool true
  | [], k, hk, h => by
    obtain rfl := drop_nil hk h
    have hlen := tlen hx
    rw [run_loop]
    simp (maxSteps := 10000000) [-List.getD_eq_getElem?_getD, body35_0, keep35_0, head35_0, stO, OB.cells, hlen]
    exact ⟨_, rfl, by simp (maxSteps := 10000000) [-List.getD_eq_getElem?_getD, ], by simp (maxSteps := 10000000) [-List.getD_eq_getElem?_getD, ]⟩
  | t :: l, k, hk, h => by
    obtain ⟨hlt, ha, hd⟩ := head_drop h
    have hw := wrap_succ hlt hx.lt
    have hlt' : (k : Int) < (x.tunes.length : Int) := by omega
    have hix : ixsA 4 x.tr (I k) = some (.rp [I t.src, I t.dst, I t.off, I t.err] 0) := by
      obtain ⟨c, hc, hr⟩ := hx.trow.sl (by intro hn; simp at hn; rw [hn] at hlt; simp at hlt)
      rw [hr]
      simp [ixsA, hlt, ha, tuA, AV.cells]
    have hlen := tlen hx
    have ht := hc.b.tunes t (ha ▸ List.getElem_mem _)
    have hp := hc.p
    have hpp := hc.pipes
    have wp : IntKind.wrap .i64 (x.pipes - 1) = x.pipes - 1 := wrap_small (by omega) (by omega)
    have h1 := ht.src; have h2 := ht.dst; have h3 := ht.ne; have h4 := ht.off; have h5 := ht.err
    have c1 := lies' t.src 0 (x.pipes - 1)
    have c2 := lies' t.dst 0 (x.pipes - 1)
    have c3 := lies' t.off (-30) 30
    have c4 := lies' t.err 0 5
    rw [lie_true (by omega)] at c1 c2 c3 c4
    have hne : (t.src != t.dst) = true := by simpa using h3
    have u1 := hx.trow.under
    have u2 := hx.frow.under
    have u3 := br_under x
    have u4 := vr_under x
    have hs4 : ∀ a b c d : AV, setAt [I 0, I 0, I 0, I 0] 0 [a, b, c, d] = [a, b, c, d] := fun _ _ _ _ => rfl
    have step : run Cv 35 (.loop keep35_0 body35_0) (head35_0 k true) (stO x) = run Cv 35 (.loop keep35_0 body35_0) (head35_0 (k + 1) true) (stO x) := by
      rw [run_loop]
      generalize MC.loop keep35_0 body35_0 = L
      simp (maxSteps := 10000000) [-List.getD_eq_getElem?_getD, -ixsA, -setAt, -List.all_eq_true, body35_0, keep35_0, head35_0, stO, OB.cells, hlen, hlt', hw, hix, hs4, wp, c1, c2, c3, c4, hne, u1, u2, u3, u4]
    rw [step]
    exact loop35_0 x hx hc l (k + 1) hlt hd
def head35_1 (k : Int) (ok : Bool) : Env := mkE 125 .any [(6, I k), (3, .bool ok), (1, .box 0 0)]
theorem loop35_1 (x : OB) (hx : x.Ok) (hc : Chk x) : ∀ (l : List F3) (k : Nat), k ≤ x.forks.length → x.forks.drop k = l →
    ∃ L, run Cv 35 (.loop keep35_1 body35_1) (head35_1 k true) (stO x) = some (.ex 2, mkE 125 .any L, stO x) ∧ gt (mkE 125 .any L) 3 = .bool true
  | [], k, hk, h => by
    obtain rfl := drop_nil hk h
    have hlen := flen hx
    rw [run_loop]
    simp (maxSteps := 10000000) [-List.getD_eq_getElem?_getD, body35_1, keep35_1, head35_1, stO, OB.cells, hlen]
    exact ⟨_, rfl, by simp (maxSteps := 10000000) [-List.getD_eq_getElem?_getD, ]⟩
  | f :: l, k, hk, h => by
    obtain ⟨hlt, ha, hd⟩ := head_drop h
    have hw := wrap_succ hlt hx.lf
    have hlt' : (k : Int) < (x.forks.length : Int) := by omega
    have hix : ixsA 3 x.fr (I k) = some (.rp [I f.pipe, I f.read, I f.err] 0) := by
      obtain ⟨c, hc, hr⟩ := hx.frow.sl (by intro hn; simp at hn; rw [hn] at hlt; simp at hlt)
      rw [hr]
      simp [ixsA, hlt, ha, foA, AV.cells]
    have hlen := flen hx
    have ht := hc.b.forks f (ha ▸ List.getElem_mem _)
    have hp := hc.p
    have hpp := hc.pipes
    have wp : IntKind.wrap .i64 (x.pipes - 1) = x.pipes - 1 := wrap_small (by omega) (by omega)
    have h1 := ht.pipe; have h4 := ht.read; have h5 := ht.err
    have c1 := lies' f.pipe 0 (x.pipes - 1)
    have c3 := lies' f.read (-60) 60
    have c4 := lies' f.err 0 5
    rw [lie_true (by omega)] at c1 c3 c4
    have u1 := hx.trow.under
    have u2 := hx.frow.under
    have u3 := br_under x
    have u4 := vr_under x
    have hs3 : ∀ a b c : AV, setAt [I 0, I 0, I 0] 0 [a, b, c] = [a, b, c] := fun _ _ _ => rfl
    have step : run Cv 35 (.loop keep35_1 body35_1) (head35_1 k true) (stO x) = run Cv 35 (.loop keep35_1 body35_1) (head35_1 (k + 1) true) (stO x) := by
      rw [run_loop]
      generalize MC.loop keep35_1 body35_1 = L
      simp (maxSteps := 10000000) [-List.getD_eq_getElem?_getD, -ixsA, -setAt, -List.all_eq_true, body35_1, keep35_1, head35_1, stO, OB.cells, hlen, hlt', hw, hix, hs3, wp, c1, c3, c4, u1, u2, u3, u4]
    rw [step]
    exact loop35_1 x hx hc l (k + 1) hlt hd
set_option maxHeartbeats 1000000 in
theorem small_call (x : OB) (hx : x.Ok) : call Cv 35 [x.av] = some (.bool (checkOk x)) := by
  have h1 := check_call x hx
  have hcl := xcells_cell x hx
  have hp := av_pur x hx
  have hbox : boxA {} x.av = some (.box 0 0, { boxes := [x.cells] }) := by
    simp only [boxA, OB.av, AV.cells, hcl, if_true]; rfl
  have e5 : ((0 : Nat) : Int) = 0 := rfl
  have hp3 : partA (some 3) x.cells 3 = some (.agg [x.br, I x.voice.weeks, x.vr]) := rfl
  cases hc : checkOk x with
  | false =>
    rw [hc] at h1
    simp only [Bool.false_eq_true, if_false] at h1
    have g0 : run Cv 35 (.loop keep35_0 body35_0) (head35_0 0 false) { boxes := [x.cells] } = some (.ex 0, mkE 125 .any [(54, .bool false), (53, .undef), (52, .undef), (51, .undef), (50, .undef), (49, .undef), (48, .bool false), (47, .bool false), (4, I 0), (3, .bool false), (1, .box 0 0)], { boxes := [x.cells] }) := by
      rw [run_loop]
      simp (maxSteps := 10000000) [-List.getD_eq_getElem?_getD, body35_0, keep35_0, head35_0]
    have g1 : run Cv 35 (.loop keep35_1 body35_1) (head35_1 0 false) { boxes := [x.cells] } = some (.ex 2, mkE 125 .any [(100, .bool false), (99, .undef), (98, .undef), (97, .undef), (96, .undef), (95, .undef), (94, .bool false), (93, .bool false), (6, I 0), (3, .bool false), (1, .box 0 0)], { boxes := [x.cells] }) := by
      rw [run_loop]
      simp (maxSteps := 10000000) [-List.getD_eq_getElem?_getD, body35_1, keep35_1, head35_1]
    have g0' := fun E (hE : mask keep35_0 E = _) => run_at g0 hE
    have g1' := fun E (hE : mask keep35_1 E = _) => run_at g1 hE
    simp only [keep35_0, head35_0] at g0'
    simp only [keep35_1, head35_1] at g1'
    rw [call_run comp35 (Nat.le_of_ble_eq_true rfl)]
    simp (maxSteps := 10000000) [-List.getD_eq_getElem?_getD, -boxA, -partA, part_none, part_x, code35, hbox, hp, h1, keep35_0, g0', keep35_1, g1']
  | true =>
    rw [hc] at h1
    simp only [if_true] at h1
    have hch := (chk_iff x).1 hc
    have hv := Vc.good_of hch.voice
    have h2 := Vc.check_call x.voice hx.voice
    rw [voice_av, hch.voice] at h2
    simp only [if_true] at h2
    have hvp : ∀ σ n, pur σ (n + 2) (.agg [x.br, I x.voice.weeks, x.vr]) = some (.agg [x.br, I x.voice.weeks, x.vr], false) := fun σ n => by
      rw [pu_agg]; simp only [pa_cons, pa_nil, br_pur, vr_pur, pu_int, Option.bind_some, Bool.or_self]
    obtain ⟨L0, g0, ga, gb⟩ := loop35_0 x hx hch x.tunes 0 (Nat.zero_le _) rfl
    obtain ⟨L1, g1, gc⟩ := loop35_1 x hx hch x.forks 0 (Nat.zero_le _) rfl
    have g0' := fun E (hE : mask keep35_0 E = _) => run_at g0 hE
    have g1' := fun E (hE : mask keep35_1 E = _) => run_at g1 hE
    simp only [keep35_0, head35_0, stO, e5] at g0'
    simp only [keep35_1, head35_1, stO, e5] at g1'
    have hpp := hch.p
    have a1 := hch.tunes; have a2 := hch.forks; have b1 := hv.bl; have b2 := hv.bl1; have b3 := hv.w1; have b4 := hv.w6
    have c1 := lies' x.pipes 1 5
    have c2 := lies' x.voice.boys.length 1 4
    have c3 := lies' x.voice.weeks 1 6
    rw [lie_true (by omega)] at c1 c2 c3
    have t1 := tlen hx
    have t2 := flen hx
    have t3 := brlen hx
    have l1 : (x.tunes.length : Int) ≤ 6 := by omega
    have l2 : (x.forks.length : Int) ≤ 3 := by omega
    have x0 : x.cells[0]? = some (I x.pipes) := rfl
    have x1 : x.cells[1]? = some x.tr := rfl
    have x2 : x.cells[2]? = some x.fr := rfl
    have x3 : x.cells[3]? = some x.br := rfl
    have x4 : x.cells[4]? = some (I x.voice.weeks) := rfl
    rw [call_run comp35 (Nat.le_of_ble_eq_true rfl)]
    simp (maxSteps := 10000000) [-List.getD_eq_getElem?_getD, -boxA, -partA, part_none, part_x, hp3, code35, hbox, hp, h1, h2, hvp, c1, c2, c3, t1, t2, t3, l1, l2, x0, x1, x2, x3, x4, keep35_0, g0', ga, gb, keep35_1, g1', gc]
/-! What is told of pipes of a book that is valid. -/
def tE (x : OB) : Int := if trueO x then 0 else 82
theorem askE_true {x : OB} (hc : Chk x) : askE x true = tE x := by
  have := (chk_iff x).2 hc
  simp only [askE, this, tE]
  cases trueO x <;> simp
def tab (x : OB) : Tb := T6 x.N x.forks x.tunes
theorem pipe_true {x : OB} (hc : Chk x) {p : Nat} (hp : p < x.N) : isPipe x p = true := (isPipe_iff hc.p).2 ⟨by omega, by omega⟩
theorem apart_t {x : OB} (hx : x.Ok) (hc : Chk x) (ht : trueO x = true) {p q : Nat} (hp : p < x.N) (hq : q < x.N) : call Cv 21 [x.av, I p, I q] = some (.tup [.agg [I (-tab x q p), I (tab x p q)], I 0]) := by
  have h := Apart_call x hx p q
  have h0 : askE x true = 0 := by rw [askE_true hc, tE, ht]; rfl
  rw [pipe_true hc hp, pipe_true hc hq, Bool.and_self, h0, twoV, if_pos h0, tab0] at h
  exact h
theorem apart_f {x : OB} (hx : x.Ok) (hc : Chk x) (ht : trueO x = false) {p q : Nat} (hp : p < x.N) (hq : q < x.N) : call Cv 21 [x.av, I p, I q] = some (.tup [.agg [I 0, I 0], I 82]) := by
  have h := Apart_call x hx p q
  have h0 : askE x true = 82 := by rw [askE_true hc, tE, ht]; rfl
  rw [pipe_true hc hp, pipe_true hc hq, Bool.and_self, h0, twoV, if_neg (by rw [h0]; decide)] at h
  exact h
theorem pitch_t {x : OB} (hx : x.Ok) (hc : Chk x) (ht : trueO x = true) {p : Nat} (hp : p < x.N) : call Cv 19 [x.av, I p] = some (.tup [.agg [I (-tab x p 5), I (tab x 5 p)], I 0]) := by
  have h := Pitch_call x hx p
  have h0 : askE x true = 0 := by rw [askE_true hc, tE, ht]; rfl
  rw [pipe_true hc hp, h0, twoV, if_pos h0, tab0] at h
  exact h
theorem pitch_f {x : OB} (hx : x.Ok) (hc : Chk x) (ht : trueO x = false) {p : Nat} (hp : p < x.N) : call Cv 19 [x.av, I p] = some (.tup [.agg [I 0, I 0], I 82]) := by
  have h := Pitch_call x hx p
  have h0 : askE x true = 82 := by rw [askE_true hc, tE, ht]; rfl
  rw [pipe_true hc hp, h0, twoV, if_neg (by rw [h0]; decide)] at h
  exact h
/-- A number chooses a pipe. -/
theorem turn_pipe {x : OB} (hc : Chk x) (n : Int) : ∃ p : Nat, p < x.N ∧ call Cv 38 [I n, I x.pipes] = some (I p) := by
  have hp := hc.p
  have hpp := hc.pipes
  have hT := turn_call n x.pipes (by omega)
  obtain ⟨r1, r2⟩ := turn_range n x.pipes (by omega)
  refine ⟨(turnI n x.pipes).toNat, by omega, ?_⟩
  rw [hT, show (((turnI n x.pipes).toNat : Nat) : Int) = turnI n x.pipes by omega]
end Go.Ai
