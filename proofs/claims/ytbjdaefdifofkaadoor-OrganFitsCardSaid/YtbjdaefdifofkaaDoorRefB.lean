/- This text shows the reference of the organ: what it answers. No conditions of its own. -/
import Derived.Test.YtbjdaefdifofkaaDoorRefA
import Derived.Test.YtbjdaefdifofkaaDoorFnC
import Derived.Test.YtbjdaefdifofkaaDoorRefV
set_option linter.unusedSimpArgs false
set_option linter.unusedVariables false
set_option maxRecDepth 100000
namespace Go.Ai
open Go.Organ (T4 F3 Tb T6 upd flat flat_ext lower tbl kept bds forkB tuneB clF Hi Lo isO)
def mostT (x : OB) (out : Nat → Bool) : Tb := Organ.close 6 (tbl dR (bds x.N x.forks (kept out x.tunes 0)))
theorem mostT_is {x : OB} (h : Chk0 x) {out : Nat → Bool} (hs : canO x out = true) {i k : Nat} (hi : Organ.Real x.N i) (hk : Organ.Real x.N k) : mostT x out i k = tabO x out i k :=
  Organ.T6_other (h.kept out) hs Organ.bareR (fun i => by simp [Organ.baseR]) hi hk
theorem from0_all (m : Tb) : from0 m 6 0 = (List.range' 0 6).all fun i => decide (0 ≤ m i i) := by
  simp [from0, List.range']
theorem mostB_is {x : OB} (h : Chk0 x) (out : Nat → Bool) : from0 (mostT x out) 6 0 = canO x out := by
  rw [from0_all]
  exact Organ.isO_other (h.kept out) Organ.bareR
theorem most_lo {x : OB} (h : Chk0 x) (out : Nat → Bool) : Lo (-65) (tbl dR (bds x.N x.forks (kept out x.tunes 0))) ∧ Hi (tbl dR (bds x.N x.forks (kept out x.tunes 0))) := by
  constructor
  · refine tbl_lo _ _ (fun b hb => (Organ.small_bds h.b.five h.b.forks (h.kept out).tunes b hb).small.1) fun i k _ _ => ?_
    unfold dR; split <;> omega
  · intro i k _ _
    refine Int.le_trans (Organ.tbl_le _ _ i k) ?_
    unfold dR; split <;> omega
theorem most_call (x : OB) (hx : x.Ok) (hc : Chk0 x) (but : Nat) (hbut : but < 2 ^ 62) : call Cv 59 [x.av, I but] = some (.tup [.agg (flatA (mostT x fun i => Least.hasB but i)), .bool (canO x fun i => Least.hasB but i)]) := by
  have e5 : ((0 : Nat) : Int) = 0 := rfl
  have hcl := xcells_cell x hx
  have hp := av_pur x hx
  have hbox : boxA {} x.av = some (.box 0 0, { boxes := [x.cells] }) := by
    simp only [boxA, OB.av, AV.cells, hcl, if_true]; rfl
  have g1 := loop59_1 x hx but 6 0 (by omega)
  have g2 := loop59_2 x hx hc but x.N 0 dR (by omega)
  have g3 := loop59_3 x hx hc but x.forks 0 (tbl dR (Organ.townB x.N)) (Nat.zero_le _) rfl
  have g4 := loop59_4 x hx hc but hbut x.tunes 0 (tbl (tbl dR (Organ.townB x.N)) (x.forks.flatMap forkB)) (Nat.zero_le _) rfl
  have hb := mostB_is hc fun i => Least.hasB but i
  have hlo := most_lo hc fun i => Least.hasB but i
  have hmt : mostT x (fun i => Least.hasB but i) = clF 6 0 (tbl (tbl (tbl dR (Organ.townB x.N)) (x.forks.flatMap forkB)) ((kept (fun i => Least.hasB but i) x.tunes 0).flatMap tuneB)) := by
    rw [Organ.cl_is, mostT, bds, tbl_app, tbl_app]
  have htt : tbl dR (bds x.N x.forks (kept (fun i => Least.hasB but i) x.tunes 0)) = tbl (tbl (tbl dR (Organ.townB x.N)) (x.forks.flatMap forkB)) ((kept (fun i => Least.hasB but i) x.tunes 0).flatMap tuneB) := by
    rw [bds, tbl_app, tbl_app]
  rw [htt] at hlo
  have g7 := loop59_7 x hx 6 0 (-65) _ (by omega) (by decide) (by omega) hlo.1 hlo.2
  rw [← hmt] at g7
  have g8 := loop59_8 x hx (mostT x fun i => Least.hasB but i) 6 0 (by omega)
  rw [hb] at g8
  have htw : tbl dR ((List.range' 0 x.N).flatMap fun p => [(5, p, (60 : Int)), (p, 5, 60)]) = tbl dR (Organ.townB x.N) := rfl
  rw [htw] at g2
  have hz : flatA (initT 0 0) = Z36 := rfl
  rw [hz] at g1
  generalize tbl (tbl (tbl dR (Organ.townB x.N)) (x.forks.flatMap forkB)) ((kept (fun i => Least.hasB but i) x.tunes 0).flatMap tuneB) = m4 at *
  generalize tbl (tbl dR (Organ.townB x.N)) (x.forks.flatMap forkB) = m3 at *
  generalize tbl dR (Organ.townB x.N) = m2 at *
  generalize (mostT x fun i => Least.hasB but i) = M at *
  have r1 := fun E (hE : mask keep59_1 E = _) => run_at g1 hE
  have r2 := fun E (hE : mask keep59_2 E = _) => run_at g2 hE
  have r3 := fun E (hE : mask keep59_3 E = _) => run_at g3 hE
  have r4 := fun E (hE : mask keep59_4 E = _) => run_at g4 hE
  have r7 := fun E (hE : mask keep59_7 E = _) => run_at g7 hE
  simp only [keep59_1, head59_1, e5, S59] at r1
  simp only [keep59_2, head59_2, e5, S59] at r2
  simp only [keep59_3, head59_3, e5, S59] at r3
  simp only [keep59_4, head59_4, e5, S59] at r4
  simp only [keep59_7, head59_7, e5, S59] at r7
  have p2 := tbA_pur
  cases hcan : canO x (fun i => Least.hasB but i) with
  | true =>
    rw [hcan] at g8
    have r8 := fun E (hE : mask keep59_8 E = _) => run_at g8 hE
    simp only [keep59_8, head59_8, e5, S59] at r8
    have l2 := lw46 (B := [x.cells, Z36, flatA M]) (m := M) (b := 2) rfl
    have s1 := sw46 (B := [x.cells, Z36, flatA M]) (m := M) (b := 1) rfl rfl
    have l3 := lw46 (B := [x.cells, flatA M, flatA M]) (m := M) (b := 1) rfl
    simp only [List.set_cons_zero, List.set_cons_succ] at s1
    rw [call_run comp59 (Nat.le_of_ble_eq_true rfl)]
    simp only [Z36] at *
    simp (maxSteps := 10000000) [-List.getD_eq_getElem?_getD, -boxA, -loadA, -storeA, -List.all_eq_true, code59, hbox, hp, keep59_1, r1, keep59_2, r2, keep59_3, r3, keep59_4, r4, keep59_7, r7, keep59_8, r8, retc2, l2, s1, l3, p2]
  | false =>
    rw [hcan] at g8
    obtain ⟨L, g8, ga, gb⟩ := g8
    have r8 := fun E (hE : mask keep59_8 E = _) => run_at g8 hE
    simp only [keep59_8, head59_8, e5, S59] at r8
    have l3 := lw46 (B := [x.cells, flatA M, flatA M]) (m := M) (b := 1) rfl
    rw [call_run comp59 (Nat.le_of_ble_eq_true rfl)]
    simp only [Z36] at *
    simp (maxSteps := 10000000) [-List.getD_eq_getElem?_getD, -boxA, -loadA, -storeA, -List.all_eq_true, code59, hbox, hp, keep59_1, r1, keep59_2, r2, keep59_3, r3, keep59_4, r4, keep59_7, r7, keep59_8, r8, ga, gb, retc2, l3, p2]
theorem has_zero : (fun i : Nat => Least.hasB ((0 : Nat) : Int) i) = noF := by
  funext i
  simp [Least.hasB, noF]
theorem most0 (x : OB) (hx : x.Ok) (hc : Chk0 x) : call Cv 59 [x.av, I 0] = some (.tup [.agg (flatA (mostT x noF)), .bool (canO x noF)]) := by
  have h := most_call x hx hc 0 (by omega)
  rw [has_zero] at h
  exact h
theorem rRight08_call (x : OB) (hx : x.Ok) : call Cv 16 [x.av] = some (.tup [.bool (rightB x), I (rightE x)]) := by
  have hcl := xcells_cell x hx
  have hp := av_pur x hx
  have hbox : boxA {} x.av = some (.box 0 0, { boxes := [x.cells] }) := by
    simp only [boxA, OB.av, AV.cells, hcl, if_true]; rfl
  have h1 := rCheck18_call x hx
  have hv : partA (some 3) x.cells 3 = some (.agg [x.br, I x.voice.weeks, x.vr]) := rfl
  have hvp : ∀ σ n, pur σ (n + 2) (.agg [x.br, I x.voice.weeks, x.vr]) = some (.agg [x.br, I x.voice.weeks, x.vr], false) := fun σ n => by
    rw [pu_agg]; simp only [pa_cons, pa_nil, br_pur, vr_pur, pu_int, Option.bind_some, Bool.or_self]
  cases hc : checkOk x with
  | false =>
    rw [hc] at h1
    simp only [Bool.false_eq_true, if_false] at h1
    rw [rightB, rightE, hc, Bool.false_and, if_neg (by decide)]
    rw [call_run comp16 (Nat.le_of_ble_eq_true rfl)]
    simp (maxSteps := 10000000) [-List.getD_eq_getElem?_getD, -boxA, -partA, part_none, part_x, code16, hbox, hp, h1, ret2]
  | true =>
    rw [hc] at h1
    simp only [if_true] at h1
    have hch := (chk_iff x).1 hc
    have h2 := most0 x hx hch.toChk0
    have h3 := Vc.rRightB_call x.voice hx.voice
    rw [voice_av, hch.voice, Bool.true_and, if_pos rfl] at h3
    rw [rightB, rightE, hc, Bool.true_and, if_pos rfl, trueO]
    have s1 := fun m => sw46 (B := [x.cells, Z36]) (m := m) (b := 1) rfl rfl
    simp only [List.set_cons_zero, List.set_cons_succ, Z36] at s1
    have l2 : ∀ F, loadA { boxes := [x.cells, F] } (some 6) (.box 0 0) = some x.av := fun _ => rfl
    have l3 : ∀ B, loadA { boxes := x.cells :: B } (some 3) (.box 0 3) = some (.agg [x.br, I x.voice.weeks, x.vr]) := fun _ => rfl
    have l4 : loadA { boxes := [x.cells] } (some 6) (.box 0 0) = some x.av := rfl
    have p2 := tbA_pur
    generalize Vc.fine x.voice [] = b1 at *
    generalize canO x noF = b2 at *
    rw [call_run comp16 (Nat.le_of_ble_eq_true rfl)]
    cases b1 <;> simp (maxSteps := 10000000) [-List.getD_eq_getElem?_getD, -boxA, -partA, -loadA, -storeA, part_none, part_x, code16, hbox, hp, hvp, h1, h2, h3, s1, l2, l3, l4, p2, ret2]
def raskT (x : OB) (is : Bool) : Tb := if checkOk x = true ∧ is = true then mostT x noF else fun _ _ => 0
theorem rasked_call (x : OB) (hx : x.Ok) (is : Bool) : call Cv 70 [x.av, .bool is] = some (.tup [.agg (flatA (raskT x is)), I (askE x is)]) := by
  have hcl := xcells_cell x hx
  have hp := av_pur x hx
  have hbox : boxA {} x.av = some (.box 0 0, { boxes := [x.cells] }) := by
    simp only [boxA, OB.av, AV.cells, hcl, if_true]; rfl
  have h1 := rCheck18_call x hx
  have hvp : ∀ σ n, pur σ (n + 2) (.agg [x.br, I x.voice.weeks, x.vr]) = some (.agg [x.br, I x.voice.weeks, x.vr], false) := fun σ n => by
    rw [pu_agg]; simp only [pa_cons, pa_nil, br_pur, vr_pur, pu_int, Option.bind_some, Bool.or_self]
  have hf36 : fillA [] Z36 = some Z36 := rfl
  have s0 : storeA { boxes := [x.cells, Z36] } 36 (.box 1 0) (.agg Z36) = some { boxes := [x.cells, Z36] } := rfl
  have l0 : loadA { boxes := [x.cells, Z36] } (some 36) (.box 1 0) = some (.agg Z36) := rfl
  have l4 : ∀ B, loadA { boxes := x.cells :: B } (some 6) (.box 0 0) = some x.av := fun _ => rfl
  have p0 : ∀ σ n, pur σ (n + 2) (.agg Z36) = some (.agg Z36, false) := fun _ _ => rfl
  have hz : flatA (fun _ _ => 0) = Z36 := rfl
  cases hc : checkOk x with
  | false =>
    rw [hc] at h1
    simp only [Bool.false_eq_true, if_false] at h1
    have e1 : askE x is = 80 := by rw [askE, if_pos hc]
    have e2 : raskT x is = fun _ _ => 0 := by rw [raskT, if_neg (by rw [hc]; simp)]
    rw [e1, e2, hz]
    rw [call_run comp70 (Nat.le_of_ble_eq_true rfl)]
    simp only [Z36] at *
    simp (maxSteps := 10000000) [-List.getD_eq_getElem?_getD, -boxA, -partA, -loadA, -storeA, part_none, part_x, code70, hbox, hp, h1, retc2, hf36, s0, l0, l4, p0]
  | true =>
    rw [hc] at h1
    simp only [if_true] at h1
    have hch := (chk_iff x).1 hc
    cases is with
    | false =>
      have e1 : askE x false = 81 := by rw [askE, if_neg (by rw [hc]; decide), if_pos rfl]
      have e2 : raskT x false = fun _ _ => 0 := by rw [raskT, if_neg (by simp)]
      rw [e1, e2, hz]
      rw [call_run comp70 (Nat.le_of_ble_eq_true rfl)]
      simp only [Z36] at *
      simp (maxSteps := 10000000) [-List.getD_eq_getElem?_getD, -boxA, -partA, -loadA, -storeA, part_none, part_x, code70, hbox, hp, h1, retc2, hf36, s0, l0, l4, p0]
    | true =>
      have e1 : askE x true = if trueO x then 0 else 82 := by
        rw [askE, if_neg (by rw [hc]; decide), if_neg (by decide)]
        cases trueO x <;> rfl
      have e2 : raskT x true = mostT x noF := by rw [raskT, if_pos ⟨hc, rfl⟩]
      rw [e1, e2, trueO]
      have h2 := most0 x hx hch.toChk0
      have h3 := Vc.rRightB_call x.voice hx.voice
      rw [voice_av, hch.voice, Bool.true_and, if_pos rfl] at h3
      generalize mostT x noF = M at *
      have s1 := fun F => sw46 (B := [x.cells, F, Z36]) (m := M) (b := 2) rfl rfl
      have s2 := sw46 (B := [x.cells, Z36, flatA M]) (m := M) (b := 1) rfl rfl
      simp only [List.set_cons_zero, List.set_cons_succ] at s1 s2
      have l2 := lw46 (B := [x.cells, Z36, flatA M]) (m := M) (b := 2) rfl
      have l5 := lw46 (B := [x.cells, flatA M, flatA M]) (m := M) (b := 1) rfl
      have l3 : ∀ B, loadA { boxes := x.cells :: B } (some 3) (.box 0 3) = some (.agg [x.br, I x.voice.weeks, x.vr]) := fun _ => rfl
      have p2 := tbA_pur
      generalize Vc.fine x.voice [] = b1 at *
      generalize canO x noF = b2 at *
      rw [call_run comp70 (Nat.le_of_ble_eq_true rfl)]
      simp only [Z36] at *
      cases b1 <;> cases b2 <;> simp (maxSteps := 10000000) [-List.getD_eq_getElem?_getD, -boxA, -partA, -loadA, -storeA, part_none, part_x, code70, hbox, hp, hvp, h1, h2, h3, retc2, s1, s2, l2, l3, l4, l5, p2]
end Go.Ai

set_option maxRecDepth 100000
namespace Go.Ai
open Go.Organ (T4 F3 Tb T6 upd flat loF hiF loS hiS shL shH kept)
theorem rapart_call (m : Tb) {i k : Nat} (hi : i < 6) (hk : k < 6) (hw : IntKind.wrap .i64 (-m k i) = -m k i) : call Cv 71 [.agg (flatA m), I i, I k] = some (.agg [I (-m k i), I (m i k)]) := by
  have hbox : boxA {} (.agg (flatA m)) = some (.box 0 0, { boxes := [flatA m] }) := rfl
  have i1 := fun b => ixa0 (b := b) hi
  have i2 := fun b => ixb0 (b := b) (i := i) hk
  have j1 := fun b => ixa0 (b := b) hk
  have j2 := fun b => ixb0 (b := b) (i := k) hi
  have l1 := fun Z => ld46 (B := [flatA m, Z]) (b := 0) (m := m) rfl hi hk
  have l2 := fun Z => ld46 (B := [flatA m, Z]) (b := 0) (m := m) rfl hk hi
  have hb : ∀ a b, call Cv 49 [I a, I b] = some (.agg [I a, I b]) := bounds_call
  have s2 : ∀ F a b, storeA { boxes := [F, [I 0, I 0]] } 2 (.box 1 0) (.agg [I a, I b]) = some { boxes := [F, [I a, I b]] } := fun _ _ _ => rfl
  have l3 : ∀ F a b, loadA { boxes := [F, [I a, I b]] } (some 2) (.box 1 0) = some (.agg [I a, I b]) := fun _ _ _ => rfl
  rw [call_run comp71 (Nat.le_of_ble_eq_true rfl)]
  simp (maxSteps := 10000000) [-List.getD_eq_getElem?_getD, -boxA, -partA, -setAt, -loadA, -storeA, -ixaA, -List.all_eq_true, code71, hbox, i1, i2, j1, j2, l1, l2, hw, hb, s2, l3]
theorem rtold {x : OB} (hc : Chk x) (ht : trueO x = true) {i k : Nat} (hi : Organ.Real x.N i) (hk : Organ.Real x.N k) : mostT x noF i k = tabO x noF i k :=
  mostT_is hc.toChk0 (by
    have := ht; unfold trueO at this; simp only [Bool.and_eq_true] at this; exact this.2) hi hk
theorem raskT_is {x : OB} {is : Bool} (h : askE x is = 0) : raskT x is = mostT x noF := by
  obtain ⟨hc, hi, _⟩ := ask_zero h
  rw [raskT, if_pos ⟨(chk_iff x).2 hc, hi⟩]
theorem rPitch_call (x : OB) (hx : x.Ok) (p : Int) : call Cv 20 [x.av, I p] = some (.tup [twoV x (isPipe x p) 5 p.toNat, I (askE x (isPipe x p))]) := by
  have h1 := rasked_call x hx (isPipe x p)
  have h2 := rIsPipe_call x hx p
  have hcl := xcells_cell x hx
  have hp := av_pur x hx
  have hbox : boxA {} x.av = some (.box 0 0, { boxes := [x.cells] }) := by
    simp only [boxA, OB.av, AV.cells, hcl, if_true]; rfl
  have l6 : ∀ B, loadA { boxes := x.cells :: B } (some 6) (.box 0 0) = some x.av := fun _ => rfl
  have p2 := tbA_pur
  have l3 : ∀ E a b, loadA { boxes := x.cells :: [I a, I b] :: E } (some 2) (.box 1 0) = some (.agg [I a, I b]) := fun _ _ _ => rfl
  have s3 : ∀ E a b, storeA { boxes := x.cells :: [I 0, I 0] :: E } 2 (.box 1 0) (.agg [I a, I b]) = some { boxes := x.cells :: [I a, I b] :: E } := fun _ _ _ => rfl
  unfold twoV
  by_cases h0 : askE x (isPipe x p) = 0
  · obtain ⟨hc, hi, ht⟩ := ask_zero h0
    have hi' := (isPipe_iff hc.p).1 hi
    have hr : Organ.Real x.N p.toNat := .inl (by omega)
    have r5 : Organ.Real x.N 5 := .inr rfl
    have ep : ((p.toNat : Nat) : Int) = p := by omega
    have hn := tab_near hc ht hr r5
    have e1 := rtold hc ht hr r5
    have e2 := rtold hc ht r5 hr
    have ha := rapart_call (mostT x noF) (show 5 < 6 by omega) (real_lt hc hr) (wrap_small (by omega) (by omega))
    rw [raskT_is h0, h0, hi] at h1
    rw [hi] at h2
    rw [ep, e1, e2] at ha
    have e5 : ((5 : Nat) : Int) = 5 := rfl
    rw [e5] at ha
    rw [h0]
    generalize mostT x noF = M at *
    have s1 := fun F => sw46 (B := [x.cells, F, Z36]) (m := M) (b := 2) rfl rfl
    simp only [List.set_cons_zero, List.set_cons_succ] at s1
    have l1 := fun F => lw46 (B := [x.cells, F, flatA M]) (m := M) (b := 2) rfl
    simp only [if_true]
    rw [call_run comp20 (Nat.le_of_ble_eq_true rfl)]
    simp only [Z36] at *
    simp (maxSteps := 10000000) [-List.getD_eq_getElem?_getD, retc2, -partA, -setAt, -loadA, -storeA, -List.all_eq_true, -boxA, code20, hbox, l6, hp, h1, h2, still, p2, ha, s1, l1, l3, s3]
  · generalize askE x (isPipe x p) = e at *
    have h0' : (e == 0) = false := by simpa using h0
    generalize raskT x (isPipe x p) = M at *
    have s1 := fun F => sw46 (B := [x.cells, F, Z36]) (m := M) (b := 2) rfl rfl
    simp only [List.set_cons_zero, List.set_cons_succ] at s1
    simp only [h0, if_false]
    rw [call_run comp20 (Nat.le_of_ble_eq_true rfl)]
    simp only [Z36] at *
    simp (maxSteps := 10000000) [-List.getD_eq_getElem?_getD, retc2, -partA, -setAt, -loadA, -storeA, -List.all_eq_true, fill_two, -boxA, code20, hbox, l6, hp, h1, h2, still, p2, s1, l3, s3, h0, h0']
theorem rApart_call (x : OB) (hx : x.Ok) (p q : Int) : call Cv 22 [x.av, I p, I q] = some (.tup [twoV x (isPipe x p && isPipe x q) p.toNat q.toNat, I (askE x (isPipe x p && isPipe x q))]) := by
  have h1 := rasked_call x hx (isPipe x p && isPipe x q)
  have h2 := rIsPipe_call x hx p
  have h3 := rIsPipe_call x hx q
  have hcl := xcells_cell x hx
  have hp := av_pur x hx
  have hbox : boxA {} x.av = some (.box 0 0, { boxes := [x.cells] }) := by
    simp only [boxA, OB.av, AV.cells, hcl, if_true]; rfl
  have l6 : ∀ B, loadA { boxes := x.cells :: B } (some 6) (.box 0 0) = some x.av := fun _ => rfl
  have p2 := tbA_pur
  have l3 : ∀ E a b, loadA { boxes := x.cells :: [I a, I b] :: E } (some 2) (.box 1 0) = some (.agg [I a, I b]) := fun _ _ _ => rfl
  have s3 : ∀ E a b, storeA { boxes := x.cells :: [I 0, I 0] :: E } 2 (.box 1 0) (.agg [I a, I b]) = some { boxes := x.cells :: [I a, I b] :: E } := fun _ _ _ => rfl
  unfold twoV
  by_cases h0 : askE x (isPipe x p && isPipe x q) = 0
  · obtain ⟨hc, hi, ht⟩ := ask_zero h0
    have hia := hi
    simp only [Bool.and_eq_true] at hi
    have hi1 := (isPipe_iff hc.p).1 hi.1
    have hi2 := (isPipe_iff hc.p).1 hi.2
    have hr1 : Organ.Real x.N p.toNat := .inl (by omega)
    have hr2 : Organ.Real x.N q.toNat := .inl (by omega)
    have ep : ((p.toNat : Nat) : Int) = p := by omega
    have eq : ((q.toNat : Nat) : Int) = q := by omega
    have hn := tab_near hc ht hr2 hr1
    have e1 := rtold hc ht hr1 hr2
    have e2 := rtold hc ht hr2 hr1
    have ha := rapart_call (mostT x noF) (real_lt hc hr1) (real_lt hc hr2) (wrap_small (by omega) (by omega))
    rw [raskT_is h0, h0, hia] at h1
    rw [hi.1] at h2
    rw [hi.2] at h3
    rw [ep, eq, e1, e2] at ha
    rw [h0]
    generalize mostT x noF = M at *
    have s1 := fun F => sw46 (B := [x.cells, F, Z36]) (m := M) (b := 2) rfl rfl
    simp only [List.set_cons_zero, List.set_cons_succ] at s1
    have l1 := fun F => lw46 (B := [x.cells, F, flatA M]) (m := M) (b := 2) rfl
    simp only [if_true]
    rw [call_run comp22 (Nat.le_of_ble_eq_true rfl)]
    simp only [Z36] at *
    simp (maxSteps := 10000000) [-List.getD_eq_getElem?_getD, retc2, -partA, -setAt, -loadA, -storeA, -List.all_eq_true, -boxA, code22, hbox, l6, hp, h1, h2, h3, still, p2, ha, s1, l1, l3, s3]
  · generalize askE x (isPipe x p && isPipe x q) = e at *
    have h0' : (e == 0) = false := by simpa using h0
    generalize raskT x (isPipe x p && isPipe x q) = M at *
    have s1 := fun F => sw46 (B := [x.cells, F, Z36]) (m := M) (b := 2) rfl rfl
    simp only [List.set_cons_zero, List.set_cons_succ] at s1
    simp only [h0, if_false]
    generalize isPipe x p = b1 at *
    generalize isPipe x q = b2 at *
    rw [call_run comp22 (Nat.le_of_ble_eq_true rfl)]
    simp only [Z36] at *
    cases b1 <;> simp only [Bool.false_and, Bool.true_and] at h1 <;>
      simp (maxSteps := 10000000) [-List.getD_eq_getElem?_getD, retc2, -partA, -setAt, -loadA, -storeA, -List.all_eq_true, fill_two, -boxA, code22, hbox, l6, hp, h1, h2, h3, still, p2, s1, l3, s3, h0, h0']
theorem down_call (n : Int) (h : -1000 ≤ n ∧ n ≤ 1000) : call Cv 103 [I n] = some (I (n / 10)) := by
  have h1 : n.tdiv 10 = n / 10 + if 0 ≤ n ∨ (10 : Int) ∣ n then 0 else Int.sign 10 := Int.tdiv_eq_ediv
  have hs : Int.sign 10 = 1 := rfl
  rw [hs] at h1
  have hd : n.tdiv 10 * 10 > n ∧ n.tdiv 10 - 1 = n / 10 ∨ ¬ n.tdiv 10 * 10 > n ∧ n.tdiv 10 = n / 10 := by
    by_cases h0 : 0 ≤ n ∨ (10 : Int) ∣ n
    · right
      rw [if_pos h0] at h1
      omega
    · left
      rw [if_neg h0] at h1
      omega
  have hb : -200 ≤ n.tdiv 10 ∧ n.tdiv 10 ≤ 200 := by omega
  have w1 : IntKind.wrap .i64 (n.tdiv 10) = n.tdiv 10 := wrap_small (by omega) (by omega)
  have w2 : IntKind.wrap .i64 (n.tdiv 10 * 10) = n.tdiv 10 * 10 := wrap_small (by omega) (by omega)
  have w3 : IntKind.wrap .i64 (n.tdiv 10 - 1) = n.tdiv 10 - 1 := wrap_small (by omega) (by omega)
  rw [call_run comp103 (Nat.le_of_ble_eq_true rfl)]
  rcases hd with ⟨h1, h2⟩ | ⟨h1, h2⟩
  · rw [← h2]
    simp (maxSteps := 10000000) [-List.getD_eq_getElem?_getD, code103, w1, w2, w3, h1]
  · rw [← h2]
    simp (maxSteps := 10000000) [-List.getD_eq_getElem?_getD, code103, w1, w2, w3, h1]
theorem rjoin_call (a b c d : Int) : call Cv 102 [.agg [I a, I b], .agg [I c, I d]] = some (.agg [I (min a c), I (max b d)]) := by
  have hb : ∀ a b, call Cv 49 [I a, I b] = some (.agg [I a, I b]) := bounds_call
  have h1 := fold_min a c
  have h2 := fold_max b d
  rw [call_run comp102 (Nat.le_of_ble_eq_true rfl)]
  simp (maxSteps := 10000000) [-List.getD_eq_getElem?_getD, code102, h1, h2, hb]
def head73 (p : Int) : Env := mkE 29 .any [(6, I p), (5, .box 3 0), (4, .box 2 0), (3, .box 1 0), (2, .box 0 0)]
def st73 (x : OB) (m : Tb) (a b : Int) : St := { boxes := [x.cells, flatA m, [I 0, I 0], [I a, I b]] }
theorem loop73 (x : OB) (hx : x.Ok) (m : Tb) (hp : x.pipes = (x.N : Int)) (hN : x.N ≤ 5) (hb : ∀ p, p < x.N → -1000 ≤ m p 5 ∧ m p 5 ≤ 1000) : ∀ (n p : Nat) (a b : Int), p + n = x.N →
    run Cv 73 (.loop keep73_0 body73_0) (head73 p) (st73 x m a b) = some (.ex 0, mkE 29 .any [(12, .bool false), (11, I x.pipes), (10, .box 0 0), (9, I x.pipes), (6, I x.pipes), (5, .box 3 0), (4, .box 2 0), (3, .box 1 0), (2, .box 0 0)], st73 x m (loF m a (List.range' p n)) (hiF m b (List.range' p n)))
  | 0, p, a, b, hk => by
    obtain rfl : p = x.N := by omega
    have x0 : x.cells[0]? = some (I x.pipes) := rfl
    rw [← hp, run_loop]
    simp (maxSteps := 10000000) [-List.getD_eq_getElem?_getD, -partA, part_none, body73_0, keep73_0, head73, st73, x0]
    exact ⟨rfl, rfl⟩
  | n + 1, p, a, b, hk => by
    have hlt : (p : Int) < x.pipes := by omega
    have hw : IntKind.wrap .i64 ((p : Int) + 1) = ((p + 1 : Nat) : Int) := by rw [wrap_small (by omega) (by omega)]; rfl
    have hbp := hb p (by omega)
    have ha := rapart_call m (show 5 < 6 by omega) (show p < 6 by omega) (wrap_small (by omega) (by omega))
    have e5 : ((5 : Nat) : Int) = 5 := rfl
    rw [e5] at ha
    have l0 : ∀ B, loadA { boxes := x.cells :: B } none (.box 0 0) = some (I x.pipes) := fun _ => rfl
    have l1 := fun E => lw46 (B := x.cells :: flatA m :: E) (m := m) (b := 1) rfl
    have l2 : ∀ a b A B C, loadA { boxes := [A, B, C, [I a, I b]] } (some 2) (.box 3 0) = some (.agg [I a, I b]) := fun _ _ _ _ _ => rfl
    have s2 : ∀ a b c d A B C, storeA { boxes := [A, B, C, [I a, I b]] } 2 (.box 3 0) (.agg [I c, I d]) = some { boxes := [A, B, C, [I c, I d]] } := fun _ _ _ _ _ _ _ => rfl
    have hj := rjoin_call a b (-m p 5) (m 5 p)
    have p2 := tbA_pur
    have u1 := xcells_under x hx
    have u3 := flatA_under
    have key : run Cv 73 (.loop keep73_0 body73_0) (head73 p) (st73 x m a b) = run Cv 73 (.loop keep73_0 body73_0) (head73 ((p + 1 : Nat) : Int)) (st73 x m (min a (-m p 5)) (max b (m 5 p))) := by
      rw [run_loop]
      generalize MC.loop keep73_0 body73_0 = L
      simp (maxSteps := 10000000) [-List.getD_eq_getElem?_getD, -partA, -loadA, -storeA, -setAt, -List.all_eq_true, body73_0, keep73_0, head73, st73, hlt, hw, ha, l0, l1, l2, s2, hj, p2, u1, u3, still]
    rw [key, List.range'_succ]
    exact loop73 x hx m hp hN hb n (p + 1) _ _ (by omega)
end Go.Ai

set_option maxRecDepth 100000
namespace Go.Ai
open Go.Organ (T4 F3 Tb T6 upd flat loF hiF loS hiS shL shH kept)
theorem rsharp_call (x : OB) (hx : x.Ok) (hc : Chk x) (ht : trueO x = true) : call Cv 73 [x.av, .agg (flatA (mostT x noF))] = some (.agg [I (shL (tabO x noF) x.N), I (shH (tabO x noF) x.N)]) := by
  have hN := hc.b.five
  have h1 := hc.b.one
  have hr0 : Organ.Real x.N 0 := .inl h1
  have r5 : Organ.Real x.N 5 := .inr rfl
  have hb : ∀ p, p < x.N → -1000 ≤ mostT x noF p 5 ∧ mostT x noF p 5 ≤ 1000 := fun p hp => by
    have := tab_near hc ht (.inl hp : Organ.Real x.N p) r5
    rw [rtold hc ht (.inl hp) r5]
    omega
  have hl := loop73 x hx (mostT x noF) hc.pipes hN hb x.N 0 (-mostT x noF 0 5) (mostT x noF 5 0) (by omega)
  have e1 : loF (mostT x noF) (-mostT x noF 0 5) (List.range' 0 x.N) = loS (tabO x noF) x.N := Organ.loS_congr h1 fun p hp => rtold hc ht (.inl hp) r5
  have e2 : hiF (mostT x noF) (mostT x noF 5 0) (List.range' 0 x.N) = hiS (tabO x noF) x.N := Organ.hiS_congr h1 fun p hp => rtold hc ht r5 (.inl hp)
  rw [e1, e2] at hl
  have hn0 := hb 0 h1
  have ha := rapart_call (mostT x noF) (show 5 < 6 by omega) (show 0 < 6 by omega) (wrap_small (by omega) (by omega))
  have e5 : ((5 : Nat) : Int) = 5 := rfl
  have e0 : ((0 : Nat) : Int) = 0 := rfl
  rw [e5, e0] at ha
  have hne := Organ.sh_near hc.b (true_can ht)
  rw [← tab0] at hne
  obtain ⟨n1, n2, n3⟩ := hne
  have hl' := fun E (hE : mask keep73_0 E = _) => run_at hl hE
  simp only [keep73_0, head73, st73, e0] at hl'
  have hcl := xcells_cell x hx
  have hp := av_pur x hx
  have hbox : boxA {} x.av = some (.box 0 0, { boxes := [x.cells] }) := by
    simp only [boxA, OB.av, AV.cells, hcl, if_true]; rfl
  have hbox2 : ∀ m, boxA { boxes := [x.cells] } (.agg (flatA m)) = some (.box 1 0, { boxes := [x.cells, flatA m] }) := fun _ => rfl
  have p2 := tbA_pur
  have l1 := fun E => lw46 (B := x.cells :: flatA (mostT x noF) :: E) (m := mostT x noF) (b := 1) rfl
  have s2 : ∀ a b c d A B C, storeA { boxes := [A, B, C, [I a, I b]] } 2 (.box 3 0) (.agg [I c, I d]) = some { boxes := [A, B, C, [I c, I d]] } := fun _ _ _ _ _ _ _ => rfl
  have s3 : ∀ a b c d A B E, storeA { boxes := A :: B :: [I a, I b] :: E } 2 (.box 2 0) (.agg [I c, I d]) = some { boxes := A :: B :: [I c, I d] :: E } := fun _ _ _ _ _ _ _ => rfl
  have l3 : ∀ a b A B C, loadA { boxes := [A, B, C, [I a, I b]] } none (.box 3 0) = some (I a) := fun _ _ _ _ _ => rfl
  have l4 : ∀ a b A B C, loadA { boxes := [A, B, C, [I a, I b]] } none (.box 3 1) = some (I b) := fun _ _ _ _ _ => rfl
  have l5 : ∀ a b A B E, loadA { boxes := A :: B :: [I a, I b] :: E } (some 2) (.box 2 0) = some (.agg [I a, I b]) := fun _ _ _ _ _ => rfl
  have hd1 := down_call (loS (tabO x noF) x.N) (by omega)
  have hd2 := down_call (-hiS (tabO x noF) x.N) (by omega)
  have w1 : IntKind.wrap .i64 (-hiS (tabO x noF) x.N) = -hiS (tabO x noF) x.N := wrap_small (by omega) (by omega)
  have w2 : IntKind.wrap .i64 (-(-hiS (tabO x noF) x.N / 10)) = -(-hiS (tabO x noF) x.N / 10) := wrap_small (by omega) (by omega)
  have hbd : ∀ a b, call Cv 49 [I a, I b] = some (.agg [I a, I b]) := bounds_call
  unfold shL shH
  generalize loS (tabO x noF) x.N = lo at *
  generalize hiS (tabO x noF) x.N = hi at *
  generalize mostT x noF = M at *
  rw [call_run comp73 (Nat.le_of_ble_eq_true rfl)]
  simp (maxSteps := 10000000) [-List.getD_eq_getElem?_getD, -boxA, -partA, -loadA, -storeA, -setAt, -List.all_eq_true, code73, keep73_0, hbox, hbox2, hp, hl', ha, p2, l1, s2, s3, l3, l4, l5, hd1, hd2, w1, w2, hbd, still]
theorem rSharp_call (x : OB) (hx : x.Ok) : call Cv 24 [x.av] = some (.tup [sharpV x, I (askE x true)]) := by
  have h1 := rasked_call x hx true
  have hcl := xcells_cell x hx
  have hp := av_pur x hx
  have hbox : boxA {} x.av = some (.box 0 0, { boxes := [x.cells] }) := by
    simp only [boxA, OB.av, AV.cells, hcl, if_true]; rfl
  have l6 : ∀ B, loadA { boxes := x.cells :: B } (some 6) (.box 0 0) = some x.av := fun _ => rfl
  have p2 := tbA_pur
  have l3 : ∀ E a b, loadA { boxes := x.cells :: [I a, I b] :: E } (some 2) (.box 1 0) = some (.agg [I a, I b]) := fun _ _ _ => rfl
  have s3 : ∀ E a b, storeA { boxes := x.cells :: [I 0, I 0] :: E } 2 (.box 1 0) (.agg [I a, I b]) = some { boxes := x.cells :: [I a, I b] :: E } := fun _ _ _ => rfl
  unfold sharpV
  by_cases h0 : askE x true = 0
  · obtain ⟨hc, hi, ht⟩ := ask_zero h0
    have ha := rsharp_call x hx hc ht
    rw [raskT_is h0, h0] at h1
    rw [h0]
    generalize mostT x noF = M at *
    have s1 := fun F => sw46 (B := [x.cells, F, Z36]) (m := M) (b := 2) rfl rfl
    simp only [List.set_cons_zero, List.set_cons_succ] at s1
    have l1 := fun F => lw46 (B := [x.cells, F, flatA M]) (m := M) (b := 2) rfl
    simp only [if_true]
    rw [call_run comp24 (Nat.le_of_ble_eq_true rfl)]
    simp only [Z36] at *
    simp (maxSteps := 10000000) [-List.getD_eq_getElem?_getD, retc2, -partA, -setAt, -loadA, -storeA, -List.all_eq_true, -boxA, code24, hbox, l6, hp, h1, still, p2, ha, s1, l1, l3, s3]
  · generalize askE x true = e at *
    have h0' : (e == 0) = false := by simpa using h0
    generalize raskT x true = M at *
    have s1 := fun F => sw46 (B := [x.cells, F, Z36]) (m := M) (b := 2) rfl rfl
    simp only [List.set_cons_zero, List.set_cons_succ] at s1
    simp only [h0, if_false]
    rw [call_run comp24 (Nat.le_of_ble_eq_true rfl)]
    simp only [Z36] at *
    simp (maxSteps := 10000000) [-List.getD_eq_getElem?_getD, retc2, -partA, -setAt, -loadA, -storeA, -List.all_eq_true, fill_two, -boxA, code24, hbox, l6, hp, h1, still, p2, s1, l3, s3, h0, h0']
end Go.Ai
