/- This text shows the statement about fits and wrong, in the interpreter. No conditions of its own. -/
import Derived.Test.YtbjdaefdifofkaaDoorRefD
import Derived.Test.YtbjdaefdifofkaaDoorRefB
import Derived.Test.YtbjdaefdifofkaaDoorFnE
import Derived.Test.YtbjdaefdifofkaaDoorCodesL5
set_option linter.unusedSimpArgs false
set_option linter.unusedVariables false
set_option maxRecDepth 100000
namespace Go.Ai
open Go.Organ (T4 F3 Tb T6 kept isO)
open Go.Least (bitsL shorterL incFrom betterG beats hasB)
theorem join_rowR {sz bytes : Nat} {es : List AV} {r : AV} (hr : IsRow sz es r) (hb : (es.length + 1) * bytes ≤ 140737488355328) (v : AV) (B : List (List AV)) :
    ∃ y ch, appA { boxes := B } false sz bytes true (.sl sz [] .full) r = some (y, { boxes := B, chains := ch }) ∧ appA { boxes := B, chains := ch } false sz bytes true y (.sl sz [v] .full) = some (.sl sz (es ++ [v]) (.chain 0), { boxes := B, chains := [(es.length + 1, sz)] }) := by
  have hb1 : bytes ≤ 140737488355328 := by
    have : bytes ≤ (es.length + 1) * bytes := Nat.le_mul_of_pos_left _ (by omega)
    omega
  have hb0 : es.length * bytes ≤ 140737488355328 := Nat.le_trans (Nat.mul_le_mul_right _ (by omega)) hb
  by_cases he : es = []
  · subst he
    refine ⟨.sl sz [] .full, [], ?_, ?_⟩
    · rcases hr with ⟨rfl, _⟩ | ⟨rfl, _⟩ | ⟨c, hc, rfl⟩ <;> simp [appA, elemsA, isSl]
    · simp [appA, elemsA, grown, hb1]
  · obtain ⟨c, hc, rfl⟩ := hr.sl he
    refine ⟨.sl sz es (.chain 0), [(es.length, sz)], ?_, ?_⟩
    · simp [appA, elemsA, grown, he, hb0]
    · simp [appA, elemsA, hb]
set_option maxHeartbeats 1000000 in
theorem rFits_call (x : OB) (hx : x.Ok) (t : T4) : call Cv 32 [x.av, tuA t] = some (.tup [.bool (fitsO x t), I (askE x (tuneOk x t))]) := by
  have h1 := rasked_call x hx (tuneOk x t)
  have h2 := rIsTune_call x hx t
  have hcl := xcells_cell x hx
  have hp := av_pur x hx
  have hbox : boxA {} x.av = some (.box 0 0, { boxes := [x.cells] }) := by
    simp only [boxA, OB.av, AV.cells, hcl, if_true]; rfl
  have hbox2 : boxA { boxes := [x.cells] } (tuA t) = some (.box 1 0, { boxes := [x.cells, [I t.src, I t.dst, I t.off, I t.err]] }) := rfl
  have htp : ∀ σ n, pur σ (n + 2) (tuA t) = some (tuA t, false) := fun _ _ => rfl
  have l6 : ∀ B, loadA { boxes := x.cells :: B } (some 6) (.box 0 0) = some x.av := fun _ => rfl
  have l4 : ∀ A B ch, loadA { boxes := A :: [I t.src, I t.dst, I t.off, I t.err] :: B, chains := ch } (some 4) (.box 1 0) = some (tuA t) := fun _ _ _ => rfl
  have p2 := tbA_pur
  unfold fitsO
  by_cases h0 : askE x (tuneOk x t) = 0
  · obtain ⟨hc, hi, ht⟩ := ask_zero h0
    rw [if_pos h0]
    have hl6 := hc.tunes
    have hto : Organ.TOk x.N t := (tuneOk_iff hc.p).1 hi
    have hnew : IsRow 4 ((x.tunes ++ [t]).map tuA) (.sl 4 ((x.tunes ++ [t]).map tuA) .no) := .inr (.inr ⟨.no, rfl, rfl⟩)
    have hox := tuned_ok hx hnew (by simp; omega)
    have hch := tuned_chk0 hc.toChk0 (r := .sl 4 ((x.tunes ++ [t]).map tuA) .no) (ts := x.tunes ++ [t]) (fun u hu => by
      rcases List.mem_append.1 hu with hu | hu
      · exact hc.b.tunes u hu
      · rw [List.mem_singleton.1 hu]; exact hto)
    have hop := most0 _ hox hch
    have hcan : canO (x.tuned (x.tunes ++ [t]) (.sl 4 ((x.tunes ++ [t]).map tuA) .no)) noF = Organ.isO x.N x.forks (x.tunes ++ [t]) := by
      rw [canO, kept_noF]; rfl
    rw [hcan] at hop
    have hav : (x.tuned (x.tunes ++ [t]) (.sl 4 ((x.tunes ++ [t]).map tuA) .no)).av = .agg [I x.pipes, .sl 4 ((x.tunes ++ [t]).map tuA) .no, x.fr, x.br, I x.voice.weeks, x.vr] := rfl
    rw [hav] at hop
    have hm : (x.tunes ++ [t]).map tuA = x.tunes.map tuA ++ [tuA t] := by rw [List.map_append]; rfl
    rw [hm] at hop
    rw [raskT_is h0, h0, hi] at h1
    rw [hi] at h2
    generalize mostT x noF = M at *
    generalize mostT (x.tuned (x.tunes ++ [t]) (.sl 4 (x.tunes.map tuA ++ [tuA t]) .no)) noF = M' at *
    generalize isO x.N x.forks (x.tunes ++ [t]) = b at *
    obtain ⟨y, ch, j1, j2⟩ := join_rowR (sz := 4) (bytes := 32) hx.trow (by simp; omega) (tuA t) [x.cells, [I t.src, I t.dst, I t.off, I t.err], flatA M, x.cells]
    have s1 := sw46 (B := [x.cells, [I t.src, I t.dst, I t.off, I t.err], Z36]) (m := M) (b := 2) rfl rfl
    simp only [List.set_cons_zero, List.set_cons_succ] at s1
    have s2 : ∀ A B C, storeA { boxes := [A, B, C, [I 0, .nils, .nils, .nils, I 0, .nils]] } 6 (.box 3 0) x.av = some { boxes := [A, B, C, x.cells] } := fun A B C => by
      show (if 0 ≤ 3 ∧ x.cells.length = 6 ∧ 0 + 6 ≤ 6 ∧ x.cells.all AV.isCell = true then some ({ boxes := [A, B, C, x.cells] } : St) else none) = _
      exact if_pos ⟨by decide, rfl, by decide, hcl⟩
    have l1 : ∀ B, loadA { boxes := x.cells :: B } none (.box 0 1) = some x.tr := fun _ => rfl
    have hf0 : fillE 4 true [] [] = some [] := rfl
    have hf1 : ∀ z, fillE 4 true [(0, tuA t)] [z] = some [tuA t] := fun _ => rfl
    have hr1 : ∀ z : AV, List.replicate 1 z = [z] := fun _ => rfl
    have s3 : ∀ A B C es c ch, storeA { boxes := [A, B, C, x.cells], chains := ch } 1 (.box 3 1) (.sl 4 es c) = some { boxes := [A, B, C, [I x.pipes, .sl 4 es c, x.fr, x.br, I x.voice.weeks, x.vr]], chains := ch } := fun _ _ _ _ _ _ => rfl
    have l5 : ∀ A B C v E ch, loadA { boxes := A :: B :: C :: [I x.pipes, v, x.fr, x.br, I x.voice.weeks, x.vr] :: E, chains := ch } (some 6) (.box 3 0) = some (.agg [I x.pipes, v, x.fr, x.br, I x.voice.weeks, x.vr]) := fun _ _ _ _ _ _ => rfl
    have s4 : ∀ A B C D ch, storeA { boxes := [A, B, C, D, Z36], chains := ch } 36 (.box 4 0) (.agg (flatA M')) = some { boxes := [A, B, C, D, flatA M'], chains := ch } := fun _ _ _ _ _ => rfl
    have q1 := hx.frow.pur
    have q2 := br_pur x
    have q3 := vr_pur x
    rw [h0]
    rw [call_run comp32 (Nat.le_of_ble_eq_true rfl)]
    simp only [Z36] at *
    simp (maxSteps := 10000000) [-List.getD_eq_getElem?_getD, ret2, -partA, -setAt, -loadA, -storeA, -List.all_eq_true, -boxA, code32, hbox, hbox2, l6, l4, hp, htp, h1, h2, still, p2, s1, s2, l1, hf0, hf1, hr1, j1, j2, s3, l5, q1, q2, q3, hop, s4]
  · rw [if_neg h0]
    generalize askE x (tuneOk x t) = e at *
    have h0' : (e == 0) = false := by simpa using h0
    generalize raskT x (tuneOk x t) = M at *
    have s1 := sw46 (B := [x.cells, [I t.src, I t.dst, I t.off, I t.err], Z36]) (m := M) (b := 2) rfl rfl
    simp only [List.set_cons_zero, List.set_cons_succ] at s1
    rw [call_run comp32 (Nat.le_of_ble_eq_true rfl)]
    simp only [Z36] at *
    simp (maxSteps := 10000000) [-List.getD_eq_getElem?_getD, ret2, -partA, -setAt, -loadA, -storeA, -List.all_eq_true, -boxA, code32, hbox, hbox2, l6, l4, hp, htp, h1, h2, still, p2, s1, h0, h0']
theorem full_bits (T i : Nat) : hasB ((2 ^ T - 1 : Nat) : Int) (i : Int) = (decide (i < 62) && decide (i < T)) := by
  have h1 : (0 : Int) ≤ (i : Int) := by omega
  have h2 : ((i : Int) < 62) ↔ i < 62 := by omega
  simp only [hasB, h1, decide_true, Bool.true_and, Int.toNat_natCast, Nat.testBit_two_pow_sub_one, h2]
theorem full_can {x : OB} (hl : x.tunes.length ≤ 6) : okL x (bitsL (2 ^ x.tunes.length - 1) x.tunes.length) = isO x.N x.forks [] := by
  rw [← can_bits, canO]
  rw [kept_allR _ _ _ fun j _ hj => ?_]
  rw [full_bits]
  simp
  omega
set_option maxHeartbeats 1000000 in
theorem rWrong_call (x : OB) (hx : x.Ok) : ∃ y, IsRow 1 (ints (wrongL x)) y ∧ call Cv 34 [x.av] = some (.tup [y, I (wrongE x)]) := by
  have h1 := rCheck18_call x hx
  have hcl := xcells_cell x hx
  have hp := av_pur x hx
  have hbox : boxA {} x.av = some (.box 0 0, { boxes := [x.cells] }) := by
    simp only [boxA, OB.av, AV.cells, hcl, if_true]; rfl
  have l6 : ∀ B, loadA { boxes := x.cells :: B } (some 6) (.box 0 0) = some x.av := fun _ => rfl
  cases hc : checkOk x with
  | false =>
    rw [hc] at h1
    simp only [Bool.false_eq_true, if_false] at h1
    refine ⟨.nils, by simp [wrongL, wrongO, hc]; exact nils_row, ?_⟩
    rw [call_run comp34 (Nat.le_of_ble_eq_true rfl)]
    simp (maxSteps := 10000000) [-List.getD_eq_getElem?_getD, ret2, -boxA, -loadA, code34, hbox, l6, hp, h1, wrongE, hc]
  | true =>
    rw [hc] at h1
    simp only [if_true] at h1
    have hch := (chk_iff x).1 hc
    have hT6 := hch.tunes
    have hp64 := pow_smallR hT6
    have hsh := shl_is hT6
    have h0 : 0 < 2 ^ x.tunes.length := Nat.two_pow_pos _
    have hlen := tlen hx
    have hvp : ∀ σ n, pur σ (n + 2) (.agg [x.br, I x.voice.weeks, x.vr]) = some (.agg [x.br, I x.voice.weeks, x.vr], false) := fun σ n => by
      rw [pu_agg]; simp only [pa_cons, pa_nil, br_pur, vr_pur, pu_int, Option.bind_some, Bool.or_self]
    have h3 := Vc.rRightB_call x.voice hx.voice
    rw [voice_av, hch.voice, Bool.true_and, if_pos rfl] at h3
    obtain ⟨y, hy, c1⟩ := bits_call (2 ^ x.tunes.length - 1) (by omega) x.tunes.length (by omega)
    have hbl := Least.bits_len (2 ^ x.tunes.length - 1) x.tunes.length
    have c3 := most_call x hx hch.toChk0 (2 ^ x.tunes.length - 1) (by omega)
    rw [can_bits, full_can hT6] at c3
    have hfull := full_can (x := x) hT6
    have hbi := Least.bits_inc (2 ^ x.tunes.length - 1) x.tunes.length
    have hnone : Least.wrongG (okL x) x.tunes.length 0 (x.tunes.length + 1) = none → isO x.N x.forks [] = false := fun h => by
      rw [← hfull]
      exact Least.told_none (ok := okL x) (T := x.tunes.length) (by omega) h _
    generalize mostT x (fun i => hasB ((2 ^ x.tunes.length - 1 : Nat) : Int) i) = M at *
    generalize bitsL (2 ^ x.tunes.length - 1) x.tunes.length = full at *
    obtain ⟨R', hR', hl⟩ := loop34 x hx hch M (2 ^ x.tunes.length) 0 full y (by omega) hbl hy
    have hl' := fun E (hE : mask keep34_0 E = _) => run_at hl hE
    have e5 : ((0 : Nat) : Int) = 0 := rfl
    simp only [keep34_0, head34, st34, e5] at hl'
    have hyp := hy.pur
    have hRp := hR'.pur
    have p2 := tbA_pur
    have ek : ((2 ^ x.tunes.length - 1 : Nat) : Int) = ((2 ^ x.tunes.length : Nat) : Int) - 1 := by omega
    rw [ek] at c1 c3
    have hw1 : IntKind.wrap .i64 (((2 ^ x.tunes.length : Nat) : Int) - 1) = ((2 ^ x.tunes.length : Nat) : Int) - 1 := wrap_small (by omega) (by omega)
    have l2 : ∀ B, loadA { boxes := x.cells :: B } none (.box 0 1) = some x.tr := fun _ => rfl
    have l3 : ∀ B, loadA { boxes := x.cells :: B } (some 3) (.box 0 3) = some (.agg [x.br, I x.voice.weeks, x.vr]) := fun _ => rfl
    have s1 := sw46 (B := [x.cells, Z36]) (m := M) (b := 1) rfl rfl
    simp only [List.set_cons_zero, List.set_cons_succ, Z36] at s1
    have hg : ¬ (x.tunes.length : Int) < 0 := by omega
    have hwo : wrongO x = if Vc.fine x.voice [] then Least.wrongG (okL x) x.tunes.length 0 (x.tunes.length + 1) else none := by rw [wrongO, hc, if_pos rfl]
    have hwe : wrongE x = if (wrongO x).isSome then 0 else 82 := by rw [wrongE, hc, if_pos rfl]
    have hB := hnone
    have hres : (isO x.N x.forks [] && Vc.fine x.voice []) = false → wrongL x = [] ∧ wrongE x = 82 := fun h => by
      have : wrongO x = none := by
        rw [hwo]
        cases hf : Vc.fine x.voice [] with
        | false => rfl
        | true =>
          rw [hf, Bool.and_true] at h
          rw [if_pos rfl]
          cases hw : Least.wrongG (okL x) x.tunes.length 0 (x.tunes.length + 1) with
          | none => rfl
          | some w =>
            have tw := Least.told_some (ok := okL x) (T := x.tunes.length) (by omega) hw
            rw [okL_lessR hch tw.fine] at h
            cases h
      rw [wrongL, hwe, this]
      exact ⟨rfl, rfl⟩
    have hres2 : isO x.N x.forks [] = true → Vc.fine x.voice [] = true → wrongL x = bestG (okL x) x.tunes.length full (List.range' 0 (2 ^ x.tunes.length)) ∧ wrongE x = 0 := fun ha hb => by
      rw [hb, if_pos rfl] at hwo
      rw [ha] at hfull
      have tb := best_told (okL x) (T := x.tunes.length) (by omega) hfull hbi
      cases hw : Least.wrongG (okL x) x.tunes.length 0 (x.tunes.length + 1) with
      | none =>
        rw [hnone hw] at ha
        cases ha
      | some w =>
        have tw := Least.told_some (ok := okL x) (T := x.tunes.length) (by omega) hw
        rw [hw] at hwo
        rw [wrongL, hwe, hwo]
        exact ⟨Least.told_uniq (by omega) tw tb, rfl⟩
    generalize bestG (okL x) x.tunes.length full (List.range' 0 (2 ^ x.tunes.length)) = W at *
    generalize isO x.N x.forks [] = b1 at *
    generalize Vc.fine x.voice [] = b2 at *
    generalize ((2 ^ x.tunes.length : Nat) : Int) = P at *
    by_cases hbb : (b1 && b2) = true
    · simp only [Bool.and_eq_true] at hbb
      obtain ⟨e1, e2⟩ := hres2 hbb.1 hbb.2
      refine ⟨R', by rw [e1]; exact hR', ?_⟩
      rw [e2]
      rw [hbb.1] at c3
      rw [hbb.2] at h3
      rw [call_run comp34 (Nat.le_of_ble_eq_true rfl)]
      simp (maxSteps := 10000000) [-List.getD_eq_getElem?_getD, ret2, -boxA, -loadA, -storeA, -List.all_eq_true, code34, keep34_0, hbox, l6, l2, l3, hp, hvp, h1, h3, hlen, binI, hsh, hg, hw1, c1, c3, hyp, hRp, p2, s1, hl', still]
    · have hbb' : (b1 && b2) = false := by simpa using hbb
      obtain ⟨e1, e2⟩ := hres hbb'
      refine ⟨.nils, by rw [e1]; exact nils_row, ?_⟩
      rw [e2]
      rw [call_run comp34 (Nat.le_of_ble_eq_true rfl)]
      cases b1 <;> cases b2 <;> first | (simp at hbb'; done) | simp (maxSteps := 10000000) [-List.getD_eq_getElem?_getD, ret2, -boxA, -loadA, -storeA, -List.all_eq_true, code34, hbox, l6, l2, l3, hp, hvp, h1, h3, hlen, binI, hsh, hg, hw1, c1, c3, hyp, p2, s1, still]
theorem fits_law (x : OB) (hx : x.Ok) (t : T4) : call Cv 5 [x.av, tuA t] = some (.bool true) := by
  have hs := tuned_call
  have hcl := xcells_cell x hx
  have hp := av_pur x hx
  have hbox : boxA {} x.av = some (.box 0 0, { boxes := [x.cells] }) := by
    simp only [boxA, OB.av, AV.cells, hcl, if_true]; rfl
  have hbox2 : boxA { boxes := [x.cells] } (tuA t) = some (.box 1 0, { boxes := [x.cells, [I t.src, I t.dst, I t.off, I t.err]] }) := rfl
  have htp : ∀ σ n, pur σ (n + 2) (tuA t) = some (tuA t, false) := fun _ _ => rfl
  have l6 : ∀ B, loadA { boxes := x.cells :: B } (some 6) (.box 0 0) = some x.av := fun _ => rfl
  have l4 : loadA { boxes := [x.cells, [I t.src, I t.dst, I t.off, I t.err]] } (some 4) (.box 1 0) = some (tuA t) := rfl
  have a1 := Fits_call x hx t
  have a2 := rFits_call x hx t
  obtain ⟨y, hy, a3⟩ := wrongP_call x hx
  obtain ⟨z, hz, a4⟩ := rWrong_call x hx
  have hl : (wrongL x).length < 2 ^ 47 := by
    have hyl := row_len hy
    unfold wrongL wrongO
    cases hc : checkOk x with
    | false => simp
    | true =>
      have hT6 := ((chk_iff x).1 hc).tunes
      rw [if_pos rfl]
      cases Vc.fine x.voice [] with
      | false => simp
      | true =>
        rw [if_pos rfl]
        cases hw : Least.wrongG (okL x) x.tunes.length 0 (x.tunes.length + 1) with
        | none => simp
        | some w =>
          have tw := Least.told_some (ok := okL x) (T := x.tunes.length) (by omega) hw
          have := tw.len
          show w.length < _
          omega
  have he := equal_call (wrongL x) (wrongL x) y z hy hz hl hl
  rw [decide_eq_true rfl] at he
  have q1 := hy.pur
  have q2 := hz.pur
  generalize fitsO x t = f at *
  generalize askE x (tuneOk x t) = e at *
  generalize wrongE x = we at *
  rw [call_run comp5 (Nat.le_of_ble_eq_true rfl)]
  simp (maxSteps := 10000000) [-List.getD_eq_getElem?_getD, -boxA, -loadA, code5, hbox, hbox2, l6, l4, hp, htp, hs, a1, a2, a3, a4, he, q1, q2]
end Go.Ai
