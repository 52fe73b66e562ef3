/- This text shows the law of the keys, in the interpreter. No conditions of its own. -/
import Derived.Test.YtbjdaefdifofkaaDoorHelpF
set_option linter.unusedSimpArgs false
set_option linter.unusedVariables false
set_option maxRecDepth 100000
set_option linter.unusedSimpArgs false
set_option linter.unusedVariables false
/-! The law of the keys: its walk. -/
namespace Go.Ai
open Go.Organ (T4 F3 Tb T6 shL shH keysL keysF allS allS_nil allS_step nearF bestF)
theorem keys_f {x : OB} (hx : x.Ok) (hc : Chk x) (ht : trueO x = false) {week : Int} {ps : List P3} {r : AV} (hr : PRow ps r) (hp : pieceB x week ps = true) : call Cv 26 [x.av, I week, r] = some (.tup [.nils, I 82]) := by
  have h := Keys_call x hx week ps r hr
  have h0 := ask_f hc ht
  rw [hp, h0, keysO, hp, if_neg (by rw [h0]; decide)] at h
  exact h
theorem best_f {x : OB} (hx : x.Ok) (hc : Chk x) (ht : trueO x = false) {week : Int} {ps : List P3} {r : AV} (hr : PRow ps r) (hp : pieceB x week ps = true) : call Cv 29 [x.av, I week, r] = some (.tup [I 0, I 82]) := by
  have h := Best_call x hx week ps r hr
  have h0 := ask_f hc ht
  have hk : keysO x week ps = [] := by rw [keysO, hp, if_neg (by rw [h0]; decide)]
  rw [bestE, bestO, hk, hp, if_pos (by rw [h0]; decide), h0] at h
  exact h
theorem sharp_f {x : OB} (hx : x.Ok) (hc : Chk x) (ht : trueO x = false) : call Cv 23 [x.av] = some (.tup [.agg [I 0, I 0], I 82]) := by
  have h := Sharp_call x hx
  have h0 := ask_f hc ht
  rw [sharpV, h0, if_neg (by decide)] at h
  exact h
theorem best_t {x : OB} (hx : x.Ok) (hc : Chk x) (ht : trueO x = true) {week : Int} {ps : List P3} {r : AV} (hr : PRow ps r) (hp : pieceB x week ps = true) :
    call Cv 29 [x.av, I week, r] = some (.tup [I (wf (keysL (keyOk26 x week (shL (tab x) x.N) (shH (tab x) x.N) ps)) 0 false).1, I (if keysL (keyOk26 x week (shL (tab x) x.N) (shH (tab x) x.N) ps) = [] then 4 else 0)]) := by
  have h := Best_call x hx week ps r hr
  have h0 : askE x true = 0 := by rw [askE_true hc, tE, ht]; rfl
  have hk : keysO x week ps = keysL (keyOk26 x week (shL (tab x) x.N) (shH (tab x) x.N) ps) := by rw [keysO, hp, if_pos h0, tab0]; rfl
  rw [bestE, bestO, hk, hp, h0, if_neg (by decide)] at h
  have hup : (keysL (keyOk26 x week (shL (tab x) x.N) (shH (tab x) x.N) ps)).Pairwise (· < ·) := Organ.keysF_up 13 (-6)
  generalize keysL (keyOk26 x week (shL (tab x) x.N) (shH (tab x) x.N) ps) = K at *
  rw [h]
  cases K with
  | nil => rfl
  | cons k l =>
    rw [wf_start]
    rw [List.pairwise_cons] at hup
    have hb : bestF (k :: l) k = nearF (k :: l) k := Organ.best_near (k :: l) k (List.pairwise_cons.2 hup) fun y hy => by
      rcases List.mem_cons.1 hy with rfl | hy
      · exact Int.le_refl _
      · exact Int.le_of_lt (hup.1 y hy)
    show some (AV.tup [I (bestF (k :: l) k), _]) = _
    rw [hb]
theorem wf_found {l : List Int} : (wf l 0 false).2 = decide (l ≠ []) := by
  cases l with
  | nil => rfl
  | cons y l => rw [wf_start]; simp
set_option maxHeartbeats 4000000 in
theorem sings_law (x : OB) (hx : x.Ok) (n0 n1 n2 n3 n4 : Int) : call Cv 7 [x.av, .agg [I n0, I n1, I n2, I n3, I n4]] = some (.bool true) := by
  have hsm := small_call x hx
  have hs := tuned_call
  have hcl := xcells_cell x hx
  have hp := av_pur x hx
  have hbox : boxA {} x.av = some (.box 0 0, { boxes := [x.cells] }) := by
    simp only [boxA, OB.av, AV.cells, hcl, if_true]; rfl
  have hbox3 : boxA { boxes := [x.cells] } (.agg [I n0, I n1, I n2, I n3, I n4]) = some (.box 1 0, { boxes := [x.cells, [I n0, I n1, I n2, I n3, I n4]] }) := rfl
  have x3 : x.cells[3]? = some x.br := rfl
  have x4 : x.cells[4]? = some (I x.voice.weeks) := rfl
  have hbl := brlen hx
  have p3 : ∀ a b c : AV, partA (some 3) [a, b, c] 0 = some (.agg [a, b, c]) := fun _ _ _ => rfl
  cases hc : checkOk x with
  | false =>
    rw [hc] at hsm
    rw [call_run comp7 (Nat.le_of_ble_eq_true rfl)]
    simp (maxSteps := 10000000) [-List.getD_eq_getElem?_getD, -boxA, -partA, part_none, part_x, code7, p3, hbox, hbox3, hp, hsm, hs]
  | true =>
    rw [hc] at hsm
    have hch := (chk_iff x).1 hc
    obtain ⟨w, hw, t0⟩ := turn_week hch n0
    obtain ⟨b, hb1, hb2, t2⟩ := turn_boy hch n2
    have t1 := turn_call n1 13 (by omega)
    obtain ⟨v1, v2⟩ := turn_range n1 13 (by omega)
    have t3 := turn_call n3 41 (by omega)
    obtain ⟨u1, u2⟩ := turn_range n3 41 (by omega)
    have t4 := turn_call n4 8 (by omega)
    obtain ⟨z1, z2⟩ := turn_range n4 8 (by omega)
    generalize turnI n1 13 = v at *
    generalize turnI n3 41 = u at *
    generalize turnI n4 8 = z at *
    have hpc := piece_one hw (b := b) (lo := u) (hi := min 40 (u + z)) ⟨hb1, hb2⟩ (by omega)
    have hpar := part_call b u (min 40 (u + z))
    have hmn := fold_min 40 (u + z)
    have w5 : IntKind.wrap .i64 (u + z) = u + z := wrap_small (by omega) (by omega)
    have w6 : IntKind.wrap .i64 (v - 6) = v - 6 := wrap_small (by omega) (by omega)
    have hf3 : ∀ z', fillE 3 true [(0, .agg [I b, I u, I (min 40 (u + z))])] [z'] = some [paA ⟨b, u, min 40 (u + z)⟩] := fun _ => rfl
    have hr1 : ∀ z : AV, List.replicate 1 z = [z] := fun _ => rfl
    cases ht : trueO x with
    | false =>
      have c1 := keys_f hx hch ht (one_row ⟨b, u, min 40 (u + z)⟩) hpc
      have c2 := best_f hx hch ht (one_row ⟨b, u, min 40 (u + z)⟩) hpc
      have c3 := sharp_f hx hch ht
      generalize paA ⟨b, u, min 40 (u + z)⟩ = PA at *
      generalize min 40 (u + z) = mu at *
      rw [call_run comp7 (Nat.le_of_ble_eq_true rfl)]
      simp (maxSteps := 10000000) [-List.getD_eq_getElem?_getD, -boxA, -partA, -List.all_eq_true, part_none, part_x, code7, p3, hbox, hbox3, hp, hsm, hs, x3, x4, hbl, t0, t1, t2, t3, t4, hpar, hmn, w5, w6, hf3, hr1, c1, c2, c3]
    | true =>
      have c1 := keys_t hx hch ht (one_row ⟨b, u, min 40 (u + z)⟩) hpc
      have c2 := best_t hx hch ht (one_row ⟨b, u, min 40 (u + z)⟩) hpc
      have c3 := sharp_t hx hch ht
      have sn := Organ.sh_near hch.b (true_can ht)
      have m1 : -6 ≤ shL (tab x) x.N ∧ shL (tab x) x.N ≤ shH (tab x) x.N ∧ shH (tab x) x.N ≤ 6 := by
        unfold shL shH
        rw [show T6 x.N x.forks x.tunes = tab x from rfl] at sn
        omega
      have hup : (keysL (keyOk26 x w (shL (tab x) x.N) (shH (tab x) x.N) [⟨b, u, min 40 (u + z)⟩])).Pairwise (· < ·) := Organ.keysF_up 13 (-6)
      have hln : (keysL (keyOk26 x w (shL (tab x) x.N) (shH (tab x) x.N) [⟨b, u, min 40 (u + z)⟩])).length ≤ 13 := Organ.keysF_len 13 (-6)
      have hmem : ∀ y, y ∈ (keysL (keyOk26 x w (shL (tab x) x.N) (shH (tab x) x.N) [⟨b, u, min 40 (u + z)⟩])) ↔ -6 ≤ y ∧ y ≤ 6 ∧ allS (surely x b w) (u + y + shL (tab x) x.N) (min 40 (u + z) + y + shH (tab x) x.N) = true := fun y => by
        rw [Organ.mem_keysL]
        simp only [keyOk26, List.all_cons, List.all_nil, Bool.and_true, sungO]
      have hN : (tab x) = (tab x) := rfl
      generalize shL (tab x) x.N = sl at *
      generalize shH (tab x) x.N = sh at *
      generalize keysL (keyOk26 x w sl sh [⟨b, u, min 40 (u + z)⟩]) = K at *
      have q0 := rowO_row K
      generalize rowO K = R at *
      have w7 : IntKind.wrap .i64 (min 40 (u + z) + (v - 6)) = min 40 (u + z) + (v - 6) := wrap_small (by omega) (by omega)
      have w8 : IntKind.wrap .i64 (min 40 (u + z) + (v - 6) + sh) = min 40 (u + z) + (v - 6) + sh := wrap_small (by omega) (by omega)
      have w9 : IntKind.wrap .i64 (u + (v - 6)) = u + (v - 6) := wrap_small (by omega) (by omega)
      have w10 : IntKind.wrap .i64 (u + (v - 6) + sl) = u + (v - 6) + sl := wrap_small (by omega) (by omega)
      have l0 := fun best f => loop7_0 x hx R n0 n1 n2 n3 n4 ⟨b, u, min 40 (u + z)⟩ w (v - 6) best f sl sh (min 40 (u + z) + (v - 6) + sh) w7 w8 (by omega) _ (u + (v - 6) + sl) true rfl (by omega) (by omega)
      have k0 := fun best f E (hE : mask keep7_0 E = _) => run_at (l0 best f) hE
      simp only [keep7_0, head7_0, st7, Bool.true_and] at k0
      have hwc := where_call K R q0 (by omega) (v - 6)
      have hin := idx_nonneg (v - 6) K 0
      have hm6 := hmem (v - 6)
      have hsu : decide (0 ≤ idx (v - 6) K 0) = allS (surely x b w) (u + (v - 6) + sl) (min 40 (u + z) + (v - 6) + sh) := by
        rw [hin, Bool.eq_iff_iff, decide_eq_true_iff, hm6]
        exact ⟨fun h => h.2.2, fun h => ⟨by omega, by omega, h⟩⟩
      generalize allS (surely x b w) (u + (v - 6) + sl) (min 40 (u + z) + (v - 6) + sh) = su at *
      have l1 := fun best f => loop7_1 K R q0 (by omega) (fun y hy => by have := (hmem y).1 hy; omega) hup best f { boxes := [x.cells, [I n0, I n1, I n2, I n3, I n4], [I b, I u, I (min 40 (u + z))], [I sl, I sh]] } (Nat.zero_le _) (Nat.zero_le _) K 0 0 false (Nat.zero_le _) rfl (by omega) (by omega)
      have k1 := fun best f E (hE : mask keep7_1 E = _) => run_at (l1 best f) hE
      have e5 : ((0 : Nat) : Int) = 0 := rfl
      simp only [keep7_1, head7_1, e5] at k1
      have hfo := wf_found (l := K)
      have hlr := row_len q0
      have hmp := q0.pur
      have g1 : ¬ sl < -6 := by omega
      have g2 : ¬ sh > 6 := by omega
      have g3 : ¬ sl > sh := by omega
      have g4 : ¬ (K.length : Int) > 13 := by omega
      generalize paA ⟨b, u, min 40 (u + z)⟩ = PA at *
      generalize min 40 (u + z) = mu at *
      by_cases hK : K = []
      · subst hK
        have e1 : wf [] 0 false = (0, false) := rfl
        rw [e1] at c2
        rw [if_pos rfl] at c2
        simp only [e1] at k1
        have k0 := k0 0 4
        have k1 := k1 0 4
        rw [call_run comp7 (Nat.le_of_ble_eq_true rfl)]
        simp (maxSteps := 10000000) [-List.getD_eq_getElem?_getD, -boxA, -partA, -List.all_eq_true, part_none, part_two, part_x, code7, p3, hbox, hbox3, hp, hsm, hs, x3, x4, hbl, t0, t1, t2, t3, t4, hpar, hmn, w5, w6, hf3, hr1, c1, c2, c3, hlr, hmp, g1, g2, g3, g4, w9, w10, keep7_0, k0, hwc, hsu, keep7_1, k1, still]
      · have hfo' : (wf K 0 false).2 = true := by rw [hfo]; simpa using hK
        rw [if_neg hK] at c2
        simp only [hfo'] at k1
        generalize (wf K 0 false).1 = wn at *
        have k0 := k0 wn 0
        have k1 := k1 wn 0
        rw [call_run comp7 (Nat.le_of_ble_eq_true rfl)]
        simp (maxSteps := 10000000) [-List.getD_eq_getElem?_getD, -boxA, -partA, -List.all_eq_true, part_none, part_two, part_x, code7, p3, hbox, hbox3, hp, hsm, hs, x3, x4, hbl, t0, t1, t2, t3, t4, hpar, hmn, w5, w6, hf3, hr1, c1, c2, c3, hlr, hmp, g1, g2, g3, g4, w9, w10, keep7_0, k0, hwc, hsu, keep7_1, k1, still]
end Go.Ai
