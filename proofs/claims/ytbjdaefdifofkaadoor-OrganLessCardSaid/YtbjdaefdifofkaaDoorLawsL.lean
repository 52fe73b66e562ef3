/- This text shows the law of parts that are left out, in the interpreter. No conditions of its own. -/
import Derived.Test.YtbjdaefdifofkaaDoorHelpG
set_option linter.unusedSimpArgs false
set_option linter.unusedVariables false
set_option maxRecDepth 100000
set_option linter.unusedSimpArgs false
set_option linter.unusedVariables false
/-! The law of parts that are left out: its walk. -/
namespace Go.Ai
open Go.Organ (T4 F3 Tb T6 shL shH keysL keysF allS)
def wtn (v a : Int) (p q : P3) : List P3 := if a = 0 then [q] else [p]
/-- The part with a note less. -/
def few (v : Int) (p : P3) : P3 := if p.low < p.high then (if v = 0 then ⟨p.boy, p.low + 1, p.high⟩ else ⟨p.boy, p.low, p.high - 1⟩) else p
theorem few_ok {v : Int} {p : P3} (h : p.low ≤ p.high) : (few v p).boy = p.boy ∧ p.low ≤ (few v p).low ∧ (few v p).low ≤ (few v p).high ∧ (few v p).high ≤ p.high := by
  unfold few
  split
  · split
    · exact ⟨rfl, by show p.low ≤ p.low + 1; omega, by show p.low + 1 ≤ p.high; omega, Int.le_refl _⟩
    · exact ⟨rfl, Int.le_refl _, by show p.low ≤ p.high - 1; omega, by show p.high - 1 ≤ p.high; omega⟩
  · exact ⟨rfl, Int.le_refl _, h, Int.le_refl _⟩
def fwr (v a : Int) (p q : P3) : List P3 := if a = 0 then [few v p, q] else [p, few v q]
set_option maxHeartbeats 8000000 in
theorem less_law (x : OB) (hx : x.Ok) (ps : List P3) (r : AV) (hr : PRow ps r) (n0 n1 n2 : Int) : call Cv 11 [x.av, r, .agg [I n0, I n1, I n2]] = some (.bool true) := by
  have hsm := small_call x hx
  have hs := tuned_call
  have hcl := xcells_cell x hx
  have hp := av_pur x hx
  have hbox : boxA {} x.av = some (.box 0 0, { boxes := [x.cells] }) := by
    simp only [boxA, OB.av, AV.cells, hcl, if_true]; rfl
  have hbox3 : boxA { boxes := [x.cells] } (.agg [I n0, I n1, I n2]) = some (.box 1 0, { boxes := [x.cells, [I n0, I n1, I n2]] }) := rfl
  have x4 : x.cells[4]? = some (I x.voice.weeks) := rfl
  have hrl := hr.len
  have hrp := hr.row.pur
  have hru := hr.row.under
  cases hc : checkOk x with
  | false =>
    rw [hc] at hsm
    rw [call_run comp11 (Nat.le_of_ble_eq_true rfl)]
    simp (maxSteps := 10000000) [-List.getD_eq_getElem?_getD, -boxA, -partA, part_none, part_x, code11, hbox, hbox3, hp, hsm, hs]
  | true =>
    rw [hc] at hsm
    have hch := (chk_iff x).1 hc
    have c2 := lies' ps.length 2 2
    by_cases h2 : ps.length = 2
    rotate_left
    · rw [show lie (ps.length : Int) 2 2 = false from by rw [← Bool.not_eq_true, lie_iff]; omega] at c2
      rw [call_run comp11 (Nat.le_of_ble_eq_true rfl)]
      simp (maxSteps := 10000000) [-List.getD_eq_getElem?_getD, -boxA, -partA, part_none, part_x, code11, hbox, hbox3, hp, hsm, hs, hrl, c2]
    rw [lie_true (by omega)] at c2
    obtain ⟨w, hw, t0⟩ := turn_week hch n0
    have t1 := turn_call n1 2 (by omega)
    obtain ⟨v1, v2⟩ := turn_range n1 2 (by omega)
    have t2 := turn_call n2 2 (by omega)
    obtain ⟨u1, u2⟩ := turn_range n2 2 (by omega)
    generalize turnI n1 2 = a at *
    generalize turnI n2 2 = v at *
    match ps, h2 with
    | [p, q], _ =>
    have e2 : (([p, q] : List P3).length : Int) = 2 := rfl
    rw [e2] at hrl c2
    have hpc := piece_is hw (ps := [p, q]) (by simp) (by simp)
    have hpc4 := piece_is hw (ps := [p, q, p, q]) (by simp) (by simp)
    have hp24 : [p, q, p, q].all (partOk x) = [p, q].all (partOk x) := by
      simp only [List.all_cons, List.all_nil, Bool.and_true]
      cases partOk x p <;> cases partOk x q <;> rfl
    rw [hp24, ← hpc] at hpc4
    obtain ⟨c, hcp, hrs⟩ := hr.row.sl (by simp)
    subst hrs
    have r4 := prow [p, q, p, q] .no rfl (by simp)
    simp only [List.map_cons, List.map_nil] at hr r4 hrl hrp hru ⊢
    have hck : ∀ a b c d e f : AV, chunk 3 true 2 [a, b, c, d, e, f] = [.agg [a, b, c], .agg [d, e, f]] := fun _ _ _ _ _ _ => rfl
    have hf0 : fillE 3 true [] [] = some [] := rfl
    have e31 : ∀ (σ : St) (c : Cap), elemsA σ (.sl 3 [paA p, paA q] c) = some ([paA p, paA q], some 3) := fun _ _ => rfl
    by_cases h0 : askE x (pieceB x w [p, q]) = 0
    rotate_left
    · have k1 := keys_ne hx hr rfl h0
      have k2 := keys_ne hx r4 (show askE x (pieceB x w [p, q, p, q]) = _ by rw [hpc4]) h0
      have z : ¬ askE x (pieceB x w [p, q]) = 0 := h0
      generalize askE x (pieceB x w [p, q]) = E at *
      generalize paA p = P at *
      generalize paA q = Q at *
      have hz : (E != 0) = true := by simpa using z
      rw [call_run comp11 (Nat.le_of_ble_eq_true rfl)]
      simp (maxSteps := 10000000) [-List.getD_eq_getElem?_getD, -boxA, -partA, -List.all_eq_true, part_none, part_x, code11, hck, slcA, boundA, appA, elemsA, grown, isSl, hf0, hbox, hbox3, hp, hsm, hs, x4, hrl, hrp, c2, t0, t1, t2, k1, k2, hz]
    obtain ⟨_, hpo, ht⟩ := ask_zero h0
    rw [hpc] at hpo
    have hpq : partOk x p = true ∧ partOk x q = true := by simpa using hpo
    have k1 := keys_t hx hch ht hr (by rw [hpc]; exact hpo)
    have k2 := keys_t hx hch ht r4 (by rw [hpc4, hpc]; exact hpo)
    have hkk : keyOk26 x w (shL (tab x) x.N) (shH (tab x) x.N) [p, q, p, q] = keyOk26 x w (shL (tab x) x.N) (shH (tab x) x.N) [p, q] := by
      funext k
      simp only [keyOk26, List.all_cons, List.all_nil, Bool.and_true]
      cases sungO x w (shL (tab x) x.N) (shH (tab x) x.N) p k <;> cases sungO x w (shL (tab x) x.N) (shH (tab x) x.N) q k <;> rfl
    rw [hkk] at k2
    have lp : p.low ≤ p.high ∧ 0 ≤ p.low ∧ p.high ≤ 40 := by
      have := hpq.1; simp only [partOk, Bool.and_eq_true, decide_eq_true_eq] at this; omega
    have lq : q.low ≤ q.high ∧ 0 ≤ q.low ∧ q.high ≤ 40 := by
      have := hpq.2; simp only [partOk, Bool.and_eq_true, decide_eq_true_eq] at this; omega
    have fp := few_ok (v := v) lp.1
    have fq := few_ok (v := v) lq.1
    have r1 := prow (wtn v a p q) .no rfl (by unfold wtn; split <;> simp)
    have r2 := prow (fwr v a p q) .no rfl (by unfold fwr; split <;> simp)
    have k3 := keys_t hx hch ht r1 (by
      rw [piece_is hw (by unfold wtn; split <;> simp) (by unfold wtn; split <;> simp)]
      unfold wtn; split
      · simpa using hpq.2
      · simpa using hpq.1)
    have k4 := keys_t hx hch ht r2 (by
      rw [piece_is hw (by unfold fwr; split <;> simp) (by unfold fwr; split <;> simp)]
      unfold fwr; split
      · simpa using ⟨part_less hpq.1 fp.1 fp.2.1 fp.2.2.1 fp.2.2.2, hpq.2⟩
      · simpa using ⟨hpq.1, part_less hpq.2 fq.1 fq.2.1 fq.2.2.1 fq.2.2.2⟩)
    have s3 : ∀ y ∈ keysL (keyOk26 x w (shL (tab x) x.N) (shH (tab x) x.N) [p, q]), y ∈ keysL (keyOk26 x w (shL (tab x) x.N) (shH (tab x) x.N) (wtn v a p q)) := keys_sub (by
      intro z hz
      refine ⟨z, ?_, rfl, Int.le_refl _, Int.le_refl _⟩
      unfold wtn at hz; split at hz <;> simp at hz <;> simp [hz])
    have s4 : ∀ y ∈ keysL (keyOk26 x w (shL (tab x) x.N) (shH (tab x) x.N) [p, q]), y ∈ keysL (keyOk26 x w (shL (tab x) x.N) (shH (tab x) x.N) (fwr v a p q)) := keys_sub (by
      intro z hz
      unfold fwr at hz; split at hz <;> simp at hz
      · rcases hz with rfl | rfl
        · exact ⟨p, by simp, fp.1, fp.2.1, fp.2.2.2⟩
        · exact ⟨_, by simp, rfl, Int.le_refl _, Int.le_refl _⟩
      · rcases hz with rfl | rfl
        · exact ⟨_, by simp, rfl, Int.le_refl _, Int.le_refl _⟩
        · exact ⟨q, by simp, fq.1, fq.2.1, fq.2.2.2⟩)
    have hln : ∀ P : Int → Bool, (keysL P).length ≤ 13 := fun P => Organ.keysF_len 13 (-6)
    have ln0 := hln (keyOk26 x w (shL (tab x) x.N) (shH (tab x) x.N) [p, q])
    have ln3 := hln (keyOk26 x w (shL (tab x) x.N) (shH (tab x) x.N) (wtn v a p q))
    have ln4 := hln (keyOk26 x w (shL (tab x) x.N) (shH (tab x) x.N) (fwr v a p q))
    clear hln hkk
    generalize keysL (keyOk26 x w (shL (tab x) x.N) (shH (tab x) x.N) [p, q]) = K0 at *
    generalize keysL (keyOk26 x w (shL (tab x) x.N) (shH (tab x) x.N) (wtn v a p q)) = K3 at *
    generalize keysL (keyOk26 x w (shL (tab x) x.N) (shH (tab x) x.N) (fwr v a p q)) = K4 at *
    have q0 := rowO_row K0
    have q3 := rowO_row K3
    have q4 := rowO_row K4
    generalize rowO K0 = R0 at *
    generalize rowO K3 = R3 at *
    generalize rowO K4 = R4 at *
    have he := equal_call K0 K0 R0 R0 q0 q0 (by omega) (by omega)
    rw [decide_eq_true rfl] at he
    have g4 : ¬ (K0.length : Int) > 13 := by omega
    have hlr := row_len q0
    have p0 := q0.pur
    have p3 := q3.pur
    have p4 := q4.pur
    have l9 := fun (σ : St) (s1 : σ.ro ≤ σ.boxes.length) (s2 : σ.mro ≤ σ.maps.length) E (hE : mask keep11_0 E = _) => run_at (loop11_0 K0 K3 K4 R0 R3 R4 q0 q3 q4 (by omega) (by omega) (by omega) s3 s4 σ s1 s2 K0 0 (Nat.zero_le _) rfl) hE
    have e5 : ((0 : Nat) : Int) = 0 := rfl
    simp only [keep11_0, head11_0, e5] at l9
    have i1 : IntKind.wrap .i64 (p.low + 1) = p.low + 1 := wrap_small (by omega) (by omega)
    have i2 : IntKind.wrap .i64 (p.high - 1) = p.high - 1 := wrap_small (by omega) (by omega)
    have i3 : IntKind.wrap .i64 (q.low + 1) = q.low + 1 := wrap_small (by omega) (by omega)
    have i4 : IntKind.wrap .i64 (q.high - 1) = q.high - 1 := wrap_small (by omega) (by omega)
    have hcc : c = .full ∨ c = .no := by
      cases c with
      | full => exact .inl rfl
      | no => exact .inr rfl
      | chain _ => cases hcp
    have hfo : fo 12 (.tup [R4, I 0]) = true ∨ fo 12 (.tup [R4, I 0]) = false := by cases fo 12 (.tup [R4, I 0]) <;> simp
    obtain ⟨pb, pl, ph⟩ := p
    obtain ⟨qb, ql, qh⟩ := q
    rcases (show a = 0 ∨ a = 1 by omega) with rfl | rfl
    · rw [wtn, if_pos rfl] at k3
      rw [fwr, if_pos rfl] at k4
      by_cases hlt : pl < ph
      · rcases (show v = 0 ∨ v = 1 by omega) with rfl | rfl
        · have hf : few 0 ⟨pb, pl, ph⟩ = ⟨pb, pl + 1, ph⟩ := by rw [few, if_pos hlt, if_pos rfl]
          rw [hf] at k4
          simp only [List.map_cons, List.map_nil, paA] at *
          rcases hcc with rfl | rfl <;> rcases hfo with hfo | hfo <;>
          · rw [call_run comp11 (Nat.le_of_ble_eq_true rfl)]
            simp (maxSteps := 10000000) [-List.getD_eq_getElem?_getD, -boxA, -partA, -List.all_eq_true, part_none, part_x, code11, hck, slcA, boundA, appA, elemsA, grown, isSl, hf0, hbox, hbox3, hp, hsm, hs, x4, hrl, hrp, c2, t0, t1, t2, k1, k2, k3, k4, he, g4, hlr, p0, p3, p4, keep11_0, l9, i1, i2, i3, i4, hlt, hfo, still]
        · have hf : few 1 ⟨pb, pl, ph⟩ = ⟨pb, pl, ph - 1⟩ := by rw [few, if_pos hlt, if_neg (by decide)]
          rw [hf] at k4
          simp only [List.map_cons, List.map_nil, paA] at *
          rcases hcc with rfl | rfl <;> rcases hfo with hfo | hfo <;>
          · rw [call_run comp11 (Nat.le_of_ble_eq_true rfl)]
            simp (maxSteps := 10000000) [-List.getD_eq_getElem?_getD, -boxA, -partA, -List.all_eq_true, part_none, part_x, code11, hck, slcA, boundA, appA, elemsA, grown, isSl, hf0, hbox, hbox3, hp, hsm, hs, x4, hrl, hrp, c2, t0, t1, t2, k1, k2, k3, k4, he, g4, hlr, p0, p3, p4, keep11_0, l9, i1, i2, i3, i4, hlt, hfo, still]
      · have hf : few v ⟨pb, pl, ph⟩ = ⟨pb, pl, ph⟩ := by rw [few, if_neg hlt]
        rw [hf] at k4
        simp only [List.map_cons, List.map_nil, paA] at *
        rcases hcc with rfl | rfl
        · rcases hfo with hfo | hfo <;>
          · rw [call_run comp11 (Nat.le_of_ble_eq_true rfl)]
            simp (maxSteps := 10000000) [-List.getD_eq_getElem?_getD, -boxA, -partA, -List.all_eq_true, part_none, part_x, code11, hck, slcA, boundA, appA, elemsA, grown, isSl, hf0, hbox, hbox3, hp, hsm, hs, x4, hrl, hrp, c2, t0, t1, t2, k1, k2, k3, k4, he, g4, hlr, p0, p3, p4, keep11_0, l9, i1, i2, i3, i4, hlt, hfo, still]
        · have hh : R0 = R4 := by
            have := k1.symm.trans k4
            simpa using this
          subst hh
          clear k4
          rcases hfo with hfo | hfo <;>
          · rw [call_run comp11 (Nat.le_of_ble_eq_true rfl)]
            simp (maxSteps := 10000000) [-List.getD_eq_getElem?_getD, -boxA, -partA, -List.all_eq_true, part_none, part_x, code11, hck, slcA, boundA, appA, elemsA, grown, isSl, hf0, hbox, hbox3, hp, hsm, hs, x4, hrl, hrp, c2, t0, t1, t2, k1, k2, k3, he, g4, hlr, p0, p3, p4, keep11_0, l9, i1, i2, i3, i4, hlt, hfo, still]
    · rw [wtn, if_neg (by decide)] at k3
      rw [fwr, if_neg (by decide)] at k4
      by_cases hlt : ql < qh
      · rcases (show v = 0 ∨ v = 1 by omega) with rfl | rfl
        · have hf : few 0 ⟨qb, ql, qh⟩ = ⟨qb, ql + 1, qh⟩ := by rw [few, if_pos hlt, if_pos rfl]
          rw [hf] at k4
          simp only [List.map_cons, List.map_nil, paA] at *
          rcases hcc with rfl | rfl <;> rcases hfo with hfo | hfo <;>
          · rw [call_run comp11 (Nat.le_of_ble_eq_true rfl)]
            simp (maxSteps := 10000000) [-List.getD_eq_getElem?_getD, -boxA, -partA, -List.all_eq_true, part_none, part_x, code11, hck, slcA, boundA, appA, elemsA, grown, isSl, hf0, hbox, hbox3, hp, hsm, hs, x4, hrl, hrp, c2, t0, t1, t2, k1, k2, k3, k4, he, g4, hlr, p0, p3, p4, keep11_0, l9, i1, i2, i3, i4, hlt, hfo, still]
        · have hf : few 1 ⟨qb, ql, qh⟩ = ⟨qb, ql, qh - 1⟩ := by rw [few, if_pos hlt, if_neg (by decide)]
          rw [hf] at k4
          simp only [List.map_cons, List.map_nil, paA] at *
          rcases hcc with rfl | rfl <;> rcases hfo with hfo | hfo <;>
          · rw [call_run comp11 (Nat.le_of_ble_eq_true rfl)]
            simp (maxSteps := 10000000) [-List.getD_eq_getElem?_getD, -boxA, -partA, -List.all_eq_true, part_none, part_x, code11, hck, slcA, boundA, appA, elemsA, grown, isSl, hf0, hbox, hbox3, hp, hsm, hs, x4, hrl, hrp, c2, t0, t1, t2, k1, k2, k3, k4, he, g4, hlr, p0, p3, p4, keep11_0, l9, i1, i2, i3, i4, hlt, hfo, still]
      · have hf : few v ⟨qb, ql, qh⟩ = ⟨qb, ql, qh⟩ := by rw [few, if_neg hlt]
        rw [hf] at k4
        simp only [List.map_cons, List.map_nil, paA] at *
        rcases hcc with rfl | rfl
        · rcases hfo with hfo | hfo <;>
          · rw [call_run comp11 (Nat.le_of_ble_eq_true rfl)]
            simp (maxSteps := 10000000) [-List.getD_eq_getElem?_getD, -boxA, -partA, -List.all_eq_true, part_none, part_x, code11, hck, slcA, boundA, appA, elemsA, grown, isSl, hf0, hbox, hbox3, hp, hsm, hs, x4, hrl, hrp, c2, t0, t1, t2, k1, k2, k3, k4, he, g4, hlr, p0, p3, p4, keep11_0, l9, i1, i2, i3, i4, hlt, hfo, still]
        · have hh : R0 = R4 := by
            have := k1.symm.trans k4
            simpa using this
          subst hh
          clear k4
          rcases hfo with hfo | hfo <;>
          · rw [call_run comp11 (Nat.le_of_ble_eq_true rfl)]
            simp (maxSteps := 10000000) [-List.getD_eq_getElem?_getD, -boxA, -partA, -List.all_eq_true, part_none, part_x, code11, hck, slcA, boundA, appA, elemsA, grown, isSl, hf0, hbox, hbox3, hp, hsm, hs, x4, hrl, hrp, c2, t0, t1, t2, k1, k2, k3, he, g4, hlr, p0, p3, p4, keep11_0, l9, i1, i2, i3, i4, hlt, hfo, still]
end Go.Ai
