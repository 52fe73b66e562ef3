/- This text shows the law of one tuning more, in the interpreter. No conditions of its own. -/
import Derived.Test.YtbjdaefdifofkaaDoorHelpD
import Derived.Test.YtbjdaefdifofkaaDoorPlainM
import Derived.Test.YtbjdaefdifofkaaDoorCodesL9
set_option linter.unusedSimpArgs false
set_option linter.unusedVariables false
set_option maxRecDepth 100000
set_option linter.unusedSimpArgs false
set_option linter.unusedVariables false
/-! The law of one tuning more. -/
namespace Go.Ai
open Go.Organ (T4 F3 Tb T6 shL shH keysL allS)
def head9_0 (lr mr : AV) (k : Int) : Env := mkE 232 .any [(25, I k), (24, mr), (23, lr)]
theorem loop9_0 (l0 m : List Int) (lr mr : AV) (hr : IsRow 1 (ints l0) lr) (hm : IsRow 1 (ints m) mr) (hl : l0.length < 1000) (hml : m.length < 1000) (hsub : ∀ y ∈ l0, y ∈ m) (σ : St) (s1 : σ.ro ≤ σ.boxes.length) (s2 : σ.mro ≤ σ.maps.length) : ∀ (l : List Int) (k : Nat), k ≤ l0.length → l0.drop k = l →
    run Cv 9 (.loop keep9_0 body9_0) (head9_0 lr mr k) σ = some (.ex 0, mkE 232 .any [(221, .bool false), (220, I l0.length), (219, lr), (218, I l0.length), (25, I l0.length), (24, mr), (23, lr)], σ)
  | [], k, hk, h => by
    obtain rfl := drop_nil hk h
    have hlen := row_len hr
    rw [run_loop]
    simp (maxSteps := 10000000) [-List.getD_eq_getElem?_getD, body9_0, keep9_0, head9_0, hlen]
  | y :: l, k, hk, h => by
    obtain ⟨hlt, ha, hd⟩ := head_drop h
    have hlen := row_len hr
    have hw := wrap_succ hlt (by omega)
    have hlt' : (k : Int) < (l0.length : Int) := by omega
    have hix : ixsA 1 lr (I k) = some (.rp [I y] 0) := by
      obtain ⟨c, hc, hr⟩ := row_sl hr (by intro hn; subst hn; simp at hlt)
      rw [hr]
      simp [ixsA, ints, hlt, ha, AV.cells]
    have hlr : ∀ σ, loadA σ none (.rp [I y] 0) = some (I y) := fun _ => rfl
    have hwc := where_call m mr hm (by omega) y
    have hneg : ¬ idx y m 0 < 0 := by
      have h1 := idx_nonneg y m 0
      have h2 : y ∈ m := hsub y (ha ▸ List.getElem_mem _)
      rw [decide_eq_decide] at h1
      have := h1.2 h2
      omega
    have hcut := fun e => cut_self σ e s1 s2
    have hmp := hm.pur
    have hru := hr.under
    have step : run Cv 9 (.loop keep9_0 body9_0) (head9_0 lr mr k) σ = run Cv 9 (.loop keep9_0 body9_0) (head9_0 lr mr (k + 1)) σ := by
      rw [run_loop]
      generalize MC.loop keep9_0 body9_0 = L'
      simp (maxSteps := 10000000) [-List.getD_eq_getElem?_getD, -loadA, -cut, -ixsA, body9_0, keep9_0, head9_0, hlen, hlt', hw, hix, hlr, hmp, hwc, hneg, hcut]
    rw [step]
    exact loop9_0 l0 m lr mr hr hm hl hml hsub σ s1 s2 l (k + 1) hlt hd
theorem sharp_t {x : OB} (hx : x.Ok) (hc : Chk x) (ht : trueO x = true) : call Cv 23 [x.av] = some (.tup [.agg [I (shL (tab x) x.N), I (shH (tab x) x.N)], I 0]) := by
  have h := Sharp_call x hx
  have h0 : askE x true = 0 := by rw [askE_true hc, tE, ht]; rfl
  rw [h0, sharpV, if_pos h0, tab0] at h
  exact h
theorem keys_t {x : OB} (hx : x.Ok) (hc : Chk x) (ht : trueO x = true) {week : Int} {ps : List P3} {r : AV} (hr : PRow ps r) (hp : pieceB x week ps = true) : call Cv 26 [x.av, I week, r] = some (.tup [rowO (keysL (keyOk26 x week (shL (tab x) x.N) (shH (tab x) x.N) ps)), I 0]) := by
  have h := Keys_call x hx week ps r hr
  have h0 : askE x true = 0 := by rw [askE_true hc, tE, ht]; rfl
  rw [hp, h0, keysO, hp, if_pos h0, tab0] at h
  exact h
theorem ask_f {x : OB} (hc : Chk x) (ht : trueO x = false) : askE x true = 82 := by rw [askE_true hc, tE, ht]; rfl
theorem ask_no {x : OB} (hc : Chk x) : askE x false = 81 := by
  have := (chk_iff x).2 hc
  simp [askE, this]
theorem more_iff {x : OB} (hc : Chk x) (hl : x.tunes.length < 6) (t : T4) : checkOk (x.more t) = tuneOk x t := by
  cases h : tuneOk x t with
  | true => exact (chk_iff _).2 (more_chk hc hl ((tuneOk_iff hc.p).1 h))
  | false =>
    cases hm : checkOk (x.more t) with
    | false => rfl
    | true =>
      have hc' := (chk_iff _).1 hm
      have : Organ.TOk x.N t := hc'.b.tunes t (by show t ∈ x.tunes ++ [t]; simp)
      rw [(tuneOk_iff hc.p).2 this] at h
      cases h
/-- A part that numbers choose. -/
theorem turn_week {x : OB} (hc : Chk x) (n : Int) : ∃ w : Int, lie w 0 (IntKind.wrap .i64 (x.voice.weeks - 1)) = true ∧ call Cv 38 [I n, I x.voice.weeks] = some (I w) := by
  have hv := Vc.good_of hc.voice
  have b3 := hv.w1; have b4 := hv.w6
  have hT := turn_call n x.voice.weeks (by omega)
  obtain ⟨r1, r2⟩ := turn_range n x.voice.weeks (by omega)
  refine ⟨_, ?_, hT⟩
  rw [wrap_small (by omega) (by omega)]
  exact lie_true (by omega)
theorem turn_boy {x : OB} (hc : Chk x) (n : Int) : ∃ w : Int, 0 ≤ w ∧ w < x.voice.boys.length ∧ call Cv 38 [I n, I x.voice.boys.length] = some (I w) := by
  have hv := Vc.good_of hc.voice
  have b1 := hv.bl; have b2 := hv.bl1
  have hT := turn_call n x.voice.boys.length (by omega)
  obtain ⟨r1, r2⟩ := turn_range n x.voice.boys.length (by omega)
  exact ⟨_, r1, r2, hT⟩
theorem piece_one {x : OB} {w : Int} (hw : lie w 0 (IntKind.wrap .i64 (x.voice.weeks - 1)) = true) {b lo hi : Int} (hb : 0 ≤ b ∧ b < x.voice.boys.length) (hl : 0 ≤ lo ∧ lo ≤ hi ∧ hi ≤ 40) : pieceB x w [⟨b, lo, hi⟩] = true := by
  have h1 : lie b 0 ((x.voice.boys.length : Int) - 1) = true := lie_true (by omega)
  have h2 : lie ((1 : Nat) : Int) 1 4 = true := rfl
  simp only [pieceB, hw, List.length_singleton, h2, List.all_cons, List.all_nil, partOk, h1, Bool.true_and, Bool.and_true, Bool.and_eq_true, decide_eq_true_eq]
  exact hl
theorem one_row (p : P3) : PRow [p] (.sl 3 [paA p] .full) := ⟨.inr (.inr ⟨.full, rfl, rfl⟩), by simp⟩
end Go.Ai

set_option maxRecDepth 100000
set_option linter.unusedSimpArgs false
set_option linter.unusedVariables false
/-! The law of one tuning more: its walk. -/
namespace Go.Ai
open Go.Organ (T4 F3 Tb T6 shL shH keysL allS)
theorem right_val {x : OB} (hx : x.Ok) (hc : checkOk x = true) : call Cv 15 [x.av] = some (.tup [.bool (trueO x), I 0]) := by
  have h := Right_call x hx
  rw [rightB, rightE, hc, Bool.true_and, if_pos rfl] at h
  exact h
set_option maxHeartbeats 4000000 in
theorem more_law (x : OB) (hx : x.Ok) (t : T4) (n0 n1 n2 n3 n4 : Int) : call Cv 9 [x.av, tuA t, .agg [I n0, I n1, I n2, I n3, I n4]] = some (.bool true) := by
  have hsm := small_call x hx
  have hs := tuned_call
  have hcl := xcells_cell x hx
  have hp := av_pur x hx
  have hbox : boxA {} x.av = some (.box 0 0, { boxes := [x.cells] }) := by
    simp only [boxA, OB.av, AV.cells, hcl, if_true]; rfl
  have hbox2 : boxA { boxes := [x.cells] } (tuA t) = some (.box 1 0, { boxes := [x.cells, [I t.src, I t.dst, I t.off, I t.err]] }) := rfl
  have hbox3 : boxA { boxes := [x.cells, [I t.src, I t.dst, I t.off, I t.err]] } (.agg [I n0, I n1, I n2, I n3, I n4]) = some (.box 2 0, { boxes := [x.cells, [I t.src, I t.dst, I t.off, I t.err], [I n0, I n1, I n2, I n3, I n4]] }) := rfl
  have x0 : x.cells[0]? = some (I x.pipes) := rfl
  have x1 : x.cells[1]? = some x.tr := rfl
  have x3 : x.cells[3]? = some x.br := rfl
  have x4 : x.cells[4]? = some (I x.voice.weeks) := rfl
  have hlt := tlen hx
  have hbl := brlen hx
  have hp4 : partA (some 4) [I t.src, I t.dst, I t.off, I t.err] 0 = some (tuA t) := rfl
  have htp : ∀ σ n, pur σ (n + 2) (tuA t) = some (tuA t, false) := fun _ _ => rfl
  cases hc : checkOk x with
  | false =>
    rw [hc] at hsm
    rw [call_run comp9 (Nat.le_of_ble_eq_true rfl)]
    simp (maxSteps := 10000000) [-List.getD_eq_getElem?_getD, -boxA, -partA, part_none, part_x, code9, hbox, hbox2, hbox3, hp, hsm, hs]
  | true =>
    rw [hc] at hsm
    have hch := (chk_iff x).1 hc
    have ht6 := hch.tunes
    by_cases h6 : x.tunes.length = 6
    · have e6 : ((x.tunes.length : Int) == 6) = true := by rw [h6]; rfl
      rw [call_run comp9 (Nat.le_of_ble_eq_true rfl)]
      simp (maxSteps := 10000000) [-List.getD_eq_getElem?_getD, -boxA, -partA, part_none, part_x, code9, hbox, hbox2, hbox3, hp, hsm, hs, x1, hlt, e6]
    have e6 : ((x.tunes.length : Int) == 6) = false := by simp; omega
    have hl6 : x.tunes.length < 6 := by omega
    have c1 := with_call x hx (by omega) t
    have c2 := Fits_call x hx t
    have hmo := more_ok hx (show x.tunes.length < 1000 by omega) t
    have hmi := more_iff hch hl6 t
    have hmp := av_pur _ hmo
    have hmc := xcells_cell _ hmo
    have hmav : (x.more t).av.cells = (x.more t).cells := rfl
    have hml : (x.more t).cells.length = 6 := rfl
    have hms : setAt [I 0, .nils, .nils, .nils, I 0, .nils] 0 (x.more t).cells = (x.more t).cells := rfl
    have hm6 : partA (some 6) (x.more t).cells 0 = some (x.more t).av := rfl
    cases hto : tuneOk x t with
    | false =>
      have c3 := Right_call (x.more t) hmo
      rw [hto] at hmi
      have f1 : rightB (x.more t) = false := by rw [rightB, hmi]; rfl
      have f2 : rightE (x.more t) = 80 := by rw [rightE, hmi]; rfl
      have f3 : fitsO x t = false := by rw [fitsO, hto, if_neg (by rw [ask_no hch]; decide)]
      rw [f1, f2] at c3
      rw [f3, hto, ask_no hch] at c2
      rw [call_run comp9 (Nat.le_of_ble_eq_true rfl)]
      simp (maxSteps := 10000000) [-List.getD_eq_getElem?_getD, -boxA, -partA, -setAt, -List.all_eq_true, part_none, part_x, code9, hbox, hbox2, hbox3, hp, hsm, hs, x1, hlt, e6, hp4, htp, c1, c2, c3, hmp, hmc, hmav, hml, hms, hm6]
    | true =>
      rw [hto] at hmi
      have hmch := (chk_iff _).1 hmi
      have c3 := right_val hmo hmi
      have hbo : Organ.BOk x.N x.forks (x.tunes ++ [t]) := hmch.b
      cases ht : trueO x with
      | false =>
        have f1 : trueO (x.more t) = false := by
          cases hm : trueO (x.more t) with
          | false => rfl
          | true =>
            rw [true_iff] at ht hm
            simp only [Bool.and_eq_true] at hm
            rw [show Vc.fine x.voice [] = true from hm.1, Bool.true_and] at ht
            rw [Organ.isO_less hch.b hbo hm.2] at ht
            cases ht
        have f3 : fitsO x t = false := by rw [fitsO, hto, if_neg (by rw [ask_f hch ht]; decide)]
        rw [f1] at c3
        rw [f3, hto, ask_f hch ht] at c2
        rw [call_run comp9 (Nat.le_of_ble_eq_true rfl)]
        simp (maxSteps := 10000000) [-List.getD_eq_getElem?_getD, -boxA, -partA, -setAt, -List.all_eq_true, part_none, part_x, code9, hbox, hbox2, hbox3, hp, hsm, hs, x1, hlt, e6, hp4, htp, c1, c2, c3, hmp, hmc, hmav, hml, hms, hm6]
      | true =>
        have c2' := fits_t hx hch ht ((tuneOk_iff hch.p).1 hto)
        have f1 : trueO (x.more t) = Organ.isO x.N x.forks (x.tunes ++ [t]) := by
          rw [true_iff] at ht ⊢
          simp only [Bool.and_eq_true] at ht
          show (Vc.fine x.voice [] && Organ.isO x.N x.forks (x.tunes ++ [t])) = _
          rw [ht.1, Bool.true_and]
        rw [f1] at c3
        cases hi : Organ.isO x.N x.forks (x.tunes ++ [t]) with
        | false =>
          rw [hi] at c2' c3
          rw [call_run comp9 (Nat.le_of_ble_eq_true rfl)]
          simp (maxSteps := 10000000) [-List.getD_eq_getElem?_getD, -boxA, -partA, -setAt, -List.all_eq_true, part_none, part_x, code9, hbox, hbox2, hbox3, hp, hsm, hs, x1, hlt, e6, hp4, htp, c1, c2', c3, hmp, hmc, hmav, hml, hms, hm6]
        | true =>
          rw [hi] at c2' c3 f1
          obtain ⟨p, hpl, t0⟩ := turn_pipe hch n0
          obtain ⟨q, hql, t1⟩ := turn_pipe hch n1
          obtain ⟨w, hw, t2⟩ := turn_week hch n2
          obtain ⟨b, hb1, hb2, t3⟩ := turn_boy hch n3
          have t4 := turn_call n4 41 (by omega)
          obtain ⟨u1, u2⟩ := turn_range n4 41 (by omega)
          generalize turnI n4 41 = u at *
          have hmN : (x.more t).N = x.N := rfl
          have rp : Organ.Real x.N p := .inl hpl
          have rq : Organ.Real x.N q := .inl hql
          have r5 : Organ.Real x.N 5 := .inr rfl
          have a1 := pitch_t hx hch ht hpl
          have a2 := pitch_t hmo hmch f1 (p := p) hpl
          have a3 := apart_t hx hch ht hpl hql
          have a4 := apart_t hmo hmch f1 (p := p) (q := q) hpl hql
          have a5 := sharp_t hx hch ht
          have a6 := sharp_t hmo hmch f1
          have tm : ∀ i k, Organ.Real x.N i → Organ.Real x.N k → tab (x.more t) i k ≤ tab x i k := fun i k hi' hk' => Organ.T6_mono hch.b hbo hi hi' hk'
          have g1 := tm p 5 rp r5
          have g2 := tm 5 p r5 rp
          have g3 := tm p q rp rq
          have g4 := tm q p rq rp
          have g5 : -tab (x.more t) p 5 ≤ tab (x.more t) 5 p := Organ.T6_turn hmch.b hi r5 rp
          have g6 : shL (tab x) x.N ≤ shL (tab (x.more t)) x.N ∧ shH (tab (x.more t)) x.N ≤ shH (tab x) x.N := Organ.sh_mono hch.b hbo hi
          rw [hmN] at a6
          have y1 := under_true (a := -tab (x.more t) p 5) (b := tab (x.more t) 5 p) (c := -tab x p 5) (d := tab x 5 p) (by omega)
          have y2 := under_true (a := -tab (x.more t) q p) (b := tab (x.more t) p q) (c := -tab x q p) (d := tab x p q) (by omega)
          have y3 := under_true (a := shL (tab (x.more t)) x.N) (b := shH (tab (x.more t)) x.N) (c := shL (tab x) x.N) (d := shH (tab x) x.N) g6
          have y4 : ¬ -tab (x.more t) p 5 > tab (x.more t) 5 p := by omega
          have hpc := piece_one hw (b := b) (lo := u) (hi := min 40 (u + 5)) ⟨hb1, hb2⟩ (by omega)
          have a7 := keys_t hx hch ht (one_row ⟨b, u, min 40 (u + 5)⟩) hpc
          have a8 := keys_t hmo hmch f1 (one_row ⟨b, u, min 40 (u + 5)⟩) (show pieceB (x.more t) w [⟨b, u, min 40 (u + 5)⟩] = true from hpc)
          rw [hmN] at a8
          have hsub : ∀ y ∈ keysL (keyOk26 x w (shL (tab x) x.N) (shH (tab x) x.N) [⟨b, u, min 40 (u + 5)⟩]), y ∈ keysL (keyOk26 (x.more t) w (shL (tab (x.more t)) x.N) (shH (tab (x.more t)) x.N) [⟨b, u, min 40 (u + 5)⟩]) := fun y hy => by
            rw [Organ.mem_keysL] at hy ⊢
            refine ⟨hy.1, hy.2.1, ?_⟩
            have h3 := hy.2.2
            simp only [keyOk26, List.all_cons, List.all_nil, Bool.and_true, sungO] at h3 ⊢
            exact Organ.allS_mono (by omega) (by omega) h3
          have hln : ∀ P : Int → Bool, (keysL P).length ≤ 13 := fun P => Organ.keysF_len 13 (-6)
          have k9 := fun (σ : St) (s1 : σ.ro ≤ σ.boxes.length) (s2 : σ.mro ≤ σ.maps.length) E (hE : mask keep9_0 E = _) => run_at (loop9_0 _ _ _ _ (rowO_row (keysL (keyOk26 x w (shL (tab x) x.N) (shH (tab x) x.N) [⟨b, u, min 40 (u + 5)⟩]))) (rowO_row (keysL (keyOk26 (x.more t) w (shL (tab (x.more t)) x.N) (shH (tab (x.more t)) x.N) [⟨b, u, min 40 (u + 5)⟩]))) (by have := hln (keyOk26 x w (shL (tab x) x.N) (shH (tab x) x.N) [⟨b, u, min 40 (u + 5)⟩]); omega) (by have := hln (keyOk26 (x.more t) w (shL (tab (x.more t)) x.N) (shH (tab (x.more t)) x.N) [⟨b, u, min 40 (u + 5)⟩]); omega) hsub σ s1 s2 _ 0 (Nat.zero_le _) rfl) hE
          have e5 : ((0 : Nat) : Int) = 0 := rfl
          simp only [keep9_0, head9_0, e5] at k9
          have hpar := part_call b u (min 40 (u + 5))
          have hmn := fold_min 40 (u + 5)
          have w5 : IntKind.wrap .i64 (u + 5) = u + 5 := wrap_small (by omega) (by omega)
          have hf3 : ∀ z, fillE 3 true [(0, .agg [I b, I u, I (min 40 (u + 5))])] [z] = some [paA ⟨b, u, min 40 (u + 5)⟩] := fun _ => rfl
          have hr1 : ∀ z : AV, List.replicate 1 z = [z] := fun _ => rfl
          have q1 := (rowO_row (keysL (keyOk26 x w (shL (tab x) x.N) (shH (tab x) x.N) [⟨b, u, min 40 (u + 5)⟩]))).pur
          have q2 := (rowO_row (keysL (keyOk26 (x.more t) w (shL (tab (x.more t)) x.N) (shH (tab (x.more t)) x.N) [⟨b, u, min 40 (u + 5)⟩]))).pur
          generalize rowO (keysL (keyOk26 x w (shL (tab x) x.N) (shH (tab x) x.N) [⟨b, u, min 40 (u + 5)⟩])) = R1 at *
          generalize rowO (keysL (keyOk26 (x.more t) w (shL (tab (x.more t)) x.N) (shH (tab (x.more t)) x.N) [⟨b, u, min 40 (u + 5)⟩])) = R2 at *
          generalize paA ⟨b, u, min 40 (u + 5)⟩ = PA at *
          generalize min 40 (u + 5) = mu at *
          generalize tab (x.more t) = T' at *
          generalize shL T' x.N = s1 at *
          generalize shH T' x.N = s2 at *
          generalize (x.more t).av = MA at *
          generalize (x.more t).cells = MC' at *
          rw [call_run comp9 (Nat.le_of_ble_eq_true rfl)]
          simp (maxSteps := 10000000) [-List.getD_eq_getElem?_getD, -boxA, -partA, -setAt, -List.all_eq_true, part_none, part_two, part_x, set_two, code9, hbox, hbox2, hbox3, hp, hsm, hs, x0, x1, x3, x4, hlt, hbl, e6, hp4, htp, c1, c2', c3, hmp, hmc, hmav, hml, hms, hm6, t0, t1, t2, t3, t4, a1, a2, a3, a4, a5, a6, a7, a8, y1, y2, y3, y4, hpar, hmn, w5, hf3, hr1, keep9_0, k9, still]
end Go.Ai
