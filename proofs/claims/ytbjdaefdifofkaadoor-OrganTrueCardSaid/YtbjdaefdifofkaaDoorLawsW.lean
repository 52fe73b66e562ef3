/- This text shows the law of the tunings that must be false, in the interpreter. No conditions of its own. -/
import Derived.Test.YtbjdaefdifofkaaDoorHelpE
import Derived.Test.YtbjdaefdifofkaaDoorCodesL13
set_option linter.unusedSimpArgs false
set_option linter.unusedVariables false
set_option maxRecDepth 100000
set_option linter.unusedSimpArgs false
set_option linter.unusedVariables false
/-! The law of the tunings that must be false. -/
namespace Go.Ai
open Go.Organ (T4 F3 Tb T6 kept isO)
open Go.Least (bitsL shorterL incFrom)
theorem right_val' {x : OB} (hx : x.Ok) (hc : checkOk x = true) : call Cv 15 [x.av] = some (.tup [.bool (trueO x), I 0]) := by
  have h := Right_call x hx
  rw [rightB, rightE, hc, Bool.true_and, if_pos rfl] at h
  exact h
theorem left_ok {x : OB} (hx : x.Ok) (hl : x.tunes.length < 1000) (but : List Int) : (x.left but).Ok := tuned_ok hx (growP_row _ _) (by have := (kept_sub (butF but) x.tunes 0).2; omega)
theorem left_chk {x : OB} (hc : Chk x) (but : List Int) : Chk (x.left but) := tuned_chk hc (fun t ht => hc.b.tunes t ((kept_sub (butF but) x.tunes 0).1 t ht)) (by have := (kept_sub (butF but) x.tunes 0).2; have := hc.tunes; omega)
theorem left_true (x : OB) (but : List Int) : trueO (x.left but) = (Vc.fine x.voice [] && okL x but) := by rw [true_iff]; rfl
theorem butF_nil : butF [] = noF := by funext k; simp [butF, noF]
theorem okL_nil (x : OB) : okL x [] = isO x.N x.forks x.tunes := by rw [okL, butF_nil, canO, kept_noF]
theorem bits_zero (T : Nat) : bitsL 0 T = [] := by
  have : ∀ n k, Least.sel (fun i => Least.hasB ((0 : Nat) : Int) i) k n = [] := by
    intro n
    induction n with
    | zero => intro k; rfl
    | succ n ih => intro k; rw [Least.sel, ih]; simp [Least.hasB]
  exact this T 0
theorem kept_all (out : Nat → Bool) : ∀ (l : List T4) (k : Nat), (∀ j, k ≤ j → j < k + l.length → out j = true) → kept out l k = []
  | [], _, _ => rfl
  | t :: l, k, h => by
    rw [kept, h k (Nat.le_refl _) (by simp), kept_all out l (k + 1) fun j h1 h2 => h j (by omega) (by rw [List.length_cons]; omega)]
    rfl
/-- Without any tuning. -/
theorem okL_all {x : OB} (hl : x.tunes.length ≤ 6) : ∃ s, s < 2 ^ x.tunes.length ∧ okL x (bitsL s x.tunes.length) = isO x.N x.forks [] := by
  obtain ⟨s, hs, hb⟩ := Least.bits_of (fun _ => true) x.tunes.length
  refine ⟨s, hs, ?_⟩
  have : kept (butF (bitsL s x.tunes.length)) x.tunes 0 = [] := kept_all _ _ _ fun j _ hj => by
    rw [Nat.zero_add] at hj
    have h1 : ((j : Int)) ∈ bitsL s x.tunes.length := by
      rw [bitsL, Least.mem_sel]
      refine ⟨j, rfl, Nat.zero_le _, by omega, ?_⟩
      have := hb j hj
      simp only [Least.hasB, Int.toNat_natCast, this, Bool.and_true, Bool.and_eq_true, decide_eq_true_eq]
      omega
    simp [butF, h1]
  rw [okL, canO, this]
theorem okL_less {x : OB} (hc : Chk x) {l : List Int} (h : okL x l = true) : isO x.N x.forks [] = true := by
  have hb : Organ.BOk x.N x.forks (kept (butF l) x.tunes 0) := hc.toChk0.kept _
  obtain ⟨g, hg⟩ := (Organ.isO_iff hb).1 h
  exact (Organ.isO_iff ⟨hc.b.one, hc.b.five, hc.b.forks, fun t ht => absurd ht List.not_mem_nil⟩).2 ⟨g, hg.town, hg.forks, fun t ht => absurd ht List.not_mem_nil⟩
theorem pow_small {m : Nat} (h : m ≤ 6) : 2 ^ m ≤ 64 := by
  obtain rfl | rfl | rfl | rfl | rfl | rfl | rfl : m = 0 ∨ m = 1 ∨ m = 2 ∨ m = 3 ∨ m = 4 ∨ m = 5 ∨ m = 6 := by omega
  all_goals decide
set_option maxHeartbeats 4000000 in
theorem wrong_law (x : OB) (hx : x.Ok) (n : Int) : call Cv 13 [x.av, I n] = some (.bool true) := by
  have hsm := small_call x hx
  have hs := tuned_call
  have hcl := xcells_cell x hx
  have hp := av_pur x hx
  have hbox : boxA {} x.av = some (.box 0 0, { boxes := [x.cells] }) := by
    simp only [boxA, OB.av, AV.cells, hcl, if_true]; rfl
  have hav : x.av.cells = x.cells := rfl
  have hxl : x.cells.length = 6 := rfl
  have hz : setAt [I 0, .nils, .nils, .nils, I 0, .nils] 0 x.cells = x.cells := rfl
  have hs1 : setAt x.cells 1 [.nils] = [I x.pipes, .nils, x.fr, x.br, I x.voice.weeks, x.vr] := rfl
  have hp6 : ∀ a b c d e f : AV, partA (some 6) [a, b, c, d, e, f] 0 = some (.agg [a, b, c, d, e, f]) := fun _ _ _ _ _ _ => rfl
  have x1 : x.cells[1]? = some x.tr := rfl
  have x1g : ∀ h : 1 < x.cells.length, x.cells[1]'h = x.tr := fun _ => rfl
  have c1 := hx.frow.cell
  have c2 := br_cell x
  have c3 := vr_cell x
  have q1 := hx.frow.pur
  have q2 := br_pur x
  have q3 := vr_pur x
  obtain ⟨y, hy, d1⟩ := wrongP_call x hx
  have hyp := hy.pur
  have hyl := row_len hy
  cases hc : checkOk x with
  | false =>
    have hw : wrongL x = [] := by simp [wrongL, wrongO, hc]
    have he : wrongE x = 80 := by simp [wrongE, hc]
    rw [hw] at hyl
    rw [he] at d1
    rw [hc] at hsm
    have e0 : (([] : List Int).length : Int) = 0 := rfl
    rw [e0] at hyl
    rw [call_run comp13 (Nat.le_of_ble_eq_true rfl)]
    simp (maxSteps := 10000000) [-List.getD_eq_getElem?_getD, -boxA, -partA, part_none, part_x, code13, hbox, hp, hsm, hs, d1, hyl, hyp]
  | true =>
    rw [hc] at hsm
    have hch := (chk_iff x).1 hc
    have hnc := hch.tunes
    have d2 := right_val' hx hc
    have hbare : Chk (x.tuned [] .nils) := tuned_chk hch (fun t ht => absurd ht List.not_mem_nil) (by simp)
    have d3 := right_val' (x := x.tuned [] .nils) (tuned_ok hx (.inl ⟨rfl, rfl⟩) (by simp)) ((chk_iff _).2 hbare)
    rw [true_iff] at d3
    rw [show (Vc.fine (x.tuned [] .nils).voice [] && isO (x.tuned [] .nils).N (x.tuned [] .nils).forks (x.tuned [] .nils).tunes) = (Vc.fine x.voice [] && isO x.N x.forks []) from rfl, show (x.tuned [] .nils).av = .agg [I x.pipes, .nils, x.fr, x.br, I x.voice.weeks, x.vr] from rfl] at d3
    rw [true_iff, ← okL_nil] at d2
    have hwo : wrongO x = if Vc.fine x.voice [] then Least.wrongG (okL x) x.tunes.length 0 (x.tunes.length + 1) else none := by rw [wrongO, hc, if_pos rfl]
    have hwe : wrongE x = if (wrongO x).isSome then 0 else 82 := by rw [wrongE, hc, if_pos rfl]
    have e0 : (([] : List Int).length : Int) = 0 := rfl
    cases hf : Vc.fine x.voice [] with
    | false =>
      rw [hf, Bool.false_and] at d2 d3
      rw [hf, if_neg (by simp)] at hwo
      have hw : wrongL x = [] := by rw [wrongL, hwo]; rfl
      rw [hwo] at hwe
      simp only [Option.isSome_none, Bool.false_eq_true, if_false] at hwe
      rw [hw, e0] at hyl
      rw [hwe] at d1
      rw [call_run comp13 (Nat.le_of_ble_eq_true rfl)]
      simp (maxSteps := 10000000) [-List.getD_eq_getElem?_getD, -boxA, -partA, -setAt, -List.all_eq_true, part_none, part_x, code13, hbox, hp, hsm, hs, hav, hcl, hxl, hz, hs1, hp6, c1, c2, c3, q1, q2, q3, d1, d2, d3, hyl, hyp]
    | true =>
      rw [hf, Bool.true_and] at d2 d3
      rw [hf, if_pos rfl] at hwo
      cases hwr : wrongO x with
      | none =>
        rw [hwr] at hwo hwe
        have hno := fun s => Least.told_none (ok := okL x) (T := x.tunes.length) (by omega) hwo.symm s
        have n0 := hno 0
        rw [bits_zero] at n0
        obtain ⟨s, _, hall⟩ := okL_all hnc
        rw [hno s] at hall
        rw [n0] at d2
        rw [← hall] at d3
        have hw : wrongL x = [] := by rw [wrongL, hwr]; rfl
        simp only [Option.isSome_none, Bool.false_eq_true, if_false] at hwe
        rw [hw, e0] at hyl
        rw [hwe] at d1
        rw [call_run comp13 (Nat.le_of_ble_eq_true rfl)]
        simp (maxSteps := 10000000) [-List.getD_eq_getElem?_getD, -boxA, -partA, -setAt, -List.all_eq_true, part_none, part_x, code13, hbox, hp, hsm, hs, hav, hcl, hxl, hz, hs1, hp6, c1, c2, c3, q1, q2, q3, d1, d2, d3, hyl, hyp]
      | some w =>
        rw [hwr] at hwo hwe
        have hw : wrongL x = w := by rw [wrongL, hwr]; rfl
        simp only [Option.isSome_some, if_true] at hwe
        rw [hw] at hyl hy
        rw [hwe] at d1
        have tw := Least.told_some (ok := okL x) (T := x.tunes.length) (by omega) hwo.symm
        have hwn : w = [] ↔ okL x [] = true := by
          constructor
          · rintro rfl; exact tw.fine
          · intro h0
            have := tw.least 0 (Nat.two_pow_pos _) (by rw [bits_zero]; exact h0)
            rw [bits_zero] at this
            cases w with
            | nil => rfl
            | cons a w => simp [shorterL] at this
        rw [okL_less hch tw.fine] at d3
        have hp64 := pow_small hnc
        have hpos : 0 < 2 ^ x.tunes.length := Nat.two_pow_pos _
        have hlen := tlen hx
        have hT := turn_call n ((2 ^ x.tunes.length : Nat) : Int) (by omega)
        obtain ⟨r1, r2⟩ := turn_range n ((2 ^ x.tunes.length : Nat) : Int) (by omega)
        obtain ⟨s, hs'⟩ := Int.eq_ofNat_of_zero_le r1
        rw [hs'] at hT r2
        have hs2 : s < 2 ^ x.tunes.length := by omega
        obtain ⟨z, hz', d4⟩ := bits_call s (by omega) x.tunes.length (by omega)
        have hzp := hz'.pur
        have hblen := Least.bits_len s x.tunes.length
        have hwl := tw.len
        have d5 := without_call x hx (by omega) (bitsL s x.tunes.length) z hz' (by omega)
        have d6 := without_call x hx (by omega) w y hy (by omega)
        have o5 := left_ok hx (by omega) (bitsL s x.tunes.length)
        have o6 := left_ok hx (by omega) w
        have d7 := right_val' o5 ((chk_iff _).2 (left_chk hch _))
        have d8 := right_val' o6 ((chk_iff _).2 (left_chk hch _))
        rw [left_true, hf, Bool.true_and] at d7 d8
        rw [tw.fine] at d8
        have p5 := av_pur _ o5
        have p6 := av_pur _ o6
        have o1 := ord_call w y hy (by omega) x.tunes.length (by omega) (by omega)
        rw [inc_ord _ _ 0 _ (by omega) (Int.le_refl _) tw.inc] at o1
        have d9 := shorter_call (bitsL s x.tunes.length) w z y hz' hy (by omega) (by omega)
        have hl := tw.least s hs2
        have hemp : ((w.length : Int) == 0) = okL x [] := by
          rw [Bool.eq_iff_iff, ← hwn, ← List.length_eq_zero_iff]; simp
        have hsh : IntKind.wrap .i64 ((2 : Int) ^ min x.tunes.length (IntKind.bits .i64)) = ((2 ^ x.tunes.length : Nat) : Int) := by
          have : min x.tunes.length (IntKind.bits .i64) = x.tunes.length := by
            show min _ 64 = _
            omega
          rw [this, show ((2 : Int) ^ x.tunes.length) = ((2 ^ x.tunes.length : Nat) : Int) from by norm_cast]
          exact wrap_small (by omega) (by omega)
        have hneg : ¬ (x.tunes.length : Int) < 0 := by omega
        generalize okL x (bitsL s x.tunes.length) = f2 at *
        generalize shorterL (bitsL s x.tunes.length) w = sh at *
        generalize okL x [] = f0 at *
        generalize (x.left w).av = A1 at *
        generalize (x.left (bitsL s x.tunes.length)).av = A2 at *
        generalize 2 ^ x.tunes.length = P at *
        rw [call_run comp13 (Nat.le_of_ble_eq_true rfl)]
        cases f2 <;> cases sh <;> cases f0 <;> first | (simp at hl; done) | simp (maxSteps := 10000000) [-List.getD_eq_getElem?_getD, -boxA, -partA, -setAt, -List.all_eq_true, part_none, part_x, code13, hbox, hp, hsm, hs, hav, hcl, hxl, hz, hs1, hp6, c1, c2, c3, q1, q2, q3, x1, x1g, d1, d2, d3, d4, d5, d6, d7, d8, d9, hyl, hyp, hzp, hlen, hneg, hsh, hT, p5, p6, o1, hemp, still]
end Go.Ai
