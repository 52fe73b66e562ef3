/- This text shows the law. No conditions of its own. -/
import Derived.Test.YtogfbfpinhcajaaDoorHelpB
import Derived.Test.YtogfbfpinhcajaaDoorCodesL
import Derived.Test.YtogfbfpinhcajaaDoorRead
set_option linter.unusedSimpArgs false
set_option linter.unusedVariables false
set_option maxRecDepth 100000
set_option linter.unusedSimpArgs false
set_option linter.unusedVariables false
/-! The law of the copies that must be false. -/
namespace Go.Ai
open Go.Part (Sp Cp Bk truths)
open Go.Least (bitsL shorterL incFrom)
theorem keepV_cp (but : List Int) : ∀ (l : List CpV) (k : Nat), (keepV but l k).map CpV.cp = Part.keepC (butF but) (l.map CpV.cp) k
  | [], _ => rfl
  | c :: l, k => by
    rw [keepV, List.map_append, keepV_cp but l (k + 1), List.map_cons, Part.keepC]
    by_cases h : (k : Int) ∈ but <;> simp [h, butF]
theorem keepV_sub (but : List Int) : ∀ (l : List CpV) (k : Nat), (∀ c ∈ keepV but l k, c ∈ l) ∧ (keepV but l k).length ≤ l.length
  | [], _ => ⟨fun _ h => h, Nat.le_refl _⟩
  | c :: l, k => by
    obtain ⟨h1, h2⟩ := keepV_sub but l (k + 1)
    rw [keepV]
    split
    · exact ⟨fun u hu => List.mem_cons_of_mem _ (h1 u (by simpa using hu)), by simp; omega⟩
    · refine ⟨fun u hu => ?_, by simp; omega⟩
      rcases List.mem_cons.1 (by simpa using hu) with rfl | hu
      · exact .head _
      · exact List.mem_cons_of_mem _ (h1 u hu)
theorem without_Ts (x : PB) (but : List Int) : Ts (x.having (keepV but x.copies 0)) noneF = Ts x (butF but) := by
  have e : bkOf (x.having (keepV but x.copies 0)) = (bkOf x).without (butF but) := by
    show (⟨_, _, _, _, _, _⟩ : Bk) = _
    unfold Part.Bk.without
    rw [show (x.having (keepV but x.copies 0)).copies = keepV but x.copies 0 from rfl, keepV_cp]
    rfl
  unfold Ts
  rw [e]
  exact Part.truths_without (b := bkOf x) (butF but)
theorem copyOk_having (x : PB) (cs : List CpV) (c : CpV) : copyOk (x.having cs) c = copyOk x c := rfl
theorem having_check {x : PB} (hc : checkOk x = true) (cs : List CpV) (h1 : ∀ c ∈ cs, copyOk x c = true) (h2 : cs.length ≤ 4) : checkOk (x.having cs) = true := by
  simp only [checkOk, Bool.and_eq_true, decide_eq_true_eq, List.all_eq_true] at hc ⊢
  obtain ⟨⟨⟨a1, a2, a3, a4, a5, a6⟩, a7⟩, a8⟩ := hc
  exact ⟨⟨⟨a1, a2, a3, a4, a5, by show ((cs.length : Nat) : Int) ≤ 4; omega⟩, a7⟩, fun c hcm => h1 c hcm⟩
theorem copies_ok {x : PB} (hc : checkOk x = true) : ∀ c ∈ x.copies, copyOk x c = true := by
  simp only [checkOk, Bool.and_eq_true, List.all_eq_true] at hc
  exact hc.2
theorem butF_nil : butF [] = noneF := by funext k; simp [butF, noneF]
theorem bits_zero (T : Nat) : bitsL 0 T = [] := by
  have : ∀ n k, Least.sel (fun i => Least.hasB ((0 : Nat) : Int) i) k n = [] := by
    intro n
    induction n with
    | zero => intro k; rfl
    | succ n ih => intro k; rw [Least.sel, ih]; simp [Least.hasB]
  exact this T 0
theorem wrong_told {x : PB} (hc : checkOk x = true) {w : List Int} (h : wrongO x = some w) : Least.Told (okL x) x.copies.length w := by
  rw [wrongO, if_pos hc] at h
  exact Least.told_some (by have := (chk_of hc).nc; omega) h
theorem wrong_not {x : PB} (hc : checkOk x = true) (h : wrongO x = none) (s : Nat) : okL x (bitsL s x.copies.length) = false := by
  rw [wrongO, if_pos hc] at h
  exact Least.told_none (by have := (chk_of hc).nc; omega) h s
theorem okL_nil (x : PB) : okL x [] = decide (Ts x noneF ≠ []) := by rw [okL, butF_nil]
theorem wrong_nil {x : PB} (hc : checkOk x = true) {w : List Int} (h : wrongO x = some w) : w = [] ↔ okL x [] = true := by
  have t := wrong_told hc h
  constructor
  · rintro rfl; exact t.fine
  · intro h0
    have := t.least 0 (Nat.two_pow_pos _) (by rw [bits_zero]; exact h0)
    rw [bits_zero] at this
    cases w with
    | nil => rfl
    | cons a w => simp [shorterL] at this
theorem pow_small {m : Nat} (h : m ≤ 4) : 2 ^ m ≤ 16 := by
  obtain rfl | rfl | rfl | rfl | rfl : m = 0 ∨ m = 1 ∨ m = 2 ∨ m = 3 ∨ m = 4 := by omega
  all_goals decide
/-- The cells of a book, to be told apart from another one's. -/
theorem book_av (x : PB) (hx : x.Ok) : ∃ A : AV, x.av = A ∧ (∀ σ n, pur σ (n + 2) A = some (A, false)) ∧ A.cells.length = 6 ∧ A.cells.all AV.isCell = true := by
  refine ⟨_, rfl, fun σ n => ?_, rfl, ?_⟩
  · simp [PB.av, PB.cells, pur, purAll, hx.vrow.pur, hx.crow.pur]
  · simp [PB.av, PB.cells, hx.vrow.cell, hx.crow.cell]
set_option maxHeartbeats 4000000 in
theorem wrong_law (x : PB) (hx : x.Ok) (n : Int) : call Cv 12 [x.av, I n] = some (.bool true) := by
  have hsm := sound_call x hx
  have hs := noted_call
  obtain ⟨y, hy, hyc, hyp, d1⟩ := wrongP_call x hx
  have hyl := row_len hy
  have hvc := hx.vrow.cell
  have hcc := hx.crow.cell
  have hvp := hx.vrow.pur
  have hcp := hx.crow.pur
  cases hc : checkOk x with
  | false =>
    have hw : wrongL x = [] := by simp [wrongL, wrongO, hc]
    have he : wrongE x = 50 := by simp [wrongE, hc]
    rw [hw] at hyl
    rw [he] at d1
    rw [hc] at hsm
    simp only [PB.av, PB.cells] at hsm d1
    rw [call_run comp12 (Nat.le_of_ble_eq_true rfl)]
    simp (maxSteps := 10000000) [-List.getD_eq_getElem?_getD, code12, PB.av, PB.cells, hvc, hcc, hvp, hcp, hsm, hs, d1, hyl, hyp]
  | true =>
    rw [hc] at hsm
    have hk := chk_of hc
    have hnc := hk.nc
    have hp16 := pow_small hnc
    have hpos : 0 < 2 ^ x.copies.length := Nat.two_pow_pos _
    have d2 := rightP_call x hx
    rw [hc] at d2
    have hlen := clen hx
    have hT := turn_call n ((2 ^ x.copies.length : Nat) : Int) (by omega)
    obtain ⟨r1, r2⟩ := turn_range n ((2 ^ x.copies.length : Nat) : Int) (by omega)
    obtain ⟨s, hs'⟩ := Int.eq_ofNat_of_zero_le r1
    rw [hs'] at hT r2
    have hs2 : s < 2 ^ x.copies.length := by omega
    obtain ⟨z, hz, d3⟩ := bits_call s (by omega) x.copies.length (by omega)
    have hzp := hz.pur
    have hblen := Least.bits_len s x.copies.length
    obtain ⟨k3, k4⟩ := keepV_sub (bitsL s x.copies.length) x.copies 0
    have d5 := without_call x hx (by omega) (bitsL s x.copies.length) z hz (by omega)
    have o2 := having_ok hx (keepV (bitsL s x.copies.length) x.copies 0) (by omega) (fun c hcm => hx.cp c (k3 c hcm))
    have d7 := rightP_call _ o2
    rw [having_check hc _ (fun c hcm => copies_ok hc c (k3 c hcm)) (by omega), without_Ts] at d7
    have hok2 : decide (Ts x (butF (bitsL s x.copies.length)) ≠ []) = okL x (bitsL s x.copies.length) := rfl
    obtain ⟨A2, e2, pA2, lA2, cA2⟩ := book_av _ o2
    rw [e2] at d5 d7
    rw [hok2] at d7
    have hok0 := okL_nil x
    rw [← hok0] at d2
    have hsh : IntKind.wrap .i64 ((2 : Int) ^ min x.copies.length (IntKind.bits .i64)) = ((2 ^ x.copies.length : Nat) : Int) := by
      have : min x.copies.length (IntKind.bits .i64) = x.copies.length := by
        show min _ 64 = _
        omega
      rw [this, show ((2 : Int) ^ x.copies.length) = ((2 ^ x.copies.length : Nat) : Int) from by norm_cast]
      exact wrap_small (by omega) (by omega)
    have hneg : ¬ (x.copies.length : Int) < 0 := by omega
    cases hwo : wrongO x with
    | none =>
      have he : wrongE x = 52 := by simp [wrongE, hc, hwo]
      have hw : wrongL x = [] := by simp [wrongL, hwo]
      rw [he] at d1
      rw [hw] at hyl
      have n0 := wrong_not hc hwo 0
      rw [bits_zero] at n0
      have n1 := wrong_not hc hwo s
      rw [n0] at d2
      rw [n1] at d7
      simp only [PB.av, PB.cells, Bool.and_false, if_true] at hsm d1 d2 d5 d7
      generalize 2 ^ x.copies.length = P at *
      rw [call_run comp12 (Nat.le_of_ble_eq_true rfl)]
      simp (maxSteps := 10000000) [-List.getD_eq_getElem?_getD, code12, PB.av, PB.cells, hvc, hcc, hvp, hcp, hsm, hs, d1, d2, d3, d5, d7, hyl, hyp, hzp, hlen, hneg, hsh, hT, pA2]
    | some w =>
      have he : wrongE x = 0 := by simp [wrongE, hc, hwo]
      have hw : wrongL x = w := by simp [wrongL, hwo]
      rw [he] at d1
      rw [hw] at hyl hy
      have tw := wrong_told hc hwo
      have hwn := wrong_nil hc hwo
      have o1 := ord_call w y hy (by have := tw.len; omega) x.copies.length (by omega) (by omega)
      rw [inc_ord _ _ 0 _ (by omega) (Int.le_refl _) tw.inc] at o1
      obtain ⟨k1, k2⟩ := keepV_sub w x.copies 0
      have d4 := without_call x hx (by omega) w y hy (by have := tw.len; omega)
      have o3 := having_ok hx (keepV w x.copies 0) (by omega) (fun c hcm => hx.cp c (k1 c hcm))
      have d6 := rightP_call _ o3
      rw [having_check hc _ (fun c hcm => copies_ok hc c (k1 c hcm)) (by omega), without_Ts, show decide (Ts x (butF w) ≠ []) = okL x w from rfl, tw.fine] at d6
      obtain ⟨A1, e1, pA1, lA1, cA1⟩ := book_av _ o3
      rw [e1] at d4 d6
      have d8 := shorter_call (bitsL s x.copies.length) w z y hz hy (by omega) (by have := tw.len; omega)
      have hl := tw.least s hs2
      have hemp : ((w.length : Int) == 0) = okL x [] := by
        rw [Bool.eq_iff_iff, ← hwn, ← List.length_eq_zero_iff]; simp
      generalize okL x (bitsL s x.copies.length) = f2 at *
      generalize shorterL (bitsL s x.copies.length) w = sh at *
      generalize okL x [] = f0 at *
      simp only [PB.av, PB.cells, Bool.and_self, if_true, Bool.true_and] at hsm d1 d2 d4 d5 d6 d7
      generalize 2 ^ x.copies.length = P at *
      rw [call_run comp12 (Nat.le_of_ble_eq_true rfl)]
      cases f2 <;> cases sh <;> cases f0 <;> first | (simp at hl; done) | simp (maxSteps := 10000000) [-List.getD_eq_getElem?_getD, code12, PB.av, PB.cells, hvc, hcc, hvp, hcp, hsm, hs, d1, d2, d3, d4, d5, d6, d7, d8, hyl, hyp, hzp, hlen, hneg, hsh, hT, pA1, pA2, o1, hemp]
end Go.Ai

set_option maxRecDepth 100000
set_option linter.unusedSimpArgs false
set_option linter.unusedVariables false
namespace Go.Proofs.YtogfbfpinhcajaaDoor
open Go Go.Ai Go.ChangeShapes Go.WideShapes Go.ChangeAt Go.RowKit
set_option maxRecDepth 100000 in
theorem partWrong_lifted (os : Os) (started : os.Started) (H : Type) (enc : TypeId × Value → H) :
    ReturnsInHanded {} Tryd.checked os 12 .any (fun w args => (Rows.partWrongSpec.pre enc Tryd.prog Tryd.f12 [] false w args ∧ laidMetH Tryd.prog laid w) ∧ sizedMet enc Tryd.prog Tryd.f12 (OpenSpec.ofChange Rows.partWrongSpec) false w args)
      (Rows.partWrongSpec.post enc Tryd.prog Tryd.f12 false true false false) := by
  refine returnsInHanded_of_change_and (C := Tryd.checked) (X := fun w _ => laidMetH Tryd.prog laid w) (fun _ _ _ hh h => h.of_heap hh) own started (by kernel_rfl) Tryd.func12
    (ChangeSpec.witness_shaped (enc := enc) (C := Tryd.checked) (os := os) (X := fun w _ => laidMetH Tryd.prog laid w) false (World.doorLaid Tryd.prog 600 os) #[.agg #[.int .i64 0, .slice none 0 0, .int .i64 0, .int .i64 0, .int .i64 0, .slice none 0 0], .int .i64 0] 8 rfl (World.shaped_of_RefB (by kernel_rfl) (by kernel_rfl)) (by kernel_rfl) (by kernel_rfl) (by kernel_rfl) (door_met os _)) ?_
  intro W base args ds gs before hval0 hW _ hwt hL _
  have hval : ∀ (j : Nat) t v, Tryd.f12.params[j]? = some t → args[j]? = some v → Value.okWide Tryd.prog W .any base t v := hval0
  have hW' := hW
  obtain ⟨p, q, hA0, hV, rfl, hfz, hnd⟩ := hW
  have hA : DataW.TrodAll enc Tryd.prog W 0 (fun _ => true) true Tryd.f12.params.toList args.toList ds p := hA0
  have hwt' : (DataW.weightsEach Tryd.prog (Tryd.f12.params.toList ++ []) (ds ++ gs)).all (· ≤ reachBytes) = true := hwt
  rw [Tryd.params12] at hA hval hwt'
  obtain ⟨v0, v1, d0, d1, p0, p1, rfl, rfl, rfl, h0, h1⟩ := trodAll_two hA
  obtain ⟨rfl, rfl⟩ := trodVars_none hV
  have hw0 : ∀ n ∈ d0.weights Tryd.prog 25, n ≤ reachBytes := fun n hn => by
    have := List.all_eq_true.1 hwt' n (by simp [DataW.weightsEach, hn])
    simpa using this
  obtain ⟨x0, hx0, hr0⟩ := book_read h0 (hval 0 25 v0 rfl rfl) hw0
  obtain ⟨n1, rfl, rfl, rfl, wn1⟩ := open_int Tryd.underlying3 (hval 1 3 v1 rfl rfl) h1
  refine law_calls (s := Rows.partWrongSpec) Tryd.func12 (by kernel_rfl) hL (avs := [x0.av, I n1]) (preps_two hr0 (.int _ _)) (wrong_law x0 hx0 n1) hW' rfl rfl ?_
  intro t ht
  rw [Tryd.params12] at ht
  have : t = 25 ∨ t = 3 := by simpa using ht
  rcases this with rfl | rfl
  · exact ⟨by kernel_rfl, of_decide_eq_true (by kernel_rfl)⟩
  · exact ⟨by kernel_rfl, of_decide_eq_true (by kernel_rfl)⟩
theorem partWrong_said : Rows.PartWrongSaid :=
  OpenClaim.holds_of_wide 12 Tryd.f12 rfl rfl rfl rfl rfl rfl rfl ⟨rfl, rfl, rfl, rfl, rfl⟩ rfl rfl rfl rfl rfl (by kernel_rfl) Tryd.func12 (by kernel_rfl)
    (of_decide_eq_true (by kernel_rfl)) (by unfold Func.isWrapper; first | (rw [if_pos (by decide +kernel)]; kernel_rfl) | (rw [if_neg (by decide +kernel)]; exact ⟨rfl, rfl⟩))
    (fun os started H enc _ => partWrong_lifted os started H enc)
theorem partWrong_holds : Rows.PartWrongCardSaid :=
  Claim7.holds_tied_plain_at .later [] [.data, .data, .funcs] true (true, "20e993f4ee19d0eefb55b6c5dbdbd2853920bb1246738ed7e532c6c0953e187f") false
    partWrong_said (fun _ h => by cases h) (by kernel_rfl) (fun _ h => by cases h) partWrong_row_tie rfl ⟨rfl, rfl⟩ (by kernel_rfl) rfl
    (fun f fn hf hfn => by
      obtain rfl : f = 12 := Option.some.inj ((show Tryd.prog.funcNamed "decani/decanilaw05.PartWrong" = some 12 by kernel_rfl).symm.trans hf) |>.symm
      obtain rfl : fn = Tryd.f12 := (Option.some.inj (Tryd.func12.symm.trans hfn)).symm
      exact ⟨by kernel_rfl, fun j t ht => by
        rw [Tryd.params12] at ht
        have h3 : t = 25 ∨ t = 3 := by
          have := List.mem_of_getElem? (i := j) (l := [25, 3]) (by simpa using ht)
          simpa using this
        rcases h3 with rfl | rfl
        · exact (show Tryd.prog.wantsStandIn 25 = false by kernel_rfl)
        · exact (show Tryd.prog.wantsStandIn 3 = false by kernel_rfl)⟩)
    (by kernel_rfl)
#print axioms partWrong_holds
end Go.Proofs.YtogfbfpinhcajaaDoor
