/- This text shows the law. No conditions of its own. -/
import Derived.Test.YtogfbfpinhcajaaDoorRefD
import Derived.Test.YtogfbfpinhcajaaDoorCodesL
import Derived.Test.YtogfbfpinhcajaaDoorRead
set_option linter.unusedSimpArgs false
set_option linter.unusedVariables false
set_option maxRecDepth 100000
set_option linter.unusedSimpArgs false
set_option linter.unusedVariables false
/-! The reference's Bar; the law of Fits, Wrong and Bar. -/
namespace Go.Ai
open Go.Part (Sp Cp Bk truths cnt at' vals)
theorem set2b (a b : AV) : setAt [I 0, .nils] 0 [a, b] = [a, b] := rfl
theorem rBar_call (x : PB) (hx : x.Ok) (n : Int) : call Cv 36 [x.av, I n] = some (.tup [I (barR x n).1, I (barR x n).2]) := by
  have h1 := rCheck_call x hx
  obtain ⟨y, hy, h34⟩ := rWrong_call x hx
  have hyp := hy.pur
  have w1 := lies' n 0 ((x.copies.length : Int) - 1)
  have h4 := less_one' hx.lc
  have hvc := hx.vrow.cell
  have hcc := hx.crow.cell
  have hvp := hx.vrow.pur
  have hcp := hx.crow.pur
  have hlen := clen hx
  simp only [PB.av, PB.cells] at h1 h34
  unfold barR
  cases hc : checkOk x with
  | false =>
    rw [hc] at h1
    simp only [Bool.false_eq_true, if_false] at h1 ⊢
    rw [call_run comp36 (Nat.le_of_ble_eq_true rfl)]
    simp (maxSteps := 10000000) [-List.getD_eq_getElem?_getD, ret2, ret3, retc2, code36, PB.av, PB.cells, hvc, hcc, hvp, hcp, h1]
  | true =>
    rw [hc] at h1
    simp only [if_true] at h1 ⊢
    cases hq : lie n 0 ((x.copies.length : Int) - 1) with
    | false =>
      rw [hq] at w1
      simp only [Bool.false_eq_true, if_false]
      rw [call_run comp36 (Nat.le_of_ble_eq_true rfl)]
      simp (maxSteps := 10000000) [-List.getD_eq_getElem?_getD, ret2, ret3, retc2, code36, PB.av, PB.cells, hvc, hcc, hvp, hcp, h1, hlen, h4, w1]
    | true =>
      rw [hq] at w1
      simp only [if_true]
      by_cases hwe : wrongE x = 0
      · rw [if_pos hwe]
        rw [hwe] at h34
        simp only [lie, Bool.and_eq_true, decide_eq_true_eq] at hq
        obtain ⟨n', rfl⟩ := Int.eq_ofNat_of_zero_le hq.1
        have hlt : n' < x.copies.length := by omega
        have hg : x.copies[n']? = some x.copies[n'] := List.getElem?_eq_getElem hlt
        simp only [Int.toNat_natCast, hg]
        have hcm : x.copies[n'] ∈ x.copies := List.getElem_mem hlt
        have hcx := hx.cp _ hcm
        have hk := chk_of hc
        have hnc := hk.nc
        have hcf := hk.copies _ hcm
        have hix : ixsA 2 x.cr (I n') = some (.rp [I x.copies[n'].cp.voice, x.copies[n'].row] 0) := by
          obtain ⟨cc, hcc, hr⟩ := hx.crow.sl (by intro hn; simp at hn; rw [hn] at hlt; simp at hlt)
          rw [hr]
          simp [ixsA, hlt, CpV.av, AV.cells]
        generalize hcg : x.copies[n'] = c at *
        obtain ⟨hgs, hga⟩ := gather_call (wrongL x) y hy (wrong_short x hx)
        obtain ⟨r, hr, hp⟩ := pieces_call x hx hk.toR (gatN 0 (wrongL x)) hgs
        have hl := loop36 x hx hk (gatN 0 (wrongL x)) r hr c hcx c.cp.voice.toNat (by omega) (by omega) (by omega) c.cp.notes 0 (Nat.zero_le _) rfl
        have hTe : Ts x (outB (gatN 0 (wrongL x))) = Ts x (butF (wrongL x)) := Ts_eq fun k hk' => gat_out (wrongL x) (by omega)
        rw [hTe] at hl
        have e5 : ((0 : Nat) : Int) = 0 := rfl
        have hrp := hr.pur
        have hrc := hcx.row.cell
        simp only [PB.av, PB.cells] at hp
        cases hbr : barF (Ts x (butF (wrongL x))) x.N.toNat c.cp.voice.toNat c.cp.notes 0 with
        | none =>
          rw [hbr] at hl
          obtain ⟨L, σ, hl⟩ := hl
          have hl' := fun E (hE : mask keep36_0 E = _) => run_at hl hE
          simp only [keep36_0, head36, st36, PB.cells, e5] at hl'
          rw [call_run comp36 (Nat.le_of_ble_eq_true rfl)]
          simp (maxSteps := 10000000) [-List.getD_eq_getElem?_getD, ret2, ret3, retc2, -setAt, -List.all_eq_true, -ixsA, code36, PB.av, PB.cells, hvc, hcc, hvp, hcp, h1, hlen, h4, w1, h34, hyp, hga, hp, hrp, hix, hrc, set2b, keep36_0, hl']
        | some k =>
          rw [hbr] at hl
          obtain ⟨L, σ, hl⟩ := hl
          have hl' := fun E (hE : mask keep36_0 E = _) => run_at hl hE
          simp only [keep36_0, head36, st36, PB.cells, e5] at hl'
          rw [call_run comp36 (Nat.le_of_ble_eq_true rfl)]
          simp (maxSteps := 10000000) [-List.getD_eq_getElem?_getD, ret2, ret3, retc2, -setAt, -List.all_eq_true, -ixsA, code36, PB.av, PB.cells, hvc, hcc, hvp, hcp, h1, hlen, h4, w1, h34, hyp, hga, hp, hrp, hix, hrc, set2b, keep36_0, hl']
      · rw [if_neg hwe]
        have hne : (wrongE x != 0) = true := by simpa using hwe
        rw [call_run comp36 (Nat.le_of_ble_eq_true rfl)]
        simp (maxSteps := 10000000) [-List.getD_eq_getElem?_getD, ret2, ret3, retc2, -List.all_eq_true, code36, PB.av, PB.cells, hvc, hcc, hvp, hcp, h1, hlen, h4, w1, h34, hne, hyp]
set_option maxHeartbeats 4000000 in
theorem fits_law (x : PB) (hx : x.Ok) (c : CpV) (hcx : c.Ok) (n : Int) : call Cv 5 [x.av, c.av, I n] = some (.bool true) := by
  have a1 := fitsP_call x hx c hcx
  have a2 := rFits_call x hx c hcx
  obtain ⟨y, hy, hyc, hyp, b1⟩ := wrongP_call x hx
  obtain ⟨z, hz, b2⟩ := rWrong_call x hx
  have hzp := hz.pur
  have q1 := equal_call _ _ y z hy hz (wrong_short x hx) (wrong_short x hx)
  simp only [decide_true] at q1
  have c1 := barP_call x hx n
  have c2 := rBar_call x hx n
  have hs := noted_call
  have hvc := hx.vrow.cell
  have hcc := hx.crow.cell
  have hvp := hx.vrow.pur
  have hcp := hx.crow.pur
  have hrc := hcx.row.cell
  have hrp := hcx.row.pur
  generalize fitsP x c = F at *
  generalize ansE x (copyOk x c) = E1 at *
  generalize wrongE x = E2 at *
  generalize barR x n = R at *
  obtain ⟨R1, R2⟩ := R
  simp only [PB.av, PB.cells, CpV.av] at a1 a2 b1 b2 c1 c2
  rw [call_run comp5 (Nat.le_of_ble_eq_true rfl)]
  simp (maxSteps := 10000000) [-List.getD_eq_getElem?_getD, -List.all_eq_true, code5, PB.av, PB.cells, CpV.av, hvc, hcc, hvp, hcp, hrc, hrp, a1, a2, b1, b2, c1, c2, hs, q1, hyp, hzp]
end Go.Ai

set_option maxRecDepth 100000
set_option linter.unusedSimpArgs false
set_option linter.unusedVariables false
namespace Go.Proofs.YtogfbfpinhcajaaDoor
open Go Go.Ai Go.ChangeShapes Go.WideShapes Go.ChangeAt Go.RowKit
set_option maxRecDepth 100000 in
theorem partFits_lifted (os : Os) (started : os.Started) (H : Type) (enc : TypeId × Value → H) :
    ReturnsInHanded {} Tryd.checked os 5 .any (fun w args => (Rows.partFitsSpec.pre enc Tryd.prog Tryd.f5 [] false w args ∧ laidMetH Tryd.prog laid w) ∧ sizedMet enc Tryd.prog Tryd.f5 (OpenSpec.ofChange Rows.partFitsSpec) false w args)
      (Rows.partFitsSpec.post enc Tryd.prog Tryd.f5 false true false false) := by
  refine returnsInHanded_of_change_and (C := Tryd.checked) (X := fun w _ => laidMetH Tryd.prog laid w) (fun _ _ _ hh h => h.of_heap hh) own started (by kernel_rfl) Tryd.func5
    (ChangeSpec.witness_shaped (enc := enc) (C := Tryd.checked) (os := os) (X := fun w _ => laidMetH Tryd.prog laid w) false (World.doorLaid Tryd.prog 600 os) #[.agg #[.int .i64 0, .slice none 0 0, .int .i64 0, .int .i64 0, .int .i64 0, .slice none 0 0], .agg #[.int .i64 0, .slice none 0 0], .int .i64 0] 8 rfl (World.shaped_of_RefB (by kernel_rfl) (by kernel_rfl)) (by kernel_rfl) (by kernel_rfl) (by kernel_rfl) (door_met os _)) ?_
  intro W base args ds gs before hval0 hW _ hwt hL _
  have hval : ∀ (j : Nat) t v, Tryd.f5.params[j]? = some t → args[j]? = some v → Value.okWide Tryd.prog W .any base t v := hval0
  have hW' := hW
  obtain ⟨p, q, hA0, hV, rfl, hfz, hnd⟩ := hW
  have hA : DataW.TrodAll enc Tryd.prog W 0 (fun _ => true) true Tryd.f5.params.toList args.toList ds p := hA0
  have hwt' : (DataW.weightsEach Tryd.prog (Tryd.f5.params.toList ++ []) (ds ++ gs)).all (· ≤ reachBytes) = true := hwt
  rw [Tryd.params5] at hA hval hwt'
  obtain ⟨v0, v1, v2, d0, d1, d2, p0, p1, p2, rfl, rfl, rfl, h0, h1, h2⟩ := trodAll_three hA
  obtain ⟨rfl, rfl⟩ := trodVars_none hV
  have hw0 : ∀ n ∈ d0.weights Tryd.prog 25, n ≤ reachBytes := fun n hn => by
    have := List.all_eq_true.1 hwt' n (by simp [DataW.weightsEach, hn])
    simpa using this
  obtain ⟨x0, hx0, hr0⟩ := book_read h0 (hval 0 25 v0 rfl rfl) hw0
  have hw1 : ∀ n ∈ d1.weights Tryd.prog 44, n ≤ reachBytes := fun n hn => by
    have := List.all_eq_true.1 hwt' n (by simp [DataW.weightsEach, hn])
    simpa using this
  obtain ⟨c1, hc1, hr1⟩ := copy_read h1 (hval 1 44 v1 rfl rfl) hw1
  obtain ⟨n2, rfl, rfl, rfl, wn2⟩ := open_int Tryd.underlying3 (hval 2 3 v2 rfl rfl) h2
  refine law_calls (s := Rows.partFitsSpec) Tryd.func5 (by kernel_rfl) hL (avs := [x0.av, c1.av, I n2]) (preps_three hr0 hr1 (.int _ _)) (fits_law x0 hx0 c1 hc1 n2) hW' rfl rfl ?_
  intro t ht
  rw [Tryd.params5] at ht
  have : t = 25 ∨ t = 44 ∨ t = 3 := by simpa using ht
  rcases this with rfl | rfl | rfl
  · exact ⟨by kernel_rfl, of_decide_eq_true (by kernel_rfl)⟩
  · exact ⟨by kernel_rfl, of_decide_eq_true (by kernel_rfl)⟩
  · exact ⟨by kernel_rfl, of_decide_eq_true (by kernel_rfl)⟩
theorem partFits_said : Rows.PartFitsSaid :=
  OpenClaim.holds_of_wide 5 Tryd.f5 rfl rfl rfl rfl rfl rfl rfl ⟨rfl, rfl, rfl, rfl, rfl⟩ rfl rfl rfl rfl rfl (by kernel_rfl) Tryd.func5 (by kernel_rfl)
    (of_decide_eq_true (by kernel_rfl)) (by unfold Func.isWrapper; first | (rw [if_pos (by decide +kernel)]; kernel_rfl) | (rw [if_neg (by decide +kernel)]; exact ⟨rfl, rfl⟩))
    (fun os started H enc _ => partFits_lifted os started H enc)
theorem partFits_holds : Rows.PartFitsCardSaid :=
  Claim7.holds_tied_plain_at .later [] [.data, .data, .funcs] true (true, "20e993f4ee19d0eefb55b6c5dbdbd2853920bb1246738ed7e532c6c0953e187f") false
    partFits_said (fun _ h => by cases h) (by kernel_rfl) (fun _ h => by cases h) partFits_row_tie rfl ⟨rfl, rfl⟩ (by kernel_rfl) rfl
    (fun f fn hf hfn => by
      obtain rfl : f = 5 := Option.some.inj ((show Tryd.prog.funcNamed "decani/decanilaw05.PartFits" = some 5 by kernel_rfl).symm.trans hf) |>.symm
      obtain rfl : fn = Tryd.f5 := (Option.some.inj (Tryd.func5.symm.trans hfn)).symm
      exact ⟨by kernel_rfl, fun j t ht => by
        rw [Tryd.params5] at ht
        have h3 : t = 25 ∨ t = 44 ∨ t = 3 := by
          have := List.mem_of_getElem? (i := j) (l := [25, 44, 3]) (by simpa using ht)
          simpa using this
        rcases h3 with rfl | rfl | rfl
        · exact (show Tryd.prog.wantsStandIn 25 = false by kernel_rfl)
        · exact (show Tryd.prog.wantsStandIn 44 = false by kernel_rfl)
        · exact (show Tryd.prog.wantsStandIn 3 = false by kernel_rfl)⟩)
    (by kernel_rfl)
#print axioms partFits_holds
end Go.Proofs.YtogfbfpinhcajaaDoor
