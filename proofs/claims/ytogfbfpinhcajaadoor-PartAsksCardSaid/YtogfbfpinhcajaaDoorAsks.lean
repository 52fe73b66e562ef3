/- This text shows the law. No conditions of its own. -/
import Derived.Test.YtogfbfpinhcajaaDoorRefC
import Derived.Test.YtogfbfpinhcajaaDoorCodesL
import Derived.Test.YtogfbfpinhcajaaDoorRead
set_option linter.unusedSimpArgs false
set_option linter.unusedVariables false
set_option maxRecDepth 100000
set_option linter.unusedSimpArgs false
set_option linter.unusedVariables false
/-! The law of First and Ask, in the interpreter. -/
namespace Go.Ai
theorem asks_law (x : PB) (hx : x.Ok) : call Cv 4 [x.av] = some (.bool true) := by
  have a1 := firstP_call x hx
  have a2 := rFirst_call x hx
  have b1 := askP_call x hx
  have b2 := rAsk_call x hx
  have hs := noted_call
  have hvc := hx.vrow.cell
  have hcc := hx.crow.cell
  have hvp := hx.vrow.pur
  have hcp := hx.crow.pur
  generalize firstR x = A at *
  generalize askR x = B at *
  obtain ⟨v, i, e⟩ := A
  obtain ⟨u, k, f⟩ := B
  simp only [PB.av, PB.cells, trip] at a1 a2 b1 b2
  rw [call_run comp4 (Nat.le_of_ble_eq_true rfl)]
  simp (maxSteps := 10000000) [-List.getD_eq_getElem?_getD, -List.all_eq_true, code4, PB.av, PB.cells, hvc, hcc, hvp, hcp, a1, a2, b1, b2, hs]
end Go.Ai

set_option maxRecDepth 100000
set_option linter.unusedSimpArgs false
set_option linter.unusedVariables false
namespace Go.Proofs.YtogfbfpinhcajaaDoor
open Go Go.Ai Go.ChangeShapes Go.WideShapes Go.ChangeAt Go.RowKit
set_option maxRecDepth 100000 in
theorem partAsks_lifted (os : Os) (started : os.Started) (H : Type) (enc : TypeId × Value → H) :
    ReturnsInHanded {} Tryd.checked os 4 .any (fun w args => (Rows.partAsksSpec.pre enc Tryd.prog Tryd.f4 [] false w args ∧ laidMetH Tryd.prog laid w) ∧ sizedMet enc Tryd.prog Tryd.f4 (OpenSpec.ofChange Rows.partAsksSpec) false w args)
      (Rows.partAsksSpec.post enc Tryd.prog Tryd.f4 false true false false) := by
  refine returnsInHanded_of_change_and (C := Tryd.checked) (X := fun w _ => laidMetH Tryd.prog laid w) (fun _ _ _ hh h => h.of_heap hh) own started (by kernel_rfl) Tryd.func4
    (ChangeSpec.witness_shaped (enc := enc) (C := Tryd.checked) (os := os) (X := fun w _ => laidMetH Tryd.prog laid w) false (World.doorLaid Tryd.prog 600 os) #[.agg #[.int .i64 0, .slice none 0 0, .int .i64 0, .int .i64 0, .int .i64 0, .slice none 0 0]] 8 rfl (World.shaped_of_RefB (by kernel_rfl) (by kernel_rfl)) (by kernel_rfl) (by kernel_rfl) (by kernel_rfl) (door_met os _)) ?_
  intro W base args ds gs before hval0 hW _ hwt hL _
  have hval : ∀ (j : Nat) t v, Tryd.f4.params[j]? = some t → args[j]? = some v → Value.okWide Tryd.prog W .any base t v := hval0
  have hW' := hW
  obtain ⟨p, q, hA0, hV, rfl, hfz, hnd⟩ := hW
  have hA : DataW.TrodAll enc Tryd.prog W 0 (fun _ => true) true Tryd.f4.params.toList args.toList ds p := hA0
  have hwt' : (DataW.weightsEach Tryd.prog (Tryd.f4.params.toList ++ []) (ds ++ gs)).all (· ≤ reachBytes) = true := hwt
  rw [Tryd.params4] at hA hval hwt'
  obtain ⟨v0, d0, rfl, rfl, h0⟩ := trodAll_one hA
  obtain ⟨rfl, rfl⟩ := trodVars_none hV
  have hw0 : ∀ n ∈ d0.weights Tryd.prog 25, n ≤ reachBytes := fun n hn => by
    have := List.all_eq_true.1 hwt' n (by simp [DataW.weightsEach, hn])
    simpa using this
  obtain ⟨x0, hx0, hr0⟩ := book_read h0 (hval 0 25 v0 rfl rfl) hw0
  refine law_calls (s := Rows.partAsksSpec) Tryd.func4 (by kernel_rfl) hL (avs := [x0.av]) (preps_one hr0) (asks_law x0 hx0) hW' rfl rfl ?_
  intro t ht
  rw [Tryd.params4] at ht
  have : t = 25 := by simpa using ht
  rcases this with rfl
  · exact ⟨by kernel_rfl, of_decide_eq_true (by kernel_rfl)⟩
theorem partAsks_said : Rows.PartAsksSaid :=
  OpenClaim.holds_of_wide 4 Tryd.f4 rfl rfl rfl rfl rfl rfl rfl ⟨rfl, rfl, rfl, rfl, rfl⟩ rfl rfl rfl rfl rfl (by kernel_rfl) Tryd.func4 (by kernel_rfl)
    (of_decide_eq_true (by kernel_rfl)) (by unfold Func.isWrapper; first | (rw [if_pos (by decide +kernel)]; kernel_rfl) | (rw [if_neg (by decide +kernel)]; exact ⟨rfl, rfl⟩))
    (fun os started H enc _ => partAsks_lifted os started H enc)
theorem partAsks_holds : Rows.PartAsksCardSaid :=
  Claim7.holds_tied_plain_at .later [] [.data, .data, .funcs] true (true, "20e993f4ee19d0eefb55b6c5dbdbd2853920bb1246738ed7e532c6c0953e187f") false
    partAsks_said (fun _ h => by cases h) (by kernel_rfl) (fun _ h => by cases h) partAsks_row_tie rfl ⟨rfl, rfl⟩ (by kernel_rfl) rfl
    (fun f fn hf hfn => by
      obtain rfl : f = 4 := Option.some.inj ((show Tryd.prog.funcNamed "decani/decanilaw05.PartAsks" = some 4 by kernel_rfl).symm.trans hf) |>.symm
      obtain rfl : fn = Tryd.f4 := (Option.some.inj (Tryd.func4.symm.trans hfn)).symm
      exact ⟨by kernel_rfl, fun j t ht => by
        rw [Tryd.params4] at ht
        have h3 : t = 25 := by
          have := List.mem_of_getElem? (i := j) (l := [25]) (by simpa using ht)
          simpa using this
        rcases h3 with rfl
        · exact (show Tryd.prog.wantsStandIn 25 = false by kernel_rfl)⟩)
    (by kernel_rfl)
#print axioms partAsks_holds
end Go.Proofs.YtogfbfpinhcajaaDoor
