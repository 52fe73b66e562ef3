/- This text shows the law. No conditions of its own. -/
import Derived.Test.YtcndfpjjcbjhpaaDoorRead
import Derived.Test.YtcndfpjjcbjhpaaDoorLaws
set_option linter.unusedSimpArgs false
set_option linter.unusedVariables false
set_option maxRecDepth 100000
set_option linter.unusedSimpArgs false
set_option linter.unusedVariables false
namespace Go.Proofs.YtcndfpjjcbjhpaaDoor
open Go Go.Ai Go.ChangeShapes Go.WideShapes Go.ChangeAt Go.RowKit
set_option maxRecDepth 100000 in
theorem voiceGains_lifted (os : Os) (started : os.Started) (H : Type) (enc : TypeId × Value → H) :
    ReturnsInHanded {} Tryd.checked os 12 .any (fun w args => (Rows.voiceGainsSpec.pre enc Tryd.prog Tryd.f12 [] false w args ∧ laidMetH Tryd.prog laid w) ∧ sizedMet enc Tryd.prog Tryd.f12 (OpenSpec.ofChange Rows.voiceGainsSpec) false w args)
      (Rows.voiceGainsSpec.post enc Tryd.prog Tryd.f12 false true false false) := by
  refine returnsInHanded_of_change_and (C := Tryd.checked) (X := fun w _ => laidMetH Tryd.prog laid w) (fun _ _ _ hh h => h.of_heap hh) own started (by kernel_rfl) Tryd.func12
    (ChangeSpec.witness_shaped (enc := enc) (C := Tryd.checked) (os := os) (X := fun w _ => laidMetH Tryd.prog laid w) false (World.doorLaid Tryd.prog 600 os) #[.agg #[.slice none 0 0, .int .i64 0, .slice none 0 0], .agg #[.int .i64 0, .int .i64 0, .int .i64 0, .int .i64 0]] 8 rfl (World.shaped_of_RefB (by kernel_rfl) (by kernel_rfl)) (by kernel_rfl) (by kernel_rfl) (by kernel_rfl) (door_met os _)) ?_
  intro W base args ds gs before hval0 hW _ hwt hL _
  have hval : ∀ (j : Nat) t v, Tryd.f12.params[j]? = some t → args[j]? = some v → Value.okWide Tryd.prog W .any base t v := hval0
  have hW' := hW
  obtain ⟨p, q, hA0, hV, rfl, hfz, hnd⟩ := hW
  have hA : DataW.TrodAll enc Tryd.prog W 0 (fun _ => true) true Tryd.f12.params.toList args.toList ds p := hA0
  have hwt' : (DataW.weightsEach Tryd.prog (Tryd.f12.params.toList ++ []) (ds ++ gs)).all (· ≤ reachBytes) = true := hwt
  rw [Tryd.params12] at hA hval hwt'
  obtain ⟨v0, v1, d0, d1, p0, p1, rfl, rfl, rfl, h0, h1⟩ := trodAll_two hA
  obtain ⟨rfl, rfl⟩ := trodVars_none hV
  have hw0 : ∀ n ∈ d0.weights Tryd.prog 25, n ≤ reachBytes := fun n hn => by
    have := List.all_eq_true.1 hwt' n (by simp [DataW.weightsEach, hn])
    simpa using this
  obtain ⟨x, hx, hxr⟩ := book_read h0 (hval 0 25 v0 rfl rfl) hw0
  obtain ⟨ns1, hn1, hr1⟩ := flat_arg (k := 4) (t := 73) (by kernel_rfl) (by rw [Tryd.underlying73]) h1 (hval 1 73 v1 rfl rfl) (fun g _ => g < W.heap.size) (fun k => k < W.heap.size)
  have cc1 : Tryd.prog.cellsOf 73 = 4 := by kernel_rfl
  rw [cc1] at hn1
  match ns1, hn1 with
  | [n1a, n1b, n1c, n1d], _ =>
    refine law_calls (s := Rows.voiceGainsSpec) Tryd.func12 (by kernel_rfl) hL (avs := [x.av, .agg [I n1a, I n1b, I n1c, I n1d]]) (preps_two hxr hr1) (gains_law x hx n1a n1b n1c n1d) hW' rfl rfl ?_
    intro t ht
    rw [Tryd.params12] at ht
    have : t = 25 ∨ t = 73 := by simpa using ht
    rcases this with rfl | rfl
    · exact ⟨by kernel_rfl, of_decide_eq_true (by kernel_rfl)⟩
    · exact ⟨by kernel_rfl, of_decide_eq_true (by kernel_rfl)⟩
theorem voiceGains_said : Rows.VoiceGainsSaid :=
  OpenClaim.holds_of_wide 12 Tryd.f12 rfl rfl rfl rfl rfl rfl rfl ⟨rfl, rfl, rfl, rfl, rfl⟩ rfl rfl rfl rfl rfl (by kernel_rfl) Tryd.func12 (by kernel_rfl)
    (of_decide_eq_true (by kernel_rfl)) (by unfold Func.isWrapper; first | (rw [if_pos (by decide +kernel)]; kernel_rfl) | (rw [if_neg (by decide +kernel)]; exact ⟨rfl, rfl⟩))
    (fun os started H enc _ => voiceGains_lifted os started H enc)
theorem voiceGains_holds : Rows.VoiceGainsCardSaid :=
  Claim7.holds_tied_plain_at .later [] [.data, .data, .funcs] true (true, "1e5482e6438b7438447fbe050c412561ef72fba1c8721653ddbd33e0eb5cfe62") false
    voiceGains_said (fun _ h => by cases h) (by kernel_rfl) (fun _ h => by cases h) voiceGains_row_tie rfl ⟨rfl, rfl⟩ (by kernel_rfl) rfl
    (fun f fn hf hfn => by
      obtain rfl : f = 12 := Option.some.inj ((show Tryd.prog.funcNamed "decani/decanilaw02.VoiceGains" = some 12 by kernel_rfl).symm.trans hf) |>.symm
      obtain rfl : fn = Tryd.f12 := (Option.some.inj (Tryd.func12.symm.trans hfn)).symm
      exact ⟨by kernel_rfl, fun j t ht => by
        rw [Tryd.params12] at ht
        have h3 : t = 25 ∨ t = 73 := by
          have := List.mem_of_getElem? (i := j) (l := [25, 73]) (by simpa using ht)
          simpa using this
        rcases h3 with rfl | rfl
        · exact (show Tryd.prog.wantsStandIn 25 = false by kernel_rfl)
        · exact (show Tryd.prog.wantsStandIn 73 = false by kernel_rfl)⟩)
    (by kernel_rfl)
#print axioms voiceGains_holds
end Go.Proofs.YtcndfpjjcbjhpaaDoor
