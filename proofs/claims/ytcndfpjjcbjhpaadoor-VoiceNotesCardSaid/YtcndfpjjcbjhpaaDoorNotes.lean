/- This text shows the law. No conditions of its own. -/
import Derived.Test.YtcndfpjjcbjhpaaDoorSung
import Derived.Test.YtcndfpjjcbjhpaaDoorRead
set_option maxRecDepth 100000
set_option linter.unusedSimpArgs false
set_option linter.unusedVariables false
namespace Go.Ai
theorem notes_call (x : Book) (hx : x.Ok) (n0 n1 : Int) : call Cv 3 [x.av, .agg [I n0, I n1]] = some (.bool true) := by
  have c1 := Right_call x hx
  have c2 := rRightB_call x hx
  have c3 := check_call x hx
  have c4 := rCheck_call x hx
  have c5 := Lowest_call x hx n0
  have c6 := rLowest_call x hx n0
  have c7 := Breaks_call x hx n0
  have c8 := rBreaks_call x hx n0
  have c9 := Highest_call x hx n0 n1
  have c10 := rHighest_call x hx n0 n1
  have hs := sung_call
  have hk : ∀ k, ∃ a b e, knownR x n0 k = .tup [.agg [I a, I b], I e] := fun k => ⟨_, _, _, rfl⟩
  obtain ⟨a0, b0, e0, h0⟩ := hk 0
  obtain ⟨a4, b4, e4, h4⟩ := hk 4
  rw [h0] at c5 c6
  rw [h4] at c7 c8
  simp only [Span.av] at c9 c10
  generalize (highS x n0 n1).low = a9 at *
  generalize (highS x n0 n1).high = b9 at *
  generalize highE x n0 n1 = e9 at *
  generalize (if checkOk x = true then (0 : Int) else 20) = e1 at *
  generalize (checkOk x && fine x []) = f1 at *
  simp only [Book.av, Book.cells] at c1 c2 c3 c4 c5 c6 c7 c8 c9 c10
  rw [call_def comp3]
  simp (maxSteps := 10000000) [code3, Book.av, Book.cells, c1, c2, c3, c4, c5, c6, c7, c8, c9, c10, hs, eqCells]
end Go.Ai

set_option maxRecDepth 100000
set_option linter.unusedSimpArgs false
set_option linter.unusedVariables false
namespace Go.Proofs.YtcndfpjjcbjhpaaDoor
open Go Go.Ai Go.ChangeShapes Go.WideShapes Go.ChangeAt Go.RowKit
set_option maxRecDepth 100000 in
theorem notes_lifted (os : Os) (started : os.Started) (H : Type) (enc : TypeId × Value → H) :
    ReturnsInHanded {} Tryd.checked os 3 .any (fun w args => (Rows.voiceNotesSpec.pre enc Tryd.prog Tryd.f3 [] false w args ∧ laidMetH Tryd.prog laid w) ∧ sizedMet enc Tryd.prog Tryd.f3 (OpenSpec.ofChange Rows.voiceNotesSpec) false w args)
      (Rows.voiceNotesSpec.post enc Tryd.prog Tryd.f3 false true false false) := by
  refine returnsInHanded_of_change_and (C := Tryd.checked) (X := fun w _ => laidMetH Tryd.prog laid w) (fun _ _ _ hh h => h.of_heap hh) own started (by kernel_rfl) Tryd.func3
    (ChangeSpec.witness_shaped (enc := enc) (C := Tryd.checked) (os := os) (X := fun w _ => laidMetH Tryd.prog laid w) false (World.doorLaid Tryd.prog 600 os) #[.agg #[.slice none 0 0, .int .i64 0, .slice none 0 0], .agg #[.int .i64 0, .int .i64 0]] 8 rfl (World.shaped_of_RefB (by kernel_rfl) (by kernel_rfl)) (by kernel_rfl) (by kernel_rfl) (by kernel_rfl) (door_met os _)) ?_
  intro W base args ds gs before hval0 hW _ hwt hL _
  have hval : ∀ (j : Nat) t v, Tryd.f3.params[j]? = some t → args[j]? = some v → Value.okWide Tryd.prog W .any base t v := hval0
  have hW' := hW
  obtain ⟨p, q, hA0, hV, rfl, hfz, hnd⟩ := hW
  have hA : DataW.TrodAll enc Tryd.prog W 0 (fun _ => true) true Tryd.f3.params.toList args.toList ds p := hA0
  have hwt' : (DataW.weightsEach Tryd.prog (Tryd.f3.params.toList ++ []) (ds ++ gs)).all (· ≤ reachBytes) = true := hwt
  rw [Tryd.params3] at hA hval hwt'
  obtain ⟨v0, v1, d0, d1, p0, p1, rfl, rfl, rfl, h0, h1⟩ := trodAll_two hA
  obtain ⟨rfl, rfl⟩ := trodVars_none hV
  have hw0 : ∀ n ∈ d0.weights Tryd.prog 25, n ≤ reachBytes := fun n hn => by
    have := List.all_eq_true.1 hwt' n (by simp [DataW.weightsEach, hn])
    simpa using this
  obtain ⟨x, hx, hxr⟩ := book_read h0 (hval 0 25 v0 rfl rfl) hw0
  obtain ⟨ns, hn1, hn2⟩ := flat_arg (k := 3) (t := 26) (by kernel_rfl) (by rw [Tryd.underlying26]) h1 (hval 1 26 v1 rfl rfl) (fun g _ => g < W.heap.size) (fun k => k < W.heap.size)
  have c26 : Tryd.prog.cellsOf 26 = 2 := by kernel_rfl
  rw [c26] at hn1
  match ns, hn1 with
  | [n0, n1], _ =>
    refine law_calls (s := Rows.voiceNotesSpec) Tryd.func3 (by kernel_rfl) hL (avs := [x.av, .agg [I n0, I n1]]) (preps_two hxr hn2) (notes_call x hx n0 n1) hW' rfl rfl ?_
    intro t ht
    rw [Tryd.params3] at ht
    have : t = 25 ∨ t = 26 := by simpa using ht
    rcases this with rfl | rfl
    · exact ⟨by kernel_rfl, of_decide_eq_true (by kernel_rfl)⟩
    · exact ⟨by kernel_rfl, of_decide_eq_true (by kernel_rfl)⟩
theorem voiceNotes_said : Rows.VoiceNotesSaid :=
  OpenClaim.holds_of_wide 3 Tryd.f3 rfl rfl rfl rfl rfl rfl rfl ⟨rfl, rfl, rfl, rfl, rfl⟩ rfl rfl rfl rfl rfl (by kernel_rfl) Tryd.func3 (by kernel_rfl)
    (of_decide_eq_true (by kernel_rfl)) (by unfold Func.isWrapper; first | (rw [if_pos (by decide +kernel)]; kernel_rfl) | (rw [if_neg (by decide +kernel)]; exact ⟨rfl, rfl⟩))
    (fun os started H enc _ => notes_lifted os started H enc)
theorem voiceNotes_holds : Rows.VoiceNotesCardSaid :=
  Claim7.holds_tied_plain_at .later [] [.data, .data, .funcs] true (true, "1e5482e6438b7438447fbe050c412561ef72fba1c8721653ddbd33e0eb5cfe62") false
    voiceNotes_said (fun _ h => by cases h) (by kernel_rfl) (fun _ h => by cases h) voiceNotes_row_tie rfl ⟨rfl, rfl⟩ (by kernel_rfl) rfl
    (fun f fn hf hfn => by
      obtain rfl : f = 3 := Option.some.inj ((show Tryd.prog.funcNamed "decani/decanilaw02.VoiceNotes" = some 3 by kernel_rfl).symm.trans hf) |>.symm
      obtain rfl : fn = Tryd.f3 := (Option.some.inj (Tryd.func3.symm.trans hfn)).symm
      exact ⟨by kernel_rfl, fun j t ht => by
        rw [Tryd.params3] at ht
        have h3 : t = 25 ∨ t = 26 := by
          rcases j with _ | _ | j
          · left; simpa using ht.symm
          · right; simpa using ht.symm
          · simp at ht
        rcases h3 with rfl | rfl
        · exact (show Tryd.prog.wantsStandIn 25 = false by kernel_rfl)
        · exact (show Tryd.prog.wantsStandIn 26 = false by kernel_rfl)⟩)
    (by kernel_rfl)
#print axioms voiceNotes_holds
end Go.Proofs.YtcndfpjjcbjhpaaDoor
