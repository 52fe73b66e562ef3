/- This text shows the law. No conditions of its own. -/
import Derived.Test.YtcndfpjjcbjhpaaDoorRefB
import Derived.Test.YtcndfpjjcbjhpaaDoorRead
set_option maxRecDepth 100000
set_option linter.unusedSimpArgs false
set_option linter.unusedVariables false
namespace Go.Ai
theorem sings_law (x : Book) (hx : x.Ok) (n0 n1 n2 : Int) (s : Span) : call Cv 4 [x.av, .agg [I n0, I n1, I n2], s.av] = some (.bool true) := by
  have c1 := Sings_call x hx n0 n1 n2
  have c2 := rSings_call x hx n0 n1 n2
  have c3 := Surely_call x hx n1 n2
  obtain ⟨y, hy, c4⟩ := rSurely_call x hx n1 n2
  have c5 := Must_call x hx n1
  obtain ⟨z, hz, c6⟩ := rMust_call x hx n1
  have c7 := Heir_call x hx n0 n1 s
  have c8 := rHeir_call x hx n0 n1 s
  have hs := sung_call
  have short : ∀ (c : Prop) [Decidable c] (p : Nat → Bool), checkOk x = false ∨ True → (if c then sel p 0 x.boys.length else []).length < 2 ^ 47 := fun c _ p _ => by
    have := sel_len p x.boys.length 0
    have hb := hx.blen
    split
    · omega
    · simp
  have r1 : IsRow 1 (ints (if askE x (isWeekB x n1 && isNoteB n2) = 0 then sel (surelyP x n1 n2) 0 x.boys.length else [])) (if askE x (isWeekB x n1 && isNoteB n2) = 0 then fullV (sel (surelyP x n1 n2) 0 x.boys.length) else .nils) := by
    split
    · exact fullV_row _
    · exact .inl ⟨rfl, rfl⟩
  have r2 : IsRow 1 (ints (if askE x (isWeekB x n1) = 0 then sel (brokenP x n1) 0 x.boys.length else [])) (if askE x (isWeekB x n1) = 0 then fullV (sel (brokenP x n1) 0 x.boys.length) else .nils) := by
    split
    · exact fullV_row _
    · exact .inl ⟨rfl, rfl⟩
  have d1 := equal_call _ _ _ _ r1 hy (short _ _ (.inr trivial)) (short _ _ (.inr trivial))
  have d2 := equal_call _ _ _ _ r2 hz (short _ _ (.inr trivial)) (short _ _ (.inr trivial))
  have p1 := r1.pur
  have p2 := r2.pur
  have p3 := hy.pur
  have p4 := hz.pur
  simp only [decide_true] at d1 d2
  generalize (if askE x (isWeekB x n1 && isNoteB n2) = 0 then fullV (sel (surelyP x n1 n2) 0 x.boys.length) else AV.nils) = u at *
  generalize (if askE x (isWeekB x n1) = 0 then fullV (sel (brokenP x n1) 0 x.boys.length) else AV.nils) = t at *
  generalize askE x (isWeekB x n1 && isNoteB n2) = e1 at *
  generalize askE x (isWeekB x n1) = e2 at *
  generalize (if askE x (isBoyB x n0 && isWeekB x n1 && isNoteB n2) = 0 then singsN x n0 n1 n2 else 0) = a1 at *
  generalize askE x (isBoyB x n0 && isWeekB x n1 && isNoteB n2) = a2 at *
  generalize heirV x n0 n1 s = a3 at *
  generalize heirE x n0 n1 s = a4 at *
  simp only [Book.av, Book.cells, Span.av] at c1 c2 c3 c4 c5 c6 c7 c8
  rw [call_def comp4]
  simp (maxSteps := 10000000) [code4, Book.av, Book.cells, Span.av, c1, c2, c3, c4, c5, c6, c7, c8, hs, d1, d2, p1, p2, p3, p4]
end Go.Ai

set_option maxRecDepth 100000
set_option linter.unusedSimpArgs false
set_option linter.unusedVariables false
namespace Go.Proofs.YtcndfpjjcbjhpaaDoor
open Go Go.Ai Go.ChangeShapes Go.WideShapes Go.ChangeAt Go.RowKit
set_option maxRecDepth 100000 in
theorem voiceSings_lifted (os : Os) (started : os.Started) (H : Type) (enc : TypeId × Value → H) :
    ReturnsInHanded {} Tryd.checked os 4 .any (fun w args => (Rows.voiceSingsSpec.pre enc Tryd.prog Tryd.f4 [] false w args ∧ laidMetH Tryd.prog laid w) ∧ sizedMet enc Tryd.prog Tryd.f4 (OpenSpec.ofChange Rows.voiceSingsSpec) false w args)
      (Rows.voiceSingsSpec.post enc Tryd.prog Tryd.f4 false true false false) := by
  refine returnsInHanded_of_change_and (C := Tryd.checked) (X := fun w _ => laidMetH Tryd.prog laid w) (fun _ _ _ hh h => h.of_heap hh) own started (by kernel_rfl) Tryd.func4
    (ChangeSpec.witness_shaped (enc := enc) (C := Tryd.checked) (os := os) (X := fun w _ => laidMetH Tryd.prog laid w) false (World.doorLaid Tryd.prog 600 os) #[.agg #[.slice none 0 0, .int .i64 0, .slice none 0 0], .agg #[.int .i64 0, .int .i64 0, .int .i64 0], .agg #[.int .i64 0, .int .i64 0]] 8 rfl (World.shaped_of_RefB (by kernel_rfl) (by kernel_rfl)) (by kernel_rfl) (by kernel_rfl) (by kernel_rfl) (door_met os _)) ?_
  intro W base args ds gs before hval0 hW _ hwt hL _
  have hval : ∀ (j : Nat) t v, Tryd.f4.params[j]? = some t → args[j]? = some v → Value.okWide Tryd.prog W .any base t v := hval0
  have hW' := hW
  obtain ⟨p, q, hA0, hV, rfl, hfz, hnd⟩ := hW
  have hA : DataW.TrodAll enc Tryd.prog W 0 (fun _ => true) true Tryd.f4.params.toList args.toList ds p := hA0
  have hwt' : (DataW.weightsEach Tryd.prog (Tryd.f4.params.toList ++ []) (ds ++ gs)).all (· ≤ reachBytes) = true := hwt
  rw [Tryd.params4] at hA hval hwt'
  obtain ⟨v0, v1, v2, d0, d1, d2, p0, p1, p2, rfl, rfl, rfl, h0, h1, h2⟩ := trodAll_three hA
  obtain ⟨rfl, rfl⟩ := trodVars_none hV
  have hw0 : ∀ n ∈ d0.weights Tryd.prog 25, n ≤ reachBytes := fun n hn => by
    have := List.all_eq_true.1 hwt' n (by simp [DataW.weightsEach, hn])
    simpa using this
  obtain ⟨x, hx, hxr⟩ := book_read h0 (hval 0 25 v0 rfl rfl) hw0
  obtain ⟨ns1, hn1, hr1⟩ := flat_arg (k := 4) (t := 38) (by kernel_rfl) (by rw [Tryd.underlying38]) h1 (hval 1 38 v1 rfl rfl) (fun g _ => g < W.heap.size) (fun k => k < W.heap.size)
  have cc1 : Tryd.prog.cellsOf 38 = 3 := by kernel_rfl
  rw [cc1] at hn1
  obtain ⟨ns2, hn2, hr2⟩ := flat_arg (k := 4) (t := 32) (by kernel_rfl) (by rw [Tryd.underlying32]) h2 (hval 2 32 v2 rfl rfl) (fun g _ => g < W.heap.size) (fun k => k < W.heap.size)
  have cc2 : Tryd.prog.cellsOf 32 = 2 := by kernel_rfl
  rw [cc2] at hn2
  match ns1, hn1, ns2, hn2 with
  | [n1a, n1b, n1c], _, [n2a, n2b], _ =>
    refine law_calls (s := Rows.voiceSingsSpec) Tryd.func4 (by kernel_rfl) hL (avs := [x.av, .agg [I n1a, I n1b, I n1c], .agg [I n2a, I n2b]]) (preps_three hxr hr1 hr2) (sings_law x hx n1a n1b n1c ⟨n2a, n2b⟩) hW' rfl rfl ?_
    intro t ht
    rw [Tryd.params4] at ht
    have : t = 25 ∨ t = 38 ∨ t = 32 := by simpa using ht
    rcases this with rfl | rfl | rfl
    · exact ⟨by kernel_rfl, of_decide_eq_true (by kernel_rfl)⟩
    · exact ⟨by kernel_rfl, of_decide_eq_true (by kernel_rfl)⟩
    · exact ⟨by kernel_rfl, of_decide_eq_true (by kernel_rfl)⟩
theorem voiceSings_said : Rows.VoiceSingsSaid :=
  OpenClaim.holds_of_wide 4 Tryd.f4 rfl rfl rfl rfl rfl rfl rfl ⟨rfl, rfl, rfl, rfl, rfl⟩ rfl rfl rfl rfl rfl (by kernel_rfl) Tryd.func4 (by kernel_rfl)
    (of_decide_eq_true (by kernel_rfl)) (by unfold Func.isWrapper; first | (rw [if_pos (by decide +kernel)]; kernel_rfl) | (rw [if_neg (by decide +kernel)]; exact ⟨rfl, rfl⟩))
    (fun os started H enc _ => voiceSings_lifted os started H enc)
theorem voiceSings_holds : Rows.VoiceSingsCardSaid :=
  Claim7.holds_tied_plain_at .later [] [.data, .data, .funcs] true (true, "1e5482e6438b7438447fbe050c412561ef72fba1c8721653ddbd33e0eb5cfe62") false
    voiceSings_said (fun _ h => by cases h) (by kernel_rfl) (fun _ h => by cases h) voiceSings_row_tie rfl ⟨rfl, rfl⟩ (by kernel_rfl) rfl
    (fun f fn hf hfn => by
      obtain rfl : f = 4 := Option.some.inj ((show Tryd.prog.funcNamed "decani/decanilaw02.VoiceSings" = some 4 by kernel_rfl).symm.trans hf) |>.symm
      obtain rfl : fn = Tryd.f4 := (Option.some.inj (Tryd.func4.symm.trans hfn)).symm
      exact ⟨by kernel_rfl, fun j t ht => by
        rw [Tryd.params4] at ht
        have h3 : t = 25 ∨ t = 38 ∨ t = 32 := by
          have := List.mem_of_getElem? (i := j) (l := [25, 38, 32]) (by simpa using ht)
          simpa using this
        rcases h3 with rfl | rfl | rfl
        · exact (show Tryd.prog.wantsStandIn 25 = false by kernel_rfl)
        · exact (show Tryd.prog.wantsStandIn 38 = false by kernel_rfl)
        · exact (show Tryd.prog.wantsStandIn 32 = false by kernel_rfl)⟩)
    (by kernel_rfl)
#print axioms voiceSings_holds
end Go.Proofs.YtcndfpjjcbjhpaaDoor
