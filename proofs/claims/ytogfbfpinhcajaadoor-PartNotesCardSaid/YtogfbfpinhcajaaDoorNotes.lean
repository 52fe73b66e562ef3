/- This text shows the law. No conditions of its own. -/
import Derived.Test.YtogfbfpinhcajaaDoorRefB
import Derived.Test.YtogfbfpinhcajaaDoorCodesL
import Derived.Test.YtogfbfpinhcajaaDoorRead
set_option linter.unusedSimpArgs false
set_option linter.unusedVariables false
set_option maxRecDepth 100000
set_option linter.unusedSimpArgs false
set_option linter.unusedVariables false
/-! The law of Notes, in the interpreter. -/
namespace Go.Ai
open Go.Part (Sp Cp Bk truths cnt at' vals)
theorem eq_row {l : List Int} {r s : AV} (hr : IsRow 1 (ints l) r) (hs : IsRow 1 (ints l) s) (hl : l.length < 100) : call Cv 23 [r, s] = some (.bool true) := by
  rw [equal_call l l r s hr hs (by omega) (by omega)]; simp
theorem lineR_len (x : PB) (v : Int) : (lineR x v).1.length ≤ 3 := by
  unfold lineR
  split
  · rename_i he
    have hk := chk_of (ansE_zero he).1
    have hN := hk.N
    split
    · rename_i l hl
      unfold lineOf at hl
      split at hl
      · cases hl
      · split at hl
        · simp only [Option.some.injEq] at hl
          rw [← hl, List.length_map, List.length_range']; omega
        · cases hl
    · simp
  · simp
theorem posR_len (C : List Int) : ∀ (l : List Int) (k : Nat), (posL C k l).length ≤ l.length
  | [], _ => Nat.le_refl _
  | c :: l, k => by
    have := posR_len C l (k + 1)
    rw [posL, List.length_append, List.length_cons]
    split <;> simp <;> omega
theorem notesR_len (x : PB) (v i : Int) : (if ansE x (isPlace x v i) = 0 then posOf (Ts x noneF) (v.toNat * x.N.toNat + i.toNat) else []).length ≤ 13 := by
  split
  · have := posR_len (cntsL (Ts x noneF) (v.toNat * x.N.toNat + i.toNat)) (cntsL (Ts x noneF) (v.toNat * x.N.toNat + i.toNat)) 0
    rw [posOf]
    simpa [cntsL] using this
  · simp
set_option maxHeartbeats 4000000 in
theorem notes_law (x : PB) (hx : x.Ok) (n0 n1 : Int) : call Cv 3 [x.av, .agg [I n0, I n1]] = some (.bool true) := by
  have a1 := rightP_call x hx
  have a2 := rRight_call x hx
  have b1 := check_call x hx
  have b2 := rCheck_call x hx
  have c1 := ways_call x hx
  have c2 := rWays_call x hx
  have d1 := notesP_call x hx n0 n1
  obtain ⟨r2, hr2, d2⟩ := rNotes_call x hx n0 n1
  have hl1 := notesR_len x n0 n1
  have e1 := lineP_call x hx n0
  obtain ⟨s2, hs2, e2⟩ := rLine_call x hx n0
  have hl2 := lineR_len x n0
  have q1 := eq_row (rowF_row _) hr2 (by omega)
  have q2 := eq_row (rowF_row _) hs2 (by omega)
  have hs := noted_call
  have p1 := fun σ n => rowF_pur σ n (if ansE x (isPlace x n0 n1) = 0 then posOf (Ts x noneF) (n0.toNat * x.N.toNat + n1.toNat) else [])
  have p2 := hr2.pur
  have p3 := fun σ n => rowF_pur σ n (lineR x n0).1
  have p4 := hs2.pur
  have hvc := hx.vrow.cell
  have hcc := hx.crow.cell
  have hvp := hx.vrow.pur
  have hcp := hx.crow.pur
  generalize rowF (if ansE x (isPlace x n0 n1) = 0 then posOf (Ts x noneF) (n0.toNat * x.N.toNat + n1.toNat) else []) = R1 at *
  generalize rowF (lineR x n0).1 = R2 at *
  generalize ansE x (isPlace x n0 n1) = E1 at *
  generalize (lineR x n0).2 = E2 at *
  generalize (checkOk x && decide (Ts x noneF ≠ [])) = B1 at *
  generalize (if checkOk x then (0 : Int) else 50) = E3 at *
  generalize (if checkOk x then ((Ts x noneF).length : Int) else 0) = W at *
  simp only [PB.av, PB.cells] at a1 a2 b1 b2 c1 c2 d1 d2 e1 e2
  rw [call_run comp3 (Nat.le_of_ble_eq_true rfl)]
  simp (maxSteps := 10000000) [-List.getD_eq_getElem?_getD, -List.all_eq_true, code3, PB.av, PB.cells, hvc, hcc, hvp, hcp, a1, a2, b1, b2, c1, c2, d1, d2, e1, e2, q1, q2, hs, p1, p2, p3, p4]
end Go.Ai

set_option maxRecDepth 100000
set_option linter.unusedSimpArgs false
set_option linter.unusedVariables false
namespace Go.Proofs.YtogfbfpinhcajaaDoor
open Go Go.Ai Go.ChangeShapes Go.WideShapes Go.ChangeAt Go.RowKit
set_option maxRecDepth 100000 in
theorem partNotes_lifted (os : Os) (started : os.Started) (H : Type) (enc : TypeId × Value → H) :
    ReturnsInHanded {} Tryd.checked os 3 .any (fun w args => (Rows.partNotesSpec.pre enc Tryd.prog Tryd.f3 [] false w args ∧ laidMetH Tryd.prog laid w) ∧ sizedMet enc Tryd.prog Tryd.f3 (OpenSpec.ofChange Rows.partNotesSpec) false w args)
      (Rows.partNotesSpec.post enc Tryd.prog Tryd.f3 false true false false) := by
  refine returnsInHanded_of_change_and (C := Tryd.checked) (X := fun w _ => laidMetH Tryd.prog laid w) (fun _ _ _ hh h => h.of_heap hh) own started (by kernel_rfl) Tryd.func3
    (ChangeSpec.witness_shaped (enc := enc) (C := Tryd.checked) (os := os) (X := fun w _ => laidMetH Tryd.prog laid w) false (World.doorLaid Tryd.prog 600 os) #[.agg #[.int .i64 0, .slice none 0 0, .int .i64 0, .int .i64 0, .int .i64 0, .slice none 0 0], .agg #[.int .i64 0, .int .i64 0]] 8 rfl (World.shaped_of_RefB (by kernel_rfl) (by kernel_rfl)) (by kernel_rfl) (by kernel_rfl) (by kernel_rfl) (door_met os _)) ?_
  intro W base args ds gs before hval0 hW _ hwt hL _
  have hval : ∀ (j : Nat) t v, Tryd.f3.params[j]? = some t → args[j]? = some v → Value.okWide Tryd.prog W .any base t v := hval0
  have hW' := hW
  obtain ⟨p, q, hA0, hV, rfl, hfz, hnd⟩ := hW
  have hA : DataW.TrodAll enc Tryd.prog W 0 (fun _ => true) true Tryd.f3.params.toList args.toList ds p := hA0
  have hwt' : (DataW.weightsEach Tryd.prog (Tryd.f3.params.toList ++ []) (ds ++ gs)).all (· ≤ reachBytes) = true := hwt
  rw [Tryd.params3] at hA hval hwt'
  obtain ⟨v0, v1, d0, d1, p0, p1, rfl, rfl, rfl, h0, h1⟩ := trodAll_two hA
  obtain ⟨rfl, rfl⟩ := trodVars_none hV
  have hw0 : ∀ n ∈ d0.weights Tryd.prog 25, n ≤ reachBytes := fun n hn => by
    have := List.all_eq_true.1 hwt' n (by simp [DataW.weightsEach, hn])
    simpa using this
  obtain ⟨x0, hx0, hr0⟩ := book_read h0 (hval 0 25 v0 rfl rfl) hw0
  have hw1 : ∀ n ∈ d1.weights Tryd.prog 26, n ≤ reachBytes := fun n hn => by
    have := List.all_eq_true.1 hwt' n (by simp [DataW.weightsEach, hn])
    simpa using this
  obtain ⟨a1, b1, hr1⟩ := two_read h1 (hval 1 26 v1 rfl rfl) hw1
  refine law_calls (s := Rows.partNotesSpec) Tryd.func3 (by kernel_rfl) hL (avs := [x0.av, .agg [I a1, I b1]]) (preps_two hr0 hr1) (notes_law x0 hx0 a1 b1) hW' rfl rfl ?_
  intro t ht
  rw [Tryd.params3] at ht
  have : t = 25 ∨ t = 26 := by simpa using ht
  rcases this with rfl | rfl
  · exact ⟨by kernel_rfl, of_decide_eq_true (by kernel_rfl)⟩
  · exact ⟨by kernel_rfl, of_decide_eq_true (by kernel_rfl)⟩
theorem partNotes_said : Rows.PartNotesSaid :=
  OpenClaim.holds_of_wide 3 Tryd.f3 rfl rfl rfl rfl rfl rfl rfl ⟨rfl, rfl, rfl, rfl, rfl⟩ rfl rfl rfl rfl rfl (by kernel_rfl) Tryd.func3 (by kernel_rfl)
    (of_decide_eq_true (by kernel_rfl)) (by unfold Func.isWrapper; first | (rw [if_pos (by decide +kernel)]; kernel_rfl) | (rw [if_neg (by decide +kernel)]; exact ⟨rfl, rfl⟩))
    (fun os started H enc _ => partNotes_lifted os started H enc)
theorem partNotes_holds : Rows.PartNotesCardSaid :=
  Claim7.holds_tied_plain_at .later [] [.data, .data, .funcs] true (true, "20e993f4ee19d0eefb55b6c5dbdbd2853920bb1246738ed7e532c6c0953e187f") false
    partNotes_said (fun _ h => by cases h) (by kernel_rfl) (fun _ h => by cases h) partNotes_row_tie rfl ⟨rfl, rfl⟩ (by kernel_rfl) rfl
    (fun f fn hf hfn => by
      obtain rfl : f = 3 := Option.some.inj ((show Tryd.prog.funcNamed "decani/decanilaw05.PartNotes" = some 3 by kernel_rfl).symm.trans hf) |>.symm
      obtain rfl : fn = Tryd.f3 := (Option.some.inj (Tryd.func3.symm.trans hfn)).symm
      exact ⟨by kernel_rfl, fun j t ht => by
        rw [Tryd.params3] at ht
        have h3 : t = 25 ∨ t = 26 := by
          have := List.mem_of_getElem? (i := j) (l := [25, 26]) (by simpa using ht)
          simpa using this
        rcases h3 with rfl | rfl
        · exact (show Tryd.prog.wantsStandIn 25 = false by kernel_rfl)
        · exact (show Tryd.prog.wantsStandIn 26 = false by kernel_rfl)⟩)
    (by kernel_rfl)
#print axioms partNotes_holds
end Go.Proofs.YtogfbfpinhcajaaDoor
