/- This text shows the statement about pitches, in the interpreter. No conditions of its own. -/
import Derived.Test.YtbjdaefdifofkaaDoorRefB
import Derived.Test.YtbjdaefdifofkaaDoorCodesL3
set_option linter.unusedSimpArgs false
set_option linter.unusedVariables false
set_option maxRecDepth 100000
namespace Go.Ai
open Go.Organ (T4 F3 Tb T6 upd flat loF hiF loS hiS shL shH kept)
theorem two_is (x : OB) (is : Bool) (i k : Nat) : ∃ a b : Int, twoV x is i k = .agg [I a, I b] := by
  unfold twoV; split <;> exact ⟨_, _, rfl⟩
theorem sharp_is (x : OB) : ∃ a b : Int, sharpV x = .agg [I a, I b] := by
  unfold sharpV; split <;> exact ⟨_, _, rfl⟩
set_option maxHeartbeats 1000000 in
theorem pitches_law (x : OB) (hx : x.Ok) (n0 n1 : Int) : call Cv 3 [x.av, .agg [I n0, I n1]] = some (.bool true) := by
  have hs := tuned_call
  have hcl := xcells_cell x hx
  have hp := av_pur x hx
  have hbox : boxA {} x.av = some (.box 0 0, { boxes := [x.cells] }) := by
    simp only [boxA, OB.av, AV.cells, hcl, if_true]; rfl
  have hbox2 : boxA { boxes := [x.cells] } (.agg [I n0, I n1]) = some (.box 1 0, { boxes := [x.cells, [I n0, I n1]] }) := rfl
  have l6 : ∀ B, loadA { boxes := x.cells :: B } (some 6) (.box 0 0) = some x.av := fun _ => rfl
  have a1 := Right_call x hx
  have a2 := rRight08_call x hx
  have a3 := check_call x hx
  have a4 := rCheck18_call x hx
  have a5 := Pitch_call x hx n0
  have a6 := rPitch_call x hx n0
  have a7 := Apart_call x hx n0 n1
  have a8 := rApart_call x hx n0 n1
  have a9 := Sharp_call x hx
  have a10 := rSharp_call x hx
  obtain ⟨p1, p2, e1⟩ := two_is x (isPipe x n0) 5 n0.toNat
  obtain ⟨q1, q2, e2⟩ := two_is x (isPipe x n0 && isPipe x n1) n0.toNat n1.toNat
  obtain ⟨s1, s2, e3⟩ := sharp_is x
  rw [e1] at a5 a6
  rw [e2] at a7 a8
  rw [e3] at a9 a10
  generalize (if checkOk x then (0 : Int) else 80) = ce at *
  generalize rightB x = rb at *
  generalize rightE x = re at *
  generalize askE x (isPipe x n0) = f1 at *
  generalize askE x (isPipe x n0 && isPipe x n1) = f2 at *
  generalize askE x true = f3 at *
  have hq : ∀ a b : Int, eqCells [I a, I b] [I a, I b] = some true := fun a b => by simp [eqCells]
  rw [call_run comp3 (Nat.le_of_ble_eq_true rfl)]
  simp (maxSteps := 10000000) [-List.getD_eq_getElem?_getD, -boxA, -partA, part_none, part_two, part_x, set_two, code3, hq, hbox, hbox2, hp, hs, a1, a2, a3, a4, a5, a6, a7, a8, a9, a10, still]
end Go.Ai
