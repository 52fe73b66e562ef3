/- This text shows a state that is the same but for what came later. No conditions of its own. -/
import Derived.Test.YtknklhodhkohlaaDoorTrueA
set_option linter.unusedSimpArgs false
set_option linter.unusedVariables false
set_option maxRecDepth 100000
namespace Go.Ai
theorem cut_add (B E : List (List AV)) (e : Env) (hB : B.all (fun cs => cs.all (under B.length 0 0 0 6)) = true) (he : e.all (under B.length 0 0 0 6) = true) : cut { boxes := B } { boxes := B ++ E } e = { boxes := B } := by
  have ht : (B ++ E).take B.length = B := List.take_left' rfl
  have hd : dryAt 0 { boxes := B } { boxes := B ++ E } e = true := by
    simp only [dryAt, List.length_nil, ht, he, hB, List.take_nil, List.all_nil, Bool.and_self]
  unfold cut
  rw [if_pos (show dryAt ({ boxes := B } : St).chains.length { boxes := B } { boxes := B ++ E } e = true from hd)]
  simp [cutAt, ht]
theorem cells_under {x : CB} (hx : x.Ok) (a b c d : Nat) : x.cells.all (under a b c d 6) = true := by
  have u1 := hx.mrow.under a b c d 5
  have u2 := hx.hrow.under a b c d 5
  simp only [CB.cells, List.all_cons, List.all_nil, u1, u2, un_int, Bool.and_self]
end Go.Ai
