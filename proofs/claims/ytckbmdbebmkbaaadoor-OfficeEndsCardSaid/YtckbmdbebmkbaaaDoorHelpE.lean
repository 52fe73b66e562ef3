/- This text shows small things for laws of other notes. No conditions of its own. -/
import Derived.Test.YtckbmdbebmkbaaaDoorHelpD
import Derived.Test.YtckbmdbebmkbaaaDoorPlainD
set_option linter.unusedSimpArgs false
set_option linter.unusedVariables false
set_option maxRecDepth 100000
namespace Go.Ai
open Go.Office (Ft Rl Us Nt Bk vote allI mem_allI)
theorem under_call (a b c d : Int) : call Cv 24 [.agg [I a, I b], .agg [I c, I d]] = some (.bool (decide (c ≤ a) && decide (b ≤ d))) := by
  rw [call_run comp24 (Nat.le_of_ble_eq_true rfl)]
  simp +contextual (maxSteps := 10000000) [-List.getD_eq_getElem?_getD, code24]
theorem tr_len0 {x : OB} (hk : checkB x = true) : x.bk.tr.length ≤ 256 := by
  have := tr_len x (check_fine hk) []
  rwa [left_none] at this
theorem allI_len {x : OB} (hk : checkB x = true) (v : List Int → Int) : (allI (x.bk.tr.map v)).length ≤ 256 := by
  have h1 := all_len (x.bk.tr.map v)
  have h2 := tr_len0 hk
  rw [List.length_map] at h1
  omega
theorem where_in {l : List Int} {r : AV} (hr : IsRow 1 (ints l) r) (hl : l.length < 2 ^ 47) {v : Int} (h : v ∈ l) : ∃ i : Int, 0 ≤ i ∧ call Cv 21 [r, I v] = some (I i) := by
  refine ⟨idx v l 0, ?_, where_call l r hr hl v⟩
  have := idx_nonneg v l 0
  rw [decide_eq_true h, decide_eq_true_iff] at this
  exact this
end Go.Ai
