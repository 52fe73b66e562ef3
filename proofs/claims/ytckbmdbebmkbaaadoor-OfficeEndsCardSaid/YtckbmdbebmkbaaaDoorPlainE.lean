/- This text shows psalms where no feast has a rank: plain. No conditions of its own. -/
import Derived.Test.YtckbmdbebmkbaaaDoorPlainD
set_option linter.unusedSimpArgs false
set_option linter.unusedVariables false
namespace Go.Office
section
variable {b : Bk}
theorem psalm_zero {u : Nat} (h0 : ∀ f, b.rk f = 0) : ∀ (n : Nat) (d : Int) (now : Nat → Int) (j : Nat) (s : Sg), (b.sing u n d now d)[j]? = some s → s.psalm = (b.first + (d + j)) % 30
  | 0, _, _, j, s, h => by simp [Bk.sing] at h
  | n + 1, d, now, j, s, h => by
    have ho : ∀ c, b.own c = true := fun c => by
      unfold Bk.own
      rw [h0]; simp
    rw [Bk.sing] at h
    cases j with
    | zero =>
      simp only [List.getElem?_cons_zero, Option.some.injEq] at h
      subst h
      show b.psalm u d d _ = _
      unfold Bk.psalm
      rw [ho, if_pos rfl]
      simp
    | succ j =>
      simp only [List.getElem?_cons_succ, ho, if_true] at h
      rw [psalm_zero h0 n (d + 1) _ j s h]
      congr 1
      omega
theorem at_psalm_zero (h0 : ∀ f, b.rk f = 0) {q : List Int} {u d : Nat} (hd : (d : Int) < b.D) : (b.at q u d).psalm = (b.first + d) % 30 := by
  have := psalm_zero (u := u) h0 b.D.toNat 0 (now0 q) d _ (at_some (b := b) (q := q) (u := u) hd)
  rw [this]
  congr 1
  omega
theorem all_same {L : List Int} {v : Int} (hL : L ≠ []) (h : ∀ y ∈ L, y = v) : allI L = [v] := by
  refine up_uniq _ _ (allI_up L) (List.pairwise_singleton _ _) fun y => ?_
  rw [mem_allI, List.mem_singleton]
  constructor
  · exact h y
  · rintro rfl
    obtain ⟨z, hz⟩ := List.exists_mem_of_ne_nil _ hL
    exact (h z hz) ▸ hz
theorem psalms_zero (h0 : ∀ f, b.rk f = 0) (hT : b.tr ≠ []) {u d : Nat} (hd : (d : Int) < b.D) : allI (b.psalmsL u d) = [(b.first + d) % 30] := by
  refine all_same (by unfold Bk.psalmsL; simpa using hT) fun y hy => ?_
  obtain ⟨q, hq, rfl⟩ := List.mem_map.1 hy
  exact at_psalm_zero h0 hd
theorem chiefs_none (h0 : b.fs = []) (hT : b.tr ≠ []) {u d : Nat} (hd : (d : Int) < b.D) : allI (b.chiefsL u d) = [-1] := by
  refine all_same (by unfold Bk.chiefsL; simpa using hT) fun y hy => ?_
  obtain ⟨q, hq, rfl⟩ := List.mem_map.1 hy
  have := chief_range (b := b) (q := q) (u := u) hd
  rw [h0] at this
  simp at this
  omega
theorem no_notes {b : Bk} (hb : ∀ f ∈ b.fs, f.lo ≤ f.hi) (hn : b.ns = []) : b.tr ≠ [] := by
  have : b.tr = seas b.fs := by
    unfold Bk.tr Bk.right
    rw [hn]; simp
  rw [this]
  exact seas_some hb
end
end Go.Office
