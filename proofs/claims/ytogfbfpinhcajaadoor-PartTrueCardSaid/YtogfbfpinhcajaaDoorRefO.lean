/- This text shows rows of numbers, as they are handed on. No conditions of its own. -/
import Derived.Test.YtogfbfpinhcajaaDoorHelpB
set_option linter.unusedSimpArgs false
set_option linter.unusedVariables false
set_option maxRecDepth 100000
set_option linter.unusedSimpArgs false
set_option linter.unusedVariables false
/-! Rows of numbers, as they are handed on. -/
namespace Go.Ai
open Go.Part (Sp Cp Bk truths cnt at' vals)
/-- A valid book, of any number of copies. -/
structure ChkR (x : PB) : Prop where
  N : 1 ≤ x.N ∧ x.N ≤ 3
  V : 1 ≤ x.spans.length ∧ x.spans.length ≤ 3
  step : 0 ≤ x.step ∧ x.step ≤ 7
  ch : 0 ≤ x.chords ∧ x.chords ≤ 255
  pf : 0 ≤ x.perfect ∧ x.perfect ≤ 255
  spans : ∀ s ∈ x.spans, 0 ≤ s.low ∧ s.low ≤ s.high ∧ s.high ≤ 12
  wide : ∀ s ∈ x.spans, s.high - s.low ≤ 2
  copies : ∀ c ∈ x.copies, 0 ≤ c.cp.voice ∧ c.cp.voice < x.spans.length ∧ (c.cp.notes.length : Int) = x.N ∧ ∀ n ∈ c.cp.notes, 0 ≤ n ∧ n ≤ 12
theorem Chk.toR {x : PB} (h : Chk x) : ChkR x := ⟨h.N, h.V, h.step, h.ch, h.pf, h.spans, h.wide, h.copies⟩
def rowR (l : List Int) : AV := .sl 1 (ints l) .no
def someV (q : List Int) : AV := if q = [] then .nils else rowR q
theorem someV_len (q : List Int) : lenA (someV q) = some (I q.length) := by
  unfold someV
  split
  · rename_i h; rw [h]; rfl
  · simp [rowR, ints_len]
theorem someV_pur (σ : St) (n : Nat) (q : List Int) : pur σ (n + 1) (someV q) = some (someV q, false) := by
  unfold someV; split <;> rfl
theorem someV_under (a b c d n : Nat) (q : List Int) : under a b c d (n + 1) (someV q) = true := by
  unfold someV; split <;> rfl
theorem someV_last {q : List Int} (h : q ≠ []) : ixsA 1 (someV q) (I ((q.length : Int) - 1)) = some (.rp [I (at' q (q.length - 1))] 0) := by
  have hp := List.length_pos_iff.2 h
  have h1 : (0 : Int) ≤ (q.length : Int) - 1 := by omega
  have h2 : ((q.length : Int) - 1).toNat = q.length - 1 := by omega
  have h3 : q.length - 1 < q.length := by omega
  have h4 : (0 : Int) ≤ (q.length : Int) - 1 ∧ (q.length : Int) - 1 < (q.length : Int) := by omega
  simp only [someV, if_neg h, rowR, ixsA, ints_len, h4, and_self, if_true, h2]
  simp [ints, h3, AV.cells, at']
theorem someV_app (q : List Int) (n : Int) : someV (q ++ [n]) = rowR (q ++ [n]) := by simp [someV]
theorem some_with (q : List Int) (hq : q.length < 100) (n : Int) : call Cv 85 [someV q, I n] = some (someV (q ++ [n])) := by
  rw [someV_app]
  refine with_call q (someV q) ?_ (by omega) n
  unfold someV
  split
  · rename_i h; exact .inl ⟨rfl, h⟩
  · exact .inr ⟨.no, rfl, rfl⟩
end Go.Ai
