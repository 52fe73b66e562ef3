/- This text shows the law of what is easier, in the interpreter. No conditions of its own. -/
import Derived.Test.YtogfbfpinhcajaaDoorLawsA
set_option linter.unusedSimpArgs false
set_option linter.unusedVariables false
set_option maxRecDepth 100000
set_option linter.unusedSimpArgs false
set_option linter.unusedVariables false
/-! Easier: plain facts. -/
namespace Go.Ai
open Go.Part (Sp Cp Bk truths cnt at' rightK Piece Good)
theorem easier_piece {b b' : Bk} {out : Nat → Bool} {q : List Int} (hN : b'.N = b.N) (hs : b'.spans = b.spans) (hc : b'.copies = b.copies) (h1 : b.step ≤ b'.step) (h2 : ∀ n, Part.has b.chords n = true → Part.has b'.chords n = true) (h3 : ∀ n, Part.has b'.perfect n = true → Part.has b.perfect n = true) (h : Piece b out q) : Piece b' out q where
  len := by rw [hN, hs]; exact h.len
  span v i s hv hi := by rw [hN] at hi ⊢; rw [hs] at hv; exact h.span v i s hv hi
  good v i hv hi := by
    rw [hs] at hv
    rw [hN] at hi
    have g := h.good v i hv hi
    refine ⟨?_, fun h0 => ?_, fun h0 => ?_, fun h0 h0' => ?_⟩
    · rw [hN, hc]; exact g.right
    · rw [hN]; exact h2 _ (g.chord h0)
    · have := g.step h0
      rw [hN]
      simp only [Part.stepOk, Bool.and_eq_true, decide_eq_true_eq] at this ⊢
      omega
    · have := g.move h0 h0'
      rw [hN]
      simp only [Part.moveOk, Bool.or_eq_true, decide_eq_true_eq, Bool.not_eq_true', decide_eq_false_iff_not] at this ⊢
      rcases this with (h | h) | h
      · exact .inl (.inl h)
      · exact .inl (.inr h)
      · right
        cases hp : Part.has b'.perfect (at' q (v * b.N + i) - at' q ((v - 1) * b.N + i)) with
        | false => rfl
        | true => rw [h3 _ hp] at h; exact h
/-- One book's truths are another one's, too. -/
structure Sub (x x' : PB) : Prop where
  N : x'.N = x.N
  V : x'.spans.length = x.spans.length
  len : x'.copies.length = x.copies.length
  sub : ∀ out q, q ∈ Ts x out → q ∈ Ts x' out
theorem sub_ways {x x' : PB} (h : Sub x x') (out : Nat → Bool) : (Ts x out).length ≤ (Ts x' out).length := Part.nodup_sub (Part.truths_nodup _ _) (h.sub out)
theorem sub_ok {x x' : PB} (h : Sub x x') (l : List Int) (hl : okL x l = true) : okL x' l = true := by
  simp only [okL, decide_eq_true_eq] at hl ⊢
  intro hn
  have := sub_ways h (butF l)
  rw [hn] at this
  exact hl (List.length_eq_zero_iff.1 (by simpa using this))
theorem sub_wrong {x x' : PB} (h : Sub x x') (hc : checkOk x = true) (hc' : checkOk x' = true) {w : List Int} (hw : wrongO x = some w) : ∃ u, wrongO x' = some u ∧ u.length ≤ w.length := by
  have tw := wrong_told hc hw
  have hnc := (chk_of hc).nc
  cases hu : wrongO x' with
  | none =>
    have hn := wrong_not hc' hu
    obtain ⟨s, _, hs⟩ := Least.inc_bits _ (by omega) w tw.inc
    have := hn s
    rw [h.len, hs, sub_ok h w tw.fine] at this
    cases this
  | some u =>
    have tu := wrong_told hc' hu
    rw [h.len] at tu
    exact ⟨u, rfl, Part.told_len (by omega) (sub_ok h) tw tu⟩
theorem sub_notes {x x' : PB} (h : Sub x x') (j : Nat) : ∀ n, n ∈ posOf (Ts x noneF) j → n ∈ posOf (Ts x' noneF) j := by
  intro n hn
  rw [posOf_mem] at hn ⊢
  refine ⟨hn.1, hn.2.1, ?_⟩
  have := Part.cnt_le_of (Part.truths_nodup _ _) (h.sub noneF) j n
  exact Nat.lt_of_lt_of_le hn.2.2 this
theorem sub_of {x x' : PB} (h : Chk x) (hN : x'.N = x.N) (hs : x'.spans = x.spans) (hc : x'.copies = x.copies) (h1 : x.step ≤ x'.step) (h2 : ∀ n, Part.has x.chords n = true → Part.has x'.chords n = true) (h3 : ∀ n, Part.has x'.perfect n = true → Part.has x.perfect n = true) : Sub x x' where
  N := hN
  V := by rw [hs]
  len := by rw [hc]
  sub out q hq := by
    have hn := h.N
    refine (Part.truths_mem (by show 0 < x'.N.toNat; rw [hN]; omega) q).2 ?_
    exact easier_piece (b := bkOf x) (b' := bkOf x') (by show x'.N.toNat = x.N.toNat; rw [hN]) hs (by show x'.copies.map _ = x.copies.map _; rw [hc]) h1 h2 h3 (Ts_mem h hq)
theorem or_all : ∀ c : Fin 256, ∀ k : Fin 8, IntKind.wrap .i64 ((BitVec.ofInt 64 (c.val : Int) ||| BitVec.ofInt 64 ((2 ^ k.val : Nat) : Int)).toNat : Int) = ((c.val ||| 2 ^ k.val : Nat) : Int) ∧ (c.val ||| 2 ^ k.val) < 256 := by decide +kernel
def dropBit (c k : Nat) : Nat := if c.testBit k then c - 2 ^ k else c
theorem not_all : ∀ c : Fin 256, ∀ k : Fin 8, IntKind.wrap .i64 ((BitVec.ofInt 64 (c.val : Int) &&& ~~~BitVec.ofInt 64 ((2 ^ k.val : Nat) : Int)).toNat : Int) = ((dropBit c.val k.val : Nat) : Int) ∧ dropBit c.val k.val < 256 ∧ ∀ j : Fin 62, (dropBit c.val k.val).testBit j.val = true → c.val.testBit j.val = true := by decide +kernel
theorem has_or (c k : Nat) (n : Int) (h : Part.has (c : Int) n = true) : Part.has ((c ||| 2 ^ k : Nat) : Int) n = true := by
  simp only [Part.has, Bool.and_eq_true, decide_eq_true_eq, Int.toNat_natCast] at h ⊢
  refine ⟨h.1, ?_⟩
  rw [Nat.testBit_or, h.2]; rfl
theorem has_drop {c k : Nat} (hc : c < 256) (hk : k < 8) (n : Int) (h : Part.has ((dropBit c k : Nat) : Int) n = true) : Part.has (c : Int) n = true := by
  simp only [Part.has, Bool.and_eq_true, decide_eq_true_eq, Int.toNat_natCast] at h ⊢
  refine ⟨h.1, ?_⟩
  exact (not_all ⟨c, hc⟩ ⟨k, hk⟩).2.2 ⟨n.toNat, by omega⟩ h.2
end Go.Ai
