/- This text shows one tuning more: plain. No conditions of its own. -/
import Derived.Test.YtbjdaefdifofkaaDoorPlain
set_option linter.unusedSimpArgs false
set_option linter.unusedVariables false
set_option linter.unusedVariables false
set_option linter.unusedSimpArgs false
/-! All forks read more: what is told of pipes. -/
namespace Go.Organ
section
variable {N : Nat} {fs : List F3} {ts : List T4}
theorem stand_loose {g : Nat → Int} (h : Stand N fs ts g) : Loose N fs ts g := ⟨h.forks, h.tunes⟩
/-- Between two heights, by so much at most. -/
def mid (g g0 : Nat → Int) (a : Nat) : Nat → Int := fun i => min (max (g i - g 5) (g0 i - g0 5 - a)) (g0 i - g0 5 + a)
theorem mid_loose {g g0 : Nat → Int} (h : Loose N fs ts g) (h0 : Loose N fs ts g0) (a : Nat) : Loose N fs ts (mid g g0 a) where
  forks f hf := by
    have h1 := h.forks f hf
    have h2 := h0.forks f hf
    unfold mid
    omega
  tunes t ht := by
    have h1 := h.tunes t ht
    have h2 := h0.tunes t ht
    unfold mid
    omega
/-- If no pipe can come to the end of what can be, what is told without the ends is all. -/
theorem loose_stand (hin : ∀ g, Stand N fs ts g → ∀ p, p < N → -59 ≤ g p - g 5 ∧ g p - g 5 ≤ 59) {g0 : Nat → Int} (h0 : Stand N fs ts g0) {g : Nat → Int} (h : Loose N fs ts g) : Stand N fs ts g := by
  have m5 : ∀ a, mid g g0 a 5 = 0 := fun a => by unfold mid; omega
  have key : ∀ a, Stand N fs ts (mid g g0 a) := by
    intro a
    induction a with
    | zero =>
      have hl := mid_loose h (stand_loose h0) 0
      refine ⟨fun p hp => ?_, hl.forks, hl.tunes⟩
      have := hin g0 h0 p hp
      unfold mid
      omega
    | succ a ih =>
      have hl := mid_loose h (stand_loose h0) (a + 1)
      refine ⟨fun p hp => ?_, hl.forks, hl.tunes⟩
      have := hin _ ih p hp
      rw [m5] at this ⊢
      unfold mid at this ⊢
      omega
  refine ⟨fun p hp => ?_, h.forks, h.tunes⟩
  have h1 := hin _ (key ((g p - g 5) - (g0 p - g0 5)).natAbs) p hp
  rw [m5] at h1
  unfold mid at h1
  omega
theorem lift_lift (a : Int) (g : Nat → Int) : lift a (lift (-a) g) = g := by
  funext i
  simp only [lift]
  split <;> omega
theorem shift_ok (h : BOk N fs ts) {by' : Int} (hr : ∀ f ∈ fs, -60 ≤ f.read + by' ∧ f.read + by' ≤ 60) : BOk N (fs.map (shiftF by')) ts := by
  refine ⟨h.one, h.five, fun f hf => ?_, h.tunes⟩
  obtain ⟨f', hf', rfl⟩ := List.mem_map.1 hf
  have := h.forks f' hf'
  exact ⟨this.pipe, hr f' hf', this.err⟩
theorem stand_shift (h : BOk N fs ts) {by' : Int} (hs : ∃ g, Stand N fs ts g) (hin : ∀ g, Stand N fs ts g → ∀ p, p < N → -59 ≤ g p - g 5 ∧ g p - g 5 ≤ 59) (hin' : ∀ g, Stand N fs ts g → ∀ p, p < N → -59 ≤ g p - g 5 + by' ∧ g p - g 5 + by' ≤ 59) (g : Nat → Int) : Stand N (fs.map (shiftF by')) ts (lift by' g) ↔ Stand N fs ts g := by
  obtain ⟨g0, h0⟩ := hs
  constructor
  · intro hg
    exact loose_stand hin h0 ((loose_lift h.five h.forks h.tunes by').1 (stand_loose hg))
  · intro hg
    have hl := (loose_lift h.five h.forks h.tunes by').2 (stand_loose hg)
    refine ⟨fun p hp => ?_, hl.forks, hl.tunes⟩
    have := hin' g hg p hp
    have hp5 : ¬ p = 5 := by have := h.five; omega
    have l5 : lift by' g 5 = g 5 := rfl
    have lp : lift by' g p = g p + by' := by unfold lift; rw [if_neg hp5]
    rw [l5, lp]
    omega
theorem shift_table (h : BOk N fs ts) (hs : isO N fs ts = true) {by' : Int} (hr : ∀ f ∈ fs, -60 ≤ f.read + by' ∧ f.read + by' ≤ 60)
    (hu : ∀ p, p < N → T6 N fs ts 5 p ≤ 59 ∧ -59 ≤ -T6 N fs ts p 5 ∧ T6 N fs ts 5 p + by' ≤ 59 ∧ -59 ≤ -T6 N fs ts p 5 + by') :
    isO N (fs.map (shiftF by')) ts = true ∧ ∀ p, p < N → T6 N (fs.map (shiftF by')) ts 5 p = T6 N fs ts 5 p + by' ∧ T6 N (fs.map (shiftF by')) ts p 5 = T6 N fs ts p 5 - by' ∧ ∀ q, q < N → T6 N (fs.map (shiftF by')) ts p q = T6 N fs ts p q := by
  have hst := (isO_iff h).1 hs
  have hc : ∀ g, Stand N fs ts g → ∀ p, p < N → -T6 N fs ts p 5 ≤ g p - g 5 ∧ g p - g 5 ≤ T6 N fs ts 5 p := fun g hg p hp => T6_covers h hg (.inr rfl) (.inl hp)
  have hin : ∀ g, Stand N fs ts g → ∀ p, p < N → -59 ≤ g p - g 5 ∧ g p - g 5 ≤ 59 := fun g hg p hp => by
    have := hc g hg p hp; have := hu p hp; omega
  have hin' : ∀ g, Stand N fs ts g → ∀ p, p < N → -59 ≤ g p - g 5 + by' ∧ g p - g 5 + by' ≤ 59 := fun g hg p hp => by
    have := hc g hg p hp; have := hu p hp; omega
  have hb := stand_shift h hst hin hin'
  have h' := shift_ok h hr
  have hs' : isO N (fs.map (shiftF by')) ts = true := by
    obtain ⟨g, hg⟩ := hst
    exact (isO_iff h').2 ⟨_, (hb g).2 hg⟩
  have low : ∀ p, p < N → ∀ g : Nat → Int, lift by' g p = g p + by' := fun p hp g => by
    have hp5 : ¬ p = 5 := by have := h.five; omega
    unfold lift; rw [if_neg hp5]
  have l5 : ∀ g : Nat → Int, lift by' g 5 = g 5 := fun g => rfl
  -- the greatest difference of the new book, of that of the old one
  have mv : ∀ i k d, Real N i → Real N k → (∀ g : Nat → Int, lift by' g k - lift by' g i = g k - g i + d) → T6 N (fs.map (shiftF by')) ts i k = T6 N fs ts i k + d := by
    intro i k d hi hk hd
    refine (T6_most h' hs' hi hk).uniq ⟨fun g hg => ?_, ?_⟩
    · have hg' := sem_iff.1 hg
      rw [← lift_lift by' g] at hg' ⊢
      have := (T6_most h hs hi hk).1 _ (sem_iff.2 ((hb _).1 hg'))
      rw [hd]
      omega
    · obtain ⟨g, hg, he⟩ := (T6_most h hs hi hk).2
      exact ⟨_, sem_iff.2 ((hb g).2 (sem_iff.1 hg)), by rw [hd, he]⟩
  refine ⟨hs', fun p hp => ⟨?_, ?_, fun q hq => ?_⟩⟩
  · exact mv 5 p by' (.inr rfl) (.inl hp) fun g => by rw [low p hp, l5]; omega
  · rw [mv p 5 (-by') (.inl hp) (.inr rfl) fun g => by rw [low p hp, l5]; omega]; omega
  · rw [mv p q 0 (.inl hp) (.inl hq) fun g => by rw [low p hp, low q hq]; omega]; omega
end
end Go.Organ

set_option linter.unusedVariables false
set_option linter.unusedSimpArgs false
/-! One tuning more: nothing is known less well. -/
namespace Go.Organ
section
variable {N : Nat} {fs : List F3} {ts : List T4} {t : T4}
theorem isO_less (h : BOk N fs ts) (h' : BOk N fs (ts ++ [t])) (hs : isO N fs (ts ++ [t]) = true) : isO N fs ts = true := by
  obtain ⟨g, hg⟩ := (isO_iff h').1 hs
  exact (isO_iff h).2 ⟨g, (stand_more.1 hg).1⟩
theorem T6_mono (h : BOk N fs ts) (h' : BOk N fs (ts ++ [t])) (hs : isO N fs (ts ++ [t]) = true) {i k : Nat} (hi : Real N i) (hk : Real N k) : T6 N fs (ts ++ [t]) i k ≤ T6 N fs ts i k := by
  refine (T6_most h (isO_less h h' hs) hi hk).mono (fun b hb => ?_) (T6_most h' hs hi hk)
  simp only [bds, List.flatMap_append, List.mem_append] at hb ⊢
  rcases hb with hb | hb | hb
  · exact .inl hb
  · exact .inr (.inl hb)
  · exact .inr (.inr (.inl hb))
theorem sh_mono (h : BOk N fs ts) (h' : BOk N fs (ts ++ [t])) (hs : isO N fs (ts ++ [t]) = true) : shL (T6 N fs ts) N ≤ shL (T6 N fs (ts ++ [t])) N ∧ shH (T6 N fs (ts ++ [t])) N ≤ shH (T6 N fs ts) N := by
  obtain ⟨p, hp, h1⟩ := loS_is (T6 N fs (ts ++ [t])) h.one
  obtain ⟨q, hq, h2⟩ := hiS_is (T6 N fs (ts ++ [t])) h.one
  have a1 := loS_le (T6 N fs ts) hp
  have a2 := hiS_le (T6 N fs ts) hq
  have b1 := T6_mono h h' hs (.inl hp : Real N p) (.inr rfl : Real N 5)
  have b2 := T6_mono h h' hs (.inr rfl : Real N 5) (.inl hq : Real N q)
  unfold shL shH
  omega
theorem allS_mono {S : Int → Bool} {a b a' b' : Int} (h : a ≤ a') (h' : b' ≤ b) (hs : allS S a b = true) : allS S a' b' = true :=
  allS_iff.2 fun n h1 h2 => allS_iff.1 hs n (by omega) (by omega)
end
end Go.Organ
