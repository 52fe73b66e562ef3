/- This text shows how a cold goes on: plain. No conditions of its own. -/
import Derived.Test.YtknklhodhkohlaaDoorLeast
set_option linter.unusedSimpArgs false
set_option linter.unusedVariables false
namespace Go.Cold
abbrev Aw := Nat → Int → Bool
def stepD (B : Nat) (aw : Aw) (g d : Int) (l : Nat → Int) : Nat → Int := fun i =>
  if l i < 0 ∧ aw i d = false ∧ ((1 ≤ i ∧ 0 ≤ l (i - 1) ∧ l (i - 1) + g = d ∧ aw (i - 1) d = false) ∨ (i + 1 < B ∧ 0 ≤ l (i + 1) ∧ l (i + 1) + g = d ∧ aw (i + 1) d = false)) then d else l i
def daysF (B : Nat) (aw : Aw) (g : Int) : Nat → Int → (Nat → Int) → Nat → Int
  | 0, _, l => l
  | n + 1, d, l => daysF B aw g n (d + 1) (stepD B aw g d l)
def startL (b : Nat) (day : Int) : Nat → Int := fun i => if i = b then day else -1
def spreadF (B : Nat) (D : Int) (aw : Aw) (g : Int) (b : Nat) (day : Int) : Nat → Int := daysF B aw g (D - day - 1).toNat (day + 1) (startL b day)
def goOn (D : Int) (aw : Aw) (g : Int) (p i : Nat) (is : Bool) (c : Int) : Int := if is = true ∧ 0 ≤ c ∧ c + g < D ∧ aw p (c + g) = false ∧ aw i (c + g) = false then c + g else -1
def upF (B : Nat) (D : Int) (aw : Aw) (g : Int) (b : Nat) (day : Int) : Nat → Int
  | 0 => day
  | k + 1 => goOn D aw g (b + k) (b + k + 1) (decide (b + k + 1 < B)) (upF B D aw g b day k)
def dnF (D : Int) (aw : Aw) (g : Int) (b : Nat) (day : Int) : Nat → Int
  | 0 => day
  | k + 1 => goOn D aw g (b - k) (b - k - 1) (decide (k + 1 ≤ b)) (dnF D aw g b day k)
def lineF (B : Nat) (D : Int) (aw : Aw) (g : Int) (b : Nat) (day : Int) : Nat → Int := fun i => if b ≤ i then upF B D aw g b day (i - b) else dnF D aw g b day (b - i)
def lim (d c : Int) : Int := if c < d then c else -1
def Next (D : Int) (aw : Aw) (g : Int) (cl : Nat → Int) (p i : Nat) : Prop := cl i = if 0 ≤ cl p ∧ cl p + g < D ∧ aw p (cl p + g) = false ∧ aw i (cl p + g) = false then cl p + g else -1
theorem Next.pos {D : Int} {aw : Aw} {g : Int} {cl : Nat → Int} {p i : Nat} (h : Next D aw g cl p i) (h0 : 0 ≤ cl i) : 0 ≤ cl p ∧ cl i = cl p + g ∧ cl p + g < D ∧ aw p (cl p + g) = false ∧ aw i (cl p + g) = false := by
  unfold Next at h
  split at h
  · rename_i hc; exact ⟨hc.1, h, hc.2⟩
  · omega
theorem Next.is {D : Int} {aw : Aw} {g : Int} {cl : Nat → Int} {p i : Nat} (h : Next D aw g cl p i) (h0 : 0 ≤ cl p) (h1 : cl p + g < D) (h2 : aw p (cl p + g) = false) (h3 : aw i (cl p + g) = false) : cl i = cl p + g := by
  rw [h, if_pos ⟨h0, h1, h2, h3⟩]
theorem Next.neg {D : Int} {aw : Aw} {g : Int} {cl : Nat → Int} {p i : Nat} (h : Next D aw g cl p i) (h0 : cl i < 0) (hg : 0 < g) : cl i = -1 := by
  unfold Next at h
  split at h
  · rename_i hc; omega
  · exact h
theorem step_next {D : Int} {aw : Aw} {g : Int} (hg : 0 < g) {cl : Nat → Int} {d : Int} (hd0 : 0 ≤ d) (hd : d < D) {p i : Nat} (h : Next D aw g cl p i) {inS : Prop} [Decidable inS] {s : Nat} (hs : inS → Next D aw g cl i s) :
    (if lim d (cl i) < 0 ∧ aw i d = false ∧ ((0 ≤ lim d (cl p) ∧ lim d (cl p) + g = d ∧ aw p d = false) ∨ (inS ∧ 0 ≤ lim d (cl s) ∧ lim d (cl s) + g = d ∧ aw s d = false)) then d else lim d (cl i)) = lim (d + 1) (cl i) := by
  have lp : 0 ≤ lim d (cl p) → lim d (cl p) = cl p := by unfold lim; split <;> omega
  have ls : 0 ≤ lim d (cl s) → lim d (cl s) = cl s := by unfold lim; split <;> omega
  by_cases h0 : 0 ≤ cl i
  · obtain ⟨a1, a2, a3, a4, a5⟩ := h.pos h0
    by_cases h1 : cl i < d
    · have e1 : lim d (cl i) = cl i := if_pos h1
      have e2 : lim (d + 1) (cl i) = cl i := if_pos (by omega)
      rw [e1, e2, if_neg (by omega)]
    · have e1 : lim d (cl i) = -1 := if_neg h1
      by_cases h2 : cl i = d
      · have e2 : lim (d + 1) (cl i) = d := by unfold lim; rw [if_pos (by omega)]; exact h2
        have e3 : lim d (cl p) = cl p := if_pos (by omega)
        rw [e1, e2, if_pos]
        rw [← a2, h2] at a4 a5
        exact ⟨by omega, a5, .inl (by rw [e3]; exact ⟨a1, by omega, a4⟩)⟩
      · have e2 : lim (d + 1) (cl i) = -1 := if_neg (by omega)
        rw [e1, e2, if_neg]
        rintro ⟨_, _, ⟨q1, q2, _⟩ | ⟨q0, q1, q2, _⟩⟩
        · rw [lp q1] at q2; omega
        · have e := ls q1
          rw [e] at q1 q2
          have := ((hs q0).pos q1).2.1
          omega
  · have e0 := h.neg (by omega) hg
    have e1 : lim d (cl i) = -1 := by rw [e0]; unfold lim; split <;> rfl
    have e2 : lim (d + 1) (cl i) = -1 := by rw [e0]; unfold lim; split <;> rfl
    rw [e1, e2, if_neg]
    rintro ⟨_, q, ⟨q1, q2, q3⟩ | ⟨q0, q1, q2, _⟩⟩
    · have e := lp q1
      rw [e] at q1 q2
      have := h.is q1 (by omega) (by rw [q2]; exact q3) (by rw [q2]; exact q)
      omega
    · have e := ls q1
      rw [e] at q1
      have := ((hs q0).pos q1).1
      omega
section
variable {B : Nat} {D : Int} {aw : Aw} {g : Int} {b : Nat} {day : Int}
theorem line_first : lineF B D aw g b day b = day := by
  unfold lineF
  rw [if_pos (Nat.le_refl _), Nat.sub_self]
  rfl
theorem line_up {i : Nat} (h : b < i) (hi : i < B) : Next D aw g (lineF B D aw g b day) (i - 1) i := by
  obtain ⟨k, rfl⟩ : ∃ k, i = b + k + 1 := ⟨i - b - 1, by omega⟩
  have e1 : lineF B D aw g b day (b + k + 1) = upF B D aw g b day (k + 1) := by
    unfold lineF
    rw [if_pos (by omega), show b + k + 1 - b = k + 1 by omega]
  have e2 : lineF B D aw g b day (b + k + 1 - 1) = upF B D aw g b day k := by
    unfold lineF
    rw [if_pos (by omega), show b + k + 1 - 1 - b = k by omega]
  unfold Next
  rw [e1, e2, upF, goOn, show b + k + 1 - 1 = b + k by omega]
  simp only [hi, decide_true, true_and]
theorem line_dn {i : Nat} (h : i < b) : Next D aw g (lineF B D aw g b day) (i + 1) i := by
  obtain ⟨k, hk⟩ : ∃ k, b = i + k + 1 := ⟨b - i - 1, by omega⟩
  have e1 : lineF B D aw g b day i = dnF D aw g b day (k + 1) := by
    unfold lineF
    rw [if_neg (by omega), show b - i = k + 1 by omega]
  have e2 : lineF B D aw g b day (i + 1) = dnF D aw g b day k := by
    unfold lineF
    by_cases h' : b ≤ i + 1
    · rw [if_pos h']
      obtain rfl : k = 0 := by omega
      rw [show i + 1 - b = 0 by omega]
      rfl
    · rw [if_neg h', show b - (i + 1) = k by omega]
  unfold Next
  rw [e1, e2, dnF, goOn, show b - k = i + 1 by omega, show i + 1 - 1 = i by omega]
  have : k + 1 ≤ b := by omega
  simp only [this, decide_true, true_and]
theorem line_step (hg : 0 < g) (hday : 0 ≤ day) {d : Int} (hd0 : day < d) (hd : d < D) {l : Nat → Int} (hl : ∀ i, i < B → l i = lim d (lineF B D aw g b day i)) (hb : b < B) {i : Nat} (hi : i < B) : stepD B aw g d l i = lim (d + 1) (lineF B D aw g b day i) := by
  unfold stepD
  rw [hl i hi]
  rcases Nat.lt_trichotomy i b with h | h | h
  · have hn := step_next (d := d) hg (by omega) hd (line_dn (B := B) (D := D) (aw := aw) (g := g) (day := day) h) (inS := 1 ≤ i) (s := i - 1) (fun h1 => by
      have := line_dn (B := B) (D := D) (aw := aw) (g := g) (day := day) (show i - 1 < b by omega)
      rwa [show i - 1 + 1 = i by omega] at this)
    rw [← hn, hl (i + 1) (by omega)]
    by_cases h1 : 1 ≤ i
    · rw [hl (i - 1) (by omega)]
      have hi1 : i + 1 < B := by omega
      simp only [h1, hi1, true_and, or_comm]
    · have hi1 : i + 1 < B := by omega
      simp only [h1, hi1, true_and, false_and, false_or, or_false]
  · subst h
    rw [line_first]
    have e1 : lim d day = day := if_pos hd0
    have e2 : lim (d + 1) day = day := if_pos (by omega)
    rw [e1, e2, if_neg (by omega)]
  · have hn := step_next (d := d) hg (by omega) hd (line_up (B := B) (D := D) (aw := aw) (g := g) (day := day) h hi) (inS := i + 1 < B) (s := i + 1) (fun h1 => by
      have := line_up (B := B) (D := D) (aw := aw) (g := g) (day := day) (show b < i + 1 by omega) h1
      rwa [show i + 1 - 1 = i by omega] at this)
    rw [← hn, hl (i - 1) (by omega)]
    have h1 : 1 ≤ i := by omega
    by_cases hi1 : i + 1 < B
    · rw [hl (i + 1) hi1]
      simp only [h1, hi1, true_and]
    · simp only [h1, hi1, true_and, false_and, or_false]
theorem line_days (hg : 0 < g) (hday : 0 ≤ day) (hb : b < B) : ∀ (n : Nat) (d : Int) (l : Nat → Int), day < d → d + n = D → (∀ i, i < B → l i = lim d (lineF B D aw g b day i)) → ∀ i, i < B → daysF B aw g n d l i = lim D (lineF B D aw g b day i)
  | 0, d, l, h1, h2, hl, i, hi => by
    obtain rfl : d = D := by omega
    exact hl i hi
  | n + 1, d, l, h1, h2, hl, i, hi => by
    rw [daysF]
    exact line_days hg hday hb n (d + 1) _ (by omega) (by omega) (fun j hj => line_step hg hday h1 (by omega) hl hb hj) i hi
theorem line_lt (hday : day < D) (hb : b < B) {i : Nat} (hi : i < B) (hD : 0 ≤ D) : lineF B D aw g b day i < D := by
  rcases Nat.lt_trichotomy i b with h | h | h
  · have := line_dn (B := B) (D := D) (aw := aw) (g := g) (day := day) h
    unfold Next at this
    rw [this]
    split <;> omega
  · subst h; rw [line_first]; exact hday
  · have := line_up (B := B) (D := D) (aw := aw) (g := g) (day := day) h hi
    unfold Next at this
    rw [this]
    split <;> omega
theorem line_pos (hday : 0 ≤ day) (hg : 0 < g) (hb : b < B) {i : Nat} (hi : i < B) (hne : i ≠ b) : lineF B D aw g b day i = -1 ∨ day < lineF B D aw g b day i := by
  have key : ∀ n i, i < B → (b + n = i ∨ i + n = b) → lineF B D aw g b day i = -1 ∨ day ≤ lineF B D aw g b day i ∧ (n ≠ 0 → day < lineF B D aw g b day i) := by
    intro n
    induction n with
    | zero =>
      intro i hi h
      obtain rfl : i = b := by omega
      right
      rw [line_first]
      exact ⟨Int.le_refl _, fun h => absurd rfl h⟩
    | succ n ih =>
      intro i hi h
      by_cases h0 : 0 ≤ lineF B D aw g b day i
      · right
        rcases h with h | h
        · have hp := (line_up (B := B) (D := D) (aw := aw) (g := g) (day := day) (show b < i by omega) hi).pos h0
          rcases ih (i - 1) (by omega) (.inl (by omega)) with h1 | ⟨h1, _⟩
          · omega
          · exact ⟨by omega, fun _ => by omega⟩
        · have hp := (line_dn (B := B) (D := D) (aw := aw) (g := g) (day := day) (show i < b by omega)).pos h0
          rcases ih (i + 1) (by omega) (.inr (by omega)) with h1 | ⟨h1, _⟩
          · omega
          · exact ⟨by omega, fun _ => by omega⟩
      · left
        rcases h with h | h
        · exact (line_up (B := B) (D := D) (aw := aw) (g := g) (day := day) (show b < i by omega) hi).neg (by omega) hg
        · exact (line_dn (B := B) (D := D) (aw := aw) (g := g) (day := day) (show i < b by omega)).neg (by omega) hg
  rcases Nat.lt_or_ge i b with h | h
  · rcases key (b - i) i hi (.inr (by omega)) with h1 | ⟨_, h1⟩
    · exact .inl h1
    · exact .inr (h1 (by omega))
  · rcases key (i - b) i hi (.inl (by omega)) with h1 | ⟨_, h1⟩
    · exact .inl h1
    · exact .inr (h1 (by omega))
theorem spread_line (hg : 0 < g) (hday : 0 ≤ day) (hD : day < D) (hb : b < B) {i : Nat} (hi : i < B) : spreadF B D aw g b day i = lineF B D aw g b day i := by
  unfold spreadF
  rw [line_days (D := D) hg hday hb _ _ _ (by omega) (by omega) (fun j hj => ?_) i hi]
  · unfold lim
    rw [if_pos (line_lt hD hb hi (by omega))]
  · unfold startL lim
    by_cases h : j = b
    · subst h; rw [if_pos rfl, line_first, if_pos (by omega)]
    · rw [if_neg h]
      rcases line_pos (D := D) (aw := aw) hday hg hb hj h with h1 | h1
      · rw [h1]; split <;> rfl
      · rw [if_neg (by omega)]
end
end Go.Cold

namespace Go.Cold
section
variable {B : Nat} {D : Int} {g : Int} {b : Nat} {day : Int}
theorem goOn_more {aw aw' : Aw} (h : ∀ i d, aw i d = true → aw' i d = true) {p i : Nat} {is : Bool} {c c' : Int} (hc : c' = -1 ∨ c' = c) : goOn D aw' g p i is c' = -1 ∨ goOn D aw' g p i is c' = goOn D aw g p i is c := by
  have h' : ∀ i d, aw' i d = false → aw i d = false := fun i d hf => by
    cases ha : aw i d with
    | false => rfl
    | true => rw [h i d ha] at hf; cases hf
  unfold goOn
  rcases hc with rfl | rfl
  · left; rw [if_neg (by omega)]
  · by_cases hh : is = true ∧ 0 ≤ c' ∧ c' + g < D ∧ aw' p (c' + g) = false ∧ aw' i (c' + g) = false
    · right
      rw [if_pos hh, if_pos ⟨hh.1, hh.2.1, hh.2.2.1, h' _ _ hh.2.2.2.1, h' _ _ hh.2.2.2.2⟩]
    · left; rw [if_neg hh]
theorem up_more {aw aw' : Aw} (h : ∀ i d, aw i d = true → aw' i d = true) : ∀ k, upF B D aw' g b day k = -1 ∨ upF B D aw' g b day k = upF B D aw g b day k
  | 0 => .inr rfl
  | k + 1 => goOn_more h (up_more h k)
theorem dn_more {aw aw' : Aw} (h : ∀ i d, aw i d = true → aw' i d = true) : ∀ k, dnF D aw' g b day k = -1 ∨ dnF D aw' g b day k = dnF D aw g b day k
  | 0 => .inr rfl
  | k + 1 => goOn_more h (dn_more h k)
theorem line_more {aw aw' : Aw} (h : ∀ i d, aw i d = true → aw' i d = true) (i : Nat) : lineF B D aw' g b day i = -1 ∨ lineF B D aw' g b day i = lineF B D aw g b day i := by
  unfold lineF
  split
  · exact up_more h _
  · exact dn_more h _
theorem goOn_congr {aw aw' : Aw} {p i p' i' : Nat} {is is' : Bool} {c : Int} (h1 : is = is') (h2 : is = true → aw p (c + g) = aw' p' (c + g)) (h3 : is = true → aw i (c + g) = aw' i' (c + g)) : goOn D aw g p i is c = goOn D aw' g p' i' is' c := by
  subst h1
  unfold goOn
  cases is with
  | false => rw [if_neg (by simp), if_neg (by simp)]
  | true => rw [h2 rfl, h3 rfl]
theorem line_congr {aw aw' : Aw} (h : ∀ i d, i < B → aw i d = aw' i d) (hb : b < B) (i : Nat) : lineF B D aw g b day i = lineF B D aw' g b day i := by
  have h1 : ∀ k, upF B D aw g b day k = upF B D aw' g b day k := fun k => by
    induction k with
    | zero => rfl
    | succ k ih =>
      rw [upF, upF, ih]
      exact goOn_congr rfl (fun q => h _ _ (by simp at q; omega)) (fun q => h _ _ (by simp at q; omega))
  have h2 : ∀ k, dnF D aw g b day k = dnF D aw' g b day k := fun k => by
    induction k with
    | zero => rfl
    | succ k ih =>
      rw [dnF, dnF, ih]
      exact goOn_congr rfl (fun q => h _ _ (by omega)) (fun q => h _ _ (by omega))
  unfold lineF
  split
  · exact h1 _
  · exact h2 _
theorem up_mirror {aw aw' : Aw} (h : ∀ i d, i < B → aw' (B - 1 - i) d = aw i d) (hb : b < B) : ∀ k, upF B D aw' g (B - 1 - b) day k = dnF D aw g b day k
  | 0 => rfl
  | k + 1 => by
    rw [upF, dnF, up_mirror h hb k]
    by_cases hk : k + 1 ≤ b
    · refine goOn_congr (by simp; omega) (fun _ => ?_) (fun _ => ?_)
      · have := h (b - k) (dnF D aw g b day k + g) (by omega)
        rw [← this]
        congr 1
        omega
      · have := h (b - k - 1) (dnF D aw g b day k + g) (by omega)
        rw [← this]
        congr 1
        omega
    · unfold goOn
      rw [if_neg (by simp; omega), if_neg (by simp; omega)]
theorem dn_mirror {aw aw' : Aw} (h : ∀ i d, i < B → aw' (B - 1 - i) d = aw i d) (hb : b < B) : ∀ k, dnF D aw' g (B - 1 - b) day k = upF B D aw g b day k
  | 0 => rfl
  | k + 1 => by
    rw [upF, dnF, dn_mirror h hb k]
    by_cases hk : b + k + 1 < B
    · refine goOn_congr (by simp; omega) (fun _ => ?_) (fun _ => ?_)
      · have := h (b + k) (upF B D aw g b day k + g) (by omega)
        rw [← this]
        congr 1
        omega
      · have := h (b + k + 1) (upF B D aw g b day k + g) (by omega)
        rw [← this]
        congr 1
        omega
    · unfold goOn
      rw [if_neg (by simp; omega), if_neg (by simp; omega)]
theorem line_mirror {aw aw' : Aw} (h : ∀ i d, i < B → aw' (B - 1 - i) d = aw i d) (hb : b < B) {i : Nat} (hi : i < B) : lineF B D aw' g (B - 1 - b) day (B - 1 - i) = lineF B D aw g b day i := by
  unfold lineF
  rcases Nat.lt_trichotomy i b with hh | hh | hh
  · rw [if_pos (by omega), if_neg (by omega), up_mirror h hb, show B - 1 - i - (B - 1 - b) = b - i by omega]
  · subst hh
    rw [if_pos (Nat.le_refl _), if_pos (Nat.le_refl _), Nat.sub_self, Nat.sub_self]
    rfl
  · rw [if_neg (by omega), if_pos (by omega), dn_mirror h hb, show B - 1 - b - (B - 1 - i) = i - b by omega]
end
structure Mv where
  bed : Int
  day : Int
structure Hd where
  bed : Int
  day : Int
  cough : Bool
def awayL (ms : List Mv) : Aw := fun b d => ms.any fun m => decide (m.bed = b) && decide (m.day ≤ d)
theorem away_iff {ms : List Mv} {b : Nat} {d : Int} : awayL ms b d = true ↔ ∃ m ∈ ms, m.bed = b ∧ m.day ≤ d := by
  simp only [awayL, List.any_eq_true, Bool.and_eq_true, decide_eq_true_eq]
theorem away_later {ms : List Mv} {b : Nat} {d d' : Int} (h : awayL ms b d = true) (hd : d ≤ d') : awayL ms b d' = true := by
  obtain ⟨m, h1, h2, h3⟩ := away_iff.1 h
  exact away_iff.2 ⟨m, h1, h2, by omega⟩
structure Tr where
  bed : Nat
  day : Int
  out : Int
  goes : Int
def candsF (B : Nat) (until_ oL oH gL gH : Int) : List Tr :=
  (List.range' 0 B).flatMap fun bed => (List.range' 0 (until_ + 1).toNat).flatMap fun (day : Nat) => (List.range' 0 (oH - oL + 1).toNat).flatMap fun (o : Nat) => (List.range' 0 (gH - gL + 1).toNat).map fun (g : Nat) => ⟨bed, day, oL + o, gL + g⟩
def caughtT (B : Nat) (D : Int) (aw : Aw) (t : Tr) : Nat → Int := lineF B D aw t.goes t.bed t.day
def coughsT (c : Int) (out day : Int) : Bool := decide (0 ≤ c) && decide (c + out ≤ day)
def rightT (B : Nat) (D : Int) (aw : Aw) (hs : List Hd) (t : Tr) : Bool := hs.all fun h => coughsT (caughtT B D aw t h.bed.toNat) t.out h.day == h.cough
def truthsF (B : Nat) (D : Int) (begins : Nat → Bool) (until_ oL oH gL gH : Int) (ms : List Mv) (hs : List Hd) : List Tr :=
  (candsF B until_ oL oH gL gH).filter fun t => begins t.bed && (!awayL ms t.bed t.day && rightT B D (awayL ms) hs t)
theorem mem_cands {B : Nat} {u oL oH gL gH : Int} {t : Tr} (hu : 0 ≤ u) : t ∈ candsF B u oL oH gL gH ↔ t.bed < B ∧ 0 ≤ t.day ∧ t.day ≤ u ∧ oL ≤ t.out ∧ t.out ≤ oH ∧ gL ≤ t.goes ∧ t.goes ≤ gH := by
  simp only [candsF, List.mem_flatMap, List.mem_map, List.mem_range'_1]
  constructor
  · rintro ⟨bed, h1, day, h2, o, h3, g, h4, rfl⟩
    dsimp only
    omega
  · intro h
    exact ⟨t.bed, by omega, t.day.toNat, by omega, (t.out - oL).toNat, by omega, (t.goes - gL).toNat, by omega, by
      cases t
      dsimp only at h ⊢
      congr 1 <;> omega⟩
theorem mem_truths {B : Nat} {D : Int} {begins : Nat → Bool} {u oL oH gL gH : Int} {ms : List Mv} {hs : List Hd} {t : Tr} (hu : 0 ≤ u) : t ∈ truthsF B D begins u oL oH gL gH ms hs ↔ (t.bed < B ∧ 0 ≤ t.day ∧ t.day ≤ u ∧ oL ≤ t.out ∧ t.out ≤ oH ∧ gL ≤ t.goes ∧ t.goes ≤ gH) ∧ begins t.bed = true ∧ awayL ms t.bed t.day = false ∧ rightT B D (awayL ms) hs t = true := by
  rw [truthsF, List.mem_filter, mem_cands hu]
  simp only [Bool.and_eq_true, Bool.not_eq_true']
theorem right_more {B : Nat} {D : Int} {aw : Aw} {hs : List Hd} {h : Hd} {t : Tr} : rightT B D aw (hs ++ [h]) t = (rightT B D aw hs t && (coughsT (caughtT B D aw t h.bed.toNat) t.out h.day == h.cough)) := by
  simp [rightT, List.all_append]
theorem truths_more {B : Nat} {D : Int} {begins : Nat → Bool} {u oL oH gL gH : Int} {ms : List Mv} {hs : List Hd} {h : Hd} : truthsF B D begins u oL oH gL gH ms (hs ++ [h]) = (truthsF B D begins u oL oH gL gH ms hs).filter fun t => coughsT (caughtT B D (awayL ms) t h.bed.toNat) t.out h.day == h.cough := by
  rw [truthsF, truthsF, List.filter_filter]
  congr 1
  funext t
  rw [right_more]
  cases begins t.bed <;> cases awayL ms t.bed t.day <;> cases rightT B D (awayL ms) hs t <;> cases (coughsT (caughtT B D (awayL ms) t h.bed.toNat) t.out h.day == h.cough) <;> rfl
end Go.Cold

namespace Go.Cold
def cellD (B : Nat) (aw : Aw) (g d : Int) (l : Nat → Int) (i : Nat) : Nat → Int := fun j =>
  if j = i ∧ (l i < 0 ∧ aw i d = false ∧ ((1 ≤ i ∧ 0 ≤ l (i - 1) ∧ l (i - 1) + g = d ∧ aw (i - 1) d = false) ∨ (i + 1 < B ∧ 0 ≤ l (i + 1) ∧ l (i + 1) + g = d ∧ aw (i + 1) d = false))) then d else l j
def placeF (B : Nat) (aw : Aw) (g d : Int) : Nat → Nat → (Nat → Int) → Nat → Int
  | 0, _, l => l
  | n + 1, i, l => placeF B aw g d n (i + 1) (cellD B aw g d l i)
theorem place_step {B : Nat} {aw : Aw} {g d : Int} (hg : 0 < g) (l0 : Nat → Int) : ∀ (n i : Nat) (l : Nat → Int), (∀ j, j < i → l j = stepD B aw g d l0 j) → (∀ j, i ≤ j → l j = l0 j) →
    ∀ j, placeF B aw g d n i l j = if j < i + n then stepD B aw g d l0 j else l0 j
  | 0, i, l, h1, h2, j => by
    unfold placeF
    by_cases h : j < i
    · rw [if_pos (by omega), h1 j h]
    · rw [if_neg (by omega), h2 j (by omega)]
  | n + 1, i, l, h1, h2, j => by
    rw [placeF, place_step hg l0 n (i + 1) (cellD B aw g d l i) (fun k hk => ?_) (fun k hk => ?_) j, show i + 1 + n = i + (n + 1) by omega]
    · unfold cellD
      by_cases he : k = i
      · subst he
        have e0 : l k = l0 k := h2 k (Nat.le_refl _)
        have e1 : l (k + 1) = l0 (k + 1) := h2 (k + 1) (by omega)
        have e2 : (1 ≤ k ∧ 0 ≤ l (k - 1) ∧ l (k - 1) + g = d ∧ aw (k - 1) d = false) ↔ (1 ≤ k ∧ 0 ≤ l0 (k - 1) ∧ l0 (k - 1) + g = d ∧ aw (k - 1) d = false) := by
          by_cases hk1 : 1 ≤ k
          · have e3 := h1 (k - 1) (by omega)
            have e4 : l (k - 1) = d ∧ l0 (k - 1) < 0 ∨ l (k - 1) = l0 (k - 1) := by
              rw [e3]
              unfold stepD
              split
              · rename_i hc; exact .inl ⟨rfl, hc.1⟩
              · exact .inr rfl
            rcases e4 with ⟨a, b⟩ | a
            · constructor
              · rintro ⟨_, _, q, _⟩; omega
              · rintro ⟨_, q, _⟩; omega
            · rw [a]
          · constructor <;> (rintro ⟨q, _⟩; omega)
        simp only [true_and, e0, e1, e2]
        rfl
      · rw [if_neg (by omega)]
        exact h1 k (by omega)
    · unfold cellD
      rw [if_neg (by omega)]
      exact h2 k (by omega)
theorem place_all {B : Nat} {aw : Aw} {g d : Int} (hg : 0 < g) (l : Nat → Int) {j : Nat} (hj : j < B) : placeF B aw g d B 0 l j = stepD B aw g d l j := by
  rw [place_step hg l B 0 l (fun j h => by omega) (fun _ _ => rfl) j, if_pos (by omega)]
def cnt {α : Type} (p : α → Bool) (l : List α) : Nat := (l.filter p).length
def votesP (some_ all_ : Nat) : Int := (if 0 < some_ then 1 else 0) + if some_ = all_ then 1 else 0
def votesR (some_ all_ : Nat) : Int := if some_ = 0 then 0 else if some_ = all_ then 2 else 1
theorem votes_same {s a : Nat} (h : 0 < a) : votesP s a = votesR s a := by
  unfold votesP votesR
  by_cases h0 : s = 0
  · subst h0; rw [if_neg (by omega), if_neg (by omega), if_pos rfl]; rfl
  · rw [if_pos (by omega), if_neg h0]
    split <;> rfl
theorem cnt_le {α : Type} (p : α → Bool) (l : List α) : cnt p l ≤ l.length := List.length_filter_le _ _
theorem cnt_zero {α : Type} {p : α → Bool} {l : List α} : cnt p l = 0 ↔ ∀ t ∈ l, p t = false := by
  simp [cnt, List.filter_eq_nil_iff]
theorem cnt_all {α : Type} {p : α → Bool} {l : List α} : cnt p l = l.length ↔ ∀ t ∈ l, p t = true := by
  rw [cnt, List.length_filter_eq_length_iff]
theorem votes_none {α : Type} {p : α → Bool} {l : List α} (h : l ≠ []) : votesP (cnt p l) l.length = 0 ↔ ∀ t ∈ l, p t = false := by
  rw [votes_same (List.length_pos_iff.2 h), votesR, ← cnt_zero]
  constructor
  · intro hh
    by_cases h0 : cnt p l = 0
    · exact h0
    · rw [if_neg h0] at hh
      split at hh <;> omega
  · intro hh; rw [if_pos hh]
theorem votes_each {α : Type} {p : α → Bool} {l : List α} (h : l ≠ []) : votesP (cnt p l) l.length = 2 ↔ ∀ t ∈ l, p t = true := by
  have hl := List.length_pos_iff.2 h
  rw [votes_same hl, votesR, ← cnt_all]
  constructor
  · intro hh
    by_cases h0 : cnt p l = 0
    · rw [if_pos h0] at hh; omega
    · rw [if_neg h0] at hh
      split at hh
      · assumption
      · omega
  · intro hh
    rw [if_neg (by omega), if_pos hh]
theorem votes_range (s a : Nat) : 0 ≤ votesP s a ∧ votesP s a ≤ 2 := by
  unfold votesP; split <;> split <;> omega
theorem votes_mono {α : Type} {p q : α → Bool} {l : List α} (h : l ≠ []) (hpq : ∀ t ∈ l, p t = true → q t = true) : votesP (cnt p l) l.length ≤ votesP (cnt q l) l.length := by
  have r1 := votes_range (cnt p l) l.length
  have r2 := votes_range (cnt q l) l.length
  by_cases h2 : votesP (cnt p l) l.length = 2
  · have := (votes_each h).1 h2
    have := (votes_each (p := q) h).2 fun t ht => hpq t ht (this t ht)
    omega
  · by_cases h0 : votesP (cnt q l) l.length = 0
    · have := (votes_none h).1 h0
      have := (votes_none (p := p) h).2 fun t ht => by
        cases hp : p t with
        | false => rfl
        | true =>
          have h1 := this t ht
          rw [hpq t ht hp] at h1
          exact h1
      omega
    · omega
def loE (l : List Int) (a : Int) : Int := l.foldl min a
def hiE (l : List Int) (a : Int) : Int := l.foldl max a
theorem loE_le : ∀ (l : List Int) (a : Int), loE l a ≤ a ∧ ∀ n ∈ l, loE l a ≤ n
  | [], a => ⟨Int.le_refl _, fun _ h => by cases h⟩
  | b :: l, a => by
    obtain ⟨h1, h2⟩ := loE_le l (min a b)
    have e : loE (b :: l) a = loE l (min a b) := rfl
    refine ⟨by rw [e]; omega, fun n hn => ?_⟩
    rcases List.mem_cons.1 hn with rfl | hn
    · rw [e]; omega
    · rw [e]; exact h2 n hn
theorem hiE_le : ∀ (l : List Int) (a : Int), a ≤ hiE l a ∧ ∀ n ∈ l, n ≤ hiE l a
  | [], a => ⟨Int.le_refl _, fun _ h => by cases h⟩
  | b :: l, a => by
    obtain ⟨h1, h2⟩ := hiE_le l (max a b)
    have e : hiE (b :: l) a = hiE l (max a b) := rfl
    refine ⟨by rw [e]; omega, fun n hn => ?_⟩
    rcases List.mem_cons.1 hn with rfl | hn
    · rw [e]; omega
    · rw [e]; exact h2 n hn
theorem loE_is : ∀ (l : List Int) (a : Int), loE l a = a ∨ loE l a ∈ l
  | [], a => .inl rfl
  | b :: l, a => by
    have e : loE (b :: l) a = loE l (min a b) := rfl
    rw [e]
    rcases loE_is l (min a b) with h | h
    · rw [h]
      rcases Int.le_total a b with h' | h'
      · left; omega
      · right; rw [show min a b = b by omega]; exact List.mem_cons_self ..
    · exact .inr (List.mem_cons_of_mem _ h)
theorem hiE_is : ∀ (l : List Int) (a : Int), hiE l a = a ∨ hiE l a ∈ l
  | [], a => .inl rfl
  | b :: l, a => by
    have e : hiE (b :: l) a = hiE l (max a b) := rfl
    rw [e]
    rcases hiE_is l (max a b) with h | h
    · rw [h]
      rcases Int.le_total a b with h' | h'
      · right; rw [show max a b = b by omega]; exact List.mem_cons_self ..
      · left; omega
    · exact .inr (List.mem_cons_of_mem _ h)
def ends (l : List Int) : Int × Int := (loE l (l.headD 0), hiE l (l.headD 0))
theorem ends_covers {l : List Int} {n : Int} (h : n ∈ l) : (ends l).1 ≤ n ∧ n ≤ (ends l).2 := ⟨(loE_le _ _).2 n h, (hiE_le _ _).2 n h⟩
theorem ends_mem {l : List Int} (h : l ≠ []) : (ends l).1 ∈ l ∧ (ends l).2 ∈ l := by
  cases l with
  | nil => exact absurd rfl h
  | cons a l =>
    have h0 : a ∈ a :: l := List.mem_cons_self ..
    constructor
    · rcases loE_is (a :: l) a with e | e
      · show loE (a :: l) a ∈ _
        rw [e]; exact h0
      · exact e
    · rcases hiE_is (a :: l) a with e | e
      · show hiE (a :: l) a ∈ _
        rw [e]; exact h0
      · exact e
theorem ends_sub {l m : List Int} (h : ∀ n ∈ m, n ∈ l) (hm : m ≠ []) : (ends l).1 ≤ (ends m).1 ∧ (ends m).2 ≤ (ends l).2 :=
  ⟨(ends_covers (h _ (ends_mem hm).1)).1, (ends_covers (h _ (ends_mem hm).2)).2⟩
def daysOf (f : Tr → Int) (l : List Tr) : List Int := (l.map f).filter fun n => decide (0 ≤ n)
theorem mem_days {f : Tr → Int} {l : List Tr} {n : Int} : n ∈ daysOf f l ↔ 0 ≤ n ∧ ∃ t ∈ l, f t = n := by
  simp only [daysOf, List.mem_filter, List.mem_map, decide_eq_true_eq]
  constructor
  · rintro ⟨h1, h2⟩; exact ⟨h2, h1⟩
  · rintro ⟨h1, h2⟩; exact ⟨h2, h1⟩
def illT (c d : Int) : Bool := decide (0 ≤ c) && decide (c ≤ d)
theorem ill_later {c d d' : Int} (h : illT c d = true) (hd : d ≤ d') : illT c d' = true := by
  simp only [illT, Bool.and_eq_true, decide_eq_true_eq] at h ⊢
  omega
theorem ill_cough {c o d : Int} (ho : 0 ≤ o) (h : coughsT c o d = true) : illT c d = true := by
  simp only [illT, coughsT, Bool.and_eq_true, decide_eq_true_eq] at h ⊢
  omega
end Go.Cold

namespace Go.Cold
open Go.Least (chooseG wrongG refG sel incFrom fromOf)
theorem choose_len {ok : List Int → Bool} {T d : Nat} {l m : List Int} (h : chooseG ok T d l = some m) : m.length = l.length + d := by
  obtain ⟨e, h1, h2, _⟩ := Go.Least.choose_some ok T d l m h
  rw [h1, List.length_append, h2]
theorem choose_congr {ok ok' : List Int → Bool} {T : Nat} : ∀ (d : Nat) (l : List Int), (∀ m : List Int, m.length = l.length + d → ok m = ok' m) → chooseG ok T d l = chooseG ok' T d l
  | 0, l, h => by rw [chooseG, chooseG, h l (by simp)]
  | d + 1, l, h => by
    rw [chooseG, chooseG]
    congr 1
    funext n
    exact choose_congr d _ fun m hm => h m (by rw [hm]; simp; omega)
theorem choose_none {ok : List Int → Bool} {T d : Nat} {l : List Int} (h : ∀ e : List Int, e.length = d → ok (l ++ e) = false) : chooseG ok T d l = none := by
  cases hc : chooseG ok T d l with
  | none => rfl
  | some m =>
    obtain ⟨e, h1, h2, _, h4⟩ := Go.Least.choose_some ok T d l m hc
    rw [h1, h e h2] at h4
    cases h4
theorem wrong_ext {ok : List Int → Bool} {T : Nat} : ∀ (n k many : Nat), (∀ j, many + n ≤ j → j < many + n + k → chooseG ok T j [] = none) → wrongG ok T many (n + k) = wrongG ok T many n
  | 0, 0, many, h => rfl
  | 0, k + 1, many, h => by
    have := wrong_ext 0 k (many + 1) fun j h1 h2 => h j (by omega) (by omega)
    rw [Nat.zero_add] at this ⊢
    show (match chooseG ok T many [] with | some m => some m | none => wrongG ok T (many + 1) k) = none
    rw [h many (by omega) (by omega)]
    exact this
  | n + 1, k, many, h => by
    rw [show n + 1 + k = n + k + 1 by omega, wrongG, wrongG]
    cases chooseG ok T many [] with
    | some m => rfl
    | none => exact wrong_ext n k (many + 1) fun j h1 h2 => h j (by omega) (by omega)
theorem wrong_congr {ok ok' : List Int → Bool} {T : Nat} : ∀ (n many : Nat), (∀ m : List Int, m.length < many + n → ok m = ok' m) → wrongG ok T many n = wrongG ok' T many n
  | 0, many, h => rfl
  | n + 1, many, h => by
    rw [wrongG, wrongG, choose_congr many [] fun m hm => h m (by rw [hm]; simp), wrong_congr n (many + 1) fun m hm => h m (by omega)]
theorem wrong_rooms (ok : List Int → Bool) {T : Nat} (hT : T ≤ 62) (R : Nat) : wrongG ok T 0 (R + 1) = refG (fun l => decide (l.length ≤ R) && ok l) T := by
  rw [← Go.Least.wrong_eq _ hT]
  have h1 : wrongG ok T 0 (R + 1) = wrongG (fun l => decide (l.length ≤ R) && ok l) T 0 (R + 1) := wrong_congr _ _ fun m hm => by
    have : m.length ≤ R := by omega
    simp [this]
  rw [h1]
  rcases Nat.le_total R T with h | h
  · obtain ⟨k, rfl⟩ : ∃ k, T = R + k := ⟨T - R, by omega⟩
    rw [show R + k + 1 = R + 1 + k by omega]
    exact (wrong_ext _ _ _ fun j h1 h2 => choose_none fun e he => by
      have : ¬ ([] ++ e).length ≤ R := by simp; omega
      simp only [this, decide_false, Bool.false_and]).symm
  · obtain ⟨k, rfl⟩ : ∃ k, R = T + k := ⟨R - T, by omega⟩
    rw [show T + k + 1 = T + 1 + k by omega]
    refine wrong_ext _ _ _ fun j h1 h2 => ?_
    cases hc : chooseG (fun l => decide (l.length ≤ T + k) && ok l) T j [] with
    | none => rfl
    | some m =>
      obtain ⟨e, h1', h2', h3, _⟩ := Go.Least.choose_some _ T j [] m hc
      have := Go.Least.inc_length T e 0 (by omega) (by simpa [fromOf] using h3)
      omega
theorem choose_skip {ok : List Int → Bool} {T d : Nat} {l : List Int} (no : Nat → Bool) (h : ∀ (m : List Int) (y : Nat), (y : Int) ∈ m → no y = true → ok m = false) :
    ((List.range' (fromOf l) (T - fromOf l)).findSome? fun (n : Nat) => if no n then none else chooseG ok T d (l ++ [(n : Int)])) = chooseG ok T (d + 1) l := by
  rw [chooseG]
  congr 1
  funext n
  cases hn : no n with
  | false => rfl
  | true =>
    rw [if_pos rfl]
    exact (choose_none fun e _ => h _ n (by simp) hn).symm
def compactF : List Int → List Int
  | [] => []
  | [a] => [a]
  | a :: b :: l => if a = b then compactF (b :: l) else a :: compactF (b :: l)
theorem mem_compact {y : Int} : ∀ l : List Int, y ∈ compactF l ↔ y ∈ l
  | [] => Iff.rfl
  | [a] => Iff.rfl
  | a :: b :: l => by
    rw [compactF]
    split
    · rename_i h
      rw [mem_compact (b :: l), List.mem_cons (a := y) (b := a), h]
      constructor
      · exact .inr
      · rintro (rfl | h')
        · exact List.mem_cons_self ..
        · exact h'
    · rw [List.mem_cons, List.mem_cons (b := a), mem_compact (b :: l)]
theorem compact_up : ∀ l : List Int, l.Pairwise (· ≤ ·) → (compactF l).Pairwise (· < ·)
  | [], _ => .nil
  | [a], _ => List.pairwise_singleton _ _
  | a :: b :: l, h => by
    rw [List.pairwise_cons] at h
    rw [compactF]
    split
    · exact compact_up (b :: l) h.2
    · rename_i hne
      rw [List.pairwise_cons]
      refine ⟨fun y hy => ?_, compact_up (b :: l) h.2⟩
      rw [mem_compact] at hy
      have h1 := h.1 b (List.mem_cons_self ..)
      have h2 : b ≤ y := by
        rcases List.mem_cons.1 hy with rfl | hy
        · exact Int.le_refl _
        · exact (List.pairwise_cons.1 h.2).1 y hy
      omega
theorem sel_up (p : Nat → Bool) : ∀ (n k : Nat), (sel p k n).Pairwise (· < ·)
  | 0, _ => .nil
  | n + 1, k => by
    rw [sel, List.pairwise_append]
    refine ⟨by split <;> simp, sel_up p n (k + 1), fun a ha b hb => ?_⟩
    obtain ⟨j, rfl, h1, _⟩ := (Go.Least.mem_sel p b n (k + 1)).1 hb
    split at ha
    · rw [List.mem_singleton.1 ha]; omega
    · cases ha
theorem up_uniq : ∀ l m : List Int, l.Pairwise (· < ·) → m.Pairwise (· < ·) → (∀ y, y ∈ l ↔ y ∈ m) → l = m
  | [], [], _, _, _ => rfl
  | [], b :: m, _, _, h => absurd ((h b).2 (List.mem_cons_self ..)) List.not_mem_nil
  | a :: l, [], _, _, h => absurd ((h a).1 (List.mem_cons_self ..)) List.not_mem_nil
  | a :: l, b :: m, hl, hm, h => by
    rw [List.pairwise_cons] at hl hm
    have h1 := (h a).1 (List.mem_cons_self ..)
    have h2 := (h b).2 (List.mem_cons_self ..)
    have hab : a = b := by
      rcases List.mem_cons.1 h1 with e | h1
      · exact e
      · rcases List.mem_cons.1 h2 with e | h2
        · exact e.symm
        · have := hm.1 a h1
          have := hl.1 b h2
          omega
    subst hab
    rw [up_uniq l m hl.2 hm.2 fun y => ?_]
    constructor
    · intro hy
      rcases List.mem_cons.1 ((h y).1 (List.mem_cons_of_mem _ hy)) with e | e
      · have := hl.1 y hy; omega
      · exact e
    · intro hy
      rcases List.mem_cons.1 ((h y).2 (List.mem_cons_of_mem _ hy)) with e | e
      · have := hm.1 y hy; omega
      · exact e
theorem compact_sel {B : Nat} {l : List Int} (h : l.Pairwise (· ≤ ·)) (hb : ∀ y ∈ l, 0 ≤ y ∧ y < B) : compactF l = sel (fun i => decide ((i : Int) ∈ l)) 0 B := by
  refine up_uniq _ _ (compact_up l h) (sel_up _ _ _) fun y => ?_
  rw [mem_compact, Go.Least.mem_sel]
  constructor
  · intro hy
    have := hb y hy
    exact ⟨y.toNat, by omega, Nat.zero_le _, by omega, by rw [decide_eq_true_iff, show ((y.toNat : Nat) : Int) = y by omega]; exact hy⟩
  · rintro ⟨j, rfl, _, _, hj⟩
    exact of_decide_eq_true hj
theorem flat_up (f : Nat → List Tr) (hf : ∀ k, ∀ t ∈ f k, t.bed = k) : ∀ (n k : Nat), (((List.range' k n).flatMap f).map fun t => (t.bed : Int)).Pairwise (· ≤ ·)
  | 0, k => .nil
  | n + 1, k => by
    rw [List.range'_succ, List.flatMap_cons, List.map_append, List.pairwise_append]
    refine ⟨?_, flat_up f hf n (k + 1), fun a ha b hb => ?_⟩
    · rw [List.pairwise_map]
      refine List.pairwise_of_forall_mem_list fun a ha b hb => ?_
      rw [hf k a ha, hf k b hb]
      exact Int.le_refl _
    · obtain ⟨t, ht, rfl⟩ := List.mem_map.1 ha
      obtain ⟨u, hu, rfl⟩ := List.mem_map.1 hb
      obtain ⟨j, hj, hu⟩ := List.mem_flatMap.1 hu
      rw [List.mem_range'_1] at hj
      rw [hf k t ht, hf j u hu]
      omega
theorem truths_up {B : Nat} {D : Int} {begins : Nat → Bool} {u oL oH gL gH : Int} {ms : List Mv} {hs : List Hd} : ((truthsF B D begins u oL oH gL gH ms hs).map fun t => (t.bed : Int)).Pairwise (· ≤ ·) := by
  have h : ((candsF B u oL oH gL gH).map fun t => (t.bed : Int)).Pairwise (· ≤ ·) := by
    refine flat_up _ (fun k t ht => ?_) B 0
    simp only [List.mem_flatMap, List.mem_map] at ht
    obtain ⟨day, _, o, _, g, _, rfl⟩ := ht
    rfl
  rw [List.pairwise_map] at h ⊢
  exact h.filter _
end Go.Cold
