/- This text shows what is told of a cold: plain. No conditions of its own. -/
import Derived.Test.YtknklhodhkohlaaDoorPlainA
set_option linter.unusedSimpArgs false
set_option linter.unusedVariables false
namespace Go.Cold
open Go.Least (sel)
structure Bk where
  B : Nat
  D : Int
  begins : Nat → Bool
  u : Int
  oL : Int
  oH : Int
  gL : Int
  gH : Int
  ms : List Mv
  hs : List Hd
structure Bk.Ok (x : Bk) : Prop where
  b1 : 1 ≤ x.B
  b5 : x.B ≤ 5
  d1 : 1 ≤ x.D
  d6 : x.D ≤ 6
  u0 : 0 ≤ x.u
  u1 : x.u ≤ x.D - 1
  o1 : 1 ≤ x.oL
  o2 : x.oL ≤ x.oH
  o3 : x.oH ≤ 3
  g1 : 1 ≤ x.gL
  g2 : x.gL ≤ x.gH
  g3 : x.gH ≤ 3
  ms : ∀ m ∈ x.ms, 0 ≤ m.bed ∧ m.bed < x.B ∧ 1 ≤ m.day ∧ m.day ≤ x.D - 1
  hs : ∀ h ∈ x.hs, 0 ≤ h.bed ∧ h.bed < x.B ∧ 0 ≤ h.day ∧ h.day ≤ x.D - 1
  some_ : ∃ i, i < x.B ∧ x.begins i = true
def Bk.tr (x : Bk) : List Tr := truthsF x.B x.D x.begins x.u x.oL x.oH x.gL x.gH x.ms x.hs
def Bk.at (x : Bk) (t : Tr) (bed : Nat) : Int := caughtT x.B x.D (awayL x.ms) t bed
def Bk.illV (x : Bk) (bed : Nat) (d : Int) : Int := votesP (cnt (fun t => illT (x.at t bed) d) x.tr) x.tr.length
def Bk.coughV (x : Bk) (bed : Nat) (d : Int) : Int := votesP (cnt (fun t => coughsT (x.at t bed) t.out d) x.tr) x.tr.length
def Bk.caughtL (x : Bk) (bed : Nat) : List Int := daysOf (fun t => x.at t bed) x.tr
def Bk.takesL (x : Bk) (kind : Int) : List Int := x.tr.map fun t => if kind = 0 then t.out else t.goes
def Bk.fromL (x : Bk) : List Int := sel (fun i => decide ((i : Int) ∈ x.tr.map fun t => (t.bed : Int))) 0 x.B
def Bk.cleanL (x : Bk) : List Int := sel (fun i => x.tr.all fun t => decide (x.at t i < 0)) 0 x.B
def Bk.fitsV (x : Bk) (h : Hd) : Bool := x.tr.any fun t => coughsT (x.at t h.bed.toNat) t.out h.day == h.cough
section
variable {x : Bk}
theorem mem_tr (hx : x.Ok) {t : Tr} : t ∈ x.tr ↔ (t.bed < x.B ∧ 0 ≤ t.day ∧ t.day ≤ x.u ∧ x.oL ≤ t.out ∧ t.out ≤ x.oH ∧ x.gL ≤ t.goes ∧ t.goes ≤ x.gH) ∧ x.begins t.bed = true ∧ awayL x.ms t.bed t.day = false ∧ ∀ h ∈ x.hs, coughsT (x.at t h.bed.toNat) t.out h.day = h.cough := by
  rw [Bk.tr, mem_truths hx.u0]
  simp only [rightT, List.all_eq_true, beq_iff_eq]
  rfl
theorem at_lt (hx : x.Ok) {t : Tr} (ht : t ∈ x.tr) {i : Nat} (hi : i < x.B) : x.at t i < x.D := by
  obtain ⟨h, _⟩ := (mem_tr hx).1 ht
  have := hx.u1
  have := hx.d1
  exact line_lt (by omega) h.1 hi (by omega)
theorem at_neg (hx : x.Ok) {t : Tr} (ht : t ∈ x.tr) {i : Nat} (hi : i < x.B) : x.at t i = -1 ∨ t.day ≤ x.at t i := by
  obtain ⟨h, _⟩ := (mem_tr hx).1 ht
  have := hx.g1
  by_cases he : i = t.bed
  · right
    subst he
    have : x.at t t.bed = t.day := line_first
    omega
  · rcases line_pos (D := x.D) (aw := awayL x.ms) h.2.1 (show 0 < t.goes by omega) h.1 hi he with h1 | h1
    · exact .inl h1
    · exact .inr (Int.le_of_lt h1)
theorem first_day (hx : x.Ok) (i : Nat) : awayL x.ms i 0 = false := by
  cases h : awayL x.ms i 0 with
  | false => rfl
  | true =>
    obtain ⟨m, h1, _, h2⟩ := away_iff.1 h
    have := hx.ms m h1
    omega
theorem ill_none (hn : x.tr ≠ []) {bed : Nat} {d : Int} : x.illV bed d = 0 ↔ ∀ t ∈ x.tr, illT (x.at t bed) d = false := votes_none hn
theorem ill_each (hn : x.tr ≠ []) {bed : Nat} {d : Int} : x.illV bed d = 2 ↔ ∀ t ∈ x.tr, illT (x.at t bed) d = true := votes_each hn
theorem cough_none (hn : x.tr ≠ []) {bed : Nat} {d : Int} : x.coughV bed d = 0 ↔ ∀ t ∈ x.tr, coughsT (x.at t bed) t.out d = false := votes_none hn
theorem cough_each (hn : x.tr ≠ []) {bed : Nat} {d : Int} : x.coughV bed d = 2 ↔ ∀ t ∈ x.tr, coughsT (x.at t bed) t.out d = true := votes_each hn
theorem cough_ill (hx : x.Ok) (hn : x.tr ≠ []) (bed : Nat) (d : Int) : x.coughV bed d ≤ x.illV bed d := votes_mono hn fun t ht h => by
  have := ((mem_tr hx).1 ht).1
  have := hx.o1
  exact ill_cough (by omega) h
theorem ill_grows (hn : x.tr ≠ []) (bed : Nat) {d d' : Int} (h : d ≤ d') : x.illV bed d ≤ x.illV bed d' := votes_mono hn fun t ht hh => ill_later hh h
theorem ill_last (hx : x.Ok) {t : Tr} (ht : t ∈ x.tr) {i : Nat} (hi : i < x.B) : illT (x.at t i) (x.D - 1) = decide (0 ≤ x.at t i) := by
  have := at_lt hx ht hi
  have h2 : x.at t i ≤ x.D - 1 := by omega
  simp [illT, h2]
theorem clean_iff (hx : x.Ok) (hn : x.tr ≠ []) {bed : Nat} (hb : bed < x.B) : (bed : Int) ∈ x.cleanL ↔ x.illV bed (x.D - 1) = 0 := by
  rw [ill_none hn, Bk.cleanL, Go.Least.mem_sel]
  constructor
  · rintro ⟨j, h1, _, _, h2⟩ t ht
    obtain rfl : bed = j := by omega
    rw [ill_last hx ht hb]
    have := List.all_eq_true.1 h2 t ht
    simp only [decide_eq_true_eq] at this
    simp; omega
  · intro h
    refine ⟨bed, rfl, Nat.zero_le _, by omega, List.all_eq_true.2 fun t ht => ?_⟩
    have := h t ht
    rw [ill_last hx ht hb] at this
    simp at this
    simp; omega
theorem caught_nil (hx : x.Ok) (hn : x.tr ≠ []) {bed : Nat} (hb : bed < x.B) : x.caughtL bed = [] ↔ x.illV bed (x.D - 1) = 0 := by
  rw [ill_none hn]
  constructor
  · intro h t ht
    rw [ill_last hx ht hb]
    cases hd : decide (0 ≤ x.at t bed) with
    | false => rfl
    | true =>
      have : x.at t bed ∈ x.caughtL bed := mem_days.2 ⟨of_decide_eq_true hd, t, ht, rfl⟩
      rw [h] at this
      cases this
  · intro h
    refine List.eq_nil_iff_forall_not_mem.2 fun n hm => ?_
    obtain ⟨h0, t, ht, rfl⟩ := mem_days.1 hm
    have := h t ht
    rw [ill_last hx ht hb] at this
    simp at this
    omega
theorem ill_ends (hx : x.Ok) (hn : x.tr ≠ []) {bed : Nat} (hc : x.caughtL bed ≠ []) (d : Int) :
    (0 < x.illV bed d ↔ (ends (x.caughtL bed)).1 ≤ d) ∧ (x.illV bed d = 2 → (ends (x.caughtL bed)).2 ≤ d) := by
  have hr := votes_range (cnt (fun t => illT (x.at t bed) d) x.tr) x.tr.length
  constructor
  · constructor
    · intro h
      have : ¬ ∀ t ∈ x.tr, illT (x.at t bed) d = false := fun hh => by rw [(ill_none hn).2 hh] at h; omega
      obtain ⟨t, ht⟩ := Classical.not_forall.1 this
      rw [Classical.not_imp] at ht
      have h1 : illT (x.at t bed) d = true := by simpa using ht.2
      simp only [illT, Bool.and_eq_true, decide_eq_true_eq] at h1
      have := (ends_covers (l := x.caughtL bed) (mem_days.2 ⟨h1.1, t, ht.1, rfl⟩)).1
      omega
    · intro h
      obtain ⟨h0, t, ht, he⟩ := mem_days.1 (ends_mem hc).1
      have h1 : illT (x.at t bed) d = true := by
        rw [he]
        simp only [illT, Bool.and_eq_true, decide_eq_true_eq]
        exact ⟨h0, h⟩
      have : x.illV bed d ≠ 0 := fun hz => by
        have := (ill_none hn).1 hz t ht
        rw [h1] at this
        cases this
      unfold Bk.illV at this ⊢
      omega
  · intro h
    obtain ⟨h0, t, ht, he⟩ := mem_days.1 (ends_mem hc).2
    have := (ill_each hn).1 h t ht
    rw [he] at this
    simp only [illT, Bool.and_eq_true, decide_eq_true_eq] at this
    exact this.2
theorem ill_two (hx : x.Ok) (hn : x.tr ≠ []) {bed : Nat} (hb : bed < x.B) (hl : x.illV bed (x.D - 1) = 2) {d : Int} (h : (ends (x.caughtL bed)).2 ≤ d) : x.illV bed d = 2 := by
  rw [ill_each hn] at hl ⊢
  intro t ht
  have h1 := hl t ht
  rw [ill_last hx ht hb, decide_eq_true_eq] at h1
  have := (ends_covers (l := x.caughtL bed) (mem_days.2 ⟨h1, t, ht, rfl⟩)).2
  simp only [illT, Bool.and_eq_true, decide_eq_true_eq]
  omega
def Bk.more (x : Bk) (h : Hd) : Bk := { x with hs := x.hs ++ [h] }
theorem more_tr (x : Bk) (h : Hd) : (x.more h).tr = x.tr.filter fun t => coughsT (x.at t h.bed.toNat) t.out h.day == h.cough := truths_more
theorem fits_iff (h : Hd) : x.fitsV h = true ↔ (x.more h).tr ≠ [] := by
  rw [more_tr, Bk.fitsV, List.any_eq_true]
  constructor
  · rintro ⟨t, ht, hc⟩ he
    have : t ∈ x.tr.filter fun t => coughsT (x.at t h.bed.toNat) t.out h.day == h.cough := List.mem_filter.2 ⟨ht, hc⟩
    rw [he] at this
    cases this
  · intro hne
    obtain ⟨t, ht⟩ := List.exists_mem_of_ne_nil _ hne
    exact ⟨t, (List.mem_filter.1 ht).1, (List.mem_filter.1 ht).2⟩
theorem hears_loud (hn : x.tr ≠ []) (bed : Nat) (d : Int) : x.fitsV ⟨bed, d, true⟩ = decide (0 < x.coughV bed d) := by
  have hr := votes_range (cnt (fun t => coughsT (x.at t bed) t.out d) x.tr) x.tr.length
  rw [Bool.eq_iff_iff, decide_eq_true_iff, Bk.fitsV, List.any_eq_true]
  constructor
  · rintro ⟨t, ht, hc⟩
    have h1 : coughsT (x.at t bed) t.out d = true := by simpa using hc
    have : x.coughV bed d ≠ 0 := fun hz => by
      have := (cough_none hn).1 hz t ht
      rw [h1] at this
      cases this
    unfold Bk.coughV at this ⊢
    omega
  · intro h
    have : ¬ ∀ t ∈ x.tr, coughsT (x.at t bed) t.out d = false := fun hh => by rw [(cough_none hn).2 hh] at h; omega
    obtain ⟨t, ht⟩ := Classical.not_forall.1 this
    rw [Classical.not_imp] at ht
    exact ⟨t, ht.1, by simpa using ht.2⟩
theorem hears_still (hn : x.tr ≠ []) (bed : Nat) (d : Int) : x.fitsV ⟨bed, d, false⟩ = decide (x.coughV bed d < 2) := by
  have hr := votes_range (cnt (fun t => coughsT (x.at t bed) t.out d) x.tr) x.tr.length
  rw [Bool.eq_iff_iff, decide_eq_true_iff, Bk.fitsV, List.any_eq_true]
  constructor
  · rintro ⟨t, ht, hc⟩
    have h1 : coughsT (x.at t bed) t.out d = false := by simpa using hc
    have : x.coughV bed d ≠ 2 := fun hz => by
      have := (cough_each hn).1 hz t ht
      rw [h1] at this
      cases this
    unfold Bk.coughV at this ⊢
    omega
  · intro h
    have : ¬ ∀ t ∈ x.tr, coughsT (x.at t bed) t.out d = true := fun hh => by rw [(cough_each hn).2 hh] at h; omega
    obtain ⟨t, ht⟩ := Classical.not_forall.1 this
    rw [Classical.not_imp] at ht
    exact ⟨t, ht.1, by simpa using ht.2⟩
theorem less_from {y : Bk} (hB : y.B = x.B) (hs : ∀ t ∈ y.tr, t ∈ x.tr) {n : Int} (h : n ∈ y.fromL) : n ∈ x.fromL := by
  rw [Bk.fromL, Go.Least.mem_sel] at h ⊢
  obtain ⟨j, h1, h2, h3, h4⟩ := h
  refine ⟨j, h1, h2, by omega, ?_⟩
  rw [decide_eq_true_iff] at h4 ⊢
  obtain ⟨t, ht, he⟩ := List.mem_map.1 h4
  exact List.mem_map.2 ⟨t, hs t ht, he⟩
theorem less_clean {y : Bk} (hB : y.B = x.B) (ha : ∀ t i, y.at t i = x.at t i) (hs : ∀ t ∈ y.tr, t ∈ x.tr) {n : Int} (h : n ∈ x.cleanL) : n ∈ y.cleanL := by
  rw [Bk.cleanL, Go.Least.mem_sel] at h ⊢
  obtain ⟨j, h1, h2, h3, h4⟩ := h
  refine ⟨j, h1, h2, by omega, List.all_eq_true.2 fun t ht => ?_⟩
  rw [ha]
  exact List.all_eq_true.1 h4 t (hs t ht)
theorem less_ill {y : Bk} (ha : ∀ t i, y.at t i = x.at t i) (hs : ∀ t ∈ y.tr, t ∈ x.tr) (hy : y.tr ≠ []) (hn : x.tr ≠ []) (bed : Nat) (d : Int) (h : x.illV bed d ≠ 1) : y.illV bed d = x.illV bed d := by
  have hr := votes_range (cnt (fun t => illT (x.at t bed) d) x.tr) x.tr.length
  have : x.illV bed d = 0 ∨ x.illV bed d = 2 := by unfold Bk.illV at h ⊢; omega
  rcases this with h0 | h2
  · rw [h0, ill_none hy]
    intro t ht
    rw [ha]
    exact (ill_none hn).1 h0 t (hs t ht)
  · rw [h2, ill_each hy]
    intro t ht
    rw [ha]
    exact (ill_each hn).1 h2 t (hs t ht)
theorem less_takes {y : Bk} (hs : ∀ t ∈ y.tr, t ∈ x.tr) (kind : Int) {n : Int} (h : n ∈ y.takesL kind) : n ∈ x.takesL kind := by
  obtain ⟨t, ht, he⟩ := List.mem_map.1 h
  exact List.mem_map.2 ⟨t, hs t ht, he⟩
theorem less_caught {y : Bk} (ha : ∀ t i, y.at t i = x.at t i) (hs : ∀ t ∈ y.tr, t ∈ x.tr) (bed : Nat) {n : Int} (h : n ∈ y.caughtL bed) : n ∈ x.caughtL bed := by
  obtain ⟨h0, t, ht, he⟩ := mem_days.1 h
  rw [ha] at he
  exact mem_days.2 ⟨h0, t, hs t ht, he⟩
theorem more_sub (h : Hd) : ∀ t ∈ (x.more h).tr, t ∈ x.tr := fun t ht => by
  rw [more_tr] at ht
  exact (List.mem_filter.1 ht).1
theorem more_at (h : Hd) (t : Tr) (i : Nat) : (x.more h).at t i = x.at t i := rfl
end
end Go.Cold

namespace Go.Cold
open Go.Least (sel wrongG refG chooseG bitsL shorterL incFrom)
def keptH (out : Nat → Bool) : List Hd → Nat → List Hd
  | [], _ => []
  | t :: l, k => (if out k then [] else [t]) ++ keptH out l (k + 1)
theorem kept_mem {out : Nat → Bool} {h : Hd} : ∀ (l : List Hd) (k : Nat), h ∈ keptH out l k ↔ ∃ j, ∃ hj : j < l.length, l[j] = h ∧ out (k + j) = false
  | [], k => by simp [keptH]
  | t :: l, k => by
    rw [keptH, List.mem_append, kept_mem l (k + 1)]
    constructor
    · rintro (h1 | ⟨j, hj, h1, h2⟩)
      · cases ho : out k with
        | true => rw [ho, if_pos rfl] at h1; cases h1
        | false =>
          rw [ho, if_neg (by simp)] at h1
          exact ⟨0, by simp, (List.mem_singleton.1 h1).symm, ho⟩
      · exact ⟨j + 1, by simpa using hj, h1, by rw [show k + (j + 1) = k + 1 + j by omega]; exact h2⟩
    · rintro ⟨j, hj, h1, h2⟩
      cases j with
      | zero =>
        left
        rw [show out k = false from h2, if_neg (by simp)]
        exact List.mem_singleton.2 h1.symm
      | succ j => exact .inr ⟨j, by simpa using hj, h1, by rw [show k + 1 + j = k + (j + 1) by omega]; exact h2⟩
theorem kept_none (l : List Hd) : ∀ k, keptH (fun _ => false) l k = l := by
  induction l with
  | nil => intro k; rfl
  | cons t l ih => intro k; rw [keptH, ih]; rfl
theorem kept_congr (f g : Nat → Bool) : ∀ (l : List Hd) (k : Nat), (∀ j, k ≤ j → j < k + l.length → f j = g j) → keptH f l k = keptH g l k
  | [], _, _ => rfl
  | t :: l, k, h => by
    rw [keptH, keptH, h k (Nat.le_refl _) (by simp), kept_congr f g l (k + 1) fun j h1 h2 => h j (by omega) (by rw [List.length_cons]; omega)]
def butF (l : List Int) : Nat → Bool := fun k => decide ((k : Int) ∈ l)
def Bk.left (x : Bk) (l : List Int) : Bk := { x with hs := keptH (butF l) x.hs 0 }
def Bk.okW (x : Bk) (l : List Int) : Bool := !(x.left l).tr.isEmpty
def Bk.wrongL (x : Bk) : List Int := (wrongG x.okW x.hs.length 0 (x.hs.length + 1)).getD []
section
variable {x : Bk}
theorem Bk.Ok.sub (hx : x.Ok) {hs : List Hd} (h : ∀ y ∈ hs, y ∈ x.hs) : Bk.Ok { x with hs := hs } := ⟨hx.b1, hx.b5, hx.d1, hx.d6, hx.u0, hx.u1, hx.o1, hx.o2, hx.o3, hx.g1, hx.g2, hx.g3, hx.ms, fun y hy => hx.hs y (h y hy), hx.some_⟩
theorem left_ok (hx : x.Ok) (l : List Int) : (x.left l).Ok := hx.sub fun y hy => by
  obtain ⟨j, hj, h1, _⟩ := (kept_mem _ _).1 hy
  exact h1 ▸ List.getElem_mem _
theorem tr_sub (hx : x.Ok) {hs hs' : List Hd} (h : ∀ y ∈ hs', y ∈ hs) (h1 : Bk.Ok { x with hs := hs }) (h2 : Bk.Ok { x with hs := hs' }) : ∀ t ∈ Bk.tr { x with hs := hs }, t ∈ Bk.tr { x with hs := hs' } := fun t ht => by
  rw [mem_tr h1] at ht
  rw [mem_tr h2]
  exact ⟨ht.1, ht.2.1, ht.2.2.1, fun y hy => ht.2.2.2 y (h y hy)⟩
theorem bare_true (hx : x.Ok) : Bk.tr { x with hs := [] } ≠ [] := by
  obtain ⟨i, hi, hb⟩ := hx.some_
  have h1 : Bk.Ok { x with hs := [] } := hx.sub fun y hy => by cases hy
  have : (⟨i, 0, x.oL, x.gL⟩ : Tr) ∈ Bk.tr { x with hs := [] } := by
    rw [mem_tr h1]
    refine ⟨⟨hi, Int.le_refl _, hx.u0, Int.le_refl _, hx.o2, Int.le_refl _, hx.g2⟩, hb, first_day hx i, fun y hy => by cases hy⟩
  intro he
  rw [he] at this
  cases this
theorem okW_iff (l : List Int) : x.okW l = true ↔ (x.left l).tr ≠ [] := by
  unfold Bk.okW
  cases (x.left l).tr <;> simp
theorem left_nil : x.left [] = x := by
  unfold Bk.left
  have : butF [] = fun _ => false := by funext k; simp [butF]
  rw [this, kept_none]
theorem kept_all (out : Nat → Bool) : ∀ (l : List Hd) (k : Nat), (∀ j, k ≤ j → j < k + l.length → out j = true) → keptH out l k = []
  | [], _, _ => rfl
  | t :: l, k, h => by
    rw [keptH, h k (Nat.le_refl _) (by simp), kept_all out l (k + 1) fun j h1 h2 => h j (by omega) (by rw [List.length_cons]; omega)]
    rfl
theorem but_bits {T : Nat} (set : Nat) {j : Nat} (hj : j < T) : butF (bitsL set T) j = Go.Least.hasB set j := by
  rw [butF, Bool.eq_iff_iff, decide_eq_true_iff, bitsL, Go.Least.mem_sel]
  constructor
  · rintro ⟨i, h1, _, _, h2⟩
    obtain rfl : j = i := by omega
    exact h2
  · intro h; exact ⟨j, rfl, Nat.zero_le _, by omega, h⟩
theorem full_true (hx : x.Ok) {T : Nat} (hT : x.hs.length = T) (h62 : T ≤ 62) : x.okW (bitsL (2 ^ T - 1) T) = true := by
  rw [okW_iff]
  have : keptH (butF (bitsL (2 ^ T - 1) T)) x.hs 0 = [] := kept_all _ _ _ fun j _ hj => by
    rw [but_bits _ (by omega)]
    have h1 : (0 : Int) ≤ (j : Int) := by omega
    have h2 : (j : Int) < 62 := by omega
    have h3 : j < T := by omega
    simp only [Go.Least.hasB, h1, h2, decide_true, Bool.true_and, Int.toNat_natCast, Nat.testBit_two_pow_sub_one, h3]
  show Bk.tr { x with hs := keptH (butF (bitsL (2 ^ T - 1) T)) x.hs 0 } ≠ []
  rw [this]
  exact bare_true hx
theorem wrong_told (hx : x.Ok) (h62 : x.hs.length ≤ 62) : wrongG x.okW x.hs.length 0 (x.hs.length + 1) = some x.wrongL ∧ Go.Least.Told x.okW x.hs.length x.wrongL := by
  cases h : wrongG x.okW x.hs.length 0 (x.hs.length + 1) with
  | none =>
    have := Go.Least.told_none (ok := x.okW) h62 h (2 ^ x.hs.length - 1)
    rw [full_true hx rfl h62] at this
    cases this
  | some w =>
    have e : x.wrongL = w := by rw [Bk.wrongL, h]; rfl
    rw [e]
    exact ⟨rfl, Go.Least.told_some h62 h⟩
theorem wrong_nil (hx : x.Ok) (h62 : x.hs.length ≤ 62) : x.wrongL = [] ↔ x.tr ≠ [] := by
  obtain ⟨_, hT⟩ := wrong_told hx h62
  constructor
  · intro h
    have := hT.fine
    rw [h, okW_iff, left_nil] at this
    exact this
  · intro h
    have h0 : bitsL 0 x.hs.length = [] := by
      have : ∀ n k, sel (fun i => Go.Least.hasB ((0 : Nat) : Int) i) k n = [] := by
        intro n
        induction n with
        | zero => intro k; rfl
        | succ n ih => intro k; rw [sel, ih]; simp [Go.Least.hasB]
      exact this _ 0
    have := hT.least 0 (Nat.two_pow_pos _) (by rw [h0, okW_iff, left_nil]; exact h)
    rw [h0] at this
    cases hw : x.wrongL with
    | nil => rfl
    | cons a w => rw [hw] at this; simp [shorterL] at this
def rightly (x : Bk) (t : Tr) : Bk := { x with hs := x.hs.map fun h => ⟨h.bed, h.day, coughsT (x.at t h.bed.toNat) t.out h.day⟩ }
theorem rightly_ok (hx : x.Ok) (t : Tr) : (rightly x t).Ok := ⟨hx.b1, hx.b5, hx.d1, hx.d6, hx.u0, hx.u1, hx.o1, hx.o2, hx.o3, hx.g1, hx.g2, hx.g3, hx.ms, fun y hy => by
  obtain ⟨h, hh, rfl⟩ := List.mem_map.1 hy
  exact hx.hs h hh, hx.some_⟩
theorem rightly_mem (hx : x.Ok) {t : Tr} (h : t.bed < x.B ∧ 0 ≤ t.day ∧ t.day ≤ x.u ∧ x.oL ≤ t.out ∧ t.out ≤ x.oH ∧ x.gL ≤ t.goes ∧ t.goes ≤ x.gH) (hb : x.begins t.bed = true) (ha : awayL x.ms t.bed t.day = false) : t ∈ (rightly x t).tr := by
  rw [mem_tr (rightly_ok hx t)]
  refine ⟨h, hb, ha, fun y hy => ?_⟩
  obtain ⟨h, hh, rfl⟩ := List.mem_map.1 hy
  rfl
theorem wrong_more (hx : x.Ok) {h : Hd} (hm : (x.more h).Ok) (h62 : x.hs.length + 1 ≤ 62) : x.wrongL.length ≤ (x.more h).wrongL.length := by
  obtain ⟨_, h1⟩ := wrong_told hx (by omega)
  have hl : (x.more h).hs.length = x.hs.length + 1 := by simp [Bk.more]
  obtain ⟨_, h2⟩ := wrong_told hm (by omega)
  rw [hl] at h2
  generalize (x.more h).wrongL = w at *
  obtain ⟨s, hs, hsw⟩ := Go.Least.inc_bits (x.hs.length + 1) (by omega) w h2.inc
  -- the same, of those that there were
  have hsub : ∀ y ∈ keptH (butF (bitsL s x.hs.length)) x.hs 0, y ∈ keptH (butF w) (x.hs ++ [h]) 0 := fun y hy => by
    obtain ⟨j, hj, e1, e2⟩ := (kept_mem _ _).1 hy
    rw [Nat.zero_add] at e2
    refine (kept_mem _ _).2 ⟨j, by simp; omega, by rw [List.getElem_append_left hj]; exact e1, ?_⟩
    rw [Nat.zero_add, ← hsw, but_bits s (by omega)]
    rwa [but_bits s hj] at e2
  have hfine : x.okW (bitsL s x.hs.length) = true := by
    have h3 := h2.fine
    rw [okW_iff] at h3 ⊢
    obtain ⟨t, ht⟩ := List.exists_mem_of_ne_nil _ h3
    have := tr_sub hx (hs := keptH (butF w) (x.hs ++ [h]) 0) (hs' := keptH (butF (bitsL s x.hs.length)) x.hs 0) hsub (left_ok hm w) (left_ok hx _) t ht
    exact List.ne_nil_of_mem this
  have hlen : (bitsL s x.hs.length).length ≤ w.length := by
    rw [← hsw]
    have : ∀ (p : Nat → Bool) (n k : Nat), (sel p k n).length ≤ (sel p k (n + 1)).length := by
      intro p n
      induction n with
      | zero => intro k; simp [sel]
      | succ n ih =>
        intro k
        rw [sel, sel, List.length_append, List.length_append]
        have := ih (k + 1)
        omega
    exact this _ _ _
  obtain ⟨s', hs', hb'⟩ := Go.Least.inc_bits x.hs.length (by omega) _ (Go.Least.bits_inc s x.hs.length)
  have := h1.least s' hs' (by rw [hb']; exact hfine)
  rw [hb'] at this
  simp only [shorterL, Bool.or_eq_false_iff, decide_eq_false_iff_not] at this
  omega
end
end Go.Cold
