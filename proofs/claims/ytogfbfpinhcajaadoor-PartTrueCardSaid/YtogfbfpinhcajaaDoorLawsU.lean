/- This text shows plain facts of what is told: lines, places. No conditions of its own. -/
import Derived.Test.YtogfbfpinhcajaaDoorLawsA
set_option linter.unusedSimpArgs false
set_option linter.unusedVariables false
set_option maxRecDepth 100000
set_option linter.unusedSimpArgs false
set_option linter.unusedVariables false
/-! Plain facts of what is told: lines, places. -/
namespace Go.Ai
open Go.Part (Sp Cp Bk truths cnt at' vals seqs seg sumN worst maxTo)
theorem one_of {α : Type} {l : List α} (hn : l.Nodup) {a : α} (ha : a ∈ l) (h : ∀ b ∈ l, b = a) : l = [a] := by
  cases l with
  | nil => cases ha
  | cons b l =>
    have hb := h b (.head _)
    subst hb
    cases l with
    | nil => rfl
    | cons c l =>
      have hc := h c (.tail _ (.head _))
      subst hc
      simp at hn
/-- The line that is told. -/
theorem line_seg {N v : Nat} {q : List Int} {V : Nat} (hq : q.length = V * N) (hv : v < V) : (List.range' 0 N).map (fun j => at' q (v * N + j)) = seg N q v := by
  have hl := Part.seg_len (k := v) hq hv
  refine List.ext_getElem? fun i => ?_
  by_cases hi : i < N
  · rw [List.getElem?_map, List.getElem?_range' hi]
    have := Part.seg_at (N := N) (q := q) (k := v) hi
    rw [List.getElem?_eq_getElem (by omega)]
    simp only [Option.map_some, Nat.zero_add, Nat.one_mul, Option.some.injEq]
    rw [← this]
    simp [at', List.getElem?_eq_getElem (show i < (seg N q v).length by omega)]
  · rw [List.getElem?_eq_none (by simp; omega), List.getElem?_eq_none (by omega)]
theorem known_iff {T : List (List Int)} {q : List Int} {j : Nat} : knownB T q j = true ↔ ∀ p ∈ T, at' p j = at' q j := by
  rw [knownB, decide_eq_true_eq, ← Part.cnt_all]
  have := Part.cnt_le T j (at' q j)
  omega
theorem lineOf_spec {N v V : Nat} {T : List (List Int)} (hT : ∀ q ∈ T, q.length = V * N) (hv : v < V) (hne : T ≠ []) : (∃ q ∈ T, lineOf T N v = some (seg N q v) ∧ ∀ p ∈ T, seg N p v = seg N q v) ∨ (lineOf T N v = none ∧ ∃ p ∈ T, ∃ q ∈ T, seg N p v ≠ seg N q v) := by
  cases T with
  | nil => exact absurd rfl hne
  | cons q U =>
    have hq := hT q (.head _)
    by_cases h : (List.range N).all (fun j => knownB (q :: U) q (v * N + j)) = true
    · left
      refine ⟨q, .head _, ?_, fun p hp => ?_⟩
      · rw [lineOf, if_pos h, line_seg hq hv]
      · have hlp := Part.seg_len (k := v) (hT p hp) hv
        have hlq := Part.seg_len (k := v) hq hv
        refine List.ext_getElem? fun i => ?_
        by_cases hi : i < N
        · have h1 := known_iff.1 (List.all_eq_true.1 h i (List.mem_range.2 hi)) p hp
          rw [← Part.seg_at hi, ← Part.seg_at hi] at h1
          simp only [at', List.getD_eq_getElem?_getD] at h1
          rw [List.getElem?_eq_getElem (by omega), List.getElem?_eq_getElem (by omega)] at h1 ⊢
          simpa using h1
        · rw [List.getElem?_eq_none (by omega), List.getElem?_eq_none (by omega)]
    · right
      refine ⟨by rw [lineOf, if_neg h], ?_⟩
      rw [Bool.not_eq_true, List.all_eq_false] at h
      obtain ⟨j, hj, hk⟩ := h
      rw [List.mem_range] at hj
      have hk' : ¬ ∀ p ∈ q :: U, at' p (v * N + j) = at' q (v * N + j) := fun hh => hk (known_iff.2 hh)
      have : ∃ p, p ∈ q :: U ∧ at' p (v * N + j) ≠ at' q (v * N + j) := by
        apply Classical.byContradiction
        intro hn
        exact hk' fun p hp => Classical.byContradiction fun hne => hn ⟨p, hp, hne⟩
      obtain ⟨p, hp, hne⟩ := this
      refine ⟨p, hp, q, .head _, fun he => hne ?_⟩
      rw [← Part.seg_at hj, ← Part.seg_at hj, he]
/-- A line is told just if there is one line alone. -/
def places2 (V N : Nat) : List (Nat × Nat) := (List.range' 0 V).flatMap fun v => (List.range' 0 N).map fun i => (v, i)
theorem openS_flat (T : List (List Int)) (V N : Nat) (bet : Int → Int → Bool) : openS T V N bet = (places2 V N).foldl (fun s p => opStep T N bet s p.1 p.2) ⟨0, 0, 0, 4⟩ := by
  unfold openS places2
  rw [List.foldl_flatMap]
  congr 1
  funext s v
  rw [List.foldl_map]
  rfl
def ltP (p q : Nat × Nat) : Prop := p.1 < q.1 ∨ (p.1 = q.1 ∧ p.2 < q.2)
theorem places_pair (V N : Nat) : (places2 V N).Pairwise ltP := by
  unfold places2
  rw [List.flatMap, List.pairwise_flatten]
  constructor
  · intro l hl
    obtain ⟨v, _, rfl⟩ := List.mem_map.1 hl
    rw [List.pairwise_map]
    exact List.Pairwise.imp (fun h => Or.inr ⟨rfl, h⟩) (List.pairwise_lt_range' (s := 0) (n := N))
  · rw [List.pairwise_map]
    refine List.Pairwise.imp (fun h => ?_) (List.pairwise_lt_range' (s := 0) (n := V))
    intro a ha b hb
    obtain ⟨_, _, rfl⟩ := List.mem_map.1 ha
    obtain ⟨_, _, rfl⟩ := List.mem_map.1 hb
    exact .inl h
theorem places2_mem (V N : Nat) (p : Nat × Nat) : p ∈ places2 V N ↔ p.1 < V ∧ p.2 < N := by
  obtain ⟨v, i⟩ := p
  simp only [places2, List.mem_flatMap, List.mem_map, Prod.mk.injEq, List.mem_range'_1]
  constructor
  · rintro ⟨a, ha, b, hb, rfl, rfl⟩; omega
  · rintro ⟨h1, h2⟩; exact ⟨v, by omega, i, by omega, rfl, rfl⟩
/-- A fold over places in their order. -/
theorem fold_inv {α : Type} (f : α → (Nat × Nat) → α) (Q : List (Nat × Nat) → α → Prop) (hstep : ∀ (l : List (Nat × Nat)) (p : Nat × Nat) (a : α), (∀ q ∈ l, ltP q p) → Q l a → Q (l ++ [p]) (f a p)) : ∀ (r l : List (Nat × Nat)) (a : α), (l ++ r).Pairwise ltP → Q l a → Q (l ++ r) (r.foldl f a)
  | [], l, a, _, h => by simpa using h
  | p :: r, l, a, hp, h => by
    have h1 := List.pairwise_append.1 hp
    have := fold_inv f Q hstep r (l ++ [p]) (f a p) (by simpa using hp) (hstep l p a (fun q hq => h1.2.2 q hq p (.head _)) h)
    simpa using this
/-- Which place is told: none, if all are known. -/
structure Told (W : Nat × Nat → Nat) (n : Nat) (l : List (Nat × Nat)) (s : Op) : Prop where
  none : s.e ≠ 0 → s = ⟨0, 0, 0, 4⟩ ∧ ∀ p ∈ l, n ≤ W p
  some : s.e = 0 → ∃ p ∈ l, s.v = (p.1 : Int) ∧ s.i = (p.2 : Int) ∧ s.least = (W p : Int) ∧ W p < n
structure First (W : Nat × Nat → Nat) (n : Nat) (l : List (Nat × Nat)) (s : Op) : Prop extends Told W n l s where
  before : s.e = 0 → ∀ p : Nat × Nat, s.v = (p.1 : Int) → s.i = (p.2 : Int) → ∀ q ∈ l, ltP q p → n ≤ W q
structure Best (W : Nat × Nat → Nat) (n : Nat) (l : List (Nat × Nat)) (s : Op) : Prop extends Told W n l s where
  best : s.e = 0 → ∀ p : Nat × Nat, s.v = (p.1 : Int) → s.i = (p.2 : Int) → ∀ q ∈ l, W p < W q ∨ (W p = W q ∧ ¬ ltP q p)
theorem lt_not {p q : Nat × Nat} (h : ltP p q) : ¬ ltP q p := by
  unfold ltP at *; omega
theorem pair_eq {p q : Nat × Nat} (h1 : (p.1 : Int) = q.1) (h2 : (p.2 : Int) = q.2) : p = q := by
  obtain ⟨a, b⟩ := p
  obtain ⟨c, d⟩ := q
  simp only at h1 h2
  have e1 : a = c := by omega
  have e2 : b = d := by omega
  rw [e1, e2]
theorem first_spec (T : List (List Int)) (V N : Nat) : First (fun p => worst T (p.1 * N + p.2)) T.length (places2 V N) (openS T V N fun _ _ => false) := by
  rw [openS_flat]
  have := fold_inv (fun s p => opStep T N (fun _ _ => false) s p.1 p.2) (First (fun p => worst T (p.1 * N + p.2)) T.length) (fun l p s hl h => ?_) (places2 V N) [] ⟨0, 0, 0, 4⟩ (by simpa using places_pair V N) ⟨⟨fun _ => ⟨rfl, fun p hp => absurd hp List.not_mem_nil⟩, fun h => by cases h⟩, fun h => by cases h⟩
  · simpa using this
  · unfold opStep
    by_cases hc : (decide (worst T (p.1 * N + p.2) < T.length) && ((s.e != 0) || false)) = true
    · rw [if_pos hc]
      simp only [Bool.and_eq_true, decide_eq_true_eq, Bool.or_false, bne_iff_ne] at hc
      obtain ⟨h1, h2⟩ := h.none hc.2
      refine ⟨⟨fun h => absurd rfl h, fun _ => ⟨p, by simp, rfl, rfl, rfl, hc.1⟩⟩, fun _ q hq1 hq2 r hr hrq => ?_⟩
      have : p = q := pair_eq hq1 hq2
      subst this
      rcases List.mem_append.1 hr with hr | hr
      · exact h2 r hr
      · rw [List.mem_singleton.1 hr] at hrq
        exact absurd hrq (lt_not hrq)
    · rw [if_neg hc]
      simp only [Bool.or_false, Bool.and_eq_true, decide_eq_true_eq, bne_iff_ne] at hc
      refine ⟨⟨fun he => ?_, fun he => ?_⟩, fun he q hq1 hq2 r hr hrq => ?_⟩
      · obtain ⟨h1, h2⟩ := h.none he
        refine ⟨h1, fun q hq => ?_⟩
        rcases List.mem_append.1 hq with hq | hq
        · exact h2 q hq
        · rw [List.mem_singleton.1 hq]
          apply Classical.byContradiction
          intro hlt
          exact hc ⟨by omega, he⟩
      · obtain ⟨q, hq, h'⟩ := h.some he
        exact ⟨q, List.mem_append_left _ hq, h'⟩
      · rcases List.mem_append.1 hr with hr | hr
        · exact h.before he q hq1 hq2 r hr hrq
        · obtain ⟨q', hq', e1, e2, _⟩ := h.some he
          have : q = q' := pair_eq (hq1.symm.trans e1) (hq2.symm.trans e2)
          subst this
          rw [List.mem_singleton.1 hr] at hrq
          exact absurd (hl q hq') (lt_not hrq)
theorem best_spec (T : List (List Int)) (V N : Nat) : Best (fun p => worst T (p.1 * N + p.2)) T.length (places2 V N) (openS T V N fun a b => decide (a < b)) := by
  rw [openS_flat]
  have := fold_inv (fun s p => opStep T N (fun a b => decide (a < b)) s p.1 p.2) (Best (fun p => worst T (p.1 * N + p.2)) T.length) (fun l p s hl h => ?_) (places2 V N) [] ⟨0, 0, 0, 4⟩ (by simpa using places_pair V N) ⟨⟨fun _ => ⟨rfl, fun p hp => absurd hp List.not_mem_nil⟩, fun h => by cases h⟩, fun h => by cases h⟩
  · simpa using this
  · unfold opStep
    by_cases hc : (decide (worst T (p.1 * N + p.2) < T.length) && ((s.e != 0) || decide ((worst T (p.1 * N + p.2) : Int) < s.least))) = true
    · rw [if_pos hc]
      simp only [Bool.and_eq_true, decide_eq_true_eq, Bool.or_eq_true, bne_iff_ne] at hc
      refine ⟨⟨fun h => absurd rfl h, fun _ => ⟨p, by simp, rfl, rfl, rfl, hc.1⟩⟩, fun _ q hq1 hq2 r hr => ?_⟩
      have : p = q := pair_eq hq1 hq2
      subst this
      rcases List.mem_append.1 hr with hr | hr
      · left
        rcases Classical.em (s.e = 0) with he | he
        · obtain ⟨q', hq', e1, e2, e3, e4⟩ := h.some he
          have hb := h.best he q' e1 e2 r hr
          have hlt : (worst T (p.1 * N + p.2) : Int) < s.least := by
            rcases hc.2 with h0 | h0
            · exact absurd he h0
            · exact h0
          omega
        · obtain ⟨h1, h2⟩ := h.none he
          have := h2 r hr
          omega
      · rw [List.mem_singleton.1 hr]
        exact .inr ⟨rfl, fun hh => lt_not hh hh⟩
    · rw [if_neg hc]
      simp only [Bool.or_eq_true, Bool.and_eq_true, decide_eq_true_eq, bne_iff_ne] at hc
      refine ⟨⟨fun he => ?_, fun he => ?_⟩, fun he q hq1 hq2 r hr => ?_⟩
      · obtain ⟨h1, h2⟩ := h.none he
        refine ⟨h1, fun q hq => ?_⟩
        rcases List.mem_append.1 hq with hq | hq
        · exact h2 q hq
        · rw [List.mem_singleton.1 hq]
          apply Classical.byContradiction
          intro hlt
          exact hc ⟨by omega, .inl he⟩
      · obtain ⟨q, hq, h'⟩ := h.some he
        exact ⟨q, List.mem_append_left _ hq, h'⟩
      · rcases List.mem_append.1 hr with hr | hr
        · exact h.best he q hq1 hq2 r hr
        · obtain ⟨q', hq', e1, e2, e3, e4⟩ := h.some he
          have : q = q' := pair_eq (hq1.symm.trans e1) (hq2.symm.trans e2)
          subst this
          rw [List.mem_singleton.1 hr]
          have hlp := hl q hq'
          by_cases hw : worst T (q.1 * N + q.2) < worst T (p.1 * N + p.2)
          · exact .inl hw
          · right
            refine ⟨?_, lt_not hlp⟩
            apply Classical.byContradiction
            intro hne
            exact hc ⟨by omega, .inr (by omega)⟩
/-! Which places are known. -/
theorem inc_nodup (T : Nat) : ∀ (l : List Int) (k : Int), Least.incFrom T k l → l.Nodup
  | [], _, _ => by simp
  | y :: l, k, h => by
    rw [List.nodup_cons]
    refine ⟨fun hm => ?_, inc_nodup T l _ h.2.2⟩
    have := (Part.inc_mem T l _ h.2.2 _ hm).1
    omega
theorem known_at {T : List (List Int)} {j : Nat} (hne : T ≠ []) (hn : ∀ p ∈ T, 0 ≤ at' p j ∧ at' p j ≤ 12) : T.length ≤ worst T j ↔ ∀ p ∈ T, ∀ q ∈ T, at' p j = at' q j := by
  cases T with
  | nil => exact absurd rfl hne
  | cons q U =>
    have h1 := Part.worst_lt (T := q :: U) rfl hn
    have h2 := Part.cnt_le (q :: U) j (at' q j)
    constructor
    · intro h
      have h3 : cnt (q :: U) j (at' q j) = (q :: U).length := by
        apply Classical.byContradiction
        intro hne'
        have := h1.2 (by omega)
        omega
      have h4 := Part.cnt_all.1 h3
      exact fun a ha b hb => (h4 a ha).trans (h4 b hb).symm
    · intro h
      apply Classical.byContradiction
      intro hlt
      have h3 := h1.1 (by omega)
      have := Part.cnt_all.2 fun p hp => h p hp q (.head _)
      omega
theorem pos_one {T : List (List Int)} {j : Nat} (hne : T ≠ []) (hn : ∀ p ∈ T, 0 ≤ at' p j ∧ at' p j ≤ 12) : (posOf T j).length = 1 ↔ T.length ≤ worst T j := by
  rw [known_at hne hn]
  have hm : ∀ p ∈ T, at' p j ∈ posOf T j := fun p hp => by
    rw [posOf_mem]
    exact ⟨(hn p hp).1, (hn p hp).2, Part.cnt_pos.2 ⟨p, hp, rfl⟩⟩
  have hnd : (posOf T j).Nodup := inc_nodup _ _ _ (posOf_inc T j)
  constructor
  · intro h p hp q hq
    obtain ⟨a, ha⟩ := List.length_eq_one_iff.1 h
    have h1 := hm p hp
    have h2 := hm q hq
    rw [ha] at h1 h2
    rw [List.mem_singleton.1 h1, List.mem_singleton.1 h2]
  · intro h
    obtain ⟨p, hp⟩ := List.exists_mem_of_ne_nil _ hne
    rw [one_of hnd (hm p hp) fun b hb => ?_]
    · rfl
    · rw [posOf_mem] at hb
      obtain ⟨q, hq, hqb⟩ := Part.cnt_pos.1 hb.2.2
      rw [← hqb]
      exact h q hq p hp
theorem pos_pos {T : List (List Int)} {j : Nat} (hne : T ≠ []) (hn : ∀ p ∈ T, 0 ≤ at' p j ∧ at' p j ≤ 12) : 0 < (posOf T j).length := by
  obtain ⟨p, hp⟩ := List.exists_mem_of_ne_nil _ hne
  have : at' p j ∈ posOf T j := by
    rw [posOf_mem]
    exact ⟨(hn p hp).1, (hn p hp).2, Part.cnt_pos.2 ⟨p, hp, rfl⟩⟩
  exact List.length_pos_of_mem this
theorem all_known {x : PB} (h : Chk x) (hne : Ts x noneF ≠ []) : (∀ p ∈ places2 x.spans.length x.N.toNat, (Ts x noneF).length ≤ worst (Ts x noneF) (p.1 * x.N.toNat + p.2)) ↔ (Ts x noneF).length = 1 := by
  constructor
  · intro ha
    obtain ⟨q, hq⟩ := List.exists_mem_of_ne_nil _ hne
    have e1 : Ts x noneF = [q] := one_of (Part.truths_nodup _ _) hq fun p hp => ?_
    · rw [e1]; rfl
    · have l1 := Ts_len h p hp
      have l2 := Ts_len h q hq
      refine List.ext_getElem? fun j => ?_
      by_cases hj : j < x.spans.length * x.N.toNat
      · have hN : 0 < x.N.toNat := by have := h.N; omega
        have hd : j / x.N.toNat < x.spans.length := by rw [Nat.div_lt_iff_lt_mul hN]; exact hj
        have hm := Nat.mod_lt j hN
        have hw := ha (j / x.N.toNat, j % x.N.toNat) ((places2_mem _ _ _).2 ⟨hd, hm⟩)
        have e : j / x.N.toNat * x.N.toNat + j % x.N.toNat = j := by rw [Nat.mul_comm]; exact Nat.div_add_mod j _
        simp only [e] at hw
        have hb : ∀ p ∈ Ts x noneF, 0 ≤ at' p j ∧ at' p j ≤ 12 := fun p hp => by
          have := Ts_note h hp hd hm
          rwa [e] at this
        have := (known_at hne hb).1 hw p hp q hq
        rw [List.getElem?_eq_getElem (by omega), List.getElem?_eq_getElem (by omega)]
        simpa [at', List.getElem?_eq_getElem (show j < p.length by omega), List.getElem?_eq_getElem (show j < q.length by omega)] using this
      · rw [List.getElem?_eq_none (by omega), List.getElem?_eq_none (by omega)]
  · intro h1 p hp
    rw [places2_mem] at hp
    have := Part.worst_pos hne (j := p.1 * x.N.toNat + p.2) fun q hq => Ts_note h hq hp.1 hp.2
    omega
instance (p q : Nat × Nat) : Decidable (ltP p q) := by unfold ltP; infer_instance
theorem told_e {W : Nat × Nat → Nat} {n : Nat} {l : List (Nat × Nat)} {s : Op} (h : Told W n l s) : (s.e = 0 ∧ ¬ ∀ p ∈ l, n ≤ W p) ∨ (s.e = 4 ∧ s.v = 0 ∧ s.i = 0 ∧ ∀ p ∈ l, n ≤ W p) := by
  by_cases he : s.e = 0
  · left
    obtain ⟨p, hp, _, _, _, hw⟩ := h.some he
    exact ⟨he, fun ha => by have := ha p hp; omega⟩
  · right
    obtain ⟨rfl, ha⟩ := h.none he
    exact ⟨rfl, rfl, rfl, ha⟩
theorem same_e (x : PB) : (askR x).2.2 = (firstR x).2.2 := by
  unfold askR firstR openR
  by_cases he : ansE x true = 0
  · rw [if_pos he, if_pos he]
    have h1 := told_e (best_spec (Ts x noneF) x.spans.length x.N.toNat).toTold
    have h2 := told_e (first_spec (Ts x noneF) x.spans.length x.N.toNat).toTold
    rcases h1 with ⟨h1, h1'⟩ | ⟨h1, _, _, h1'⟩ <;> rcases h2 with ⟨h2, h2'⟩ | ⟨h2, _, _, h2'⟩
    · exact h1.trans h2.symm
    · exact absurd h2' h1'
    · exact absurd h1' h2'
    · exact h1.trans h2.symm
  · rw [if_neg he, if_neg he]
end Go.Ai
