/- This text shows the law of what is looked up, in the interpreter. No conditions of its own. -/
import Derived.Test.YtogfbfpinhcajaaDoorLawsF
set_option linter.unusedSimpArgs false
set_option linter.unusedVariables false
set_option maxRecDepth 100000
set_option linter.unusedSimpArgs false
set_option linter.unusedVariables false
/-! What is told of all places. -/
namespace Go.Ai
open Go.Part (Sp Cp Bk truths cnt at' vals seqs seg sumN worst maxTo)
def places2 (V N : Nat) : List (Nat × Nat) := (List.range' 0 V).flatMap fun v => (List.range' 0 N).map fun i => (v, i)
theorem openS_flat (T : List (List Int)) (V N : Nat) (bet : Int → Int → Bool) : openS T V N bet = (places2 V N).foldl (fun s p => opStep T N bet s p.1 p.2) ⟨0, 0, 0, 4⟩ := by
  unfold openS places2
  rw [List.foldl_flatMap]
  congr 1
  funext s v
  rw [List.foldl_map]
  rfl
def ltP (p q : Nat × Nat) : Prop := p.1 < q.1 ∨ (p.1 = q.1 ∧ p.2 < q.2)
theorem places_pair (V N : Nat) : (places2 V N).Pairwise ltP := by
  unfold places2
  rw [List.flatMap, List.pairwise_flatten]
  constructor
  · intro l hl
    obtain ⟨v, _, rfl⟩ := List.mem_map.1 hl
    rw [List.pairwise_map]
    exact List.Pairwise.imp (fun h => Or.inr ⟨rfl, h⟩) (List.pairwise_lt_range' (s := 0) (n := N))
  · rw [List.pairwise_map]
    refine List.Pairwise.imp (fun h => ?_) (List.pairwise_lt_range' (s := 0) (n := V))
    intro a ha b hb
    obtain ⟨_, _, rfl⟩ := List.mem_map.1 ha
    obtain ⟨_, _, rfl⟩ := List.mem_map.1 hb
    exact .inl h
theorem places2_mem (V N : Nat) (p : Nat × Nat) : p ∈ places2 V N ↔ p.1 < V ∧ p.2 < N := by
  obtain ⟨v, i⟩ := p
  simp only [places2, List.mem_flatMap, List.mem_map, Prod.mk.injEq, List.mem_range'_1]
  constructor
  · rintro ⟨a, ha, b, hb, rfl, rfl⟩; omega
  · rintro ⟨h1, h2⟩; exact ⟨v, by omega, i, by omega, rfl, rfl⟩
/-- A fold over places in their order. -/
theorem fold_inv {α : Type} (f : α → (Nat × Nat) → α) (Q : List (Nat × Nat) → α → Prop) (hstep : ∀ (l : List (Nat × Nat)) (p : Nat × Nat) (a : α), (∀ q ∈ l, ltP q p) → Q l a → Q (l ++ [p]) (f a p)) : ∀ (r l : List (Nat × Nat)) (a : α), (l ++ r).Pairwise ltP → Q l a → Q (l ++ r) (r.foldl f a)
  | [], l, a, _, h => by simpa using h
  | p :: r, l, a, hp, h => by
    have h1 := List.pairwise_append.1 hp
    have := fold_inv f Q hstep r (l ++ [p]) (f a p) (by simpa using hp) (hstep l p a (fun q hq => h1.2.2 q hq p (.head _)) h)
    simpa using this
/-- Which place is told: none, if all are known. -/
structure Told (W : Nat × Nat → Nat) (n : Nat) (l : List (Nat × Nat)) (s : Op) : Prop where
  none : s.e ≠ 0 → s = ⟨0, 0, 0, 4⟩ ∧ ∀ p ∈ l, n ≤ W p
  some : s.e = 0 → ∃ p ∈ l, s.v = (p.1 : Int) ∧ s.i = (p.2 : Int) ∧ s.least = (W p : Int) ∧ W p < n
structure First (W : Nat × Nat → Nat) (n : Nat) (l : List (Nat × Nat)) (s : Op) : Prop extends Told W n l s where
  before : s.e = 0 → ∀ p : Nat × Nat, s.v = (p.1 : Int) → s.i = (p.2 : Int) → ∀ q ∈ l, ltP q p → n ≤ W q
structure Best (W : Nat × Nat → Nat) (n : Nat) (l : List (Nat × Nat)) (s : Op) : Prop extends Told W n l s where
  best : s.e = 0 → ∀ p : Nat × Nat, s.v = (p.1 : Int) → s.i = (p.2 : Int) → ∀ q ∈ l, W p < W q ∨ (W p = W q ∧ ¬ ltP q p)
theorem lt_not {p q : Nat × Nat} (h : ltP p q) : ¬ ltP q p := by
  unfold ltP at *; omega
theorem pair_eq {p q : Nat × Nat} (h1 : (p.1 : Int) = q.1) (h2 : (p.2 : Int) = q.2) : p = q := by
  obtain ⟨a, b⟩ := p
  obtain ⟨c, d⟩ := q
  simp only at h1 h2
  have e1 : a = c := by omega
  have e2 : b = d := by omega
  rw [e1, e2]
theorem first_spec (T : List (List Int)) (V N : Nat) : First (fun p => worst T (p.1 * N + p.2)) T.length (places2 V N) (openS T V N fun _ _ => false) := by
  rw [openS_flat]
  have := fold_inv (fun s p => opStep T N (fun _ _ => false) s p.1 p.2) (First (fun p => worst T (p.1 * N + p.2)) T.length) (fun l p s hl h => ?_) (places2 V N) [] ⟨0, 0, 0, 4⟩ (by simpa using places_pair V N) ⟨⟨fun _ => ⟨rfl, fun p hp => absurd hp List.not_mem_nil⟩, fun h => by cases h⟩, fun h => by cases h⟩
  · simpa using this
  · unfold opStep
    by_cases hc : (decide (worst T (p.1 * N + p.2) < T.length) && ((s.e != 0) || false)) = true
    · rw [if_pos hc]
      simp only [Bool.and_eq_true, decide_eq_true_eq, Bool.or_false, bne_iff_ne] at hc
      obtain ⟨h1, h2⟩ := h.none hc.2
      refine ⟨⟨fun h => absurd rfl h, fun _ => ⟨p, by simp, rfl, rfl, rfl, hc.1⟩⟩, fun _ q hq1 hq2 r hr hrq => ?_⟩
      have : p = q := pair_eq hq1 hq2
      subst this
      rcases List.mem_append.1 hr with hr | hr
      · exact h2 r hr
      · rw [List.mem_singleton.1 hr] at hrq
        exact absurd hrq (lt_not hrq)
    · rw [if_neg hc]
      simp only [Bool.or_false, Bool.and_eq_true, decide_eq_true_eq, bne_iff_ne] at hc
      refine ⟨⟨fun he => ?_, fun he => ?_⟩, fun he q hq1 hq2 r hr hrq => ?_⟩
      · obtain ⟨h1, h2⟩ := h.none he
        refine ⟨h1, fun q hq => ?_⟩
        rcases List.mem_append.1 hq with hq | hq
        · exact h2 q hq
        · rw [List.mem_singleton.1 hq]
          apply Classical.byContradiction
          intro hlt
          exact hc ⟨by omega, he⟩
      · obtain ⟨q, hq, h'⟩ := h.some he
        exact ⟨q, List.mem_append_left _ hq, h'⟩
      · rcases List.mem_append.1 hr with hr | hr
        · exact h.before he q hq1 hq2 r hr hrq
        · obtain ⟨q', hq', e1, e2, _⟩ := h.some he
          have : q = q' := pair_eq (hq1.symm.trans e1) (hq2.symm.trans e2)
          subst this
          rw [List.mem_singleton.1 hr] at hrq
          exact absurd (hl q hq') (lt_not hrq)
theorem best_spec (T : List (List Int)) (V N : Nat) : Best (fun p => worst T (p.1 * N + p.2)) T.length (places2 V N) (openS T V N fun a b => decide (a < b)) := by
  rw [openS_flat]
  have := fold_inv (fun s p => opStep T N (fun a b => decide (a < b)) s p.1 p.2) (Best (fun p => worst T (p.1 * N + p.2)) T.length) (fun l p s hl h => ?_) (places2 V N) [] ⟨0, 0, 0, 4⟩ (by simpa using places_pair V N) ⟨⟨fun _ => ⟨rfl, fun p hp => absurd hp List.not_mem_nil⟩, fun h => by cases h⟩, fun h => by cases h⟩
  · simpa using this
  · unfold opStep
    by_cases hc : (decide (worst T (p.1 * N + p.2) < T.length) && ((s.e != 0) || decide ((worst T (p.1 * N + p.2) : Int) < s.least))) = true
    · rw [if_pos hc]
      simp only [Bool.and_eq_true, decide_eq_true_eq, Bool.or_eq_true, bne_iff_ne] at hc
      refine ⟨⟨fun h => absurd rfl h, fun _ => ⟨p, by simp, rfl, rfl, rfl, hc.1⟩⟩, fun _ q hq1 hq2 r hr => ?_⟩
      have : p = q := pair_eq hq1 hq2
      subst this
      rcases List.mem_append.1 hr with hr | hr
      · left
        rcases Classical.em (s.e = 0) with he | he
        · obtain ⟨q', hq', e1, e2, e3, e4⟩ := h.some he
          have hb := h.best he q' e1 e2 r hr
          have hlt : (worst T (p.1 * N + p.2) : Int) < s.least := by
            rcases hc.2 with h0 | h0
            · exact absurd he h0
            · exact h0
          omega
        · obtain ⟨h1, h2⟩ := h.none he
          have := h2 r hr
          omega
      · rw [List.mem_singleton.1 hr]
        exact .inr ⟨rfl, fun hh => lt_not hh hh⟩
    · rw [if_neg hc]
      simp only [Bool.or_eq_true, Bool.and_eq_true, decide_eq_true_eq, bne_iff_ne] at hc
      refine ⟨⟨fun he => ?_, fun he => ?_⟩, fun he q hq1 hq2 r hr => ?_⟩
      · obtain ⟨h1, h2⟩ := h.none he
        refine ⟨h1, fun q hq => ?_⟩
        rcases List.mem_append.1 hq with hq | hq
        · exact h2 q hq
        · rw [List.mem_singleton.1 hq]
          apply Classical.byContradiction
          intro hlt
          exact hc ⟨by omega, .inl he⟩
      · obtain ⟨q, hq, h'⟩ := h.some he
        exact ⟨q, List.mem_append_left _ hq, h'⟩
      · rcases List.mem_append.1 hr with hr | hr
        · exact h.best he q hq1 hq2 r hr
        · obtain ⟨q', hq', e1, e2, e3, e4⟩ := h.some he
          have : q = q' := pair_eq (hq1.symm.trans e1) (hq2.symm.trans e2)
          subst this
          rw [List.mem_singleton.1 hr]
          have hlp := hl q hq'
          by_cases hw : worst T (q.1 * N + q.2) < worst T (p.1 * N + p.2)
          · exact .inl hw
          · right
            refine ⟨?_, lt_not hlp⟩
            apply Classical.byContradiction
            intro hne
            exact hc ⟨by omega, .inr (by omega)⟩
end Go.Ai

set_option maxRecDepth 100000
set_option linter.unusedSimpArgs false
set_option linter.unusedVariables false
/-! How many ways are left at the worst. -/
namespace Go.Ai
open Go.Part (Sp Cp Bk truths cnt at' vals seqs seg sumN worst maxTo)
def updF (f : Nat → Nat) (n0 w : Nat) : Nat → Nat := fun n => if n = n0 then f n + w else f n
theorem maxTo_upd (f : Nat → Nat) (n0 w : Nat) : ∀ n, maxTo (updF f n0 w) n = if n0 < n then max (maxTo f n) (f n0 + w) else maxTo f n
  | 0 => by simp [maxTo]
  | n + 1 => by
    rw [maxTo, maxTo_upd f n0 w n, maxTo]
    by_cases h : n0 < n
    · have h1 : n0 < n + 1 := by omega
      have h2 : ¬ n = n0 := by omega
      simp only [h, h1, if_true, updF, h2, if_false]
      omega
    · by_cases h0 : n = n0
      · subst h0
        have h1 : n < n + 1 := by omega
        simp only [h, h1, if_true, if_false, updF]
        omega
      · have h1 : ¬ n0 < n + 1 := by omega
        simp only [h, h1, if_false, updF, h0]
def cfL (f : Nat → Nat) : List Int := (List.range 13).map fun n => ((f n : Nat) : Int)
theorem cfL_len (f : Nat → Nat) : (cfL f).length = 13 := by simp [cfL]
theorem cfL_get (f : Nat → Nat) {n : Nat} (h : n < 13) : (cfL f)[n]? = some ((f n : Nat) : Int) := by
  rw [cfL, List.getElem?_map, List.getElem?_range h]; rfl
theorem cfL_set (f : Nat → Nat) {n0 w : Nat} (h : n0 < 13) : (cfL f).set n0 ((f n0 + w : Nat) : Int) = cfL (updF f n0 w) := by
  refine List.ext_getElem? fun j => ?_
  rw [List.getElem?_set, cfL_len]
  by_cases hj : j < 13
  · rw [cfL_get _ hj]
    by_cases he : n0 = j
    · subst he; rw [cfL_get _ hj]; simp [updF, h]
    · have : ¬ j = n0 := fun h => he h.symm
      rw [if_neg he, cfL_get _ hj]
      simp [updF, this]
  · have : ¬ n0 = j := by omega
    rw [if_neg this, List.getElem?_eq_none (by rw [cfL_len]; omega), List.getElem?_eq_none (by rw [cfL_len]; omega)]
def st51 (x : PB) (f : Nat → Nat) : St := { boxes := [x.cells, ints (cfL f)] }
def head51 (v i : Nat) (ls : List (List Int)) (most : Nat) (k : Int) : Env := mkE 64 .any [(10, I k), (9, I most), (8, .sl 1 (ls.map rowN) .no), (7, .box 1 0), (3, .box 0 0), (2, I i), (1, I v)]
def gsum (w : List Int → Nat) (i : Nat) (rest : List (List Int)) (n : Nat) : Nat := sumN (rest.map fun l => if at' l i = (n : Int) then w l else 0)
theorem loop51 (x : PB) (hx : x.Ok) (hc : checkOk x = true) (hl4 : x.copies.length < 4) {v i : Nat} {s : Sp} (h : Lines x v s) (hi : i < x.N.toNat) (hls : (linesN s x.N.toNat).length ≤ 27) : ∀ (rest : List (List Int)) (k : Nat) (f : Nat → Nat), k ≤ (linesN s x.N.toNat).length → (linesN s x.N.toNat).drop k = rest → (∀ n, f n ≤ 20000 * k) →
    ∃ L σ, run Cv 51 (.loop keep51_0 body51_0) (head51 v i (linesN s x.N.toNat) (maxTo f 13) k) (st51 x f) = some (.ex 0, mkE 64 .any L, σ) ∧ gt (mkE 64 .any L) 9 = I (maxTo (fun n => f n + gsum (segs x.N.toNat v (Ts x noneF)) i rest n) 13)
  | [], k, f, hk, hd, hf => by
    obtain rfl := drop_nil hk hd
    have e : (fun n => f n + gsum (segs x.N.toNat v (Ts x noneF)) i [] n) = f := by funext n; rfl
    rw [e]
    generalize maxTo f 13 = m
    rw [run_loop]
    simp (maxSteps := 10000000) [-List.getD_eq_getElem?_getD, body51_0, keep51_0, head51, st51]
    exact ⟨_, rfl, by simp (maxSteps := 10000000) [-List.getD_eq_getElem?_getD, ]⟩
  | l :: rest, k, f, hk, hd, hf => by
    obtain ⟨hlt, hg, hd'⟩ := head_drop hd
    have hlm : l ∈ linesN s x.N.toNat := hg ▸ List.getElem_mem _
    have hkk := h.ok
    have hlt' : (k : Int) < ((linesN s x.N.toNat).length : Int) := by omega
    have hw := wrap_succ hlt (by omega)
    have A := at_line hx hc hl4 h hlm
    have a1 := A.wi
    have a2 := A.ways
    obtain ⟨hll, hlr⟩ := lines_mem h hlm
    have hs := hkk.spans s (List.mem_of_getElem? h.v)
    have hsc := scribe_call v l (rowN l) rfl rfl (fun _ _ => rfl)
    have hix : ixsA 1 (.sl 1 ((linesN s x.N.toNat).map rowN) .no) (I k) = some (.rp [rowN l] 0) := by
      simp [ixsA, hlt, hg, AV.cells, rowN]
    have hil : i < l.length := by omega
    have hni := hlr _ (List.getElem_mem hil)
    have hat : at' l i = l[i] := by simp [at', hil]
    have hix2 : ixsA 1 (rowN l) (I i) = some (.rp [I (at' l i)] 0) := by
      rw [hat]
      simp [rowN, ixsA, ints, hil, AV.cells]
    obtain ⟨n, hn⟩ := Int.eq_ofNat_of_zero_le (show 0 ≤ at' l i by rw [hat]; omega)
    have hn13 : n < 13 := by rw [hat] at hn; omega
    rw [hn] at hix2
    have hTl := truths_short hkk noneF
    have hseg : segs x.N.toNat v (Ts x noneF) l ≤ 20000 := by
      have : segs x.N.toNat v (Ts x noneF) l ≤ (Ts x noneF).length := List.length_filter_le _ _
      have e : (Ts x noneF).length = (truths (bkOf x) noneF).length := rfl
      omega
    have hvu := hx.vrow.under
    have hcu := hx.crow.under
    have hvp := hx.vrow.pur
    have hcp := hx.crow.pur
    have hvp2 := A.ok.vrow.pur
    have hcp2 := A.ok.crow.pur
    have hmp : ∀ σ n, pur σ (n + 1) (rowN l) = some (rowN l, false) := fun _ _ => rfl
    have e : (fun n => f n + gsum (segs x.N.toNat v (Ts x noneF)) i (l :: rest) n) = fun m => updF f n (segs x.N.toNat v (Ts x noneF) l) m + gsum (segs x.N.toNat v (Ts x noneF)) i rest m := by
      funext m
      simp only [gsum, List.map_cons, sumN, updF, hn]
      by_cases hmn : m = n
      · subst hmn; simp; omega
      · have : ¬ ((n : Int) = m) := by omega
        simp [hmn, this]
    rw [e]
    have hfn := hf n
    have IH := loop51 x hx hc hl4 h hi hls rest (k + 1) (updF f n (segs x.N.toNat v (Ts x noneF) l)) hlt hd' (fun m => by
      have := hf m
      unfold updF
      split
      · omega
      · omega)
    rw [maxTo_upd, if_pos hn13] at IH
    have hlie := lies_call (segs x.N.toNat v (Ts x noneF) l) 0 1048576
    have hq : (decide ((0 : Int) ≤ segs x.N.toNat v (Ts x noneF) l) && decide ((segs x.N.toNat v (Ts x noneF) l : Int) ≤ 1048576)) = true := by simp; omega
    rw [hq] at hlie
    have hset := cfL_set f (w := segs x.N.toNat v (Ts x noneF) l) hn13
    have hset2 := set_ints (cfL f) n ((f n + segs x.N.toNat v (Ts x noneF) l : Nat) : Int) (by rw [cfL_len]; exact hn13)
    rw [hset] at hset2
    have hld : (ints (cfL f))[n]? = some (I (f n)) := by
      simp only [ints, List.getElem?_map, cfL_get f hn13]; rfl
    have hld2 : (ints (cfL (updF f n (segs x.N.toNat v (Ts x noneF) l))))[n]? = some (I ((f n + segs x.N.toNat v (Ts x noneF) l : Nat) : Int)) := by
      simp only [ints, List.getElem?_map, cfL_get _ hn13, updF, if_true]; rfl
    have wa : IntKind.wrap .i64 ((f n : Int) + segs x.N.toNat v (Ts x noneF) l) = ((f n + segs x.N.toNat v (Ts x noneF) l : Nat) : Int) := by rw [wrap_small (by omega) (by omega)]; rfl
    have hI13 : n + 1 ≤ (ints (cfL f)).length := by rw [ints_len, cfL_len]; omega
    have x3 := fun q off => ixa_int (b := q) (off := off) (sz := 1) (len := 13) (n := (n : Int)) (by omega) (by omega)
    have iu := fun a b c d n p => ints_under a b c d n p
    have hmx : max2 (I (maxTo f 13)) (I ((f n + segs x.N.toNat v (Ts x noneF) l : Nat) : Int)) = some (I ((max (maxTo f 13) (f n + segs x.N.toNat v (Ts x noneF) l) : Nat) : Int)) := by
      simp only [max2, Option.some.injEq, AV.int.injEq, true_and]
      split <;> omega
    generalize hff : f n + segs x.N.toNat v (Ts x noneF) l = fw at *
    generalize max (maxTo f 13) fw = m2 at *
    generalize maxTo f 13 = m1 at *
    generalize hC2 : ints (cfL (updF f n (segs x.N.toNat v (Ts x noneF) l))) = C2 at *
    have iu2 : ∀ a b c d n, C2.all (under a b c d (n + 1)) = true := fun a b c d n => by rw [← hC2]; exact iu a b c d n _
    generalize hC1 : ints (cfL f) = C1 at *
    have iu1 : ∀ a b c d n, C1.all (under a b c d (n + 1)) = true := fun a b c d n => by rw [← hC1]; exact iu a b c d n _
    simp only [PB.av, PB.cells] at a1 a2
    generalize segs x.N.toNat v (Ts x noneF) l = w at *
    generalize x.more (copyL v l) = u at *
    have hs1 : st51 x f = { boxes := [x.cells, C1] } := by rw [st51, hC1]
    have hs2 : st51 x (updF f n w) = { boxes := [x.cells, C2] } := by rw [st51, hC2]
    rw [hs1]
    rw [hs2] at IH
    have key : run Cv 51 (.loop keep51_0 body51_0) (head51 v i (linesN s x.N.toNat) m1 k) { boxes := [x.cells, C1] } = run Cv 51 (.loop keep51_0 body51_0) (head51 v i (linesN s x.N.toNat) m2 (k + 1)) { boxes := [x.cells, C2] } := by
      generalize ((fw : Nat) : Int) = FW at *
      rw [run_loop]
      generalize MC.loop keep51_0 body51_0 = L
      simp (maxSteps := 10000000) [-List.getD_eq_getElem?_getD, -ixsA, -ixaA, -setAt, -List.all_eq_true, body51_0, keep51_0, head51, PB.cells, hlt', hw, hix, hsc, a1, a2, hvp, hcp, hvp2, hcp2, hmp, hvu, hcu, hix2, hlie, hld, hld2, wa, hI13, x3, hset2, iu1, iu2, foldA, hmx]
    rw [key]
    exact IH
end Go.Ai

set_option maxRecDepth 100000
set_option linter.unusedSimpArgs false
set_option linter.unusedVariables false
namespace Go.Ai
open Go.Part (Sp Cp Bk truths cnt at' vals seqs seg sumN worst maxTo)
theorem gsum_cnt {x : PB} {v i : Nat} {s : Sp} (h : Lines x v s) (hi : i < x.N.toNat) (n : Nat) : gsum (segs x.N.toNat v (Ts x noneF)) i (linesN s x.N.toNat) n = cnt (Ts x noneF) (v * x.N.toNat + i) n := by
  have hs := Part.sum_lines (fun q => seg x.N.toNat q v) _ (lines_nodup s x.N.toNat) ((Ts x noneF).filter fun q => decide (at' q (v * x.N.toNat + i) = (n : Int))) fun q hq => seg_lines h (List.mem_filter.1 hq).1
  rw [cnt, ← hs, gsum]
  congr 1
  refine List.map_congr_left fun l hl => ?_
  rw [List.filter_filter]
  by_cases he : at' l i = (n : Int)
  · rw [if_pos he, segs]
    congr 1
    refine List.filter_congr fun q hq => ?_
    by_cases hl' : seg x.N.toNat q v = l
    · have := Part.seg_at (N := x.N.toNat) (q := q) (k := v) hi
      rw [hl', he] at this
      simp [hl', ← this]
    · simp [hl']
  · rw [if_neg he, eq_comm, List.length_eq_zero_iff, List.filter_eq_nil_iff]
    intro q hq
    simp only [Bool.and_eq_true, decide_eq_true_eq, not_and]
    intro h1 h2
    have := Part.seg_at (N := x.N.toNat) (q := q) (k := v) hi
    rw [h1] at this
    exact he (this.trans h2)
set_option maxHeartbeats 4000000 in
theorem worst51_call (x : PB) (hx : x.Ok) (hc : checkOk x = true) (hl4 : x.copies.length < 4) {v i : Nat} (hv : v < x.spans.length) (hi : i < x.N.toNat) : call Cv 51 [x.av, I v, I i] = some (I (worst (Ts x noneF) (v * x.N.toNat + i))) := by
  have hk := chk_of hc
  have hN := hk.N
  have hL : Lines x v x.spans[v] := ⟨hk, List.getElem?_eq_getElem hv⟩
  generalize x.spans[v] = s at hL
  have d0 := lines_call x hx hk hL.v
  obtain ⟨hl1, _⟩ := linesN_len s (hk.wide s (List.mem_of_getElem? hL.v)) x.N.toNat
  have hp : 3 ^ x.N.toNat ≤ 27 := by
    have : x.N.toNat ≤ 3 := by omega
    calc 3 ^ x.N.toNat ≤ 3 ^ 3 := Nat.pow_le_pow_right (by omega) this
      _ = 27 := by decide
  obtain ⟨L, σ, h0, h9⟩ := loop51 x hx hc hl4 hL hi (by omega) (linesN s x.N.toNat) 0 (fun _ => 0) (Nat.zero_le _) rfl (fun _ => Nat.zero_le _)
  have e : (fun n => 0 + gsum (segs x.N.toNat v (Ts x noneF)) i (linesN s x.N.toNat) n) = fun n : Nat => cnt (Ts x noneF) (v * x.N.toNat + i) n := by
    funext n
    rw [Nat.zero_add, gsum_cnt hL hi]
  rw [e] at h9
  rw [show maxTo (fun n : Nat => cnt (Ts x noneF) (v * x.N.toNat + i) n) 13 = worst (Ts x noneF) (v * x.N.toNat + i) from rfl] at h9
  have hz : maxTo (fun _ => 0) 13 = 0 := by decide
  rw [hz] at h0
  have hin := fun E (hE : mask keep51_0 E = _) => run_at h0 hE
  have e5 : ((0 : Nat) : Int) = 0 := rfl
  have hcf : ints (cfL fun _ => 0) = [I 0, I 0, I 0, I 0, I 0, I 0, I 0, I 0, I 0, I 0, I 0, I 0, I 0] := rfl
  simp only [head51, keep51_0, st51, e5, hcf, PB.cells] at hin
  have hvc := hx.vrow.cell
  have hcc := hx.crow.cell
  have hvp := hx.vrow.pur
  have hcp := hx.crow.pur
  have hvu := hx.vrow.under
  have hcu := hx.crow.under
  simp only [PB.av, PB.cells] at d0
  rw [call_run comp51 (Nat.le_of_ble_eq_true rfl)]
  simp (maxSteps := 10000000) [-List.getD_eq_getElem?_getD, -List.all_eq_true, code51, PB.av, PB.cells, hvc, hcc, hvp, hcp, hvu, hcu, d0, keep51_0, hin, h9]
/-! Which places are known. -/
theorem inc_nodup (T : Nat) : ∀ (l : List Int) (k : Int), Least.incFrom T k l → l.Nodup
  | [], _, _ => by simp
  | y :: l, k, h => by
    rw [List.nodup_cons]
    refine ⟨fun hm => ?_, inc_nodup T l _ h.2.2⟩
    have := (Part.inc_mem T l _ h.2.2 _ hm).1
    omega
theorem known_at {T : List (List Int)} {j : Nat} (hne : T ≠ []) (hn : ∀ p ∈ T, 0 ≤ at' p j ∧ at' p j ≤ 12) : T.length ≤ worst T j ↔ ∀ p ∈ T, ∀ q ∈ T, at' p j = at' q j := by
  cases T with
  | nil => exact absurd rfl hne
  | cons q U =>
    have h1 := Part.worst_lt (T := q :: U) rfl hn
    have h2 := Part.cnt_le (q :: U) j (at' q j)
    constructor
    · intro h
      have h3 : cnt (q :: U) j (at' q j) = (q :: U).length := by
        apply Classical.byContradiction
        intro hne'
        have := h1.2 (by omega)
        omega
      have h4 := Part.cnt_all.1 h3
      exact fun a ha b hb => (h4 a ha).trans (h4 b hb).symm
    · intro h
      apply Classical.byContradiction
      intro hlt
      have h3 := h1.1 (by omega)
      have := Part.cnt_all.2 fun p hp => h p hp q (.head _)
      omega
theorem pos_one {T : List (List Int)} {j : Nat} (hne : T ≠ []) (hn : ∀ p ∈ T, 0 ≤ at' p j ∧ at' p j ≤ 12) : (posOf T j).length = 1 ↔ T.length ≤ worst T j := by
  rw [known_at hne hn]
  have hm : ∀ p ∈ T, at' p j ∈ posOf T j := fun p hp => by
    rw [posOf_mem]
    exact ⟨(hn p hp).1, (hn p hp).2, Part.cnt_pos.2 ⟨p, hp, rfl⟩⟩
  have hnd : (posOf T j).Nodup := inc_nodup _ _ _ (posOf_inc T j)
  constructor
  · intro h p hp q hq
    obtain ⟨a, ha⟩ := List.length_eq_one_iff.1 h
    have h1 := hm p hp
    have h2 := hm q hq
    rw [ha] at h1 h2
    rw [List.mem_singleton.1 h1, List.mem_singleton.1 h2]
  · intro h
    obtain ⟨p, hp⟩ := List.exists_mem_of_ne_nil _ hne
    rw [one_of hnd (hm p hp) fun b hb => ?_]
    · rfl
    · rw [posOf_mem] at hb
      obtain ⟨q, hq, hqb⟩ := Part.cnt_pos.1 hb.2.2
      rw [← hqb]
      exact h q hq p hp
theorem pos_pos {T : List (List Int)} {j : Nat} (hne : T ≠ []) (hn : ∀ p ∈ T, 0 ≤ at' p j ∧ at' p j ≤ 12) : 0 < (posOf T j).length := by
  obtain ⟨p, hp⟩ := List.exists_mem_of_ne_nil _ hne
  have : at' p j ∈ posOf T j := by
    rw [posOf_mem]
    exact ⟨(hn p hp).1, (hn p hp).2, Part.cnt_pos.2 ⟨p, hp, rfl⟩⟩
  exact List.length_pos_of_mem this
theorem all_known {x : PB} (h : Chk x) (hne : Ts x noneF ≠ []) : (∀ p ∈ places2 x.spans.length x.N.toNat, (Ts x noneF).length ≤ worst (Ts x noneF) (p.1 * x.N.toNat + p.2)) ↔ (Ts x noneF).length = 1 := by
  constructor
  · intro ha
    obtain ⟨q, hq⟩ := List.exists_mem_of_ne_nil _ hne
    have e1 : Ts x noneF = [q] := one_of (Part.truths_nodup _ _) hq fun p hp => ?_
    · rw [e1]; rfl
    · have l1 := Ts_len h p hp
      have l2 := Ts_len h q hq
      refine List.ext_getElem? fun j => ?_
      by_cases hj : j < x.spans.length * x.N.toNat
      · have hN : 0 < x.N.toNat := by have := h.N; omega
        have hd : j / x.N.toNat < x.spans.length := by rw [Nat.div_lt_iff_lt_mul hN]; exact hj
        have hm := Nat.mod_lt j hN
        have hw := ha (j / x.N.toNat, j % x.N.toNat) ((places2_mem _ _ _).2 ⟨hd, hm⟩)
        have e : j / x.N.toNat * x.N.toNat + j % x.N.toNat = j := by rw [Nat.mul_comm]; exact Nat.div_add_mod j _
        simp only [e] at hw
        have hb : ∀ p ∈ Ts x noneF, 0 ≤ at' p j ∧ at' p j ≤ 12 := fun p hp => by
          have := Ts_note h hp hd hm
          rwa [e] at this
        have := (known_at hne hb).1 hw p hp q hq
        rw [List.getElem?_eq_getElem (by omega), List.getElem?_eq_getElem (by omega)]
        simpa [at', List.getElem?_eq_getElem (show j < p.length by omega), List.getElem?_eq_getElem (show j < q.length by omega)] using this
      · rw [List.getElem?_eq_none (by omega), List.getElem?_eq_none (by omega)]
  · intro h1 p hp
    rw [places2_mem] at hp
    have := Part.worst_pos hne (j := p.1 * x.N.toNat + p.2) fun q hq => Ts_note h hq hp.1 hp.2
    omega
end Go.Ai

set_option maxRecDepth 100000
set_option linter.unusedSimpArgs false
set_option linter.unusedVariables false
/-! The law of what is looked up. -/
namespace Go.Ai
open Go.Part (Sp Cp Bk truths cnt at' vals seqs seg sumN worst maxTo)
instance (p q : Nat × Nat) : Decidable (ltP p q) := by unfold ltP; infer_instance
theorem told_e {W : Nat × Nat → Nat} {n : Nat} {l : List (Nat × Nat)} {s : Op} (h : Told W n l s) : (s.e = 0 ∧ ¬ ∀ p ∈ l, n ≤ W p) ∨ (s.e = 4 ∧ s.v = 0 ∧ s.i = 0 ∧ ∀ p ∈ l, n ≤ W p) := by
  by_cases he : s.e = 0
  · left
    obtain ⟨p, hp, _, _, _, hw⟩ := h.some he
    exact ⟨he, fun ha => by have := ha p hp; omega⟩
  · right
    obtain ⟨rfl, ha⟩ := h.none he
    exact ⟨rfl, rfl, rfl, ha⟩
theorem same_e (x : PB) : (askR x).2.2 = (firstR x).2.2 := by
  unfold askR firstR openR
  by_cases he : ansE x true = 0
  · rw [if_pos he, if_pos he]
    have h1 := told_e (best_spec (Ts x noneF) x.spans.length x.N.toNat).toTold
    have h2 := told_e (first_spec (Ts x noneF) x.spans.length x.N.toNat).toTold
    rcases h1 with ⟨h1, h1'⟩ | ⟨h1, _, _, h1'⟩ <;> rcases h2 with ⟨h2, h2'⟩ | ⟨h2, _, _, h2'⟩
    · exact h1.trans h2.symm
    · exact absurd h2' h1'
    · exact absurd h1' h2'
    · exact h1.trans h2.symm
  · rw [if_neg he, if_neg he]
theorem earlier2 (o p u k : Nat) : Go.Least.earlierL [(o : Int), p] [(u : Int), k] = decide (ltP (o, p) (u, k)) := by
  simp only [Go.Least.earlierL]
  by_cases h : (o : Int) = u
  · rw [if_pos h]
    by_cases h2 : (p : Int) = k
    · rw [if_pos h2]
      rw [eq_comm, decide_eq_false_iff_not]; unfold ltP; simp only; omega
    · rw [if_neg h2, decide_eq_decide]; unfold ltP; simp only; omega
  · rw [if_neg h, decide_eq_decide]; unfold ltP; simp only; omega
set_option maxHeartbeats 8000000 in
theorem ask_law (x : PB) (hx : x.Ok) (n0 n1 : Int) : call Cv 11 [x.av, .agg [I n0, I n1]] = some (.bool true) := by
  have hsm := sound_call x hx
  have hs := noted_call
  have hvc := hx.vrow.cell
  have hcc := hx.crow.cell
  have hvp := hx.vrow.pur
  have hcp := hx.crow.pur
  have hvl := vlen hx
  have hlen := clen hx
  have a1 := askP_call x hx
  have a2 := firstP_call x hx
  have hse := same_e x
  cases hc : checkOk x with
  | false =>
    rw [hc] at hsm
    generalize askR x = A at *
    generalize firstR x = F at *
    obtain ⟨v, i, e⟩ := A
    obtain ⟨u, k, f⟩ := F
    simp only at hse
    subst hse
    simp only [PB.av, PB.cells, trip] at hsm a1 a2
    rw [call_run comp11 (Nat.le_of_ble_eq_true rfl)]
    simp (maxSteps := 10000000) [-List.getD_eq_getElem?_getD, -List.all_eq_true, code11, PB.av, PB.cells, hvc, hcc, hvp, hcp, hsm, hs, a1, a2]
  | true =>
    rw [hc] at hsm
    have hk := chk_of hc
    have hN := hk.N
    have hV := hk.V
    have hnc := hk.nc
    by_cases h4 : x.copies.length = 4
    · have e4 : ((x.copies.length : Int) == 4) = true := by simp; omega
      generalize askR x = A at *
      generalize firstR x = F at *
      obtain ⟨v, i, e⟩ := A
      obtain ⟨u, k, f⟩ := F
      simp only at hse
      subst hse
      simp only [PB.av, PB.cells, trip] at hsm a1 a2
      rw [call_run comp11 (Nat.le_of_ble_eq_true rfl)]
      simp (maxSteps := 10000000) [-List.getD_eq_getElem?_getD, -List.all_eq_true, code11, PB.av, PB.cells, hvc, hcc, hvp, hcp, hsm, hs, a1, a2, hlen, e4]
    · have e4 : ((x.copies.length : Int) == 4) = false := by simp; omega
      have hl4 : x.copies.length < 4 := by omega
      have w1 := ways_call x hx
      rw [hc] at w1
      by_cases hT : Ts x noneF = []
      · have he : ansE x true = 52 := by simp [ansE, hc, hT]
        have h520 : ¬ (52 : Int) = 0 := by decide
        simp only [askR, firstR, openR, he, if_neg h520] at a1 a2
        rw [hT] at w1
        have e5 : (([] : List (List Int)).length : Int) = 0 := rfl
        simp only [PB.av, PB.cells, trip, if_true, e5] at hsm a1 a2 w1
        rw [call_run comp11 (Nat.le_of_ble_eq_true rfl)]
        simp (maxSteps := 10000000) [-List.getD_eq_getElem?_getD, -List.all_eq_true, code11, PB.av, PB.cells, hvc, hcc, hvp, hcp, hsm, hs, a1, a2, hlen, e4, w1]
      · have he : ansE x true = 0 := by simp [ansE, hc, hT]
        have hb := best_spec (Ts x noneF) x.spans.length x.N.toNat
        have hf := first_spec (Ts x noneF) x.spans.length x.N.toNat
        have hak := all_known hk hT
        have hpos := List.length_pos_iff.2 hT
        simp only [askR, firstR, openR, he, if_true] at a1 a2
        have hne0 : (((Ts x noneF).length : Int) == 0) = false := by simp; exact hT
        generalize hS : openS (Ts x noneF) x.spans.length x.N.toNat (fun a b => decide (a < b)) = s at *
        generalize hR : openS (Ts x noneF) x.spans.length x.N.toNat (fun _ _ => false) = r at *
        rcases told_e hb.toTold with ⟨h1, h1'⟩ | ⟨h1, h11, h12, h1'⟩
        · rcases told_e hf.toTold with ⟨h2, h2'⟩ | ⟨h2, _, _, h2'⟩
          · have hn1 : (((Ts x noneF).length : Int) == 1) = false := by
              simp only [beq_eq_false_iff_ne, ne_eq]
              intro h
              exact h1' (hak.2 (by omega))
            obtain ⟨P, hP, hPv, hPi, _, hPw⟩ := hb.some h1
            obtain ⟨Q, hQ, hQv, hQi, _, hQw⟩ := hf.some h2
            have hbest := hb.best h1 P hPv hPi
            have hfirst := hf.before h2 Q hQv hQi
            rw [h1, hPv, hPi] at a1
            rw [h2, hQv, hQi] at a2
            obtain ⟨v, i⟩ := P
            obtain ⟨u, k⟩ := Q
            obtain ⟨hv, hi⟩ := (places2_mem _ _ _).1 hP
            obtain ⟨hu, hkk⟩ := (places2_mem _ _ _).1 hQ
            simp only at hv hi hu hkk hPw hQw a1 a2 hbest hfirst
            have t2 := turn_call n0 (x.spans.length : Int) (by omega)
            obtain ⟨r21, r22⟩ := turn_range n0 (x.spans.length : Int) (by omega)
            have t3 := turn_call n1 x.N (by omega)
            obtain ⟨r31, r32⟩ := turn_range n1 x.N (by omega)
            obtain ⟨o, ho⟩ := Int.eq_ofNat_of_zero_le r21
            obtain ⟨p, hp⟩ := Int.eq_ofNat_of_zero_le r31
            rw [ho] at t2 r22
            rw [hp] at t3 r32
            have hO : o < x.spans.length := by omega
            have hPP : p < x.N.toNat := by omega
            have hmo : (o, p) ∈ places2 x.spans.length x.N.toNat := (places2_mem _ _ _).2 ⟨hO, hPP⟩
            have b1 := hbest _ hmo
            have b2 := hfirst _ hmo
            have d1 := notes_ok hx hc hT hu hkk
            have d2 := notes_ok hx hc hT hO hPP
            have n1' := fun q (hq : q ∈ Ts x noneF) => Ts_note hk hq hu hkk
            have n2' := fun q (hq : q ∈ Ts x noneF) => Ts_note hk hq hO hPP
            have p1 := pos_one hT n1'
            have p2 := pos_pos hT n1'
            have p3 := pos_one hT n2'
            have hlu : ¬ ((posOf (Ts x noneF) (u * x.N.toNat + k)).length : Int) < 2 := by
              have : (posOf (Ts x noneF) (u * x.N.toNat + k)).length ≠ 1 := fun h => by have := p1.1 h; omega
              omega
            have g1 := worst51_call x hx hc hl4 hv hi
            have g2 := worst51_call x hx hc hl4 hO hPP
            have c1 := earlier_call [(o : Int), p] [(u : Int), k] (rowF [(o : Int), p]) (rowF [(u : Int), k]) (rowF_row _) (rowF_row _) (by simp) (by simp)
            have c2 := earlier_call [(o : Int), p] [(v : Int), i] (rowF [(o : Int), p]) (rowF [(v : Int), i]) (rowF_row _) (rowF_row _) (by simp) (by simp)
            rw [earlier2] at c1 c2
            have er : ∀ a b, rowF [a, b] = .sl 1 [I a, I b] .full := fun _ _ => rfl
            rw [er, er] at c1 c2
            have ff : ∀ a b : Int, fillE 1 false [(0, I a), (1, I b)] [I 0, I 0] = some [I a, I b] := fun _ _ => rfl
            have y1 := lies_call v 0 ((x.spans.length : Int) - 1)
            have y2 := lies_call i 0 (x.N - 1)
            have y3 := lies_call u 0 ((x.spans.length : Int) - 1)
            have y4 := lies_call k 0 (x.N - 1)
            have z1 : (decide ((0 : Int) ≤ v) && decide ((v : Int) ≤ (x.spans.length : Int) - 1)) = true := by simp; omega
            have z2 : (decide ((0 : Int) ≤ i) && decide ((i : Int) ≤ x.N - 1)) = true := by simp; omega
            have z3 : (decide ((0 : Int) ≤ u) && decide ((u : Int) ≤ (x.spans.length : Int) - 1)) = true := by simp; omega
            have z4 : (decide ((0 : Int) ≤ k) && decide ((k : Int) ≤ x.N - 1)) = true := by simp; omega
            rw [z1] at y1
            rw [z2] at y2
            rw [z3] at y3
            rw [z4] at y4
            have ws1 : IntKind.wrap .i64 ((x.spans.length : Int) - 1) = (x.spans.length : Int) - 1 := wrap_small (by omega) (by omega)
            have ws2 : IntKind.wrap .i64 (x.N - 1) = x.N - 1 := wrap_small (by omega) (by omega)
            have q1 := fun σ n => rowF_pur σ n (posOf (Ts x noneF) (u * x.N.toNat + k))
            have q2 := fun σ n => rowF_pur σ n (posOf (Ts x noneF) (o * x.N.toNat + p))
            have hl1 := row_len (rowF_row (posOf (Ts x noneF) (u * x.N.toNat + k)))
            have hl2 := row_len (rowF_row (posOf (Ts x noneF) (o * x.N.toNat + p)))
            have hwlt : ((worst (Ts x noneF) (v * x.N.toNat + i) : Nat) : Int) < ((Ts x noneF).length : Int) := by omega
            have hx1 : decide (ltP (o, p) (u, k)) = true → (((posOf (Ts x noneF) (o * x.N.toNat + p)).length : Int) != 1) = false := fun h => by
              have := p3.2 (b2 (of_decide_eq_true h))
              simp; omega
            generalize posOf (Ts x noneF) (u * x.N.toNat + k) = l at *
            generalize posOf (Ts x noneF) (o * x.N.toNat + p) = m at *
            simp only at b1
            generalize worst (Ts x noneF) (v * x.N.toNat + i) = W1 at *
            generalize worst (Ts x noneF) (o * x.N.toNat + p) = W2 at *
            simp only [PB.av, PB.cells, trip, rowN, ints, List.map_cons, List.map_nil, if_true] at hsm a1 a2 w1 d1 d2 g1 g2 c1 c2
            generalize ((Ts x noneF).length : Int) = lT at *
            have hw12 : ((W1 : Int) < (W2 : Int)) ∨ ((¬ (W1 : Int) < (W2 : Int)) ∧ ((W1 : Int) == (W2 : Int)) = true ∧ decide (ltP (o, p) (v, i)) = false) := by
              rcases b1 with b | ⟨b, b'⟩
              · left; omega
              · right
                refine ⟨by omega, by simp; omega, by simpa using b'⟩
            generalize decide (ltP (o, p) (u, k)) = D1 at *
            generalize decide (ltP (o, p) (v, i)) = D2 at *
            rw [call_run comp11 (Nat.le_of_ble_eq_true rfl)]
            cases D1 with
            | false =>
              rcases hw12 with hw | ⟨hw, hw', rfl⟩
              · simp (maxSteps := 10000000) [-List.getD_eq_getElem?_getD, -List.all_eq_true, code11, PB.av, PB.cells, hvc, hcc, hvp, hcp, hsm, hs, a1, a2, hlen, hvl, e4, w1, hne0, hn1, t2, t3, d1, d2, g1, g2, c1, c2, y1, y2, y3, y4, ws1, ws2, q1, q2, hl1, hl2, hlu, hwlt, ff, hw]
              · simp (maxSteps := 10000000) [-List.getD_eq_getElem?_getD, -List.all_eq_true, code11, PB.av, PB.cells, hvc, hcc, hvp, hcp, hsm, hs, a1, a2, hlen, hvl, e4, w1, hne0, hn1, t2, t3, d1, d2, g1, g2, c1, c2, y1, y2, y3, y4, ws1, ws2, q1, q2, hl1, hl2, hlu, hwlt, ff, hw, hw']
            | true =>
              have hx2 := hx1 rfl
              rcases hw12 with hw | ⟨hw, hw', rfl⟩
              · simp (maxSteps := 10000000) [-List.getD_eq_getElem?_getD, -List.all_eq_true, code11, PB.av, PB.cells, hvc, hcc, hvp, hcp, hsm, hs, a1, a2, hlen, hvl, e4, w1, hne0, hn1, t2, t3, d1, d2, g1, g2, c1, c2, y1, y2, y3, y4, ws1, ws2, q1, q2, hl1, hl2, hlu, hwlt, ff, hw, hx2]
              · simp (maxSteps := 10000000) [-List.getD_eq_getElem?_getD, -List.all_eq_true, code11, PB.av, PB.cells, hvc, hcc, hvp, hcp, hsm, hs, a1, a2, hlen, hvl, e4, w1, hne0, hn1, t2, t3, d1, d2, g1, g2, c1, c2, y1, y2, y3, y4, ws1, ws2, q1, q2, hl1, hl2, hlu, hwlt, ff, hw, hw', hx2]
          · exact absurd h2' h1'
        · rcases told_e hf.toTold with ⟨h2, h2'⟩ | ⟨h2, h21, h22, h2'⟩
          · exact absurd h1' h2'
          · have hl1 := hak.1 h1'
            rw [h1, h11, h12] at a1
            rw [h2, h21, h22] at a2
            rw [hl1] at w1
            have e5 : ((1 : Nat) : Int) = 1 := rfl
            simp only [PB.av, PB.cells, trip, if_true, e5] at hsm a1 a2 w1
            rw [call_run comp11 (Nat.le_of_ble_eq_true rfl)]
            simp (maxSteps := 10000000) [-List.getD_eq_getElem?_getD, -List.all_eq_true, code11, PB.av, PB.cells, hvc, hcc, hvp, hcp, hsm, hs, a1, a2, hlen, e4, w1]
end Go.Ai
