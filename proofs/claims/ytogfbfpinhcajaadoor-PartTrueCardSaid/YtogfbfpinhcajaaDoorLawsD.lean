/- This text shows the law of one copy more, in the interpreter. No conditions of its own. -/
import Derived.Test.YtogfbfpinhcajaaDoorLawsC
set_option linter.unusedSimpArgs false
set_option linter.unusedVariables false
set_option maxRecDepth 100000
set_option linter.unusedSimpArgs false
set_option linter.unusedVariables false
/-! One copy more: plain facts. -/
namespace Go.Ai
open Go.Part (Sp Cp Bk truths cnt at' rightK Piece Good seg)
def PB.more (x : PB) (c : CpV) : PB := x.having (x.copies ++ [c])
theorem more_ok {x : PB} (hx : x.Ok) (hl : x.copies.length < 1000) {c : CpV} (hc : c.Ok) : (x.more c).Ok := having_ok hx _ (by rw [List.length_append, List.length_singleton]; omega) fun d hd => by
  rcases List.mem_append.1 hd with h | h
  · exact hx.cp d h
  · rw [List.mem_singleton.1 h]; exact hc
theorem bk_more (x : PB) (c : CpV) : bkOf (x.more c) = (bkOf x).with c.cp := by
  show (⟨_, _, _, _, _, _⟩ : Bk) = _
  unfold Part.Bk.with
  rw [show (x.more c).copies = x.copies ++ [c] from rfl, List.map_append]
  rfl
theorem more_check {x : PB} (hc : checkOk x = true) (hl : x.copies.length < 4) (c : CpV) : checkOk (x.more c) = copyOk x c := by
  have h := copies_ok hc
  cases hq : copyOk x c with
  | true =>
    refine having_check hc _ (fun d hd => ?_) (by rw [List.length_append, List.length_singleton]; omega)
    rcases List.mem_append.1 hd with h' | h'
    · exact h d h'
    · rw [List.mem_singleton.1 h']; exact hq
  | false =>
    cases hm : checkOk (x.more c) with
    | false => rfl
    | true =>
      have := copies_ok hm c (by show c ∈ x.copies ++ [c]; simp)
      rw [show copyOk (x.more c) c = copyOk x c from rfl, hq] at this
      cases this
theorem more_Ts {x : PB} (h : Chk x) {c : CpV} (hq : copyOk x c = true) {out : Nat → Bool} (ho : out x.copies.length = false) : Ts (x.more c) out = (Ts x out).filter fun q => decide (seg x.N.toNat q c.cp.voice.toNat = c.cp.notes) := by
  have hN := h.N
  have hco := copyOk_iff hq
  unfold Ts
  rw [bk_more]
  exact Part.truths_with (b := bkOf x) (by show 0 < x.N.toNat; omega) (c := c.cp) (v := c.cp.voice.toNat) (by omega) (by show _ < x.spans.length; omega) (by show _ = x.N.toNat; omega) (by show out (x.copies.map CpV.cp).length = false; rw [List.length_map]; exact ho)
theorem right_congr (out out' : Nat → Bool) (v i : Nat) (n : Int) : ∀ (cs : List Cp) (k : Nat), (∀ j, k ≤ j → j < k + cs.length → out j = out' j) → rightK out v i n cs k = rightK out' v i n cs k
  | [], _, _ => rfl
  | c :: cs, k, h => by
    rw [rightK, rightK, h k (Nat.le_refl _) (by simp), right_congr out out' v i n cs (k + 1) fun j h1 h2 => h j (by omega) (by rw [List.length_cons]; omega)]
theorem right_mono (out out' : Nat → Bool) (v i : Nat) (n : Int) : ∀ (cs : List Cp) (k : Nat), (∀ j, out j = true → out' j = true) → rightK out v i n cs k = true → rightK out' v i n cs k = true
  | [], _, _, _ => rfl
  | c :: cs, k, h, hr => by
    rw [rightK, Bool.and_eq_true] at hr ⊢
    refine ⟨?_, right_mono out out' v i n cs (k + 1) h hr.2⟩
    have h1 := hr.1
    simp only [Bool.or_eq_true] at h1 ⊢
    rcases h1 with (h1 | h1) | h1
    · exact .inl (.inl h1)
    · exact .inl (.inr (h k h1))
    · exact .inr h1
theorem right_all (v i : Nat) (n : Int) : ∀ (cs : List Cp) (k : Nat), rightK (fun _ => true) v i n cs k = true
  | [], _ => rfl
  | c :: cs, k => by rw [rightK, right_all v i n cs (k + 1)]; simp
theorem piece_mono {b b' : Bk} {out out' : Nat → Bool} {q : List Int} (hN : b'.N = b.N) (hs : b'.spans = b.spans) (h1 : b'.step = b.step) (h2 : b'.chords = b.chords) (h3 : b'.perfect = b.perfect) (hr : ∀ v i n, rightK out v i n b.copies 0 = true → rightK out' v i n b'.copies 0 = true) (h : Piece b out q) : Piece b' out' q where
  len := by rw [hN, hs]; exact h.len
  span v i s hv hi := by rw [hN] at hi ⊢; rw [hs] at hv; exact h.span v i s hv hi
  good v i hv hi := by
    rw [hs] at hv
    rw [hN] at hi
    have g := h.good v i hv hi
    refine ⟨?_, fun h0 => ?_, fun h0 => ?_, fun h0 h0' => ?_⟩
    · rw [hN]; exact hr _ _ _ g.right
    · rw [hN, h2]; exact g.chord h0
    · have := g.step h0
      rw [hN]
      simpa only [Part.stepOk, h1] using this
    · have := g.move h0 h0'
      rw [hN]
      simpa only [Part.moveOk, h3] using this
theorem Ts_sub {x : PB} (h : Chk x) {x' : PB} {out out' : Nat → Bool} (hN : x'.N = x.N) (hs : x'.spans = x.spans) (h1 : x'.step = x.step) (h2 : x'.chords = x.chords) (h3 : x'.perfect = x.perfect) (hr : ∀ v i n, rightK out v i n (x.copies.map CpV.cp) 0 = true → rightK out' v i n (x'.copies.map CpV.cp) 0 = true) : ∀ q ∈ Ts x out, q ∈ Ts x' out' := fun q hq => by
  have hn := h.N
  exact (Part.truths_mem (by show 0 < x'.N.toNat; rw [hN]; omega) q).2 (piece_mono (b := bkOf x) (b' := bkOf x') (by show x'.N.toNat = x.N.toNat; rw [hN]) hs h1 h2 h3 hr (Ts_mem h hq))
theorem ne_of_sub {α : Type} {l m : List α} (h : ∀ q ∈ l, q ∈ m) (hl : l ≠ []) : m ≠ [] := by
  rintro rfl
  cases l with
  | nil => exact hl rfl
  | cons a l => exact absurd (h a (.head _)) List.not_mem_nil
/-- Some can be told just if the book can be true without any copy. -/
theorem wrong_iff {x : PB} (hc : checkOk x = true) : (wrongO x).isSome = decide (Ts x (fun _ => true) ≠ []) := by
  have h := chk_of hc
  have hnc := h.nc
  cases hw : wrongO x with
  | some w =>
    have := (wrong_told hc hw).fine
    simp only [okL, decide_eq_true_eq] at this
    have := ne_of_sub (Ts_sub h (x' := x) (out' := fun _ => true) rfl rfl rfl rfl rfl (fun v i n hr => right_all v i n _ _)) this
    simp [this]
  | none =>
    have hn := wrong_not hc hw (2 ^ x.copies.length - 1)
    simp only [okL, decide_eq_false_iff_not, ne_eq, Classical.not_not] at hn
    have hb := Part.all_bits x.copies.length (by omega)
    have : Ts x (fun _ => true) = [] := by
      apply Classical.byContradiction
      intro hne
      refine ne_of_sub (Ts_sub h (x' := x) (out' := butF (Least.bitsL (2 ^ x.copies.length - 1) x.copies.length)) rfl rfl rfl rfl rfl (fun v i n hr => ?_)) hne hn
      rw [← hr]
      refine right_congr _ _ v i n _ 0 fun j _ hj => ?_
      rw [List.length_map, Nat.zero_add] at hj
      simp [butF, hb j hj]
    simp [this]
theorem more_wrong {x : PB} (hc : checkOk x = true) (hl : x.copies.length < 4) {c : CpV} (hq : copyOk x c = true) : wrongE (x.more c) = wrongE x ∧ (wrongL x).length ≤ (wrongL (x.more c)).length := by
  have hc' : checkOk (x.more c) = true := by rw [more_check hc hl]; exact hq
  have h := chk_of hc
  have h' := chk_of hc'
  have hlen : (x.more c).copies.length = x.copies.length + 1 := by show (x.copies ++ [c]).length = _; simp
  have hsome : (wrongO (x.more c)).isSome = (wrongO x).isSome := by
    rw [wrong_iff hc, wrong_iff hc', decide_eq_decide]
    constructor
    · exact ne_of_sub (Ts_sub h' (x' := x) (out' := fun _ => true) rfl rfl rfl rfl rfl (fun v i n hr => right_all v i n _ _))
    · exact ne_of_sub (Ts_sub h (x' := x.more c) (out' := fun _ => true) rfl rfl rfl rfl rfl (fun v i n hr => right_all v i n _ _))
  refine ⟨by unfold wrongE; rw [hc, hc', hsome], ?_⟩
  cases hw : wrongO x with
  | none => simp [wrongL, hw]
  | some w =>
    cases hu : wrongO (x.more c) with
    | none => rw [hw, hu] at hsome; simp at hsome
    | some u =>
      simp only [wrongL, hw, hu, Option.getD_some]
      have tw := wrong_told hc hw
      have tu := wrong_told hc' hu
      rw [hlen] at tu
      refine Part.told_more (by omega) (fun l m hl' hm => ?_) tw tu
      simp only [okL, decide_eq_true_eq] at hl' ⊢
      refine ne_of_sub (Ts_sub h' (x' := x) (out' := butF m) rfl rfl rfl rfl rfl (fun v i n hr => ?_)) hl'
      rw [show ((x.more c).copies.map CpV.cp) = x.copies.map CpV.cp ++ [c.cp] from by show (x.copies ++ [c]).map _ = _; rw [List.map_append]; rfl, Part.right_app, Bool.and_eq_true] at hr
      rw [← hr.1]
      refine right_congr _ _ v i n _ 0 fun j _ hj => ?_
      rw [List.length_map, Nat.zero_add] at hj
      have := hm (j : Int)
      simp only [butF, decide_eq_decide]
      rw [this]
      constructor
      · intro h1; exact h1.1
      · intro h1; exact ⟨h1, by omega⟩
theorem fitFrom_iff {N : Nat} {q : List Int} {V v : Nat} (hq : q.length = V * N) (hv : v < V) (hV : V ≤ 3) (hN : N ≤ 3) : ∀ (l : List Int) (k : Nat), k + l.length = N → (fitFrom v (pc N q) l k = true ↔ ∀ i, i < l.length → l.getD i 0 = at' q (v * N + (k + i)))
  | [], k, h => by simp [fitFrom]
  | n :: l, k, h => by
    rw [List.length_cons] at h
    have hg := pc_get (N := N) q (v := v) (i := k) (by omega) (by omega) (by omega)
    rw [if_pos (by
      rw [hq]
      calc v * N + k < v * N + N := by omega
        _ = (v + 1) * N := by rw [Nat.add_mul, Nat.one_mul]
        _ ≤ V * N := Nat.mul_le_mul_right _ hv)] at hg
    have hg' : at' (pc N q) (k * 3 + v) = at' q (v * N + k) := hg
    rw [fitFrom, Bool.and_eq_true, fitFrom_iff hq hv hV hN l (k + 1) (by omega), hg', decide_eq_true_eq]
    constructor
    · rintro ⟨h1, h2⟩ i hi
      cases i with
      | zero => simpa using h1.symm
      | succ i => rw [List.length_cons] at hi; have := h2 i (by omega); rw [show k + (i + 1) = k + 1 + i by omega]; simpa using this
    · intro h'
      refine ⟨by have := h' 0 (by simp); simpa using this.symm, fun i hi => ?_⟩
      have := h' (i + 1) (by rw [List.length_cons]; omega)
      rw [show k + 1 + i = k + (i + 1) by omega]
      simpa using this
theorem fit_seg {N : Nat} {q : List Int} {V v : Nat} (hq : q.length = V * N) (hv : v < V) (hV : V ≤ 3) (hN : N ≤ 3) {l : List Int} (hl : l.length = N) : fitFrom v (pc N q) l 0 = decide (seg N q v = l) := by
  have hsl := Part.seg_len (k := v) hq hv
  rw [Bool.eq_iff_iff, decide_eq_true_eq, fitFrom_iff hq hv hV hN l 0 (by omega)]
  constructor
  · intro h
    refine List.ext_getElem? fun i => ?_
    by_cases hi : i < N
    · have h1 := h i (by omega)
      rw [Nat.zero_add, ← Part.seg_at hi] at h1
      simp only [at', List.getD_eq_getElem?_getD] at h1
      rw [List.getElem?_eq_getElem (by omega), List.getElem?_eq_getElem (by omega)] at h1 ⊢
      simpa using h1.symm
    · rw [List.getElem?_eq_none (by omega), List.getElem?_eq_none (by omega)]
  · intro h i hi
    rw [← h, Nat.zero_add, ← Part.seg_at (by omega)]; rfl
/-- A copy fits just if the book with it can be true. -/
theorem fitsP_iff {x : PB} (hc : checkOk x = true) {c : CpV} (hq : copyOk x c = true) : fitsP x c = decide (Ts (x.more c) noneF ≠ []) := by
  have h := chk_of hc
  have hN := h.N
  have hV := h.V
  have hco := copyOk_iff hq
  have hany : (Ps x noneF).any (fun p => fitFrom c.cp.voice.toNat p c.cp.notes 0) = decide (Ts (x.more c) noneF ≠ []) := by
    rw [more_Ts h hq rfl, Bool.eq_iff_iff, decide_eq_true_eq, Ps, List.any_map, List.any_eq_true]
    constructor
    · rintro ⟨q, hqm, hf⟩ hn
      have : q ∈ (Ts x noneF).filter fun q => decide (seg x.N.toNat q c.cp.voice.toNat = c.cp.notes) := by
        rw [List.mem_filter]
        refine ⟨hqm, ?_⟩
        rw [← fit_seg (Ts_len h q hqm) (by omega) (by omega) (by omega) (by omega)]
        exact hf
      rw [hn] at this
      cases this
    · intro hne
      obtain ⟨q, hqm⟩ := List.exists_mem_of_ne_nil _ hne
      rw [List.mem_filter] at hqm
      refine ⟨q, hqm.1, ?_⟩
      show fitFrom _ (pc x.N.toNat q) _ 0 = true
      rw [fit_seg (Ts_len h q hqm.1) (by omega) (by omega) (by omega) (by omega)]
      exact hqm.2
  unfold fitsP
  rw [hany, hq]
  by_cases hT : Ts x noneF = []
  · have he : ansE x true = 52 := by simp [ansE, hc, hT]
    have hm : Ts (x.more c) noneF = [] := by rw [more_Ts h hq rfl, hT]; rfl
    simp [he, hm]
  · have he : ansE x true = 0 := by simp [ansE, hc, hT]
    simp [he]
end Go.Ai
