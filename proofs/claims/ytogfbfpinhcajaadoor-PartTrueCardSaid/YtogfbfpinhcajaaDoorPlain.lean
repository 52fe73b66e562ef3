/- This text shows the truths of a piece: plain lists. No conditions of its own. -/
import Derived.Test.YtogfbfpinhcajaaDoorLeast
set_option linter.unusedSimpArgs false
set_option linter.unusedVariables false
set_option linter.unusedVariables false
set_option linter.unusedSimpArgs false
/-! Lists of choices, in order; those that are fit at each step. Plain lists: no program. -/
namespace Go.Part
def seqs {α : Type} : List (List α) → List (List α)
  | [] => [[]]
  | L :: Ls => L.flatMap fun n => (seqs Ls).map (n :: ·)
def dfs {α : Type} (ok : List α → α → Bool) : List (List α) → List α → List (List α)
  | [], q => [q]
  | L :: Ls, q => L.flatMap fun n => if ok q n then dfs ok Ls (q ++ [n]) else []
def okAll {α : Type} (ok : List α → α → Bool) : List α → List α → Bool
  | _, [] => true
  | q, n :: r => ok q n && okAll ok (q ++ [n]) r
variable {α β : Type}
theorem dfs_eq (ok : List α → α → Bool) : ∀ (Ls : List (List α)) (q : List α), dfs ok Ls q = ((seqs Ls).filter (okAll ok q)).map (q ++ ·)
  | [], q => by
    have : okAll ok q [] = true := by rw [okAll]
    simp [dfs, seqs, List.filter_cons, this]
  | L :: Ls, q => by
    rw [dfs, seqs, List.filter_flatMap, List.map_flatMap]
    congr 1
    funext n
    rw [List.filter_map]
    by_cases h : ok q n = true
    · rw [if_pos h, dfs_eq ok Ls (q ++ [n])]
      have e : (okAll ok q ∘ fun x => n :: x) = okAll ok (q ++ [n]) := by
        funext r
        simp [okAll, h]
      rw [e, List.map_map]
      congr 1
      funext r
      simp
    · have e : (okAll ok q ∘ fun x => n :: x) = fun _ => false := by
        funext r
        simp [okAll, h]
      rw [if_neg h, e]
      simp
theorem seqs_app : ∀ (A B : List (List α)), seqs (A ++ B) = (seqs A).flatMap fun a => (seqs B).map (a ++ ·)
  | [], B => by simp [seqs]
  | L :: A, B => by
    rw [List.cons_append, seqs, seqs, seqs_app A B, List.flatMap_assoc]
    congr 1
    funext n
    rw [List.flatMap_map, List.map_flatMap]
    congr 1
    funext a
    rw [List.map_map]
    rfl
theorem seqs_mem : ∀ (Ls : List (List α)) (q : List α), q ∈ seqs Ls ↔ q.length = Ls.length ∧ ∀ (i : Nat) (n : α) (L : List α), q[i]? = some n → Ls[i]? = some L → n ∈ L
  | [], q => by
    simp only [seqs, List.mem_singleton, List.length_nil]
    constructor
    · rintro rfl; exact ⟨rfl, fun i n L h => by simp at h⟩
    · rintro ⟨h, _⟩; exact List.length_eq_zero_iff.1 h
  | L :: Ls, q => by
    simp only [seqs, List.mem_flatMap, List.mem_map]
    constructor
    · rintro ⟨n, hn, r, hr, rfl⟩
      obtain ⟨h1, h2⟩ := (seqs_mem Ls r).1 hr
      refine ⟨by simp [h1], fun i m M hm hM => ?_⟩
      cases i with
      | zero => simp only [List.getElem?_cons_zero, Option.some.injEq] at hm hM; subst hm hM; exact hn
      | succ i => exact h2 i m M (by simpa using hm) (by simpa using hM)
    · rintro ⟨h1, h2⟩
      match q, h1 with
      | n :: r, h1 => exact ⟨n, h2 0 n L rfl rfl, r, (seqs_mem Ls r).2 ⟨by simpa using h1, fun i m M hm hM => h2 (i + 1) m M (by simpa using hm) (by simpa using hM)⟩, rfl⟩
theorem seqs_nodup : ∀ (Ls : List (List α)), (∀ L ∈ Ls, L.Nodup) → (seqs Ls).Nodup
  | [], _ => by simp [seqs]
  | L :: Ls, h => by
    have ih := seqs_nodup Ls fun M hM => h M (.tail _ hM)
    have hL := h L (.head _)
    rw [seqs]
    clear h
    induction L with
    | nil => simp
    | cons n L ihL =>
      rw [List.flatMap_cons]
      have hn := List.nodup_cons.1 hL
      refine List.nodup_append.2 ⟨?_, ihL hn.2, ?_⟩
      · exact List.Pairwise.map _ (fun a b hab he => hab (by simpa using he)) ih
      · intro a ha b hb hab
        subst hab
        obtain ⟨r, _, rfl⟩ := List.mem_map.1 ha
        obtain ⟨m, hm, hb⟩ := List.mem_flatMap.1 hb
        obtain ⟨r', _, he⟩ := List.mem_map.1 hb
        simp only [List.cons.injEq] at he
        exact hn.1 (he.1 ▸ hm)
end Go.Part

set_option linter.unusedVariables false
set_option linter.unusedSimpArgs false
/-! The truths of a piece: as the program writes them, and as the specification does. Plain lists: no program. -/
namespace Go.Part
structure Sp where
  low : Int
  high : Int
structure Cp where
  voice : Int
  notes : List Int
/-- A book, and which of its copies are left out. -/
structure Bk where
  N : Nat
  spans : List Sp
  step : Int
  chords : Int
  perfect : Int
  copies : List Cp
def vals (s : Sp) : List Int := (List.range (s.high - s.low + 1).toNat).map fun (k : Nat) => s.low + k
def has (set n : Int) : Bool := decide (0 ≤ n) && decide (n < 62) && (set.toNat.testBit n.toNat)
def rightK (out : Nat → Bool) (v i : Nat) (n : Int) : List Cp → Nat → Bool
  | [], _ => true
  | c :: l, k => (!decide (c.voice = (v : Int)) || out k || decide (c.notes.getD i 0 = n)) && rightK out v i n l (k + 1)
def copiedK (out : Nat → Bool) (v : Nat) (line : List Int) : List Cp → Nat → Bool
  | [], _ => true
  | c :: l, k => (!decide (c.voice = (v : Int)) || out k || decide (c.notes = line)) && copiedK out v line l (k + 1)
/-- The rules of the style, at the second of two notes, of two voices. -/
def stepOk (b : Bk) (was n : Int) : Bool := decide (-b.step ≤ n - was) && decide (n - was ≤ b.step)
def moveOk (b : Bk) (was n lowWas low : Int) : Bool := decide (n = was) || !decide (n - low = was - lowWas) || !has b.perfect (n - low)
def at' (q : List Int) (i : Nat) : Int := q.getD i 0
/-- Can a note stand behind some? -/
def okP (b : Bk) (out : Nat → Bool) (q : List Int) (n : Int) : Bool :=
  rightK out (q.length / b.N) (q.length % b.N) n b.copies 0 &&
  ((decide (q.length / b.N = 0) || has b.chords (n - at' q (q.length - b.N))) &&
   (decide (q.length % b.N = 0) || (stepOk b (at' q (q.length - 1)) n &&
     (decide (q.length / b.N = 0) || moveOk b (at' q (q.length - 1)) n (at' q (q.length - b.N - 1)) (at' q (q.length - b.N))))))
def places (N : Nat) (l : List Sp) : List (List Int) := l.flatMap fun s => List.replicate N (vals s)
def truths (b : Bk) (out : Nat → Bool) : List (List Int) := dfs (okP b out) (places b.N b.spans) []
/-! ### The specification's -/
def lineK (b : Bk) (q : List Int) (n : Int) : Bool := decide (q.length = 0) || stepOk b (at' q (q.length - 1)) n
def lines (b : Bk) (s : Sp) : List (List Int) := dfs (lineK b) (List.replicate b.N (vals s)) []
def agreeK (b : Bk) (low high : List Int) : Nat → Nat → Bool
  | _, 0 => true
  | i, m + 1 => (has b.chords (at' high i - at' low i) && !(decide (0 < i) && decide (at' high (i - 1) - at' low (i - 1) = at' high i - at' low i) && !decide (at' low i = at' low (i - 1)) && has b.perfect (at' high i - at' low i))) && agreeK b low high (i + 1) m
def agree (b : Bk) (low high : List Int) : Bool := agreeK b low high 0 b.N
def prevOk (b : Bk) (prev : Option (List Int)) (l : List Int) : Bool := match prev with
  | none => true
  | some p => agree b p l
def pieces (b : Bk) (out : Nat → Bool) : List Sp → Nat → Option (List Int) → List (List (List Int))
  | [], _, _ => [[]]
  | s :: ss, k, prev => (lines b s).flatMap fun l => if copiedK out k l b.copies 0 && prevOk b prev l then (pieces b out ss (k + 1) (some l)).map (l :: ·) else []
/-! ### Both are the same -/
theorem okAll_iff {α : Type} (ok : List α → α → Bool) : ∀ (r p : List α), okAll ok p r = true ↔ ∀ (j : Nat) (n : α), r[j]? = some n → ok (p ++ r.take j) n = true
  | [], p => by simp [okAll]
  | n :: r, p => by
    rw [okAll, Bool.and_eq_true, okAll_iff ok r (p ++ [n])]
    constructor
    · rintro ⟨h1, h2⟩ j m hm
      cases j with
      | zero => simp only [List.getElem?_cons_zero, Option.some.injEq] at hm; subst hm; simpa using h1
      | succ j => have := h2 j m (by simpa using hm); simpa using this
    · intro h
      refine ⟨by simpa using h 0 n rfl, fun j m hm => ?_⟩
      have := h (j + 1) m (by simpa using hm)
      simpa using this
theorem at_take {q : List Int} {i j : Nat} (h : i < j) : at' (q.take j) i = at' q i := by
  simp only [at', List.getD_eq_getElem?_getD]
  rw [List.getElem?_take, if_pos h]
/-- What is asked of the note of a voice. -/
structure Good (b : Bk) (out : Nat → Bool) (q : List Int) (v i : Nat) : Prop where
  right : rightK out v i (at' q (v * b.N + i)) b.copies 0 = true
  chord : 0 < v → has b.chords (at' q (v * b.N + i) - at' q ((v - 1) * b.N + i)) = true
  step : 0 < i → stepOk b (at' q (v * b.N + (i - 1))) (at' q (v * b.N + i)) = true
  move : 0 < v → 0 < i → moveOk b (at' q (v * b.N + (i - 1))) (at' q (v * b.N + i)) (at' q ((v - 1) * b.N + (i - 1))) (at' q ((v - 1) * b.N + i)) = true
theorem good_at {b : Bk} {out : Nat → Bool} {q : List Int} {v i : Nat} (hi : i < b.N) (hl : v * b.N + i < q.length) : okP b out (q.take (v * b.N + i)) (at' q (v * b.N + i)) = true ↔ Good b out q v i := by
  have hlen : (q.take (v * b.N + i)).length = v * b.N + i := by rw [List.length_take]; omega
  have hd : (v * b.N + i) / b.N = v := by rw [Nat.add_comm, Nat.add_mul_div_right _ _ (by omega), Nat.div_eq_of_lt hi, Nat.zero_add]
  have hm : (v * b.N + i) % b.N = i := by rw [Nat.add_comm, Nat.add_mul_mod_self_right, Nat.mod_eq_of_lt hi]
  have hv : 0 < v → v * b.N = (v - 1) * b.N + b.N := fun h => by
    obtain ⟨u, rfl⟩ : ∃ u, v = u + 1 := ⟨v - 1, by omega⟩
    rw [Nat.add_mul, Nat.one_mul]; rfl
  simp only [okP, hlen, hd, hm, Bool.and_eq_true, Bool.or_eq_true, decide_eq_true_eq]
  constructor
  · rintro ⟨h1, h2, h3⟩
    refine ⟨h1, fun h0 => ?_, fun h0 => ?_, fun h0 h0' => ?_⟩
    · have := hv h0
      rcases h2 with h2 | h2
      · omega
      · rw [at_take (by omega)] at h2
        rwa [show v * b.N + i - b.N = (v - 1) * b.N + i from by omega] at h2
    · rcases h3 with h3 | ⟨h3, _⟩
      · omega
      · rw [at_take (by omega)] at h3
        rwa [show v * b.N + i - 1 = v * b.N + (i - 1) from by omega] at h3
    · have := hv h0
      rcases h3 with h3 | ⟨_, h3 | h3⟩
      · omega
      · omega
      · rw [at_take (by omega), at_take (by omega), at_take (by omega)] at h3
        rwa [show v * b.N + i - 1 = v * b.N + (i - 1) from by omega, show v * b.N + i - b.N - 1 = (v - 1) * b.N + (i - 1) from by omega, show v * b.N + i - b.N = (v - 1) * b.N + i from by omega] at h3
  · intro h
    refine ⟨h.right, ?_, ?_⟩
    · by_cases h0 : v = 0
      · exact .inl h0
      · right
        have := hv (by omega)
        rw [at_take (by omega), show v * b.N + i - b.N = (v - 1) * b.N + i from by omega]
        exact h.chord (by omega)
    · by_cases h0 : i = 0
      · exact .inl h0
      · right
        rw [at_take (by omega), show v * b.N + i - 1 = v * b.N + (i - 1) from by omega]
        refine ⟨h.step (by omega), ?_⟩
        by_cases h1 : v = 0
        · exact .inl h1
        · right
          have := hv (by omega)
          rw [at_take (by omega), at_take (by omega), show v * b.N + i - b.N - 1 = (v - 1) * b.N + (i - 1) from by omega, show v * b.N + i - b.N = (v - 1) * b.N + i from by omega]
          exact h.move (by omega) (by omega)
theorem all_good {b : Bk} (hN : 0 < b.N) {out : Nat → Bool} {q : List Int} (V : Nat) (hq : q.length = V * b.N) : okAll (okP b out) [] q = true ↔ ∀ v i, v < V → i < b.N → Good b out q v i := by
  rw [okAll_iff]
  constructor
  · intro h v i hv hi
    have hlt : v * b.N + i < q.length := by
      rw [hq]
      calc v * b.N + i < v * b.N + b.N := by omega
        _ = (v + 1) * b.N := by rw [Nat.add_mul, Nat.one_mul]
        _ ≤ V * b.N := Nat.mul_le_mul_right _ hv
    have := h (v * b.N + i) q[v * b.N + i] (List.getElem?_eq_getElem hlt)
    rw [List.nil_append, show q[v * b.N + i] = at' q (v * b.N + i) from by simp [at', hlt]] at this
    exact (good_at hi hlt).1 this
  · intro h j n hj
    have hlt : j < q.length := (List.getElem?_eq_some_iff.1 hj).1
    have hjj : j = (j / b.N) * b.N + j % b.N := by rw [Nat.mul_comm]; exact (Nat.div_add_mod j b.N).symm
    have hv : j / b.N < V := by
      rw [Nat.div_lt_iff_lt_mul hN, ← hq]; exact hlt
    have hi := Nat.mod_lt j hN
    have hn : n = at' q j := by simp [at', hj]
    rw [List.nil_append, hn]
    have hg := (good_at (b := b) (out := out) (q := q) hi (by rw [← hjj]; exact hlt)).2 (h _ _ hv hi)
    rwa [← hjj] at hg
end Go.Part

set_option linter.unusedVariables false
set_option linter.unusedSimpArgs false
namespace Go.Part
def lineAll (b : Bk) (l : List Int) : Bool := okAll (lineK b) [] l
def goodR (b : Bk) (out : Nat → Bool) : Nat → Nat → Option (List Int) → List Int → Bool
  | 0, _, _, _ => true
  | m + 1, k, prev, q => (lineAll b (q.take b.N) && (copiedK out k (q.take b.N) b.copies 0 && prevOk b prev (q.take b.N))) && goodR b out m (k + 1) (some (q.take b.N)) (q.drop b.N)
theorem lines_eq (b : Bk) (s : Sp) : lines b s = (seqs (List.replicate b.N (vals s))).filter (lineAll b) := by
  rw [lines, dfs_eq]
  have : okAll (lineK b) [] = lineAll b := funext fun l => rfl
  rw [this]
  simp
theorem flatMap_congr' {α β : Type} {f g : α → List β} : ∀ {l : List α}, (∀ a ∈ l, f a = g a) → l.flatMap f = l.flatMap g
  | [], _ => rfl
  | a :: l, h => by rw [List.flatMap_cons, List.flatMap_cons, h a (.head _), flatMap_congr' fun b hb => h b (.tail _ hb)]
theorem filter_flatMap_if {α β : Type} (p : α → Bool) (f : α → List β) : ∀ l : List α, (l.filter p).flatMap f = l.flatMap fun a => if p a then f a else []
  | [] => rfl
  | a :: l => by
    rw [List.filter_cons, List.flatMap_cons]
    by_cases h : p a = true
    · rw [if_pos h, if_pos h, List.flatMap_cons, filter_flatMap_if p f l]
    · rw [if_neg h, if_neg h, List.nil_append, filter_flatMap_if p f l]
theorem pieces_eq (b : Bk) (out : Nat → Bool) : ∀ (ss : List Sp) (k : Nat) (prev : Option (List Int)), (pieces b out ss k prev).map List.flatten = (seqs (places b.N ss)).filter (goodR b out ss.length k prev)
  | [], k, prev => by
    simp [pieces, places, seqs, goodR, List.filter_cons]
  | s :: ss, k, prev => by
    have hp : places b.N (s :: ss) = List.replicate b.N (vals s) ++ places b.N ss := by rw [places, List.flatMap_cons]; rfl
    rw [pieces, lines_eq, filter_flatMap_if, List.map_flatMap, hp, seqs_app, List.filter_flatMap]
    refine flatMap_congr' fun a ha => ?_
    have hal : a.length = b.N := by rw [((seqs_mem _ a).1 ha).1, List.length_replicate]
    have e : (goodR b out (s :: ss).length k prev ∘ fun x => a ++ x) = fun r => (lineAll b a && (copiedK out k a b.copies 0 && prevOk b prev a)) && goodR b out ss.length (k + 1) (some a) r := by
      funext r
      show goodR b out (ss.length + 1) k prev (a ++ r) = _
      rw [goodR, List.take_left' hal, List.drop_left' hal]
    rw [List.filter_map, e]
    by_cases h1 : lineAll b a = true
    · rw [if_pos h1]
      by_cases h2 : (copiedK out k a b.copies 0 && prevOk b prev a) = true
      · rw [if_pos h2, List.map_map]
        have := pieces_eq b out ss (k + 1) (some a)
        have e2 : (fun r => (lineAll b a && (copiedK out k a b.copies 0 && prevOk b prev a)) && goodR b out ss.length (k + 1) (some a) r) = goodR b out ss.length (k + 1) (some a) := by
          funext r; rw [h1, h2]; rfl
        rw [e2, ← this, List.map_map]
        congr 1
      · have e2 : (fun r => (lineAll b a && (copiedK out k a b.copies 0 && prevOk b prev a)) && goodR b out ss.length (k + 1) (some a) r) = fun _ => false := by
          funext r; rw [Bool.not_eq_true] at h2; rw [h2]; simp
        rw [if_neg h2, e2]
        simp
    · have e2 : (fun r => (lineAll b a && (copiedK out k a b.copies 0 && prevOk b prev a)) && goodR b out ss.length (k + 1) (some a) r) = fun _ => false := by
        funext r; rw [Bool.not_eq_true] at h1; rw [h1]; simp
      rw [if_neg h1, e2]
      simp
def seg (N : Nat) (q : List Int) (k : Nat) : List Int := (q.drop (k * N)).take N
theorem seg_at {N : Nat} {q : List Int} {k i : Nat} (hi : i < N) : at' (seg N q k) i = at' q (k * N + i) := by
  simp only [at', seg, List.getD_eq_getElem?_getD]
  rw [List.getElem?_take, if_pos hi, List.getElem?_drop]
theorem seg_len {N V : Nat} {q : List Int} {k : Nat} (hq : q.length = V * N) (hk : k < V) : (seg N q k).length = N := by
  rw [seg, List.length_take, List.length_drop, hq]
  have : k * N + N ≤ V * N := by
    calc k * N + N = (k + 1) * N := by rw [Nat.add_mul, Nat.one_mul]
      _ ≤ V * N := Nat.mul_le_mul_right _ hk
  omega
theorem lineAll_iff {b : Bk} {l : List Int} (hl : l.length = b.N) : lineAll b l = true ↔ ∀ i, 0 < i → i < b.N → stepOk b (at' l (i - 1)) (at' l i) = true := by
  rw [lineAll, okAll_iff]
  have hlen : ∀ j, j < l.length → (l.take j).length = j := fun j hj => by rw [List.length_take]; omega
  constructor
  · intro h i h0 hi
    have := h i l[i] (List.getElem?_eq_getElem (by omega))
    rw [List.nil_append] at this
    simp only [lineK, hlen i (by omega), Bool.or_eq_true, decide_eq_true_eq] at this
    rcases this with h1 | h1
    · omega
    · rw [at_take (by omega)] at h1
      have e : at' l i = l[i]'(by omega) := by simp [at', show i < l.length from by omega]
      rw [e]; exact h1
  · intro h j n hj
    have hlt := (List.getElem?_eq_some_iff.1 hj).1
    rw [List.nil_append]
    simp only [lineK, hlen j hlt, Bool.or_eq_true, decide_eq_true_eq]
    by_cases h0 : j = 0
    · exact .inl h0
    · right
      rw [at_take (by omega)]
      have e : n = at' l j := by simp [at', hj]
      rw [e]
      exact h j (by omega) (by omega)
theorem copied_iff (out : Nat → Bool) (v N : Nat) (line : List Int) (hl : line.length = N) : ∀ (cs : List Cp) (k : Nat), (∀ c ∈ cs, c.notes.length = N) → (copiedK out v line cs k = true ↔ ∀ i, i < N → rightK out v i (at' line i) cs k = true)
  | [], _, _ => by simp [copiedK, rightK]
  | c :: cs, k, h => by
    have ih := copied_iff out v N line hl cs (k + 1) fun d hd => h d (.tail _ hd)
    have hc := h c (.head _)
    simp only [copiedK, rightK, Bool.and_eq_true]
    rw [ih]
    constructor
    · rintro ⟨h1, h2⟩ i hi
      refine ⟨?_, h2 i hi⟩
      simp only [Bool.or_eq_true, decide_eq_true_eq] at h1 ⊢
      rcases h1 with h1 | h1
      · exact .inl h1
      · right; rw [h1]; rfl
    · intro h'
      refine ⟨?_, fun i hi => (h' i hi).2⟩
      simp only [Bool.or_eq_true, decide_eq_true_eq]
      by_cases h1 : (!decide (c.voice = (v : Int))) = true ∨ out k = true
      · exact .inl h1
      · right
        refine List.ext_getElem? fun i => ?_
        by_cases hi : i < N
        · have := (h' i hi).1
          simp only [Bool.or_eq_true, decide_eq_true_eq] at this
          rcases this with h2 | h2
          · exact absurd h2 h1
          · simp only [at', List.getD_eq_getElem?_getD] at h2
            rw [List.getElem?_eq_getElem (by omega), List.getElem?_eq_getElem (by omega)] at h2 ⊢
            simpa using h2
        · rw [List.getElem?_eq_none (by omega), List.getElem?_eq_none (by omega)]
theorem agreeK_iff (b : Bk) (low high : List Int) : ∀ (m i : Nat), agreeK b low high i m = true ↔ ∀ j, i ≤ j → j < i + m → has b.chords (at' high j - at' low j) = true ∧ (0 < j → moveOk b (at' high (j - 1)) (at' high j) (at' low (j - 1)) (at' low j) = true)
  | 0, i => by
    simp only [agreeK, true_iff]
    intro j h1 h2; omega
  | m + 1, i => by
    have key : (!(decide (0 < i) && decide (at' high (i - 1) - at' low (i - 1) = at' high i - at' low i) && !decide (at' low i = at' low (i - 1)) && has b.perfect (at' high i - at' low i))) = true ↔ (0 < i → moveOk b (at' high (i - 1)) (at' high i) (at' low (i - 1)) (at' low i) = true) := by
      simp only [moveOk]
      cases has b.perfect (at' high i - at' low i) with
      | false => simp
      | true =>
        simp only [Bool.and_true, Bool.not_true, Bool.or_false, Bool.not_eq_true', Bool.and_eq_false_iff, decide_eq_false_iff_not, Bool.or_eq_true, decide_eq_true_eq, Bool.not_eq_false']
        omega
    rw [agreeK, Bool.and_eq_true, Bool.and_eq_true, key, agreeK_iff b low high m (i + 1)]
    constructor
    · rintro ⟨h1, h2⟩ j hj hj'
      by_cases h : j = i
      · subst h; exact h1
      · exact h2 j (by omega) (by omega)
    · intro h
      exact ⟨h i (Nat.le_refl _) (by omega), fun j hj hj' => h j (by omega) (by omega)⟩
theorem goodR_iff {b : Bk} {out : Nat → Bool} (hc : ∀ c ∈ b.copies, c.notes.length = b.N) (V : Nat) {q : List Int} (hq : q.length = V * b.N) : ∀ (m k : Nat), k + m = V →
    (goodR b out m k (if k = 0 then none else some (seg b.N q (k - 1))) (q.drop (k * b.N)) = true ↔ ∀ v i, k ≤ v → v < V → i < b.N → Good b out q v i)
  | 0, k, hk => by
    simp only [goodR, true_iff]
    intro v i h1 h2; omega
  | m + 1, k, hk => by
    have ih := goodR_iff (out := out) hc V hq m (k + 1) (by omega)
    have hd : (q.drop (k * b.N)).drop b.N = q.drop ((k + 1) * b.N) := by rw [List.drop_drop, Nat.add_mul, Nat.one_mul]
    have hs : (q.drop (k * b.N)).take b.N = seg b.N q k := rfl
    have hsl := seg_len (k := k) hq (by omega)
    rw [if_neg (by omega), Nat.add_sub_cancel] at ih
    rw [goodR, hd, hs, Bool.and_eq_true, Bool.and_eq_true, Bool.and_eq_true, ih, lineAll_iff hsl, copied_iff out k b.N _ hsl b.copies 0 hc]
    have hprev : prevOk b (if k = 0 then none else some (seg b.N q (k - 1))) (seg b.N q k) = true ↔ (0 < k → ∀ i, i < b.N → has b.chords (at' q (k * b.N + i) - at' q ((k - 1) * b.N + i)) = true ∧ (0 < i → moveOk b (at' q (k * b.N + (i - 1))) (at' q (k * b.N + i)) (at' q ((k - 1) * b.N + (i - 1))) (at' q ((k - 1) * b.N + i)) = true)) := by
      by_cases h0 : k = 0
      · rw [if_pos h0]; simp [prevOk, h0]
      · rw [if_neg h0]
        simp only [prevOk, agree]
        rw [agreeK_iff]
        constructor
        · intro h _ i hi
          have := h i (Nat.zero_le _) (by omega)
          rw [seg_at hi, seg_at hi] at this
          refine ⟨this.1, fun hi0 => ?_⟩
          have := this.2 hi0
          rwa [seg_at (by omega), seg_at (by omega)] at this
        · intro h j _ hj
          rw [Nat.zero_add] at hj
          have := h (by omega) j hj
          rw [seg_at hj, seg_at hj]
          refine ⟨this.1, fun hj0 => ?_⟩
          rw [seg_at (by omega), seg_at (by omega)]
          exact this.2 hj0
    rw [hprev]
    constructor
    · rintro ⟨⟨h1, h2, h3⟩, h4⟩ v i hv hv' hi
      by_cases hvk : v = k
      · subst hvk
        refine ⟨?_, fun h0 => (h3 h0 i hi).1, fun h0 => ?_, fun h0 h0' => (h3 h0 i hi).2 h0'⟩
        · have := h2 i hi
          rwa [seg_at hi] at this
        · have := h1 i h0 hi
          rwa [seg_at (by omega), seg_at hi] at this
      · exact h4 v i (by omega) hv' hi
    · intro h
      refine ⟨⟨fun i h0 hi => ?_, fun i hi => ?_, fun h0 i hi => ?_⟩, fun v i hv hv' hi => h v i (by omega) hv' hi⟩
      · rw [seg_at (by omega), seg_at hi]
        exact (h k i (Nat.le_refl _) (by omega) hi).step h0
      · rw [seg_at hi]
        exact (h k i (Nat.le_refl _) (by omega) hi).right
      · exact ⟨(h k i (Nat.le_refl _) (by omega) hi).chord h0, fun hi0 => (h k i (Nat.le_refl _) (by omega) hi).move h0 hi0⟩
theorem places_len (N : Nat) : ∀ l : List Sp, (places N l).length = l.length * N
  | [] => by simp [places]
  | s :: l => by
    have := places_len N l
    rw [places] at this ⊢
    rw [List.flatMap_cons, List.length_append, List.length_replicate, this, List.length_cons, Nat.add_mul, Nat.one_mul, Nat.add_comm]
/-- The program's truths are the specification's. -/
theorem truths_eq {b : Bk} {out : Nat → Bool} (hN : 0 < b.N) (hc : ∀ c ∈ b.copies, c.notes.length = b.N) : (pieces b out b.spans 0 none).map List.flatten = truths b out := by
  rw [pieces_eq, truths, dfs_eq]
  have : ∀ q ∈ seqs (places b.N b.spans), goodR b out b.spans.length 0 none q = okAll (okP b out) [] q := fun q hq => by
    have hl : q.length = b.spans.length * b.N := by rw [((seqs_mem _ q).1 hq).1, places_len]
    rw [Bool.eq_iff_iff, all_good hN b.spans.length hl]
    have := goodR_iff (out := out) hc b.spans.length hl b.spans.length 0 (by omega)
    rw [if_pos rfl, Nat.zero_mul, List.drop_zero] at this
    rw [this]
    constructor
    · intro h v i hv hi; exact h v i (Nat.zero_le _) hv hi
    · intro h v i _ hv hi; exact h v i hv hi
  rw [List.filter_congr this]
  simp
theorem vals_mem {s : Sp} {n : Int} : n ∈ vals s ↔ s.low ≤ n ∧ n ≤ s.high := by
  simp only [vals, List.mem_map, List.mem_range]
  constructor
  · rintro ⟨k, hk, rfl⟩; omega
  · rintro ⟨h1, h2⟩; exact ⟨(n - s.low).toNat, by omega, by omega⟩
theorem vals_nodup (s : Sp) : (vals s).Nodup := by
  rw [vals]
  exact List.Pairwise.map _ (fun a b h he => h (by omega)) List.nodup_range
theorem places_get (N : Nat) (hN : 0 < N) : ∀ (l : List Sp) (v i : Nat), i < N → (places N l)[v * N + i]? = (l[v]?).map vals
  | [], v, i, _ => by simp [places]
  | s :: l, 0, i, hi => by
    have e : places N (s :: l) = List.replicate N (vals s) ++ places N l := by rw [places, List.flatMap_cons]; rfl
    rw [e, Nat.zero_mul, Nat.zero_add, List.getElem?_append_left (by rw [List.length_replicate]; exact hi)]
    simp [hi]
  | s :: l, v + 1, i, hi => by
    have e : places N (s :: l) = List.replicate N (vals s) ++ places N l := by rw [places, List.flatMap_cons]; rfl
    have e2 : (v + 1) * N + i = N + (v * N + i) := by rw [Nat.add_mul, Nat.one_mul]; omega
    rw [e, List.getElem?_append_right (by rw [List.length_replicate, e2]; omega), List.length_replicate, e2, Nat.add_sub_cancel_left, places_get N hN l v i hi]
    simp
/-- What the truths are. -/
structure Piece (b : Bk) (out : Nat → Bool) (q : List Int) : Prop where
  len : q.length = b.spans.length * b.N
  span : ∀ v i s, b.spans[v]? = some s → i < b.N → s.low ≤ at' q (v * b.N + i) ∧ at' q (v * b.N + i) ≤ s.high
  good : ∀ v i, v < b.spans.length → i < b.N → Good b out q v i
theorem truths_mem {b : Bk} {out : Nat → Bool} (hN : 0 < b.N) (q : List Int) : q ∈ truths b out ↔ Piece b out q := by
  rw [truths, dfs_eq]
  simp only [List.nil_append, List.map_id', List.mem_filter]
  have hpl := places_len b.N b.spans
  constructor
  · rintro ⟨h1, h2⟩
    obtain ⟨h3, h4⟩ := (seqs_mem _ q).1 h1
    have hl : q.length = b.spans.length * b.N := by rw [h3, hpl]
    refine ⟨hl, fun v i s hs hi => ?_, (all_good hN _ hl).1 h2⟩
    have hv : v < b.spans.length := (List.getElem?_eq_some_iff.1 hs).1
    have hlt : v * b.N + i < q.length := by
      rw [hl]
      calc v * b.N + i < v * b.N + b.N := by omega
        _ = (v + 1) * b.N := by rw [Nat.add_mul, Nat.one_mul]
        _ ≤ b.spans.length * b.N := Nat.mul_le_mul_right _ hv
    have := h4 (v * b.N + i) q[v * b.N + i] (vals s) (List.getElem?_eq_getElem hlt) (by rw [places_get _ hN _ _ _ hi, hs]; rfl)
    rw [show q[v * b.N + i] = at' q (v * b.N + i) from by simp [at', hlt]] at this
    exact vals_mem.1 this
  · intro h
    refine ⟨(seqs_mem _ q).2 ⟨by rw [h.len, hpl], fun j n L hj hL => ?_⟩, (all_good hN _ h.len).2 h.good⟩
    have hlt : j < q.length := (List.getElem?_eq_some_iff.1 hj).1
    have hjj : j = (j / b.N) * b.N + j % b.N := by rw [Nat.mul_comm]; exact (Nat.div_add_mod j b.N).symm
    have hi := Nat.mod_lt j hN
    have hv : j / b.N < b.spans.length := by rw [Nat.div_lt_iff_lt_mul hN, ← h.len]; exact hlt
    have hs : b.spans[j / b.N]? = some b.spans[j / b.N] := List.getElem?_eq_getElem hv
    rw [hjj, places_get _ hN _ _ _ hi, hs] at hL
    simp only [Option.map_some, Option.some.injEq] at hL
    subst hL
    have := h.span _ _ _ hs hi
    rw [← hjj] at this
    have e : n = at' q j := by simp [at', hj]
    rw [e]
    exact vals_mem.2 this
theorem truths_nodup (b : Bk) (out : Nat → Bool) : (truths b out).Nodup := by
  rw [truths, dfs_eq]
  simp only [List.nil_append, List.map_id']
  refine List.Pairwise.filter _ (seqs_nodup _ fun L hL => ?_)
  rw [places, List.mem_flatMap] at hL
  obtain ⟨s, _, hL⟩ := hL
  rw [(List.mem_replicate.1 hL).2]
  exact vals_nodup s
end Go.Part

set_option linter.unusedVariables false
set_option linter.unusedSimpArgs false
/-! In how many truths a note stands at a place. -/
namespace Go.Part
def cnt (T : List (List Int)) (j : Nat) (n : Int) : Nat := (T.filter fun q => decide (at' q j = n)).length
theorem cnt_le (T : List (List Int)) (j : Nat) (n : Int) : cnt T j n ≤ T.length := List.length_filter_le _ _
theorem cnt_nil (j : Nat) (n : Int) : cnt [] j n = 0 := rfl
theorem cnt_app (T U : List (List Int)) (j : Nat) (n : Int) : cnt (T ++ U) j n = cnt T j n + cnt U j n := by simp [cnt]
theorem cnt_cons (q : List Int) (T : List (List Int)) (j : Nat) (n : Int) : cnt (q :: T) j n = (if at' q j = n then 1 else 0) + cnt T j n := by
  simp only [cnt, List.filter_cons]
  by_cases h : at' q j = n
  · simp [h]; omega
  · simp [h]
theorem cnt_pos {T : List (List Int)} {j : Nat} {n : Int} : 0 < cnt T j n ↔ ∃ q ∈ T, at' q j = n := by
  simp only [cnt, List.length_pos_iff_exists_mem, List.mem_filter, decide_eq_true_eq]
theorem cnt_all {T : List (List Int)} {j : Nat} {n : Int} : cnt T j n = T.length ↔ ∀ q ∈ T, at' q j = n := by
  simp only [cnt, List.length_filter_eq_length_iff, decide_eq_true_eq]
def maxTo (f : Nat → Nat) : Nat → Nat
  | 0 => 0
  | n + 1 => max (maxTo f n) (f n)
theorem maxTo_le (f : Nat → Nat) : ∀ n k, k < n → f k ≤ maxTo f n
  | 0, k, h => by omega
  | n + 1, k, h => by
    rw [maxTo]
    by_cases hk : k = n
    · subst hk; omega
    · have := maxTo_le f n k (by omega); omega
theorem maxTo_lt (f : Nat → Nat) (m : Nat) (hm : 0 < m) : ∀ n, maxTo f n < m ↔ ∀ k, k < n → f k < m
  | 0 => by simp [maxTo, hm]
  | n + 1 => by
    rw [maxTo, Nat.max_lt, maxTo_lt f m hm n]
    constructor
    · rintro ⟨h1, h2⟩ k hk
      by_cases h : k = n
      · subst h; exact h2
      · exact h1 k (by omega)
    · intro h
      exact ⟨fun k hk => h k (by omega), h n (by omega)⟩
def worst (T : List (List Int)) (j : Nat) : Nat := maxTo (fun n => cnt T j n) 13
/-- A place is known just if the note of the first truth stands there in all of them. -/
theorem worst_lt {T : List (List Int)} {q : List Int} {U : List (List Int)} (hT : T = q :: U) {j : Nat} (hn : ∀ p ∈ T, 0 ≤ at' p j ∧ at' p j ≤ 12) : worst T j < T.length ↔ cnt T j (at' q j) < T.length := by
  have hpos : 0 < T.length := by rw [hT]; simp
  rw [worst, maxTo_lt _ _ hpos]
  constructor
  · intro h
    have hq := hn q (by rw [hT]; exact .head _)
    have := h (at' q j).toNat (by omega)
    rwa [Int.toNat_of_nonneg hq.1] at this
  · intro h k hk
    have h1 := cnt_le T j (k : Int)
    rcases Nat.lt_or_ge (cnt T j (k : Int)) T.length with h2 | h2
    · exact h2
    · have he : cnt T j (k : Int) = T.length := by omega
      have := cnt_all.1 he q (by rw [hT]; exact .head _)
      rw [this] at h
      omega
theorem worst_pos {T : List (List Int)} (hT : T ≠ []) {j : Nat} (hn : ∀ p ∈ T, 0 ≤ at' p j ∧ at' p j ≤ 12) : 0 < worst T j := by
  cases T with
  | nil => exact absurd rfl hT
  | cons q U =>
    have hq := hn q (.head _)
    have := maxTo_le (fun n => cnt (q :: U) j n) 13 (at' q j).toNat (by omega)
    have h2 : 0 < cnt (q :: U) j (at' q j) := cnt_pos.2 ⟨q, .head _, rfl⟩
    simp only [Int.toNat_of_nonneg hq.1] at this
    exact Nat.lt_of_lt_of_le h2 this
end Go.Part

set_option linter.unusedVariables false
set_option linter.unusedSimpArgs false
/-! A piece that is written note by note, at each of them voice by voice. -/
namespace Go.Part
/-- The rules of the style, for the note of a voice. -/
structure Style (b : Bk) (f : Nat → Nat → Int) (v i : Nat) : Prop where
  chord : 0 < v → has b.chords (f v i - f (v - 1) i) = true
  step : 0 < i → stepOk b (f v (i - 1)) (f v i) = true
  move : 0 < v → 0 < i → moveOk b (f v (i - 1)) (f v i) (f (v - 1) (i - 1)) (f (v - 1) i) = true
theorem good_style {b : Bk} {out : Nat → Bool} {q : List Int} {v i : Nat} : Good b out q v i ↔ rightK out v i (at' q (v * b.N + i)) b.copies 0 = true ∧ Style b (fun v i => at' q (v * b.N + i)) v i :=
  ⟨fun h => ⟨h.right, h.chord, h.step, h.move⟩, fun h => ⟨h.1, h.2.chord, h.2.step, h.2.move⟩⟩
def fitsP (b : Bk) (l : List Int) (n : Int) : Bool :=
  (decide (l.length < b.spans.length) || stepOk b (at' l (l.length - b.spans.length)) n) &&
  (decide (l.length % b.spans.length = 0) || (has b.chords (n - at' l (l.length - 1)) && (decide (l.length < b.spans.length) || moveOk b (at' l (l.length - b.spans.length)) n (at' l (l.length - b.spans.length - 1)) (at' l (l.length - 1)))))
theorem fits_at {b : Bk} {l : List Int} {v i : Nat} (hv : v < b.spans.length) (hl : i * b.spans.length + v < l.length) : fitsP b (l.take (i * b.spans.length + v)) (at' l (i * b.spans.length + v)) = true ↔ Style b (fun v i => at' l (i * b.spans.length + v)) v i := by
  have hlen : (l.take (i * b.spans.length + v)).length = i * b.spans.length + v := by rw [List.length_take]; omega
  have hm : (i * b.spans.length + v) % b.spans.length = v := by rw [Nat.add_comm, Nat.add_mul_mod_self_right, Nat.mod_eq_of_lt hv]
  have hi : 0 < i → i * b.spans.length = (i - 1) * b.spans.length + b.spans.length := fun h => by
    obtain ⟨u, rfl⟩ : ∃ u, i = u + 1 := ⟨i - 1, by omega⟩
    rw [Nat.add_mul, Nat.one_mul]; rfl
  have h0 : i = 0 ↔ i * b.spans.length + v < b.spans.length := by
    constructor
    · rintro rfl; omega
    · intro h
      by_cases h' : 0 < i
      · have := hi h'; omega
      · omega
  simp only [fitsP, hlen, hm, Bool.and_eq_true, Bool.or_eq_true, decide_eq_true_eq, ← h0]
  constructor
  · rintro ⟨h1, h2⟩
    refine ⟨fun hv0 => ?_, fun hi0 => ?_, fun hv0 hi0 => ?_⟩
    · rcases h2 with h2 | ⟨h2, _⟩
      · omega
      · rw [at_take (by omega)] at h2
        show has b.chords (at' l (i * b.spans.length + v) - at' l (i * b.spans.length + (v - 1))) = true
        rwa [show i * b.spans.length + (v - 1) = i * b.spans.length + v - 1 from by omega]
    · have := hi hi0
      rcases h1 with h1 | h1
      · omega
      · rw [at_take (by omega)] at h1
        show stepOk b (at' l ((i - 1) * b.spans.length + v)) (at' l (i * b.spans.length + v)) = true
        rwa [show (i - 1) * b.spans.length + v = i * b.spans.length + v - b.spans.length from by omega]
    · have := hi hi0
      rcases h2 with h2 | ⟨_, h2 | h2⟩
      · omega
      · omega
      · rw [at_take (by omega), at_take (by omega), at_take (by omega)] at h2
        show moveOk b (at' l ((i - 1) * b.spans.length + v)) (at' l (i * b.spans.length + v)) (at' l ((i - 1) * b.spans.length + (v - 1))) (at' l (i * b.spans.length + (v - 1))) = true
        rwa [show (i - 1) * b.spans.length + v = i * b.spans.length + v - b.spans.length from by omega, show (i - 1) * b.spans.length + (v - 1) = i * b.spans.length + v - b.spans.length - 1 from by omega, show i * b.spans.length + (v - 1) = i * b.spans.length + v - 1 from by omega]
  · intro h
    refine ⟨?_, ?_⟩
    · by_cases hi0 : i = 0
      · exact .inl hi0
      · right
        have := hi (by omega)
        have h1 := h.step (by omega)
        rw [at_take (by omega), show i * b.spans.length + v - b.spans.length = (i - 1) * b.spans.length + v from by omega]
        exact h1
    · by_cases hv0 : v = 0
      · exact .inl hv0
      · right
        have h1 := h.chord (by omega)
        refine ⟨?_, ?_⟩
        · rw [at_take (by omega), show i * b.spans.length + v - 1 = i * b.spans.length + (v - 1) from by omega]
          exact h1
        · by_cases hi0 : i = 0
          · exact .inl hi0
          · right
            have := hi (by omega)
            have h2 := h.move (by omega) (by omega)
            rw [at_take (by omega), at_take (by omega), at_take (by omega), show i * b.spans.length + v - b.spans.length - 1 = (i - 1) * b.spans.length + (v - 1) from by omega, show i * b.spans.length + v - b.spans.length = (i - 1) * b.spans.length + v from by omega, show i * b.spans.length + v - 1 = i * b.spans.length + (v - 1) from by omega]
            exact h2
theorem all_fits {b : Bk} (hV : 0 < b.spans.length) {l : List Int} (hl : l.length = b.N * b.spans.length) : okAll (fitsP b) [] l = true ↔ ∀ v i, v < b.spans.length → i < b.N → Style b (fun v i => at' l (i * b.spans.length + v)) v i := by
  rw [okAll_iff]
  constructor
  · intro h v i hv hi
    have hlt : i * b.spans.length + v < l.length := by
      rw [hl]
      calc i * b.spans.length + v < i * b.spans.length + b.spans.length := by omega
        _ = (i + 1) * b.spans.length := by rw [Nat.add_mul, Nat.one_mul]
        _ ≤ b.N * b.spans.length := Nat.mul_le_mul_right _ hi
    have := h _ _ (List.getElem?_eq_getElem hlt)
    rw [List.nil_append, show l[i * b.spans.length + v] = at' l (i * b.spans.length + v) from by simp [at', hlt]] at this
    exact (fits_at hv hlt).1 this
  · intro h j n hj
    have hlt : j < l.length := (List.getElem?_eq_some_iff.1 hj).1
    have hjj : j = (j / b.spans.length) * b.spans.length + j % b.spans.length := by rw [Nat.mul_comm]; exact (Nat.div_add_mod j _).symm
    have hi : j / b.spans.length < b.N := by rw [Nat.div_lt_iff_lt_mul hV, ← hl]; exact hlt
    have hv := Nat.mod_lt j hV
    have hn : n = at' l j := by simp [at', hj]
    rw [List.nil_append, hn]
    have hg := (fits_at (b := b) (l := l) hv (by rw [← hjj]; exact hlt)).2 (h _ _ hv hi)
    rwa [← hjj] at hg
/-- Voice by voice, and at each of them note by note. -/
def tr (V N : Nat) (l : List Int) : List Int := (List.range (V * N)).map fun j => at' l ((j % N) * V + j / N)
theorem tr_len (V N : Nat) (l : List Int) : (tr V N l).length = V * N := by simp [tr]
theorem tr_at {V N v i : Nat} (l : List Int) (hv : v < V) (hi : i < N) : at' (tr V N l) (v * N + i) = at' l (i * V + v) := by
  have hlt : v * N + i < V * N := by
    calc v * N + i < v * N + N := by omega
      _ = (v + 1) * N := by rw [Nat.add_mul, Nat.one_mul]
      _ ≤ V * N := Nat.mul_le_mul_right _ hv
  have hd : (v * N + i) / N = v := by rw [Nat.add_comm, Nat.add_mul_div_right _ _ (by omega), Nat.div_eq_of_lt hi, Nat.zero_add]
  have hm : (v * N + i) % N = i := by rw [Nat.add_comm, Nat.add_mul_mod_self_right, Nat.mod_eq_of_lt hi]
  have : (tr V N l)[v * N + i]? = some (at' l (i * V + v)) := by
    rw [tr, List.getElem?_map, List.getElem?_range hlt]
    simp [hd, hm]
  simp only [at', List.getD_eq_getElem?_getD] at this ⊢
  rw [this]
  rfl
/-- What is written is a truth if copies are right. -/
theorem written_truth {b : Bk} (hV : 0 < b.spans.length) {out : Nat → Bool} {l : List Int} (hl : l.length = b.N * b.spans.length) (hs : ∀ v i s, b.spans[v]? = some s → i < b.N → s.low ≤ at' l (i * b.spans.length + v) ∧ at' l (i * b.spans.length + v) ≤ s.high)
    (hf : okAll (fitsP b) [] l = true) (hr : ∀ v i, v < b.spans.length → i < b.N → rightK out v i (at' l (i * b.spans.length + v)) b.copies 0 = true) : Piece b out (tr b.spans.length b.N l) where
  len := tr_len _ _ _
  span v i s h hi := by
    rw [tr_at l (List.getElem?_eq_some_iff.1 h).1 hi]
    exact hs v i s h hi
  good v i hv hi := by
    rw [good_style, tr_at l hv hi]
    refine ⟨hr v i hv hi, ?_⟩
    have h := (all_fits hV hl).1 hf v i hv hi
    refine ⟨fun h0 => ?_, fun h0 => ?_, fun h0 h1 => ?_⟩
    · show has b.chords (at' (tr _ _ l) (v * b.N + i) - at' (tr _ _ l) ((v - 1) * b.N + i)) = true
      rw [tr_at l hv hi, tr_at l (by omega) hi]
      exact h.chord h0
    · show stepOk b (at' (tr _ _ l) (v * b.N + (i - 1))) (at' (tr _ _ l) (v * b.N + i)) = true
      rw [tr_at l hv hi, tr_at l hv (by omega)]
      exact h.step h0
    · show moveOk b (at' (tr _ _ l) (v * b.N + (i - 1))) (at' (tr _ _ l) (v * b.N + i)) (at' (tr _ _ l) ((v - 1) * b.N + (i - 1))) (at' (tr _ _ l) ((v - 1) * b.N + i)) = true
      rw [tr_at l hv hi, tr_at l hv (by omega), tr_at l (by omega) hi, tr_at l (by omega) (by omega)]
      exact h.move h0 h1
/-- Each truth can be written. -/
theorem truth_written {b : Bk} (hV : 0 < b.spans.length) {out : Nat → Bool} {q : List Int} (h : Piece b out q) : ∃ l : List Int, l.length = b.N * b.spans.length ∧ (∀ v i s, b.spans[v]? = some s → i < b.N → s.low ≤ at' l (i * b.spans.length + v) ∧ at' l (i * b.spans.length + v) ≤ s.high) ∧ okAll (fitsP b) [] l = true := by
  have hat : ∀ v i, v < b.spans.length → i < b.N → at' (tr b.N b.spans.length q) (i * b.spans.length + v) = at' q (v * b.N + i) := fun v i hv hi => tr_at q hi hv
  refine ⟨tr b.N b.spans.length q, tr_len _ _ _, fun v i s hs hi => ?_, (all_fits hV (tr_len _ _ _)).2 fun v i hv hi => ?_⟩
  · rw [hat v i (List.getElem?_eq_some_iff.1 hs).1 hi]
    exact h.span v i s hs hi
  · have g := h.good v i hv hi
    refine ⟨fun h0 => ?_, fun h0 => ?_, fun h0 h1 => ?_⟩
    · show has b.chords (at' (tr _ _ q) (i * b.spans.length + v) - at' (tr _ _ q) (i * b.spans.length + (v - 1))) = true
      rw [hat v i hv hi, hat _ i (by omega) hi]
      exact g.chord h0
    · show stepOk b (at' (tr _ _ q) ((i - 1) * b.spans.length + v)) (at' (tr _ _ q) (i * b.spans.length + v)) = true
      rw [hat v i hv hi, hat v _ hv (by omega)]
      exact g.step h0
    · show moveOk b (at' (tr _ _ q) ((i - 1) * b.spans.length + v)) (at' (tr _ _ q) (i * b.spans.length + v)) (at' (tr _ _ q) ((i - 1) * b.spans.length + (v - 1))) (at' (tr _ _ q) (i * b.spans.length + (v - 1))) = true
      rw [hat v i hv hi, hat v _ hv (by omega), hat _ i (by omega) hi, hat _ _ (by omega) (by omega)]
      exact g.move h0 h1
end Go.Part

set_option linter.unusedVariables false
set_option linter.unusedSimpArgs false
/-! Books that are changed: a copy more, copies less, an easier style, a note higher. -/
namespace Go.Part
theorem truths_filter (b : Bk) (out : Nat → Bool) : truths b out = (seqs (places b.N b.spans)).filter (okAll (okP b out) []) := by
  rw [truths, dfs_eq]; simp
theorem seq_len {b : Bk} {q : List Int} (h : q ∈ seqs (places b.N b.spans)) : q.length = b.spans.length * b.N := by
  rw [((seqs_mem _ q).1 h).1, places_len]
theorem nodup_sub {α : Type} : ∀ {l m : List α}, l.Nodup → (∀ a ∈ l, a ∈ m) → l.length ≤ m.length
  | [], m, _, _ => Nat.zero_le _
  | a :: l, m, hl, h => by
    obtain ⟨h1, h2⟩ := List.nodup_cons.1 hl
    obtain ⟨s, t, rfl⟩ := List.append_of_mem (h a (.head _))
    have := nodup_sub (l := l) (m := s ++ t) h2 fun c hc => by
      have := h c (.tail _ hc)
      rcases List.mem_append.1 this with h3 | h3
      · exact List.mem_append_left _ h3
      · rcases List.mem_cons.1 h3 with rfl | h3
        · exact absurd hc h1
        · exact List.mem_append_right _ h3
    simp only [List.length_append, List.length_cons] at this ⊢
    omega
/-- Fewer truths. -/
theorem truths_le {b b' : Bk} {out out' : Nat → Bool} (hN : 0 < b.N) (hN' : 0 < b'.N) (h : ∀ q, Piece b out q → Piece b' out' q) : (truths b out).length ≤ (truths b' out').length ∧ ∀ q ∈ truths b out, q ∈ truths b' out' := by
  have hs : ∀ q ∈ truths b out, q ∈ truths b' out' := fun q hq => (truths_mem hN' q).2 (h q ((truths_mem hN q).1 hq))
  exact ⟨nodup_sub (truths_nodup b out) hs, hs⟩
theorem cnt_le_of {T U : List (List Int)} (hn : T.Nodup) (h : ∀ q ∈ T, q ∈ U) (j : Nat) (n : Int) : cnt T j n ≤ cnt U j n := by
  refine nodup_sub (List.Pairwise.filter _ hn) fun q hq => ?_
  rw [List.mem_filter] at hq ⊢
  exact ⟨h q hq.1, hq.2⟩
/-! ### One copy more -/
def Bk.with (b : Bk) (c : Cp) : Bk := { b with copies := b.copies ++ [c] }
theorem right_app (out : Nat → Bool) (v i : Nat) (n : Int) (c : Cp) : ∀ (cs : List Cp) (k : Nat), rightK out v i n (cs ++ [c]) k = (rightK out v i n cs k && (!decide (c.voice = (v : Int)) || out (k + cs.length) || decide (c.notes.getD i 0 = n)))
  | [], k => by simp [rightK]
  | d :: cs, k => by
    rw [List.cons_append, rightK, rightK, right_app out v i n c cs (k + 1), Bool.and_assoc, List.length_cons, show k + 1 + cs.length = k + (cs.length + 1) from by omega]
theorem truths_with {b : Bk} {out : Nat → Bool} (hN : 0 < b.N) {c : Cp} {v : Nat} (hv : c.voice = (v : Int)) (hvl : v < b.spans.length) (hl : c.notes.length = b.N) (ho : out b.copies.length = false) :
    truths (b.with c) out = (truths b out).filter fun q => decide (seg b.N q v = c.notes) := by
  rw [truths_filter, truths_filter, List.filter_filter]
  refine List.filter_congr fun q hq => ?_
  have hql := seq_len (b := b) hq
  rw [Bool.eq_iff_iff, Bool.and_eq_true, all_good (b := b.with c) hN b.spans.length hql, all_good hN b.spans.length hql, decide_eq_true_eq]
  have key : (∀ i, i < b.N → c.notes.getD i 0 = at' q (v * b.N + i)) ↔ seg b.N q v = c.notes := by
    have hsl := seg_len (k := v) hql hvl
    constructor
    · intro h
      refine List.ext_getElem? fun i => ?_
      by_cases hi : i < b.N
      · have h1 := h i hi
        rw [← seg_at hi] at h1
        simp only [at', List.getD_eq_getElem?_getD] at h1
        rw [List.getElem?_eq_getElem (by omega), List.getElem?_eq_getElem (by omega)] at h1 ⊢
        simpa using h1.symm
      · rw [List.getElem?_eq_none (by omega), List.getElem?_eq_none (by omega)]
    · intro h i hi
      rw [← h, ← seg_at hi]; rfl
  rw [← key]
  constructor
  · intro h
    refine ⟨fun i hi => ?_, fun u i hu hi => ?_⟩
    · have := (h v i hvl hi).right
      rw [show (b.with c).copies = b.copies ++ [c] from rfl, right_app, Bool.and_eq_true, Nat.zero_add, ho] at this
      have := this.2
      simp only [hv, decide_true, Bool.not_true, Bool.or_self, Bool.false_or, decide_eq_true_eq] at this
      exact this
    · have g := h u i hu hi
      refine ⟨?_, g.chord, g.step, g.move⟩
      have := g.right
      rw [show (b.with c).copies = b.copies ++ [c] from rfl, right_app, Bool.and_eq_true] at this
      exact this.1
  · rintro ⟨h1, h2⟩ u i hu hi
    have g := h2 u i hu hi
    refine ⟨?_, g.chord, g.step, g.move⟩
    rw [show (b.with c).copies = b.copies ++ [c] from rfl, right_app, Bool.and_eq_true]
    refine ⟨g.right, ?_⟩
    by_cases hvu : c.voice = (u : Int)
    · have : u = v := by omega
      subst this
      have := h1 i hi
      simp only [Bool.or_eq_true, decide_eq_true_eq]
      exact .inr this
    · simp [hvu]
/-! ### Some copies less -/
def keepC (out : Nat → Bool) : List Cp → Nat → List Cp
  | [], _ => []
  | c :: cs, k => (if out k then [] else [c]) ++ keepC out cs (k + 1)
theorem keep_right (out : Nat → Bool) (v i : Nat) (n : Int) : ∀ (cs : List Cp) (k j : Nat), rightK (fun _ => false) v i n (keepC out cs k) j = rightK out v i n cs k
  | [], _, _ => rfl
  | c :: cs, k, j => by
    rw [keepC, rightK]
    cases ho : out k with
    | true => simp [keep_right out v i n cs (k + 1) j]
    | false =>
      simp only [Bool.false_eq_true, if_false, List.singleton_append, rightK]
      rw [keep_right out v i n cs (k + 1) (j + 1)]
def Bk.without (b : Bk) (out : Nat → Bool) : Bk := { b with copies := keepC out b.copies 0 }
theorem truths_without {b : Bk} (out : Nat → Bool) : truths (b.without out) (fun _ => false) = truths b out := by
  rw [truths, truths]
  congr 1
  funext q n
  unfold okP
  rw [show (b.without out).copies = keepC out b.copies 0 from rfl, keep_right]
  rfl
theorem keepC_sub (out : Nat → Bool) : ∀ (cs : List Cp) (k : Nat), (∀ c ∈ keepC out cs k, c ∈ cs) ∧ (keepC out cs k).length ≤ cs.length
  | [], _ => ⟨fun _ h => h, Nat.le_refl _⟩
  | c :: cs, k => by
    obtain ⟨h1, h2⟩ := keepC_sub out cs (k + 1)
    rw [keepC]
    split
    · exact ⟨fun u hu => List.mem_cons_of_mem _ (h1 u (by simpa using hu)), by simp; omega⟩
    · refine ⟨fun u hu => ?_, by simp; omega⟩
      rcases List.mem_cons.1 (by simpa using hu) with rfl | hu
      · exact .head _
      · exact List.mem_cons_of_mem _ (h1 u hu)
/-! ### All a note higher -/
def Bk.up (b : Bk) : Bk := { b with spans := b.spans.map fun s => ⟨s.low + 1, s.high + 1⟩, copies := b.copies.map fun c => ⟨c.voice, c.notes.map (· + 1)⟩ }
theorem vals_up (s : Sp) : vals ⟨s.low + 1, s.high + 1⟩ = (vals s).map (· + 1) := by
  simp only [vals, List.map_map]
  rw [show s.high + 1 - (s.low + 1) + 1 = s.high - s.low + 1 from by omega]
  refine List.map_congr_left fun k _ => ?_
  show s.low + 1 + (k : Int) = s.low + k + 1
  omega
theorem seqs_map {α β : Type} (f : α → β) : ∀ Ls : List (List α), seqs (Ls.map (·.map f)) = (seqs Ls).map (·.map f)
  | [] => rfl
  | L :: Ls => by
    rw [List.map_cons, seqs, seqs, seqs_map f Ls, List.flatMap_map, List.map_flatMap]
    refine flatMap_congr' fun n _ => ?_
    rw [List.map_map, List.map_map]
    rfl
theorem places_up (N : Nat) : ∀ l : List Sp, places N (l.map fun s => ⟨s.low + 1, s.high + 1⟩) = (places N l).map (·.map (· + 1))
  | [] => rfl
  | s :: l => by
    have := places_up N l
    simp only [places] at this ⊢
    rw [List.map_cons, List.flatMap_cons, List.flatMap_cons, List.map_append, this, vals_up, List.map_replicate]
theorem at_up {q : List Int} {j : Nat} (hj : j < q.length) : at' (q.map (· + 1)) j = at' q j + 1 := by
  simp [at', hj]
theorem right_up (out : Nat → Bool) (v i : Nat) (n : Int) {N : Nat} (hi : i < N) : ∀ (cs : List Cp) (k : Nat), (∀ c ∈ cs, c.notes.length = N) → rightK out v i (n + 1) (cs.map fun c => ⟨c.voice, c.notes.map (· + 1)⟩) k = rightK out v i n cs k
  | [], _, _ => rfl
  | c :: cs, k, h => by
    rw [List.map_cons, rightK, rightK, right_up out v i n hi cs (k + 1) fun d hd => h d (.tail _ hd)]
    congr 2
    have := at_up (q := c.notes) (j := i) (by rw [h c (.head _)]; exact hi)
    simp only [at'] at this
    rw [decide_eq_decide, this]
    omega
theorem truths_up {b : Bk} {out : Nat → Bool} (hN : 0 < b.N) (hc : ∀ c ∈ b.copies, c.notes.length = b.N) : truths b.up out = (truths b out).map (·.map (· + 1)) := by
  rw [truths_filter, truths_filter, show b.up.N = b.N from rfl, show b.up.spans = b.spans.map fun s => ⟨s.low + 1, s.high + 1⟩ from rfl, places_up, seqs_map, List.filter_map]
  congr 1
  refine List.filter_congr fun q hq => ?_
  have hql := seq_len (b := b) hq
  have hlt : ∀ v i, v < b.spans.length → i < b.N → v * b.N + i < q.length := fun v i hv hi => by
    rw [hql]
    calc v * b.N + i < v * b.N + b.N := by omega
      _ = (v + 1) * b.N := by rw [Nat.add_mul, Nat.one_mul]
      _ ≤ b.spans.length * b.N := Nat.mul_le_mul_right _ hv
  rw [Function.comp_apply, Bool.eq_iff_iff, all_good (b := b.up) hN b.spans.length (by rw [List.length_map]; exact hql), all_good hN b.spans.length hql]
  have key : ∀ v i, v < b.spans.length → i < b.N → (Good b.up out (q.map (· + 1)) v i ↔ Good b out q v i) := fun v i hv hi => by
    have e1 : at' (q.map (· + 1)) (v * b.N + i) = at' q (v * b.N + i) + 1 := at_up (hlt v i hv hi)
    have e2 : 0 < v → at' (q.map (· + 1)) ((v - 1) * b.N + i) = at' q ((v - 1) * b.N + i) + 1 := fun h => at_up (hlt _ i (by omega) hi)
    have e3 : 0 < i → at' (q.map (· + 1)) (v * b.N + (i - 1)) = at' q (v * b.N + (i - 1)) + 1 := fun h => at_up (hlt v _ hv (by omega))
    have e4 : 0 < v → 0 < i → at' (q.map (· + 1)) ((v - 1) * b.N + (i - 1)) = at' q ((v - 1) * b.N + (i - 1)) + 1 := fun h h' => at_up (hlt _ _ (by omega) (by omega))
    have s1 : ∀ a c : Int, stepOk b.up (a + 1) (c + 1) = stepOk b a c := fun a c => by
      simp only [stepOk, show c + 1 - (a + 1) = c - a from by omega]; rfl
    have s2 : ∀ a c d e : Int, moveOk b.up (a + 1) (c + 1) (d + 1) (e + 1) = moveOk b a c d e := fun a c d e => by
      simp only [moveOk, show c + 1 - (e + 1) = c - e from by omega, show a + 1 - (d + 1) = a - d from by omega]
      congr 2
      rw [decide_eq_decide]; omega
    have hr : rightK out v i (at' q (v * b.N + i) + 1) b.up.copies 0 = rightK out v i (at' q (v * b.N + i)) b.copies 0 := right_up out v i _ hi b.copies 0 hc
    constructor
    · intro g
      refine ⟨?_, fun h => ?_, fun h => ?_, fun h h' => ?_⟩
      · have := g.right
        rw [show b.up.N = b.N from rfl, e1, hr] at this
        exact this
      · have := g.chord h
        rw [show b.up.N = b.N from rfl, e1, e2 h, show at' q (v * b.N + i) + 1 - (at' q ((v - 1) * b.N + i) + 1) = at' q (v * b.N + i) - at' q ((v - 1) * b.N + i) from by omega] at this
        exact this
      · have := g.step h
        rw [show b.up.N = b.N from rfl, e1, e3 h, s1] at this
        exact this
      · have := g.move h h'
        rw [show b.up.N = b.N from rfl, e1, e2 h, e3 h', e4 h h', s2] at this
        exact this
    · intro g
      refine ⟨?_, fun h => ?_, fun h => ?_, fun h h' => ?_⟩
      · rw [show b.up.N = b.N from rfl, e1, hr]; exact g.right
      · rw [show b.up.N = b.N from rfl, e1, e2 h, show at' q (v * b.N + i) + 1 - (at' q ((v - 1) * b.N + i) + 1) = at' q (v * b.N + i) - at' q ((v - 1) * b.N + i) from by omega]
        exact g.chord h
      · rw [show b.up.N = b.N from rfl, e1, e3 h, s1]; exact g.step h
      · rw [show b.up.N = b.N from rfl, e1, e2 h, e3 h', e4 h h', s2]; exact g.move h h'
  constructor
  · intro h v i hv hi; exact (key v i hv hi).1 (h v i hv hi)
  · intro h v i hv hi; exact (key v i hv hi).2 (h v i hv hi)
end Go.Part

set_option linter.unusedVariables false
set_option linter.unusedSimpArgs false
/-! All ways together; the fewest copies. -/
namespace Go.Part
open Go.Least
def sumN : List Nat → Nat
  | [] => 0
  | a :: l => a + sumN l
theorem sumN_map_add {α : Type} (f g : α → Nat) : ∀ l : List α, sumN (l.map fun a => f a + g a) = sumN (l.map f) + sumN (l.map g)
  | [] => rfl
  | a :: l => by simp only [List.map_cons, sumN, sumN_map_add f g l]; omega
theorem sumN_one {α : Type} [DecidableEq α] (x : α) : ∀ l : List α, l.Nodup → sumN (l.map fun a => if x = a then 1 else 0) = if x ∈ l then 1 else 0
  | [], _ => rfl
  | a :: l, h => by
    obtain ⟨h1, h2⟩ := List.nodup_cons.1 h
    simp only [List.map_cons, sumN, sumN_one x l h2]
    by_cases hx : x = a
    · subst hx; simp [h1]
    · simp [hx]
/-- Each truth has one of the lines. -/
theorem sum_lines {α : Type} (f : List Int → α) [DecidableEq α] (L : List α) (hL : L.Nodup) : ∀ T : List (List Int), (∀ q ∈ T, f q ∈ L) → sumN (L.map fun a => (T.filter fun q => decide (f q = a)).length) = T.length
  | [], _ => by
    have : ∀ L : List α, sumN (L.map fun a => (([] : List (List Int)).filter fun q => decide (f q = a)).length) = 0 := by
      intro L
      induction L with
      | nil => rfl
      | cons a L ih => simpa [sumN] using ih
    exact this L
  | q :: T, h => by
    have e : (L.map fun a => ((q :: T).filter fun q => decide (f q = a)).length) = L.map fun a => (if f q = a then 1 else 0) + (T.filter fun q => decide (f q = a)).length := by
      refine List.map_congr_left fun a _ => ?_
      rw [List.filter_cons]
      by_cases hq : f q = a
      · simp [hq]; omega
      · simp [hq]
    rw [e, sumN_map_add, sumN_one _ _ hL, if_pos (h q (.head _)), sum_lines f L hL T fun p hp => h p (.tail _ hp), List.length_cons]
    omega
theorem seg_mem {b : Bk} {out : Nat → Bool} {q : List Int} (h : Piece b out q) {v : Nat} {s : Sp} (hs : b.spans[v]? = some s) : seg b.N q v ∈ seqs (List.replicate b.N (vals s)) := by
  have hv := (List.getElem?_eq_some_iff.1 hs).1
  refine (seqs_mem _ _).2 ⟨by rw [seg_len h.len hv, List.length_replicate], fun i n L hn hL => ?_⟩
  have hi : i < b.N := by have := (List.getElem?_eq_some_iff.1 hL).1; simpa using this
  have : L = vals s := by
    have := List.mem_of_getElem? hL
    exact (List.mem_replicate.1 this).2
  subst this
  have e : n = at' q (v * b.N + i) := by rw [← seg_at hi]; simp [at', hn]
  rw [e]
  exact vals_mem.2 (h.span v i s hs hi)
/-! ### The fewest -/
theorem told_len {ok ok' : List Int → Bool} {T : Nat} (hT : T ≤ 62) (h : ∀ l, ok l = true → ok' l = true) {w u : List Int} (hw : Told ok T w) (hu : Told ok' T u) : u.length ≤ w.length := by
  obtain ⟨s, hs, rfl⟩ := inc_bits T hT w hw.inc
  have := hu.least s hs (h _ hw.fine)
  simp only [shorterL, Bool.or_eq_false_iff, decide_eq_false_iff_not] at this
  omega
/-- An increasing list below a number, without what is more. -/
theorem inc_below (T : Nat) : ∀ (l : List Int) (k : Int), incFrom (T + 1) k l → ∃ m, incFrom T k m ∧ (∀ x, x ∈ m ↔ x ∈ l ∧ x < T) ∧ m.length ≤ l.length
  | [], k, _ => ⟨[], trivial, by simp, Nat.le_refl _⟩
  | y :: l, k, ⟨h1, h2, h3⟩ => by
    obtain ⟨m, m1, m2, m3⟩ := inc_below T l (y + 1) h3
    by_cases hy : y < T
    · refine ⟨y :: m, ⟨h1, hy, m1⟩, fun x => ?_, by simp only [List.length_cons]; omega⟩
      simp only [List.mem_cons, m2]
      constructor
      · rintro (rfl | ⟨h, h'⟩)
        · exact ⟨.inl rfl, hy⟩
        · exact ⟨.inr h, h'⟩
      · rintro ⟨rfl | h, h'⟩
        · exact .inl rfl
        · exact .inr ⟨h, h'⟩
    · refine ⟨m, inc_mono T m _ _ (by omega) m1, fun x => ?_, by simp only [List.length_cons]; omega⟩
      simp only [List.mem_cons, m2]
      constructor
      · rintro ⟨h, h'⟩; exact ⟨.inr h, h'⟩
      · rintro ⟨rfl | h, h'⟩
        · exact absurd h' hy
        · exact ⟨h, h'⟩
theorem inc_mem (T : Nat) : ∀ (l : List Int) (k : Int), incFrom T k l → ∀ x ∈ l, k ≤ x ∧ x < T
  | y :: l, k, ⟨h1, h2, h3⟩, x, hx => by
    rcases List.mem_cons.1 hx with rfl | hx
    · exact ⟨h1, h2⟩
    · have := inc_mem T l (y + 1) h3 x hx
      omega
/-- Without one more that is told no fewer must be left out. -/
theorem told_more {ok ok' : List Int → Bool} {T : Nat} (hT : T + 1 ≤ 62) (h : ∀ l m, ok' l = true → (∀ x : Int, x ∈ m ↔ x ∈ l ∧ x < T) → ok m = true) {w u : List Int} (hw : Told ok T w) (hu : Told ok' (T + 1) u) : w.length ≤ u.length := by
  obtain ⟨m, m1, m2, m3⟩ := inc_below T u 0 hu.inc
  obtain ⟨s, hs, rfl⟩ := inc_bits T (by omega) m m1
  have := hw.least s hs (h u _ hu.fine m2)
  simp only [shorterL, Bool.or_eq_false_iff, decide_eq_false_iff_not] at this
  omega
theorem all_bits (T : Nat) (hT : T ≤ 62) : ∀ k : Nat, k < T → (k : Int) ∈ bitsL (2 ^ T - 1) T := by
  intro k hk
  rw [bitsL, mem_sel]
  refine ⟨k, rfl, by omega, by omega, ?_⟩
  have h62 : (k : Int) < 62 := by omega
  simp [hasB, h62, Nat.testBit_two_pow_sub_one, hk]
end Go.Part
