/- This text shows how high pipes can be: tables, bounds, answers: plain. No conditions of its own. -/

set_option linter.unusedSimpArgs false
set_option linter.unusedVariables false
namespace Go.Organ
abbrev Tb := Nat → Nat → Int
def cell (t : Nat) (m : Tb) (p : Nat × Nat) : Tb := fun i k => if i = p.1 ∧ k = p.2 then min (m i k) (m i t + m t k) else m i k
def cells (n : Nat) : List (Nat × Nat) := (List.range' 0 n).flatMap fun i => (List.range' 0 n).map fun k => (i, k)
def phase (n : Nat) (m : Tb) (t : Nat) : Tb := (cells n).foldl (cell t) m
def close (n : Nat) (m : Tb) : Tb := (List.range' 0 n).foldl (phase n) m
theorem mem_cells (n i k : Nat) : (i, k) ∈ cells n ↔ i < n ∧ k < n := by
  simp only [cells, List.mem_flatMap, List.mem_map, Prod.mk.injEq, List.mem_range'_1]
  constructor
  · rintro ⟨a, ha, b, hb, rfl, rfl⟩; omega
  · rintro ⟨h1, h2⟩; exact ⟨i, by omega, k, by omega, rfl, rfl⟩
def Feas (n : Nat) (m : Tb) (h : Nat → Int) : Prop := ∀ i k, i < n → k < n → h k - h i ≤ m i k
theorem feas_cell {n t : Nat} (ht : t < n) {m : Tb} {h : Nat → Int} (hf : Feas n m h) (p : Nat × Nat) : Feas n (cell t m p) h := by
  intro i k hi hk
  have h1 := hf i k hi hk
  have h2 := hf i t hi ht
  have h3 := hf t k ht hk
  unfold cell
  split <;> omega
theorem feas_fold {n t : Nat} (ht : t < n) {h : Nat → Int} : ∀ (l : List (Nat × Nat)) (m : Tb), Feas n m h → Feas n (l.foldl (cell t) m) h
  | [], m, hf => hf
  | p :: l, m, hf => feas_fold ht l _ (feas_cell ht hf p)
theorem feas_close {n : Nat} {h : Nat → Int} : ∀ (l : List Nat) (m : Tb), (∀ t ∈ l, t < n) → Feas n m h → Feas n (l.foldl (phase n) m) h
  | [], m, _, hf => hf
  | t :: l, m, hl, hf => feas_close l _ (fun s hs => hl s (.tail _ hs)) (feas_fold (hl t (.head _)) _ _ hf)
theorem cell_le (t : Nat) (m : Tb) (p : Nat × Nat) (i k : Nat) : cell t m p i k ≤ m i k := by
  unfold cell
  split <;> omega
theorem fold_le (t : Nat) : ∀ (l : List (Nat × Nat)) (m : Tb) (i k : Nat), l.foldl (cell t) m i k ≤ m i k
  | [], m, i, k => Int.le_refl _
  | p :: l, m, i, k => Int.le_trans (fold_le t l _ i k) (cell_le t m p i k)
theorem close_le (n : Nat) : ∀ (l : List Nat) (m : Tb) (i k : Nat), l.foldl (phase n) m i k ≤ m i k
  | [], m, i, k => Int.le_refl _
  | t :: l, m, i, k => Int.le_trans (close_le n l _ i k) (fold_le t _ m i k)
def wanted (t : Nat) (m : Tb) (i k : Nat) : Int := min (m i k) (m i t + m t k)
theorem fold_is (t : Nat) (m0 : Tb) (h0 : 0 ≤ m0 t t) : ∀ (l : List (Nat × Nat)) (m : Tb), (∀ i k, m i k = m0 i k ∨ m i k = wanted t m0 i k) → (∀ i k, (i, k) ∈ l ∨ m i k = wanted t m0 i k ∨ ((i, k) ∉ l ∧ m i k = m0 i k)) →
    ∀ i k, ((i, k) ∈ l → l.foldl (cell t) m i k = wanted t m0 i k) ∧ ((i, k) ∉ l → l.foldl (cell t) m i k = m i k)
  | [], m, _, _, i, k => ⟨fun h => absurd h List.not_mem_nil, fun _ => rfl⟩
  | p :: l, m, hm, hx, i, k => by
    have hit : ∀ i, m i t = m0 i t := fun i => by
      rcases hm i t with h | h
      · exact h
      · rw [h, wanted]; omega
    have htk : ∀ k, m t k = m0 t k := fun k => by
      rcases hm t k with h | h
      · exact h
      · rw [h, wanted]; omega
    have hm' : ∀ i k, cell t m p i k = m0 i k ∨ cell t m p i k = wanted t m0 i k := fun i k => by
      unfold cell
      split
      · rw [hit, htk]
        right
        rcases hm i k with h | h
        · rw [h, wanted]
        · rw [h]; unfold wanted; omega
      · exact hm i k
    have hp : cell t m p p.1 p.2 = wanted t m0 p.1 p.2 := by
      unfold cell
      rw [if_pos ⟨rfl, rfl⟩, hit, htk]
      rcases hm p.1 p.2 with h | h
      · rw [h, wanted]
      · rw [h]; unfold wanted; omega
    have hn : ∀ i k, (i, k) ≠ p → cell t m p i k = m i k := fun i k hne => by
      unfold cell
      rw [if_neg]
      rintro ⟨rfl, rfl⟩
      exact hne rfl
    have ih := fold_is t m0 h0 l (cell t m p) hm' (fun i k => by
      by_cases h : (i, k) ∈ l
      · exact .inl h
      · right
        rcases hm' i k with h' | h'
        · exact .inr ⟨h, h'⟩
        · exact .inl h') i k
    constructor
    · intro h
      by_cases hl : (i, k) ∈ l
      · exact ih.1 hl
      · rw [List.foldl_cons, ih.2 hl]
        rcases List.mem_cons.1 h with h | h
        · subst h; exact hp
        · exact absurd h hl
    · intro h
      have h1 : (i, k) ∉ l := fun hh => h (.tail _ hh)
      have h2 : (i, k) ≠ p := fun hh => h (hh ▸ .head _)
      rw [List.foldl_cons, ih.2 h1, hn i k h2]
theorem phase_is {n t : Nat} {m : Tb} (h0 : 0 ≤ m t t) {i k : Nat} (hi : i < n) (hk : k < n) : phase n m t i k = wanted t m i k :=
  (fold_is t m h0 (cells n) m (fun i k => .inl rfl) (fun i k => by
    by_cases h : (i, k) ∈ cells n
    · exact .inl h
    · exact .inr (.inr ⟨h, rfl⟩)) i k).1 ((mem_cells n i k).2 ⟨hi, hk⟩)
def Via (n : Nat) (m : Tb) (s : Nat → Prop) : Prop := ∀ i j k, i < n → k < n → j < n → s j → m i k ≤ m i j + m j k
theorem via_phase {n t : Nat} (ht : t < n) {m : Tb} {s : Nat → Prop} (hd : ∀ i, i < n → 0 ≤ m i i) (hv : Via n m s) : Via n (phase n m t) (fun j => s j ∨ j = t) := by
  intro i j k hi hk hj hs
  have h0 := hd t ht
  rw [phase_is h0 hi hk, phase_is h0 hi hj, phase_is h0 hj hk]
  unfold wanted
  rcases hs with hs | rfl
  · have v1 := hv i j k hi hk hj hs
    have v2 := hv i j t hi ht hj hs
    have v3 := hv t j k ht hk hj hs
    have v4 := hv t j t ht ht hj hs
    omega
  · omega
theorem close_via {n : Nat} : ∀ (l : List Nat) (m : Tb) (s : Nat → Prop), (∀ t ∈ l, t < n) → (∀ i, i < n → 0 ≤ l.foldl (phase n) m i i) → Via n m s → Via n (l.foldl (phase n) m) (fun j => s j ∨ j ∈ l)
  | [], m, s, _, _, hv => fun i j k hi hk hj hs => hv i j k hi hk hj (by rcases hs with h | h; exact h; cases h)
  | t :: l, m, s, hl, hd, hv => by
    have hd0 : ∀ i, i < n → 0 ≤ m i i := fun i hi => Int.le_trans (hd i hi) (close_le n (t :: l) m i i)
    have := close_via l (phase n m t) _ (fun s hs => hl s (.tail _ hs)) hd (via_phase (hl t (.head _)) hd0 hv)
    intro i j k hi hk hj hs
    refine this i j k hi hk hj ?_
    rcases hs with h | h
    · exact .inl (.inl h)
    · rcases List.mem_cons.1 h with h | h
      · exact .inl (.inr h)
      · exact .inr h
def Sound (n : Nat) (m : Tb) : Prop := ∀ i, i < n → 0 ≤ close n m i i
theorem close_tri {n : Nat} {m : Tb} (h : Sound n m) {i j k : Nat} (hi : i < n) (hj : j < n) (hk : k < n) : close n m i k ≤ close n m i j + close n m j k :=
  close_via (List.range' 0 n) m (fun _ => False) (fun t ht => by rw [List.mem_range'_1] at ht; omega) h (fun _ _ _ _ _ _ hs => hs.elim) i j k hi hk hj (.inr (by rw [List.mem_range'_1]; omega))
theorem row_feas {n : Nat} {m : Tb} (h : Sound n m) {a : Nat} (ha : a < n) : Feas n m (close n m a) := fun i k hi hk => by
  have h1 := close_tri h ha hi hk
  have h2 := close_le n (List.range' 0 n) m i k
  have h3 : close n m i k ≤ m i k := h2
  omega
theorem feas_all {n : Nat} {m : Tb} {h : Nat → Int} (hf : Feas n m h) : Feas n (close n m) h :=
  feas_close _ m (fun t ht => by rw [List.mem_range'_1] at ht; omega) hf
theorem sound_iff {n : Nat} (hn : 0 < n) {m : Tb} : Sound n m ↔ ∃ h, Feas n m h := by
  constructor
  · exact fun h => ⟨_, row_feas h hn⟩
  · rintro ⟨h, hf⟩ i hi
    have := feas_all hf i i hi hi
    omega
theorem close_most {n : Nat} {m : Tb} (h : Sound n m) {i k : Nat} (hi : i < n) (hk : k < n) (h0 : m i i ≤ 0) : (∀ g, Feas n m g → g k - g i ≤ close n m i k) ∧ ∃ g, Feas n m g ∧ g k - g i = close n m i k := by
  refine ⟨fun g hg => feas_all hg i k hi hk, close n m i, row_feas h hi, ?_⟩
  have h1 := h i hi
  have h2 : close n m i i ≤ m i i := close_le n _ m i i
  omega
end Go.Organ

namespace Go.Organ
abbrev Bd := Nat × Nat × Int
def lower (m : Tb) (b : Bd) : Tb := fun i k => if i = b.1 ∧ k = b.2.1 then min (m i k) b.2.2 else m i k
def tbl (d : Tb) (l : List Bd) : Tb := l.foldl lower d
def Sem (l : List Bd) (h : Nat → Int) : Prop := ∀ b ∈ l, h b.2.1 - h b.1 ≤ b.2.2
theorem feas_lower {n : Nat} {d : Tb} {b : Bd} (hb : b.1 < n ∧ b.2.1 < n) {h : Nat → Int} : Feas n (lower d b) h ↔ Feas n d h ∧ h b.2.1 - h b.1 ≤ b.2.2 := by
  constructor
  · intro hf
    refine ⟨fun i k hi hk => ?_, ?_⟩
    · have := hf i k hi hk
      unfold lower at this
      split at this <;> omega
    · have := hf b.1 b.2.1 hb.1 hb.2
      unfold lower at this
      rw [if_pos ⟨rfl, rfl⟩] at this
      omega
  · rintro ⟨hf, hw⟩ i k hi hk
    have := hf i k hi hk
    unfold lower
    split
    · rename_i h
      obtain ⟨rfl, rfl⟩ := h
      omega
    · exact this
theorem feas_tbl {n : Nat} {h : Nat → Int} : ∀ (l : List Bd) (d : Tb), (∀ b ∈ l, b.1 < n ∧ b.2.1 < n) → (Feas n (tbl d l) h ↔ Feas n d h ∧ Sem l h)
  | [], d, _ => by simp [tbl, Sem]
  | b :: l, d, hl => by
    have ih := feas_tbl (n := n) (h := h) l (lower d b) fun c hc => hl c (.tail _ hc)
    rw [show tbl d (b :: l) = tbl (lower d b) l from rfl, ih, feas_lower (hl b (.head _)), and_assoc]
    refine and_congr_right fun _ => ?_
    simp only [Sem, List.forall_mem_cons]
def Real (N i : Nat) : Prop := i < N ∨ i = 5
instance (N i : Nat) : Decidable (Real N i) := by unfold Real; infer_instance
structure Bounds (N : Nat) (l : List Bd) : Prop where
  le : N ≤ 5
  real : ∀ b ∈ l, Real N b.1 ∧ Real N b.2.1
  up : ∀ i, i < N → (5, i, (60 : Int)) ∈ l
  down : ∀ i, i < N → (i, 5, (60 : Int)) ∈ l
theorem Bounds.lt {N : Nat} {l : List Bd} (h : Bounds N l) : ∀ b ∈ l, b.1 < 6 ∧ b.2.1 < 6 := fun b hb => by
  have := h.real b hb
  have := h.le
  unfold Real at *
  omega
theorem Bounds.near {N : Nat} {l : List Bd} (h : Bounds N l) {g : Nat → Int} (hg : Sem l g) {i : Nat} (hi : Real N i) : g i - g 5 ≤ 60 ∧ g 5 - g i ≤ 60 := by
  rcases hi with hi | rfl
  · exact ⟨hg _ (h.up i hi), hg _ (h.down i hi)⟩
  · omega
def put (N : Nat) (g : Nat → Int) : Nat → Int := fun i => if Real N i then g i else g 5
structure Bare (d : Tb) : Prop where
  off : ∀ i k, i ≠ k → 120 ≤ d i k
  on : ∀ i, 0 ≤ d i i
theorem put_feas {N : Nat} {l : List Bd} (h : Bounds N l) {d : Tb} (hd : Bare d) {g : Nat → Int} (hg : Sem l g) : Feas 6 (tbl d l) (put N g) := by
  rw [feas_tbl l d h.lt]
  refine ⟨fun i k _ _ => ?_, fun b hb => ?_⟩
  · by_cases he : i = k
    · subst he
      have := hd.on i
      omega
    · have := hd.off i k he
      have h1 : ∀ j, put N g j - g 5 ≤ 60 ∧ g 5 - put N g j ≤ 60 := fun j => by
        unfold put
        split
        · rename_i hr; exact h.near hg hr
        · omega
      have := h1 i
      have := h1 k
      omega
  · obtain ⟨h1, h2⟩ := h.real b hb
    have := hg b hb
    unfold put
    rw [if_pos h1, if_pos h2]
    exact this
theorem sound_sem {N : Nat} {l : List Bd} (h : Bounds N l) {d : Tb} (hd : Bare d) : Sound 6 (tbl d l) ↔ ∃ g, Sem l g := by
  rw [sound_iff (by omega)]
  constructor
  · rintro ⟨g, hg⟩
    exact ⟨g, ((feas_tbl l d h.lt).1 hg).2⟩
  · rintro ⟨g, hg⟩
    exact ⟨_, put_feas h hd hg⟩
def Most (l : List Bd) (i k : Nat) (v : Int) : Prop := (∀ g, Sem l g → g k - g i ≤ v) ∧ ∃ g, Sem l g ∧ g k - g i = v
theorem Most.uniq {l : List Bd} {i k : Nat} {v w : Int} (hv : Most l i k v) (hw : Most l i k w) : v = w := by
  obtain ⟨g, h1, h2⟩ := hv.2
  obtain ⟨f, h3, h4⟩ := hw.2
  have := hw.1 g h1
  have := hv.1 f h3
  omega
theorem tbl_le : ∀ (l : List Bd) (d : Tb) (i k : Nat), tbl d l i k ≤ d i k
  | [], d, i, k => Int.le_refl _
  | b :: l, d, i, k => by
    have h1 := tbl_le l (lower d b) i k
    have h2 : lower d b i k ≤ d i k := by unfold lower; split <;> omega
    exact Int.le_trans h1 h2
theorem most_is {N : Nat} {l : List Bd} (h : Bounds N l) {d : Tb} (hd : Bare d) (hs : ∃ g, Sem l g) {i k : Nat} (hi : Real N i) (hk : Real N k) (h0 : d i i ≤ 0) : Most l i k (close 6 (tbl d l) i k) := by
  have hN := h.le
  have hi6 : i < 6 := by unfold Real at hi; omega
  have hk6 : k < 6 := by unfold Real at hk; omega
  have hS := (sound_sem h hd).2 hs
  obtain ⟨h1, g, h2, h3⟩ := close_most hS hi6 hk6 (Int.le_trans (tbl_le l d i i) h0)
  refine ⟨fun f hf => ?_, g, ((feas_tbl l d h.lt).1 h2).2, h3⟩
  have := h1 _ (put_feas h hd hf)
  unfold put at this
  rw [if_pos hi, if_pos hk] at this
  exact this
theorem Most.same {l : List Bd} {i : Nat} {v : Int} (h : Most l i i v) : v = 0 := by
  obtain ⟨g, _, h2⟩ := h.2
  omega
theorem Most.turn {l : List Bd} {i k : Nat} {v w : Int} (h : Most l i k v) (h' : Most l k i w) : 0 ≤ v + w := by
  obtain ⟨g, h1, h2⟩ := h.2
  have := h'.1 g h1
  omega
theorem Most.tri {l : List Bd} {i j k : Nat} {u v w : Int} (h1 : Most l i k u) (h2 : Most l i j v) (h3 : Most l j k w) : u ≤ v + w := by
  obtain ⟨g, a, b⟩ := h1.2
  have := h2.1 g a
  have := h3.1 g a
  omega
theorem Most.mono {l l' : List Bd} (hl : ∀ b ∈ l, b ∈ l') {i k : Nat} {v w : Int} (h : Most l i k v) (h' : Most l' i k w) : w ≤ v := by
  obtain ⟨g, a, b⟩ := h'.2
  have := h.1 g fun b hb => a b (hl b hb)
  omega
theorem between {l : List Bd} {N : Nat} (h : Bounds N l) (hs : ∃ g, Sem l g) {i k : Nat} (hi : Real N i) (hk : Real N k) {v w c : Int} (h1 : Most l i k v) (h2 : Most l k i w) (hc : -w ≤ c ∧ c ≤ v) : ∃ g, Sem l g ∧ g k - g i = c := by
  have hN := h.le
  have hi6 : i < 6 := by unfold Real at hi; omega
  have hk6 : k < 6 := by unfold Real at hk; omega
  have hd : Bare (fun i k => if i = k then 0 else 120) := ⟨fun i k hne => by simp [hne], fun i => by simp⟩
  have hS := (sound_sem h hd).2 hs
  have m1 := most_is h hd hs hi hk (by simp)
  have m2 := most_is h hd hs hk hi (by simp)
  have e1 := m1.uniq h1
  have e2 := m2.uniq h2
  have e3 := (most_is h hd hs hi hi (by simp)).same
  have e4 := (most_is h hd hs hk hk (by simp)).same
  refine ⟨fun j => min (close 6 (tbl (fun i k => if i = k then 0 else 120) l) i j) (c + close 6 (tbl (fun i k => if i = k then 0 else 120) l) k j), fun b hb => ?_, ?_⟩
  · have f1 := ((feas_tbl l _ h.lt).1 (row_feas hS hi6)).2 b hb
    have f2 := ((feas_tbl l _ h.lt).1 (row_feas hS hk6)).2 b hb
    dsimp only
    omega
  · dsimp only
    omega
end Go.Organ

namespace Go.Organ
structure T4 where
  src : Int
  dst : Int
  off : Int
  err : Int
structure F3 where
  pipe : Int
  read : Int
  err : Int
def townB (N : Nat) : List Bd := (List.range' 0 N).flatMap fun p => [(5, p, 60), (p, 5, 60)]
def forkB (f : F3) : List Bd := [(5, f.pipe.toNat, f.read + f.err), (f.pipe.toNat, 5, f.err - f.read)]
def tuneB (t : T4) : List Bd := [(t.src.toNat, t.dst.toNat, t.off + t.err), (t.dst.toNat, t.src.toNat, t.err - t.off)]
def kept (out : Nat → Bool) : List T4 → Nat → List T4
  | [], _ => []
  | t :: l, k => (if out k then [] else [t]) ++ kept out l (k + 1)
def bds (N : Nat) (fs : List F3) (ts : List T4) : List Bd := townB N ++ (fs.flatMap forkB ++ ts.flatMap tuneB)
structure TOk (N : Nat) (t : T4) : Prop where
  src : 0 ≤ t.src ∧ t.src < N
  dst : 0 ≤ t.dst ∧ t.dst < N
  ne : t.src ≠ t.dst
  off : -30 ≤ t.off ∧ t.off ≤ 30
  err : 0 ≤ t.err ∧ t.err ≤ 5
structure FOk (N : Nat) (f : F3) : Prop where
  pipe : 0 ≤ f.pipe ∧ f.pipe < N
  read : -60 ≤ f.read ∧ f.read ≤ 60
  err : 0 ≤ f.err ∧ f.err ≤ 5
theorem mem_town {N : Nat} {b : Bd} : b ∈ townB N ↔ ∃ p, p < N ∧ (b = (5, p, 60) ∨ b = (p, 5, 60)) := by
  simp only [townB, List.mem_flatMap, List.mem_range'_1, List.mem_cons, List.not_mem_nil, or_false]
  constructor
  · rintro ⟨p, hp, h⟩; exact ⟨p, by omega, h⟩
  · rintro ⟨p, hp, h⟩; exact ⟨p, by omega, h⟩
structure Stand (N : Nat) (fs : List F3) (ts : List T4) (g : Nat → Int) : Prop where
  town : ∀ p, p < N → g p - g 5 ≤ 60 ∧ g 5 - g p ≤ 60
  forks : ∀ f ∈ fs, g f.pipe.toNat - g 5 ≤ f.read + f.err ∧ g 5 - g f.pipe.toNat ≤ f.err - f.read
  tunes : ∀ t ∈ ts, g t.dst.toNat - g t.src.toNat ≤ t.off + t.err ∧ g t.src.toNat - g t.dst.toNat ≤ t.err - t.off
theorem sem_iff {N : Nat} {fs : List F3} {ts : List T4} {g : Nat → Int} : Sem (bds N fs ts) g ↔ Stand N fs ts g := by
  constructor
  · intro h
    refine ⟨fun p hp => ⟨?_, ?_⟩, fun f hf => ⟨?_, ?_⟩, fun t ht => ⟨?_, ?_⟩⟩
    · exact h (5, p, 60) (List.mem_append_left _ (mem_town.2 ⟨p, hp, .inl rfl⟩))
    · exact h (p, 5, 60) (List.mem_append_left _ (mem_town.2 ⟨p, hp, .inr rfl⟩))
    · exact h (5, f.pipe.toNat, f.read + f.err) (List.mem_append_right _ (List.mem_append_left _ (List.mem_flatMap.2 ⟨f, hf, by simp [forkB]⟩)))
    · exact h (f.pipe.toNat, 5, f.err - f.read) (List.mem_append_right _ (List.mem_append_left _ (List.mem_flatMap.2 ⟨f, hf, by simp [forkB]⟩)))
    · exact h (t.src.toNat, t.dst.toNat, t.off + t.err) (List.mem_append_right _ (List.mem_append_right _ (List.mem_flatMap.2 ⟨t, ht, by simp [tuneB]⟩)))
    · exact h (t.dst.toNat, t.src.toNat, t.err - t.off) (List.mem_append_right _ (List.mem_append_right _ (List.mem_flatMap.2 ⟨t, ht, by simp [tuneB]⟩)))
  · intro h b hb
    rcases List.mem_append.1 hb with hb | hb
    · obtain ⟨p, hp, rfl | rfl⟩ := mem_town.1 hb
      · exact (h.town p hp).1
      · exact (h.town p hp).2
    · rcases List.mem_append.1 hb with hb | hb
      · obtain ⟨f, hf, hb⟩ := List.mem_flatMap.1 hb
        simp only [forkB, List.mem_cons, List.not_mem_nil, or_false] at hb
        rcases hb with rfl | rfl
        · exact (h.forks f hf).1
        · exact (h.forks f hf).2
      · obtain ⟨t, ht, hb⟩ := List.mem_flatMap.1 hb
        simp only [tuneB, List.mem_cons, List.not_mem_nil, or_false] at hb
        rcases hb with rfl | rfl
        · exact (h.tunes t ht).1
        · exact (h.tunes t ht).2
theorem bds_ok {N : Nat} (hN : N ≤ 5) {fs : List F3} {ts : List T4} (hf : ∀ f ∈ fs, FOk N f) (ht : ∀ t ∈ ts, TOk N t) : Bounds N (bds N fs ts) where
  le := hN
  real b hb := by
    rcases List.mem_append.1 hb with hb | hb
    · obtain ⟨p, hp, rfl | rfl⟩ := mem_town.1 hb
      · exact ⟨.inr rfl, .inl hp⟩
      · exact ⟨.inl hp, .inr rfl⟩
    · rcases List.mem_append.1 hb with hb | hb
      · obtain ⟨f, hfm, hb⟩ := List.mem_flatMap.1 hb
        have := (hf f hfm).pipe
        simp only [forkB, List.mem_cons, List.not_mem_nil, or_false] at hb
        rcases hb with rfl | rfl
        · exact ⟨.inr rfl, .inl (by show f.pipe.toNat < N; omega)⟩
        · exact ⟨.inl (by show f.pipe.toNat < N; omega), .inr rfl⟩
      · obtain ⟨t, htm, hb⟩ := List.mem_flatMap.1 hb
        have h1 := (ht t htm).src
        have h2 := (ht t htm).dst
        simp only [tuneB, List.mem_cons, List.not_mem_nil, or_false] at hb
        rcases hb with rfl | rfl
        · exact ⟨.inl (by show t.src.toNat < N; omega), .inl (by show t.dst.toNat < N; omega)⟩
        · exact ⟨.inl (by show t.dst.toNat < N; omega), .inl (by show t.src.toNat < N; omega)⟩
  up i hi := List.mem_append_left _ (mem_town.2 ⟨i, hi, .inl rfl⟩)
  down i hi := List.mem_append_left _ (mem_town.2 ⟨i, hi, .inr rfl⟩)
theorem stand_more {N : Nat} {fs : List F3} {ts : List T4} {t : T4} {g : Nat → Int} : Stand N fs (ts ++ [t]) g ↔ Stand N fs ts g ∧ g t.dst.toNat - g t.src.toNat ≤ t.off + t.err ∧ g t.src.toNat - g t.dst.toNat ≤ t.err - t.off := by
  constructor
  · exact fun h => ⟨⟨h.town, h.forks, fun u hu => h.tunes u (List.mem_append_left _ hu)⟩, h.tunes t (by simp)⟩
  · rintro ⟨h, ht⟩
    refine ⟨h.town, h.forks, fun u hu => ?_⟩
    rcases List.mem_append.1 hu with hu | hu
    · exact h.tunes u hu
    · rw [List.mem_singleton.1 hu]; exact ht
theorem fits_iff {N : Nat} (hN : N ≤ 5) {fs : List F3} {ts : List T4} (hf : ∀ f ∈ fs, FOk N f) (ht : ∀ t ∈ ts, TOk N t) (hs : ∃ g, Stand N fs ts g) {i k : Nat} (hi : i < N) (hk : k < N) {v w c : Int} (h1 : Most (bds N fs ts) i k v) (h2 : Most (bds N fs ts) k i w) : (∃ g, Stand N fs (ts ++ [⟨i, k, c, 0⟩]) g) ↔ -w ≤ c ∧ c ≤ v := by
  constructor
  · rintro ⟨g, hg⟩
    obtain ⟨a, b1, b2⟩ := stand_more.1 hg
    have := h1.1 g (sem_iff.2 a)
    have := h2.1 g (sem_iff.2 a)
    simp only [Int.toNat_natCast] at b1 b2
    omega
  · intro hc
    obtain ⟨g, hg, hgc⟩ := between (bds_ok hN hf ht) (hs.imp fun g hg => sem_iff.2 hg) (.inl hi) (.inl hk) h1 h2 hc
    refine ⟨g, stand_more.2 ⟨sem_iff.1 hg, ?_⟩⟩
    simp only [Int.toNat_natCast]
    omega
theorem fork_more {N : Nat} {fs : List F3} {ts : List T4} {f : F3} {g : Nat → Int} : Stand N (fs ++ [f]) ts g ↔ Stand N fs ts g ∧ g f.pipe.toNat - g 5 ≤ f.read + f.err ∧ g 5 - g f.pipe.toNat ≤ f.err - f.read := by
  constructor
  · exact fun h => ⟨⟨h.town, fun u hu => h.forks u (List.mem_append_left _ hu), h.tunes⟩, h.forks f (by simp)⟩
  · rintro ⟨h, hf⟩
    refine ⟨h.town, fun u hu => ?_, h.tunes⟩
    rcases List.mem_append.1 hu with hu | hu
    · exact h.forks u hu
    · rw [List.mem_singleton.1 hu]; exact hf
theorem fork_iff {N : Nat} (hN : N ≤ 5) {fs : List F3} {ts : List T4} (hf : ∀ f ∈ fs, FOk N f) (ht : ∀ t ∈ ts, TOk N t) (hs : ∃ g, Stand N fs ts g) {k : Nat} (hk : k < N) {v w c : Int} (h1 : Most (bds N fs ts) 5 k v) (h2 : Most (bds N fs ts) k 5 w) : (∃ g, Stand N (fs ++ [⟨k, c, 0⟩]) ts g) ↔ -w ≤ c ∧ c ≤ v := by
  constructor
  · rintro ⟨g, hg⟩
    obtain ⟨a, b1, b2⟩ := fork_more.1 hg
    have := h1.1 g (sem_iff.2 a)
    have := h2.1 g (sem_iff.2 a)
    simp only [Int.toNat_natCast] at b1 b2
    omega
  · intro hc
    obtain ⟨g, hg, hgc⟩ := between (bds_ok hN hf ht) (hs.imp fun g hg => sem_iff.2 hg) (.inr rfl) (.inl hk) h1 h2 hc
    refine ⟨g, fork_more.2 ⟨sem_iff.1 hg, ?_⟩⟩
    simp only [Int.toNat_natCast]
    omega
def shiftF (by' : Int) (f : F3) : F3 := ⟨f.pipe, f.read + by', f.err⟩
def lift (by' : Int) (g : Nat → Int) : Nat → Int := fun i => if i = 5 then g i else g i + by'
structure Loose (N : Nat) (fs : List F3) (ts : List T4) (g : Nat → Int) : Prop where
  forks : ∀ f ∈ fs, g f.pipe.toNat - g 5 ≤ f.read + f.err ∧ g 5 - g f.pipe.toNat ≤ f.err - f.read
  tunes : ∀ t ∈ ts, g t.dst.toNat - g t.src.toNat ≤ t.off + t.err ∧ g t.src.toNat - g t.dst.toNat ≤ t.err - t.off
theorem loose_lift {N : Nat} (hN : N ≤ 5) {fs : List F3} {ts : List T4} (hf : ∀ f ∈ fs, FOk N f) (ht : ∀ t ∈ ts, TOk N t) (by' : Int) {g : Nat → Int} : Loose N (fs.map (shiftF by')) ts (lift by' g) ↔ Loose N fs ts g := by
  have hp : ∀ p : Int, 0 ≤ p → p < N → lift by' g p.toNat = g p.toNat + by' := fun p h0 h1 => by
    unfold lift; rw [if_neg (by omega)]
  have h5 : lift by' g 5 = g 5 := rfl
  constructor
  · intro h
    refine ⟨fun f hfm => ?_, fun t htm => ?_⟩
    · have := h.forks _ (List.mem_map.2 ⟨f, hfm, rfl⟩)
      have hpf := (hf f hfm).pipe
      simp only [shiftF, h5, hp _ hpf.1 hpf.2] at this
      omega
    · have := h.tunes t htm
      have a := (ht t htm).src
      have b := (ht t htm).dst
      rw [hp _ a.1 a.2, hp _ b.1 b.2] at this
      omega
  · intro h
    refine ⟨fun f' hfm => ?_, fun t htm => ?_⟩
    · obtain ⟨f, hfm', rfl⟩ := List.mem_map.1 hfm
      have := h.forks f hfm'
      have hpf := (hf f hfm').pipe
      simp only [shiftF, h5, hp _ hpf.1 hpf.2]
      omega
    · have := h.tunes t htm
      have a := (ht t htm).src
      have b := (ht t htm).dst
      rw [hp _ a.1 a.2, hp _ b.1 b.2]
      omega
end Go.Organ

namespace Go.Organ
def upd (m : Tb) (i k : Nat) (v : Int) : Tb := fun a b => if a = i ∧ b = k then v else m a b
theorem upd_cell (t : Nat) (m : Tb) (i k : Nat) : cell t m (i, k) = upd m i k (min (m i k) (m i t + m t k)) := by
  funext a b
  simp only [cell, upd]
  split
  · rename_i h; rw [h.1, h.2]
  · rfl
theorem upd_lower (m : Tb) (i k : Nat) (v : Int) : lower m (i, k, v) = upd m i k (min (m i k) v) := by
  funext a b
  simp only [lower, upd]
  split
  · rename_i h; rw [h.1, h.2]
  · rfl
def flat (m : Tb) : List Int := (List.range' 0 6).flatMap fun i => (List.range' 0 6).map fun k => m i k
theorem six {i : Nat} (h : i < 6) : i = 0 ∨ i = 1 ∨ i = 2 ∨ i = 3 ∨ i = 4 ∨ i = 5 := by omega
theorem flat_len (m : Tb) : (flat m).length = 36 := rfl
theorem flat_get (m : Tb) {i k : Nat} (hi : i < 6) (hk : k < 6) : (flat m)[6 * i + k]? = some (m i k) := by
  rcases six hi with rfl | rfl | rfl | rfl | rfl | rfl <;> rcases six hk with rfl | rfl | rfl | rfl | rfl | rfl <;> rfl
theorem flat_set (m : Tb) {i k : Nat} (hi : i < 6) (hk : k < 6) (v : Int) : (flat m).set (6 * i + k) v = flat (upd m i k v) := by
  rcases six hi with rfl | rfl | rfl | rfl | rfl | rfl <;> rcases six hk with rfl | rfl | rfl | rfl | rfl | rfl <;> rfl
theorem flat_ext {m m' : Tb} (h : ∀ i k, i < 6 → k < 6 → m i k = m' i k) : flat m = flat m' := by
  unfold flat
  rw [List.flatMap_def, List.flatMap_def]
  refine congrArg List.flatten (List.map_congr_left fun i hi => List.map_congr_left fun k hk => ?_)
  rw [List.mem_range'_1] at hi hk
  exact h i k (by omega) (by omega)

def bnd (t : Nat) (L : Int) (i k : Nat) : Int := if i = t then (if k = t then 2 * L else 3 * L) else if k = t then 3 * L else 6 * L
structure Low (t : Nat) (L : Int) (m : Tb) (n : Nat) : Prop where
  all : ∀ i k, i < 6 → k < 6 → bnd t L i k ≤ m i k
  rest : ∀ i k, i < 6 → k < 6 → n ≤ 6 * i + k → L ≤ m i k
theorem Low.start (t : Nat) {L : Int} {m : Tb} (hL : L ≤ 0) (h : ∀ i k, i < 6 → k < 6 → L ≤ m i k) : Low t L m 0 where
  all i k hi hk := by
    have := h i k hi hk
    unfold bnd
    split <;> split <;> omega
  rest i k hi hk _ := h i k hi hk
theorem Low.next {t : Nat} {L : Int} {m : Tb} {i k : Nat} (ht : t < 6) (hi : i < 6) (hk : k < 6) (hL : L ≤ 0) (h : Low t L m (6 * i + k)) : Low t L (cell t m (i, k)) (6 * i + k + 1) where
  all a b ha hb := by
    have h0 := h.all a b ha hb
    unfold cell
    split
    · rename_i hab
      obtain ⟨rfl, rfl⟩ := hab
      have h1 := h.rest a b ha hb (Nat.le_refl _)
      have h2 := h.all a t ha ht
      have h3 := h.all t b ht hb
      have h4 := h.all t t ht ht
      unfold bnd at *
      simp only [if_true] at h2 h3 h4
      by_cases e1 : a = t
      · subst e1
        by_cases e2 : b = a
        · subst e2
          simp only [if_true] at *
          omega
        · simp only [e2, if_false, if_true] at *
          omega
      · by_cases e2 : b = t
        · subst e2
          simp only [e1, if_true, if_false] at *
          omega
        · simp only [e1, e2, if_false] at *
          omega
    · exact h0
  rest a b ha hb hn := by
    unfold cell
    split
    · rename_i hab
      obtain ⟨rfl, rfl⟩ := hab
      omega
    · exact h.rest a b ha hb (by omega)
theorem Low.done {t : Nat} {L : Int} {m : Tb} {n : Nat} (hL : L ≤ 0) (h : Low t L m n) : ∀ i k, i < 6 → k < 6 → 6 * L ≤ m i k := fun i k hi hk => by
  have := h.all i k hi hk
  unfold bnd at this
  split at this <;> (try split at this) <;> omega
theorem Low.sum {t : Nat} {L : Int} {m : Tb} {n : Nat} (hL : L ≤ 0) (h : Low t L m n) (ht : t < 6) {i k : Nat} (hi : i < 6) (hk : k < 6) : 6 * L ≤ m i k ∧ 6 * L ≤ m i t ∧ 6 * L ≤ m t k :=
  ⟨h.done hL i k hi hk, h.done hL i t hi ht, h.done hL t k ht hk⟩

abbrev PM := List ((Int × Int) × Int)
def PM.get (l : PM) (k : Int × Int) : Option Int := match l with
  | [] => none
  | e :: l => if e.1 = k then some e.2 else PM.get l k
def PM.put (l : PM) (k : Int × Int) (v : Int) : PM := match l with
  | [] => [(k, v)]
  | e :: l => if e.1 = k then (e.1, v) :: l else e :: PM.put l k v
theorem get_put (k : Int × Int) (v : Int) (k' : Int × Int) : ∀ l : PM, (PM.put l k v).get k' = if k' = k then some v else l.get k'
  | [] => by
    simp only [PM.put, PM.get]
    by_cases h : k = k'
    · simp [h]
    · have h' : ¬ k' = k := fun e => h e.symm
      simp [h, h']
  | e :: l => by
    simp only [PM.put]
    split
    · rename_i h
      simp only [PM.get, h]
      by_cases h2 : k = k'
      · simp [h2]
      · have h' : ¬ k' = k := fun e => h2 e.symm
        simp [h2, h']
    · rename_i h
      simp only [PM.get, get_put k v k' l]
      by_cases h2 : e.1 = k'
      · have h' : ¬ k' = k := fun e' => h (h2.trans e')
        simp [h2, h']
      · simp [h2]
def addB (l : PM) (k : Int × Int) (v : Int) : PM := l.put k (match l.get k with
  | none => v
  | some w => min w v)
def bdB (l : PM) (b : Bd) : PM := addB l ((b.1 : Int), (b.2.1 : Int)) b.2.2
def builtM (bs : List Bd) (l : PM) : PM := bs.foldl bdB l
def tab (d : Tb) (l : PM) : Tb := fun i k => match l.get ((i : Int), (k : Int)) with
  | none => d i k
  | some w => min (d i k) w
theorem tab_add (d : Tb) (l : PM) (b : Bd) : tab d (bdB l b) = lower (tab d l) b := by
  obtain ⟨x, y, v⟩ := b
  funext i k
  simp only [tab, bdB, addB, get_put, lower, Prod.mk.injEq, Int.natCast_inj]
  by_cases h : i = x ∧ k = y
  · obtain ⟨rfl, rfl⟩ := h
    simp only [and_self, if_true]
    cases l.get ((i : Int), (k : Int)) with
    | none => rfl
    | some w => simp only; omega
  · simp only [h, if_false]
theorem tab_built (d : Tb) : ∀ (bs : List Bd) (l : PM), tab d (builtM bs l) = tbl (tab d l) bs
  | [], l => rfl
  | b :: bs, l => by
    have := tab_built d bs (bdB l b)
    rw [tab_add] at this
    exact this
theorem tab_nil (d : Tb) : tab d [] = d := rfl
structure Held (N : Nat) (l : PM) : Prop where
  small : ∀ k v, l.get k = some v → -65 ≤ v ∧ v ≤ 65
  real : ∀ i k v, l.get (i, k) = some v → i ≠ k
structure SmallB (N : Nat) (b : Bd) : Prop where
  small : -65 ≤ b.2.2 ∧ b.2.2 ≤ 65
  ne : b.1 ≠ b.2.1
theorem Held.nil (N : Nat) : Held N [] where
  small k v h := by cases h
  real i k v h := by cases h
theorem Held.add {N : Nat} {l : PM} (h : Held N l) {b : Bd} (hb : SmallB N b) : Held N (bdB l b) where
  small k v hv := by
    simp only [bdB, addB, get_put] at hv
    have h1 := hb.small
    split at hv
    · cases hg : l.get ((b.1 : Int), (b.2.1 : Int)) with
      | none => rw [hg] at hv; simp only [Option.some.injEq] at hv; omega
      | some w =>
        rw [hg] at hv
        have := h.small _ _ hg
        simp only [Option.some.injEq] at hv
        omega
    · exact h.small k v hv
  real i k v hv := by
    simp only [bdB, addB, get_put] at hv
    split at hv
    · rename_i he
      simp only [Prod.mk.injEq] at he
      have := hb.ne
      omega
    · exact h.real i k v hv
theorem Held.built {N : Nat} : ∀ (bs : List Bd) (l : PM), (∀ b ∈ bs, SmallB N b) → Held N l → Held N (builtM bs l)
  | [], l, _, h => h
  | b :: bs, l, hb, h => Held.built bs (bdB l b) (fun c hc => hb c (.tail _ hc)) (h.add (hb b (.head _)))
theorem small_bds {N : Nat} (hN : N ≤ 5) {fs : List F3} {ts : List T4} (hf : ∀ f ∈ fs, FOk N f) (ht : ∀ t ∈ ts, TOk N t) : ∀ b ∈ bds N fs ts, SmallB N b := by
  intro b hb
  rcases List.mem_append.1 hb with hb | hb
  · obtain ⟨p, hp, rfl | rfl⟩ := mem_town.1 hb
    · exact ⟨by simp, by show (5 : Nat) ≠ p; omega⟩
    · exact ⟨by simp, by show p ≠ 5; omega⟩
  · rcases List.mem_append.1 hb with hb | hb
    · obtain ⟨f, hm, hb⟩ := List.mem_flatMap.1 hb
      have h := hf f hm
      have h1 := h.pipe
      have h2 := h.read
      have h3 := h.err
      simp only [forkB, List.mem_cons, List.not_mem_nil, or_false] at hb
      rcases hb with rfl | rfl
      · exact ⟨by simp only; omega, by simp only; omega⟩
      · exact ⟨by simp only; omega, by simp only; omega⟩
    · obtain ⟨t, hm, hb⟩ := List.mem_flatMap.1 hb
      have h := ht t hm
      have h1 := h.src
      have h2 := h.dst
      have h3 := h.ne
      have h4 := h.off
      have h5 := h.err
      simp only [tuneB, List.mem_cons, List.not_mem_nil, or_false] at hb
      rcases hb with rfl | rfl
      · exact ⟨by simp only; omega, by simp only; omega⟩
      · exact ⟨by simp only; omega, by simp only; omega⟩

def baseP (N : Nat) : Tb := fun i k => if i = k ∧ Real N i then 0 else 1048576
def baseR : Tb := fun i k => if i = k then 0 else 100000
theorem bareP (N : Nat) : Bare (baseP N) := ⟨fun i k h => by simp [baseP, h], fun i => by unfold baseP; split <;> omega⟩
theorem bareR : Bare baseR := ⟨fun i k h => by simp [baseR, h], fun i => by simp [baseR]⟩
def rowM (l : PM) (i : Nat) (k : Nat) : Int := (l.get ((i : Int), (k : Int))).getD 1048576
def told (l : PM) (i : Nat) : Bool := (List.range' 0 6).any fun k => rowM l i k != 1048576
def ofM (l : PM) : Tb := fun i k => if i = k ∧ told l i = true then 0 else rowM l i k
theorem told_iff {N : Nat} {l : PM} {i : Nat} (h : Held N l) : told l i = true ↔ ∃ k : Nat, k < 6 ∧ (l.get ((i : Int), (k : Int))).isSome = true := by
  simp only [told, List.any_eq_true, List.mem_range'_1, rowM, bne_iff_ne, ne_eq]
  constructor
  · rintro ⟨k, hk, h1⟩
    refine ⟨k, by omega, ?_⟩
    cases hg : l.get ((i : Int), (k : Int)) with
    | none => simp [hg] at h1
    | some w => rfl
  · rintro ⟨k, hk, h1⟩
    refine ⟨k, by omega, ?_⟩
    cases hg : l.get ((i : Int), (k : Int)) with
    | none => simp [hg] at h1
    | some w => have := h.small _ _ hg; simp only [Option.getD_some]; omega
theorem get_built {i k : Nat} : ∀ (bs : List Bd) (l : PM), ((builtM bs l).get ((i : Int), (k : Int))).isSome = true ↔ (l.get ((i : Int), (k : Int))).isSome = true ∨ ∃ b ∈ bs, b.1 = i ∧ b.2.1 = k
  | [], l => by simp [builtM]
  | b :: bs, l => by
    have ih := get_built (i := i) (k := k) bs (bdB l b)
    rw [show builtM (b :: bs) l = builtM bs (bdB l b) from rfl, ih]
    simp only [bdB, addB, get_put, Prod.mk.injEq, Int.natCast_inj, List.exists_mem_cons]
    by_cases h : i = b.1 ∧ k = b.2.1
    · have h' : b.1 = i ∧ b.2.1 = k := ⟨h.1.symm, h.2.symm⟩
      rw [if_pos h]
      constructor
      · exact fun _ => .inr ⟨b, .head _, h'⟩
      · exact fun _ => .inl rfl
    · have h' : ¬ (b.1 = i ∧ b.2.1 = k) := fun e => h ⟨e.1.symm, e.2.symm⟩
      rw [if_neg h]
      constructor
      · rintro (h1 | ⟨c, hc, h1⟩)
        · exact .inl h1
        · exact .inr ⟨c, .tail _ hc, h1⟩
      · rintro (h1 | ⟨c, hc, h1⟩)
        · exact .inl h1
        · rcases List.mem_cons.1 hc with rfl | hc
          · exact absurd h1 h'
          · exact .inr ⟨c, hc, h1⟩
theorem ofM_is {N : Nat} {bs : List Bd} (hb : Bounds N bs) (hs : ∀ b ∈ bs, SmallB N b) (h1 : 1 ≤ N) {i k : Nat} (hi : i < 6) (hk : k < 6) : ofM (builtM bs []) i k = tbl (baseP N) bs i k := by
  have hh : Held N (builtM bs []) := Held.built bs [] hs (.nil N)
  have ht : told (builtM bs []) i = true ↔ Real N i := by
    rw [told_iff hh]
    constructor
    · rintro ⟨k, hk, h⟩
      rw [get_built] at h
      rcases h with h | ⟨b, hm, rfl, rfl⟩
      · cases h
      · exact (hb.real b hm).1
    · intro hr
      rcases hr with hr | rfl
      · exact ⟨5, by omega, (get_built bs []).2 (.inr ⟨_, hb.down i hr, rfl, rfl⟩)⟩
      · exact ⟨0, by omega, (get_built bs []).2 (.inr ⟨_, hb.up 0 h1, rfl, rfl⟩)⟩
  have := tab_built (baseP N) bs []
  rw [tab_nil] at this
  rw [← this]
  simp only [ofM, tab, rowM, baseP, ht]
  cases hg : (builtM bs []).get ((i : Int), (k : Int)) with
  | none => rfl
  | some w =>
    have h2 := hh.small _ _ hg
    have h3 := hh.real _ _ _ hg
    have h4 : ¬ i = k := by omega
    simp only [h4, false_and, if_false, Option.getD_some]
    omega
end Go.Organ

namespace Go.Organ
structure BOk (N : Nat) (fs : List F3) (ts : List T4) : Prop where
  one : 1 ≤ N
  five : N ≤ 5
  forks : ∀ f ∈ fs, FOk N f
  tunes : ∀ t ∈ ts, TOk N t
def T6 (N : Nat) (fs : List F3) (ts : List T4) : Tb := close 6 (tbl (baseP N) (bds N fs ts))
def isO (N : Nat) (fs : List F3) (ts : List T4) : Bool := (List.range' 0 6).all fun i => decide (0 ≤ T6 N fs ts i i)
section
variable {N : Nat} {fs : List F3} {ts : List T4}
theorem BOk.bounds (h : BOk N fs ts) : Bounds N (bds N fs ts) := bds_ok h.five h.forks h.tunes
theorem isO_iff (h : BOk N fs ts) : isO N fs ts = true ↔ ∃ g, Stand N fs ts g := by
  have h1 : isO N fs ts = true ↔ Sound 6 (tbl (baseP N) (bds N fs ts)) := by
    simp only [isO, List.all_eq_true, List.mem_range'_1, decide_eq_true_eq, Sound]
    exact ⟨fun h i hi => h i ⟨Nat.zero_le _, by omega⟩, fun h i hi => h i (by omega)⟩
  rw [h1, sound_sem h.bounds (bareP N)]
  exact ⟨fun ⟨g, hg⟩ => ⟨g, sem_iff.1 hg⟩, fun ⟨g, hg⟩ => ⟨g, sem_iff.2 hg⟩⟩
theorem T6_most (h : BOk N fs ts) (hs : isO N fs ts = true) {i k : Nat} (hi : Real N i) (hk : Real N k) : Most (bds N fs ts) i k (T6 N fs ts i k) := by
  obtain ⟨g, hg⟩ := (isO_iff h).1 hs
  exact most_is h.bounds (bareP N) ⟨g, sem_iff.2 hg⟩ hi hk (by simp [baseP, hi])
theorem T6_near (h : BOk N fs ts) (hs : isO N fs ts = true) {i k : Nat} (hi : Real N i) (hk : Real N k) : -120 ≤ T6 N fs ts i k ∧ T6 N fs ts i k ≤ 120 ∧ (i = 5 → -60 ≤ T6 N fs ts i k ∧ T6 N fs ts i k ≤ 60) ∧ (k = 5 → -60 ≤ T6 N fs ts i k ∧ T6 N fs ts i k ≤ 60) := by
  obtain ⟨g, hg, he⟩ := (T6_most h hs hi hk).2
  have h1 := h.bounds.near hg hi
  have h2 := h.bounds.near hg hk
  refine ⟨by omega, by omega, ?_, ?_⟩
  · rintro rfl; omega
  · rintro rfl; omega
theorem T6_same (h : BOk N fs ts) (hs : isO N fs ts = true) {i : Nat} (hi : Real N i) : T6 N fs ts i i = 0 := (T6_most h hs hi hi).same
theorem T6_turn (h : BOk N fs ts) (hs : isO N fs ts = true) {i k : Nat} (hi : Real N i) (hk : Real N k) : -T6 N fs ts k i ≤ T6 N fs ts i k := by
  have := (T6_most h hs hi hk).turn (T6_most h hs hk hi)
  omega
theorem T6_tri (h : BOk N fs ts) (hs : isO N fs ts = true) {i j k : Nat} (hi : Real N i) (hj : Real N j) (hk : Real N k) : T6 N fs ts i k ≤ T6 N fs ts i j + T6 N fs ts j k :=
  (T6_most h hs hi hk).tri (T6_most h hs hi hj) (T6_most h hs hj hk)
theorem T6_covers (h : BOk N fs ts) {g : Nat → Int} (hg : Stand N fs ts g) {i k : Nat} (hi : Real N i) (hk : Real N k) : -T6 N fs ts k i ≤ g k - g i ∧ g k - g i ≤ T6 N fs ts i k := by
  have hs := (isO_iff h).2 ⟨g, hg⟩
  have h1 := (T6_most h hs hi hk).1 g (sem_iff.2 hg)
  have h2 := (T6_most h hs hk hi).1 g (sem_iff.2 hg)
  omega
theorem T6_other (h : BOk N fs ts) (hs : isO N fs ts = true) {d : Tb} (hd : Bare d) (h0 : ∀ i, d i i ≤ 0) {i k : Nat} (hi : Real N i) (hk : Real N k) : close 6 (tbl d (bds N fs ts)) i k = T6 N fs ts i k := by
  obtain ⟨g, hg⟩ := (isO_iff h).1 hs
  exact (most_is h.bounds hd ⟨g, sem_iff.2 hg⟩ hi hk (h0 i)).uniq (T6_most h hs hi hk)
theorem isO_other (h : BOk N fs ts) {d : Tb} (hd : Bare d) : ((List.range' 0 6).all fun i => decide (0 ≤ close 6 (tbl d (bds N fs ts)) i i)) = isO N fs ts := by
  rw [Bool.eq_iff_iff, isO_iff h]
  have h1 : ((List.range' 0 6).all fun i => decide (0 ≤ close 6 (tbl d (bds N fs ts)) i i)) = true ↔ Sound 6 (tbl d (bds N fs ts)) := by
    simp only [List.all_eq_true, List.mem_range'_1, decide_eq_true_eq, Sound]
    exact ⟨fun h i hi => h i ⟨Nat.zero_le _, by omega⟩, fun h i hi => h i (by omega)⟩
  rw [h1, sound_sem h.bounds hd]
  exact ⟨fun ⟨g, hg⟩ => ⟨g, sem_iff.1 hg⟩, fun ⟨g, hg⟩ => ⟨g, sem_iff.2 hg⟩⟩
end
def loF (m : Tb) (a : Int) (l : List Nat) : Int := l.foldl (fun a p => min a (-m p 5)) a
def hiF (m : Tb) (a : Int) (l : List Nat) : Int := l.foldl (fun a p => max a (m 5 p)) a
def loS (m : Tb) (N : Nat) : Int := loF m (-m 0 5) (List.range' 0 N)
def hiS (m : Tb) (N : Nat) : Int := hiF m (m 5 0) (List.range' 0 N)
theorem loF_le (m : Tb) : ∀ (l : List Nat) (a : Int), loF m a l ≤ a ∧ ∀ p ∈ l, loF m a l ≤ -m p 5
  | [], a => ⟨Int.le_refl _, fun _ h => by cases h⟩
  | q :: l, a => by
    obtain ⟨h1, h2⟩ := loF_le m l (min a (-m q 5))
    have e : loF m a (q :: l) = loF m (min a (-m q 5)) l := rfl
    refine ⟨by omega, fun p hp => ?_⟩
    rcases List.mem_cons.1 hp with rfl | hp
    · omega
    · rw [e]; exact h2 p hp
theorem hiF_le (m : Tb) : ∀ (l : List Nat) (a : Int), a ≤ hiF m a l ∧ ∀ p ∈ l, m 5 p ≤ hiF m a l
  | [], a => ⟨Int.le_refl _, fun _ h => by cases h⟩
  | q :: l, a => by
    obtain ⟨h1, h2⟩ := hiF_le m l (max a (m 5 q))
    have e : hiF m a (q :: l) = hiF m (max a (m 5 q)) l := rfl
    refine ⟨by omega, fun p hp => ?_⟩
    rcases List.mem_cons.1 hp with rfl | hp
    · omega
    · rw [e]; exact h2 p hp
theorem loF_is (m : Tb) : ∀ (l : List Nat) (a : Int), loF m a l = a ∨ ∃ p ∈ l, loF m a l = -m p 5
  | [], a => .inl rfl
  | q :: l, a => by
    have e : loF m a (q :: l) = loF m (min a (-m q 5)) l := rfl
    rcases loF_is m l (min a (-m q 5)) with h | ⟨p, hp, h⟩
    · rcases Int.le_total a (-m q 5) with h1 | h1
      · left; omega
      · exact .inr ⟨q, .head _, by omega⟩
    · exact .inr ⟨p, .tail _ hp, by omega⟩
theorem hiF_is (m : Tb) : ∀ (l : List Nat) (a : Int), hiF m a l = a ∨ ∃ p ∈ l, hiF m a l = m 5 p
  | [], a => .inl rfl
  | q :: l, a => by
    have e : hiF m a (q :: l) = hiF m (max a (m 5 q)) l := rfl
    rcases hiF_is m l (max a (m 5 q)) with h | ⟨p, hp, h⟩
    · rcases Int.le_total a (m 5 q) with h1 | h1
      · exact .inr ⟨q, .head _, by omega⟩
      · left; omega
    · exact .inr ⟨p, .tail _ hp, by omega⟩
theorem loS_le (m : Tb) {N p : Nat} (hp : p < N) : loS m N ≤ -m p 5 := (loF_le m _ _).2 p (List.mem_range'_1.2 ⟨Nat.zero_le _, by omega⟩)
theorem hiS_le (m : Tb) {N p : Nat} (hp : p < N) : m 5 p ≤ hiS m N := (hiF_le m _ _).2 p (List.mem_range'_1.2 ⟨Nat.zero_le _, by omega⟩)
theorem loS_is (m : Tb) {N : Nat} (hN : 1 ≤ N) : ∃ p, p < N ∧ loS m N = -m p 5 := by
  rcases loF_is m (List.range' 0 N) (-m 0 5) with h | ⟨p, hp, h⟩
  · exact ⟨0, by omega, h⟩
  · exact ⟨p, by have := (List.mem_range'_1.1 hp).2; omega, h⟩
theorem hiS_is (m : Tb) {N : Nat} (hN : 1 ≤ N) : ∃ p, p < N ∧ hiS m N = m 5 p := by
  rcases hiF_is m (List.range' 0 N) (m 5 0) with h | ⟨p, hp, h⟩
  · exact ⟨0, by omega, h⟩
  · exact ⟨p, by have := (List.mem_range'_1.1 hp).2; omega, h⟩
def shL (m : Tb) (N : Nat) : Int := loS m N / 10
def shH (m : Tb) (N : Nat) : Int := -(-hiS m N / 10)
theorem sh_near {N : Nat} {fs : List F3} {ts : List T4} (h : BOk N fs ts) (hs : isO N fs ts = true) : -60 ≤ loS (T6 N fs ts) N ∧ loS (T6 N fs ts) N ≤ hiS (T6 N fs ts) N ∧ hiS (T6 N fs ts) N ≤ 60 := by
  obtain ⟨p, hp, h1⟩ := loS_is (T6 N fs ts) h.one
  obtain ⟨q, hq, h2⟩ := hiS_is (T6 N fs ts) h.one
  have n1 := T6_near h hs (.inl hp) (.inr rfl : Real N 5)
  have n2 := T6_near h hs (.inr rfl : Real N 5) (.inl hq)
  have n3 := loS_le (T6 N fs ts) hq
  have n4 := T6_turn h hs (.inr rfl : Real N 5) (.inl hq)
  have := n1.2.2.2 rfl
  have := n2.2.2.1 rfl
  omega
theorem loF_congr {m m' : Tb} : ∀ (l : List Nat) (a : Int), (∀ p ∈ l, m p 5 = m' p 5) → loF m a l = loF m' a l
  | [], a, _ => rfl
  | q :: l, a, h => by
    show loF m (min a (-m q 5)) l = loF m' (min a (-m' q 5)) l
    rw [h q (.head _)]
    exact loF_congr l _ fun p hp => h p (.tail _ hp)
theorem hiF_congr {m m' : Tb} : ∀ (l : List Nat) (a : Int), (∀ p ∈ l, m 5 p = m' 5 p) → hiF m a l = hiF m' a l
  | [], a, _ => rfl
  | q :: l, a, h => by
    show hiF m (max a (m 5 q)) l = hiF m' (max a (m' 5 q)) l
    rw [h q (.head _)]
    exact hiF_congr l _ fun p hp => h p (.tail _ hp)
theorem loS_congr {m m' : Tb} {N : Nat} (hN : 1 ≤ N) (h : ∀ p, p < N → m p 5 = m' p 5) : loS m N = loS m' N := by
  unfold loS
  rw [h 0 hN]
  exact loF_congr _ _ fun p hp => h p (by have := (List.mem_range'_1.1 hp).2; omega)
theorem hiS_congr {m m' : Tb} {N : Nat} (hN : 1 ≤ N) (h : ∀ p, p < N → m 5 p = m' 5 p) : hiS m N = hiS m' N := by
  unfold hiS
  rw [h 0 hN]
  exact hiF_congr _ _ fun p hp => h p (by have := (List.mem_range'_1.1 hp).2; omega)
def allS (S : Int → Bool) (a b : Int) : Bool := (List.range' 0 (b - a + 1).toNat).all fun (i : Nat) => S (a + i)
theorem allS_iff {S : Int → Bool} {a b : Int} : allS S a b = true ↔ ∀ n, a ≤ n → n ≤ b → S n = true := by
  simp only [allS, List.all_eq_true, List.mem_range'_1]
  constructor
  · intro h n h1 h2
    have := h (n - a).toNat ⟨Nat.zero_le _, by omega⟩
    rwa [show a + ((n - a).toNat : Int) = n by omega] at this
  · intro h i hi
    exact h _ (by omega) (by omega)
theorem allS_nil {S : Int → Bool} {a b : Int} (h : b < a) : allS S a b = true := allS_iff.2 fun n h1 h2 => by omega
theorem allS_step {S : Int → Bool} {a b : Int} (h : a ≤ b) : allS S a b = (S a && allS S (a + 1) b) := by
  rw [Bool.eq_iff_iff, Bool.and_eq_true, allS_iff, allS_iff]
  constructor
  · exact fun hh => ⟨hh a (Int.le_refl _) h, fun n h1 h2 => hh n (by omega) h2⟩
  · rintro ⟨h0, hh⟩ n h1 h2
    rcases Int.lt_or_eq_of_le h1 with h3 | rfl
    · exact hh n (by omega) h2
    · exact h0
def keysF (P : Int → Bool) (k : Int) : Nat → List Int
  | 0 => []
  | n + 1 => (if P k then [k] else []) ++ keysF P (k + 1) n
def keysL (P : Int → Bool) : List Int := keysF P (-6) 13
theorem mem_keysF {P : Int → Bool} {y : Int} : ∀ (n : Nat) (k : Int), y ∈ keysF P k n ↔ k ≤ y ∧ y < k + n ∧ P y = true
  | 0, k => by simp only [keysF, List.not_mem_nil, false_iff]; omega
  | n + 1, k => by
    rw [keysF, List.mem_append, mem_keysF n (k + 1)]
    by_cases h : P k = true
    · simp only [h, if_true, List.mem_singleton]
      constructor
      · rintro (rfl | ⟨h1, h2, h3⟩)
        · exact ⟨Int.le_refl _, by omega, h⟩
        · exact ⟨by omega, by omega, h3⟩
      · rintro ⟨h1, h2, h3⟩
        rcases Int.lt_or_eq_of_le h1 with h4 | rfl
        · exact .inr ⟨by omega, by omega, h3⟩
        · exact .inl rfl
    · rw [if_neg h]
      constructor
      · rintro (h1 | ⟨h1, h2, h3⟩)
        · cases h1
        · exact ⟨by omega, by omega, h3⟩
      · rintro ⟨h1, h2, h3⟩
        rcases Int.lt_or_eq_of_le h1 with h4 | rfl
        · exact .inr ⟨by omega, by omega, h3⟩
        · exact absurd h3 h
theorem mem_keysL {P : Int → Bool} {y : Int} : y ∈ keysL P ↔ -6 ≤ y ∧ y ≤ 6 ∧ P y = true := by
  rw [keysL, mem_keysF]
  constructor
  · rintro ⟨h1, h2, h3⟩; exact ⟨h1, by omega, h3⟩
  · rintro ⟨h1, h2, h3⟩; exact ⟨h1, by omega, h3⟩
theorem keysF_len {P : Int → Bool} : ∀ (n : Nat) (k : Int), (keysF P k n).length ≤ n
  | 0, _ => Nat.le_refl _
  | n + 1, k => by
    have := keysF_len (P := P) n (k + 1)
    rw [keysF, List.length_append]
    split <;> simp only [List.length_cons, List.length_nil] <;> omega
theorem keysF_up {P : Int → Bool} : ∀ (n : Nat) (k : Int), (keysF P k n).Pairwise (· < ·)
  | 0, _ => .nil
  | n + 1, k => by
    have h := keysF_up (P := P) n (k + 1)
    rw [keysF]
    split
    · exact List.Pairwise.cons (fun y hy => by have := (mem_keysF n (k + 1)).1 hy; omega) h
    · exact h
theorem keysF_congr {P Q : Int → Bool} : ∀ (n : Nat) (k : Int), (∀ y, k ≤ y → y < k + n → P y = Q y) → keysF P k n = keysF Q k n
  | 0, _, _ => rfl
  | n + 1, k, h => by
    rw [keysF, keysF, h k (Int.le_refl _) (by omega), keysF_congr n (k + 1) fun y h1 h2 => h y (by omega) (by omega)]
def nearF (l : List Int) (b : Int) : Int := l.foldl (fun b k => if max k (-k) < max b (-b) then k else b) b
def bestF (l : List Int) (b : Int) : Int := l.foldl (fun b k => if max k (-k) < max b (-b) ∨ (max k (-k) = max b (-b) ∧ k < b) then k else b) b
theorem best_near : ∀ (l : List Int) (b : Int), l.Pairwise (· < ·) → (∀ y ∈ l, b ≤ y) → bestF l b = nearF l b
  | [], b, _, _ => rfl
  | k :: l, b, hp, hb => by
    rw [List.pairwise_cons] at hp
    have h0 := hb k (.head _)
    have e : (max k (-k) < max b (-b) ∨ (max k (-k) = max b (-b) ∧ k < b)) ↔ max k (-k) < max b (-b) := by
      constructor
      · rintro (h | h)
        · exact h
        · omega
      · exact .inl
    show bestF l (if _ then k else b) = nearF l (if _ then k else b)
    simp only [e]
    refine best_near l _ hp.2 fun y hy => ?_
    have := hp.1 y hy
    have := hb y (.tail _ hy)
    split <;> omega
end Go.Organ

namespace Go.Organ
def rowF (t i : Nat) : Nat → Nat → Tb → Tb
  | 0, _, m => m
  | n + 1, k, m => rowF t i n (k + 1) (cell t m (i, k))
def phF (t : Nat) : Nat → Nat → Tb → Tb
  | 0, _, m => m
  | n + 1, i, m => phF t n (i + 1) (rowF t i 6 0 m)
def clF : Nat → Nat → Tb → Tb
  | 0, _, m => m
  | n + 1, t, m => clF n (t + 1) (phF t 6 0 m)
theorem rowF_fold (t i : Nat) : ∀ (n k : Nat) (m : Tb), rowF t i n k m = (List.range' k n).foldl (fun m k => cell t m (i, k)) m
  | 0, k, m => rfl
  | n + 1, k, m => by rw [rowF, rowF_fold t i n (k + 1), List.range'_succ, List.foldl_cons]
theorem phF_fold (t : Nat) : ∀ (n i : Nat) (m : Tb), phF t n i m = (List.range' i n).foldl (fun m i => rowF t i 6 0 m) m
  | 0, k, m => rfl
  | n + 1, k, m => by rw [phF, phF_fold t n (k + 1), List.range'_succ, List.foldl_cons]
theorem clF_fold : ∀ (n t : Nat) (m : Tb), clF n t m = (List.range' t n).foldl (fun m t => phF t 6 0 m) m
  | 0, k, m => rfl
  | n + 1, k, m => by rw [clF, clF_fold n (k + 1), List.range'_succ, List.foldl_cons]
theorem ph_is (t : Nat) (m : Tb) : phF t 6 0 m = phase 6 m t := by
  rw [phF_fold, phase, cells, List.foldl_flatMap]
  have : (fun (m : Tb) i => rowF t i 6 0 m) = fun m i => ((List.range' 0 6).map fun k => (i, k)).foldl (cell t) m := by
    funext m i
    rw [rowF_fold, List.foldl_map]
  rw [this]
theorem cl_is (m : Tb) : clF 6 0 m = close 6 m := by
  rw [clF_fold, close]
  have : (fun (m : Tb) t => phF t 6 0 m) = phase 6 := by
    funext m t
    exact ph_is t m
  rw [this]
def Hi (m : Tb) : Prop := ∀ i k, i < 6 → k < 6 → m i k ≤ 1048576
def Lo (L : Int) (m : Tb) : Prop := ∀ i k, i < 6 → k < 6 → L ≤ m i k
theorem Hi.cell {m : Tb} (h : Hi m) (t : Nat) (p : Nat × Nat) : Hi (cell t m p) := fun i k hi hk => Int.le_trans (cell_le t m p i k) (h i k hi hk)
theorem rowF_low {t i : Nat} {L : Int} (ht : t < 6) (hi : i < 6) (hL : L ≤ 0) : ∀ (n k : Nat) (m : Tb), k + n = 6 → Low t L m (6 * i + k) → Hi m → Low t L (rowF t i n k m) (6 * (i + 1)) ∧ Hi (rowF t i n k m)
  | 0, k, m, hk, h, hh => by
    obtain rfl : k = 6 := by omega
    exact ⟨by rw [show 6 * (i + 1) = 6 * i + 6 by omega]; exact h, hh⟩
  | n + 1, k, m, hk, h, hh => rowF_low ht hi hL n (k + 1) _ (by omega) (h.next ht hi (by omega) hL) (hh.cell t _)
theorem phF_low {t : Nat} {L : Int} (ht : t < 6) (hL : L ≤ 0) : ∀ (n i : Nat) (m : Tb), i + n = 6 → Low t L m (6 * i) → Hi m → Low t L (phF t n i m) 36 ∧ Hi (phF t n i m)
  | 0, i, m, hi, h, hh => by
    obtain rfl : i = 6 := by omega
    exact ⟨h, hh⟩
  | n + 1, i, m, hi, h, hh => by
    obtain ⟨h1, h2⟩ := rowF_low ht (by omega : i < 6) hL 6 0 m (by omega) h hh
    exact phF_low ht hL n (i + 1) _ (by omega) h1 h2
theorem ph_lo {t : Nat} {L : Int} (ht : t < 6) (hL : L ≤ 0) {m : Tb} (h : Lo L m) (hh : Hi m) : Lo (6 * L) (phF t 6 0 m) ∧ Hi (phF t 6 0 m) := by
  obtain ⟨h1, h2⟩ := phF_low ht hL 6 0 m (by omega) (.start t hL h) hh
  exact ⟨fun i k hi hk => h1.done hL i k hi hk, h2⟩
def fillR (m : Tb) (i : Nat) (r : Nat → Int) : Tb := fun a b => if a = i then r b else m a b
theorem fillR_upd (m : Tb) (i k : Nat) (r : Nat → Int) (v : Int) : upd (fillR m i r) i k v = fillR m i fun b => if b = k then v else r b := by
  funext a b
  simp only [upd, fillR]
  by_cases h : a = i
  · simp only [h, true_and, if_true]
  · simp only [h, false_and, if_false]
def rowAt (l : PM) (i k : Nat) : Nat → Int := fun b => if b < k then rowM l i b else 1048576
theorem rowAt_none {l : PM} {i k : Nat} (h : l.get ((i : Int), (k : Int)) = none) : rowAt l i k = rowAt l i (k + 1) := by
  funext b
  simp only [rowAt]
  by_cases h1 : b = k
  · subst h1; simp [rowM, h]
  · have : b < k ↔ b < k + 1 := by omega
    simp only [this]
theorem rowAt_some {l : PM} {i k : Nat} {v : Int} (h : l.get ((i : Int), (k : Int)) = some v) : (fun b => if b = k then v else rowAt l i k b) = rowAt l i (k + 1) := by
  funext b
  simp only [rowAt]
  by_cases h1 : b = k
  · subst h1; simp [rowM, h]
  · have : b < k ↔ b < k + 1 := by omega
    simp only [this, h1, if_false]
def half (l : PM) (i : Nat) : Tb := fun a b => if a < i then ofM l a b else 0
theorem half_zero (l : PM) : half l 0 = fun _ _ => 0 := by funext a b; simp [half]
theorem half_six (l : PM) : flat (half l 6) = flat (ofM l) := flat_ext fun i k hi hk => by simp [half, hi]
theorem half_next (l : PM) (i : Nat) : flat (fillR (half l i) i (fun b => if b = i ∧ told l i = true then 0 else rowAt l i 6 b)) = flat (half l (i + 1)) := flat_ext fun a b ha hb => by
  simp only [fillR, half, rowAt, ofM, hb, if_true]
  by_cases h : a = i
  · subst h
    have : (b = a ∧ told l a = true) ↔ (a = b ∧ told l a = true) := by
      constructor
      · rintro ⟨h1, h2⟩; exact ⟨h1.symm, h2⟩
      · rintro ⟨h1, h2⟩; exact ⟨h1.symm, h2⟩
    simp only [this, if_true, show a < a + 1 by omega]
  · have : a < i ↔ a < i + 1 := by omega
    simp only [h, if_false, this]
theorem told_flat (l : PM) (i : Nat) : told l i = ((List.range' 0 6).map fun k => rowAt l i 6 k).any fun n => n != 1048576 := by
  simp only [told, rowAt, List.any_map]
  rfl
end Go.Organ
