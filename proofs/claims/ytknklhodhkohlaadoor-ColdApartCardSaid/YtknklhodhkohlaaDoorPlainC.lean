/- This text shows who is moved; the other end: plain. No conditions of its own. -/
import Derived.Test.YtknklhodhkohlaaDoorPlainB
set_option linter.unusedSimpArgs false
set_option linter.unusedVariables false
namespace Go.Cold
open Go.Least (sel wrongG refG chooseG bitsL shorterL incFrom)
def moveAw (ms : List Mv) (l : List Int) (day : Int) : Aw := fun b d => awayL ms b d || (decide (day ≤ d) && decide ((b : Int) ∈ l))
def Bk.enough (x : Bk) (l : List Int) (day : Int) : Bool := x.tr.all fun t => (decide (day ≤ t.day) && moveAw x.ms l day t.bed t.day) || (List.range' 0 x.B).all fun i => decide (caughtT x.B x.D (moveAw x.ms l day) t i < day)
def Bk.okA (x : Bk) (day : Int) (l : List Int) : Bool := (l.all fun y => !awayL x.ms y.toNat day) && x.enough l day
def Bk.apartO (x : Bk) (day : Int) (rooms : Nat) : Option (List Int) := refG (fun l => decide (l.length ≤ rooms) && x.okA day l) x.B
section
variable {x : Bk}
theorem apart_told (hx : x.Ok) {day : Int} {rooms : Nat} {l : List Int} (h : x.apartO day rooms = some l) : Go.Least.Told (fun l => decide (l.length ≤ rooms) && x.okA day l) x.B l := Go.Least.ref_some (by have := hx.b5; omega) h
theorem apart_none (hx : x.Ok) {day : Int} {rooms : Nat} (h : x.apartO day rooms = none) (s : Nat) (hs : s < 2 ^ x.B) (hl : (bitsL s x.B).length ≤ rooms) : x.okA day (bitsL s x.B) = false := by
  have := Go.Least.ref_none h s hs
  simpa [hl] using this
theorem move_nil (ms : List Mv) (day : Int) : moveAw ms [] day = awayL ms := by
  funext b d
  simp [moveAw]
theorem enough_nil (hx : x.Ok) {day : Int} : x.enough [] day = true ↔ ∀ t ∈ x.tr, ∀ i, i < x.B → x.at t i < day := by
  rw [Bk.enough, move_nil]
  simp only [List.all_eq_true, Bool.or_eq_true, Bool.and_eq_true, decide_eq_true_eq, List.mem_range'_1]
  constructor
  · intro h t ht i hi
    rcases h t ht with ⟨_, h1⟩ | h1
    · rw [((mem_tr hx).1 ht).2.2.1] at h1; cases h1
    · exact h1 i ⟨Nat.zero_le _, by omega⟩
  · intro h t ht
    exact .inr fun i hi => h t ht i (by omega)
theorem okA_nil (hx : x.Ok) {day : Int} : x.okA day [] = true ↔ ∀ t ∈ x.tr, ∀ i, i < x.B → x.at t i < day := by
  rw [Bk.okA, List.all_nil, Bool.true_and, enough_nil hx]
theorem enough_of {day : Int} {l : List Int} (h : x.enough l day = true) {t : Tr} (ht : t ∈ x.tr) : (day ≤ t.day ∧ moveAw x.ms l day t.bed t.day = true) ∨ ∀ i, i < x.B → caughtT x.B x.D (moveAw x.ms l day) t i < day := by
  rw [Bk.enough, List.all_eq_true] at h
  have := h t ht
  simp only [List.all_eq_true, Bool.or_eq_true, Bool.and_eq_true, decide_eq_true_eq, List.mem_range'_1] at this
  rcases this with h1 | h1
  · exact .inl h1
  · exact .inr fun i hi => h1 i ⟨Nat.zero_le _, by omega⟩
def asideL (ms : List Mv) (l : List Int) (day : Int) : List Mv := (ms.filter fun m => !decide (m.bed ∈ l)) ++ l.map fun b => ⟨b, day⟩
theorem aside_away {ms : List Mv} {l : List Int} {day : Int} (b : Nat) (d : Int) : awayL (asideL ms l day) b d = if (b : Int) ∈ l then decide (day ≤ d) else awayL ms b d := by
  rw [Bool.eq_iff_iff, away_iff]
  simp only [asideL, List.mem_append, List.mem_filter, List.mem_map]
  by_cases hb : (b : Int) ∈ l
  · rw [if_pos hb, decide_eq_true_iff]
    constructor
    · rintro ⟨m, (⟨h1, h2⟩ | ⟨y, h1, rfl⟩), h3, h4⟩
      · rw [h3] at h2; simp [hb] at h2
      · exact h4
    · intro h
      exact ⟨⟨b, day⟩, .inr ⟨b, hb, rfl⟩, rfl, h⟩
  · rw [if_neg hb, away_iff]
    constructor
    · rintro ⟨m, (⟨h1, h2⟩ | ⟨y, h1, rfl⟩), h3, h4⟩
      · exact ⟨m, h1, h3, h4⟩
      · exact absurd (h3 ▸ h1) hb
    · rintro ⟨m, h1, h3, h4⟩
      exact ⟨m, .inl ⟨h1, by rw [h3]; simp [hb]⟩, h3, h4⟩
theorem aside_move {ms : List Mv} {l : List Int} {day : Int} (h : ∀ y ∈ l, 0 ≤ y → awayL ms y.toNat day = false) (b : Nat) (d : Int) : awayL (asideL ms l day) b d = moveAw ms l day b d := by
  rw [aside_away, moveAw]
  by_cases hb : (b : Int) ∈ l
  · rw [if_pos hb]
    have h1 := h b hb (by omega)
    rw [Int.toNat_natCast] at h1
    simp only [hb, decide_true, Bool.and_true]
    cases ha : awayL ms b d with
    | false => rfl
    | true =>
      by_cases hd : day ≤ d
      · simp [hd]
      · have := away_later ha (show d ≤ day by omega)
        rw [h1] at this
        cases this
  · rw [if_neg hb]
    simp [hb]
theorem move_more (ms : List Mv) (l : List Int) (day : Int) (b : Nat) (d : Int) (h : awayL ms b d = true) : moveAw ms l day b d = true := by
  rw [moveAw, h, Bool.true_or]
theorem caught_aside {ms : List Mv} {l : List Int} {day : Int} (h : ∀ y ∈ l, 0 ≤ y → awayL ms y.toNat day = false) {t : Tr} {B : Nat} {D : Int} (hb : t.bed < B) (i : Nat) : caughtT B D (awayL (asideL ms l day)) t i = caughtT B D (moveAw ms l day) t i :=
  line_congr (fun i d _ => aside_move h i d) hb i
theorem sooner_away {ms : List Mv} {bed : Nat} {day : Int} (h : ∀ m ∈ ms, m.bed = bed → day ≤ m.day) (b : Nat) (d : Int) (ha : awayL ms b d = true) : awayL (asideL ms [(bed : Int)] day) b d = true := by
  rw [aside_away]
  by_cases hb : (b : Int) ∈ [(bed : Int)]
  · rw [if_pos hb, decide_eq_true_iff]
    obtain ⟨m, h1, h2, h3⟩ := away_iff.1 ha
    have := h m h1 (by rw [h2]; simpa using hb)
    omega
  · rw [if_neg hb]; exact ha
def flipB (B : Nat) (n : Int) : Int := (B : Int) - 1 - n
def Bk.mir (x : Bk) : Bk := { x with begins := fun i => decide (i < x.B) && x.begins (x.B - 1 - i), ms := x.ms.map fun m => ⟨flipB x.B m.bed, m.day⟩, hs := x.hs.map fun h => ⟨flipB x.B h.bed, h.day, h.cough⟩ }
def Tr.mir (B : Nat) (t : Tr) : Tr := { t with bed := B - 1 - t.bed }
theorem mir_ok (hx : x.Ok) : x.mir.Ok := ⟨hx.b1, hx.b5, hx.d1, hx.d6, hx.u0, hx.u1, hx.o1, hx.o2, hx.o3, hx.g1, hx.g2, hx.g3, fun m hm => by
    obtain ⟨n, hn, rfl⟩ := List.mem_map.1 hm
    have := hx.ms n hn
    show 0 ≤ flipB x.B n.bed ∧ flipB x.B n.bed < x.B ∧ 1 ≤ n.day ∧ n.day ≤ x.D - 1
    unfold flipB
    omega, fun m hm => by
    obtain ⟨n, hn, rfl⟩ := List.mem_map.1 hm
    have := hx.hs n hn
    show 0 ≤ flipB x.B n.bed ∧ flipB x.B n.bed < x.B ∧ 0 ≤ n.day ∧ n.day ≤ x.D - 1
    unfold flipB
    omega, by
    obtain ⟨i, hi, hb⟩ := hx.some_
    refine ⟨x.B - 1 - i, ?_, ?_⟩
    · show x.B - 1 - i < x.B; omega
    · show (decide (x.B - 1 - i < x.B) && x.begins (x.B - 1 - (x.B - 1 - i))) = true
      rw [show x.B - 1 - (x.B - 1 - i) = i by omega, hb]
      simp; omega⟩
theorem mir_away (hx : x.Ok) {i : Nat} (hi : i < x.B) (d : Int) : awayL x.mir.ms (x.B - 1 - i) d = awayL x.ms i d := by
  rw [Bool.eq_iff_iff, away_iff, away_iff]
  constructor
  · rintro ⟨m, h1, h2, h3⟩
    obtain ⟨n, hn, rfl⟩ := List.mem_map.1 h1
    refine ⟨n, hn, ?_, h3⟩
    change flipB x.B n.bed = _ at h2
    unfold flipB at h2
    omega
  · rintro ⟨m, h1, h2, h3⟩
    refine ⟨⟨flipB x.B m.bed, m.day⟩, List.mem_map.2 ⟨m, h1, rfl⟩, ?_, h3⟩
    show flipB x.B m.bed = _
    unfold flipB
    omega
theorem mir_at (hx : x.Ok) {t : Tr} (ht : t.bed < x.B) {i : Nat} (hi : i < x.B) : x.mir.at (t.mir x.B) (x.B - 1 - i) = x.at t i :=
  line_mirror (fun j d hj => mir_away hx hj d) ht hi
theorem mir_mem (hx : x.Ok) {t : Tr} (ht : t ∈ x.tr) : t.mir x.B ∈ x.mir.tr := by
  obtain ⟨h1, h2, h3, h4⟩ := (mem_tr hx).1 ht
  rw [mem_tr (mir_ok hx)]
  have hb : x.B - 1 - (x.B - 1 - t.bed) = t.bed := by omega
  refine ⟨⟨?_, h1.2⟩, ?_, ?_, fun y hy => ?_⟩
  · show x.B - 1 - t.bed < x.B; omega
  · show (decide (x.B - 1 - t.bed < x.B) && x.begins (x.B - 1 - (x.B - 1 - t.bed))) = true
    rw [hb, h2]
    simp; omega
  · show awayL x.mir.ms (x.B - 1 - t.bed) t.day = false
    rw [mir_away hx h1.1]; exact h3
  · obtain ⟨n, hn, rfl⟩ := List.mem_map.1 hy
    have hr := hx.hs n hn
    show coughsT (x.mir.at (t.mir x.B) (flipB x.B n.bed).toNat) t.out n.day = n.cough
    have e : (flipB x.B n.bed).toNat = x.B - 1 - n.bed.toNat := by unfold flipB; omega
    rw [e, mir_at hx h1.1 (by omega)]
    exact h4 n hn
theorem mir_back (hx : x.Ok) {t : Tr} (ht : t ∈ x.mir.tr) : ∃ s ∈ x.tr, s.mir x.B = t := by
  obtain ⟨h1, h2, h3, h4⟩ := (mem_tr (mir_ok hx)).1 ht
  change t.bed < x.B ∧ _ at h1
  have hb : x.B - 1 - (x.B - 1 - t.bed) = t.bed := by omega
  have ht' : (t.mir x.B).mir x.B = t := by
    cases t
    simp only [Tr.mir] at hb ⊢
    congr 1
  have hlt : (t.mir x.B).bed < x.B := by show x.B - 1 - t.bed < x.B; omega
  refine ⟨t.mir x.B, ?_, ht'⟩
  rw [mem_tr hx]
  refine ⟨⟨hlt, h1.2⟩, ?_, ?_, fun y hy => ?_⟩
  · have h2' : (decide (t.bed < x.B) && x.begins (x.B - 1 - t.bed)) = true := h2
    simp only [Bool.and_eq_true] at h2'
    exact h2'.2
  · have := mir_away hx hlt t.day
    rw [show x.B - 1 - (t.mir x.B).bed = t.bed from hb] at this
    show awayL x.ms (t.mir x.B).bed t.day = false
    rw [← this]; exact h3
  · have hr := hx.hs y hy
    have := h4 ⟨flipB x.B y.bed, y.day, y.cough⟩ (List.mem_map.2 ⟨y, hy, rfl⟩)
    have e : (flipB x.B y.bed).toNat = x.B - 1 - y.bed.toNat := by unfold flipB; omega
    change coughsT (x.mir.at t (flipB x.B y.bed).toNat) t.out y.day = y.cough at this
    rw [e, ← ht', mir_at hx hlt (by omega)] at this
    exact this
theorem mir_ne (hx : x.Ok) : x.mir.tr ≠ [] ↔ x.tr ≠ [] := by
  constructor
  · intro h
    obtain ⟨t, ht⟩ := List.exists_mem_of_ne_nil _ h
    obtain ⟨s, hs, _⟩ := mir_back hx ht
    exact List.ne_nil_of_mem hs
  · intro h
    obtain ⟨t, ht⟩ := List.exists_mem_of_ne_nil _ h
    exact List.ne_nil_of_mem (mir_mem hx ht)
theorem mir_all (hx : x.Ok) {p q : Tr → Prop} (h : ∀ t ∈ x.tr, p t ↔ q (t.mir x.B)) : (∀ t ∈ x.tr, p t) ↔ ∀ t ∈ x.mir.tr, q t := by
  constructor
  · intro hh t ht
    obtain ⟨s, hs, rfl⟩ := mir_back hx ht
    exact (h s hs).1 (hh s hs)
  · intro hh t ht
    exact (h t ht).2 (hh _ (mir_mem hx ht))
theorem votes_eq {α β : Type} {p : α → Bool} {q : β → Bool} {l : List α} {m : List β} (hl : l ≠ []) (hm : m ≠ []) (h0 : (∀ t ∈ l, p t = false) ↔ ∀ t ∈ m, q t = false) (h2 : (∀ t ∈ l, p t = true) ↔ ∀ t ∈ m, q t = true) : votesP (cnt p l) l.length = votesP (cnt q m) m.length := by
  have r1 := votes_range (cnt p l) l.length
  have r2 := votes_range (cnt q m) m.length
  rw [← votes_none hl, ← votes_none hm] at h0
  rw [← votes_each hl, ← votes_each hm] at h2
  omega
theorem mir_ill (hx : x.Ok) (hn : x.tr ≠ []) {bed : Nat} (hb : bed < x.B) (d : Int) : x.mir.illV (x.B - 1 - bed) d = x.illV bed d := by
  have key : ∀ t ∈ x.tr, x.mir.at (t.mir x.B) (x.B - 1 - bed) = x.at t bed := fun t ht => mir_at hx ((mem_tr hx).1 ht).1.1 hb
  refine (votes_eq hn ((mir_ne hx).2 hn) ?_ ?_).symm
  · exact mir_all hx fun t ht => by rw [key t ht]
  · exact mir_all hx fun t ht => by rw [key t ht]
theorem mir_cough (hx : x.Ok) (hn : x.tr ≠ []) {bed : Nat} (hb : bed < x.B) (d : Int) : x.mir.coughV (x.B - 1 - bed) d = x.coughV bed d := by
  have key : ∀ t ∈ x.tr, coughsT (x.mir.at (t.mir x.B) (x.B - 1 - bed)) (t.mir x.B).out d = coughsT (x.at t bed) t.out d := fun t ht => by
    rw [mir_at hx ((mem_tr hx).1 ht).1.1 hb]
    rfl
  refine (votes_eq hn ((mir_ne hx).2 hn) ?_ ?_).symm
  · exact mir_all hx fun t ht => by rw [key t ht]
  · exact mir_all hx fun t ht => by rw [key t ht]
theorem mir_caught (hx : x.Ok) {bed : Nat} (hb : bed < x.B) (n : Int) : n ∈ x.mir.caughtL (x.B - 1 - bed) ↔ n ∈ x.caughtL bed := by
  rw [Bk.caughtL, Bk.caughtL, mem_days, mem_days]
  constructor
  · rintro ⟨h0, t, ht, he⟩
    obtain ⟨s, hs, rfl⟩ := mir_back hx ht
    rw [mir_at hx ((mem_tr hx).1 hs).1.1 hb] at he
    exact ⟨h0, s, hs, he⟩
  · rintro ⟨h0, t, ht, he⟩
    refine ⟨h0, _, mir_mem hx ht, ?_⟩
    rw [mir_at hx ((mem_tr hx).1 ht).1.1 hb]
    exact he
theorem ends_eq {l m : List Int} (h : ∀ n, n ∈ l ↔ n ∈ m) : ends l = ends m := by
  by_cases hl : l = []
  · subst hl
    have : m = [] := List.eq_nil_iff_forall_not_mem.2 fun n hn => by have := (h n).2 hn; cases this
    rw [this]
  · have hm : m ≠ [] := fun e => hl (List.eq_nil_iff_forall_not_mem.2 fun n hn => by have := (h n).1 hn; rw [e] at this; cases this)
    have a := ends_sub (l := l) (m := m) (fun n hn => (h n).2 hn) hm
    have b := ends_sub (l := m) (m := l) (fun n hn => (h n).1 hn) hl
    exact Prod.ext (by omega) (by omega)
theorem kept_map (f : Hd → Hd) (out : Nat → Bool) : ∀ (l : List Hd) (k : Nat), keptH out (l.map f) k = (keptH out l k).map f
  | [], k => rfl
  | t :: l, k => by
    rw [List.map_cons, keptH, keptH, kept_map f out l (k + 1), List.map_append]
    congr 1
    split <;> rfl
theorem mir_left (l : List Int) : x.mir.left l = (x.left l).mir := by
  unfold Bk.left Bk.mir
  simp only [kept_map]
theorem mir_wrong (hx : x.Ok) : x.mir.wrongL = x.wrongL := by
  have h1 : x.mir.okW = x.okW := by
    funext l
    rw [Bool.eq_iff_iff, okW_iff, okW_iff, mir_left]
    exact mir_ne (left_ok hx l)
  have h2 : x.mir.hs.length = x.hs.length := by simp [Bk.mir]
  rw [Bk.wrongL, Bk.wrongL, h1, h2]
end
end Go.Cold

namespace Go.Cold
open Go.Least (sel wrongG refG chooseG bitsL shorterL incFrom)
theorem inc_iff (T : Nat) : ∀ (l : List Int) (k : Int), incFrom T k l ↔ l.Pairwise (· < ·) ∧ ∀ y ∈ l, k ≤ y ∧ y < T
  | [], k => by simp [incFrom]
  | a :: l, k => by
    rw [incFrom, inc_iff T l (a + 1), List.pairwise_cons]
    constructor
    · rintro ⟨h1, h2, h3, h4⟩
      refine ⟨⟨fun y hy => by have := h4 y hy; omega, h3⟩, fun y hy => ?_⟩
      rcases List.mem_cons.1 hy with rfl | hy
      · exact ⟨h1, h2⟩
      · have := h4 y hy; omega
    · rintro ⟨⟨h1, h2⟩, h3⟩
      have := h3 a (List.mem_cons_self ..)
      exact ⟨this.1, this.2, h2, fun y hy => by have := h1 y hy; have := h3 y (List.mem_cons_of_mem _ hy); omega⟩
def flipL (B : Nat) (l : List Int) : List Int := (l.map (flipB B)).reverse
theorem mem_flip {B : Nat} {l : List Int} {y : Int} : y ∈ flipL B l ↔ flipB B y ∈ l := by
  simp only [flipL, List.mem_reverse, List.mem_map]
  constructor
  · rintro ⟨n, hn, rfl⟩
    have : flipB B (flipB B n) = n := by unfold flipB; omega
    rwa [this]
  · intro h
    exact ⟨_, h, by unfold flipB; omega⟩
theorem flip_flip (B : Nat) (l : List Int) : flipL B (flipL B l) = l := by
  unfold flipL
  rw [List.map_reverse, List.reverse_reverse, List.map_map]
  have : flipB B ∘ flipB B = id := by funext n; show (B : Int) - 1 - ((B : Int) - 1 - n) = n; omega
  rw [this, List.map_id]
theorem flip_len (B : Nat) (l : List Int) : (flipL B l).length = l.length := by simp [flipL]
theorem flip_inc {B : Nat} {l : List Int} (h : incFrom B 0 l) : incFrom B 0 (flipL B l) := by
  rw [inc_iff] at h ⊢
  constructor
  · unfold flipL
    rw [List.pairwise_reverse, List.pairwise_map]
    refine h.1.imp fun {a b} hab => ?_
    unfold flipB
    omega
  · intro y hy
    have := h.2 _ (mem_flip.1 hy)
    unfold flipB at this
    omega
section
variable {x : Bk}
theorem mir_move (hx : x.Ok) {l : List Int} {day : Int} {i : Nat} (hi : i < x.B) (d : Int) : moveAw x.mir.ms (flipL x.B l) day (x.B - 1 - i) d = moveAw x.ms l day i d := by
  unfold moveAw
  rw [mir_away hx hi]
  have : (((x.B - 1 - i : Nat) : Int) ∈ flipL x.B l) ↔ (i : Int) ∈ l := by
    rw [mem_flip]
    have : flipB x.B ((x.B - 1 - i : Nat) : Int) = i := by unfold flipB; omega
    rw [this]
  simp only [this]
theorem enough_iff {y : Bk} {day : Int} {l : List Int} : y.enough l day = true ↔ ∀ t ∈ y.tr, (day ≤ t.day ∧ moveAw y.ms l day t.bed t.day = true) ∨ ∀ i, i < y.B → caughtT y.B y.D (moveAw y.ms l day) t i < day := by
  constructor
  · exact fun h t ht => enough_of h ht
  · intro h
    rw [Bk.enough, List.all_eq_true]
    intro t ht
    simp only [List.all_eq_true, Bool.or_eq_true, Bool.and_eq_true, decide_eq_true_eq, List.mem_range'_1]
    rcases h t ht with h1 | h1
    · exact .inl h1
    · exact .inr fun i hi => h1 i (by omega)
theorem mir_enough (hx : x.Ok) {l : List Int} {day : Int} : x.mir.enough (flipL x.B l) day = true ↔ x.enough l day = true := by
  rw [enough_iff, enough_iff]
  refine (mir_all hx fun t ht => ?_).symm
  have hb := ((mem_tr hx).1 ht).1.1
  have e1 : moveAw x.mir.ms (flipL x.B l) day (t.mir x.B).bed (t.mir x.B).day = moveAw x.ms l day t.bed t.day := mir_move hx hb t.day
  have e2 : ∀ i, i < x.B → caughtT x.mir.B x.mir.D (moveAw x.mir.ms (flipL x.B l) day) (t.mir x.B) (x.B - 1 - i) = caughtT x.B x.D (moveAw x.ms l day) t i := fun i hi => line_mirror (fun j d hj => mir_move hx hj d) hb hi
  rw [e1]
  constructor
  · rintro (h | h)
    · exact .inl h
    · refine .inr fun i hi => ?_
      change i < x.B at hi
      have := e2 (x.B - 1 - i) (by omega)
      rw [show x.B - 1 - (x.B - 1 - i) = i by omega] at this
      rw [this]
      exact h _ (by omega)
  · rintro (h | h)
    · exact .inl h
    · refine .inr fun i hi => ?_
      rw [← e2 i hi]
      exact h _ (show x.B - 1 - i < x.B by omega)
theorem mir_okA (hx : x.Ok) {l : List Int} (hl : ∀ y ∈ l, 0 ≤ y ∧ y < x.B) {day : Int} : x.mir.okA day (flipL x.B l) = x.okA day l := by
  rw [Bool.eq_iff_iff, Bk.okA, Bk.okA, Bool.and_eq_true, Bool.and_eq_true, mir_enough hx]
  refine and_congr_left fun _ => ?_
  simp only [List.all_eq_true, Bool.not_eq_true']
  constructor
  · intro h y hy
    have hr := hl y hy
    have := h (flipB x.B y) (mem_flip.2 (by rw [show flipB x.B (flipB x.B y) = y by unfold flipB; omega]; exact hy))
    rw [show (flipB x.B y).toNat = x.B - 1 - y.toNat by unfold flipB; omega, mir_away hx (by omega)] at this
    exact this
  · intro h y hy
    rw [mem_flip] at hy
    have hr := hl _ hy
    have := h _ hy
    have e : y.toNat = x.B - 1 - (flipB x.B y).toNat := by unfold flipB at hr ⊢; omega
    rw [e, mir_away hx (by omega)]
    exact this
theorem apart_least (hx : x.Ok) {day : Int} {rooms : Nat} {m : List Int} (hi : incFrom x.B 0 m) (hm : m.length ≤ rooms) (ho : x.okA day m = true) : ∃ l, x.apartO day rooms = some l ∧ Go.Least.Told (fun l => decide (l.length ≤ rooms) && x.okA day l) x.B l ∧ shorterL m l = false := by
  have h5 := hx.b5
  obtain ⟨s, hs, rfl⟩ := Go.Least.inc_bits x.B (by omega) m hi
  cases h : x.apartO day rooms with
  | none =>
    have := apart_none hx h s hs hm
    rw [ho] at this
    cases this
  | some l =>
    have hT := apart_told hx h
    exact ⟨l, rfl, hT, hT.least s hs (by simp [hm, ho])⟩
theorem told_range {ok : List Int → Bool} {T : Nat} {l : List Int} (h : Go.Least.Told ok T l) : ∀ y ∈ l, 0 ≤ y ∧ y < T := ((inc_iff T l 0).1 h.inc).2
theorem told_ok {day : Int} {rooms : Nat} {l : List Int} (h : Go.Least.Told (fun l => decide (l.length ≤ rooms) && x.okA day l) x.B l) : l.length ≤ rooms ∧ x.okA day l = true := by
  have := h.fine
  simpa using this
theorem mir_one (hx : x.Ok) {day : Int} {rooms : Nat} {l : List Int} (h : x.apartO day rooms = some l) : ∃ m, x.mir.apartO day rooms = some m ∧ m.length ≤ l.length := by
  have hT := apart_told hx h
  obtain ⟨h1, h2⟩ := told_ok hT
  have h3 : x.mir.okA day (flipL x.B l) = true := by rw [mir_okA hx (told_range hT)]; exact h2
  obtain ⟨m, e1, _, e3⟩ := apart_least (mir_ok hx) (rooms := rooms) (flip_inc hT.inc) (by rw [flip_len]; exact h1) h3
  refine ⟨m, e1, ?_⟩
  simp only [shorterL, Bool.or_eq_false_iff, decide_eq_false_iff_not, flip_len] at e3
  omega
theorem mir_two (hx : x.Ok) {day : Int} {rooms : Nat} {m : List Int} (h : x.mir.apartO day rooms = some m) : ∃ l, x.apartO day rooms = some l ∧ l.length ≤ m.length := by
  have hT := apart_told (mir_ok hx) h
  obtain ⟨h1, h2⟩ := told_ok hT
  have hr : ∀ y ∈ m, 0 ≤ y ∧ y < (x.B : Int) := told_range hT
  have hi : incFrom x.B 0 (flipL x.B m) := flip_inc hT.inc
  have h3 : x.okA day (flipL x.B m) = true := by
    rw [← mir_okA hx ((inc_iff _ _ 0).1 hi).2, flip_flip]; exact h2
  obtain ⟨l, e1, _, e3⟩ := apart_least hx (rooms := rooms) hi (by rw [flip_len]; exact h1) h3
  refine ⟨l, e1, ?_⟩
  simp only [shorterL, Bool.or_eq_false_iff, decide_eq_false_iff_not, flip_len] at e3
  omega
theorem mir_apart (hx : x.Ok) (day : Int) (rooms : Nat) : (x.mir.apartO day rooms).isSome = (x.apartO day rooms).isSome ∧ ((x.mir.apartO day rooms).getD []).length = ((x.apartO day rooms).getD []).length := by
  cases h : x.apartO day rooms with
  | some l =>
    obtain ⟨m, e1, e2⟩ := mir_one hx h
    obtain ⟨l', e3, e4⟩ := mir_two hx e1
    rw [h] at e3
    cases e3
    rw [e1]
    exact ⟨rfl, by show m.length = l.length; omega⟩
  | none =>
    cases h' : x.mir.apartO day rooms with
    | none => exact ⟨rfl, rfl⟩
    | some m =>
      obtain ⟨l, e1, _⟩ := mir_two hx h'
      rw [h] at e1
      cases e1
theorem fewest_ok (hx : x.Ok) (hh : x.hs = []) {day : Int} (hd : x.u < day) {l : List Int} (hl : ∀ y ∈ l, 0 ≤ y → awayL x.ms y.toNat day = false) {y : Bk} (hy : y = { x with ms := asideL x.ms l day }) (hyo : y.Ok)
    (h : ∀ bed, bed < x.B → ∀ n ∈ y.caughtL bed, n < day) : x.okA day l = true ∨ ∃ z ∈ l, z < 0 := by
  by_cases hz : ∃ z ∈ l, z < 0
  · exact .inr hz
  left
  have hz' : ∀ z ∈ l, 0 ≤ z := fun z hzl => by
    by_cases h0 : 0 ≤ z
    · exact h0
    · exact absurd ⟨z, hzl, by omega⟩ hz
  rw [Bk.okA, Bool.and_eq_true]
  constructor
  · rw [List.all_eq_true]
    intro z hzl
    rw [hl z hzl (hz' z hzl)]
    rfl
  · rw [enough_iff]
    intro t ht
    right
    intro i hi
    obtain ⟨h1, h2, h3, h4⟩ := (mem_tr hx).1 ht
    have hty : t ∈ y.tr := by
      rw [mem_tr hyo]
      subst hy
      refine ⟨h1, h2, ?_, fun k hk => ?_⟩
      · show awayL (asideL x.ms l day) t.bed t.day = false
        rw [aside_away]
        by_cases hb : (t.bed : Int) ∈ l
        · rw [if_pos hb]
          have : ¬ day ≤ t.day := by omega
          simp [this]
        · rw [if_neg hb]; exact h3
      · change k ∈ x.hs at hk
        rw [hh] at hk
        cases hk
    have e : y.at t i = caughtT x.B x.D (moveAw x.ms l day) t i := by
      subst hy
      exact caught_aside hl h1.1 i
    rw [← e]
    by_cases h0 : 0 ≤ y.at t i
    · exact h i hi _ (mem_days.2 ⟨h0, t, hty, rfl⟩)
    · have := hx.u0
      omega
end
end Go.Cold
