/- This text shows what is sung: plain. No conditions of its own. -/
import Derived.Test.YtckbmdbebmkbaaaDoorLeast
set_option linter.unusedSimpArgs false
set_option linter.unusedVariables false
namespace Go.Office
def cnt {α : Type} (p : α → Bool) (l : List α) : Nat := (l.filter p).length
theorem cnt_le {α : Type} (p : α → Bool) (l : List α) : cnt p l ≤ l.length := List.length_filter_le _ _
theorem cnt_zero {α : Type} {p : α → Bool} {l : List α} : cnt p l = 0 ↔ ∀ t ∈ l, p t = false := by
  simp [cnt, List.filter_eq_nil_iff]
theorem cnt_all {α : Type} {p : α → Bool} {l : List α} : cnt p l = l.length ↔ ∀ t ∈ l, p t = true := by
  rw [cnt, List.length_filter_eq_length_iff]
def loE (l : List Int) (a : Int) : Int := l.foldl min a
def hiE (l : List Int) (a : Int) : Int := l.foldl max a
theorem loE_le : ∀ (l : List Int) (a : Int), loE l a ≤ a ∧ ∀ n ∈ l, loE l a ≤ n
  | [], a => ⟨Int.le_refl _, fun _ h => by cases h⟩
  | b :: l, a => by
    obtain ⟨h1, h2⟩ := loE_le l (min a b)
    have e : loE (b :: l) a = loE l (min a b) := rfl
    refine ⟨by rw [e]; omega, fun n hn => ?_⟩
    rcases List.mem_cons.1 hn with rfl | hn
    · rw [e]; omega
    · rw [e]; exact h2 n hn
theorem hiE_le : ∀ (l : List Int) (a : Int), a ≤ hiE l a ∧ ∀ n ∈ l, n ≤ hiE l a
  | [], a => ⟨Int.le_refl _, fun _ h => by cases h⟩
  | b :: l, a => by
    obtain ⟨h1, h2⟩ := hiE_le l (max a b)
    have e : hiE (b :: l) a = hiE l (max a b) := rfl
    refine ⟨by rw [e]; omega, fun n hn => ?_⟩
    rcases List.mem_cons.1 hn with rfl | hn
    · rw [e]; omega
    · rw [e]; exact h2 n hn
theorem loE_is : ∀ (l : List Int) (a : Int), loE l a = a ∨ loE l a ∈ l
  | [], a => .inl rfl
  | b :: l, a => by
    have e : loE (b :: l) a = loE l (min a b) := rfl
    rw [e]
    rcases loE_is l (min a b) with h | h
    · rw [h]
      rcases Int.le_total a b with h' | h'
      · left; omega
      · right; rw [show min a b = b by omega]; exact List.mem_cons_self ..
    · exact .inr (List.mem_cons_of_mem _ h)
theorem hiE_is : ∀ (l : List Int) (a : Int), hiE l a = a ∨ hiE l a ∈ l
  | [], a => .inl rfl
  | b :: l, a => by
    have e : hiE (b :: l) a = hiE l (max a b) := rfl
    rw [e]
    rcases hiE_is l (max a b) with h | h
    · rw [h]
      rcases Int.le_total a b with h' | h'
      · right; rw [show max a b = b by omega]; exact List.mem_cons_self ..
      · left; omega
    · exact .inr (List.mem_cons_of_mem _ h)
def ends (l : List Int) : Int × Int := (loE l (l.headD 0), hiE l (l.headD 0))
theorem ends_covers {l : List Int} {n : Int} (h : n ∈ l) : (ends l).1 ≤ n ∧ n ≤ (ends l).2 := ⟨(loE_le _ _).2 n h, (hiE_le _ _).2 n h⟩
theorem ends_mem {l : List Int} (h : l ≠ []) : (ends l).1 ∈ l ∧ (ends l).2 ∈ l := by
  cases l with
  | nil => exact absurd rfl h
  | cons a l =>
    have h0 : a ∈ a :: l := List.mem_cons_self ..
    constructor
    · rcases loE_is (a :: l) a with e | e
      · show loE (a :: l) a ∈ _
        rw [e]; exact h0
      · exact e
    · rcases hiE_is (a :: l) a with e | e
      · show hiE (a :: l) a ∈ _
        rw [e]; exact h0
      · exact e
theorem ends_sub {l m : List Int} (h : ∀ n ∈ m, n ∈ l) (hm : m ≠ []) : (ends l).1 ≤ (ends m).1 ∧ (ends m).2 ≤ (ends l).2 :=
  ⟨(ends_covers (h _ (ends_mem hm).1)).1, (ends_covers (h _ (ends_mem hm).2)).2⟩
def compactF : List Int → List Int
  | [] => []
  | [a] => [a]
  | a :: b :: l => if a = b then compactF (b :: l) else a :: compactF (b :: l)
theorem mem_compact {y : Int} : ∀ l : List Int, y ∈ compactF l ↔ y ∈ l
  | [] => Iff.rfl
  | [a] => Iff.rfl
  | a :: b :: l => by
    rw [compactF]
    split
    · rename_i h
      rw [mem_compact (b :: l), List.mem_cons (a := y) (b := a), h]
      constructor
      · exact .inr
      · rintro (rfl | h')
        · exact List.mem_cons_self ..
        · exact h'
    · rw [List.mem_cons, List.mem_cons (b := a), mem_compact (b :: l)]
theorem compact_up : ∀ l : List Int, l.Pairwise (· ≤ ·) → (compactF l).Pairwise (· < ·)
  | [], _ => .nil
  | [a], _ => List.pairwise_singleton _ _
  | a :: b :: l, h => by
    rw [List.pairwise_cons] at h
    rw [compactF]
    split
    · exact compact_up (b :: l) h.2
    · rename_i hne
      rw [List.pairwise_cons]
      refine ⟨fun y hy => ?_, compact_up (b :: l) h.2⟩
      rw [mem_compact] at hy
      have h1 := h.1 b (List.mem_cons_self ..)
      have h2 : b ≤ y := by
        rcases List.mem_cons.1 hy with rfl | hy
        · exact Int.le_refl _
        · exact (List.pairwise_cons.1 h.2).1 y hy
      omega
theorem up_uniq : ∀ l m : List Int, l.Pairwise (· < ·) → m.Pairwise (· < ·) → (∀ y, y ∈ l ↔ y ∈ m) → l = m
  | [], [], _, _, _ => rfl
  | [], b :: m, _, _, h => absurd ((h b).2 (List.mem_cons_self ..)) List.not_mem_nil
  | a :: l, [], _, _, h => absurd ((h a).1 (List.mem_cons_self ..)) List.not_mem_nil
  | a :: l, b :: m, hl, hm, h => by
    rw [List.pairwise_cons] at hl hm
    have h1 := (h a).1 (List.mem_cons_self ..)
    have h2 := (h b).2 (List.mem_cons_self ..)
    have hab : a = b := by
      rcases List.mem_cons.1 h1 with e | h1
      · exact e
      · rcases List.mem_cons.1 h2 with e | h2
        · exact e.symm
        · have := hm.1 a h1
          have := hl.1 b h2
          omega
    subst hab
    rw [up_uniq l m hl.2 hm.2 fun y => ?_]
    constructor
    · intro hy
      rcases List.mem_cons.1 ((h y).1 (List.mem_cons_of_mem _ hy)) with e | e
      · have := hl.1 y hy; omega
      · exact e
    · intro hy
      rcases List.mem_cons.1 ((h y).2 (List.mem_cons_of_mem _ hy)) with e | e
      · have := hm.1 y hy; omega
      · exact e
def vote {α : Type} (p : α → Bool) (l : List α) : Int := if l.any p then (if l.all p then 2 else 1) else 0
theorem vote_zero {α : Type} {p : α → Bool} {l : List α} : vote p l = 0 ↔ ∀ t ∈ l, p t = false := by
  unfold vote
  cases h : l.any p with
  | false =>
    rw [List.any_eq_false] at h
    simp only [Bool.false_eq_true, if_false, true_iff]
    exact fun t ht => by simpa using h t ht
  | true =>
    rw [List.any_eq_true] at h
    obtain ⟨t, ht, hp⟩ := h
    constructor
    · intro hh
      simp only [if_true] at hh
      split at hh <;> omega
    · intro hh
      rw [hh t ht] at hp; cases hp
theorem vote_two {α : Type} {p : α → Bool} {l : List α} (hl : l ≠ []) : vote p l = 2 ↔ ∀ t ∈ l, p t = true := by
  unfold vote
  cases h : l.all p with
  | true =>
    have h' := List.all_eq_true.1 h
    have : l.any p = true := by
      cases l with
      | nil => exact absurd rfl hl
      | cons a l => rw [List.any_eq_true]; exact ⟨a, List.mem_cons_self .., h' a (List.mem_cons_self ..)⟩
    rw [this]
    simp only [if_true, true_iff]
    exact h'
  | false =>
    constructor
    · intro hh
      split at hh <;> simp at hh
    · intro hh
      rw [List.all_eq_true.2 hh] at h; cases h
theorem vote_range {α : Type} (p : α → Bool) (l : List α) : 0 ≤ vote p l ∧ vote p l ≤ 2 := by
  unfold vote; split <;> (try split) <;> omega
theorem vote_cnt {α : Type} (p : α → Bool) {l : List α} (hl : l ≠ []) : vote p l = if cnt p l = 0 then 0 else if cnt p l = l.length then 2 else 1 := by
  by_cases h0 : cnt p l = 0
  · rw [if_pos h0, vote_zero, ← cnt_zero]; exact h0
  · rw [if_neg h0]
    by_cases h1 : cnt p l = l.length
    · rw [if_pos h1, vote_two hl, ← cnt_all]; exact h1
    · rw [if_neg h1]
      have a1 : vote p l ≠ 0 := fun h => h0 (cnt_zero.2 (vote_zero.1 h))
      have a2 : vote p l ≠ 2 := fun h => h1 (cnt_all.2 ((vote_two hl).1 h))
      have := vote_range p l
      omega
theorem vote_sub {α : Type} {p : α → Bool} {l m : List α} (hm : m ≠ []) (h : ∀ t ∈ m, t ∈ l) (h1 : vote p l ≠ 1) : vote p m = vote p l := by
  have hl : l ≠ [] := by
    cases m with
    | nil => exact absurd rfl hm
    | cons a m => exact List.ne_nil_of_mem (h a (List.mem_cons_self ..))
  have := vote_range p l
  have h2 : vote p l = 0 ∨ vote p l = 2 := by omega
  rcases h2 with h2 | h2
  · rw [h2, vote_zero]; exact fun t ht => vote_zero.1 h2 t (h t ht)
  · rw [h2, vote_two hm]; exact fun t ht => (vote_two hl).1 h2 t (h t ht)
def allI (l : List Int) : List Int := compactF (l.mergeSort fun x y => decide (x ≤ y))
theorem sorted_le (l : List Int) : (l.mergeSort fun x y => decide (x ≤ y)).Pairwise (· ≤ ·) := by
  have := List.pairwise_mergeSort (le := fun x y : Int => decide (x ≤ y)) (fun a b c h1 h2 => by simp only [decide_eq_true_eq] at *; omega) (fun a b => by simp only [Bool.or_eq_true, decide_eq_true_eq]; omega) l
  exact this.imp fun h => by simpa using h
theorem mem_allI {l : List Int} {y : Int} : y ∈ allI l ↔ y ∈ l := by
  unfold allI
  rw [mem_compact, List.mem_mergeSort]
theorem allI_up (l : List Int) : (allI l).Pairwise (· < ·) := compact_up _ (sorted_le l)
def fromM (l : List Int) : Nat → Int → List Int
  | 0, _ => []
  | n + 1, k => if k ∈ l then k :: fromM l n (k + 1) else fromM l n (k + 1)
theorem mem_fromM {l : List Int} {y : Int} : ∀ (n : Nat) (k : Int), y ∈ fromM l n k ↔ y ∈ l ∧ k ≤ y ∧ y < k + n
  | 0, k => by
    rw [fromM]
    constructor
    · intro h; cases h
    · rintro ⟨_, h1, h2⟩; omega
  | n + 1, k => by
    rw [fromM]
    have ih := mem_fromM (l := l) (y := y) n (k + 1)
    split
    · rename_i hk
      rw [List.mem_cons, ih]
      constructor
      · rintro (rfl | ⟨h1, h2, h3⟩)
        · exact ⟨hk, by omega, by omega⟩
        · exact ⟨h1, by omega, by omega⟩
      · rintro ⟨h1, h2, h3⟩
        by_cases h : y = k
        · exact .inl h
        · exact .inr ⟨h1, by omega, by omega⟩
    · rename_i hk
      rw [ih]
      constructor
      · rintro ⟨h1, h2, h3⟩; exact ⟨h1, by omega, by omega⟩
      · rintro ⟨h1, h2, h3⟩
        have : y ≠ k := fun h => hk (h ▸ h1)
        exact ⟨h1, by omega, by omega⟩
theorem fromM_up (l : List Int) : ∀ (n : Nat) (k : Int), (fromM l n k).Pairwise (· < ·)
  | 0, _ => .nil
  | n + 1, k => by
    rw [fromM]
    split
    · refine List.pairwise_cons.2 ⟨fun y hy => ?_, fromM_up l n (k + 1)⟩
      have := (mem_fromM n (k + 1)).1 hy
      omega
    · exact fromM_up l n (k + 1)
theorem allI_from {l : List Int} (h : ∀ y ∈ l, -1 ≤ y ∧ y < 30) : allI l = fromM l 31 (-1) := by
  refine up_uniq _ _ (allI_up l) (fromM_up l 31 (-1)) fun y => ?_
  rw [mem_allI, mem_fromM]
  constructor
  · intro hy
    have := h y hy
    exact ⟨hy, by omega, by omega⟩
  · exact fun hy => hy.1
theorem allI_congr {l m : List Int} (h : ∀ y, y ∈ l ↔ y ∈ m) : allI l = allI m := up_uniq _ _ (allI_up l) (allI_up m) fun y => by rw [mem_allI, mem_allI, h]
def nonNeg (l : List Int) : List Int := l.filter fun n => decide (0 ≤ n)
theorem mem_nonNeg {l : List Int} {n : Int} : n ∈ nonNeg l ↔ n ∈ l ∧ 0 ≤ n := by simp [nonNeg]
theorem ends_congr {l m : List Int} (h : ∀ y, y ∈ l ↔ y ∈ m) (hl : l ≠ []) : ends l = ends m := by
  have hm : m ≠ [] := by
    cases l with
    | nil => exact absurd rfl hl
    | cons a l => exact List.ne_nil_of_mem ((h a).1 (List.mem_cons_self ..))
  have h1 := ends_sub (l := l) (m := m) (fun n hn => (h n).2 hn) hm
  have h2 := ends_sub (l := m) (m := l) (fun n hn => (h n).1 hn) hl
  have h3 : (ends l).1 = (ends m).1 := by omega
  have h4 : (ends l).2 = (ends m).2 := by omega
  exact Prod.ext h3 h4
end Go.Office

namespace Go.Office
structure Ft where
  lo : Int
  hi : Int
  rank : Int
  deriving Inhabited
structure Rl where
  rank : Int
  to : Int
  does : Int
structure Us where
  rules : List Rl
  goes : Bool
structure Nt where
  use : Int
  day : Int
  chief : Int
structure Bk where
  D : Int
  first : Int
  fs : List Ft
  u0 : Us
  u1 : Us
  ns : List Nt
def Bk.us (b : Bk) (u : Nat) : Us := if u = 0 then b.u0 else b.u1
def Bk.rk (b : Bk) (f : Nat) : Int := (b.fs.getD f default).rank
def ruleF (ry rt : Int) : List Rl → Nat → Option (Nat × Int)
  | [], _ => none
  | r :: l, k => if r.rank = ry ∧ r.to = rt then some (k, r.does) else ruleF ry rt l (k + 1)
def Bk.rule (b : Bk) (u y t : Nat) : Option (Nat × Int) := ruleF (b.rk y) (b.rk t) (b.us u).rules 0
def Bk.ruleI (b : Bk) (u y t : Nat) : Int := match b.rule u y t with
  | none => -1
  | some p => p.1
def Bk.does (b : Bk) (u y t : Nat) : Int := match b.rule u y t with
  | none => 0
  | some p => p.2
structure Mt where
  day : Int
  y : Nat
  t : Nat
structure Dy where
  chief : Int
  set : Nat
  moved : Nat
  mets : List Mt
def addB (s y : Nat) : Nat := s ||| 2 ^ y
def clrB (s y : Nat) : Nat := (s ||| 2 ^ y) ^^^ 2 ^ y
theorem add_bit (s y i : Nat) : (addB s y).testBit i = (s.testBit i || decide (y = i)) := by
  rw [addB, Nat.testBit_or, Nat.testBit_two_pow]
theorem clr_bit (s y i : Nat) : (clrB s y).testBit i = (s.testBit i && !decide (y = i)) := by
  rw [clrB, Nat.testBit_xor, Nat.testBit_or, Nat.testBit_two_pow]
  cases s.testBit i <;> cases decide (y = i) <;> rfl
def Bk.yOf (b : Bk) (c f : Nat) : Nat := if b.rk c < b.rk f then c else f
def Bk.tOf (b : Bk) (c f : Nat) : Nat := if b.rk c < b.rk f then f else c
def Bk.come (b : Bk) (u : Nat) (d : Int) (s : Dy) (f : Nat) : Dy :=
  if s.chief < 0 then { s with chief := f, set := addB s.set f }
  else
    { chief := b.tOf s.chief.toNat f
      set := if b.does u (b.yOf s.chief.toNat f) (b.tOf s.chief.toNat f) = 2 then addB (addB s.set f) (b.yOf s.chief.toNat f) else clrB (addB s.set f) (b.yOf s.chief.toNat f)
      moved := if b.does u (b.yOf s.chief.toNat f) (b.tOf s.chief.toNat f) = 1 then addB s.moved (b.yOf s.chief.toNat f) else s.moved
      mets := s.mets ++ [⟨d, b.yOf s.chief.toNat f, b.tOf s.chief.toNat f⟩] }
def Bk.dayF (b : Bk) (u : Nat) (d : Int) (now : Nat → Int) : Nat → Nat → Dy → Dy
  | 0, _, s => s
  | n + 1, k, s => b.dayF u d now n (k + 1) (if now k = d then b.come u d s k else s)
def Dy0 : Dy := ⟨-1, 0, 0, []⟩
def Bk.dayS (b : Bk) (u : Nat) (d : Int) (now : Nat → Int) : Dy := b.dayF u d now b.fs.length 0 Dy0
structure Sg where
  chief : Int
  set : Nat
  moved : Nat
  psalm : Int
  deriving Inhabited
def Bk.own (b : Bk) (chief : Int) : Bool := decide (chief < 0) || decide (b.rk chief.toNat = 0)
def Bk.psalm (b : Bk) (u : Nat) (d ps chief : Int) : Int := if b.own chief then (if (b.us u).goes then (b.first + ps) % 30 else (b.first + d) % 30) else -1
def moveN (moved : Nat) (d : Int) (now : Nat → Int) : Nat → Int := fun i => if moved.testBit i then d + 1 else now i
def Bk.sing (b : Bk) (u : Nat) : Nat → Int → (Nat → Int) → Int → List Sg
  | 0, _, _, _ => []
  | n + 1, d, now, ps => ⟨(b.dayS u d now).chief, (b.dayS u d now).set, (b.dayS u d now).moved, b.psalm u d ps (b.dayS u d now).chief⟩ :: b.sing u n (d + 1) (moveN (b.dayS u d now).moved d now) (if b.own (b.dayS u d now).chief then ps + 1 else ps)
def Bk.meet (b : Bk) (u : Nat) : Nat → Int → (Nat → Int) → List Mt
  | 0, _, _ => []
  | n + 1, d, now => (b.dayS u d now).mets ++ b.meet u n (d + 1) (moveN (b.dayS u d now).moved d now)
def now0 (q : List Int) : Nat → Int := fun i => q.getD i (-1)
def Bk.sg (b : Bk) (q : List Int) (u : Nat) : List Sg := b.sing u b.D.toNat 0 (now0 q) 0
def Bk.mt (b : Bk) (q : List Int) (u : Nat) : List Mt := b.meet u b.D.toNat 0 (now0 q)
def Bk.at (b : Bk) (q : List Int) (u d : Nat) : Sg := (b.sg q u).getD d default
def vals (f : Ft) : List Int := (List.range (f.hi - f.lo + 1).toNat).map fun n => f.lo + (n : Nat)
def seas : List Ft → List (List Int)
  | [] => [[]]
  | f :: fs => (vals f).flatMap fun d => (seas fs).map (d :: ·)
def Bk.right (b : Bk) (q : List Int) : Bool := b.ns.all fun x => decide ((b.at q x.use.toNat x.day.toNat).chief = x.chief)
def Bk.tr (b : Bk) : List (List Int) := (seas b.fs).filter b.right
structure Bk.Ok (b : Bk) : Prop where
  d1 : 1 ≤ b.D
  d6 : b.D ≤ 6
  f0 : 0 ≤ b.first
  f29 : b.first ≤ 29
  n4 : b.fs.length ≤ 4
  fs : ∀ f ∈ b.fs, 0 ≤ f.lo ∧ f.lo ≤ f.hi ∧ f.hi < b.D ∧ f.hi - f.lo ≤ 3 ∧ 0 ≤ f.rank ∧ f.rank ≤ 3
  us : ∀ u, (b.us u).rules.length ≤ 5 ∧ ∀ r ∈ (b.us u).rules, 0 ≤ r.rank ∧ r.rank ≤ 3 ∧ 0 ≤ r.to ∧ r.to ≤ 3 ∧ 0 ≤ r.does ∧ r.does ≤ 2
  ns : ∀ x ∈ b.ns, 0 ≤ x.use ∧ x.use ≤ 1 ∧ 0 ≤ x.day ∧ x.day < b.D ∧ -1 ≤ x.chief ∧ x.chief < b.fs.length
theorem mem_vals {f : Ft} {n : Int} : n ∈ vals f ↔ f.lo ≤ n ∧ n ≤ f.hi := by
  unfold vals
  rw [List.mem_map]
  constructor
  · rintro ⟨k, hk, rfl⟩
    have := List.mem_range.1 hk
    omega
  · rintro ⟨h1, h2⟩
    exact ⟨(n - f.lo).toNat, List.mem_range.2 (by omega), by omega⟩
theorem mem_seas : ∀ {fs : List Ft} {q : List Int}, q ∈ seas fs ↔ q.length = fs.length ∧ ∀ (i : Nat) (f : Ft), fs[i]? = some f → f.lo ≤ q.getD i (-1) ∧ q.getD i (-1) ≤ f.hi
  | [], q => by
    rw [seas, List.mem_singleton]
    constructor
    · rintro rfl; exact ⟨rfl, fun i f h => by simp at h⟩
    · rintro ⟨h, _⟩; exact List.eq_nil_of_length_eq_zero h
  | f :: fs, q => by
    rw [seas, List.mem_flatMap]
    constructor
    · rintro ⟨d, hd, hq⟩
      obtain ⟨r, hr, rfl⟩ := List.mem_map.1 hq
      obtain ⟨h1, h2⟩ := mem_seas.1 hr
      refine ⟨by simp [h1], fun i g hg => ?_⟩
      cases i with
      | zero => simp only [List.getElem?_cons_zero, Option.some.injEq] at hg; subst hg; exact mem_vals.1 hd
      | succ i => exact h2 i g (by simpa using hg)
    · rintro ⟨h1, h2⟩
      cases q with
      | nil => simp at h1
      | cons d r =>
        exact ⟨d, mem_vals.2 (h2 0 f rfl), List.mem_map.2 ⟨r, mem_seas.2 ⟨by simpa using h1, fun i g hg => h2 (i + 1) g (by simpa using hg)⟩, rfl⟩⟩
theorem seas_some : ∀ {fs : List Ft}, (∀ f ∈ fs, f.lo ≤ f.hi) → seas fs ≠ []
  | [], _ => by simp [seas]
  | f :: fs, h => by
    have hf := h f (List.mem_cons_self ..)
    have ih := seas_some (fs := fs) fun g hg => h g (List.mem_cons_of_mem _ hg)
    obtain ⟨r, hr⟩ := List.exists_mem_of_ne_nil _ ih
    exact List.ne_nil_of_mem (a := f.lo :: r) (List.mem_flatMap.2 ⟨f.lo, mem_vals.2 ⟨Int.le_refl _, hf⟩, List.mem_map.2 ⟨r, hr, rfl⟩⟩)
theorem mem_tr {b : Bk} {q : List Int} : q ∈ b.tr ↔ q ∈ seas b.fs ∧ ∀ x ∈ b.ns, (b.at q x.use.toNat x.day.toNat).chief = x.chief := by
  unfold Bk.tr Bk.right
  rw [List.mem_filter, List.all_eq_true]
  simp only [decide_eq_true_eq]
theorem sing_len (b : Bk) (u : Nat) : ∀ (n : Nat) (d : Int) (now : Nat → Int) (ps : Int), (b.sing u n d now ps).length = n
  | 0, _, _, _ => rfl
  | n + 1, d, now, ps => by rw [Bk.sing, List.length_cons, sing_len b u n]
structure DyOk (b : Bk) (d : Int) (now : Nat → Int) (s : Dy) : Prop where
  chief : -1 ≤ s.chief ∧ s.chief < b.fs.length
  set : ∀ i, s.set.testBit i = true → now i = d ∧ i < b.fs.length
  moved : ∀ i, s.moved.testBit i = true → now i = d ∧ i < b.fs.length ∧ s.set.testBit i = false
  own : 0 ≤ s.chief → now s.chief.toNat = d ∧ s.set.testBit s.chief.toNat = true
  none_ : s.chief < 0 → s.set = 0 ∧ s.moved = 0
end Go.Office

namespace Go.Office
structure DyK (b : Bk) (d : Int) (now : Nat → Int) (k : Nat) (s : Dy) : Prop where
  chief : -1 ≤ s.chief ∧ s.chief < k
  set : ∀ i, s.set.testBit i = true → now i = d ∧ i < k
  moved : ∀ i, s.moved.testBit i = true → now i = d ∧ i < k ∧ s.set.testBit i = false
  own : 0 ≤ s.chief → now s.chief.toNat = d ∧ s.set.testBit s.chief.toNat = true
  none_ : s.chief < 0 → s.set = 0 ∧ s.moved = 0 ∧ ∀ i, i < k → now i ≠ d
section
variable {b : Bk} {u : Nat} {d : Int} {now : Nat → Int}
theorem dy0_ok : DyK b d now 0 Dy0 where
  chief := ⟨by decide, by decide⟩
  set i h := by simp [Dy0] at h
  moved i h := by simp [Dy0] at h
  own h := by simp [Dy0] at h
  none_ _ := ⟨rfl, rfl, fun i h => absurd h (Nat.not_lt_zero _)⟩
theorem DyK.skip {k : Nat} {s : Dy} (h : DyK b d now k s) (hk : now k ≠ d) : DyK b d now (k + 1) s where
  chief := ⟨h.chief.1, by have := h.chief.2; omega⟩
  set i hi := ⟨(h.set i hi).1, Nat.lt_succ_of_lt (h.set i hi).2⟩
  moved i hi := ⟨(h.moved i hi).1, Nat.lt_succ_of_lt (h.moved i hi).2.1, (h.moved i hi).2.2⟩
  own := h.own
  none_ hc := ⟨(h.none_ hc).1, (h.none_ hc).2.1, fun i hi => by
    rcases Nat.lt_succ_iff_lt_or_eq.1 hi with hi | rfl
    · exact (h.none_ hc).2.2 i hi
    · exact hk⟩
theorem yt_cases (b : Bk) (c f : Nat) : (b.yOf c f = f ∧ b.tOf c f = c ∧ ¬ b.rk c < b.rk f) ∨ (b.yOf c f = c ∧ b.tOf c f = f ∧ b.rk c < b.rk f) := by
  unfold Bk.yOf Bk.tOf
  by_cases h : b.rk c < b.rk f
  · right; rw [if_pos h, if_pos h]; exact ⟨rfl, rfl, h⟩
  · left; rw [if_neg h, if_neg h]; exact ⟨rfl, rfl, h⟩
theorem come_first {s : Dy} {k : Nat} (h : s.chief < 0) : b.come u d s k = { s with chief := k, set := addB s.set k } := by rw [Bk.come, if_pos h]
theorem come_next {s : Dy} {k : Nat} (h : ¬ s.chief < 0) : b.come u d s k = { chief := b.tOf s.chief.toNat k, set := if b.does u (b.yOf s.chief.toNat k) (b.tOf s.chief.toNat k) = 2 then addB (addB s.set k) (b.yOf s.chief.toNat k) else clrB (addB s.set k) (b.yOf s.chief.toNat k), moved := if b.does u (b.yOf s.chief.toNat k) (b.tOf s.chief.toNat k) = 1 then addB s.moved (b.yOf s.chief.toNat k) else s.moved, mets := s.mets ++ [⟨d, b.yOf s.chief.toNat k, b.tOf s.chief.toNat k⟩] } := by rw [Bk.come, if_neg h]
theorem DyK.come {k : Nat} {s : Dy} (h : DyK b d now k s) (hk : now k = d) : DyK b d now (k + 1) (b.come u d s k) := by
  have hsk : s.set.testBit k = false := by
    cases hb : s.set.testBit k with
    | false => rfl
    | true => exact absurd (h.set k hb).2 (Nat.lt_irrefl _)
  have hmk : s.moved.testBit k = false := by
    cases hb : s.moved.testBit k with
    | false => rfl
    | true => exact absurd (h.moved k hb).2.1 (Nat.lt_irrefl _)
  by_cases hc : s.chief < 0
  · rw [come_first hc]
    obtain ⟨n1, n2, n3⟩ := h.none_ hc
    refine { chief := ⟨by show -1 ≤ ((k : Nat) : Int); omega, by show ((k : Nat) : Int) < ((k + 1 : Nat) : Int); omega⟩, set := fun i hi => ?_, moved := fun i hi => ?_, own := fun _ => ?_, none_ := fun hh => ?_ }
    · simp only [add_bit, n1, Nat.zero_testBit, Bool.false_or, decide_eq_true_eq] at hi
      subst hi
      exact ⟨hk, Nat.lt_succ_self _⟩
    · simp only [n2, Nat.zero_testBit, Bool.false_eq_true] at hi
    · show now (((k : Nat) : Int).toNat) = d ∧ (addB s.set k).testBit (((k : Nat) : Int).toNat) = true
      rw [Int.toNat_natCast]
      exact ⟨hk, by rw [add_bit]; simp⟩
    · exact absurd hh (by show ¬ ((k : Nat) : Int) < 0; omega)
  · rw [come_next hc]
    have h0 : 0 ≤ s.chief := by omega
    obtain ⟨o1, o2⟩ := h.own h0
    have hck : s.chief.toNat < k := by have := h.chief.2; omega
    have hne : s.chief.toNat ≠ k := by omega
    generalize hcn : s.chief.toNat = c at *
    have hset2 : ∀ i, (addB s.set k).testBit i = true → now i = d ∧ i < k + 1 := fun i hi => by
      rw [add_bit, Bool.or_eq_true, decide_eq_true_eq] at hi
      rcases hi with hi | rfl
      · exact ⟨(h.set i hi).1, Nat.lt_succ_of_lt (h.set i hi).2⟩
      · exact ⟨hk, Nat.lt_succ_self _⟩
    have hy : (addB s.set k).testBit (b.yOf c k) = true ∧ (addB s.set k).testBit (b.tOf c k) = true ∧ b.yOf c k ≠ b.tOf c k := by
      rcases yt_cases b c k with ⟨e1, e2, _⟩ | ⟨e1, e2, _⟩
      · rw [e1, e2, add_bit, add_bit, o2]; exact ⟨by simp, by simp, Ne.symm hne⟩
      · rw [e1, e2, add_bit, add_bit, o2]; exact ⟨by simp, by simp, hne⟩
    obtain ⟨hy1, hy2, hyt⟩ := hy
    have hy3 := hset2 _ hy1
    have hy4 := hset2 _ hy2
    have hset3 : ∀ i, (if b.does u (b.yOf c k) (b.tOf c k) = 2 then addB (addB s.set k) (b.yOf c k) else clrB (addB s.set k) (b.yOf c k)).testBit i = true → (addB s.set k).testBit i = true := fun i hi => by
      split at hi
      · rw [add_bit, Bool.or_eq_true, decide_eq_true_eq] at hi
        rcases hi with hi | rfl
        · exact hi
        · exact hy1
      · rw [clr_bit, Bool.and_eq_true] at hi
        exact hi.1
    refine { chief := ⟨by show -1 ≤ ((b.tOf c k : Nat) : Int); omega, by show ((b.tOf c k : Nat) : Int) < ((k + 1 : Nat) : Int); omega⟩, set := fun i hi => hset2 i (hset3 i hi), moved := fun i hi => ?_, own := fun _ => ?_, none_ := fun hh => ?_ }
    · by_cases h1 : b.does u (b.yOf c k) (b.tOf c k) = 1
      · have h2 : ¬ b.does u (b.yOf c k) (b.tOf c k) = 2 := by omega
        simp only [h1, if_true, add_bit, Bool.or_eq_true, decide_eq_true_eq] at hi
        show now i = d ∧ i < k + 1 ∧ (if b.does u (b.yOf c k) (b.tOf c k) = 2 then addB (addB s.set k) (b.yOf c k) else clrB (addB s.set k) (b.yOf c k)).testBit i = false
        rw [if_neg h2, clr_bit, add_bit]
        rcases hi with hi | rfl
        · obtain ⟨m1, m2, m3⟩ := h.moved i hi
          have : ¬ k = i := by omega
          exact ⟨m1, Nat.lt_succ_of_lt m2, by simp [m3, this]⟩
        · exact ⟨hy3.1, hy3.2, by simp⟩
      · simp only [h1, if_false] at hi
        obtain ⟨m1, m2, m3⟩ := h.moved i hi
        refine ⟨m1, Nat.lt_succ_of_lt m2, ?_⟩
        show (if b.does u (b.yOf c k) (b.tOf c k) = 2 then addB (addB s.set k) (b.yOf c k) else clrB (addB s.set k) (b.yOf c k)).testBit i = false
        cases hb : (if b.does u (b.yOf c k) (b.tOf c k) = 2 then addB (addB s.set k) (b.yOf c k) else clrB (addB s.set k) (b.yOf c k)).testBit i with
        | false => rfl
        | true =>
          have := hset3 i hb
          have hki : ¬ k = i := by omega
          rw [add_bit, m3] at this
          simp [hki] at this
    · show now (((b.tOf c k : Nat) : Int).toNat) = d ∧ (if b.does u (b.yOf c k) (b.tOf c k) = 2 then addB (addB s.set k) (b.yOf c k) else clrB (addB s.set k) (b.yOf c k)).testBit (((b.tOf c k : Nat) : Int).toNat) = true
      rw [Int.toNat_natCast]
      refine ⟨hy4.1, ?_⟩
      split
      · rw [add_bit, hy2]; rfl
      · rw [clr_bit, hy2]; simp [hyt]
    · exact absurd hh (by show ¬ ((b.tOf c k : Nat) : Int) < 0; omega)
theorem dayF_ok : ∀ (n k : Nat) (s : Dy), DyK b d now k s → DyK b d now (k + n) (b.dayF u d now n k s)
  | 0, k, s, h => h
  | n + 1, k, s, h => by
    rw [Bk.dayF, show k + (n + 1) = k + 1 + n by omega]
    refine dayF_ok n (k + 1) _ ?_
    split
    · rename_i hk; exact h.come hk
    · rename_i hk; exact h.skip hk
theorem day_ok : DyK b d now b.fs.length (b.dayS u d now) := by
  have := dayF_ok (b := b) (u := u) (d := d) (now := now) b.fs.length 0 Dy0 dy0_ok
  rwa [Nat.zero_add] at this
structure Top (b : Bk) (now : Nat → Int) (d : Int) (f : Nat) : Prop where
  at_ : now f = d
  lt : ∀ i, i ≠ f → now i = d → i < b.fs.length → b.rk i < b.rk f
theorem top_come {f : Nat} (ht : Top b now d f) {k : Nat} (hkn : k < b.fs.length) {s : Dy} (h : DyK b d now k s) (hs : f < k → s.chief = f ∧ s.set.testBit f = true) (hk : now k = d) : f < k + 1 → (b.come u d s k).chief = f ∧ (b.come u d s k).set.testBit f = true := by
  intro hf
  have hnew := DyK.come (u := u) h hk
  suffices hch : (b.come u d s k).chief = f by
    have := hnew.own (by rw [hch]; omega)
    rw [hch, Int.toNat_natCast] at this
    exact ⟨hch, this.2⟩
  by_cases hc : s.chief < 0
  · rw [come_first hc]
    rcases Nat.lt_succ_iff_lt_or_eq.1 hf with h1 | rfl
    · have := (hs h1).1; omega
    · rfl
  · rw [come_next hc]
    show ((b.tOf s.chief.toNat k : Nat) : Int) = f
    have hcl : s.chief.toNat < k := by have := h.chief.2; omega
    rcases Nat.lt_succ_iff_lt_or_eq.1 hf with h1 | rfl
    · rw [(hs h1).1, Int.toNat_natCast]
      have := ht.lt k (by omega) hk hkn
      rcases yt_cases b f k with ⟨_, e2, _⟩ | ⟨_, _, e3⟩
      · rw [e2]
      · omega
    · have := ht.lt s.chief.toNat (by omega) (h.own (by omega)).1 (by omega)
      rcases yt_cases b s.chief.toNat f with ⟨_, _, e3⟩ | ⟨_, e2, _⟩
      · omega
      · rw [e2]
theorem top_dayF {f : Nat} (ht : Top b now d f) : ∀ (n k : Nat) (s : Dy), k + n = b.fs.length → DyK b d now k s → (f < k → s.chief = f ∧ s.set.testBit f = true) → f < b.fs.length → (b.dayF u d now n k s).chief = f ∧ (b.dayF u d now n k s).set.testBit f = true
  | 0, k, s, hk, h, hs, hf => by rw [Bk.dayF]; exact hs (by omega)
  | n + 1, k, s, hk, h, hs, hf => by
    rw [Bk.dayF]
    split
    · rename_i hd
      exact top_dayF ht n (k + 1) _ (by omega) (h.come hd) (top_come ht (by omega) h hs hd) hf
    · rename_i hd
      refine top_dayF ht n (k + 1) _ (by omega) (h.skip hd) (fun h1 => hs ?_) hf
      rcases Nat.lt_succ_iff_lt_or_eq.1 h1 with h1 | rfl
      · exact h1
      · exact absurd ht.at_ hd
theorem top_day {f : Nat} (ht : Top b now d f) (hf : f < b.fs.length) : (b.dayS u d now).chief = f ∧ (b.dayS u d now).set.testBit f = true :=
  top_dayF ht b.fs.length 0 Dy0 (Nat.zero_add _) dy0_ok (fun h => absurd h (Nat.not_lt_zero _)) hf
theorem none_dayF : ∀ (n k : Nat) (s : Dy), (∀ i, k ≤ i → i < k + n → now i ≠ d) → b.dayF u d now n k s = s
  | 0, k, s, _ => rfl
  | n + 1, k, s, h => by
    rw [Bk.dayF, if_neg (h k (Nat.le_refl _) (by omega))]
    exact none_dayF n (k + 1) s fun i h1 h2 => h i (by omega) (by omega)
theorem dayF_congr {now' : Nat → Int} : ∀ (n k : Nat) (s : Dy), (∀ i, k ≤ i → i < k + n → now i = now' i) → b.dayF u d now n k s = b.dayF u d now' n k s
  | 0, k, s, _ => rfl
  | n + 1, k, s, h => by
    rw [Bk.dayF, Bk.dayF, h k (Nat.le_refl _) (by omega)]
    exact dayF_congr n (k + 1) _ fun i h1 h2 => h i (by omega) (by omega)
theorem day_congr {now' : Nat → Int} (h : ∀ i, i < b.fs.length → now i = now' i) : b.dayS u d now = b.dayS u d now' := dayF_congr _ _ _ fun i _ hi => h i (by omega)
end
end Go.Office

namespace Go.Office
def fallsF (f : Nat) : List Sg → Int → Int
  | [], _ => -1
  | s :: l, d => if s.set.testBit f then d else fallsF f l (d + 1)
def Bk.falls (b : Bk) (q : List Int) (u f : Nat) : Int := fallsF f (b.sg q u) 0
section
variable {b : Bk} {u : Nat}
theorem falls_past {f : Nat} : ∀ (n : Nat) (d : Int) (now : Nat → Int) (ps : Int), now f < d → ∀ s ∈ b.sing u n d now ps, s.set.testBit f = false
  | 0, _, _, _, _, s, hs => by cases hs
  | n + 1, d, now, ps, h, s, hs => by
    have ho := day_ok (b := b) (u := u) (d := d) (now := now)
    rw [Bk.sing, List.mem_cons] at hs
    rcases hs with rfl | hs
    · cases hb : (b.dayS u d now).set.testBit f with
      | false => rfl
      | true => have := (ho.set f hb).1; omega
    · refine falls_past n (d + 1) _ _ ?_ s hs
      unfold moveN
      split
      · rename_i hm; have := (ho.moved f hm).1; omega
      · omega
theorem falls_miss {f : Nat} : ∀ (l : List Sg) (d : Int), (∀ s ∈ l, s.set.testBit f = false) → fallsF f l d = -1
  | [], _, _ => rfl
  | s :: l, d, h => by
    rw [fallsF, h s (List.mem_cons_self ..)]
    exact falls_miss l (d + 1) fun t ht => h t (List.mem_cons_of_mem _ ht)
theorem falls_range (f : Nat) : ∀ (n : Nat) (d : Int) (now : Nat → Int) (ps : Int), fallsF f (b.sing u n d now ps) d = -1 ∨ (d ≤ fallsF f (b.sing u n d now ps) d ∧ fallsF f (b.sing u n d now ps) d < d + n ∧ now f ≤ fallsF f (b.sing u n d now ps) d)
  | 0, _, _, _ => .inl rfl
  | n + 1, d, now, ps => by
    have ho := day_ok (b := b) (u := u) (d := d) (now := now)
    rw [Bk.sing, fallsF]
    split
    · rename_i h
      have := (ho.set f h).1
      right; omega
    · rcases falls_range f n (d + 1) (moveN (b.dayS u d now).moved d now) (if b.own (b.dayS u d now).chief then ps + 1 else ps) with h | ⟨h1, h2, h3⟩
      · exact .inl h
      · right
        refine ⟨by omega, by omega, ?_⟩
        unfold moveN at h3
        split at h3
        · rename_i hm; have := (ho.moved f hm).1
          unfold moveN at h1 ⊢; omega
        · exact h3
theorem falls_at {f : Nat} : ∀ (n : Nat) (d : Int) (now : Nat → Int) (ps : Int) (j : Nat) (s : Sg), (b.sing u n d now ps)[j]? = some s → s.set.testBit f = true → fallsF f (b.sing u n d now ps) d = d + j
  | 0, _, _, _, j, s, h, _ => by simp [Bk.sing] at h
  | n + 1, d, now, ps, j, s, h, hb => by
    have ho := day_ok (b := b) (u := u) (d := d) (now := now)
    rw [Bk.sing] at h ⊢
    rw [fallsF]
    cases j with
    | zero =>
      simp only [List.getElem?_cons_zero, Option.some.injEq] at h
      subst h
      rw [if_pos hb]; omega
    | succ j =>
      simp only [List.getElem?_cons_succ] at h
      split
      · rename_i h0
        exfalso
        have h1 : moveN (b.dayS u d now).moved d now f < d + 1 := by
          unfold moveN
          split
          · rename_i hm; have := (ho.moved f hm).2.2; rw [h0] at this; cases this
          · have := (ho.set f h0).1; omega
        have := falls_past n (d + 1) _ _ h1 s (List.mem_of_getElem? h)
        rw [hb] at this; cases this
      · rw [falls_at n (d + 1) _ _ j s h hb]; omega
theorem falls_found {f : Nat} : ∀ (l : List Sg) (d : Int), fallsF f l d ≠ -1 → 0 ≤ d → ∃ (j : Nat) (s : Sg), l[j]? = some s ∧ s.set.testBit f = true ∧ fallsF f l d = d + j
  | [], _, h, _ => absurd rfl h
  | s :: l, d, h, hd => by
    rw [fallsF] at h ⊢
    split
    · rename_i hb; exact ⟨0, s, rfl, hb, by omega⟩
    · rename_i hb
      rw [if_neg hb] at h
      obtain ⟨j, t, h1, h2, h3⟩ := falls_found l (d + 1) h (by omega)
      exact ⟨j + 1, t, by simpa using h1, h2, by omega⟩
theorem chief_sung : ∀ (n : Nat) (d : Int) (now : Nat → Int) (ps : Int) (j : Nat) (s : Sg), (b.sing u n d now ps)[j]? = some s → -1 ≤ s.chief ∧ s.chief < b.fs.length ∧ (0 ≤ s.chief → s.set.testBit s.chief.toNat = true)
  | 0, _, _, _, j, s, h => by simp [Bk.sing] at h
  | n + 1, d, now, ps, j, s, h => by
    have ho := day_ok (b := b) (u := u) (d := d) (now := now)
    rw [Bk.sing] at h
    cases j with
    | zero =>
      simp only [List.getElem?_cons_zero, Option.some.injEq] at h
      subst h
      exact ⟨ho.chief.1, ho.chief.2, fun h0 => (ho.own h0).2⟩
    | succ j => exact chief_sung n (d + 1) _ _ j s (by simpa using h)
theorem top_sing {f : Nat} (hf : f < b.fs.length) (hr : ∀ i, i ≠ f → i < b.fs.length → b.rk i < b.rk f) : ∀ (n : Nat) (d : Int) (now : Nat → Int) (ps : Int) (j : Nat) (s : Sg), (b.sing u n d now ps)[j]? = some s → now f = d + j → s.chief = f ∧ s.set.testBit f = true
  | 0, _, _, _, j, s, h, _ => by simp [Bk.sing] at h
  | n + 1, d, now, ps, j, s, h, hn => by
    have ho := day_ok (b := b) (u := u) (d := d) (now := now)
    rw [Bk.sing] at h
    cases j with
    | zero =>
      simp only [List.getElem?_cons_zero, Option.some.injEq] at h
      subst h
      exact top_day (d := d) ⟨by omega, fun i h1 _ h3 => hr i h1 h3⟩ hf
    | succ j =>
      refine top_sing hf hr n (d + 1) _ _ j s (by simpa using h) ?_
      unfold moveN
      split
      · rename_i hm; have := (ho.moved f hm).1; omega
      · omega
def Bk.same (b : Bk) (m : Mt) : Bool := decide (b.does 0 m.y m.t = b.does 1 m.y m.t)
theorem come_mets (s : Dy) (d : Int) (f : Nat) : ∃ A, (b.come u d s f).mets = s.mets ++ A := by
  by_cases h : s.chief < 0
  · rw [come_first h]; exact ⟨[], by simp⟩
  · rw [come_next h]; exact ⟨_, rfl⟩
theorem dayF_mets {d : Int} {now : Nat → Int} : ∀ (n k : Nat) (s : Dy), ∃ A, (b.dayF u d now n k s).mets = s.mets ++ A
  | 0, _, s => ⟨[], by simp [Bk.dayF]⟩
  | n + 1, k, s => by
    rw [Bk.dayF]
    split
    · obtain ⟨A, hA⟩ := come_mets (b := b) (u := u) s d k
      obtain ⟨B, hB⟩ := dayF_mets n (k + 1) (b.come u d s k)
      exact ⟨A ++ B, by rw [hB, hA, List.append_assoc]⟩
    · exact dayF_mets n (k + 1) s
def Diff (b : Bk) (d : Int) (l l' : List Mt) : Prop := ∃ M m A B, l = M ++ m :: A ∧ l' = M ++ m :: B ∧ (∀ x ∈ M, b.same x = true) ∧ b.same m = false ∧ m.day = d
theorem lock_day {d : Int} {now : Nat → Int} : ∀ (n k : Nat) (s : Dy), (∀ m ∈ s.mets, b.same m = true) →
    (b.dayF 0 d now n k s = b.dayF 1 d now n k s ∧ ∀ m ∈ (b.dayF 0 d now n k s).mets, b.same m = true) ∨ Diff b d (b.dayF 0 d now n k s).mets (b.dayF 1 d now n k s).mets
  | 0, k, s, h => .inl ⟨rfl, h⟩
  | n + 1, k, s, h => by
    rw [Bk.dayF, Bk.dayF]
    by_cases hk : now k = d
    · rw [if_pos hk, if_pos hk]
      by_cases hc : s.chief < 0
      · rw [come_first hc, come_first hc]
        exact lock_day n (k + 1) _ h
      · cases hs : b.same ⟨d, b.yOf s.chief.toNat k, b.tOf s.chief.toNat k⟩ with
        | true =>
          have he : b.does 0 (b.yOf s.chief.toNat k) (b.tOf s.chief.toNat k) = b.does 1 (b.yOf s.chief.toNat k) (b.tOf s.chief.toNat k) := by simpa [Bk.same] using hs
          have : b.come 0 d s k = b.come 1 d s k := by rw [come_next hc, come_next hc, he]
          rw [← this]
          refine lock_day n (k + 1) _ fun m hm => ?_
          rw [come_next hc] at hm
          rcases List.mem_append.1 hm with hm | hm
          · exact h m hm
          · rw [List.mem_singleton.1 hm]; exact hs
        | false =>
          right
          obtain ⟨A, hA⟩ := dayF_mets (b := b) (u := 0) (d := d) (now := now) n (k + 1) (b.come 0 d s k)
          obtain ⟨B, hB⟩ := dayF_mets (b := b) (u := 1) (d := d) (now := now) n (k + 1) (b.come 1 d s k)
          refine ⟨s.mets, _, A, B, ?_, ?_, h, hs, rfl⟩
          · rw [hA, come_next hc]; simp
          · rw [hB, come_next hc]; simp
    · rw [if_neg hk, if_neg hk]
      exact lock_day n (k + 1) s h
def agree (l l' : List Sg) (j : Nat) : Prop := (l.getD j default).chief = (l'.getD j default).chief ∧ (l.getD j default).set = (l'.getD j default).set
theorem lock : ∀ (n : Nat) (d : Int) (now : Nat → Int) (ps ps' : Int),
    (b.meet 0 n d now = b.meet 1 n d now ∧ (∀ m ∈ b.meet 0 n d now, b.same m = true) ∧ ∀ j, agree (b.sing 0 n d now ps) (b.sing 1 n d now ps') j) ∨
    ∃ M m A B, b.meet 0 n d now = M ++ m :: A ∧ b.meet 1 n d now = M ++ m :: B ∧ (∀ x ∈ M, b.same x = true) ∧ b.same m = false ∧ d ≤ m.day ∧ m.day < d + n ∧ ∀ j : Nat, d + j < m.day → agree (b.sing 0 n d now ps) (b.sing 1 n d now ps') j
  | 0, d, now, ps, ps' => .inl ⟨rfl, fun m hm => (by cases hm), fun j => ⟨rfl, rfl⟩⟩
  | n + 1, d, now, ps, ps' => by
    rw [Bk.meet, Bk.meet, Bk.sing, Bk.sing]
    rcases lock_day (b := b) (d := d) (now := now) b.fs.length 0 Dy0 (fun m hm => by cases hm) with ⟨h1, h2⟩ | ⟨M, m, A, B, h1, h2, h3, h4, h5⟩
    · have h1' : b.dayS 0 d now = b.dayS 1 d now := h1
      have h2' : ∀ m ∈ (b.dayS 0 d now).mets, b.same m = true := h2
      rw [← h1']
      rcases lock n (d + 1) (moveN (b.dayS 0 d now).moved d now) (if b.own (b.dayS 0 d now).chief then ps + 1 else ps) (if b.own (b.dayS 0 d now).chief then ps' + 1 else ps') with ⟨g1, g2, g3⟩ | ⟨M, m, A, B, g1, g2, g3, g4, g5, g6, g7⟩
      · left
        refine ⟨by rw [g1], fun m hm => ?_, fun j => ?_⟩
        · rcases List.mem_append.1 hm with hm | hm
          · exact h2' m hm
          · exact g2 m hm
        · cases j with
          | zero => exact ⟨rfl, rfl⟩
          | succ j => exact g3 j
      · right
        refine ⟨(b.dayS 0 d now).mets ++ M, m, A, B, by rw [g1, List.append_assoc], by rw [g2, List.append_assoc], fun x hx => ?_, g4, by omega, by omega, fun j hj => ?_⟩
        · rcases List.mem_append.1 hx with hx | hx
          · exact h2' x hx
          · exact g3 x hx
        · cases j with
          | zero => exact ⟨rfl, rfl⟩
          | succ j => exact g7 j (by omega)
    · right
      have h1' : (b.dayS 0 d now).mets = M ++ m :: A := h1
      have h2' : (b.dayS 1 d now).mets = M ++ m :: B := h2
      exact ⟨M, m, _, _, by rw [h1', List.append_assoc]; rfl, by rw [h2', List.append_assoc]; rfl, h3, h4, by omega, by omega, fun j hj => by omega⟩
end
end Go.Office
