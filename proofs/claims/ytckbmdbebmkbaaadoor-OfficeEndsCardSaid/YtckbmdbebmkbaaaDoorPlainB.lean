/- This text shows what is told of a book: plain. No conditions of its own. -/
import Derived.Test.YtckbmdbebmkbaaaDoorPlainA
set_option linter.unusedSimpArgs false
set_option linter.unusedVariables false
namespace Go.Office
section
variable {b : Bk}
theorem sg_len (q : List Int) (u : Nat) : (b.sg q u).length = b.D.toNat := sing_len ..
theorem at_some {q : List Int} {u d : Nat} (h : (d : Int) < b.D) : (b.sg q u)[d]? = some (b.at q u d) := by
  have hl : d < (b.sg q u).length := by rw [sg_len]; omega
  rw [List.getElem?_eq_getElem hl, Bk.at, List.getD_eq_getElem?_getD, List.getElem?_eq_getElem hl]
  rfl
def Bk.daysL (b : Bk) (f : Nat) : List Int := b.tr.map fun q => q.getD f (-1)
def Bk.chiefsL (b : Bk) (u d : Nat) : List Int := b.tr.map fun q => (b.at q u d).chief
def Bk.psalmsL (b : Bk) (u d : Nat) : List Int := b.tr.map fun q => (b.at q u d).psalm
def Bk.fallsL (b : Bk) (u f : Nat) : List Int := b.tr.map fun q => b.falls q u f
def Bk.keptB (b : Bk) (u f : Nat) (q : List Int) : Bool := decide (0 ≤ b.falls q u f)
def Bk.agreeB (b : Bk) (d : Nat) (q : List Int) : Bool := decide ((b.at q 0 d).chief = (b.at q 1 d).chief) && decide ((b.at q 0 d).set = (b.at q 1 d).set)
def Bk.partQ (b : Bk) (q : List Int) : Option (Int × Int × Int) := ((b.mt q 0).find? fun m => !b.same m).map fun m => (m.day, b.ruleI 0 m.y m.t, b.ruleI 1 m.y m.t)
def lt3 (p q : Int × Int × Int) : Bool := if p.1 = q.1 then (if p.2.1 = q.2.1 then decide (p.2.2 < q.2.2) else decide (p.2.1 < q.2.1)) else decide (p.1 < q.1)
def best3 (best : Option (Int × Int × Int)) (p : Option (Int × Int × Int)) : Option (Int × Int × Int) := match p, best with
  | none, b => b
  | some p, none => some p
  | some p, some c => if lt3 p c then some p else some c
def Bk.part (b : Bk) : Option (Int × Int × Int) := b.tr.foldl (fun best q => best3 best (b.partQ q)) none
theorem chief_range {q : List Int} {u d : Nat} (h : (d : Int) < b.D) : -1 ≤ (b.at q u d).chief ∧ (b.at q u d).chief < b.fs.length ∧ (0 ≤ (b.at q u d).chief → (b.at q u d).set.testBit (b.at q u d).chief.toNat = true) :=
  chief_sung _ _ _ _ d _ (at_some h)
theorem falls_of {q : List Int} {u d f : Nat} (h : (d : Int) < b.D) (hb : (b.at q u d).set.testBit f = true) : b.falls q u f = d := by
  have := falls_at (b := b) (u := u) (f := f) b.D.toNat 0 (now0 q) 0 d _ (at_some (b := b) (q := q) (u := u) h) hb
  rw [Int.zero_add] at this
  exact this
theorem falls_day (q : List Int) (u f : Nat) (h0 : 0 ≤ b.D) : b.falls q u f = -1 ∨ (0 ≤ b.falls q u f ∧ b.falls q u f < b.D ∧ q.getD f (-1) ≤ b.falls q u f) := by
  rcases falls_range (b := b) (u := u) f b.D.toNat 0 (now0 q) 0 with h | ⟨h1, h2, h3⟩
  · exact .inl h
  · right
    have e : b.falls q u f = fallsF f (b.sing u b.D.toNat 0 (now0 q) 0) 0 := rfl
    have e2 : now0 q f = q.getD f (-1) := rfl
    rw [e]; omega
theorem falls_bit {q : List Int} {u f : Nat} (h0 : 0 ≤ b.D) (h : 0 ≤ b.falls q u f) : ((b.falls q u f).toNat : Int) < b.D ∧ (b.at q u (b.falls q u f).toNat).set.testBit f = true := by
  obtain ⟨j, s, h1, h2, h3⟩ := falls_found (f := f) (b.sg q u) 0 (by show b.falls q u f ≠ -1; omega) (Int.le_refl _)
  have e : b.falls q u f = j := by
    have : b.falls q u f = 0 + (j : Int) := h3
    omega
  have hj : j < b.D.toNat := by
    have := (List.getElem?_eq_some_iff.1 h1).1
    rwa [sg_len] at this
  have hjD : (j : Int) < b.D := by omega
  rw [e, Int.toNat_natCast]
  refine ⟨hjD, ?_⟩
  rw [at_some hjD] at h1
  cases h1
  exact h2
theorem at_psalm {q : List Int} {u d : Nat} (hD : (d : Int) < b.D) (hf : 0 ≤ b.first) : -1 ≤ (b.at q u d).psalm ∧ (b.at q u d).psalm < 30 := by
  have key : ∀ (n : Nat) (e : Int) (now : Nat → Int) (ps : Int) (j : Nat) (s : Sg), (b.sing u n e now ps)[j]? = some s → -1 ≤ s.psalm ∧ s.psalm < 30 := by
    intro n
    induction n with
    | zero => intro e now ps j s h; simp [Bk.sing] at h
    | succ n ih =>
      intro e now ps j s h
      rw [Bk.sing] at h
      cases j with
      | zero =>
        simp only [List.getElem?_cons_zero, Option.some.injEq] at h
        subst h
        show -1 ≤ b.psalm u e ps _ ∧ b.psalm u e ps _ < 30
        unfold Bk.psalm
        split
        · split
          · have := Int.emod_nonneg (b.first + ps) (by decide : (30 : Int) ≠ 0)
            have := Int.emod_lt_of_pos (b.first + ps) (by decide : (0 : Int) < 30)
            omega
          · have := Int.emod_nonneg (b.first + e) (by decide : (30 : Int) ≠ 0)
            have := Int.emod_lt_of_pos (b.first + e) (by decide : (0 : Int) < 30)
            omega
        · omega
      | succ j => exact ih _ _ _ j s (by simpa using h)
  exact key _ _ _ _ d _ (at_some hD)
theorem tr_len {q : List Int} (h : q ∈ b.tr) : q.length = b.fs.length := (mem_seas.1 (mem_tr.1 h).1).1
theorem tr_day {q : List Int} (h : q ∈ b.tr) {f : Nat} (hf : f < b.fs.length) : (b.fs.getD f default).lo ≤ q.getD f (-1) ∧ q.getD f (-1) ≤ (b.fs.getD f default).hi := by
  have := (mem_seas.1 (mem_tr.1 h).1).2 f b.fs[f] (List.getElem?_eq_getElem hf)
  rwa [List.getD_eq_getElem?_getD (l := b.fs), List.getElem?_eq_getElem hf]
def Bk.note (b : Bk) (l : List Nt) : Bk := { b with ns := l }
theorem dayF_note (l : List Nt) (u : Nat) (d : Int) (now : Nat → Int) : ∀ (n k : Nat) (s : Dy), (b.note l).dayF u d now n k s = b.dayF u d now n k s
  | 0, _, _ => rfl
  | n + 1, k, s => by
    rw [Bk.dayF, Bk.dayF, dayF_note l u d now n]
    rfl
theorem day_note (l : List Nt) (u : Nat) (d : Int) (now : Nat → Int) : (b.note l).dayS u d now = b.dayS u d now := dayF_note ..
theorem sing_note (l : List Nt) (u : Nat) : ∀ (n : Nat) (d : Int) (now : Nat → Int) (ps : Int), (b.note l).sing u n d now ps = b.sing u n d now ps
  | 0, _, _, _ => rfl
  | n + 1, d, now, ps => by
    rw [Bk.sing, Bk.sing, day_note, sing_note l u n]
    rfl
theorem meet_note (l : List Nt) (u : Nat) : ∀ (n : Nat) (d : Int) (now : Nat → Int), (b.note l).meet u n d now = b.meet u n d now
  | 0, _, _ => rfl
  | n + 1, d, now => by rw [Bk.meet, Bk.meet, day_note, meet_note l u n]
theorem sg_note (l : List Nt) (q : List Int) (u : Nat) : (b.note l).sg q u = b.sg q u := sing_note ..
theorem at_note (l : List Nt) (q : List Int) (u d : Nat) : (b.note l).at q u d = b.at q u d := by unfold Bk.at; rw [sg_note]
theorem falls_note (l : List Nt) (q : List Int) (u f : Nat) : (b.note l).falls q u f = b.falls q u f := by unfold Bk.falls; rw [sg_note]
theorem mem_note {l : List Nt} {q : List Int} : q ∈ (b.note l).tr ↔ q ∈ seas b.fs ∧ ∀ x ∈ l, (b.at q x.use.toNat x.day.toNat).chief = x.chief := by
  rw [mem_tr]
  constructor
  · rintro ⟨h1, h2⟩; exact ⟨h1, fun x hx => by rw [← at_note l]; exact h2 x hx⟩
  · rintro ⟨h1, h2⟩; exact ⟨h1, fun x hx => by rw [at_note l]; exact h2 x hx⟩
end
end Go.Office

namespace Go.Office
open Go.Least (sel wrongG refG chooseG bitsL shorterL incFrom)
def keptN (out : Nat → Bool) : List Nt → Nat → List Nt
  | [], _ => []
  | t :: l, k => (if out k then [] else [t]) ++ keptN out l (k + 1)
theorem kept_mem {out : Nat → Bool} {h : Nt} : ∀ (l : List Nt) (k : Nat), h ∈ keptN out l k ↔ ∃ j, ∃ hj : j < l.length, l[j] = h ∧ out (k + j) = false
  | [], k => by simp [keptN]
  | t :: l, k => by
    rw [keptN, List.mem_append, kept_mem l (k + 1)]
    constructor
    · rintro (h1 | ⟨j, hj, h1, h2⟩)
      · cases ho : out k with
        | true => rw [ho, if_pos rfl] at h1; cases h1
        | false =>
          rw [ho, if_neg (by simp)] at h1
          exact ⟨0, by simp, (List.mem_singleton.1 h1).symm, ho⟩
      · exact ⟨j + 1, by simpa using hj, h1, by rw [show k + (j + 1) = k + 1 + j by omega]; exact h2⟩
    · rintro ⟨j, hj, h1, h2⟩
      cases j with
      | zero =>
        left
        rw [show out k = false from h2, if_neg (by simp)]
        exact List.mem_singleton.2 h1.symm
      | succ j => exact .inr ⟨j, by simpa using hj, h1, by rw [show k + 1 + j = k + (j + 1) by omega]; exact h2⟩
theorem kept_none (l : List Nt) : ∀ k, keptN (fun _ => false) l k = l := by
  induction l with
  | nil => intro k; rfl
  | cons t l ih => intro k; rw [keptN, ih]; rfl
theorem kept_congr (f g : Nat → Bool) : ∀ (l : List Nt) (k : Nat), (∀ j, k ≤ j → j < k + l.length → f j = g j) → keptN f l k = keptN g l k
  | [], _, _ => rfl
  | t :: l, k, h => by
    rw [keptN, keptN, h k (Nat.le_refl _) (by simp), kept_congr f g l (k + 1) fun j h1 h2 => h j (by omega) (by rw [List.length_cons]; omega)]
def butF (l : List Int) : Nat → Bool := fun k => decide ((k : Int) ∈ l)
theorem keptN_len (f : Nat → Bool) : ∀ (l : List Nt) (k : Nat), (keptN f l k).length ≤ l.length
  | [], _ => Nat.le_refl _
  | t :: l, k => by
    rw [keptN, List.length_append, List.length_cons]
    have := keptN_len f l (k + 1)
    split <;> simp <;> omega
theorem keptN_sub {f : Nat → Bool} {l : List Nt} {k : Nat} : ∀ y ∈ keptN f l k, y ∈ l := fun y hy => by
  obtain ⟨j, hj, h1, _⟩ := (kept_mem _ _).1 hy
  exact h1 ▸ List.getElem_mem _
def Bk.left (x : Bk) (l : List Int) : Bk := x.note (keptN (butF l) x.ns 0)
def Bk.okW (x : Bk) (l : List Int) : Bool := !(x.left l).tr.isEmpty
def Bk.wrongL (x : Bk) : List Int := (wrongG x.okW x.ns.length 0 (x.ns.length + 1)).getD []
end Go.Office

namespace Go.Office
open Go.Least (sel wrongG refG chooseG bitsL shorterL incFrom)
section
variable {x : Bk}
theorem okW_iff (l : List Int) : x.okW l = true ↔ (x.left l).tr ≠ [] := by
  unfold Bk.okW
  cases (x.left l).tr <;> simp
theorem left_nil : x.left [] = x := by
  unfold Bk.left
  have : butF [] = fun _ => false := by funext k; simp [butF]
  rw [this, kept_none]; rfl
theorem kept_all (out : Nat → Bool) : ∀ (l : List Nt) (k : Nat), (∀ j, k ≤ j → j < k + l.length → out j = true) → keptN out l k = []
  | [], _, _ => rfl
  | t :: l, k, h => by
    rw [keptN, h k (Nat.le_refl _) (by simp), kept_all out l (k + 1) fun j h1 h2 => h j (by omega) (by rw [List.length_cons]; omega)]
    rfl
theorem but_bits {T : Nat} (set : Nat) {j : Nat} (hj : j < T) : butF (bitsL set T) j = Go.Least.hasB set j := by
  rw [butF, Bool.eq_iff_iff, decide_eq_true_iff, bitsL, Go.Least.mem_sel]
  constructor
  · rintro ⟨i, h1, _, _, h2⟩
    obtain rfl : j = i := by omega
    exact h2
  · intro h; exact ⟨j, rfl, Nat.zero_le _, by omega, h⟩
theorem bare_true (hx : x.Ok) : (x.note []).tr ≠ [] := by
  have : (x.note []).tr = seas x.fs := by
    unfold Bk.tr Bk.right Bk.note
    simp
  rw [this]
  exact seas_some fun f hf => (hx.fs f hf).2.1
theorem full_true (hx : x.Ok) {T : Nat} (hT : x.ns.length = T) (h62 : T ≤ 62) : x.okW (bitsL (2 ^ T - 1) T) = true := by
  rw [okW_iff]
  have : keptN (butF (bitsL (2 ^ T - 1) T)) x.ns 0 = [] := kept_all _ _ _ fun j _ hj => by
    rw [but_bits _ (by omega)]
    have h1 : (0 : Int) ≤ (j : Int) := by omega
    have h2 : (j : Int) < 62 := by omega
    have h3 : j < T := by omega
    simp only [Go.Least.hasB, h1, h2, decide_true, Bool.true_and, Int.toNat_natCast, Nat.testBit_two_pow_sub_one, h3]
  unfold Bk.left
  rw [this]
  exact bare_true hx
theorem wrong_told (hx : x.Ok) (h62 : x.ns.length ≤ 62) : wrongG x.okW x.ns.length 0 (x.ns.length + 1) = some x.wrongL ∧ Go.Least.Told x.okW x.ns.length x.wrongL := by
  cases h : wrongG x.okW x.ns.length 0 (x.ns.length + 1) with
  | none =>
    have := Go.Least.told_none (ok := x.okW) h62 h (2 ^ x.ns.length - 1)
    rw [full_true hx rfl h62] at this
    cases this
  | some w =>
    have e : x.wrongL = w := by rw [Bk.wrongL, h]; rfl
    rw [e]
    exact ⟨rfl, Go.Least.told_some h62 h⟩
theorem wrong_nil (hx : x.Ok) (h62 : x.ns.length ≤ 62) : x.wrongL = [] ↔ x.tr ≠ [] := by
  obtain ⟨_, hT⟩ := wrong_told hx h62
  constructor
  · intro h
    have := hT.fine
    rw [h, okW_iff, left_nil] at this
    exact this
  · intro h
    have h0 : bitsL 0 x.ns.length = [] := by
      have : ∀ n k, sel (fun i => Go.Least.hasB ((0 : Nat) : Int) i) k n = [] := by
        intro n
        induction n with
        | zero => intro k; rfl
        | succ n ih => intro k; rw [sel, ih]; simp [Go.Least.hasB]
      exact this _ 0
    have := hT.least 0 (Nat.two_pow_pos _) (by rw [h0, okW_iff, left_nil]; exact h)
    rw [h0] at this
    cases hw : x.wrongL with
    | nil => rfl
    | cons a w => rw [hw] at this; simp [shorterL] at this
end
end Go.Office

namespace Go.Office
section
variable {b : Bk} {u : Nat}
def MtOk (b : Bk) (m : Mt) : Prop := m.y < b.fs.length ∧ m.t < b.fs.length
theorem dayF_met {d : Int} {now : Nat → Int} : ∀ (n k : Nat) (s : Dy), k + n = b.fs.length → DyK b d now k s → (∀ m ∈ s.mets, MtOk b m) → ∀ m ∈ (b.dayF u d now n k s).mets, MtOk b m
  | 0, _, s, _, _, h => h
  | n + 1, k, s, hk, hs, h => by
    rw [Bk.dayF]
    split
    · rename_i hd
      refine dayF_met n (k + 1) _ (by omega) (hs.come hd) fun m hm => ?_
      by_cases hc : s.chief < 0
      · rw [come_first hc] at hm
        exact h m hm
      · rw [come_next hc] at hm
        rcases List.mem_append.1 hm with hm | hm
        · exact h m hm
        · rw [List.mem_singleton.1 hm]
          have := hs.chief.2
          rcases yt_cases b s.chief.toNat k with ⟨e1, e2, _⟩ | ⟨e1, e2, _⟩
          · exact ⟨by show b.yOf s.chief.toNat k < _; rw [e1]; omega, by show b.tOf s.chief.toNat k < _; rw [e2]; omega⟩
          · exact ⟨by show b.yOf s.chief.toNat k < _; rw [e1]; omega, by show b.tOf s.chief.toNat k < _; rw [e2]; omega⟩
    · rename_i hd
      exact dayF_met n (k + 1) _ (by omega) (hs.skip hd) h
theorem meet_ok : ∀ (n : Nat) (d : Int) (now : Nat → Int), ∀ m ∈ b.meet u n d now, MtOk b m
  | 0, _, _, m, h => by cases h
  | n + 1, d, now, m, h => by
    rw [Bk.meet, List.mem_append] at h
    rcases h with h | h
    · exact dayF_met b.fs.length 0 Dy0 (Nat.zero_add _) dy0_ok (fun m hm => by cases hm) m h
    · exact meet_ok n (d + 1) _ m h
theorem dayF_mlen {d : Int} {now : Nat → Int} : ∀ (n k : Nat) (s : Dy), (b.dayF u d now n k s).mets.length ≤ s.mets.length + n
  | 0, _, s => Nat.le_refl _
  | n + 1, k, s => by
    rw [Bk.dayF]
    split
    · have := dayF_mlen (d := d) (now := now) n (k + 1) (b.come u d s k)
      have h2 : (b.come u d s k).mets.length ≤ s.mets.length + 1 := by
        by_cases hc : s.chief < 0
        · rw [come_first hc]; show s.mets.length ≤ _; omega
        · rw [come_next hc]; simp
      omega
    · have := dayF_mlen (d := d) (now := now) n (k + 1) s
      omega
theorem meet_len : ∀ (n : Nat) (d : Int) (now : Nat → Int), (b.meet u n d now).length ≤ n * b.fs.length
  | 0, _, _ => by simp [Bk.meet]
  | n + 1, d, now => by
    rw [Bk.meet, List.length_append, Nat.succ_mul]
    have h1 := meet_len n (d + 1) (moveN (b.dayS u d now).moved d now)
    have h2 : (b.dayS u d now).mets.length ≤ 0 + b.fs.length := dayF_mlen _ _ _
    omega
end
end Go.Office

namespace Go.Office
section
variable {b : Bk}
theorem mem_falls {u f : Nat} {n : Int} : n ∈ nonNeg (b.fallsL u f) ↔ ∃ q ∈ b.tr, b.falls q u f = n ∧ 0 ≤ n := by
  rw [mem_nonNeg, Bk.fallsL, List.mem_map]
  constructor
  · rintro ⟨⟨q, hq, rfl⟩, h0⟩; exact ⟨q, hq, rfl, h0⟩
  · rintro ⟨q, hq, rfl, h0⟩; exact ⟨⟨q, hq, rfl⟩, h0⟩
theorem kept_none_iff {u f : Nat} : vote (b.keptB u f) b.tr = 0 ↔ nonNeg (b.fallsL u f) = [] := by
  rw [vote_zero, List.eq_nil_iff_forall_not_mem]
  constructor
  · intro h n hn
    obtain ⟨q, hq, e, h0⟩ := mem_falls.1 hn
    have := h q hq
    rw [Bk.keptB, decide_eq_false_iff_not] at this
    omega
  · intro h q hq
    rw [Bk.keptB, decide_eq_false_iff_not]
    intro h0
    exact h _ (mem_falls.2 ⟨q, hq, rfl, h0⟩)
theorem chief_falls {q : List Int} {u d f : Nat} (hd : (d : Int) < b.D) (h : (b.at q u d).chief = f) : b.falls q u f = d := by
  obtain ⟨_, _, h3⟩ := chief_range (b := b) (q := q) (u := u) hd
  have := h3 (by omega)
  rw [h, Int.toNat_natCast] at this
  exact falls_of hd this
theorem mem_chiefs {u d : Nat} {n : Int} : n ∈ b.chiefsL u d ↔ ∃ q ∈ b.tr, (b.at q u d).chief = n := by
  rw [Bk.chiefsL, List.mem_map]
theorem chief_mem_falls {u d f : Nat} (hd : (d : Int) < b.D) (h : (f : Int) ∈ b.chiefsL u d) : (d : Int) ∈ nonNeg (b.fallsL u f) := by
  obtain ⟨q, hq, e⟩ := mem_chiefs.1 h
  exact mem_falls.2 ⟨q, hq, chief_falls hd e, by omega⟩
theorem days_pos (hb : b.Ok) {f : Nat} (hf : f < b.fs.length) : nonNeg (b.daysL f) = b.daysL f := by
  unfold nonNeg
  rw [List.filter_eq_self]
  intro n hn
  obtain ⟨q, hq, rfl⟩ := List.mem_map.1 hn
  have := tr_day hq hf
  have h2 := hb.fs (b.fs.getD f default) (by
    rw [List.getD_eq_getElem?_getD, List.getElem?_eq_getElem hf]
    exact List.getElem_mem _)
  rw [decide_eq_true_eq]; omega
theorem days_some {f : Nat} (hT : b.tr ≠ []) : b.daysL f ≠ [] := by
  unfold Bk.daysL; simpa using hT
theorem falls_ends (hb : b.Ok) {u f : Nat} (hf : f < b.fs.length) (hn : nonNeg (b.fallsL u f) ≠ []) : (ends (b.daysL f)).1 ≤ (ends (nonNeg (b.fallsL u f))).1 ∧ (ends (nonNeg (b.fallsL u f))).1 ≤ (ends (nonNeg (b.fallsL u f))).2 ∧ (ends (nonNeg (b.fallsL u f))).2 ≤ b.D - 1 := by
  obtain ⟨m1, m2⟩ := ends_mem hn
  obtain ⟨q, hq, e, h0⟩ := mem_falls.1 m1
  obtain ⟨q2, hq2, e2, h02⟩ := mem_falls.1 m2
  have hD := hb.d1
  have d1 := falls_day (b := b) q u f (by omega)
  have d2 := falls_day (b := b) q2 u f (by omega)
  have hm : q.getD f (-1) ∈ b.daysL f := List.mem_map.2 ⟨q, hq, rfl⟩
  have c1 := (ends_covers hm).1
  have c2 := (ends_covers m1).2
  omega
end
end Go.Office
