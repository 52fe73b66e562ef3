/- This text shows one note more: plain. No conditions of its own. -/
import Derived.Test.YtckbmdbebmkbaaaDoorPlainC
set_option linter.unusedSimpArgs false
set_option linter.unusedVariables false
namespace Go.Office
open Go.Least (sel wrongG refG chooseG bitsL shorterL incFrom)
def Bk.more (b : Bk) (n : Nt) : Bk := b.note (b.ns ++ [n])
section
variable {b : Bk}
def fitN (b : Bk) (n : Nt) (q : List Int) : Bool := decide ((b.at q n.use.toNat n.day.toNat).chief = n.chief)
theorem mem_more {n : Nt} {q : List Int} : q ∈ (b.more n).tr ↔ q ∈ b.tr ∧ fitN b n q = true := by
  unfold Bk.more fitN
  rw [mem_note, mem_tr, decide_eq_true_eq]
  constructor
  · rintro ⟨h1, h2⟩
    exact ⟨⟨h1, fun x hx => h2 x (List.mem_append_left _ hx)⟩, h2 n (List.mem_append_right _ (List.mem_singleton.2 rfl))⟩
  · rintro ⟨⟨h1, h2⟩, h3⟩
    refine ⟨h1, fun x hx => ?_⟩
    rcases List.mem_append.1 hx with hx | hx
    · exact h2 x hx
    · rw [List.mem_singleton.1 hx]; exact h3
theorem more_any (b : Bk) (n : Nt) : b.tr.any (fitN b n) = !(b.more n).tr.isEmpty := by
  rw [Bool.eq_iff_iff, List.any_eq_true]
  constructor
  · rintro ⟨q, hq, hf⟩
    have := mem_more.2 ⟨hq, hf⟩
    cases h : (b.more n).tr with
    | nil => rw [h] at this; cases this
    | cons a l => rfl
  · intro h
    cases h' : (b.more n).tr with
    | nil => rw [h'] at h; cases h
    | cons a l =>
      have : a ∈ (b.more n).tr := by rw [h']; exact List.mem_cons_self ..
      have := mem_more.1 this
      exact ⟨a, this.1, this.2⟩
theorem more_chiefs {n : Nt} {u d : Nat} {c : Int} (h : c ∈ (b.more n).chiefsL u d) : c ∈ b.chiefsL u d := by
  obtain ⟨q, hq, e⟩ := List.mem_map.1 h
  rw [Bk.more, at_note] at e
  exact List.mem_map.2 ⟨q, (mem_more.1 hq).1, e⟩
theorem more_psalms {n : Nt} {u d : Nat} {c : Int} (h : c ∈ (b.more n).psalmsL u d) : c ∈ b.psalmsL u d := by
  obtain ⟨q, hq, e⟩ := List.mem_map.1 h
  rw [Bk.more, at_note] at e
  exact List.mem_map.2 ⟨q, (mem_more.1 hq).1, e⟩
theorem more_days {n : Nt} {f : Nat} {c : Int} (h : c ∈ (b.more n).daysL f) : c ∈ b.daysL f := by
  obtain ⟨q, hq, e⟩ := List.mem_map.1 h
  exact List.mem_map.2 ⟨q, (mem_more.1 hq).1, e⟩
theorem more_agree {n : Nt} {d : Nat} (hm : (b.more n).tr ≠ []) (h1 : vote (b.agreeB d) b.tr ≠ 1) : vote ((b.more n).agreeB d) (b.more n).tr = vote (b.agreeB d) b.tr := by
  have e : (b.more n).agreeB d = b.agreeB d := by
    funext q
    unfold Bk.agreeB Bk.more
    rw [at_note, at_note]
  rw [e]
  exact vote_sub hm (fun t ht => (mem_more.1 ht).1) h1
theorem more_kept {n : Nt} {u f : Nat} (hm : (b.more n).tr ≠ []) (h1 : vote (b.keptB u f) b.tr ≠ 1) : vote ((b.more n).keptB u f) (b.more n).tr = vote (b.keptB u f) b.tr := by
  have e : (b.more n).keptB u f = b.keptB u f := by
    funext q
    unfold Bk.keptB Bk.more
    rw [falls_note]
  rw [e]
  exact vote_sub hm (fun t ht => (mem_more.1 ht).1) h1
theorem more_tr_some {n : Nt} (hm : (b.more n).tr ≠ []) : b.tr ≠ [] := by
  obtain ⟨q, hq⟩ := List.exists_mem_of_ne_nil _ hm
  exact List.ne_nil_of_mem (mem_more.1 hq).1
end
section
variable {x : Bk}
theorem wrong_more (hx : x.Ok) {h : Nt} (hm : (x.more h).Ok) (h62 : x.ns.length + 1 ≤ 62) : x.wrongL.length ≤ (x.more h).wrongL.length := by
  obtain ⟨_, h1⟩ := wrong_told hx (by omega)
  have hl : (x.more h).ns.length = x.ns.length + 1 := by simp [Bk.more, Bk.note]
  obtain ⟨_, h2⟩ := wrong_told hm (by omega)
  rw [hl] at h2
  generalize (x.more h).wrongL = w at *
  obtain ⟨s, hs, hsw⟩ := Go.Least.inc_bits (x.ns.length + 1) (by omega) w h2.inc
  -- the same, of those that there were
  have hsub : ∀ y ∈ keptN (butF (bitsL s x.ns.length)) x.ns 0, y ∈ keptN (butF w) (x.ns ++ [h]) 0 := fun y hy => by
    obtain ⟨j, hj, e1, e2⟩ := (kept_mem _ _).1 hy
    rw [Nat.zero_add] at e2
    refine (kept_mem _ _).2 ⟨j, by simp; omega, by rw [List.getElem_append_left hj]; exact e1, ?_⟩
    rw [Nat.zero_add, ← hsw, but_bits s (by omega)]
    rwa [but_bits s hj] at e2
  have hfine : x.okW (bitsL s x.ns.length) = true := by
    have h3 := h2.fine
    rw [okW_iff] at h3 ⊢
    obtain ⟨q, hq⟩ := List.exists_mem_of_ne_nil _ h3
    have hq' : q ∈ (x.note (keptN (butF w) (x.ns ++ [h]) 0)).tr := hq
    rw [mem_note] at hq'
    have : q ∈ (x.note (keptN (butF (bitsL s x.ns.length)) x.ns 0)).tr := mem_note.2 ⟨hq'.1, fun y hy => hq'.2 y (hsub y hy)⟩
    exact List.ne_nil_of_mem this
  have hlen : (bitsL s x.ns.length).length ≤ w.length := by
    rw [← hsw]
    have : ∀ (p : Nat → Bool) (n k : Nat), (sel p k n).length ≤ (sel p k (n + 1)).length := by
      intro p n
      induction n with
      | zero => intro k; simp [sel]
      | succ n ih =>
        intro k
        rw [sel, sel, List.length_append, List.length_append]
        have := ih (k + 1)
        omega
    exact this _ _ _
  obtain ⟨s', hs', hb'⟩ := Go.Least.inc_bits x.ns.length (by omega) _ (Go.Least.bits_inc s x.ns.length)
  have := h1.least s' hs' (by rw [hb']; exact hfine)
  rw [hb'] at this
  simp only [shorterL, Bool.or_eq_false_iff, decide_eq_false_iff_not] at this
  omega
end
end Go.Office
