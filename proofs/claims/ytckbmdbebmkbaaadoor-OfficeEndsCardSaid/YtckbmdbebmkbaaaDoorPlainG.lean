/- This text shows a feast whose day is known: plain. No conditions of its own. -/
import Derived.Test.YtckbmdbebmkbaaaDoorPlainF
set_option linter.unusedSimpArgs false
set_option linter.unusedVariables false
namespace Go.Office
def Bk.fix (b : Bk) (fs : List Ft) : Bk := { b with fs := fs }
section
variable {b : Bk} {fs : List Ft} (hl : fs.length = b.fs.length) (hr : ∀ i, (fs.getD i default).rank = b.rk i)
include hr
theorem rk_fix (i : Nat) : (b.fix fs).rk i = b.rk i := hr i
theorem does_fix (u y t : Nat) : (b.fix fs).does u y t = b.does u y t := by
  unfold Bk.does Bk.rule
  rw [rk_fix hr, rk_fix hr]
  rfl
theorem come_fix (u : Nat) (d : Int) (s : Dy) (f : Nat) : (b.fix fs).come u d s f = b.come u d s f := by
  unfold Bk.come Bk.yOf Bk.tOf
  simp only [rk_fix hr, does_fix hr]
theorem dayF_fix (u : Nat) (d : Int) (now : Nat → Int) : ∀ (n k : Nat) (s : Dy), (b.fix fs).dayF u d now n k s = b.dayF u d now n k s
  | 0, _, _ => rfl
  | n + 1, k, s => by
    rw [Bk.dayF, Bk.dayF, come_fix hr, dayF_fix u d now n]
include hl
theorem day_fix (u : Nat) (d : Int) (now : Nat → Int) : (b.fix fs).dayS u d now = b.dayS u d now := by
  unfold Bk.dayS
  rw [dayF_fix hr]
  show b.dayF u d now fs.length 0 Dy0 = _
  rw [hl]
theorem sing_fix (u : Nat) : ∀ (n : Nat) (d : Int) (now : Nat → Int) (ps : Int), (b.fix fs).sing u n d now ps = b.sing u n d now ps
  | 0, _, _, _ => rfl
  | n + 1, d, now, ps => by
    have ho : ∀ c, (b.fix fs).own c = b.own c := fun c => by
      unfold Bk.own
      rw [rk_fix hr]
    have hp : ∀ c, (b.fix fs).psalm u d ps c = b.psalm u d ps c := fun c => by
      unfold Bk.psalm
      rw [ho]
      rfl
    rw [Bk.sing, Bk.sing, day_fix hl hr, sing_fix u n, ho, hp]
theorem at_fix (q : List Int) (u d : Nat) : (b.fix fs).at q u d = b.at q u d := by
  have : (b.fix fs).sg q u = b.sg q u := sing_fix hl hr u b.D.toNat 0 (now0 q) 0
  unfold Bk.at
  rw [this]
end
theorem day_can {b : Bk} {f : Nat} (hf : f < b.fs.length) {v : Int} (hv : v ∈ b.daysL f) : (b.fix (b.fs.set f { b.fs[f] with lo := v, hi := v })).tr ≠ [] := by
  obtain ⟨q, hq, e⟩ := List.mem_map.1 hv
  obtain ⟨h1, h2⟩ := mem_tr.1 hq
  have hl : (b.fs.set f { b.fs[f] with lo := v, hi := v }).length = b.fs.length := by simp
  have hr : ∀ i, ((b.fs.set f { b.fs[f] with lo := v, hi := v }).getD i default).rank = b.rk i := fun i => by
    unfold Bk.rk
    rw [List.getD_eq_getElem?_getD, List.getD_eq_getElem?_getD]
    by_cases hi : f = i
    · subst hi
      rw [List.getElem?_set_self hf, List.getElem?_eq_getElem hf]
      rfl
    · rw [List.getElem?_set_ne hi]
  refine List.ne_nil_of_mem (a := q) (mem_tr.2 ⟨mem_seas.2 ⟨((mem_seas.1 h1).1).trans hl.symm, fun i g hg => ?_⟩, fun x hx => ?_⟩)
  · have hg' : (b.fs.set f { b.fs[f] with lo := v, hi := v })[i]? = some g := hg
    by_cases hi : f = i
    · subst hi
      rw [List.getElem?_set_self hf] at hg'
      cases hg'
      show v ≤ _ ∧ _ ≤ v
      omega
    · rw [List.getElem?_set_ne hi] at hg'
      exact (mem_seas.1 h1).2 i g hg'
  · rw [at_fix hl hr]
    exact h2 x hx
theorem fits_mem {b : Bk} {n : Nt} : b.tr.any (fitN b n) = decide (n.chief ∈ b.chiefsL n.use.toNat n.day.toNat) := by
  rw [Bool.eq_iff_iff, List.any_eq_true, decide_eq_true_iff, mem_chiefs]
  constructor
  · rintro ⟨q, hq, h⟩
    exact ⟨q, hq, by simpa [fitN] using h⟩
  · rintro ⟨q, hq, h⟩
    exact ⟨q, hq, by simpa [fitN] using h⟩
theorem days_in {b : Bk} {f : Nat} (hf : f < b.fs.length) (hT : b.tr ≠ []) : (ends (b.daysL f)).1 ≤ (ends (b.daysL f)).2 ∧ b.fs[f].lo ≤ (ends (b.daysL f)).1 ∧ (ends (b.daysL f)).2 ≤ b.fs[f].hi ∧ (ends (b.daysL f)).1 ∈ b.daysL f ∧ (ends (b.daysL f)).2 ∈ b.daysL f := by
  obtain ⟨n1, n2⟩ := ends_mem (days_some (f := f) hT)
  obtain ⟨r1, k1, g1⟩ := List.mem_map.1 n1
  obtain ⟨r2, k2, g2⟩ := List.mem_map.1 n2
  have t1 := tr_feast hf k1
  have t2 := tr_feast hf k2
  have c1 := (ends_covers n2).1
  exact ⟨c1, by omega, by omega, n1, n2⟩
end Go.Office
