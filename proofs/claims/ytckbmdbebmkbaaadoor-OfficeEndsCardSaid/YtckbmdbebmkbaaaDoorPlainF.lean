/- This text shows a great feast: plain. No conditions of its own. -/
import Derived.Test.YtckbmdbebmkbaaaDoorPlainE
set_option linter.unusedSimpArgs false
set_option linter.unusedVariables false
namespace Go.Office
section
variable {b : Bk} {u : Nat}
theorem sing_psalm : ∀ (n : Nat) (d : Int) (now : Nat → Int) (ps : Int) (j : Nat) (s : Sg), (b.sing u n d now ps)[j]? = some s → b.own s.chief = false → s.psalm = -1
  | 0, _, _, _, j, s, h, _ => by simp [Bk.sing] at h
  | n + 1, d, now, ps, j, s, h, ho => by
    rw [Bk.sing] at h
    cases j with
    | zero =>
      simp only [List.getElem?_cons_zero, Option.some.injEq] at h
      subst h
      show b.psalm u d ps (b.dayS u d now).chief = -1
      unfold Bk.psalm
      have ho' : b.own (b.dayS u d now).chief = false := ho
      rw [ho']
      rfl
    | succ j => exact sing_psalm n (d + 1) _ _ j s (by simpa using h) ho
variable (hb : b.Ok) (hn : b.ns = []) {f : Nat} (hf : f < b.fs.length) (hr : ∀ i, i ≠ f → i < b.fs.length → b.rk i < b.rk f)
include hb hf
theorem feast_day : b.fs[f].lo ≤ b.fs[f].hi ∧ 0 ≤ b.fs[f].lo ∧ b.fs[f].hi < b.D := by
  have := hb.fs b.fs[f] (List.getElem_mem _)
  omega
omit hb in
theorem tr_feast {q : List Int} (hq : q ∈ b.tr) : b.fs[f].lo ≤ q.getD f (-1) ∧ q.getD f (-1) ≤ b.fs[f].hi :=
  (mem_seas.1 (mem_tr.1 hq).1).2 f b.fs[f] (List.getElem?_eq_getElem hf)
include hr
theorem great_at {q : List Int} (hq : q ∈ b.tr) {d : Nat} (hd : q.getD f (-1) = d) : (b.at q u d).chief = f ∧ (b.at q u d).set.testBit f = true := by
  have h1 := tr_feast hf hq
  have h2 := feast_day hb hf
  exact top_sing hf hr b.D.toNat 0 (now0 q) 0 d _ (at_some (b := b) (q := q) (u := u) (by omega)) (by show q.getD f (-1) = _; omega)
theorem great_falls {q : List Int} (hq : q ∈ b.tr) : b.falls q u f = q.getD f (-1) := by
  have h1 := tr_feast hf hq
  have h2 := feast_day hb hf
  have hd : q.getD f (-1) = ((q.getD f (-1)).toNat : Int) := by omega
  have := falls_of (b := b) (q := q) (u := u) (d := (q.getD f (-1)).toNat) (f := f) (by omega) (great_at hb hf hr hq hd).2
  omega
theorem great_list : b.fallsL u f = b.daysL f := List.map_congr_left fun q hq => great_falls hb hf hr hq
theorem great_kept (hT : b.tr ≠ []) : vote (b.keptB u f) b.tr = 2 := by
  rw [vote_two hT]
  intro q hq
  have h1 := tr_feast hf hq
  have h2 := feast_day hb hf
  rw [Bk.keptB, great_falls hb hf hr hq, decide_eq_true_eq]
  omega
omit hr in
include hn in
theorem some_day {d : Int} (h1 : b.fs[f].lo ≤ d) (h2 : d ≤ b.fs[f].hi) : ∃ q ∈ b.tr, q.getD f (-1) = d := by
  refine ⟨(b.fs.map (·.lo)).set f d, ?_, ?_⟩
  · rw [mem_tr]
    refine ⟨mem_seas.2 ⟨by simp, fun i g hg => ?_⟩, fun x hx => by rw [hn] at hx; cases hx⟩
    rw [List.getD_eq_getElem?_getD]
    by_cases hi : f = i
    · subst hi
      rw [List.getElem?_set_self (by simpa using hf)]
      have : g = b.fs[f] := by
        rw [List.getElem?_eq_getElem hf] at hg
        exact (Option.some.inj hg).symm
      rw [this]
      exact ⟨h1, h2⟩
    · rw [List.getElem?_set_ne hi, List.getElem?_map, hg]
      have := hb.fs g (List.mem_of_getElem? hg)
      exact ⟨Int.le_refl _, this.2.1⟩
  · rw [List.getD_eq_getElem?_getD, List.getElem?_set_self (by simpa using hf)]
    rfl
omit hr in
include hn in
theorem great_ends : ends (b.daysL f) = (b.fs[f].lo, b.fs[f].hi) := by
  have h2 := feast_day hb hf
  obtain ⟨q1, m1, e1⟩ := some_day hb hn hf (d := b.fs[f].lo) (by omega) (by omega)
  obtain ⟨q2, m2, e2⟩ := some_day hb hn hf (d := b.fs[f].hi) (by omega) (by omega)
  have i1 : b.fs[f].lo ∈ b.daysL f := List.mem_map.2 ⟨q1, m1, e1⟩
  have i2 : b.fs[f].hi ∈ b.daysL f := List.mem_map.2 ⟨q2, m2, e2⟩
  obtain ⟨n1, n2⟩ := ends_mem (List.ne_nil_of_mem i1)
  obtain ⟨r1, k1, g1⟩ := List.mem_map.1 n1
  obtain ⟨r2, k2, g2⟩ := List.mem_map.1 n2
  have t1 := tr_feast hf k1
  have t2 := tr_feast hf k2
  have c1 := ends_covers i1
  have c2 := ends_covers i2
  refine Prod.ext ?_ ?_
  · show (ends (b.daysL f)).1 = _; omega
  · show (ends (b.daysL f)).2 = _; omega
include hn in
theorem great_chief {d : Nat} (hd : (d : Int) < b.D) : (f : Int) ∈ b.chiefsL u d ↔ b.fs[f].lo ≤ d ∧ (d : Int) ≤ b.fs[f].hi := by
  rw [mem_chiefs]
  constructor
  · rintro ⟨q, hq, e⟩
    have h1 := chief_falls hd e
    rw [great_falls hb hf hr hq] at h1
    have := tr_feast hf hq
    omega
  · rintro ⟨h1, h2⟩
    obtain ⟨q, hq, e⟩ := some_day hb hn hf h1 h2
    exact ⟨q, hq, (great_at hb hf hr hq e).1⟩
theorem great_only (hT : b.tr ≠ []) (h0 : b.rk f ≠ 0) {d : Nat} (h1 : b.fs[f].lo = d) (h2 : b.fs[f].hi = d) : allI (b.chiefsL u d) = [(f : Int)] ∧ allI (b.psalmsL u d) = [-1] := by
  have hD := feast_day hb hf
  have key : ∀ q ∈ b.tr, (b.at q u d).chief = f := fun q hq => by
    have := tr_feast hf hq
    exact (great_at hb hf hr hq (by omega)).1
  constructor
  · refine all_same (by unfold Bk.chiefsL; simpa using hT) fun y hy => ?_
    obtain ⟨q, hq, rfl⟩ := List.mem_map.1 hy
    exact key q hq
  · refine all_same (by unfold Bk.psalmsL; simpa using hT) fun y hy => ?_
    obtain ⟨q, hq, rfl⟩ := List.mem_map.1 hy
    refine sing_psalm b.D.toNat 0 (now0 q) 0 d _ (at_some (b := b) (q := q) (u := u) (by omega)) ?_
    rw [key q hq]
    unfold Bk.own
    have : ¬ ((f : Nat) : Int) < 0 := by omega
    simp [this, h0]
end
end Go.Office
