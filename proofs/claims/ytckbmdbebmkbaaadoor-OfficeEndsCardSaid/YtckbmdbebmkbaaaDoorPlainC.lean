/- This text shows where both uses part: plain. No conditions of its own. -/
import Derived.Test.YtckbmdbebmkbaaaDoorPlainB
set_option linter.unusedSimpArgs false
set_option linter.unusedVariables false
namespace Go.Office
section
variable {b : Bk}
theorem ruleF_some {ry rt : Int} : ∀ (l : List Rl) (k : Nat) (p : Nat × Int), ruleF ry rt l k = some p → k ≤ p.1 ∧ ∃ r, l[p.1 - k]? = some r ∧ r.rank = ry ∧ r.to = rt ∧ r.does = p.2
  | [], _, p, h => by cases h
  | r :: l, k, p, h => by
    rw [ruleF] at h
    split at h
    · rename_i hh
      cases h
      exact ⟨Nat.le_refl _, r, by simp, hh.1, hh.2, rfl⟩
    · obtain ⟨h1, s, h2, h3⟩ := ruleF_some l (k + 1) p h
      refine ⟨by omega, s, ?_, h3⟩
      have e : p.1 - k = p.1 - (k + 1) + 1 := by omega
      rw [e, List.getElem?_cons_succ]
      exact h2
theorem ruleI_cases (b : Bk) (u y t : Nat) : (b.ruleI u y t = -1 ∧ b.does u y t = 0) ∨ ∃ (n : Nat) (r : Rl), b.ruleI u y t = n ∧ (b.us u).rules[n]? = some r ∧ r.rank = b.rk y ∧ r.to = b.rk t ∧ r.does = b.does u y t := by
  unfold Bk.ruleI Bk.does
  cases h : b.rule u y t with
  | none => exact .inl ⟨rfl, rfl⟩
  | some p =>
    obtain ⟨_, r, h1, h2, h3, h4⟩ := ruleF_some _ _ p h
    exact .inr ⟨p.1, r, rfl, h1, h2, h3, h4⟩
theorem best_le (p : Option (Int × Int × Int)) (best : Option (Int × Int × Int)) : (∀ c, best = some c → ∃ c', best3 best p = some c' ∧ c'.1 ≤ c.1) ∧ (∀ a, p = some a → ∃ c', best3 best p = some c' ∧ c'.1 ≤ a.1) ∧ (best3 best p = best ∨ best3 best p = p) := by
  cases p with
  | none => exact ⟨fun c h => ⟨c, h, Int.le_refl _⟩, fun a h => (by cases h), .inl (by cases best <;> rfl)⟩
  | some a =>
    cases best with
    | none => exact ⟨fun c h => (by cases h), fun a' h => ⟨a, rfl, by cases h; exact Int.le_refl _⟩, .inr rfl⟩
    | some c =>
      have e : best3 (some c) (some a) = if lt3 a c then some a else some c := rfl
      rw [e]
      have hlt : lt3 a c = true → a.1 ≤ c.1 := fun h => by
        unfold lt3 at h
        split at h
        · omega
        · simp at h; omega
      have hge : lt3 a c = false → c.1 ≤ a.1 := fun h => by
        unfold lt3 at h
        split at h
        · omega
        · simp at h; omega
      cases hl : lt3 a c with
      | true =>
        exact ⟨fun c' h => ⟨a, by simp, by cases h; exact hlt hl⟩, fun a' h => ⟨a, by simp, by cases h; exact Int.le_refl _⟩, .inr (by simp)⟩
      | false =>
        exact ⟨fun c' h => ⟨c, by simp, by cases h; exact Int.le_refl _⟩, fun a' h => ⟨c, by simp, by cases h; exact hge hl⟩, .inl (by simp)⟩
theorem fold_spec (g : List Int → Option (Int × Int × Int)) : ∀ (T : List (List Int)) (best : Option (Int × Int × Int)), (∀ c, best = some c → ∃ c', T.foldl (fun best q => best3 best (g q)) best = some c' ∧ c'.1 ≤ c.1) ∧ (∀ q ∈ T, ∀ a, g q = some a → ∃ c', T.foldl (fun best q => best3 best (g q)) best = some c' ∧ c'.1 ≤ a.1) ∧ (T.foldl (fun best q => best3 best (g q)) best = best ∨ ∃ q ∈ T, T.foldl (fun best q => best3 best (g q)) best = g q)
  | [], best => ⟨fun c h => ⟨c, h, Int.le_refl _⟩, fun q h => (by cases h), .inl rfl⟩
  | q :: T, best => by
    obtain ⟨h1, h2, h3⟩ := fold_spec g T (best3 best (g q))
    obtain ⟨k1, k2, k3⟩ := best_le (g q) best
    rw [List.foldl_cons]
    refine ⟨fun c hc => ?_, fun q' hq' a ha => ?_, ?_⟩
    · obtain ⟨c', e, le⟩ := k1 c hc
      obtain ⟨c'', e', le'⟩ := h1 c' e
      exact ⟨c'', e', by omega⟩
    · rcases List.mem_cons.1 hq' with rfl | hq'
      · obtain ⟨c', e, le⟩ := k2 a ha
        obtain ⟨c'', e', le'⟩ := h1 c' e
        exact ⟨c'', e', by omega⟩
      · exact h2 q' hq' a ha
    · rcases h3 with h3 | ⟨q', hq', h3⟩
      · rcases k3 with k3 | k3
        · exact .inl (h3.trans k3)
        · exact .inr ⟨q, List.mem_cons_self .., h3.trans k3⟩
      · exact .inr ⟨q', List.mem_cons_of_mem _ hq', h3⟩
theorem part_le {q : List Int} (hq : q ∈ b.tr) {a : Int × Int × Int} (h : b.partQ q = some a) : ∃ c, b.part = some c ∧ c.1 ≤ a.1 := (fold_spec b.partQ b.tr none).2.1 q hq a h
theorem part_is {p : Int × Int × Int} (h : b.part = some p) : ∃ q ∈ b.tr, b.partQ q = some p := by
  have h' : b.tr.foldl (fun best q => best3 best (b.partQ q)) none = some p := h
  rcases (fold_spec b.partQ b.tr none).2.2 with h3 | ⟨q, hq, h3⟩
  · rw [h'] at h3; cases h3
  · exact ⟨q, hq, by rw [← h3, h']⟩
theorem agree_before {q : List Int} {d : Nat} (hd : (d : Int) < b.D) (h : ∀ a, b.partQ q = some a → (d : Int) < a.1) : b.agreeB d q = true := by
  have key : agree (b.sg q 0) (b.sg q 1) d := by
    rcases lock (b := b) b.D.toNat 0 (now0 q) 0 0 with ⟨_, _, h3⟩ | ⟨M, m, A, B, h1, h2, h3, h4, h5, h6, h7⟩
    · exact h3 d
    · have hf : b.partQ q = some (m.day, b.ruleI 0 m.y m.t, b.ruleI 1 m.y m.t) := by
        unfold Bk.partQ Bk.mt
        rw [h1]
        have : (M ++ m :: A).find? (fun m => !b.same m) = some m := by
          rw [List.find?_append]
          have hM : M.find? (fun m => !b.same m) = none := by
            rw [List.find?_eq_none]
            intro x hx
            simp [h3 x hx]
          rw [hM, List.find?_cons, h4]
          rfl
        rw [this]; rfl
      have := h _ hf
      exact h7 d (by rw [Int.zero_add]; exact this)
  unfold Bk.agreeB
  have k1 : (b.at q 0 d).chief = (b.at q 1 d).chief := key.1
  have k2 : (b.at q 0 d).set = (b.at q 1 d).set := key.2
  rw [k1, k2]
  simp
theorem part_met {p : Int × Int × Int} (h : b.part = some p) (hD : 1 ≤ b.D) : ∃ m : Mt, b.same m = false ∧ p = (m.day, b.ruleI 0 m.y m.t, b.ruleI 1 m.y m.t) ∧ 0 ≤ m.day ∧ m.day < b.D := by
  obtain ⟨q, hq, hp⟩ := part_is h
  rcases lock (b := b) b.D.toNat 0 (now0 q) 0 0 with ⟨h1, h2, _⟩ | ⟨M, m, A, B, h1, h2, h3, h4, h5, h6, h7⟩
  · exfalso
    unfold Bk.partQ Bk.mt at hp
    have : (b.meet 0 b.D.toNat 0 (now0 q)).find? (fun m => !b.same m) = none := by
      rw [List.find?_eq_none]
      intro x hx
      simp [h2 x hx]
    rw [this] at hp
    cases hp
  · refine ⟨m, h4, ?_, h5, by omega⟩
    unfold Bk.partQ Bk.mt at hp
    rw [h1] at hp
    have : (M ++ m :: A).find? (fun m => !b.same m) = some m := by
      rw [List.find?_append]
      have hM : M.find? (fun m => !b.same m) = none := by
        rw [List.find?_eq_none]
        intro x hx
        simp [h3 x hx]
      rw [hM, List.find?_cons, h4]
      rfl
    rw [this] at hp
    simpa using hp.symm
theorem agree_all {d : Nat} (hT : b.tr ≠ []) (hd : (d : Int) < b.D) (h : ∀ p, b.part = some p → (d : Int) < p.1) : vote (b.agreeB d) b.tr = 2 := by
  rw [vote_two hT]
  intro q hq
  refine agree_before hd fun a ha => ?_
  obtain ⟨c, hc, hle⟩ := part_le hq ha
  have := h c hc
  omega
end
end Go.Office
