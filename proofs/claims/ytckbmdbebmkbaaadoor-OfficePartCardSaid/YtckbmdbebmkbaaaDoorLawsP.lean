/- This text shows the law of the rule at which they part, in the interpreter. No conditions of its own. -/
import Derived.Test.YtckbmdbebmkbaaaDoorPlainB
import Derived.Test.YtckbmdbebmkbaaaDoorFnQ
import Derived.Test.YtckbmdbebmkbaaaDoorCodesL8
set_option linter.unusedSimpArgs false
set_option linter.unusedVariables false
namespace Go.Office
section
variable {b : Bk}
theorem ruleF_some {ry rt : Int} : ∀ (l : List Rl) (k : Nat) (p : Nat × Int), ruleF ry rt l k = some p → k ≤ p.1 ∧ ∃ r, l[p.1 - k]? = some r ∧ r.rank = ry ∧ r.to = rt ∧ r.does = p.2
  | [], _, p, h => by cases h
  | r :: l, k, p, h => by
    rw [ruleF] at h
    split at h
    · rename_i hh
      cases h
      exact ⟨Nat.le_refl _, r, by simp, hh.1, hh.2, rfl⟩
    · obtain ⟨h1, s, h2, h3⟩ := ruleF_some l (k + 1) p h
      refine ⟨by omega, s, ?_, h3⟩
      have e : p.1 - k = p.1 - (k + 1) + 1 := by omega
      rw [e, List.getElem?_cons_succ]
      exact h2
theorem ruleI_cases (b : Bk) (u y t : Nat) : (b.ruleI u y t = -1 ∧ b.does u y t = 0) ∨ ∃ (n : Nat) (r : Rl), b.ruleI u y t = n ∧ (b.us u).rules[n]? = some r ∧ r.rank = b.rk y ∧ r.to = b.rk t ∧ r.does = b.does u y t := by
  unfold Bk.ruleI Bk.does
  cases h : b.rule u y t with
  | none => exact .inl ⟨rfl, rfl⟩
  | some p =>
    obtain ⟨_, r, h1, h2, h3, h4⟩ := ruleF_some _ _ p h
    exact .inr ⟨p.1, r, rfl, h1, h2, h3, h4⟩
theorem best_le (p : Option (Int × Int × Int)) (best : Option (Int × Int × Int)) : (∀ c, best = some c → ∃ c', best3 best p = some c' ∧ c'.1 ≤ c.1) ∧ (∀ a, p = some a → ∃ c', best3 best p = some c' ∧ c'.1 ≤ a.1) ∧ (best3 best p = best ∨ best3 best p = p) := by
  cases p with
  | none => exact ⟨fun c h => ⟨c, h, Int.le_refl _⟩, fun a h => (by cases h), .inl (by cases best <;> rfl)⟩
  | some a =>
    cases best with
    | none => exact ⟨fun c h => (by cases h), fun a' h => ⟨a, rfl, by cases h; exact Int.le_refl _⟩, .inr rfl⟩
    | some c =>
      have e : best3 (some c) (some a) = if lt3 a c then some a else some c := rfl
      rw [e]
      have hlt : lt3 a c = true → a.1 ≤ c.1 := fun h => by
        unfold lt3 at h
        split at h
        · omega
        · simp at h; omega
      have hge : lt3 a c = false → c.1 ≤ a.1 := fun h => by
        unfold lt3 at h
        split at h
        · omega
        · simp at h; omega
      cases hl : lt3 a c with
      | true =>
        exact ⟨fun c' h => ⟨a, by simp, by cases h; exact hlt hl⟩, fun a' h => ⟨a, by simp, by cases h; exact Int.le_refl _⟩, .inr (by simp)⟩
      | false =>
        exact ⟨fun c' h => ⟨c, by simp, by cases h; exact Int.le_refl _⟩, fun a' h => ⟨c, by simp, by cases h; exact hge hl⟩, .inl (by simp)⟩
theorem fold_spec (g : List Int → Option (Int × Int × Int)) : ∀ (T : List (List Int)) (best : Option (Int × Int × Int)), (∀ c, best = some c → ∃ c', T.foldl (fun best q => best3 best (g q)) best = some c' ∧ c'.1 ≤ c.1) ∧ (∀ q ∈ T, ∀ a, g q = some a → ∃ c', T.foldl (fun best q => best3 best (g q)) best = some c' ∧ c'.1 ≤ a.1) ∧ (T.foldl (fun best q => best3 best (g q)) best = best ∨ ∃ q ∈ T, T.foldl (fun best q => best3 best (g q)) best = g q)
  | [], best => ⟨fun c h => ⟨c, h, Int.le_refl _⟩, fun q h => (by cases h), .inl rfl⟩
  | q :: T, best => by
    obtain ⟨h1, h2, h3⟩ := fold_spec g T (best3 best (g q))
    obtain ⟨k1, k2, k3⟩ := best_le (g q) best
    rw [List.foldl_cons]
    refine ⟨fun c hc => ?_, fun q' hq' a ha => ?_, ?_⟩
    · obtain ⟨c', e, le⟩ := k1 c hc
      obtain ⟨c'', e', le'⟩ := h1 c' e
      exact ⟨c'', e', by omega⟩
    · rcases List.mem_cons.1 hq' with rfl | hq'
      · obtain ⟨c', e, le⟩ := k2 a ha
        obtain ⟨c'', e', le'⟩ := h1 c' e
        exact ⟨c'', e', by omega⟩
      · exact h2 q' hq' a ha
    · rcases h3 with h3 | ⟨q', hq', h3⟩
      · rcases k3 with k3 | k3
        · exact .inl (h3.trans k3)
        · exact .inr ⟨q, List.mem_cons_self .., h3.trans k3⟩
      · exact .inr ⟨q', List.mem_cons_of_mem _ hq', h3⟩
theorem part_le {q : List Int} (hq : q ∈ b.tr) {a : Int × Int × Int} (h : b.partQ q = some a) : ∃ c, b.part = some c ∧ c.1 ≤ a.1 := (fold_spec b.partQ b.tr none).2.1 q hq a h
theorem part_is {p : Int × Int × Int} (h : b.part = some p) : ∃ q ∈ b.tr, b.partQ q = some p := by
  have h' : b.tr.foldl (fun best q => best3 best (b.partQ q)) none = some p := h
  rcases (fold_spec b.partQ b.tr none).2.2 with h3 | ⟨q, hq, h3⟩
  · rw [h'] at h3; cases h3
  · exact ⟨q, hq, by rw [← h3, h']⟩
theorem agree_before {q : List Int} {d : Nat} (hd : (d : Int) < b.D) (h : ∀ a, b.partQ q = some a → (d : Int) < a.1) : b.agreeB d q = true := by
  have key : agree (b.sg q 0) (b.sg q 1) d := by
    rcases lock (b := b) b.D.toNat 0 (now0 q) 0 0 with ⟨_, _, h3⟩ | ⟨M, m, A, B, h1, h2, h3, h4, h5, h6, h7⟩
    · exact h3 d
    · have hf : b.partQ q = some (m.day, b.ruleI 0 m.y m.t, b.ruleI 1 m.y m.t) := by
        unfold Bk.partQ Bk.mt
        rw [h1]
        have : (M ++ m :: A).find? (fun m => !b.same m) = some m := by
          rw [List.find?_append]
          have hM : M.find? (fun m => !b.same m) = none := by
            rw [List.find?_eq_none]
            intro x hx
            simp [h3 x hx]
          rw [hM, List.find?_cons, h4]
          rfl
        rw [this]; rfl
      have := h _ hf
      exact h7 d (by rw [Int.zero_add]; exact this)
  unfold Bk.agreeB
  have k1 : (b.at q 0 d).chief = (b.at q 1 d).chief := key.1
  have k2 : (b.at q 0 d).set = (b.at q 1 d).set := key.2
  rw [k1, k2]
  simp
theorem part_met {p : Int × Int × Int} (h : b.part = some p) (hD : 1 ≤ b.D) : ∃ m : Mt, b.same m = false ∧ p = (m.day, b.ruleI 0 m.y m.t, b.ruleI 1 m.y m.t) ∧ 0 ≤ m.day ∧ m.day < b.D := by
  obtain ⟨q, hq, hp⟩ := part_is h
  rcases lock (b := b) b.D.toNat 0 (now0 q) 0 0 with ⟨h1, h2, _⟩ | ⟨M, m, A, B, h1, h2, h3, h4, h5, h6, h7⟩
  · exfalso
    unfold Bk.partQ Bk.mt at hp
    have : (b.meet 0 b.D.toNat 0 (now0 q)).find? (fun m => !b.same m) = none := by
      rw [List.find?_eq_none]
      intro x hx
      simp [h2 x hx]
    rw [this] at hp
    cases hp
  · refine ⟨m, h4, ?_, h5, by omega⟩
    unfold Bk.partQ Bk.mt at hp
    rw [h1] at hp
    have : (M ++ m :: A).find? (fun m => !b.same m) = some m := by
      rw [List.find?_append]
      have hM : M.find? (fun m => !b.same m) = none := by
        rw [List.find?_eq_none]
        intro x hx
        simp [h3 x hx]
      rw [hM, List.find?_cons, h4]
      rfl
    rw [this] at hp
    simpa using hp.symm
theorem agree_all {d : Nat} (hT : b.tr ≠ []) (hd : (d : Int) < b.D) (h : ∀ p, b.part = some p → (d : Int) < p.1) : vote (b.agreeB d) b.tr = 2 := by
  rw [vote_two hT]
  intro q hq
  refine agree_before hd fun a ha => ?_
  obtain ⟨c, hc, hle⟩ := part_le hq ha
  have := h c hc
  omega
end
end Go.Office

set_option maxRecDepth 100000
namespace Go.Ai
open Go.Office (Ft Rl Us Nt Bk vote)
def ruleRow (x : OB) (u : Nat) : AV := if u = 0 then x.q0 else x.q1
theorem rule_row {x : OB} (hx : x.Ok) {u : Nat} (hu : u < 2) : IsRow 3 ((x.bk.us u).rules.map rlA) (ruleRow x u) ∧ (x.bk.us u).rules.length < 2 ^ 47 ∧ ∀ E, loadA { boxes := x.cells :: E } none (.box 0 (3 + u * 2)) = some (ruleRow x u) := by
  have : u = 0 ∨ u = 1 := by omega
  rcases this with rfl | rfl
  · exact ⟨hx.q0, hx.l0, fun _ => rfl⟩
  · exact ⟨hx.q1, hx.l1, fun _ => rfl⟩
theorem rule_ix {x : OB} (hx : x.Ok) {u n : Nat} {r : Rl} (hu : u < 2) (h : (x.bk.us u).rules[n]? = some r) : ixsA 3 (ruleRow x u) (I (n : Nat)) = some (.rp (rlC r) 0) := by
  obtain ⟨hn, he⟩ := List.getElem?_eq_some_iff.1 h
  have := row_at (f := rlC) (rule_row hx hu).1 hn
  rw [he] at this
  exact this
theorem says_call (x : OB) (hx : x.Ok) {u : Nat} (hu : u < 2) (r v : Int) (h : (r = -1 ∧ v = 0) ∨ ∃ (n : Nat) (rl : Rl), r = n ∧ (x.bk.us u).rules[n]? = some rl ∧ v = rl.does) : call Cv 35 [x.av, I (u : Nat), I r] = some (I v) := by
  have hbox := x_box hx
  have hix := ixa22 hu 0 3
  obtain ⟨_, _, hld⟩ := rule_row hx hu
  rw [call_run comp35 (Nat.le_of_ble_eq_true rfl)]
  rcases h with ⟨rfl, rfl⟩ | ⟨n, rl, rfl, h1, rfl⟩
  · simp (maxSteps := 10000000) [-List.getD_eq_getElem?_getD, -boxA, -loadA, code35, hbox]
  · have h2 := rule_ix hx hu h1
    have h0 : ¬ ((n : Nat) : Int) < 0 := by omega
    have hlr : ∀ σ : St, loadA σ none (.rp (rlC rl) 2) = some (I rl.does) := fun _ => rfl
    simp (maxSteps := 10000000) [-List.getD_eq_getElem?_getD, -boxA, -loadA, -ixaA, -ixsA, code35, hbox, hix, hld, h2, h0, hlr]
theorem says_rule (x : OB) (hx : x.Ok) {u : Nat} (hu : u < 2) (y t : Nat) : call Cv 35 [x.av, I (u : Nat), I (x.bk.ruleI u y t)] = some (I (x.bk.does u y t)) := by
  refine says_call x hx hu _ _ ?_
  rcases Go.Office.ruleI_cases x.bk u y t with ⟨h1, h2⟩ | ⟨n, r, h1, h2, _, _, h3⟩
  · exact .inl ⟨h1, h2⟩
  · exact .inr ⟨n, r, h1, h2, h3.symm⟩
theorem ruleI_range {x : OB} (u y t : Nat) : -1 ≤ x.bk.ruleI u y t ∧ x.bk.ruleI u y t ≤ ((x.bk.us u).rules.length : Int) - 1 := by
  rcases Go.Office.ruleI_cases x.bk u y t with ⟨h1, h2⟩ | ⟨n, r, h1, h2, _⟩
  · omega
  · have := (List.getElem?_eq_some_iff.1 h2).1
    omega
end Go.Ai

set_option maxRecDepth 100000
namespace Go.Ai
open Go.Office (Ft Rl Us Nt Bk vote)
def head8 (D k : Int) : Env := mkE 171 .any [(11, I k), (3, I D), (1, .box 0 0)]
theorem loop8 (x : OB) (hx : x.Ok) (e : Int) (he : e ≤ 6) (E : List (List AV)) (hE : ∀ a b c d, E.all (fun cs => cs.all (under a b c d 6)) = true) (hA : ∀ d : Nat, (d : Int) < e → call Cv 28 [x.av, I (d : Nat)] = some (.tup [I 2, I 0])) : ∀ (n d : Nat), (d : Int) + n = e →
    ∃ L, run Cv 8 (.loop keep8_0 body8_0) (head8 e d) { boxes := x.cells :: E } = some (.ex 0, mkE 171 .any L, { boxes := x.cells :: E })
  | 0, d, hd => by
    have hlt : ¬ (d : Int) < e := by omega
    rw [run_loop]
    simp (maxSteps := 10000000) [-List.getD_eq_getElem?_getD, body8_0, keep8_0, head8, hlt]
    exact ⟨_, rfl⟩
  | n + 1, d, hd => by
    have hlt : (d : Int) < e := by omega
    have hc := hA d hlt
    have hp := av_pur hx
    have l0 := x_load8 (x := x) E
    have w1 : IntKind.wrap .i64 ((d : Int) + 1) = ((d + 1 : Nat) : Int) := by rw [wrap_small (by omega) (by omega)]; omega
    obtain ⟨L, ih⟩ := loop8 x hx e he E hE hA n (d + 1) (by omega)
    refine ⟨L, ?_⟩
    rw [← ih, run_loop]
    generalize MC.loop keep8_0 body8_0 = LL
    generalize ((d + 1 : Nat) : Int) = A at *
    have hcut := fun e => cut_self { boxes := x.cells :: E } e (by simp) (by simp)
    simp (maxSteps := 10000000) [-List.getD_eq_getElem?_getD, -loadA, -cut, -List.all_eq_true, body8_0, keep8_0, head8, hlt, l0, hp, hc, w1, hcut]
theorem part_law (x : OB) (hx : x.Ok) : call Cv 8 [x.av] = some (.bool true) := by
  have hsm := sound_call x hx
  have hs := chanted_call
  have hp := av_pur hx
  have hbox := x_box hx
  have l0 := x_load8 (x := x)
  have l2 := x_days (x := x)
  have hpt := Part_call x hx
  cases hk : checkB x with
  | false =>
    rw [hk] at hsm
    have he : errQ x true = 10 := by unfold errQ; simp [hk]
    rw [partR, he, if_neg (by decide)] at hpt
    rw [call_run comp8 (Nat.le_of_ble_eq_true rfl)]
    simp (maxSteps := 10000000) [-List.getD_eq_getElem?_getD, -boxA, -loadA, code8, hbox, l0, hp, hsm, hs, hpt]
  | true =>
    rw [hk] at hsm
    have f := check_fine hk
    obtain ⟨d1, d6, n4⟩ := dim f
    by_cases hT : x.bk.tr = []
    · rw [partR, errQ_none hk hT, if_neg (by decide)] at hpt
      have c1 := Agree_0 hx hk hT (d := 0) (by omega)
      have e0 : ((0 : Nat) : Int) = 0 := rfl
      rw [e0] at c1
      rw [call_run comp8 (Nat.le_of_ble_eq_true rfl)]
      simp (maxSteps := 10000000) [-List.getD_eq_getElem?_getD, -boxA, -loadA, code8, hbox, l0, hp, hsm, hs, hpt, c1]
    · rw [partR, errQ_ok hk hT, if_pos rfl] at hpt
      have hD : x.bk.D = x.days := rfl
      have w1 : IntKind.wrap .i64 (x.days - 1) = x.days - 1 := wrap_small (by omega) (by omega)
      cases hpa : x.bk.part with
      | none =>
        rw [hpa] at hpt
        simp only at hpt
        have hA : ∀ d : Nat, (d : Int) < x.days → call Cv 28 [x.av, I (d : Nat)] = some (.tup [I 2, I 0]) := fun d hd => by
          rw [Agree_1 hx hk hT hd, Go.Office.agree_all hT (by omega) (fun p hp => by rw [hpa] at hp; cases hp)]
        obtain ⟨L, hl⟩ := loop8 x hx x.days d6 [] (fun _ _ _ _ => rfl) hA x.days.toNat 0 (by omega)
        have hl' := fun E (hE : mask keep8_0 E = _) => run_at hl hE
        have e0 : ((0 : Nat) : Int) = 0 := rfl
        simp only [keep8_0, head8, e0] at hl'
        rw [call_run comp8 (Nat.le_of_ble_eq_true rfl)]
        simp (maxSteps := 10000000) [-List.getD_eq_getElem?_getD, -boxA, -loadA, code8, hbox, l0, l2, hp, hsm, hs, hpt, keep8_0, hl']
      | some p =>
        rw [hpa] at hpt
        simp only at hpt
        obtain ⟨m, hms, rfl, m0, mD⟩ := Go.Office.part_met hpa f.bk.d1
        rw [hD] at mD
        simp only at hpt
        have hA : ∀ d : Nat, (d : Int) < m.day → call Cv 28 [x.av, I (d : Nat)] = some (.tup [I 2, I 0]) := fun d hd => by
          rw [Agree_1 hx hk hT (by omega), Go.Office.agree_all hT (by omega) (fun p hp => by rw [hpa] at hp; cases hp; exact hd)]
        have hl := fun E hE => loop8 x hx m.day (by omega) E hE hA m.day.toNat 0 (by omega)
        have e0 : ((0 : Nat) : Int) = 0 := rfl
        have e1 : ((1 : Nat) : Int) = 1 := rfl
        have s0 := says_rule x hx (u := 0) (by decide) m.y m.t
        have s1 := says_rule x hx (u := 1) (by decide) m.y m.t
        have g0 := ruleI_range (x := x) 0 m.y m.t
        have g1 := ruleI_range (x := x) 1 m.y m.t
        have hne : (x.bk.does 0 m.y m.t == x.bk.does 1 m.y m.t) = false := by
          rw [beq_eq_false_iff_ne]
          simpa [Bk.same] using hms
        rw [e0] at s0
        rw [e1] at s1
        have k0 := Go.Office.ruleI_cases x.bk 0 m.y m.t
        have k1 := Go.Office.ruleI_cases x.bk 1 m.y m.t
        have ln0 : lenA x.q0 = some (I x.r0.length) := len0 hx
        have ln1 : lenA x.q1 = some (I x.r1.length) := len1 hx
        have hr0 : (x.bk.us 0).rules = x.r0 := rfl
        have hr1 : (x.bk.us 1).rules = x.r1 := rfl
        rw [hr0] at g0
        rw [hr1] at g1
        have hl00 := hx.l0
        have hl11 := hx.l1
        have w2 : IntKind.wrap .i64 ((x.r0.length : Int) - 1) = x.r0.length - 1 := wrap_small (by omega) (by omega)
        have w3 : IntKind.wrap .i64 ((x.r1.length : Int) - 1) = x.r1.length - 1 := wrap_small (by omega) (by omega)
        have y1 := lies_call m.day 0 (x.days - 1)
        have y2 := lies_call (x.bk.ruleI 0 m.y m.t) (-1) (x.r0.length - 1)
        have y3 := lies_call (x.bk.ruleI 1 m.y m.t) (-1) (x.r1.length - 1)
        have z1 : (decide (0 ≤ m.day) && decide (m.day ≤ x.days - 1)) = true := by simp; omega
        have z2 : (decide (-1 ≤ x.bk.ruleI 0 m.y m.t) && decide (x.bk.ruleI 0 m.y m.t ≤ (x.r0.length : Int) - 1)) = true := by simp; omega
        have z3 : (decide (-1 ≤ x.bk.ruleI 1 m.y m.t) && decide (x.bk.ruleI 1 m.y m.t ≤ (x.r1.length : Int) - 1)) = true := by simp; omega
        rw [z1] at y1
        rw [z2] at y2
        rw [z3] at y3
        have ld0 : ∀ E, loadA { boxes := x.cells :: E } none (.box 0 3) = some x.q0 := fun _ => rfl
        have ld1 : ∀ E, loadA { boxes := x.cells :: E } none (.box 0 5) = some x.q1 := fun _ => rfl
        have xa0 : ixaA 2 2 (.box 0 3) (I 0) = some (.box 0 3) := rfl
        have xa1 : ixaA 2 2 (.box 0 3) (I 1) = some (.box 0 5) := rfl
        generalize x.bk.does 0 m.y m.t = v0 at *
        generalize x.bk.does 1 m.y m.t = v1 at *
        obtain ⟨ry, hry⟩ : ∃ ry, ry = x.bk.rk m.y := ⟨_, rfl⟩
        obtain ⟨rt, hrt⟩ : ∃ rt, rt = x.bk.rk m.t := ⟨_, rfl⟩
        rw [← hry, ← hrt] at k0 k1
        generalize x.bk.ruleI 0 m.y m.t = i0 at *
        generalize x.bk.ruleI 1 m.y m.t = i1 at *
        rcases k0 with ⟨rfl, _⟩ | ⟨n0, r0, rfl, b0, c0, c0', _⟩
        · obtain ⟨L, hl⟩ := hl [] (fun _ _ _ _ => rfl)
          have hl' := fun E (hE : mask keep8_0 E = _) => run_at hl hE
          simp only [keep8_0, head8, e0] at hl'
          rw [call_run comp8 (Nat.le_of_ble_eq_true rfl)]
          simp (maxSteps := 10000000) [-List.getD_eq_getElem?_getD, -boxA, -loadA, -ixaA, code8, hbox, l0, l2, hp, hsm, hs, hpt, keep8_0, hl', w1, w2, w3, ld0, ld1, xa0, xa1, ln0, ln1, y1, y2, y3, s0, s1, hne]
        · rcases k1 with ⟨rfl, _⟩ | ⟨n1, r1, rfl, b1, d0, d0', _⟩
          · obtain ⟨L, hl⟩ := hl [] (fun _ _ _ _ => rfl)
            have hl' := fun E (hE : mask keep8_0 E = _) => run_at hl hE
            simp only [keep8_0, head8, e0] at hl'
            have hi0 : (0 : Int) ≤ ((n0 : Nat) : Int) := by omega
            rw [call_run comp8 (Nat.le_of_ble_eq_true rfl)]
            simp (maxSteps := 10000000) [-List.getD_eq_getElem?_getD, -boxA, -loadA, -ixaA, code8, hbox, l0, l2, hp, hsm, hs, hpt, keep8_0, hl', w1, w2, w3, ld0, ld1, xa0, xa1, ln0, ln1, y1, y2, y3, s0, s1, hne, hi0]
          · have i0 := rule_ix hx (u := 0) (by decide) b0
            have i1 := rule_ix hx (u := 1) (by decide) b1
            have hrr0 : ruleRow x 0 = x.q0 := rfl
            have hrr1 : ruleRow x 1 = x.q1 := rfl
            rw [hrr0] at i0
            rw [hrr1] at i1
            obtain ⟨L, hl⟩ := hl [rlC r0, rlC r1] (fun _ _ _ _ => rfl)
            have hl' := fun E (hE : mask keep8_0 E = _) => run_at hl hE
            simp only [keep8_0, head8, e0] at hl'
            have h00 : (0 : Int) ≤ ((n0 : Nat) : Int) := by omega
            have h01 : (0 : Int) ≤ ((n1 : Nat) : Int) := by omega
            have lr0 : ∀ σ : St, loadA σ (some 3) (.rp (rlC r0) 0) = some (.agg (rlC r0)) := fun _ => rfl
            have lr1 : ∀ σ : St, loadA σ (some 3) (.rp (rlC r1) 0) = some (.agg (rlC r1)) := fun _ => rfl
            have sa : ∀ Z : List AV, storeA { boxes := [Z, [I 0, I 0, I 0]] } 3 (.box 1 0) (.agg (rlC r0)) = some { boxes := [Z, rlC r0] } := fun _ => rfl
            have sb : ∀ Z : List AV, storeA { boxes := [Z, rlC r0, [I 0, I 0, I 0]] } 3 (.box 2 0) (.agg (rlC r1)) = some { boxes := [Z, rlC r0, rlC r1] } := fun _ => rfl
            have p10 : ∀ Z : List AV, loadA { boxes := [Z, rlC r0, rlC r1] } none (.box 1 0) = some (I r0.rank) := fun _ => rfl
            have p11 : ∀ Z : List AV, loadA { boxes := [Z, rlC r0, rlC r1] } none (.box 1 1) = some (I r0.to) := fun _ => rfl
            have p20 : ∀ Z : List AV, loadA { boxes := [Z, rlC r0, rlC r1] } none (.box 2 0) = some (I r1.rank) := fun _ => rfl
            have p21 : ∀ Z : List AV, loadA { boxes := [Z, rlC r0, rlC r1] } none (.box 2 1) = some (I r1.to) := fun _ => rfl
            rw [c0] at p10
            rw [c0'] at p11
            rw [d0] at p20
            rw [d0'] at p21
            rw [call_run comp8 (Nat.le_of_ble_eq_true rfl)]
            simp (maxSteps := 10000000) [-List.getD_eq_getElem?_getD, -boxA, -loadA, -storeA, -ixaA, -ixsA, code8, hbox, l0, l2, hp, hsm, hs, hpt, keep8_0, hl', w1, w2, w3, ld0, ld1, xa0, xa1, ln0, ln1, y1, y2, y3, s0, s1, hne, h00, h01, i0, i1, lr0, lr1, sa, sb, p10, p11, p20, p21]
end Go.Ai
