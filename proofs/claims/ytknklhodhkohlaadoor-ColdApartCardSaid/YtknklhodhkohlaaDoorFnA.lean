/- This text shows what Check answers. No conditions of its own. -/
import Derived.Test.YtknklhodhkohlaaDoorHelpC
import Derived.Test.YtknklhodhkohlaaDoorPlainC
set_option linter.unusedSimpArgs false
set_option linter.unusedVariables false
set_option maxRecDepth 100000
namespace Go.Ai
theorem run_at {C : Cfg} {f : FuncId} {k : Option (List Tmp)} {b : MC} {E e : Env} {σ : St} {r : Option Out} (h : run C f (.loop k b) e σ = r) (hE : mask k E = e) : run C f (.loop k b) E σ = r := by
  rw [run_loop_mask, hE]; exact h

def head90 (r F : AV) (n k : Int) : Env := mkE 19 .any [(8, I k), (7, I n), (1, F), (0, r)]
theorem loop90 {α : Type} (f : α → List AV) (hf : ∀ a, (f a).length = 2) (hpur : ∀ a σ n, purAll (pur σ (n + 1)) (f a) = some (f a, false)) (p : α → Bool) (g : Nat) (cap : AV) (hcap : ∀ σ n, pur σ (n + 1) cap = some (cap, false)) (hcu : ∀ a b c d n, under a b c d (n + 1) cap = true) (himp : Cv.imp g = false)
    (l0 : List α) (hg : ∀ a, a ∈ l0 → call Cv g [.agg (f a), cap] = some (.bool (p a))) (r : AV) (hr : IsRow 2 (l0.map fun a => .agg (f a)) r) (hl : l0.length < 2 ^ 47) : ∀ (l : List α) (k : Nat), k ≤ l0.length → l0.drop k = l →
    (l.any p = false ∧ ∃ L, run Cv 90 (.loop keep90_0 body90_0) (head90 r (.fn (.func g) [] [cap]) l0.length k) {} = some (.ex 0, mkE 19 .any L, {})) ∨ ∃ L, ∃ j : Nat, l.any p = true ∧ run Cv 90 (.loop keep90_0 body90_0) (head90 r (.fn (.func g) [] [cap]) l0.length k) {} = some (.rt, mkE 19 .any ((4, I j) :: L), {})
  | [], k, hk, h => by
    obtain rfl := drop_nil hk h
    refine .inl ⟨rfl, ?_⟩
    rw [run_loop]
    simp (maxSteps := 10000000) [-List.getD_eq_getElem?_getD, body90_0, keep90_0, head90]
    exact ⟨_, rfl⟩
  | a :: l, k, hk, h => by
    obtain ⟨hlt, ha, hd⟩ := head_drop h
    have hw := wrap_succ hlt hl
    have hlt' : (k : Int) < (l0.length : Int) := by omega
    have hix : ixsA 2 r (I k) = some (.rp (f a) 0) := by
      obtain ⟨c, hc, hr'⟩ := hr.sl (by intro hn; simp at hn; rw [hn] at hlt; simp at hlt)
      have hs : (l0.map fun a => AV.agg (f a))[k]? = some (.agg (f a)) := by rw [List.getElem?_map, List.getElem?_eq_getElem hlt, ha]; rfl
      rw [hr']
      simp [ixsA, AV.cells, hlt, ha]
    have hlr : ∀ σ, loadA σ (some 2) (.rp (f a) 0) = some (.agg (f a)) := fun σ => by
      have := hf a
      simp [loadA, partA, this]
      exact List.take_of_length_le (by omega)
    have hga := hg a (by rw [← ha]; exact List.getElem_mem _)
    have hpa : ∀ σ n, pur σ (n + 2) (.agg (f a)) = some (.agg (f a), false) := fun σ n => by simp [pur, hpur]
    have hfn : ∀ σ args, callA Cv (run Cv) false (.fn (.func g) [] [cap]) args σ = pureCallA Cv (run Cv) false g σ (purAll (pur σ 12) (args ++ [cap])) := fun σ args => ca_none himp
    have hru := hr.under
    cases hp : p a with
    | false =>
      rw [hp] at hga
      have key : run Cv 90 (.loop keep90_0 body90_0) (head90 r (.fn (.func g) [] [cap]) l0.length k) {} = run Cv 90 (.loop keep90_0 body90_0) (head90 r (.fn (.func g) [] [cap]) l0.length ((k : Int) + 1)) {} := by
        rw [run_loop]
        generalize MC.loop keep90_0 body90_0 = L
        simp (maxSteps := 10000000) [-List.getD_eq_getElem?_getD, -loadA, -ixsA, body90_0, keep90_0, head90, hlt', hw, hix, hlr, hpa, hcap, hcu, hga, hru, hfn]
      rw [key]
      rcases loop90 f hf hpur p g cap hcap hcu himp l0 hg r hr hl l (k + 1) hlt hd with h | ⟨L, j, h1, h2⟩
      · exact .inl (by simpa [hp] using h)
      · exact .inr ⟨L, j, by simpa [hp] using h1, by simpa using h2⟩
    | true =>
      rw [hp] at hga
      right
      have : ∃ L, run Cv 90 (.loop keep90_0 body90_0) (head90 r (.fn (.func g) [] [cap]) l0.length k) {} = some (.rt, mkE 19 .any ((4, I k) :: L), {}) := by
        rw [run_loop]
        simp (maxSteps := 10000000) [-List.getD_eq_getElem?_getD, -loadA, -ixsA, body90_0, keep90_0, head90, hlt', hw, hix, hlr, hpa, hcap, hcu, hga, hru, hfn]
        exact ⟨_, rfl⟩
      obtain ⟨L, hL⟩ := this
      exact ⟨L, k, by simp [hp], hL⟩
theorem any80_call {α : Type} (f : α → List AV) (hf : ∀ a, (f a).length = 2) (hpur : ∀ a σ n, purAll (pur σ (n + 1)) (f a) = some (f a, false)) (p : α → Bool) (g : Nat) (cap : AV) (hcap : ∀ σ n, pur σ (n + 1) cap = some (cap, false)) (hcu : ∀ a b c d n, under a b c d (n + 1) cap = true) (himp : Cv.imp g = false)
    (l0 : List α) (hg : ∀ a, a ∈ l0 → call Cv g [.agg (f a), cap] = some (.bool (p a))) (r : AV) (hr : IsRow 2 (l0.map fun a => .agg (f a)) r) (hl : l0.length < 2 ^ 47) : call Cv 80 [r, .fn (.func g) [] [cap]] = some (.bool (l0.any p)) := by
  have hlen : lenA r = some (I l0.length) := by rw [hr.len]; simp
  have hrp := hr.pur
  have e5 : ((0 : Nat) : Int) = 0 := rfl
  rcases loop90 f hf hpur p g cap hcap hcu himp l0 hg r hr hl l0 0 (Nat.zero_le _) rfl with ⟨h1, L, hl⟩ | ⟨L, j, h1, hl⟩
  · have hl' := fun E (hE : mask keep90_0 E = _) => run_at hl hE
    simp only [keep90_0, head90, e5] at hl'
    have h2 : call Cv 90 [r, .fn (.func g) [] [cap]] = some (I (-1)) := by
      rw [call_run comp90 (Nat.le_of_ble_eq_true rfl)]
      simp (maxSteps := 10000000) [-List.getD_eq_getElem?_getD, code90, hlen, keep90_0, hl']
    rw [h1, call_run comp80 (Nat.le_of_ble_eq_true rfl)]
    simp (maxSteps := 10000000) [-List.getD_eq_getElem?_getD, code80, hrp, hcap, h2]
  · have hl' := fun E (hE : mask keep90_0 E = _) => run_at hl hE
    simp only [keep90_0, head90, e5] at hl'
    have h2 : call Cv 90 [r, .fn (.func g) [] [cap]] = some (I j) := by
      rw [call_run comp90 (Nat.le_of_ble_eq_true rfl)]
      simp (maxSteps := 10000000) [-List.getD_eq_getElem?_getD, code90, hlen, keep90_0, hl']
    have hj : (0 : Int) ≤ j := by omega
    rw [h1, call_run comp80 (Nat.le_of_ble_eq_true rfl)]
    simp (maxSteps := 10000000) [-List.getD_eq_getElem?_getD, code80, hrp, hcap, h2, hj]

def head114 (r F : AV) (n k : Int) : Env := mkE 19 .any [(8, I k), (7, I n), (1, F), (0, r)]
theorem loop114 {α : Type} (f : α → List AV) (hf : ∀ a, (f a).length = 3) (hpur : ∀ a σ n, purAll (pur σ (n + 1)) (f a) = some (f a, false)) (p : α → Bool) (g : Nat) (cap : AV) (hcap : ∀ σ n, pur σ (n + 1) cap = some (cap, false)) (hcu : ∀ a b c d n, under a b c d (n + 1) cap = true) (himp : Cv.imp g = false)
    (l0 : List α) (hg : ∀ a, a ∈ l0 → call Cv g [.agg (f a), cap] = some (.bool (p a))) (r : AV) (hr : IsRow 3 (l0.map fun a => .agg (f a)) r) (hl : l0.length < 2 ^ 47) : ∀ (l : List α) (k : Nat), k ≤ l0.length → l0.drop k = l →
    (l.any p = false ∧ ∃ L, run Cv 114 (.loop keep114_0 body114_0) (head114 r (.fn (.func g) [] [cap]) l0.length k) {} = some (.ex 0, mkE 19 .any L, {})) ∨ ∃ L, ∃ j : Nat, l.any p = true ∧ run Cv 114 (.loop keep114_0 body114_0) (head114 r (.fn (.func g) [] [cap]) l0.length k) {} = some (.rt, mkE 19 .any ((4, I j) :: L), {})
  | [], k, hk, h => by
    obtain rfl := drop_nil hk h
    refine .inl ⟨rfl, ?_⟩
    rw [run_loop]
    simp (maxSteps := 10000000) [-List.getD_eq_getElem?_getD, body114_0, keep114_0, head114]
    exact ⟨_, rfl⟩
  | a :: l, k, hk, h => by
    obtain ⟨hlt, ha, hd⟩ := head_drop h
    have hw := wrap_succ hlt hl
    have hlt' : (k : Int) < (l0.length : Int) := by omega
    have hix : ixsA 3 r (I k) = some (.rp (f a) 0) := by
      obtain ⟨c, hc, hr'⟩ := hr.sl (by intro hn; simp at hn; rw [hn] at hlt; simp at hlt)
      have hs : (l0.map fun a => AV.agg (f a))[k]? = some (.agg (f a)) := by rw [List.getElem?_map, List.getElem?_eq_getElem hlt, ha]; rfl
      rw [hr']
      simp [ixsA, AV.cells, hlt, ha]
    have hlr : ∀ σ, loadA σ (some 3) (.rp (f a) 0) = some (.agg (f a)) := fun σ => by
      have := hf a
      simp [loadA, partA, this]
      exact List.take_of_length_le (by omega)
    have hga := hg a (by rw [← ha]; exact List.getElem_mem _)
    have hpa : ∀ σ n, pur σ (n + 2) (.agg (f a)) = some (.agg (f a), false) := fun σ n => by simp [pur, hpur]
    have hfn : ∀ σ args, callA Cv (run Cv) false (.fn (.func g) [] [cap]) args σ = pureCallA Cv (run Cv) false g σ (purAll (pur σ 12) (args ++ [cap])) := fun σ args => ca_none himp
    have hru := hr.under
    cases hp : p a with
    | false =>
      rw [hp] at hga
      have key : run Cv 114 (.loop keep114_0 body114_0) (head114 r (.fn (.func g) [] [cap]) l0.length k) {} = run Cv 114 (.loop keep114_0 body114_0) (head114 r (.fn (.func g) [] [cap]) l0.length ((k : Int) + 1)) {} := by
        rw [run_loop]
        generalize MC.loop keep114_0 body114_0 = L
        simp (maxSteps := 10000000) [-List.getD_eq_getElem?_getD, -loadA, -ixsA, body114_0, keep114_0, head114, hlt', hw, hix, hlr, hpa, hcap, hcu, hga, hru, hfn]
      rw [key]
      rcases loop114 f hf hpur p g cap hcap hcu himp l0 hg r hr hl l (k + 1) hlt hd with h | ⟨L, j, h1, h2⟩
      · exact .inl (by simpa [hp] using h)
      · exact .inr ⟨L, j, by simpa [hp] using h1, by simpa using h2⟩
    | true =>
      rw [hp] at hga
      right
      have : ∃ L, run Cv 114 (.loop keep114_0 body114_0) (head114 r (.fn (.func g) [] [cap]) l0.length k) {} = some (.rt, mkE 19 .any ((4, I k) :: L), {}) := by
        rw [run_loop]
        simp (maxSteps := 10000000) [-List.getD_eq_getElem?_getD, -loadA, -ixsA, body114_0, keep114_0, head114, hlt', hw, hix, hlr, hpa, hcap, hcu, hga, hru, hfn]
        exact ⟨_, rfl⟩
      obtain ⟨L, hL⟩ := this
      exact ⟨L, k, by simp [hp], hL⟩
theorem any106_call {α : Type} (f : α → List AV) (hf : ∀ a, (f a).length = 3) (hpur : ∀ a σ n, purAll (pur σ (n + 1)) (f a) = some (f a, false)) (p : α → Bool) (g : Nat) (cap : AV) (hcap : ∀ σ n, pur σ (n + 1) cap = some (cap, false)) (hcu : ∀ a b c d n, under a b c d (n + 1) cap = true) (himp : Cv.imp g = false)
    (l0 : List α) (hg : ∀ a, a ∈ l0 → call Cv g [.agg (f a), cap] = some (.bool (p a))) (r : AV) (hr : IsRow 3 (l0.map fun a => .agg (f a)) r) (hl : l0.length < 2 ^ 47) : call Cv 106 [r, .fn (.func g) [] [cap]] = some (.bool (l0.any p)) := by
  have hlen : lenA r = some (I l0.length) := by rw [hr.len]; simp
  have hrp := hr.pur
  have e5 : ((0 : Nat) : Int) = 0 := rfl
  rcases loop114 f hf hpur p g cap hcap hcu himp l0 hg r hr hl l0 0 (Nat.zero_le _) rfl with ⟨h1, L, hl⟩ | ⟨L, j, h1, hl⟩
  · have hl' := fun E (hE : mask keep114_0 E = _) => run_at hl hE
    simp only [keep114_0, head114, e5] at hl'
    have h2 : call Cv 114 [r, .fn (.func g) [] [cap]] = some (I (-1)) := by
      rw [call_run comp114 (Nat.le_of_ble_eq_true rfl)]
      simp (maxSteps := 10000000) [-List.getD_eq_getElem?_getD, code114, hlen, keep114_0, hl']
    rw [h1, call_run comp106 (Nat.le_of_ble_eq_true rfl)]
    simp (maxSteps := 10000000) [-List.getD_eq_getElem?_getD, code106, hrp, hcap, h2]
  · have hl' := fun E (hE : mask keep114_0 E = _) => run_at hl hE
    simp only [keep114_0, head114, e5] at hl'
    have h2 : call Cv 114 [r, .fn (.func g) [] [cap]] = some (I j) := by
      rw [call_run comp114 (Nat.le_of_ble_eq_true rfl)]
      simp (maxSteps := 10000000) [-List.getD_eq_getElem?_getD, code114, hlen, keep114_0, hl']
    have hj : (0 : Int) ≤ j := by omega
    rw [h1, call_run comp106 (Nat.le_of_ble_eq_true rfl)]
    simp (maxSteps := 10000000) [-List.getD_eq_getElem?_getD, code106, hrp, hcap, h2, hj]

def head88 (r F : AV) (n k : Int) : Env := mkE 19 .any [(8, I k), (7, I n), (1, F), (0, r)]
theorem loop88 {α : Type} (f : α → List AV) (hf : ∀ a, (f a).length = 9) (hpur : ∀ a σ n, purAll (pur σ (n + 1)) (f a) = some (f a, false)) (p : α → Bool) (g : Nat) (cap : AV) (hcap : ∀ σ n, pur σ (n + 1) cap = some (cap, false)) (hcu : ∀ a b c d n, under a b c d (n + 1) cap = true) (himp : Cv.imp g = false)
    (l0 : List α) (hg : ∀ a, a ∈ l0 → call Cv g [.agg (f a), cap] = some (.bool (p a))) (r : AV) (hr : IsRow 9 (l0.map fun a => .agg (f a)) r) (hl : l0.length < 2 ^ 47) : ∀ (l : List α) (k : Nat), k ≤ l0.length → l0.drop k = l →
    (l.any p = false ∧ ∃ L, run Cv 88 (.loop keep88_0 body88_0) (head88 r (.fn (.func g) [] [cap]) l0.length k) {} = some (.ex 0, mkE 19 .any L, {})) ∨ ∃ L, ∃ j : Nat, l.any p = true ∧ run Cv 88 (.loop keep88_0 body88_0) (head88 r (.fn (.func g) [] [cap]) l0.length k) {} = some (.rt, mkE 19 .any ((4, I j) :: L), {})
  | [], k, hk, h => by
    obtain rfl := drop_nil hk h
    refine .inl ⟨rfl, ?_⟩
    rw [run_loop]
    simp (maxSteps := 10000000) [-List.getD_eq_getElem?_getD, body88_0, keep88_0, head88]
    exact ⟨_, rfl⟩
  | a :: l, k, hk, h => by
    obtain ⟨hlt, ha, hd⟩ := head_drop h
    have hw := wrap_succ hlt hl
    have hlt' : (k : Int) < (l0.length : Int) := by omega
    have hix : ixsA 9 r (I k) = some (.rp (f a) 0) := by
      obtain ⟨c, hc, hr'⟩ := hr.sl (by intro hn; simp at hn; rw [hn] at hlt; simp at hlt)
      have hs : (l0.map fun a => AV.agg (f a))[k]? = some (.agg (f a)) := by rw [List.getElem?_map, List.getElem?_eq_getElem hlt, ha]; rfl
      rw [hr']
      simp [ixsA, AV.cells, hlt, ha]
    have hlr : ∀ σ, loadA σ (some 9) (.rp (f a) 0) = some (.agg (f a)) := fun σ => by
      have := hf a
      simp [loadA, partA, this]
      exact List.take_of_length_le (by omega)
    have hga := hg a (by rw [← ha]; exact List.getElem_mem _)
    have hpa : ∀ σ n, pur σ (n + 2) (.agg (f a)) = some (.agg (f a), false) := fun σ n => by simp [pur, hpur]
    have hfn : ∀ σ args, callA Cv (run Cv) false (.fn (.func g) [] [cap]) args σ = pureCallA Cv (run Cv) false g σ (purAll (pur σ 12) (args ++ [cap])) := fun σ args => ca_none himp
    have hru := hr.under
    cases hp : p a with
    | false =>
      rw [hp] at hga
      have key : run Cv 88 (.loop keep88_0 body88_0) (head88 r (.fn (.func g) [] [cap]) l0.length k) {} = run Cv 88 (.loop keep88_0 body88_0) (head88 r (.fn (.func g) [] [cap]) l0.length ((k : Int) + 1)) {} := by
        rw [run_loop]
        generalize MC.loop keep88_0 body88_0 = L
        simp (maxSteps := 10000000) [-List.getD_eq_getElem?_getD, -loadA, -ixsA, body88_0, keep88_0, head88, hlt', hw, hix, hlr, hpa, hcap, hcu, hga, hru, hfn]
      rw [key]
      rcases loop88 f hf hpur p g cap hcap hcu himp l0 hg r hr hl l (k + 1) hlt hd with h | ⟨L, j, h1, h2⟩
      · exact .inl (by simpa [hp] using h)
      · exact .inr ⟨L, j, by simpa [hp] using h1, by simpa using h2⟩
    | true =>
      rw [hp] at hga
      right
      have : ∃ L, run Cv 88 (.loop keep88_0 body88_0) (head88 r (.fn (.func g) [] [cap]) l0.length k) {} = some (.rt, mkE 19 .any ((4, I k) :: L), {}) := by
        rw [run_loop]
        simp (maxSteps := 10000000) [-List.getD_eq_getElem?_getD, -loadA, -ixsA, body88_0, keep88_0, head88, hlt', hw, hix, hlr, hpa, hcap, hcu, hga, hru, hfn]
        exact ⟨_, rfl⟩
      obtain ⟨L, hL⟩ := this
      exact ⟨L, k, by simp [hp], hL⟩
theorem any73_call {α : Type} (f : α → List AV) (hf : ∀ a, (f a).length = 9) (hpur : ∀ a σ n, purAll (pur σ (n + 1)) (f a) = some (f a, false)) (p : α → Bool) (g : Nat) (cap : AV) (hcap : ∀ σ n, pur σ (n + 1) cap = some (cap, false)) (hcu : ∀ a b c d n, under a b c d (n + 1) cap = true) (himp : Cv.imp g = false)
    (l0 : List α) (hg : ∀ a, a ∈ l0 → call Cv g [.agg (f a), cap] = some (.bool (p a))) (r : AV) (hr : IsRow 9 (l0.map fun a => .agg (f a)) r) (hl : l0.length < 2 ^ 47) : call Cv 73 [r, .fn (.func g) [] [cap]] = some (.bool (l0.any p)) := by
  have hlen : lenA r = some (I l0.length) := by rw [hr.len]; simp
  have hrp := hr.pur
  have e5 : ((0 : Nat) : Int) = 0 := rfl
  rcases loop88 f hf hpur p g cap hcap hcu himp l0 hg r hr hl l0 0 (Nat.zero_le _) rfl with ⟨h1, L, hl⟩ | ⟨L, j, h1, hl⟩
  · have hl' := fun E (hE : mask keep88_0 E = _) => run_at hl hE
    simp only [keep88_0, head88, e5] at hl'
    have h2 : call Cv 88 [r, .fn (.func g) [] [cap]] = some (I (-1)) := by
      rw [call_run comp88 (Nat.le_of_ble_eq_true rfl)]
      simp (maxSteps := 10000000) [-List.getD_eq_getElem?_getD, code88, hlen, keep88_0, hl']
    rw [h1, call_run comp73 (Nat.le_of_ble_eq_true rfl)]
    simp (maxSteps := 10000000) [-List.getD_eq_getElem?_getD, code73, hrp, hcap, h2]
  · have hl' := fun E (hE : mask keep88_0 E = _) => run_at hl hE
    simp only [keep88_0, head88, e5] at hl'
    have h2 : call Cv 88 [r, .fn (.func g) [] [cap]] = some (I j) := by
      rw [call_run comp88 (Nat.le_of_ble_eq_true rfl)]
      simp (maxSteps := 10000000) [-List.getD_eq_getElem?_getD, code88, hlen, keep88_0, hl']
    have hj : (0 : Int) ≤ j := by omega
    rw [h1, call_run comp73 (Nat.le_of_ble_eq_true rfl)]
    simp (maxSteps := 10000000) [-List.getD_eq_getElem?_getD, code73, hrp, hcap, h2, hj]
end Go.Ai

set_option maxRecDepth 100000
namespace Go.Ai
open Go.Cold (Mv Hd Bk)
theorem fo_b (b : Bool) : fo 12 (.bool b) = true := rfl
theorem fo_i (n : Int) : fo 12 (I n) = true := rfl
attribute [simp] fo_b fo_i
structure CB where
  beds : Int
  days : Int
  begins : Int
  until_ : Int
  oL : Int
  oH : Int
  gL : Int
  gH : Int
  ms : List Mv
  rooms : Int
  hs : List Hd
  mr : AV
  hr : AV
def mvC (m : Mv) : List AV := [I m.bed, I m.day]
def hdC (h : Hd) : List AV := [I h.bed, I h.day, .bool h.cough]
def CB.cells (x : CB) : List AV := [I x.beds, I x.days, I x.begins, I x.until_, I x.oL, I x.oH, I x.gL, I x.gH, x.mr, I x.rooms, x.hr]
def CB.av (x : CB) : AV := .agg x.cells
structure CB.Ok (x : CB) : Prop where
  mrow : IsRow 2 (x.ms.map fun m => .agg (mvC m)) x.mr
  hrow : IsRow 3 (x.hs.map fun h => .agg (hdC h)) x.hr
  lm : x.ms.length < 2 ^ 47
  lh : x.hs.length < 2 ^ 47
def lie (n low high : Int) : Bool := decide (low ≤ n) && decide (n ≤ high)
theorem within_call (n low high : Int) : call Cv 62 [I n, I low, I high] = some (.bool (lie n low high)) := by
  rw [call_run comp62 (Nat.le_of_ble_eq_true rfl)]
  simp +contextual (maxSteps := 10000000) [-List.getD_eq_getElem?_getD, code62, lie]
def spanB (a b : Int) : Bool := decide (1 ≤ a) && (decide (a ≤ b) && (decide (b ≤ 3) && decide (IntKind.wrap .i64 (b - a) ≤ 1)))
theorem isSpan_call (a b : Int) : call Cv 79 [.agg [I a, I b]] = some (.bool (spanB a b)) := by
  rw [call_run comp79 (Nat.le_of_ble_eq_true rfl)]
  simp +contextual (maxSteps := 10000000) [-List.getD_eq_getElem?_getD, code79, spanB, Bool.and_assoc]
def spotB (x : CB) (bed day : Int) : Bool := lie bed 0 (IntKind.wrap .i64 (x.beds - 1)) && lie day 0 (IntKind.wrap .i64 (x.days - 1))
theorem isSpot_call (x : CB) (hx : x.Ok) (bed day : Int) : call Cv 68 [x.av, I bed, I day] = some (.bool (spotB x bed day)) := by
  have h1 := within_call bed 0 (IntKind.wrap .i64 (x.beds - 1))
  have h2 := within_call day 0 (IntKind.wrap .i64 (x.days - 1))
  have p1 := hx.mrow.cell
  have p2 := hx.hrow.cell
  unfold spotB
  generalize lie bed 0 (IntKind.wrap .i64 (x.beds - 1)) = b1 at *
  generalize lie day 0 (IntKind.wrap .i64 (x.days - 1)) = b2 at *
  rw [call_run comp68 (Nat.le_of_ble_eq_true rfl)]
  cases b1 <;> simp (maxSteps := 10000000) [-List.getD_eq_getElem?_getD, code68, CB.av, CB.cells, h1, h2, p1, p2]
theorem same_call (y : Mv) (x : Mv) : call Cv 81 [.agg (mvC y), .rp (mvC x) 0] = some (.bool (decide (y.bed = x.bed))) := by
  rw [call_run comp81 (Nat.le_of_ble_eq_true rfl)]
  simp (maxSteps := 10000000) [-List.getD_eq_getElem?_getD, code81, mvC]
  rfl
theorem mv_pur (m : Mv) (σ : St) (n : Nat) : purAll (pur σ (n + 1)) (mvC m) = some (mvC m, false) := rfl
theorem hd_pur (m : Hd) (σ : St) (n : Nat) : purAll (pur σ (n + 1)) (hdC m) = some (hdC m, false) := rfl
def moveB (x : CB) (k : Nat) (m : Mv) : Bool := spotB x m.bed m.day && (decide (0 < m.day) && !((x.ms.take k).any fun y => decide (y.bed = m.bed)))
def movesB (x : CB) : List Mv → Nat → Bool
  | [], _ => true
  | m :: l, k => moveB x k m && movesB x l (k + 1)
def hearB (x : CB) (h : Hd) : Bool := spotB x h.bed h.day
theorem take_row (x : CB) (hx : x.Ok) {k : Nat} (hk : k ≤ x.ms.length) : ∃ s, slcA 2 x.mr none (some (I k)) none = some s ∧ IsRow 2 ((x.ms.take k).map fun m => .agg (mvC m)) s := by
  rcases hx.mrow with ⟨h, he⟩ | ⟨h, he⟩ | ⟨c, hc, h⟩
  · have : x.ms = [] := by simpa using he
    have hk0 : k = 0 := by rw [this] at hk; simpa using hk
    subst hk0
    exact ⟨.nils, by rw [h]; simp [slcA, boundA], .inl ⟨rfl, by rw [this]; rfl⟩⟩
  · have : x.ms = [] := by simpa using he
    have hk0 : k = 0 := by rw [this] at hk; simpa using hk
    subst hk0
    exact ⟨.esl, by rw [h]; simp [slcA, boundA], .inr (.inl ⟨rfl, by rw [this]; rfl⟩)⟩
  · refine ⟨.sl 2 ((x.ms.map fun m => .agg (mvC m)).take k) (if c = .full ∧ k = x.ms.length then .full else .no), ?_, .inr (.inr ⟨(if c = .full ∧ k = x.ms.length then .full else .no), ?_, ?_⟩)⟩
    · rw [h]
      simp [slcA, boundA, hk]
    · split <;> rfl
    · rw [List.map_take]
theorem isM_call (x : CB) (hx : x.Ok) (m : Mv) {k : Nat} (hk : k ≤ x.ms.length) : ∃ s, slcA 2 x.mr none (some (I k)) none = some s ∧ (∀ σ n, pur σ (n + 1) s = some (s, false)) ∧ (∀ a b c d n, under a b c d (n + 1) s = true) ∧ call Cv 80 [s, .fn (.func 81) [] [.rp (mvC m) 0]] = some (.bool ((x.ms.take k).any fun y => decide (y.bed = m.bed))) := by
  obtain ⟨s, h1, h2⟩ := take_row x hx hk
  refine ⟨s, h1, h2.pur, h2.under, ?_⟩
  exact any80_call mvC (fun _ => rfl) mv_pur (fun y => decide (y.bed = m.bed)) 81 (.rp (mvC m) 0) (fun _ _ => rfl) (fun _ _ _ _ _ => rfl) rfl (x.ms.take k) (fun a _ => same_call a m) s h2 (by have := hx.lm; rw [List.length_take]; omega)
end Go.Ai

set_option maxRecDepth 100000
namespace Go.Ai
open Go.Cold (Mv Hd Bk)
def stC (x : CB) : St := { boxes := [x.cells] }
def head50a (x : CB) (ok : Bool) (k : Int) : Env := mkE 114 .any [(66, I k), (65, I x.ms.length), (64, x.mr), (3, .bool ok), (1, .box 0 0)]
def head50b (x : CB) (ok : Bool) (k : Int) : Env := mkE 114 .any [(98, I k), (97, I x.hs.length), (96, x.hr), (3, .bool ok), (1, .box 0 0)]
theorem mlen {x : CB} (hx : x.Ok) : lenA x.mr = some (I x.ms.length) := by rw [hx.mrow.len]; simp
theorem hlen {x : CB} (hx : x.Ok) : lenA x.hr = some (I x.hs.length) := by rw [hx.hrow.len]; simp
theorem m_ix {x : CB} (hx : x.Ok) {k : Nat} (hk : k < x.ms.length) : ixsA 2 x.mr (I k) = some (.rp (mvC x.ms[k]) 0) := by
  obtain ⟨c, hc, hr'⟩ := hx.mrow.sl (by intro hn; simp at hn; rw [hn] at hk; simp at hk)
  rw [hr']
  simp [ixsA, AV.cells, hk]
theorem h_ix {x : CB} (hx : x.Ok) {k : Nat} (hk : k < x.hs.length) : ixsA 3 x.hr (I k) = some (.rp (hdC x.hs[k]) 0) := by
  obtain ⟨c, hc, hr'⟩ := hx.hrow.sl (by intro hn; simp at hn; rw [hn] at hk; simp at hk)
  rw [hr']
  simp [ixsA, AV.cells, hk]
theorem loop50b (x : CB) (hx : x.Ok) : ∀ (l : List Hd) (k : Nat) (ok : Bool), k ≤ x.hs.length → x.hs.drop k = l →
    ∃ L, run Cv 50 (.loop keep50_1 body50_1) (head50b x ok k) (stC x) = some (.ex 2, mkE 114 .any L, stC x) ∧ gt (mkE 114 .any L) 3 = .bool (ok && l.all (hearB x))
  | [], k, ok, hk, h => by
    obtain rfl := drop_nil hk h
    rw [run_loop]
    simp (maxSteps := 10000000) [-List.getD_eq_getElem?_getD, body50_1, keep50_1, head50b, stC]
    exact ⟨_, rfl, by simp (maxSteps := 10000000) [-List.getD_eq_getElem?_getD, ]⟩
  | t :: l, k, ok, hk, h => by
    obtain ⟨hlt, ha, hd⟩ := head_drop h
    have hw := wrap_succ hlt hx.lh
    have hlt' : (k : Int) < (x.hs.length : Int) := by omega
    have hix := h_ix hx hlt
    rw [ha] at hix
    have hq := isSpot_call x hx t.bed t.day
    have p1 := hx.mrow.pur
    have p2 := hx.hrow.pur
    have u1 := hx.mrow.under
    have u2 := hx.hrow.under
    simp only [CB.av, CB.cells] at hq
    obtain ⟨L, h1, h2⟩ := loop50b x hx l (k + 1) (ok && hearB x t) hlt hd
    refine ⟨L, ?_, by rw [h2, List.all_cons, Bool.and_assoc]⟩
    rw [← h1, run_loop]
    generalize MC.loop keep50_1 body50_1 = L
    cases ok with
    | true =>
      simp (maxSteps := 10000000) [-List.getD_eq_getElem?_getD, -ixsA, body50_1, keep50_1, head50b, stC, hlt', hw, hix, hq, p1, p2, u1, u2, hearB, hdC, CB.cells]
    | false =>
      simp (maxSteps := 10000000) [-List.getD_eq_getElem?_getD, -ixsA, body50_1, keep50_1, head50b, stC, hlt', hw, hix, hq, p1, p2, u1, u2, hearB, hdC, CB.cells]
theorem loop50a (x : CB) (hx : x.Ok) : ∀ (l : List Mv) (k : Nat) (ok : Bool), k ≤ x.ms.length → x.ms.drop k = l →
    ∃ L, run Cv 50 (.loop keep50_0 body50_0) (head50a x ok k) (stC x) = some (.ex 0, mkE 114 .any L, stC x) ∧ gt (mkE 114 .any L) 3 = .bool (ok && movesB x l k) ∧ gt (mkE 114 .any L) 1 = .box 0 0
  | [], k, ok, hk, h => by
    obtain rfl := drop_nil hk h
    rw [run_loop]
    simp (maxSteps := 10000000) [-List.getD_eq_getElem?_getD, body50_0, keep50_0, head50a, stC, movesB]
    exact ⟨_, rfl, by simp (maxSteps := 10000000) [-List.getD_eq_getElem?_getD, ], by simp (maxSteps := 10000000) [-List.getD_eq_getElem?_getD, ]⟩
  | t :: l, k, ok, hk, h => by
    obtain ⟨hlt, ha, hd⟩ := head_drop h
    have hw := wrap_succ hlt hx.lm
    have hlt' : (k : Int) < (x.ms.length : Int) := by omega
    have hix := m_ix hx hlt
    rw [ha] at hix
    have hq := isSpot_call x hx t.bed t.day
    obtain ⟨s, s1, s2, s3, s4⟩ := isM_call x hx t (Nat.le_of_lt hlt)
    have p1 := hx.mrow.pur
    have p2 := hx.hrow.pur
    have u1 := hx.mrow.under
    have u2 := hx.hrow.under
    simp only [CB.av, CB.cells] at hq
    simp only [mvC] at s4
    obtain ⟨L, h1, h2, h3⟩ := loop50a x hx l (k + 1) (ok && moveB x k t) hlt hd
    refine ⟨L, ?_, by rw [h2, movesB, Bool.and_assoc], h3⟩
    rw [← h1, run_loop]
    generalize MC.loop keep50_0 body50_0 = L
    unfold moveB
    generalize spotB x t.bed t.day = b1 at *
    generalize (List.take k x.ms).any (fun y => decide (y.bed = t.bed)) = b2 at *
    cases ok with
    | false =>
      simp (maxSteps := 10000000) [-List.getD_eq_getElem?_getD, -ixsA, body50_0, keep50_0, head50a, stC, hlt', hw, hix, hq, p1, p2, u1, u2, s1, s2, s3, s4, mvC, CB.cells]
    | true =>
      cases b1 with
      | false => simp (maxSteps := 10000000) [-List.getD_eq_getElem?_getD, -ixsA, body50_0, keep50_0, head50a, stC, hlt', hw, hix, hq, p1, p2, u1, u2, s1, s2, s3, s4, mvC, CB.cells]
      | true =>
        by_cases h0 : 0 < t.day
        · simp (maxSteps := 10000000) [-List.getD_eq_getElem?_getD, -ixsA, body50_0, keep50_0, head50a, stC, hlt', hw, hix, hq, p1, p2, u1, u2, s1, s2, s3, s4, mvC, CB.cells, h0]
        · simp (maxSteps := 10000000) [-List.getD_eq_getElem?_getD, -ixsA, body50_0, keep50_0, head50a, stC, hlt', hw, hix, hq, p1, p2, u1, u2, s1, s2, s3, s4, mvC, CB.cells, h0]
theorem shl_beds {n : Int} (h1 : 1 ≤ n) (h2 : n ≤ 5) : ¬ n < 0 ∧ IntKind.wrap .i64 ((2 : Int) ^ min n.toNat (IntKind.bits .i64)) = 2 ^ n.toNat := by
  have : n = 1 ∨ n = 2 ∨ n = 3 ∨ n = 4 ∨ n = 5 := by omega
  rcases this with rfl | rfl | rfl | rfl | rfl <;> exact ⟨by omega, rfl⟩
def okOne (x : CB) : Bool := lie x.beds 1 5 && (lie x.days 1 6 && (lie x.until_ 0 (IntKind.wrap .i64 (x.days - 1)) && (spanB x.oL x.oH && (spanB x.gL x.gH && (lie x.rooms 0 3 && (decide ((x.ms.length : Int) ≤ 3) && decide ((x.hs.length : Int) ≤ 4)))))))
def checkB (x : CB) : Bool := (okOne x && lie x.begins 1 (IntKind.wrap .i64 (2 ^ x.beds.toNat - 1))) && movesB x x.ms 0 && x.hs.all (hearB x)
theorem check_call (x : CB) (hx : x.Ok) : call Cv 50 [x.av] = some (I (if checkB x then 0 else 30)) := by
  have h1 := mlen hx
  have h2 := hlen hx
  have w1 := within_call x.beds 1 5
  have w2 := within_call x.days 1 6
  have w3 := within_call x.until_ 0 (IntKind.wrap .i64 (x.days - 1))
  have w4 := isSpan_call x.oL x.oH
  have w5 := isSpan_call x.gL x.gH
  have w6 := within_call x.rooms 0 3
  have w9 := within_call x.begins 1 (IntKind.wrap .i64 (2 ^ x.beds.toNat - 1))
  have p1 := hx.mrow.cell
  have p2 := hx.hrow.cell
  have q1 := hx.mrow.pur
  have q2 := hx.hrow.pur
  have e5 : ((0 : Nat) : Int) = 0 := rfl
  have hpos : lie x.beds 1 5 = true → 1 ≤ x.beds ∧ x.beds ≤ 5 := fun h => by simpa [lie] using h
  have key : ∀ ok : Bool, ok = (okOne x && lie x.begins 1 (IntKind.wrap .i64 (2 ^ x.beds.toNat - 1))) → call Cv 50 [x.av] = some (I (if (ok && movesB x x.ms 0) && x.hs.all (hearB x) then 0 else 30)) := by
    intro ok hok
    obtain ⟨Lt, lt, lt3, lt1⟩ := loop50a x hx x.ms 0 ok (Nat.zero_le _) rfl
    obtain ⟨Lf, lf, lf3⟩ := loop50b x hx x.hs 0 (ok && movesB x x.ms 0) (Nat.zero_le _) rfl
    generalize (ok && movesB x x.ms 0) = ok2 at *
    have lt' := fun E (hE : mask keep50_0 E = _) => run_at lt hE
    have lf' := fun E (hE : mask keep50_1 E = _) => run_at lf hE
    simp only [keep50_0, head50a, stC, CB.cells, e5] at lt'
    simp only [keep50_1, head50b, stC, CB.cells, e5] at lf'
    generalize x.hs.all (hearB x) = ok3 at *
    unfold okOne at hok
    have hpos : lie x.beds 1 5 = true → true = true → 1 ≤ x.beds ∧ x.beds ≤ 5 := fun h _ => by simpa [lie] using h
    generalize lie x.beds 1 5 = b1 at *
    generalize lie x.days 1 6 = b2 at *
    generalize lie x.until_ 0 (IntKind.wrap .i64 (x.days - 1)) = b3 at *
    generalize spanB x.oL x.oH = b4 at *
    generalize spanB x.gL x.gH = b5 at *
    generalize lie x.rooms 0 3 = b6 at *
    generalize hb7 : decide ((x.ms.length : Int) ≤ 3) = b7 at *
    generalize hb8 : decide ((x.hs.length : Int) ≤ 4) = b8 at *
    generalize lie x.begins 1 (IntKind.wrap .i64 (2 ^ x.beds.toNat - 1)) = b9 at *
    rw [call_run comp50 (Nat.le_of_ble_eq_true rfl)]
    cases b1 with
    | false =>
      simp only [Bool.false_and, Bool.true_and, Bool.and_true, Bool.and_false] at hok
      subst hok; cases hb : (ok2 && ok3) <;> rw [hb] at lf3 <;> simp (maxSteps := 10000000) [-List.getD_eq_getElem?_getD, -List.all_eq_true, code50, CB.av, CB.cells, w1, w2, w3, w4, w5, w6, w9, hb7, hb8, h1, h2, p1, p2, q1, q2, keep50_0, keep50_1, lt', lt3, lt1, lf', lf3]
    | true =>
      cases b2 with
      | false =>
        simp only [Bool.false_and, Bool.true_and, Bool.and_true, Bool.and_false] at hok
        subst hok; cases hb : (ok2 && ok3) <;> rw [hb] at lf3 <;> simp (maxSteps := 10000000) [-List.getD_eq_getElem?_getD, -List.all_eq_true, code50, CB.av, CB.cells, w1, w2, w3, w4, w5, w6, w9, hb7, hb8, h1, h2, p1, p2, q1, q2, keep50_0, keep50_1, lt', lt3, lt1, lf', lf3]
      | true =>
        cases b3 with
        | false =>
          simp only [Bool.false_and, Bool.true_and, Bool.and_true, Bool.and_false] at hok
          subst hok; cases hb : (ok2 && ok3) <;> rw [hb] at lf3 <;> simp (maxSteps := 10000000) [-List.getD_eq_getElem?_getD, -List.all_eq_true, code50, CB.av, CB.cells, w1, w2, w3, w4, w5, w6, w9, hb7, hb8, h1, h2, p1, p2, q1, q2, keep50_0, keep50_1, lt', lt3, lt1, lf', lf3]
        | true =>
          cases b4 with
          | false =>
            simp only [Bool.false_and, Bool.true_and, Bool.and_true, Bool.and_false] at hok
            subst hok; cases hb : (ok2 && ok3) <;> rw [hb] at lf3 <;> simp (maxSteps := 10000000) [-List.getD_eq_getElem?_getD, -List.all_eq_true, code50, CB.av, CB.cells, w1, w2, w3, w4, w5, w6, w9, hb7, hb8, h1, h2, p1, p2, q1, q2, keep50_0, keep50_1, lt', lt3, lt1, lf', lf3]
          | true =>
            cases b5 with
            | false =>
              simp only [Bool.false_and, Bool.true_and, Bool.and_true, Bool.and_false] at hok
              subst hok; cases hb : (ok2 && ok3) <;> rw [hb] at lf3 <;> simp (maxSteps := 10000000) [-List.getD_eq_getElem?_getD, -List.all_eq_true, code50, CB.av, CB.cells, w1, w2, w3, w4, w5, w6, w9, hb7, hb8, h1, h2, p1, p2, q1, q2, keep50_0, keep50_1, lt', lt3, lt1, lf', lf3]
            | true =>
              cases b6 with
              | false =>
                simp only [Bool.false_and, Bool.true_and, Bool.and_true, Bool.and_false] at hok
                subst hok; cases hb : (ok2 && ok3) <;> rw [hb] at lf3 <;> simp (maxSteps := 10000000) [-List.getD_eq_getElem?_getD, -List.all_eq_true, code50, CB.av, CB.cells, w1, w2, w3, w4, w5, w6, w9, hb7, hb8, h1, h2, p1, p2, q1, q2, keep50_0, keep50_1, lt', lt3, lt1, lf', lf3]
              | true =>
                cases b7 with
                | false =>
                  simp only [Bool.false_and, Bool.true_and, Bool.and_true, Bool.and_false] at hok
                  subst hok; cases hb : (ok2 && ok3) <;> rw [hb] at lf3 <;> simp (maxSteps := 10000000) [-List.getD_eq_getElem?_getD, -List.all_eq_true, code50, CB.av, CB.cells, w1, w2, w3, w4, w5, w6, w9, hb7, hb8, h1, h2, p1, p2, q1, q2, keep50_0, keep50_1, lt', lt3, lt1, lf', lf3]
                | true =>
                  cases b8 with
                  | false =>
                    simp only [Bool.false_and, Bool.true_and, Bool.and_true, Bool.and_false] at hok
                    subst hok; cases hb : (ok2 && ok3) <;> rw [hb] at lf3 <;> simp (maxSteps := 10000000) [-List.getD_eq_getElem?_getD, -List.all_eq_true, code50, CB.av, CB.cells, w1, w2, w3, w4, w5, w6, w9, hb7, hb8, h1, h2, p1, p2, q1, q2, keep50_0, keep50_1, lt', lt3, lt1, lf', lf3]
                  | true =>
                    cases b9 with
                    | false =>
                      obtain ⟨hp1, hp2⟩ := hpos rfl rfl
                      obtain ⟨hsh1, hsh⟩ := shl_beds hp1 hp2
                      simp only [Bool.false_and, Bool.true_and, Bool.and_true, Bool.and_false] at hok
                      subst hok; cases hb : (ok2 && ok3) <;> rw [hb] at lf3 <;> simp (maxSteps := 10000000) [-List.getD_eq_getElem?_getD, -List.all_eq_true, code50, CB.av, CB.cells, w1, w2, w3, w4, w5, w6, w9, hb7, hb8, h1, h2, p1, p2, q1, q2, keep50_0, keep50_1, lt', lt3, lt1, lf', lf3, hsh1, hsh]
                    | true =>
                      obtain ⟨hp1, hp2⟩ := hpos rfl rfl
                      obtain ⟨hsh1, hsh⟩ := shl_beds hp1 hp2
                      simp only [Bool.and_true, Bool.true_and] at hok
                      subst hok; cases hb : (ok2 && ok3) <;> rw [hb] at lf3 <;> simp (maxSteps := 10000000) [-List.getD_eq_getElem?_getD, -List.all_eq_true, code50, CB.av, CB.cells, w1, w2, w3, w4, w5, w6, w9, hb7, hb8, h1, h2, p1, p2, q1, q2, keep50_0, keep50_1, lt', lt3, lt1, lf', lf3, hsh1, hsh]
  have := key _ rfl
  rw [this]
  rfl
end Go.Ai
