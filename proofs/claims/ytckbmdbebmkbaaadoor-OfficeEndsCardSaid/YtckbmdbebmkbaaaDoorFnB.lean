/- This text shows places in rows. No conditions of its own. -/
import Derived.Test.YtckbmdbebmkbaaaDoorFnA
set_option linter.unusedSimpArgs false
set_option linter.unusedVariables false
set_option maxRecDepth 100000
namespace Go.Ai
def idxP {α : Type} (p : α → Bool) : List α → Nat → Int
  | [], _ => -1
  | a :: l, k => if p a then k else idxP p l (k + 1)
theorem idxP_nonneg {α : Type} (p : α → Bool) : ∀ (l : List α) (k : Nat), decide (0 ≤ idxP p l k) = l.any p
  | [], k => rfl
  | a :: l, k => by
    rw [idxP, List.any_cons]
    cases h : p a with
    | true => simp
    | false => simp [idxP_nonneg p l (k + 1)]

def head80 (r F : AV) (n k : Int) : Env := mkE 19 .any [(8, I k), (7, I n), (1, F), (0, r)]
theorem loop80 {α : Type} (f : α → AV) (hf : ∀ a, (f a).cells.length = 3) (hld : ∀ a σ, loadA σ (some 3) (.rp (f a).cells 0) = some (f a)) (hpur : ∀ a σ n, pur σ (n + 4) (f a) = some (f a, false)) (p : α → Bool) (g : Nat) (cap : List AV) (hcap : ∀ σ n, purAll (pur σ (n + 1)) cap = some (cap, false)) (hcu : ∀ a b c d n, cap.all (under a b c d (n + 1)) = true) (himp : Cv.imp g = false)
    (l0 : List α) (hg : ∀ a, a ∈ l0 → call Cv g (f a :: cap) = some (.bool (p a))) (r : AV) (hr : IsRow 3 (l0.map f) r) (hl : l0.length < 2 ^ 47) : ∀ (l : List α) (k : Nat), k ≤ l0.length → l0.drop k = l →
    (idxP p l k = -1 ∧ ∃ L, run Cv 80 (.loop keep80_0 body80_0) (head80 r (.fn (.func g) [] cap) l0.length k) {} = some (.ex 0, mkE 19 .any L, {})) ∨ ∃ L, idxP p l k ≠ -1 ∧ run Cv 80 (.loop keep80_0 body80_0) (head80 r (.fn (.func g) [] cap) l0.length k) {} = some (.rt, mkE 19 .any ((4, I (idxP p l k)) :: L), {})
  | [], k, hk, h => by
    obtain rfl := drop_nil hk h
    refine .inl ⟨rfl, ?_⟩
    rw [run_loop]
    simp (maxSteps := 10000000) [-List.getD_eq_getElem?_getD, body80_0, keep80_0, head80]
    exact ⟨_, rfl⟩
  | a :: l, k, hk, h => by
    obtain ⟨hlt, ha, hd⟩ := head_drop h
    have hw := wrap_succ hlt hl
    have hlt' : (k : Int) < (l0.length : Int) := by omega
    have hix : ixsA 3 r (I k) = some (.rp (f a).cells 0) := by
      obtain ⟨c, hc, hr'⟩ := hr.sl (by intro hn; simp at hn; rw [hn] at hlt; simp at hlt)
      rw [hr']
      simp [ixsA, hlt, ha]
    have hlr := hld a
    have hga := hg a (by rw [← ha]; exact List.getElem_mem _)
    have hpa := hpur a
    have hpa2 : ∀ σ, purAll (pur σ 12) (f a :: cap) = some (f a :: cap, false) := fun σ => by rw [purAll, hpa σ 8, Option.bind_some, hcap σ 11]; rfl
    have hfn : ∀ σ, callA Cv (run Cv) false (.fn (.func g) [] cap) [f a] σ = some (.bool (p a), σ) := fun σ => by
      rw [ca_none himp, List.nil_append, List.singleton_append, hpa2 σ]
      simp only [pureCallA, pureA_call, hga, backA, Bool.false_eq_true, if_false]
    have hru := hr.under
    have hfu : ∀ a b c d, under a b c d 6 (.fn (.func g) [] cap) = true := fun a b c d => by simp [under, hcu a b c d 4]
    cases hp : p a with
    | false =>
      rw [hp] at hfn
      have key : run Cv 80 (.loop keep80_0 body80_0) (head80 r (.fn (.func g) [] cap) l0.length k) {} = run Cv 80 (.loop keep80_0 body80_0) (head80 r (.fn (.func g) [] cap) l0.length ((k : Int) + 1)) {} := by
        rw [run_loop]
        generalize MC.loop keep80_0 body80_0 = L
        simp (maxSteps := 10000000) [-List.getD_eq_getElem?_getD, -loadA, -ixsA, -un_fn, body80_0, keep80_0, head80, hlt', hw, hix, hlr, hfn, hru, hfu]
      rw [key]
      have e : idxP p (a :: l) k = idxP p l (k + 1) := by rw [idxP, hp]; rfl
      rw [e]
      rcases loop80 f hf hld hpur p g cap hcap hcu himp l0 hg r hr hl l (k + 1) hlt hd with h | h
      · exact .inl h
      · exact .inr h
    | true =>
      rw [hp] at hfn
      right
      have e : idxP p (a :: l) k = k := by rw [idxP, hp]; rfl
      rw [e]
      have : ∃ L, run Cv 80 (.loop keep80_0 body80_0) (head80 r (.fn (.func g) [] cap) l0.length k) {} = some (.rt, mkE 19 .any ((4, I k) :: L), {}) := by
        rw [run_loop]
        simp (maxSteps := 10000000) [-List.getD_eq_getElem?_getD, -loadA, -ixsA, -un_fn, body80_0, keep80_0, head80, hlt', hw, hix, hlr, hfn, hru, hfu]
        exact ⟨_, rfl⟩
      obtain ⟨L, hL⟩ := this
      exact ⟨L, by omega, hL⟩
theorem idx80_call {α : Type} (f : α → AV) (hf : ∀ a, (f a).cells.length = 3) (hld : ∀ a σ, loadA σ (some 3) (.rp (f a).cells 0) = some (f a)) (hpur : ∀ a σ n, pur σ (n + 4) (f a) = some (f a, false)) (p : α → Bool) (g : Nat) (cap : List AV) (hcap : ∀ σ n, purAll (pur σ (n + 1)) cap = some (cap, false)) (hcu : ∀ a b c d n, cap.all (under a b c d (n + 1)) = true) (himp : Cv.imp g = false)
    (l0 : List α) (hg : ∀ a, a ∈ l0 → call Cv g (f a :: cap) = some (.bool (p a))) (r : AV) (hr : IsRow 3 (l0.map f) r) (hl : l0.length < 2 ^ 47) : call Cv 80 [r, .fn (.func g) [] cap] = some (I (idxP p l0 0)) := by
  have hlen : lenA r = some (I l0.length) := by rw [hr.len]; simp
  have e5 : ((0 : Nat) : Int) = 0 := rfl
  rcases loop80 f hf hld hpur p g cap hcap hcu himp l0 hg r hr hl l0 0 (Nat.zero_le _) rfl with ⟨h1, L, hl⟩ | ⟨L, h1, hl⟩
  · have hl' := fun E (hE : mask keep80_0 E = _) => run_at hl hE
    simp only [keep80_0, head80, e5] at hl'
    rw [h1, call_run comp80 (Nat.le_of_ble_eq_true rfl)]
    simp (maxSteps := 10000000) [-List.getD_eq_getElem?_getD, code80, hlen, keep80_0, hl']
  · have hl' := fun E (hE : mask keep80_0 E = _) => run_at hl hE
    simp only [keep80_0, head80, e5] at hl'
    rw [call_run comp80 (Nat.le_of_ble_eq_true rfl)]
    simp (maxSteps := 10000000) [-List.getD_eq_getElem?_getD, code80, hlen, keep80_0, hl']

def head111 (r F : AV) (n k : Int) : Env := mkE 19 .any [(8, I k), (7, I n), (1, F), (0, r)]
theorem loop111 {α : Type} (f : α → AV) (hf : ∀ a, (f a).cells.length = 3) (hld : ∀ a σ, loadA σ (some 3) (.rp (f a).cells 0) = some (f a)) (hpur : ∀ a σ n, pur σ (n + 4) (f a) = some (f a, false)) (p : α → Bool) (g : Nat) (cap : List AV) (hcap : ∀ σ n, purAll (pur σ (n + 1)) cap = some (cap, false)) (hcu : ∀ a b c d n, cap.all (under a b c d (n + 1)) = true) (himp : Cv.imp g = false)
    (l0 : List α) (hg : ∀ a, a ∈ l0 → call Cv g (f a :: cap) = some (.bool (p a))) (r : AV) (hr : IsRow 3 (l0.map f) r) (hl : l0.length < 2 ^ 47) : ∀ (l : List α) (k : Nat), k ≤ l0.length → l0.drop k = l →
    (idxP p l k = -1 ∧ ∃ L, run Cv 111 (.loop keep111_0 body111_0) (head111 r (.fn (.func g) [] cap) l0.length k) {} = some (.ex 0, mkE 19 .any L, {})) ∨ ∃ L, idxP p l k ≠ -1 ∧ run Cv 111 (.loop keep111_0 body111_0) (head111 r (.fn (.func g) [] cap) l0.length k) {} = some (.rt, mkE 19 .any ((4, I (idxP p l k)) :: L), {})
  | [], k, hk, h => by
    obtain rfl := drop_nil hk h
    refine .inl ⟨rfl, ?_⟩
    rw [run_loop]
    simp (maxSteps := 10000000) [-List.getD_eq_getElem?_getD, body111_0, keep111_0, head111]
    exact ⟨_, rfl⟩
  | a :: l, k, hk, h => by
    obtain ⟨hlt, ha, hd⟩ := head_drop h
    have hw := wrap_succ hlt hl
    have hlt' : (k : Int) < (l0.length : Int) := by omega
    have hix : ixsA 3 r (I k) = some (.rp (f a).cells 0) := by
      obtain ⟨c, hc, hr'⟩ := hr.sl (by intro hn; simp at hn; rw [hn] at hlt; simp at hlt)
      rw [hr']
      simp [ixsA, hlt, ha]
    have hlr := hld a
    have hga := hg a (by rw [← ha]; exact List.getElem_mem _)
    have hpa := hpur a
    have hpa2 : ∀ σ, purAll (pur σ 12) (f a :: cap) = some (f a :: cap, false) := fun σ => by rw [purAll, hpa σ 8, Option.bind_some, hcap σ 11]; rfl
    have hfn : ∀ σ, callA Cv (run Cv) false (.fn (.func g) [] cap) [f a] σ = some (.bool (p a), σ) := fun σ => by
      rw [ca_none himp, List.nil_append, List.singleton_append, hpa2 σ]
      simp only [pureCallA, pureA_call, hga, backA, Bool.false_eq_true, if_false]
    have hru := hr.under
    have hfu : ∀ a b c d, under a b c d 6 (.fn (.func g) [] cap) = true := fun a b c d => by simp [under, hcu a b c d 4]
    cases hp : p a with
    | false =>
      rw [hp] at hfn
      have key : run Cv 111 (.loop keep111_0 body111_0) (head111 r (.fn (.func g) [] cap) l0.length k) {} = run Cv 111 (.loop keep111_0 body111_0) (head111 r (.fn (.func g) [] cap) l0.length ((k : Int) + 1)) {} := by
        rw [run_loop]
        generalize MC.loop keep111_0 body111_0 = L
        simp (maxSteps := 10000000) [-List.getD_eq_getElem?_getD, -loadA, -ixsA, -un_fn, body111_0, keep111_0, head111, hlt', hw, hix, hlr, hfn, hru, hfu]
      rw [key]
      have e : idxP p (a :: l) k = idxP p l (k + 1) := by rw [idxP, hp]; rfl
      rw [e]
      rcases loop111 f hf hld hpur p g cap hcap hcu himp l0 hg r hr hl l (k + 1) hlt hd with h | h
      · exact .inl h
      · exact .inr h
    | true =>
      rw [hp] at hfn
      right
      have e : idxP p (a :: l) k = k := by rw [idxP, hp]; rfl
      rw [e]
      have : ∃ L, run Cv 111 (.loop keep111_0 body111_0) (head111 r (.fn (.func g) [] cap) l0.length k) {} = some (.rt, mkE 19 .any ((4, I k) :: L), {}) := by
        rw [run_loop]
        simp (maxSteps := 10000000) [-List.getD_eq_getElem?_getD, -loadA, -ixsA, -un_fn, body111_0, keep111_0, head111, hlt', hw, hix, hlr, hfn, hru, hfu]
        exact ⟨_, rfl⟩
      obtain ⟨L, hL⟩ := this
      exact ⟨L, by omega, hL⟩
theorem idx111_call {α : Type} (f : α → AV) (hf : ∀ a, (f a).cells.length = 3) (hld : ∀ a σ, loadA σ (some 3) (.rp (f a).cells 0) = some (f a)) (hpur : ∀ a σ n, pur σ (n + 4) (f a) = some (f a, false)) (p : α → Bool) (g : Nat) (cap : List AV) (hcap : ∀ σ n, purAll (pur σ (n + 1)) cap = some (cap, false)) (hcu : ∀ a b c d n, cap.all (under a b c d (n + 1)) = true) (himp : Cv.imp g = false)
    (l0 : List α) (hg : ∀ a, a ∈ l0 → call Cv g (f a :: cap) = some (.bool (p a))) (r : AV) (hr : IsRow 3 (l0.map f) r) (hl : l0.length < 2 ^ 47) : call Cv 111 [r, .fn (.func g) [] cap] = some (I (idxP p l0 0)) := by
  have hlen : lenA r = some (I l0.length) := by rw [hr.len]; simp
  have e5 : ((0 : Nat) : Int) = 0 := rfl
  rcases loop111 f hf hld hpur p g cap hcap hcu himp l0 hg r hr hl l0 0 (Nat.zero_le _) rfl with ⟨h1, L, hl⟩ | ⟨L, h1, hl⟩
  · have hl' := fun E (hE : mask keep111_0 E = _) => run_at hl hE
    simp only [keep111_0, head111, e5] at hl'
    rw [h1, call_run comp111 (Nat.le_of_ble_eq_true rfl)]
    simp (maxSteps := 10000000) [-List.getD_eq_getElem?_getD, code111, hlen, keep111_0, hl']
  · have hl' := fun E (hE : mask keep111_0 E = _) => run_at hl hE
    simp only [keep111_0, head111, e5] at hl'
    rw [call_run comp111 (Nat.le_of_ble_eq_true rfl)]
    simp (maxSteps := 10000000) [-List.getD_eq_getElem?_getD, code111, hlen, keep111_0, hl']
theorem any103_call {α : Type} (f : α → AV) (hf : ∀ a, (f a).cells.length = 3) (hld : ∀ a σ, loadA σ (some 3) (.rp (f a).cells 0) = some (f a)) (hpur : ∀ a σ n, pur σ (n + 4) (f a) = some (f a, false)) (p : α → Bool) (g : Nat) (cap : List AV) (hcap : ∀ σ n, purAll (pur σ (n + 1)) cap = some (cap, false)) (hcu : ∀ a b c d n, cap.all (under a b c d (n + 1)) = true) (himp : Cv.imp g = false)
    (l0 : List α) (hg : ∀ a, a ∈ l0 → call Cv g (f a :: cap) = some (.bool (p a))) (r : AV) (hr : IsRow 3 (l0.map f) r) (hl : l0.length < 2 ^ 47) : call Cv 103 [r, .fn (.func g) [] cap] = some (.bool (l0.any p)) := by
  have h2 := idx111_call f hf hld hpur p g cap hcap hcu himp l0 hg r hr hl
  have hrp := hr.pur
  have hcap' := fun σ => hcap σ 10
  have hq := idxP_nonneg p l0 0
  generalize hi : idxP p l0 0 = i at *
  rw [← hq, call_run comp103 (Nat.le_of_ble_eq_true rfl)]
  simp (maxSteps := 10000000) [-List.getD_eq_getElem?_getD, code103, hrp, hcap', h2]

def head71 (r F : AV) (n k : Int) : Env := mkE 19 .any [(8, I k), (7, I n), (1, F), (0, r)]
theorem loop71 {α : Type} (f : α → AV) (hf : ∀ a, (f a).cells.length = 7) (hld : ∀ a σ, loadA σ (some 7) (.rp (f a).cells 0) = some (f a)) (hpur : ∀ a σ n, pur σ (n + 4) (f a) = some (f a, false)) (p : α → Bool) (g : Nat) (cap : List AV) (hcap : ∀ σ n, purAll (pur σ (n + 1)) cap = some (cap, false)) (hcu : ∀ a b c d n, cap.all (under a b c d (n + 1)) = true) (himp : Cv.imp g = false)
    (l0 : List α) (hg : ∀ a, a ∈ l0 → call Cv g (f a :: cap) = some (.bool (p a))) (r : AV) (hr : IsRow 7 (l0.map f) r) (hl : l0.length < 2 ^ 47) : ∀ (l : List α) (k : Nat), k ≤ l0.length → l0.drop k = l →
    (idxP p l k = -1 ∧ ∃ L, run Cv 71 (.loop keep71_0 body71_0) (head71 r (.fn (.func g) [] cap) l0.length k) {} = some (.ex 0, mkE 19 .any L, {})) ∨ ∃ L, idxP p l k ≠ -1 ∧ run Cv 71 (.loop keep71_0 body71_0) (head71 r (.fn (.func g) [] cap) l0.length k) {} = some (.rt, mkE 19 .any ((4, I (idxP p l k)) :: L), {})
  | [], k, hk, h => by
    obtain rfl := drop_nil hk h
    refine .inl ⟨rfl, ?_⟩
    rw [run_loop]
    simp (maxSteps := 10000000) [-List.getD_eq_getElem?_getD, body71_0, keep71_0, head71]
    exact ⟨_, rfl⟩
  | a :: l, k, hk, h => by
    obtain ⟨hlt, ha, hd⟩ := head_drop h
    have hw := wrap_succ hlt hl
    have hlt' : (k : Int) < (l0.length : Int) := by omega
    have hix : ixsA 7 r (I k) = some (.rp (f a).cells 0) := by
      obtain ⟨c, hc, hr'⟩ := hr.sl (by intro hn; simp at hn; rw [hn] at hlt; simp at hlt)
      rw [hr']
      simp [ixsA, hlt, ha]
    have hlr := hld a
    have hga := hg a (by rw [← ha]; exact List.getElem_mem _)
    have hpa := hpur a
    have hpa2 : ∀ σ, purAll (pur σ 12) (f a :: cap) = some (f a :: cap, false) := fun σ => by rw [purAll, hpa σ 8, Option.bind_some, hcap σ 11]; rfl
    have hfn : ∀ σ, callA Cv (run Cv) false (.fn (.func g) [] cap) [f a] σ = some (.bool (p a), σ) := fun σ => by
      rw [ca_none himp, List.nil_append, List.singleton_append, hpa2 σ]
      simp only [pureCallA, pureA_call, hga, backA, Bool.false_eq_true, if_false]
    have hru := hr.under
    have hfu : ∀ a b c d, under a b c d 6 (.fn (.func g) [] cap) = true := fun a b c d => by simp [under, hcu a b c d 4]
    cases hp : p a with
    | false =>
      rw [hp] at hfn
      have key : run Cv 71 (.loop keep71_0 body71_0) (head71 r (.fn (.func g) [] cap) l0.length k) {} = run Cv 71 (.loop keep71_0 body71_0) (head71 r (.fn (.func g) [] cap) l0.length ((k : Int) + 1)) {} := by
        rw [run_loop]
        generalize MC.loop keep71_0 body71_0 = L
        simp (maxSteps := 10000000) [-List.getD_eq_getElem?_getD, -loadA, -ixsA, -un_fn, body71_0, keep71_0, head71, hlt', hw, hix, hlr, hfn, hru, hfu]
      rw [key]
      have e : idxP p (a :: l) k = idxP p l (k + 1) := by rw [idxP, hp]; rfl
      rw [e]
      rcases loop71 f hf hld hpur p g cap hcap hcu himp l0 hg r hr hl l (k + 1) hlt hd with h | h
      · exact .inl h
      · exact .inr h
    | true =>
      rw [hp] at hfn
      right
      have e : idxP p (a :: l) k = k := by rw [idxP, hp]; rfl
      rw [e]
      have : ∃ L, run Cv 71 (.loop keep71_0 body71_0) (head71 r (.fn (.func g) [] cap) l0.length k) {} = some (.rt, mkE 19 .any ((4, I k) :: L), {}) := by
        rw [run_loop]
        simp (maxSteps := 10000000) [-List.getD_eq_getElem?_getD, -loadA, -ixsA, -un_fn, body71_0, keep71_0, head71, hlt', hw, hix, hlr, hfn, hru, hfu]
        exact ⟨_, rfl⟩
      obtain ⟨L, hL⟩ := this
      exact ⟨L, by omega, hL⟩
theorem idx71_call {α : Type} (f : α → AV) (hf : ∀ a, (f a).cells.length = 7) (hld : ∀ a σ, loadA σ (some 7) (.rp (f a).cells 0) = some (f a)) (hpur : ∀ a σ n, pur σ (n + 4) (f a) = some (f a, false)) (p : α → Bool) (g : Nat) (cap : List AV) (hcap : ∀ σ n, purAll (pur σ (n + 1)) cap = some (cap, false)) (hcu : ∀ a b c d n, cap.all (under a b c d (n + 1)) = true) (himp : Cv.imp g = false)
    (l0 : List α) (hg : ∀ a, a ∈ l0 → call Cv g (f a :: cap) = some (.bool (p a))) (r : AV) (hr : IsRow 7 (l0.map f) r) (hl : l0.length < 2 ^ 47) : call Cv 71 [r, .fn (.func g) [] cap] = some (I (idxP p l0 0)) := by
  have hlen : lenA r = some (I l0.length) := by rw [hr.len]; simp
  have e5 : ((0 : Nat) : Int) = 0 := rfl
  rcases loop71 f hf hld hpur p g cap hcap hcu himp l0 hg r hr hl l0 0 (Nat.zero_le _) rfl with ⟨h1, L, hl⟩ | ⟨L, h1, hl⟩
  · have hl' := fun E (hE : mask keep71_0 E = _) => run_at hl hE
    simp only [keep71_0, head71, e5] at hl'
    rw [h1, call_run comp71 (Nat.le_of_ble_eq_true rfl)]
    simp (maxSteps := 10000000) [-List.getD_eq_getElem?_getD, code71, hlen, keep71_0, hl']
  · have hl' := fun E (hE : mask keep71_0 E = _) => run_at hl hE
    simp only [keep71_0, head71, e5] at hl'
    rw [call_run comp71 (Nat.le_of_ble_eq_true rfl)]
    simp (maxSteps := 10000000) [-List.getD_eq_getElem?_getD, code71, hlen, keep71_0, hl']
theorem any51_call {α : Type} (f : α → AV) (hf : ∀ a, (f a).cells.length = 7) (hld : ∀ a σ, loadA σ (some 7) (.rp (f a).cells 0) = some (f a)) (hpur : ∀ a σ n, pur σ (n + 4) (f a) = some (f a, false)) (p : α → Bool) (g : Nat) (cap : List AV) (hcap : ∀ σ n, purAll (pur σ (n + 1)) cap = some (cap, false)) (hcu : ∀ a b c d n, cap.all (under a b c d (n + 1)) = true) (himp : Cv.imp g = false)
    (l0 : List α) (hg : ∀ a, a ∈ l0 → call Cv g (f a :: cap) = some (.bool (p a))) (r : AV) (hr : IsRow 7 (l0.map f) r) (hl : l0.length < 2 ^ 47) : call Cv 51 [r, .fn (.func g) [] cap] = some (.bool (l0.any p)) := by
  have h2 := idx71_call f hf hld hpur p g cap hcap hcu himp l0 hg r hr hl
  have hrp := hr.pur
  have hcap' := fun σ => hcap σ 10
  have hq := idxP_nonneg p l0 0
  generalize hi : idxP p l0 0 = i at *
  rw [← hq, call_run comp51 (Nat.le_of_ble_eq_true rfl)]
  simp (maxSteps := 10000000) [-List.getD_eq_getElem?_getD, code51, hrp, hcap', h2]

def head90 (r F : AV) (n k : Int) : Env := mkE 19 .any [(8, I k), (7, I n), (1, F), (0, r)]
theorem loop90 {α : Type} (f : α → AV) (hf : ∀ a, (f a).cells.length = 1) (hld : ∀ a σ, loadA σ none (.rp (f a).cells 0) = some (f a)) (hpur : ∀ a σ n, pur σ (n + 4) (f a) = some (f a, false)) (p : α → Bool) (g : Nat) (cap : List AV) (hcap : ∀ σ n, purAll (pur σ (n + 1)) cap = some (cap, false)) (hcu : ∀ a b c d n, cap.all (under a b c d (n + 1)) = true) (himp : Cv.imp g = false)
    (l0 : List α) (hg : ∀ a, a ∈ l0 → call Cv g (f a :: cap) = some (.bool (p a))) (r : AV) (hr : IsRow 1 (l0.map f) r) (hl : l0.length < 2 ^ 47) : ∀ (l : List α) (k : Nat), k ≤ l0.length → l0.drop k = l →
    (idxP p l k = -1 ∧ ∃ L, run Cv 90 (.loop keep90_0 body90_0) (head90 r (.fn (.func g) [] cap) l0.length k) {} = some (.ex 0, mkE 19 .any L, {})) ∨ ∃ L, idxP p l k ≠ -1 ∧ run Cv 90 (.loop keep90_0 body90_0) (head90 r (.fn (.func g) [] cap) l0.length k) {} = some (.rt, mkE 19 .any ((4, I (idxP p l k)) :: L), {})
  | [], k, hk, h => by
    obtain rfl := drop_nil hk h
    refine .inl ⟨rfl, ?_⟩
    rw [run_loop]
    simp (maxSteps := 10000000) [-List.getD_eq_getElem?_getD, body90_0, keep90_0, head90]
    exact ⟨_, rfl⟩
  | a :: l, k, hk, h => by
    obtain ⟨hlt, ha, hd⟩ := head_drop h
    have hw := wrap_succ hlt hl
    have hlt' : (k : Int) < (l0.length : Int) := by omega
    have hix : ixsA 1 r (I k) = some (.rp (f a).cells 0) := by
      obtain ⟨c, hc, hr'⟩ := hr.sl (by intro hn; simp at hn; rw [hn] at hlt; simp at hlt)
      rw [hr']
      simp [ixsA, hlt, ha]
    have hlr := hld a
    have hga := hg a (by rw [← ha]; exact List.getElem_mem _)
    have hpa := hpur a
    have hpa2 : ∀ σ, purAll (pur σ 12) (f a :: cap) = some (f a :: cap, false) := fun σ => by rw [purAll, hpa σ 8, Option.bind_some, hcap σ 11]; rfl
    have hfn : ∀ σ, callA Cv (run Cv) false (.fn (.func g) [] cap) [f a] σ = some (.bool (p a), σ) := fun σ => by
      rw [ca_none himp, List.nil_append, List.singleton_append, hpa2 σ]
      simp only [pureCallA, pureA_call, hga, backA, Bool.false_eq_true, if_false]
    have hru := hr.under
    have hfu : ∀ a b c d, under a b c d 6 (.fn (.func g) [] cap) = true := fun a b c d => by simp [under, hcu a b c d 4]
    cases hp : p a with
    | false =>
      rw [hp] at hfn
      have key : run Cv 90 (.loop keep90_0 body90_0) (head90 r (.fn (.func g) [] cap) l0.length k) {} = run Cv 90 (.loop keep90_0 body90_0) (head90 r (.fn (.func g) [] cap) l0.length ((k : Int) + 1)) {} := by
        rw [run_loop]
        generalize MC.loop keep90_0 body90_0 = L
        simp (maxSteps := 10000000) [-List.getD_eq_getElem?_getD, -loadA, -ixsA, -un_fn, body90_0, keep90_0, head90, hlt', hw, hix, hlr, hfn, hru, hfu]
      rw [key]
      have e : idxP p (a :: l) k = idxP p l (k + 1) := by rw [idxP, hp]; rfl
      rw [e]
      rcases loop90 f hf hld hpur p g cap hcap hcu himp l0 hg r hr hl l (k + 1) hlt hd with h | h
      · exact .inl h
      · exact .inr h
    | true =>
      rw [hp] at hfn
      right
      have e : idxP p (a :: l) k = k := by rw [idxP, hp]; rfl
      rw [e]
      have : ∃ L, run Cv 90 (.loop keep90_0 body90_0) (head90 r (.fn (.func g) [] cap) l0.length k) {} = some (.rt, mkE 19 .any ((4, I k) :: L), {}) := by
        rw [run_loop]
        simp (maxSteps := 10000000) [-List.getD_eq_getElem?_getD, -loadA, -ixsA, -un_fn, body90_0, keep90_0, head90, hlt', hw, hix, hlr, hfn, hru, hfu]
        exact ⟨_, rfl⟩
      obtain ⟨L, hL⟩ := this
      exact ⟨L, by omega, hL⟩
theorem idx90_call {α : Type} (f : α → AV) (hf : ∀ a, (f a).cells.length = 1) (hld : ∀ a σ, loadA σ none (.rp (f a).cells 0) = some (f a)) (hpur : ∀ a σ n, pur σ (n + 4) (f a) = some (f a, false)) (p : α → Bool) (g : Nat) (cap : List AV) (hcap : ∀ σ n, purAll (pur σ (n + 1)) cap = some (cap, false)) (hcu : ∀ a b c d n, cap.all (under a b c d (n + 1)) = true) (himp : Cv.imp g = false)
    (l0 : List α) (hg : ∀ a, a ∈ l0 → call Cv g (f a :: cap) = some (.bool (p a))) (r : AV) (hr : IsRow 1 (l0.map f) r) (hl : l0.length < 2 ^ 47) : call Cv 90 [r, .fn (.func g) [] cap] = some (I (idxP p l0 0)) := by
  have hlen : lenA r = some (I l0.length) := by rw [hr.len]; simp
  have e5 : ((0 : Nat) : Int) = 0 := rfl
  rcases loop90 f hf hld hpur p g cap hcap hcu himp l0 hg r hr hl l0 0 (Nat.zero_le _) rfl with ⟨h1, L, hl⟩ | ⟨L, h1, hl⟩
  · have hl' := fun E (hE : mask keep90_0 E = _) => run_at hl hE
    simp only [keep90_0, head90, e5] at hl'
    rw [h1, call_run comp90 (Nat.le_of_ble_eq_true rfl)]
    simp (maxSteps := 10000000) [-List.getD_eq_getElem?_getD, code90, hlen, keep90_0, hl']
  · have hl' := fun E (hE : mask keep90_0 E = _) => run_at hl hE
    simp only [keep90_0, head90, e5] at hl'
    rw [call_run comp90 (Nat.le_of_ble_eq_true rfl)]
    simp (maxSteps := 10000000) [-List.getD_eq_getElem?_getD, code90, hlen, keep90_0, hl']
end Go.Ai

set_option maxRecDepth 100000
namespace Go.Ai
def head85 (r : AV) (n v k : Int) : Env := mkE 19 .any [(8, I k), (7, I n), (1, I v), (0, r)]
theorem loop85 (l0 : List Int) (r : AV) (hr : IsRow 1 (ints l0) r) (hl : l0.length < 2 ^ 47) (v : Int) : ∀ (l : List Int) (k : Nat), k ≤ l0.length → l0.drop k = l →
    (v ∉ l ∧ ∃ L, run Cv 85 (.loop keep85_0 body85_0) (head85 r l0.length v k) {} = some (.ex 0, mkE 19 .any L, {})) ∨ ∃ L, ∃ j : Nat, v ∈ l ∧ run Cv 85 (.loop keep85_0 body85_0) (head85 r l0.length v k) {} = some (.rt, mkE 19 .any ((4, I j) :: L), {})
  | [], k, hk, h => by
    obtain rfl := drop_nil hk h
    refine .inl ⟨List.not_mem_nil, ?_⟩
    rw [run_loop]
    simp (maxSteps := 10000000) [-List.getD_eq_getElem?_getD, body85_0, keep85_0, head85]
    exact ⟨_, rfl⟩
  | a :: l, k, hk, h => by
    obtain ⟨hlt, ha, hd⟩ := head_drop h
    have hw := wrap_succ hlt hl
    have hlt' : (k : Int) < (l0.length : Int) := by omega
    have hix : ixsA 1 r (I k) = some (.rp [I a] 0) := by
      obtain ⟨c, hc, hr'⟩ := row_sl hr (by intro hn; rw [hn] at hlt; simp at hlt)
      rw [hr']
      simp [ixsA, AV.cells, hlt, ints, ha]
    have hlr : ∀ σ, loadA σ none (.rp [I a] 0) = some (I a) := fun _ => rfl
    have hru := hr.under
    by_cases hv : v = a
    · right
      have : ∃ L, run Cv 85 (.loop keep85_0 body85_0) (head85 r l0.length v k) {} = some (.rt, mkE 19 .any ((4, I k) :: L), {}) := by
        rw [run_loop]
        simp (maxSteps := 10000000) [-List.getD_eq_getElem?_getD, -loadA, -ixsA, body85_0, keep85_0, head85, hlt', hw, hix, hlr, hv, hru]
        exact ⟨_, rfl⟩
      obtain ⟨L, hL⟩ := this
      exact ⟨L, k, by rw [hv]; exact List.mem_cons_self .., hL⟩
    · have key : run Cv 85 (.loop keep85_0 body85_0) (head85 r l0.length v k) {} = run Cv 85 (.loop keep85_0 body85_0) (head85 r l0.length v ((k : Int) + 1)) {} := by
        rw [run_loop]
        generalize MC.loop keep85_0 body85_0 = L
        simp (maxSteps := 10000000) [-List.getD_eq_getElem?_getD, -loadA, -ixsA, body85_0, keep85_0, head85, hlt', hw, hix, hlr, hv, hru]
      rw [key]
      rcases loop85 l0 r hr hl v l (k + 1) hlt hd with h | ⟨L, j, h1, h2⟩
      · exact .inl ⟨by simp only [List.mem_cons, not_or]; exact ⟨hv, h.1⟩, by simpa using h.2⟩
      · exact .inr ⟨L, j, List.mem_cons_of_mem _ h1, by simpa using h2⟩
theorem contains_call (l0 : List Int) (r : AV) (hr : IsRow 1 (ints l0) r) (hl : l0.length < 2 ^ 47) (v : Int) : call Cv 72 [r, I v] = some (.bool (decide (v ∈ l0))) := by
  have hlen : lenA r = some (I l0.length) := row_len hr
  have hrp := hr.pur
  have e5 : ((0 : Nat) : Int) = 0 := rfl
  rcases loop85 l0 r hr hl v l0 0 (Nat.zero_le _) rfl with ⟨h1, L, hl⟩ | ⟨L, j, h1, hl⟩
  · have hl' := fun E (hE : mask keep85_0 E = _) => run_at hl hE
    simp only [keep85_0, head85, e5] at hl'
    have h2 : call Cv 85 [r, I v] = some (I (-1)) := by
      rw [call_run comp85 (Nat.le_of_ble_eq_true rfl)]
      simp (maxSteps := 10000000) [-List.getD_eq_getElem?_getD, code85, hlen, keep85_0, hl']
    rw [call_run comp72 (Nat.le_of_ble_eq_true rfl)]
    simp (maxSteps := 10000000) [-List.getD_eq_getElem?_getD, code72, hrp, h2, h1]
  · have hl' := fun E (hE : mask keep85_0 E = _) => run_at hl hE
    simp only [keep85_0, head85, e5] at hl'
    have h2 : call Cv 85 [r, I v] = some (I j) := by
      rw [call_run comp85 (Nat.le_of_ble_eq_true rfl)]
      simp (maxSteps := 10000000) [-List.getD_eq_getElem?_getD, code85, hlen, keep85_0, hl']
    have hj : (0 : Int) ≤ j := by omega
    rw [call_run comp72 (Nat.le_of_ble_eq_true rfl)]
    simp (maxSteps := 10000000) [-List.getD_eq_getElem?_getD, code72, hrp, h2, h1, hj]
def growV (c sz : Nat) (es : List AV) : AV := if es = [] then .nils else .sl sz es (.chain c)
def growC (sz : Nat) (es : List AV) : List (Nat × Nat) := if es = [] then [] else [(es.length, sz)]
theorem growV_nil (c sz : Nat) : growV c sz [] = .nils := rfl
theorem growC_nil (sz : Nat) : growC sz [] = [] := rfl
theorem growV_some (c sz : Nat) {es : List AV} (h : es ≠ []) : growV c sz es = .sl sz es (.chain c) := if_neg h
theorem growC_some (sz : Nat) {es : List AV} (h : es ≠ []) : growC sz es = [(es.length, sz)] := if_neg h
theorem growV_cell (c sz : Nat) (es : List AV) : (growV c sz es).isCell = true := by unfold growV; split <;> rfl
theorem growV_cells (c sz : Nat) (es : List AV) : (growV c sz es).cells = [growV c sz es] := by unfold growV; split <;> rfl
theorem growV_pur (c sz : Nat) (es : List AV) : ∃ r, IsRow sz es r ∧ ∀ σ n, pur σ (n + 1) (growV c sz es) = some (r, false) := by
  by_cases h : es = []
  · subst h
    exact ⟨.nils, .inl ⟨rfl, rfl⟩, fun _ _ => rfl⟩
  · rw [growV_some c sz h]
    exact ⟨.sl sz es .no, .inr (.inr ⟨.no, rfl, rfl⟩), fun _ _ => rfl⟩
theorem app_row (bx : List (List AV)) (mp : List (List AV × List AV)) (lp : List Lp) (pre : List (Nat × Nat)) (es : List AV) (e : AV) (sz bytes : Nat) (ag : Bool) (hlen : (es.length + 1) * bytes ≤ 140737488355328) (c : Nat) (hc : c = pre.length) :
    appA { boxes := bx, chains := pre ++ growC sz es, maps := mp, loops := lp } false sz bytes ag (growV c sz es) (.sl sz [e] .full) = some (growV c sz (es ++ [e]), { boxes := bx, chains := pre ++ growC sz (es ++ [e]), maps := mp, loops := lp }) := by
  subst hc
  have hn : es ++ [e] ≠ [] := by simp
  rw [growV_some _ _ hn, growC_some _ hn]
  by_cases h : es = []
  · subst h
    have : (0 + 1) * bytes ≤ 140737488355328 := hlen
    rw [growV_nil, growC_nil]
    have h2 : ([e] : List AV).length * bytes ≤ 140737488355328 := by simpa using hlen
    simp only [appA, elemsA, Option.bind_some, List.cons_ne_nil, if_false, if_true, h2, grown, Bool.false_eq_true, List.append_nil, List.nil_append]
  · rw [growV_some _ _ h, growC_some _ h]
    have h2 : (es ++ [e]).length * bytes ≤ 140737488355328 := by simpa using hlen
    have h3 : (pre ++ [(es.length, sz)])[pre.length]? = some (es.length, sz) := by simp
    simp only [appA, elemsA, Option.bind_some, List.cons_ne_nil, if_false, if_true, h2, and_self, h3]
    congr 3
    rw [List.set_append_right _ _ (Nat.le_refl _), Nat.sub_self]
    rfl
def growP (sz : Nat) (es : List AV) : AV := if es = [] then .nils else .sl sz es .no
theorem growP_row (sz : Nat) (es : List AV) : IsRow sz es (growP sz es) := by
  unfold growP
  split
  · rename_i h; exact .inl ⟨rfl, h⟩
  · exact .inr (.inr ⟨.no, rfl, rfl⟩)
theorem growV_puri (c sz : Nat) (es : List AV) (σ : St) (n : Nat) : pur σ (n + 1) (growV c sz es) = some (growP sz es, false) := by
  unfold growV growP
  split <;> rfl
theorem growV_under (k sz : Nat) (es : List AV) (a b c d n : Nat) : under a b c d (n + 1) (growV k sz es) = decide (es = [] ∨ k < b) := by
  unfold growV
  split
  · rename_i h; simp [h, under]
  · rename_i h; simp [h, under]
theorem growV_app {B : List (List AV)} {ch0 : List (Nat × Nat)} {sz bytes : Nat} {es : List AV} {v : AV} (h : (es.length + 1) * bytes ≤ 140737488355328) (hb : bytes ≤ 140737488355328) : appA { boxes := B, chains := ch0 ++ growC sz es } false sz bytes true (growV ch0.length sz es) (.sl sz [v] .full) = some (growV ch0.length sz (es ++ [v]), { boxes := B, chains := ch0 ++ growC sz (es ++ [v]) }) :=
  app_row B [] [] ch0 es v sz bytes true h ch0.length rfl
theorem cut_grow {sz n : Nat} (F : AV → List (List AV)) (hn : ∀ g, (F g).length = n) (ch0 : List (Nat × Nat)) (hu : ∀ g nc, ch0.length ≤ nc → (F g).all (fun cs => cs.all (under n nc 0 0 6)) = under n nc 0 0 6 g) (es es' : List AV) (hes : es' = es ∨ es' ≠ []) (E : List (List AV)) (e : Env) (he : ∀ nc, ch0.length ≤ nc → e.all (under n nc 0 0 6) = true) :
    cut { boxes := F (growV ch0.length sz es), chains := ch0 ++ growC sz es } { boxes := F (growV ch0.length sz es') ++ E, chains := ch0 ++ growC sz es' } e = { boxes := F (growV ch0.length sz es'), chains := ch0 ++ growC sz es' } := by
  have hd : ∀ nc, ch0.length ≤ nc → dryAt nc { boxes := F (growV ch0.length sz es), chains := ch0 ++ growC sz es } { boxes := F (growV ch0.length sz es') ++ E, chains := ch0 ++ growC sz es' } e = decide (es' = [] ∨ ch0.length < nc) := fun nc hnc => by
    have ht : (F (growV ch0.length sz es') ++ E).take n = F (growV ch0.length sz es') := List.take_left' (hn _)
    have h1 := hu (growV ch0.length sz es') nc hnc
    rw [growV_under] at h1
    simp only [dryAt, hn, ht, he nc hnc, h1, List.length_nil, List.take_zero, List.all_nil, Bool.true_and, Bool.and_true]
  have hat : ∀ nc, nc = (ch0 ++ growC sz es').length → cutAt nc { boxes := F (growV ch0.length sz es), chains := ch0 ++ growC sz es } { boxes := F (growV ch0.length sz es') ++ E, chains := ch0 ++ growC sz es' } = { boxes := F (growV ch0.length sz es'), chains := ch0 ++ growC sz es' } := fun nc h => by
    subst h
    have ht : (F (growV ch0.length sz es') ++ E).take n = F (growV ch0.length sz es') := List.take_left' (hn _)
    simp only [cutAt, hn, ht, List.take_length, List.length_nil, List.take_zero, Nat.zero_min, Nat.min_self]
  have g : ∀ es : List AV, (growC sz es).length = if es = [] then 0 else 1 := fun es => by unfold growC; split <;> rfl
  unfold cut
  rw [hd _ (by simp), hd _ (by simp)]
  by_cases h' : es' = []
  · have h0 : es = [] := by
      rcases hes with h | h
      · rw [← h]; exact h'
      · exact absurd h' h
    rw [if_pos (by simp [h']), hat]
    rw [h', h0]
  · by_cases h0 : es = []
    · rw [if_neg (by simp [h', g, h0]), if_pos (by simp [g, h']), hat _ rfl]
    · rw [if_pos (by simp [g, h0]), hat]
      simp [g, h', h0]
end Go.Ai
