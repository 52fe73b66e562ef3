/- This text shows the reference of the organ: wrong. No conditions of its own. -/
import Derived.Test.YtbjdaefdifofkaaDoorCodesRw
import Derived.Test.YtbjdaefdifofkaaDoorRefB
import Derived.Test.YtbjdaefdifofkaaDoorFnE
import Derived.Test.YtbjdaefdifofkaaDoorHelp
set_option linter.unusedSimpArgs false
set_option linter.unusedVariables false
set_option maxRecDepth 100000
namespace Go.Ai
open Go.Organ (T4 F3 Tb T6 kept isO)
open Go.Least (bitsL shorterL incFrom betterG beats hasB)
theorem kept_allR (out : Nat → Bool) : ∀ (l : List T4) (k : Nat), (∀ j, k ≤ j → j < k + l.length → out j = true) → kept out l k = []
  | [], _, _ => rfl
  | t :: l, k, h => by
    rw [kept, h k (Nat.le_refl _) (by simp), kept_allR out l (k + 1) fun j h1 h2 => h j (by omega) (by rw [List.length_cons]; omega)]
    rfl
theorem okL_allR {x : OB} (hl : x.tunes.length ≤ 6) : ∃ s, s < 2 ^ x.tunes.length ∧ okL x (bitsL s x.tunes.length) = isO x.N x.forks [] := by
  obtain ⟨s, hs, hb⟩ := Least.bits_of (fun _ => true) x.tunes.length
  refine ⟨s, hs, ?_⟩
  have : kept (butF (bitsL s x.tunes.length)) x.tunes 0 = [] := kept_allR _ _ _ fun j _ hj => by
    rw [Nat.zero_add] at hj
    have h1 : ((j : Int)) ∈ bitsL s x.tunes.length := by
      rw [bitsL, Least.mem_sel]
      refine ⟨j, rfl, Nat.zero_le _, by omega, ?_⟩
      have := hb j hj
      simp only [Least.hasB, Int.toNat_natCast, this, Bool.and_true, Bool.and_eq_true, decide_eq_true_eq]
      omega
    simp [butF, h1]
  rw [okL, canO, this]
theorem okL_lessR {x : OB} (hc : Chk x) {l : List Int} (h : okL x l = true) : isO x.N x.forks [] = true := by
  have hb : Organ.BOk x.N x.forks (kept (butF l) x.tunes 0) := hc.toChk0.kept _
  obtain ⟨g, hg⟩ := (Organ.isO_iff hb).1 h
  exact (Organ.isO_iff ⟨hc.b.one, hc.b.five, hc.b.forks, fun t ht => absurd ht List.not_mem_nil⟩).2 ⟨g, hg.town, hg.forks, fun t ht => absurd ht List.not_mem_nil⟩
theorem pow_smallR {m : Nat} (h : m ≤ 6) : 2 ^ m ≤ 64 := by
  obtain rfl | rfl | rfl | rfl | rfl | rfl | rfl : m = 0 ∨ m = 1 ∨ m = 2 ∨ m = 3 ∨ m = 4 ∨ m = 5 ∨ m = 6 := by omega
  all_goals decide
theorem kept_congr (f g : Nat → Bool) : ∀ (l : List T4) (k : Nat), (∀ j, k ≤ j → j < k + l.length → f j = g j) → kept f l k = kept g l k
  | [], _, _ => rfl
  | t :: l, k, h => by
    rw [kept, kept, h k (Nat.le_refl _) (by simp), kept_congr f g l (k + 1) fun j h1 h2 => h j (by omega) (by rw [List.length_cons]; omega)]
theorem can_bits {x : OB} (set : Nat) : canO x (fun i => hasB set i) = okL x (bitsL set x.tunes.length) := by
  rw [okL, canO, canO]
  rw [kept_congr (fun i => hasB set i) (butF (bitsL set x.tunes.length)) x.tunes 0 fun j _ hj => ?_]
  rw [Nat.zero_add] at hj
  rw [butF, Bool.eq_iff_iff, decide_eq_true_iff, bitsL, Least.mem_sel]
  constructor
  · intro h; exact ⟨j, rfl, Nat.zero_le _, by omega, h⟩
  · rintro ⟨i, h1, _, _, h2⟩
    obtain rfl : j = i := by omega
    exact h2
def bestG (ok : List Int → Bool) (T : Nat) (best : List Int) (l : List Nat) : List Int := l.foldl (fun b s => if shorterL (bitsL s T) b && ok (bitsL s T) then bitsL s T else b) best
theorem best_fold (ok : List Int → Bool) (T : Nat) : ∀ (l : List Nat) (b : List Int), l.foldl (betterG ok T) (some b) = some (bestG ok T b l)
  | [], b => rfl
  | s :: l, b => by
    rw [List.foldl_cons]
    have : betterG ok T (some b) s = some (if shorterL (bitsL s T) b && ok (bitsL s T) then bitsL s T else b) := by
      unfold betterG beats
      cases (shorterL (bitsL s T) b && ok (bitsL s T)) <;> rfl
    rw [this, best_fold ok T l]
    rfl
theorem best_len (ok : List Int → Bool) (T : Nat) : ∀ (l : List Nat) (b : List Int), b.length ≤ T → (bestG ok T b l).length ≤ T
  | [], b, h => h
  | s :: l, b, h => best_len ok T l _ (by
      have := Least.bits_len s T
      show (if shorterL (bitsL s T) b && ok (bitsL s T) then bitsL s T else b).length ≤ T
      split
      · exact this
      · exact h)
theorem best_told (ok : List Int → Bool) {T : Nat} (hT : T ≤ 62) {full : List Int} (h : ok full = true) (hi : incFrom T 0 full) : Least.Told ok T (bestG ok T full (List.range' 0 (2 ^ T))) := by
  obtain ⟨h1, _⟩ := Least.fold_best ok T (List.range' 0 (2 ^ T)) (some full) (fun b hb => by cases hb; exact ⟨h, hi⟩)
  obtain ⟨h2, _, h3⟩ := h1 _ (best_fold ok T _ full)
  exact ⟨h2.1, h2.2, by simpa using Least.inc_length T _ 0 (by omega) (by simpa using h2.2), fun s hs hf => h3 s (by rw [List.mem_range'_1]; omega) hf⟩
theorem shl_is {T : Nat} (h : T ≤ 6) : IntKind.wrap .i64 ((2 : Int) ^ min T (IntKind.bits .i64)) = ((2 ^ T : Nat) : Int) := by
  have hp64 := pow_smallR h
  have hm : min T (IntKind.bits .i64) = T := by have : IntKind.bits .i64 = 64 := rfl; omega
  have hc : ((2 ^ T : Nat) : Int) = (2 : Int) ^ T := by push_cast; rfl
  rw [hm, ← hc]
  have h0 : 0 < 2 ^ T := Nat.two_pow_pos T
  generalize 2 ^ T = P at *
  exact wrap_small (by omega) (by omega)
def head34 (T set : Int) (r : AV) : Env := mkE 69 .any [(11, I set), (6, r), (5, I T), (1, .box 0 0)]
def st34 (x : OB) (M : Tb) : St := { boxes := [x.cells, flatA M] }
theorem loop34 (x : OB) (hx : x.Ok) (hc : Chk x) (M0 : Tb) : ∀ (n s : Nat) (b : List Int) (R : AV), s + n = 2 ^ x.tunes.length → b.length ≤ x.tunes.length → IsRow 1 (ints b) R →
    ∃ R', IsRow 1 (ints (bestG (okL x) x.tunes.length b (List.range' s n))) R' ∧ run Cv 34 (.loop keep34_0 body34_0) (head34 x.tunes.length s R) (st34 x M0) = some (.ex 0, mkE 69 .any [(51, .bool false), (50, I ((2 ^ x.tunes.length : Nat) : Int)), (49, I x.tunes.length), (48, I ((2 ^ x.tunes.length : Nat) : Int)), (11, I ((2 ^ x.tunes.length : Nat) : Int)), (6, R'), (5, I x.tunes.length), (1, .box 0 0)], st34 x M0)
  | 0, s, b, R, hs, hb, hR => by
    refine ⟨R, hR, ?_⟩
    have hsh := shl_is hc.tunes
    have e : (s : Int) = ((2 ^ x.tunes.length : Nat) : Int) := by omega
    have hn : ¬ ((2 ^ x.tunes.length : Nat) : Int) < ((2 ^ x.tunes.length : Nat) : Int) := by omega
    rw [e]
    generalize ((2 ^ x.tunes.length : Nat) : Int) = P at *
    have hg : ¬ (x.tunes.length : Int) < 0 := by omega
    rw [run_loop]
    simp (maxSteps := 10000000) [-List.getD_eq_getElem?_getD, body34_0, keep34_0, head34, st34, binI, hsh, hg]
  | n + 1, s, b, R, hs, hb, hR => by
    have hT6 := hc.tunes
    have hp64 := pow_smallR hT6
    have hsh := shl_is hT6
    have hlt : (s : Int) < ((2 ^ x.tunes.length : Nat) : Int) := by omega
    have hw : IntKind.wrap .i64 ((s : Int) + 1) = ((s + 1 : Nat) : Int) := by rw [wrap_small (by omega) (by omega)]; rfl
    obtain ⟨y, hy, c1⟩ := bits_call s (by omega) x.tunes.length (by omega)
    have hbl := Least.bits_len s x.tunes.length
    have c2 := shorter_call (bitsL s x.tunes.length) b y R hy hR (by omega) (by omega)
    have c3 := most_call x hx hc.toChk0 s (by omega)
    rw [can_bits] at c3
    generalize mostT x (fun i => hasB s i) = M at *
    have hyp := hy.pur
    have hRp := hR.pur
    have hyu := hy.under
    have hRu := hR.under
    have hp := av_pur x hx
    have u1 := xcells_under x hx
    have p2 := tbA_pur
    have l6 : ∀ B, loadA { boxes := x.cells :: B } (some 6) (.box 0 0) = some x.av := fun _ => rfl
    have u3 := flatA_under
    have s1 := sw46 (B := [x.cells, flatA M0, Z36]) (m := M) (b := 2) rfl rfl
    simp only [List.set_cons_zero, List.set_cons_succ, Z36] at s1
    have hg : ¬ (x.tunes.length : Int) < 0 := by omega
    have hbest : bestG (okL x) x.tunes.length b (List.range' s (n + 1)) = bestG (okL x) x.tunes.length (if shorterL (bitsL s x.tunes.length) b && okL x (bitsL s x.tunes.length) then bitsL s x.tunes.length else b) (List.range' (s + 1) n) := by
      rw [List.range'_succ]; rfl
    rw [hbest]
    have step : ∃ R1, IsRow 1 (ints (if shorterL (bitsL s x.tunes.length) b && okL x (bitsL s x.tunes.length) then bitsL s x.tunes.length else b)) R1 ∧ run Cv 34 (.loop keep34_0 body34_0) (head34 x.tunes.length s R) (st34 x M0) = run Cv 34 (.loop keep34_0 body34_0) (head34 x.tunes.length ((s + 1 : Nat) : Int) R1) (st34 x M0) := by
      generalize ((2 ^ x.tunes.length : Nat) : Int) = P at *
      rw [run_loop]
      generalize MC.loop keep34_0 body34_0 = L'
      cases h1 : shorterL (bitsL s x.tunes.length) b with
      | false =>
        rw [h1] at c2
        refine ⟨R, by simpa using hR, ?_⟩
        simp (maxSteps := 10000000) [-List.getD_eq_getElem?_getD, -loadA, -storeA, -List.all_eq_true, body34_0, keep34_0, head34, st34, binI, hsh, hg, hlt, hw, c1, c2, hyp, hRp, hyu, hRu, u1, u3]
      | true =>
        rw [h1] at c2
        cases h2 : okL x (bitsL s x.tunes.length) with
        | false =>
          rw [h2] at c3
          refine ⟨R, by simpa using hR, ?_⟩
          simp (maxSteps := 10000000) [-List.getD_eq_getElem?_getD, -loadA, -storeA, -List.all_eq_true, body34_0, keep34_0, head34, st34, binI, hsh, hg, hlt, hw, c1, c2, c3, hp, l6, p2, s1, hyp, hRp, hyu, hRu, u1, u3]
        | true =>
          rw [h2] at c3
          refine ⟨y, by simpa using hy, ?_⟩
          simp (maxSteps := 10000000) [-List.getD_eq_getElem?_getD, -loadA, -storeA, -List.all_eq_true, body34_0, keep34_0, head34, st34, binI, hsh, hg, hlt, hw, c1, c2, c3, hp, l6, p2, s1, hyp, hRp, hyu, hRu, u1, u3]
    obtain ⟨R1, hR1, hstep⟩ := step
    obtain ⟨R', h1, h2⟩ := loop34 x hx hc M0 n (s + 1) _ R1 (by omega) (by split <;> omega) hR1
    exact ⟨R', h1, by rw [hstep]; exact h2⟩
end Go.Ai
