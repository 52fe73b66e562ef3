/- This text shows by which rule a feast yields. No conditions of its own. -/
import Derived.Test.YtckbmdbebmkbaaaDoorFnB
set_option linter.unusedSimpArgs false
set_option linter.unusedVariables false
set_option maxRecDepth 100000
namespace Go.Ai
open Go.Office (Ft Rl Us Nt Bk addB clrB ruleF)
theorem shl4 : ∀ f : Nat, f < 4 → binA .shl (I 1) (I (f : Nat)) = some (I ((2 : Int) ^ f)) := by
  intro f hf
  have : f = 0 ∨ f = 1 ∨ f = 2 ∨ f = 3 := by omega
  rcases this with rfl | rfl | rfl | rfl <;> rfl
theorem or16' : ∀ s : Fin 16, ∀ f : Fin 4, IntKind.wrap .i64 ((BitVec.ofInt (IntKind.bits .i64) ((s.val : Nat) : Int) ||| BitVec.ofInt (IntKind.bits .i64) ((2 ^ f.val : Nat) : Int)).toNat : Int) = ((addB s.val f.val : Nat) : Int) := by decide +kernel
theorem andNot16' : ∀ s : Fin 16, ∀ f : Fin 4, IntKind.wrap .i64 ((BitVec.ofInt (IntKind.bits .i64) ((s.val : Nat) : Int) &&& ~~~BitVec.ofInt (IntKind.bits .i64) ((2 ^ f.val : Nat) : Int)).toNat : Int) = ((clrB s.val f.val : Nat) : Int) := by decide +kernel
theorem shr16' : ∀ s : Fin 16, ∀ f : Fin 4, IntKind.wrap .i64 (Int.fdiv ((s.val : Nat) : Int) (2 ^ (min ((f.val : Nat) : Int).toNat (IntKind.bits .i64)))) = ((s.val >>> f.val : Nat) : Int) := by decide +kernel
theorem and16' : ∀ s : Fin 16, IntKind.wrap .i64 ((BitVec.ofInt (IntKind.bits .i64) ((s.val : Nat) : Int) &&& BitVec.ofInt (IntKind.bits .i64) 1).toNat : Int) = ((s.val % 2 : Nat) : Int) := by decide +kernel
theorem bit16' : ∀ s : Fin 16, ∀ f : Fin 4, decide ((((s.val >>> f.val) % 2 : Nat) : Int) = 1) = s.val.testBit f.val := by decide +kernel
theorem shr_lt : ∀ s : Fin 16, ∀ f : Fin 4, s.val >>> f.val < 16 := by decide +kernel
theorem fdiv16 : ∀ s : Fin 16, ∀ f : Fin 4, Int.fdiv ((s.val : Nat) : Int) (2 ^ (min ((f.val : Nat) : Int).toNat (IntKind.bits .i64))) = ((s.val >>> f.val : Nat) : Int) := by decide +kernel
theorem add16 : ∀ s : Fin 16, ∀ f : Fin 4, addB s.val f.val < 16 ∧ clrB s.val f.val < 16 := by decide +kernel
def shrN (s f : Nat) : Nat := s >>> f
def lowN (s f : Nat) : Nat := (s >>> f) % 2
section
variable {s f : Nat} (hs : s < 16) (hf : f < 4)
include hs hf
theorem or_op : binA .or (I (s : Nat)) (I ((2 : Int) ^ f)) = some (I ((addB s f : Nat) : Int)) := by
  have := or16' ⟨s, hs⟩ ⟨f, hf⟩
  have e : ((2 ^ f : Nat) : Int) = (2 : Int) ^ f := by simp
  rw [← e]
  simp only [binA, binI, if_true, true_or]
  simp only at this
  rw [this]
theorem andNot_op : binA .andNot (I (s : Nat)) (I ((2 : Int) ^ f)) = some (I ((clrB s f : Nat) : Int)) := by
  have := andNot16' ⟨s, hs⟩ ⟨f, hf⟩
  have e : ((2 ^ f : Nat) : Int) = (2 : Int) ^ f := by simp
  rw [← e]
  simp only [binA, binI, if_true, true_or]
  simp only at this
  rw [this]
theorem shr_op : binA .shr (I (s : Nat)) (I (f : Nat)) = some (I ((shrN s f : Nat) : Int)) := by
  unfold shrN
  have := fdiv16 ⟨s, hs⟩ ⟨f, hf⟩
  have h0 : ¬ ((f : Nat) : Int) < 0 := by omega
  simp only [binA, binI, if_true, true_or, h0, if_false]
  simp only at this
  rw [this]
theorem and_op : binA .and (I ((shrN s f : Nat) : Int)) (I 1) = some (I ((lowN s f : Nat) : Int)) := by
  unfold shrN lowN
  have := and16' ⟨s >>> f, shr_lt ⟨s, hs⟩ ⟨f, hf⟩⟩
  simp only [binA, binI, if_true, true_or]
  simp only at this
  rw [this]
theorem eq_op : binA .eql (I ((lowN s f : Nat) : Int)) (I 1) = some (.bool (s.testBit f)) := by
  unfold lowN
  have := bit16' ⟨s, hs⟩ ⟨f, hf⟩
  simp only at this
  simp only [binA, binI, if_true, true_or, ← this]
  congr 2
theorem add_lt : addB s f < 16 := (add16 ⟨s, hs⟩ ⟨f, hf⟩).1
theorem clr_lt : clrB s f < 16 := (add16 ⟨s, hs⟩ ⟨f, hf⟩).2
end
def sgC (c : Int) (s m : Nat) (p : Int) : List AV := [I c, I (s : Nat), I (m : Nat), I p]
section
variable (c p : Int) {s m f : Nat} (hs : s < 16) (hm : m < 16) (hf : f < 4)
include hs hm hf
omit hm in
theorem too_call : call Cv 105 [.agg (sgC c s m p), I (f : Nat)] = some (.agg (sgC c (addB s f) m p)) := by
  have h1 := shl4 f hf
  have h2 := or_op hs hf
  rw [call_run comp105 (Nat.le_of_ble_eq_true rfl)]
  simp (maxSteps := 10000000) [-List.getD_eq_getElem?_getD, -binA, code105, sgC, h1, h2]
omit hm in
theorem out_call : call Cv 130 [.agg (sgC c s m p), I (f : Nat)] = some (.agg (sgC c (clrB s f) m p)) := by
  have h1 := shl4 f hf
  have h2 := andNot_op hs hf
  rw [call_run comp130 (Nat.le_of_ble_eq_true rfl)]
  simp (maxSteps := 10000000) [-List.getD_eq_getElem?_getD, -binA, code130, sgC, h1, h2]
theorem next_call : call Cv 128 [.agg (sgC c s m p), I (f : Nat)] = some (.agg (sgC c (clrB s f) (addB m f) p)) := by
  have h1 := shl4 f hf
  have h2 := or_op hm hf
  have h3 := out_call (m := m) c p hs hf
  simp only [sgC] at h3
  rw [call_run comp128 (Nat.le_of_ble_eq_true rfl)]
  simp (maxSteps := 10000000) [-List.getD_eq_getElem?_getD, -binA, code128, sgC, h1, h2, h3]
end
end Go.Ai

set_option maxRecDepth 100000
namespace Go.Ai
open Go.Office (Ft Rl Us Nt Bk Mt addB clrB ruleF)
def bkC (x : OB) (nr tr : AV) : List AV := [I x.days, I x.first, x.fr, x.q0, .bool x.g0, x.q1, .bool x.g1, nr, tr]
def mtC (d : Int) (y t : Nat) : List AV := [I d, I (y : Nat), I (t : Nat)]
theorem rk_get {x : OB} {k : Nat} (hk : k < x.fs.length) : x.fs[k].rank = x.bk.rk k := by
  show _ = (x.fs.getD k default).rank
  rw [List.getD_eq_getElem?_getD, List.getElem?_eq_getElem hk]; rfl
theorem f_rank {x : OB} (hx : x.Ok) {k : Nat} (hk : k < x.fs.length) : ∃ a b, ixsA 3 x.fr (I k) = some (.rp [I a, I b, I (x.bk.rk k)] 0) := by
  refine ⟨x.fs[k].lo, x.fs[k].hi, ?_⟩
  rw [f_ix hx hk, ← rk_get hk]; rfl
def ruleP (x : OB) (y t : Nat) (r : Rl) : Bool := decide (r.rank = x.bk.rk y) && decide (r.to = x.bk.rk t)
theorem rule1_call (x : OB) (hx : x.Ok) (nr tr : AV) (d : Int) {y t : Nat} (hy : y < x.fs.length) (ht : t < x.fs.length) (r : Rl) : call Cv 81 [rlA r, .rp (bkC x nr tr) 0, .rp (mtC d y t) 0] = some (.bool (ruleP x y t r)) := by
  obtain ⟨a1, a2, h1⟩ := f_rank hx hy
  obtain ⟨b1, b2, h2⟩ := f_rank hx ht
  unfold ruleP
  generalize x.bk.rk y = v1 at *
  generalize x.bk.rk t = v2 at *
  generalize hq1 : decide (r.rank = v1) = c1 at *
  generalize hq2 : decide (r.to = v2) = c2 at *
  have hb1 : (r.rank == v1) = c1 := by rw [← hq1]; rfl
  have hb2 : (r.to == v2) = c2 := by rw [← hq2]; rfl
  rw [call_run comp81 (Nat.le_of_ble_eq_true rfl)]
  cases c1 <;> simp (maxSteps := 10000000) [-List.getD_eq_getElem?_getD, -ixsA, code81, rlA, rlC, bkC, mtC, h1, h2, hb1, hb2]
theorem rule_idx (x : OB) (u y t : Nat) : ∀ (l : List Rl) (k : Nat), idxP (ruleP x y t) l k = (match ruleF (x.bk.rk y) (x.bk.rk t) l k with | none => -1 | some p => (p.1 : Int)) ∧ ∀ p, ruleF (x.bk.rk y) (x.bk.rk t) l k = some p → k ≤ p.1 ∧ ∃ h : p.1 - k < l.length, l[p.1 - k].does = p.2
  | [], k => ⟨rfl, fun p h => by simp [ruleF] at h⟩
  | r :: l, k => by
    obtain ⟨h1, h2⟩ := rule_idx x u y t l (k + 1)
    rw [idxP, ruleF]
    by_cases h : r.rank = x.bk.rk y ∧ r.to = x.bk.rk t
    · have hp : ruleP x y t r = true := by simp [ruleP, h.1, h.2]
      rw [if_pos h, hp]
      refine ⟨rfl, fun p hp => ?_⟩
      simp only [Option.some.injEq] at hp
      subst hp
      exact ⟨Nat.le_refl _, by simp, by simp⟩
    · have hp : ruleP x y t r = false := by
        cases hb : ruleP x y t r with
        | false => rfl
        | true => simp only [ruleP, Bool.and_eq_true, decide_eq_true_eq] at hb; exact absurd hb h
      rw [if_neg h, hp]
      refine ⟨h1, fun p hp => ?_⟩
      obtain ⟨g1, g2, g3⟩ := h2 p hp
      refine ⟨by omega, by simp; omega, ?_⟩
      have e : p.1 - k = p.1 - (k + 1) + 1 := by omega
      simp only [e, List.getElem_cons_succ]
      exact g3
theorem rl_ld (r : Rl) (σ : St) : loadA σ (some 3) (.rp (rlA r).cells 0) = some (rlA r) := rfl
theorem bk_pur (x : OB) (hx : x.Ok) {nr tr : AV} (hn : ∀ σ n, pur σ (n + 1) nr = some (nr, false)) (ht : ∀ σ n, pur σ (n + 1) tr = some (tr, false)) (σ : St) (n : Nat) : purAll (pur σ (n + 1)) (bkC x nr tr) = some (bkC x nr tr, false) := by
  have p1 := hx.fr.pur σ n
  have p2 := hx.q0.pur σ n
  have p3 := hx.q1.pur σ n
  simp [bkC, purAll, pur, p1, p2, p3, hn σ n, ht σ n]
theorem rule_call (x : OB) (hx : x.Ok) (nr tr : AV) (hn : ∃ es, IsRow 3 es nr) (htr : ∃ es, IsRow 7 es tr) (d : Int) {u y t : Nat} (hu : u < 2) (hy : y < x.fs.length) (ht : t < x.fs.length) : call Cv 63 [.agg (bkC x nr tr), I (u : Nat), .agg (mtC d y t)] = some (.tup [I (x.bk.ruleI u y t), I (x.bk.does u y t)]) := by
  have p1 := hx.fr.cell
  have p2 := hx.q0.cell
  have p3 := hx.q1.cell
  obtain ⟨en, hn⟩ := hn
  obtain ⟨et, htr⟩ := htr
  have p4 := hn.cell
  have p5 := htr.cell
  have hbp := bk_pur x hx hn.pur htr.pur
  -- the rules of the use
  obtain ⟨l, r, hl, hr, hr', hix⟩ : ∃ (l : List Rl) (r : AV), l = (x.bk.us u).rules ∧ IsRow 3 (l.map rlA) r ∧ l.length < 2 ^ 47 ∧ (bkC x nr tr)[u * 2 + 3]? = some r := by
    have : u = 0 ∨ u = 1 := by omega
    rcases this with rfl | rfl
    · exact ⟨x.r0, x.q0, rfl, hx.q0, hx.l0, rfl⟩
    · exact ⟨x.r1, x.q1, rfl, hx.q1, hx.l1, rfl⟩
  have hixa : ixaA 2 2 (.box 0 3) (I u) = some (.box 0 (u * 2 + 3)) := by
    have : u = 0 ∨ u = 1 := by omega
    rcases this with rfl | rfl <;> rfl
  have hpm : ∀ σ n, purAll (pur σ (n + 1)) (mtC d y t) = some (mtC d y t, false) := fun _ _ => rfl
  have hcap : ∀ (σ : St) (n : Nat), purAll (pur σ (n + 1)) [.rp (bkC x nr tr) 0, .rp (mtC d y t) 0] = some ([.rp (bkC x nr tr) 0, .rp (mtC d y t) 0], false) := fun _ _ => rfl
  have hI := idx80_call rlA (fun _ => rfl) rl_ld (fun _ _ _ => rfl) (ruleP x y t) 81 [.rp (bkC x nr tr) 0, .rp (mtC d y t) 0] hcap (fun _ _ _ _ _ => rfl) rfl l (fun a _ => rule1_call x hx nr tr d hy ht a) r hr hr'
  obtain ⟨g1, g2⟩ := rule_idx x u y t l 0
  have hrp := hr.pur
  have hpu : ∀ n, pur ({ boxes := [bkC x nr tr, mtC d y t] } : St) (n + 3) (.fn (.func 81) [] [.box 0 0, .box 1 0]) = some (.fn (.func 81) [] [.rp (bkC x nr tr) 0, .rp (mtC d y t) 0], true) := fun n => by
    simp [pur, purAll, hbp, hpm]
  have hld : ∀ σ : St, σ.boxes = [bkC x nr tr, mtC d y t] → loadA σ none (.box 0 (u * 2 + 3)) = some r := fun σ h => by simp [loadA, h, partA, hix]
  simp only [Bk.ruleI, Bk.does, Bk.rule, ← hl]
  have hcase : ∀ (v : Int), idxP (ruleP x y t) l 0 = v → (v < 0 → ruleF (x.bk.rk y) (x.bk.rk t) l 0 = none) ∧ (0 ≤ v → ∃ q : Nat × Int, ruleF (x.bk.rk y) (x.bk.rk t) l 0 = some q ∧ v = q.1 ∧ ∃ h : q.1 < l.length, l[q.1].does = q.2) := by
    intro v hv
    cases hq : ruleF (x.bk.rk y) (x.bk.rk t) l 0 with
    | none => rw [hq] at g1; simp only at g1; exact ⟨fun _ => rfl, fun h => by omega⟩
    | some q =>
      rw [hq] at g1; simp only at g1
      obtain ⟨_, k1, k2⟩ := g2 q hq
      exact ⟨fun h => by omega, fun _ => ⟨q, rfl, by omega, k1, k2⟩⟩
  generalize idxP (ruleP x y t) l 0 = v at *
  obtain ⟨c1, c2⟩ := hcase v rfl
  have b1 : boxA {} (.agg (bkC x nr tr)) = some (.box 0 0, { boxes := [bkC x nr tr] }) := by simp [boxA, bkC, p1, p2, p3, p4, p5]
  have b2 : boxA { boxes := [bkC x nr tr] } (.agg (mtC d y t)) = some (.box 1 0, { boxes := [bkC x nr tr, mtC d y t] }) := rfl
  have hld' := hld { boxes := [bkC x nr tr, mtC d y t] } rfl
  by_cases h0 : v < 0
  · have hnone := c1 h0
    have hv : v = -1 := by rw [hnone] at g1; exact g1
    rw [hnone, call_run comp63 (Nat.le_of_ble_eq_true rfl)]
    subst hv
    simp (maxSteps := 10000000) [-List.getD_eq_getElem?_getD, ret2, ret3, retc2, -boxA, -loadA, -ixaA, -pu_fn, code63, b1, b2, hixa, hld', hrp, hpu, hI]
  · obtain ⟨q, e1, e2, e3, e4⟩ := c2 (by omega)
    subst e2
    have hixs := row_at hr e3
    have hl2 : ∀ σ : St, loadA σ none (.rp (rlC l[q.1]) 2) = some (I q.2) := fun σ => by rw [← e4]; rfl
    rw [e1, call_run comp63 (Nat.le_of_ble_eq_true rfl)]
    have h0' : ¬ ((q.1 : Nat) : Int) < 0 := by omega
    simp (maxSteps := 10000000) [-List.getD_eq_getElem?_getD, ret2, ret3, retc2, -boxA, -loadA, -ixaA, -ixsA, -pu_fn, code63, b1, b2, hixa, hld', hrp, hpu, hI, h0', hixs, hl2]
end Go.Ai
