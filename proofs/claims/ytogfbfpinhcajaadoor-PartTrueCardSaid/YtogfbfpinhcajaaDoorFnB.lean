/- This text shows what the rules of the style and the map answer. No conditions of its own. -/
import Derived.Test.YtogfbfpinhcajaaDoorFnA
set_option linter.unusedSimpArgs false
set_option linter.unusedVariables false
set_option maxRecDepth 100000
set_option linter.unusedSimpArgs false
set_option linter.unusedVariables false
namespace Go.Ai
open Go.Part (Sp Cp)
theorem bi_gtr {x y : Int} : binA .gtr (I x) (I y) = some (.bool (decide (x > y))) := rfl
theorem bi_lss {x y : Int} : binA .lss (I x) (I y) = some (.bool (decide (x < y))) := rfl
theorem bi_leq {x y : Int} : binA .leq (I x) (I y) = some (.bool (decide (x ≤ y))) := rfl
theorem bi_eql {x y : Int} : binA .eql (I x) (I y) = some (.bool (x == y)) := rfl
theorem bi_neq {x y : Int} : binA .neq (I x) (I y) = some (.bool (x != y)) := rfl
theorem bi_add {x y : Int} : binA .add (I x) (I y) = some (I (IntKind.wrap .i64 (x + y))) := rfl
theorem bi_sub {x y : Int} : binA .sub (I x) (I y) = some (I (IntKind.wrap .i64 (x - y))) := rfl
theorem shr_small (set : Nat) (k : Nat) (hk : k < 62) : binA .shr (I set) (I k) = some (I ((set / 2 ^ k : Nat) : Int)) := by
  have hneg : ¬ (k : Int) < 0 := by omega
  have hmin : min k (IntKind.bits .i64) = k := by show min k 64 = k; omega
  have hsh : Int.fdiv (set : Int) (2 ^ k) = ((set / 2 ^ k : Nat) : Int) := by
    rw [Int.fdiv_eq_ediv_of_nonneg _ (by exact Int.le_of_lt (Int.pow_pos (by decide)))]
    norm_cast
  simp only [binA, binI, true_or, or_true, if_true, hneg, if_false, Int.toNat_natCast, hmin, hsh]
theorem and_one (m : Nat) (hm : m < 2 ^ 62) : binA .and (I m) (I 1) = some (I ((m % 2 : Nat) : Int)) := by
  have := and1 m hm
  simp only [binA, binI, true_or, if_true]
  exact congrArg (fun z => some (I z)) this
theorem bit_zero (set k : Nat) : binA .eql (I ((set / 2 ^ k % 2 : Nat) : Int)) (I 0) = some (.bool (!set.testBit k)) := by
  simp only [binA, binI, true_or, if_true, Option.some.injEq, AV.bool.injEq]
  rw [Nat.testBit_eq_decide_div_mod_eq]
  have : set / 2 ^ k % 2 = 0 ∨ set / 2 ^ k % 2 = 1 := by omega
  rcases this with h | h <;> simp [h]
theorem bit_ops (set k : Nat) (hs : set < 2 ^ 62) (hk : k < 62) : (binA .shr (I set) (I k)).bind (fun r => (binA .and r (I 1)).bind fun s => binA .eql s (I 0)) = some (.bool (!set.testBit k)) := by
  have hlt : set / 2 ^ k < 2 ^ 62 := Nat.lt_of_le_of_lt (Nat.div_le_self _ _) hs
  rw [shr_small set k hk, Option.bind_some, and_one _ hlt, Option.bind_some, bit_zero]
/-- Three cells of a piece. -/
structure Tri (p : List Int) (i : Nat) (a b c : Int) : Prop where
  get : ((ints p).drop (i * 3)).take 3 = [I a, I b, I c]
  len : i * 3 + 3 ≤ p.length
  a : -1 ≤ a ∧ a ≤ 12
  b : -1 ≤ b ∧ b ≤ 12
  c : -1 ≤ c ∧ c ≤ 12
theorem tri_of {p : List Int} (h9 : p.length = 9) (hr : ∀ n ∈ p, -1 ≤ n ∧ n ≤ 12) {i : Nat} (hi : i < 3) : Tri p i (p.getD (i * 3) 0) (p.getD (i * 3 + 1) 0) (p.getD (i * 3 + 2) 0) := by
  match p, h9 with
  | [p0, p1, p2, p3, p4, p5, p6, p7, p8], _ =>
    simp only [List.mem_cons, List.not_mem_nil, or_false, forall_eq_or_imp, forall_eq] at hr
    obtain ⟨r0, r1, r2, r3, r4, r5, r6, r7, r8⟩ := hr
    obtain rfl | rfl | rfl : i = 0 ∨ i = 1 ∨ i = 2 := by omega
    · exact ⟨rfl, by simp, r0, r1, r2⟩
    · exact ⟨rfl, by simp, r3, r4, r5⟩
    · exact ⟨rfl, by simp, r6, r7, r8⟩
def trig (a b c : Int) (v : Nat) : Int := if v = 0 then a else if v = 1 then b else c
/-- The rules of the style, as the program asks for them. -/
def styleB (step : Int) (ch pf : Nat) (p : List Int) (v i : Nat) : Bool :=
  (decide (v = 0) || (decide (0 ≤ p.getD (i * 3 + v) 0 - p.getD (i * 3 + v - 1) 0) && ch.testBit (p.getD (i * 3 + v) 0 - p.getD (i * 3 + v - 1) 0).toNat)) &&
  (decide (i = 0) || (lie (p.getD (i * 3 + v) 0 - p.getD ((i - 1) * 3 + v) 0) (-step) step &&
    (decide (v = 0) || decide (p.getD (i * 3 + v) 0 - p.getD ((i - 1) * 3 + v) 0 = 0) ||
      (!decide (p.getD (i * 3 + v) 0 - p.getD (i * 3 + v - 1) 0 = p.getD ((i - 1) * 3 + v) 0 - p.getD ((i - 1) * 3 + v - 1) 0) || !pf.testBit (p.getD (i * 3 + v) 0 - p.getD (i * 3 + v - 1) 0).toNat))))
end Go.Ai

set_option maxRecDepth 100000
set_option linter.unusedSimpArgs false
set_option linter.unusedVariables false
namespace Go.Ai
open Go.Part (Sp Cp)
/-- The cells of a book in the calculation. -/
def bkC (N : Int) (vr : AV) (step : Int) (ch pf : Nat) (cr m t : AV) : List AV := [I N, vr, I step, I ch, I pf, cr, m, t]
section
variable {N step : Int} {ch pf : Nat} {vr cr m t : AV} {p : List Int} {v i : Nat} {a b c a' b' c' : Int}
theorem style_00 (hvr : vr.isCell = true) (hcr : cr.isCell = true) (hm : m.isCell = true) (ht : t.isCell = true) (hp : (ints p).all AV.isCell = true) (T : Tri p 0 a b c) :
    call Cv 103 [.agg (bkC N vr step ch pf cr m t), .agg (ints p), .agg [I (0 : Nat), I (0 : Nat)]] = some (.bool true) := by
  have hg := T.get
  have hl := T.len
  have hl' : 3 ≤ (ints p).length := by simp [ints]; omega
  simp only [Nat.zero_mul, List.drop_zero] at hg
  rw [call_run comp103 (Nat.le_of_ble_eq_true rfl)]
  simp (maxSteps := 10000000) [-List.getD_eq_getElem?_getD, code103, bkC, hvr, hcr, hm, ht, hp, hg, hl', fillA, setAt]
theorem style_0j {j : Nat} (hvr : vr.isCell = true) (hcr : cr.isCell = true) (hm : m.isCell = true) (ht : t.isCell = true) (hp : (ints p).all AV.isCell = true) (hj : j + 1 < 3) (T : Tri p (j + 1) a b c) (T' : Tri p j a' b' c')
    (hs : 0 ≤ step ∧ step ≤ 7) : call Cv 103 [.agg (bkC N vr step ch pf cr m t), .agg (ints p), .agg [I (0 : Nat), I ((j + 1 : Nat) : Int)]] = some (.bool (lie (a - a') (-step) step)) := by
  have hg := T.get
  have hg' := T'.get
  have hl := T.len
  have hl2 : (j + 1) * 3 + 3 ≤ (ints p).length := by simp [ints]; omega
  have hl3 : j * 3 + 3 ≤ (ints p).length := by simp [ints]; omega
  have h0 : (0 : Int) ≤ ((j + 1 : Nat) : Int) := by omega
  have h3 : ((j + 1 : Nat) : Int) < 3 := by omega
  have h0' : (0 : Int) ≤ ((j : Nat) : Int) := by omega
  have h3' : ((j : Nat) : Int) < 3 := by omega
  have hz : (((j + 1 : Nat) : Int) == 0) = false := by simp; omega
  have hw : IntKind.wrap .i64 (((j + 1 : Nat) : Int) - 1) = j := by rw [wrap_small (by omega) (by omega)]; omega
  have hst : call Cv 123 [.agg [I a', I b', I c', I a, I b, I c, I 0]] = some (I (a - a')) := step_call [a', b', c'] [a, b, c] rfl rfl 0 (by omega) (by have := T'.a; have := T'.b; have := T'.c; simp; omega) (by have := T.a; have := T.b; have := T.c; simp; omega)
  have hlc := within_call (a - a') (-step) step
  have hn : IntKind.wrap .i64 (-step) = -step := wrap_small (by omega) (by omega)
  obtain ⟨q, hq⟩ : ∃ q, lie (a - a') (-step) step = q := ⟨_, rfl⟩
  rw [hq] at hlc ⊢
  have hJ : ((j + 1 : Nat) : Int).toNat = j + 1 := by omega
  generalize ((j + 1 : Nat) : Int) = J at *
  rw [call_run comp103 (Nat.le_of_ble_eq_true rfl)]
  cases q <;> simp (maxSteps := 10000000) [-List.getD_eq_getElem?_getD, code103, bkC, hvr, hcr, hm, ht, hp, hg, hg', hl2, hl3, fillA, setAt, h0, h3, h0', h3', hz, hw, hst, hlc, hn, hJ]
theorem style_v0 {u : Nat} (hvr : vr.isCell = true) (hcr : cr.isCell = true) (hm : m.isCell = true) (ht : t.isCell = true) (hp : (ints p).all AV.isCell = true) (hu : u < 2) (T : Tri p 0 a b c) (hch : ch < 2 ^ 62) (up : Int)
    (hup : [a, b, c].getD (u + 1) 0 - [a, b, c].getD u 0 = up) : call Cv 103 [.agg (bkC N vr step ch pf cr m t), .agg (ints p), .agg [I ((u + 1 : Nat) : Int), I (0 : Nat)]] = some (.bool (decide (0 ≤ up) && ch.testBit up.toNat)) := by
  have hg := T.get
  have hl := T.len
  have hl' : 3 ≤ (ints p).length := by simp [ints]; omega
  simp only [Nat.zero_mul, List.drop_zero] at hg
  have hr : up ≤ 13 := by
    have := T.a; have := T.b; have := T.c
    obtain rfl | rfl : u = 0 ∨ u = 1 := by omega
    · simp at hup; omega
    · simp at hup; omega
  have hab : call Cv 121 [.agg [I 0, I 0, I 0, I a, I b, I c, I ((u + 1 : Nat) : Int)]] = some (I up) := by
    rw [← hup]
    exact above_call [0, 0, 0] [a, b, c] rfl rfl u hu (by have := T.a; have := T.b; have := T.c; simp; omega)
  have hv : ((u + 1 : Nat) : Int) > 0 := by omega
  generalize ((u + 1 : Nat) : Int) = V at *
  rw [call_run comp103 (Nat.le_of_ble_eq_true rfl)]
  by_cases hneg : up < 0
  · have : ¬ 0 ≤ up := by omega
    simp (maxSteps := 10000000) [-List.getD_eq_getElem?_getD, code103, bkC, hvr, hcr, hm, ht, hp, hg, hl', fillA, setAt, hv, hab, hneg, this]
  · obtain ⟨k, rfl⟩ := Int.eq_ofNat_of_zero_le (show 0 ≤ up by omega)
    have hlt : ch / 2 ^ k < 2 ^ 62 := Nat.lt_of_le_of_lt (Nat.div_le_self _ _) hch
    have b1 := shr_small ch k (by omega)
    have b2 := and_one _ hlt
    have b3 := bit_zero ch k
    have hk : ¬ (k : Int) < 0 := by omega
    generalize ch / 2 ^ k = D at *
    cases hb : ch.testBit k <;> rw [hb] at b3 <;> simp (maxSteps := 10000000) [-List.getD_eq_getElem?_getD, code103, bkC, hvr, hcr, hm, ht, hp, hg, hl', fillA, setAt, hv, hab, hk, -binA, -binI, bi_gtr, bi_lss, bi_eql, bi_sub, b1, b2, hb] <;> (simp [binA, binI] at b3; omega)
end
end Go.Ai

set_option maxRecDepth 100000
set_option linter.unusedSimpArgs false
set_option linter.unusedVariables false
namespace Go.Ai
open Go.Part (Sp Cp)
section
variable {N step : Int} {ch pf : Nat} {vr cr m t : AV} {p : List Int} {v i : Nat} {a b c a' b' c' : Int}
theorem style_vj {u j : Nat} (hvr : vr.isCell = true) (hcr : cr.isCell = true) (hm : m.isCell = true) (ht : t.isCell = true) (hp : (ints p).all AV.isCell = true) (hu : u < 2) (hj : j + 1 < 3) (T : Tri p (j + 1) a b c) (T' : Tri p j a' b' c') (hs : 0 ≤ step ∧ step ≤ 7)
    (hch : ch < 2 ^ 62) (hpf : pf < 2 ^ 62) (up was st : Int) (hup : [a, b, c].getD (u + 1) 0 - [a, b, c].getD u 0 = up) (hwas : [a', b', c'].getD (u + 1) 0 - [a', b', c'].getD u 0 = was) (hstp : [a, b, c].getD (u + 1) 0 - [a', b', c'].getD (u + 1) 0 = st) :
    call Cv 103 [.agg (bkC N vr step ch pf cr m t), .agg (ints p), .agg [I ((u + 1 : Nat) : Int), I ((j + 1 : Nat) : Int)]] = some (.bool ((decide (0 ≤ up) && ch.testBit up.toNat) && (lie st (-step) step && (decide (st = 0) || (!decide (up = was) || !pf.testBit up.toNat))))) := by
  have hg := T.get
  have hg' := T'.get
  have hl := T.len
  have hl2 : (j + 1) * 3 + 3 ≤ (ints p).length := by simp [ints]; omega
  have hl3 : j * 3 + 3 ≤ (ints p).length := by simp [ints]; omega
  have h0 : (0 : Int) ≤ ((j + 1 : Nat) : Int) := by omega
  have h3 : ((j + 1 : Nat) : Int) < 3 := by omega
  have h0' : (0 : Int) ≤ ((j : Nat) : Int) := by omega
  have h3' : ((j : Nat) : Int) < 3 := by omega
  have hz : (((j + 1 : Nat) : Int) == 0) = false := by simp; omega
  have hw : IntKind.wrap .i64 (((j + 1 : Nat) : Int) - 1) = j := by rw [wrap_small (by omega) (by omega)]; omega
  have hr : up ≤ 13 := by
    have := T.a; have := T.b; have := T.c
    obtain rfl | rfl : u = 0 ∨ u = 1 := by omega
    · simp at hup; omega
    · simp at hup; omega
  have ra : ∀ n ∈ [a, b, c], 0 ≤ n + 1 ∧ n ≤ 12 := by have := T.a; have := T.b; have := T.c; simp; omega
  have ra' : ∀ n ∈ [a', b', c'], 0 ≤ n + 1 ∧ n ≤ 12 := by have := T'.a; have := T'.b; have := T'.c; simp; omega
  have hab : call Cv 121 [.agg [I 0, I 0, I 0, I a, I b, I c, I ((u + 1 : Nat) : Int)]] = some (I up) := by
    rw [← hup]; exact above_call [0, 0, 0] [a, b, c] rfl rfl u hu ra
  have hab2 : call Cv 121 [.agg [I a', I b', I c', I a, I b, I c, I ((u + 1 : Nat) : Int)]] = some (I up) := by
    rw [← hup]; exact above_call [a', b', c'] [a, b, c] rfl rfl u hu ra
  have hab3 : call Cv 121 [.agg [I 0, I 0, I 0, I a', I b', I c', I ((u + 1 : Nat) : Int)]] = some (I was) := by
    rw [← hwas]; exact above_call [0, 0, 0] [a', b', c'] rfl rfl u hu ra'
  have hst : call Cv 123 [.agg [I a', I b', I c', I a, I b, I c, I ((u + 1 : Nat) : Int)]] = some (I st) := by
    rw [← hstp]; exact step_call [a', b', c'] [a, b, c] rfl rfl (u + 1) (by omega) ra' ra
  have hlc := within_call st (-step) step
  have hn : IntKind.wrap .i64 (-step) = -step := wrap_small (by omega) (by omega)
  have hv : ((u + 1 : Nat) : Int) > 0 := by omega
  have hvz : (((u + 1 : Nat) : Int) == 0) = false := by simp; omega
  have hJ : ((j + 1 : Nat) : Int).toNat = j + 1 := by omega
  generalize ((j + 1 : Nat) : Int) = J at *
  generalize ((u + 1 : Nat) : Int) = V at *
  rw [call_run comp103 (Nat.le_of_ble_eq_true rfl)]
  by_cases hneg : up < 0
  · have : ¬ 0 ≤ up := by omega
    simp (maxSteps := 10000000) [-List.getD_eq_getElem?_getD, code103, bkC, hvr, hcr, hm, ht, hp, hg, hl2, fillA, setAt, h0, h3, hJ, hv, hab, hneg, this]
  · obtain ⟨k, rfl⟩ := Int.eq_ofNat_of_zero_le (show 0 ≤ up by omega)
    have hlt : ch / 2 ^ k < 2 ^ 62 := Nat.lt_of_le_of_lt (Nat.div_le_self _ _) hch
    have hlt2 : pf / 2 ^ k < 2 ^ 62 := Nat.lt_of_le_of_lt (Nat.div_le_self _ _) hpf
    have b1 := shr_small ch k (by omega)
    have b2 := and_one _ hlt
    have b3 : binA .eql (I ((ch / 2 ^ k % 2 : Nat) : Int)) (I 0) = _ := bit_zero ch k
    have c1 := shr_small pf k (by omega)
    have c2 := and_one _ hlt2
    have c3 := bit_zero pf k
    have hk : ¬ (k : Int) < 0 := by omega
    generalize ch / 2 ^ k % 2 = D2 at *
    generalize pf / 2 ^ k % 2 = F2 at *
    generalize ch / 2 ^ k = D at *
    generalize pf / 2 ^ k = F at *
    obtain ⟨q, hq⟩ : ∃ q, lie st (-step) step = q := ⟨_, rfl⟩
    rw [hq] at hlc
    have e0 : binA .eql (I st) (I 0) = some (.bool (decide (st = 0))) := by rw [bi_eql]; rfl
    have e1 : binA .neq (I k) (I was) = some (.bool (!decide ((k : Int) = was))) := by rw [bi_neq]; rfl
    obtain ⟨q0, hq0⟩ : ∃ q, decide (st = 0) = q := ⟨_, rfl⟩
    obtain ⟨q1, hq1⟩ : ∃ q, decide ((k : Int) = was) = q := ⟨_, rfl⟩
    rw [hq0] at e0
    rw [hq1] at e1
    have e2 : binA .eql (I J) (I 0) = some (.bool false) := by rw [bi_eql, hz]
    have e3 : binA .eql (I V) (I 0) = some (.bool false) := by rw [bi_eql, hvz]
    cases hb : ch.testBit k <;> rw [hb] at b3 <;> cases hpb : pf.testBit k <;> rw [hpb] at c3 <;> cases q <;> cases q0 <;> cases q1 <;>
      simp (maxSteps := 10000000) [-List.getD_eq_getElem?_getD, code103, bkC, hvr, hcr, hm, ht, hp, hg, hg', hl2, hl3, fillA, setAt, h0, h3, h0', h3', hJ, hw, hv, hab, hab2, hab3, hst, hlc, hn, hk, -binA, -binI, bi_gtr, bi_lss, bi_sub, e0, e1, e2, e3, b1, b2, b3, c1, c2, c3, hb, hpb, hq, hq0, hq1]
end
end Go.Ai

set_option maxRecDepth 100000
set_option linter.unusedSimpArgs false
set_option linter.unusedVariables false
/-! A map from places to notes. -/
namespace Go.Ai
open Go.Part (Sp Cp)
abbrev PM := List ((Int × Int) × Int)
def keyA (k : Int × Int) : AV := .agg [I k.1, I k.2]
def PM.ks (l : PM) : List AV := l.map fun e => keyA e.1
def PM.vs (l : PM) : List AV := l.map fun e => I e.2
def PM.get (l : PM) (k : Int × Int) : Option Int := match l with
  | [] => none
  | e :: l => if e.1 = k then some e.2 else PM.get l k
def PM.put (l : PM) (k : Int × Int) (v : Int) : PM := match l with
  | [] => [(k, v)]
  | e :: l => if e.1 = k then (e.1, v) :: l else e :: PM.put l k v
theorem key_eq (k k' : Int × Int) : keyEq (some 2) (keyA k) (keyA k') = some (decide (k = k')) := by
  obtain ⟨a, b⟩ := k
  obtain ⟨c, d⟩ := k'
  simp only [keyEq, keyA, List.length_cons, List.length_nil, and_self, if_true, eqCells, Option.map_some, Option.some.injEq, Prod.mk.injEq, Bool.decide_and, Bool.and_true]
  rfl
theorem find_spec (k : Int × Int) : ∀ (l : PM) (i : Nat), (PM.get l k = none ∧ findA (some 2) (keyA k) l.ks i = some none) ∨ ∃ (j : Nat) (v : Int), PM.get l k = some v ∧ findA (some 2) (keyA k) l.ks i = some (some (i + j)) ∧ l.vs[j]? = some (I v) ∧ ∀ w, l.vs.set j (I w) = (PM.put l k w).vs ∧ (PM.put l k w).ks = l.ks
  | [], i => .inl ⟨rfl, rfl⟩
  | e :: l, i => by
    simp only [PM.ks, List.map_cons, findA, key_eq, Option.bind_some, PM.get]
    by_cases h : e.1 = k
    · have h' : k = e.1 := h.symm
      refine .inr ⟨0, e.2, by simp [h], by simp [h'], by simp [PM.vs], fun w => by simp [PM.vs, PM.put, h]⟩
    · have h' : ¬ k = e.1 := fun he => h he.symm
      rcases find_spec k l (i + 1) with ⟨g1, g2⟩ | ⟨j, v, g1, g2, g3, g4⟩
      · exact .inl ⟨by simp [h, g1], by simp only [PM.ks] at g2; simp [h', g2]⟩
      · refine .inr ⟨j + 1, v, by simp [h, g1], ?_, by simpa [PM.vs] using g3, fun w => ?_⟩
        · simp only [PM.ks] at g2
          simp only [h', decide_false, Bool.false_eq_true, if_false, g2]
          congr 2; omega
        · obtain ⟨q1, q2⟩ := g4 w
          simp only [PM.vs, PM.ks, PM.put, h, if_false, List.map_cons, List.set_cons_succ] at q1 q2 ⊢
          exact ⟨by rw [q1], by rw [q2]⟩
end Go.Ai

set_option maxRecDepth 100000
set_option linter.unusedSimpArgs false
set_option linter.unusedVariables false
namespace Go.Ai
open Go.Part (Sp Cp)
theorem key_ok (k : Int × Int) : keyOk (some 2) (keyA k) = true := rfl
theorem lkp_map (σ : St) (l : PM) (k : Int × Int) (m : AV) (hm : entriesA σ m = some (l.ks, l.vs)) : lkpA σ (some 2) (I 0) m (keyA k) true = some (.tup [I ((l.get k).getD 0), .bool (l.get k).isSome]) := by
  rcases find_spec k l 0 with ⟨g1, g2⟩ | ⟨j, v, g1, g2, g3, _⟩
  · simp only [lkpA, hm, Option.bind_some, key_ok, if_true, g2, g1, Option.getD_none, Option.isSome_none]
  · simp only [lkpA, hm, Option.bind_some, key_ok, if_true, g2, Nat.zero_add, g3, Option.map_some, g1, Option.getD_some, Option.isSome_some]
theorem put_none (k : Int × Int) (v : Int) : ∀ l : PM, PM.get l k = none → PM.put l k v = l ++ [(k, v)]
  | [], _ => rfl
  | e :: l, h => by
    simp only [PM.get] at h
    split at h
    · cases h
    · rename_i hk
      simp only [PM.put, hk, if_false, List.cons_append, put_none k v l h]
theorem mput_map (σ : St) (l : PM) (k : Int × Int) (v : Int) (i : Nat) (hm : σ.maps[i]? = some (l.ks, l.vs)) (hr : σ.mro ≤ i) : mputA σ (some 2) (.mp i) (keyA k) (I v) = some { σ with maps := σ.maps.set i ((PM.put l k v).ks, (PM.put l k v).vs) } := by
  rcases find_spec k l 0 with ⟨g1, g2⟩ | ⟨j, w, g1, g2, g3, g4⟩
  · simp only [mputA, hm, Option.bind_some, hr, key_ok, and_self, if_true, g2, put_none k v l g1]
    simp [PM.ks, PM.vs]
  · obtain ⟨q1, q2⟩ := g4 v
    simp only [mputA, hm, Option.bind_some, hr, key_ok, and_self, if_true, g2, Nat.zero_add, q1, q2]
end Go.Ai

set_option maxRecDepth 100000
set_option linter.unusedSimpArgs false
set_option linter.unusedVariables false
namespace Go.Ai
open Go.Part (Sp Cp)
def rightM (l : PM) (k : Int × Int) (n : Int) : Bool := match l.get k with
  | none => true
  | some m => decide (m = n)
section
variable {N step : Int} {ch pf : Nat} {vr cr t : AV}
theorem right_call (l : PM) (hvr : vr.isCell = true) (hcr : cr.isCell = true) (ht : t.isCell = true) (v i : Nat) (n : Int) :
    call Cv 101 [.agg (bkC N vr step ch pf cr (.mapv l.ks l.vs) t), .agg [I v, I i], I n] = some (.bool (rightM l (v, i) n)) := by
  have hk := fun σ => lkp_map σ l (v, i) (.mapv l.ks l.vs) rfl
  have hne : ((v : Int) == -1) = false := by simp
  simp only [keyA] at hk
  rw [call_run comp101 (Nat.le_of_ble_eq_true rfl)]
  rw [rightM]
  cases hg : PM.get l (v, i) with
  | none =>
    simp only [hg, Option.getD_none, Option.isSome_none] at hk
    simp (maxSteps := 10000000) [-List.getD_eq_getElem?_getD, code101, bkC, hvr, hcr, ht, hk, hne, eqCells]
  | some m =>
    simp only [hg, Option.getD_some, Option.isSome_some] at hk
    have hq : (m == n) = decide (m = n) := rfl
    simp (maxSteps := 10000000) [-List.getD_eq_getElem?_getD, code101, bkC, hvr, hcr, ht, hk, hne, eqCells, hq]
end
end Go.Ai
