/- This text shows what Falls answers. No conditions of its own. -/
import Derived.Test.YtckbmdbebmkbaaaDoorFnK
set_option linter.unusedSimpArgs false
set_option linter.unusedVariables false
set_option maxRecDepth 100000
namespace Go.Ai
open Go.Office (Ft Rl Us Nt Bk Mt Dy DyK Dy0 Sg now0 seas vals keptN butF cnt vote allI mem_allI nonNeg mem_nonNeg ends ends_congr fallsF)
section
variable {x : OB} {T : List (List Int)}
def head79 (f u D k : Int) : Env := mkE 26 .any [(10, I k), (9, I D), (4, .box 0 0), (3, .rp [I f] 0), (2, .rp [I u] 0)]
theorem sg_drop (q : List Int) (u : Nat) {d : Nat} (hd : (d : Int) < x.days) : (x.bk.sg q u).drop d = x.bk.at q u d :: (x.bk.sg q u).drop (d + 1) := by
  have h := Go.Office.at_some (b := x.bk) (q := q) (u := u) (d := d) hd
  obtain ⟨h1, h2⟩ := List.getElem?_eq_some_iff.1 h
  rw [← h2, List.drop_eq_getElem_cons h1]
theorem loop79 (fx : x.Fine) (q : List Int) {u f : Nat} (hu : u < 2) (hf : f < 4) : ∀ (n d : Nat), (d : Int) + n = x.days →
    ∃ L, (run Cv 79 (.loop keep79_0 body79_0) (head79 f u x.days d) { boxes := [tC x q] } = some (.ex 0, mkE 26 .any L, { boxes := [tC x q] }) ∧ fallsF f ((x.bk.sg q u).drop d) d = -1) ∨
      (run Cv 79 (.loop keep79_0 body79_0) (head79 f u x.days d) { boxes := [tC x q] } = some (.rt, mkE 26 .any L, { boxes := [tC x q] }) ∧ gt (mkE 26 .any L) 5 = I (fallsF f ((x.bk.sg q u).drop d) d))
  | 0, d, hd => by
    have hlt : ¬ (d : Int) < x.days := by omega
    have hnil : (x.bk.sg q u).drop d = [] := by
      have : (x.bk.sg q u).length = x.days.toNat := Go.Office.sg_len q u
      rw [List.drop_eq_nil_iff, this]; omega
    rw [hnil, run_loop]
    have hdec : decide ((d : Int) < x.days) = false := by simp [hlt]
    refine ⟨[(11, .bool false), (10, I d), (9, I x.days), (4, .box 0 0), (3, .rp [I f] 0), (2, .rp [I u] 0)], .inl ⟨?_, rfl⟩⟩
    simp (maxSteps := 10000000) [-List.getD_eq_getElem?_getD, body79_0, keep79_0, head79, hlt]
  | n + 1, d, hd => by
    have d6 : x.days ≤ 6 := fx.bk.d6
    have hlt : (d : Int) < x.days := by omega
    have hdec : decide ((d : Int) < x.days) = true := by simp [hlt]
    rw [sg_drop q u hlt, fallsF]
    have hs := at_set fx (q := q) (u := u) hlt
    have o1 := shr_op hs hf
    have o2 := and_op hs hf
    have o3 := eq_op hs hf
    have hk := smX_lkp (x := x) q hu hlt
    obtain ⟨f0, f1, f3⟩ := fld_sg (x.bk.at q u d)
    have hl : loadA { boxes := [tC x q] } none (.box 0 4) = some (.mapv (ksM (smX x q)) (vsM (smX x q))) := rfl
    have hr : ∀ σ (n : Nat), loadA σ none (.rp [I (n : Nat)] 0) = some (I (n : Nat)) := fun _ _ => rfl
    have w1 : IntKind.wrap .i64 ((d : Int) + 1) = ((d + 1 : Nat) : Int) := by rw [wrap_small (by omega) (by omega)]; omega
    have hadd : ∀ a b : Int, binA .add (I a) (I b) = some (I (IntKind.wrap .i64 (a + b))) := fun _ _ => rfl
    have hlss : ∀ a b : Int, binA .lss (I a) (I b) = some (.bool (decide (a < b))) := fun _ _ => rfl
    generalize x.bk.at q u d = s at *
    cases hb : s.set.testBit f with
    | false =>
      rw [hb] at o3
      rw [if_neg (by simp)]
      have e1 : (d : Int) + 1 = ((d + 1 : Nat) : Int) := by omega
      rw [e1]
      obtain ⟨L, ih⟩ := loop79 fx q hu hf n (d + 1) (by omega)
      refine ⟨L, ?_⟩
      have key : run Cv 79 (.loop keep79_0 body79_0) (head79 f u x.days d) { boxes := [tC x q] } = run Cv 79 (.loop keep79_0 body79_0) (head79 f u x.days ((d + 1 : Nat) : Int)) { boxes := [tC x q] } := by
        have hcut : cut { boxes := [tC x q] } { boxes := [tC x q] } (mkE 26 .any []) = { boxes := [tC x q] } := cut_self _ _ (by simp) (by simp)
        rw [run_loop]
        generalize MC.loop keep79_0 body79_0 = LL
        generalize hA : ((d + 1 : Nat) : Int) = A at *
        have hcs := fun e => cut_self { boxes := [tC x q] } e (by simp) (by simp)
        simp (maxSteps := 10000000) [-List.getD_eq_getElem?_getD, -loadA, -binA, -fldA, -cut, -List.all_eq_true, body79_0, keep79_0, head79, hlss, hdec, hlt, hl, hr, fill2, hk, f1, o1, o2, o3, hadd, w1, hcs]
      rw [key]
      exact ih
    | true =>
      rw [hb] at o3
      rw [if_pos rfl]
      have hfin : ∃ L, run Cv 79 (.loop keep79_0 body79_0) (head79 f u x.days d) { boxes := [tC x q] } = some (.rt, mkE 26 .any L, { boxes := [tC x q] }) ∧ gt (mkE 26 .any L) 5 = I (d : Nat) := by
        rw [run_loop]
        simp (maxSteps := 10000000) [-List.getD_eq_getElem?_getD, -loadA, -binA, -fldA, -cut, -List.all_eq_true, body79_0, keep79_0, head79, hlss, hdec, hlt, hl, hr, fill2, hk, f1, o1, o2, o3]
        exact ⟨_, rfl, by simp (maxSteps := 10000000) [-List.getD_eq_getElem?_getD, ]⟩
      obtain ⟨L, h1, h2⟩ := hfin
      exact ⟨L, .inr ⟨h1, h2⟩⟩
theorem falls_fn (fx : x.Fine) (c : List AV) (hc : c[0]? = some (I x.days)) (q : List Int) {u f : Nat} (hu : u < 2) (hf : f < 4) : call Cv 79 [.agg (tC x q), .rp c 0, .rp [I (u : Nat)] 0, .rp [I (f : Nat)] 0] = some (I (x.bk.falls q u f)) := by
  have d1 : 1 ≤ x.days := fx.bk.d1
  have hb := box_tC (x := x) q
  have hr : ∀ σ, loadA σ none (.rp c 0) = some (I x.days) := fun σ => by simp [loadA, partA, hc]
  have hfl : x.bk.falls q u f = fallsF f ((x.bk.sg q u).drop 0) ((0 : Nat) : Int) := rfl
  rw [hfl]
  have e0 : ((0 : Nat) : Int) = 0 := rfl
  obtain ⟨L, ⟨h1, h2⟩ | ⟨h1, h2⟩⟩ := loop79 fx q hu hf x.days.toNat 0 (by omega)
  · have h' := fun E (hE : mask keep79_0 E = _) => run_at h1 hE
    simp only [keep79_0, head79, e0] at h'
    rw [h2, call_run comp79 (Nat.le_of_ble_eq_true rfl)]
    simp (maxSteps := 10000000) [-List.getD_eq_getElem?_getD, -boxA, -loadA, code79, hb, hr, keep79_0, h']
  · have h' := fun E (hE : mask keep79_0 E = _) => run_at h1 hE
    simp only [keep79_0, head79, e0] at h'
    rw [call_run comp79 (Nat.le_of_ble_eq_true rfl)]
    simp (maxSteps := 10000000) [-List.getD_eq_getElem?_getD, -boxA, -loadA, code79, hb, hr, keep79_0, h', h2]
end
end Go.Ai

set_option maxRecDepth 100000
namespace Go.Ai
open Go.Office (Ft Rl Us Nt Bk Mt Dy DyK Dy0 Sg now0 seas vals keptN butF cnt vote allI mem_allI nonNeg mem_nonNeg ends ends_congr fallsF)
section
variable {x : OB} {T : List (List Int)}
def fallsA (O : XO x T) (u f : Int) : AV := .fn (.func 79) [] [.rp O.c 0, .rp [I u] 0, .rp [I f] 0]
theorem XO.box0 (O : XO x T) : boxA {} (.agg O.c) = some (.box 0 0, { boxes := [O.c] }) := by
  have hc : (AV.agg O.c).cells.all AV.isCell = true := O.cell
  simp only [boxA, hc, if_true]
  rfl
theorem falls61_call (O : XO x T) (u f : Int) : call Cv 61 [.agg O.c, I u, I f] = some (.agg [fallsA O u f]) := by
  have hb := O.box0
  have hp : ∀ n, pur ({ boxes := [O.c, [I u], [I f], [.fn (.func 79) [] [.box 0 0, .box 1 0, .box 2 0]]] } : St) (n + 3) (.fn (.func 79) [] [.box 0 0, .box 1 0, .box 2 0]) = some (fallsA O u f, true) := fun n => by
    have h1 := fun σ n => O.pur σ n
    simp [pur, purAll, h1, fallsA]
  have hst : storeA ({ boxes := [O.c, [I u], [I f], [.nilf]] } : St) 1 (.box 3 0) (.agg [.fn (.func 79) [] [.box 0 0, .box 1 0, .box 2 0]]) = some { boxes := [O.c, [I u], [I f], [.fn (.func 79) [] [.box 0 0, .box 1 0, .box 2 0]]] } := rfl
  have hld : loadA ({ boxes := [O.c, [I u], [I f], [.fn (.func 79) [] [.box 0 0, .box 1 0, .box 2 0]]] } : St) (some 1) (.box 3 0) = some (.agg [.fn (.func 79) [] [.box 0 0, .box 1 0, .box 2 0]]) := rfl
  have hb1 : boxA { boxes := [O.c] } (I u) = some (.box 1 0, { boxes := [O.c, [I u]] }) := rfl
  have hb2 : boxA { boxes := [O.c, [I u]] } (I f) = some (.box 2 0, { boxes := [O.c, [I u], [I f]] }) := rfl
  rw [call_run comp61 (Nat.le_of_ble_eq_true rfl)]
  simp (maxSteps := 10000000) [-List.getD_eq_getElem?_getD, -boxA, -storeA, -loadA, -pu_fn, code61, hb, hb1, hb2, fillF, hst, hld, hp]
theorem falls61_callA (O : XO x T) (u f : Int) (σ : St) (d : Bool) : callA Cv (run Cv) d (.fn (.func 61) [] []) [.agg O.c, I u, I f] σ = some (.agg [fallsA O u f], σ) := by
  have h4 := O.purA σ 10
  have hpu : purAll (pur σ 12) ([] ++ [.agg O.c, I u, I f] ++ []) = some ([.agg O.c, I u, I f], false) := by
    simp only [List.nil_append, List.append_nil, purAll, h4, Option.bind_some]
    rfl
  rw [ca_none (by rfl), hpu]
  simp only [pureCallA, pureA_call, falls61_call, backA]
  rfl
theorem falls_hg (O : XO x T) {u f : Nat} (hu : u < 2) (hf : f < 4) (q : List Int) : call Cv 79 [.agg (tC x q), .rp O.c 0, .rp [I (u : Nat)] 0, .rp [I (f : Nat)] 0] = some (I (x.bk.falls q u f)) := falls_fn O.f O.c rfl q hu hf
theorem falls_at (O : XO x T) (B : List (List AV)) {u f : Nat} (hu : u < 2) (hf : f < 4) : FnAt x T B (fallsA O u f) (fun q => x.bk.falls q u f) :=
  fnAt_of (caps := [.rp O.c 0, .rp [I (u : Nat)] 0, .rp [I (f : Nat)] 0]) (b := false) rfl (fun E m => rfl) (fun q _ => falls_hg O hu hf q)
end
def useI (x : OB) (u f : Int) : Bool := lie u 0 1 && lie f 0 ((x.fs.length : Int) - 1)
theorem use_ok {x : OB} (fx : x.Fine) {u f : Int} (h : useI x u f = true) : ∃ n m : Nat, u = n ∧ f = m ∧ n < 2 ∧ m < 4 ∧ m < x.fs.length := by
  have f4 := fx.bk.n4
  have hfl : x.bk.fs.length = x.fs.length := rfl
  simp only [useI, Bool.and_eq_true, lie_iff] at h
  exact ⟨u.toNat, f.toNat, by omega, by omega, by omega, by omega, by omega⟩
def fallsR (x : OB) (u f : Int) : AV := if errQ x (useI x u f) = 0 then pair3 (hullE (x.bk.fallsL u.toNat f.toNat)) (hullP (x.bk.fallsL u.toNat f.toNat)) else pair3 (errQ x (useI x u f)) (0, 0)
theorem Falls_call (x : OB) (hx : x.Ok) (u f : Int) : call Cv 30 [x.av, I u, I f] = some (fallsR x u f) := by
  have p1 := hx.fr.cell
  have p2 := hx.q0.cell
  have p3 := hx.q1.cell
  have p4 := hx.nr.cell
  have r1 := hx.fr.pur
  have r2 := hx.q0.pur
  have r3 := hx.q1.pur
  have r4 := hx.nr.pur
  have hl := flen hx
  have hlf := hx.lf
  have hw : IntKind.wrap .i64 ((x.fs.length : Int) - 1) = x.fs.length - 1 := wrap_small (by omega) (by omega)
  have hlie := within_call f 0 ((x.fs.length : Int) - 1)
  have hlu := within_call u 0 1
  obtain ⟨is, his⟩ : ∃ is, is = useI x u f := ⟨_, rfl⟩
  have his2 : (lie u 0 1 && lie f 0 ((x.fs.length : Int) - 1)) = is := his.symm
  have hl0 : ∀ E, loadA { boxes := [I x.days, I x.first, x.fr, x.q0, .bool x.g0, x.q1, .bool x.g1, x.nr] :: E } (some 8) (.box 0 0) = some (.agg [I x.days, I x.first, x.fr, x.q0, .bool x.g0, x.q1, .bool x.g1, x.nr]) := fun _ => rfl
  have hl1 : ∀ E, loadA { boxes := [I x.days, I x.first, x.fr, x.q0, .bool x.g0, x.q1, .bool x.g1, x.nr] :: E } none (.box 0 2) = some x.fr := fun _ => rfl
  rw [fallsR, ← his]
  rcases asked_cases x hx is with ⟨he, A, hA, hAc, hc⟩ | ⟨he, O, hc⟩
  · rw [if_neg he, pair3]
    have hse := zero9_set A hA
    simp only [OB.av, OB.cells] at hc
    have hne : ((errQ x is) == 0) = false := by rw [beq_eq_false_iff_ne]; exact he
    have hz : ∀ Z, loadA { boxes := Z :: [I 0, I 0] :: [A] } (some 2) (.box 1 0) = some (.agg [I 0, I 0]) := fun _ => rfl
    generalize lie u 0 1 = b1 at *
    generalize lie f 0 ((x.fs.length : Int) - 1) = b2 at *
    generalize errQ x is = er at *
    rw [call_run comp30 (Nat.le_of_ble_eq_true rfl)]
    cases b1 <;> cases b2 <;> simp only [Bool.and_true, Bool.and_false, Bool.false_and, Bool.true_and] at his2 <;> subst his2 <;>
      simp (maxSteps := 10000000) [-List.getD_eq_getElem?_getD, -loadA, code30, OB.av, OB.cells, p1, p2, p3, p4, r1, r2, r3, r4, hl, hw, hlie, hlu, hc, hA, hAc, hse, hne, he, AV.cells, fillA, retc2, hl0, hl1, hz]
  · rw [if_pos he, pair3]
    obtain ⟨hk, hi, hT⟩ := errQ_zero he
    rw [hi] at his
    obtain ⟨n, k, rfl, rfl, hn, hk4, hkl⟩ := use_ok O.f his.symm
    obtain ⟨B, hB⟩ : ∃ B : List (List AV), B = [x.cells, [I 0, I 0], O.c] := ⟨_, rfl⟩
    obtain ⟨rr, S1, S2, S3, hall, hh, hst2, hld2⟩ := span_callA O hT B _ _ (falls_at O B hn hk4) 1 (by subst hB; rfl)
    have hd : x.bk.fallsL ((n : Int).toNat) ((k : Int).toNat) = x.bk.tr.map fun q => x.bk.falls q n k := by rw [Int.toNat_natCast, Int.toNat_natCast]; rfl
    rw [hd]
    generalize hullP (x.bk.tr.map fun q => x.bk.falls q n k) = P at *
    generalize hullE (x.bk.tr.map fun q => x.bk.falls q n k) = E at *
    subst hB
    have h9 := O.load9 (B := [x.cells, [I 0, I 0], O.c]) (k := 2) rfl
    have hOl : O.c.length = 9 := rfl
    have hOc := O.cell
    have hse := zero9_set O.c rfl
    have h61 := falls61_callA O (n : Nat) (k : Nat)
    simp only [OB.av, OB.cells] at hc hall h9
    have hst0 : storeA { boxes := [[I x.days, I x.first, x.fr, x.q0, .bool x.g0, x.q1, .bool x.g1, x.nr], [I 0, I 0], [I 0, I 0, .nils, .nils, .bool false, .nils, .bool false, .nils, .nils]] } 9 (.box 2 0) (.agg O.c) = some { boxes := [[I x.days, I x.first, x.fr, x.q0, .bool x.g0, x.q1, .bool x.g1, x.nr], [I 0, I 0], O.c] } := by
      simp [storeA, AV.cells, hOl, hOc, hse]
    rw [hi] at hc his2
    rw [Bool.and_eq_true] at his2
    rw [his2.1] at hlu
    rw [his2.2] at hlie
    rw [call_run comp30 (Nat.le_of_ble_eq_true rfl)]
    simp (maxSteps := 10000000) [-List.getD_eq_getElem?_getD, -storeA, -loadA, code30, OB.av, OB.cells, p1, p2, p3, p4, r1, r2, r3, r4, hl, hw, hlie, hlu, hc, hst0, hl0, hl1, retc2, h9, h61, hall, hh, hst2, hld2]
end Go.Ai
