/- This text shows what Kept, Agree, Fits answer. No conditions of its own. -/
import Derived.Test.YtckbmdbebmkbaaaDoorFnL
set_option linter.unusedSimpArgs false
set_option linter.unusedVariables false
set_option maxRecDepth 100000
namespace Go.Ai
open Go.Office (Ft Rl Us Nt Bk Mt Dy DyK Dy0 Sg now0 seas vals keptN butF cnt vote allI mem_allI nonNeg mem_nonNeg ends ends_congr fallsF)
section
variable {x : OB} {T : List (List Int)}
def head59 (O : XO x T) (F : AV) (s n : Bool) (k : Int) : Env := mkE 25 .any [(12, I k), (11, I T.length), (10, O.tv), (6, .bool n), (5, .bool s), (1, F)]
theorem loop59 (O : XO x T) (g : Nat) (caps : List AV) (hF : FnOk g caps) (p : List Int → Bool) (hg : ∀ q ∈ T, call Cv g (.agg (tC x q) :: caps) = some (.bool (p q))) : ∀ (l : List (List Int)) (k : Nat) (s n : Bool), k ≤ T.length → T.drop k = l →
    run Cv 59 (.loop keep59_0 body59_0) (head59 O (.fn (.func g) [] caps) s n k) { boxes := [O.c] } = some (.ex 0, mkE 25 .any [(13, .bool false), (12, I T.length), (11, I T.length), (10, O.tv), (6, .bool (n || l.any fun q => !p q)), (5, .bool (s || l.any p)), (1, .fn (.func g) [] caps)], { boxes := [O.c] })
  | [], k, s, n, hk, h => by
    obtain rfl := drop_nil hk h
    rw [run_loop, List.any_nil, List.any_nil, Bool.or_false, Bool.or_false]
    simp (maxSteps := 10000000) [-List.getD_eq_getElem?_getD, body59_0, keep59_0, head59]
  | t :: l, k, s, n, hk, h => by
    obtain ⟨hlt, ha, hd⟩ := head_drop h
    have hTl := O.lt
    have hw := wrap_succ hlt (by omega)
    have hlt' : (k : Int) < (T.length : Int) := by omega
    have hix := q_ix O hlt
    rw [ha] at hix
    have hca := fun σ => hF.callA t σ (.bool (p t)) (hg t (by rw [← ha]; exact List.getElem_mem _))
    have l7 := load7 (x := x) t
    have u1 := O.trow.under
    have u2 := O.under
    have hun := hF.un
    have hcell := tC_cell (x := x) t
    have hlen : (tC x t).length = 7 := rfl
    have hs7 : setAt [I 0, I 0, I 0, I 0, .nilm, .nils, .nils] 0 (tC x t) = tC x t := rfl
    have hst : storeA { boxes := [O.c, [I 0, I 0, I 0, I 0, .nilm, .nils, .nils]] } 7 (.box 1 0) (.agg (tC x t)) = some { boxes := [O.c, tC x t] } := by
      simp [storeA, AV.cells, hlen, hcell, hs7]
    have hld : loadA { boxes := [O.c, tC x t] } (some 7) (.box 1 0) = some (.agg (tC x t)) := rfl
    have ih := loop59 O g caps hF p hg l (k + 1) (s || p t) (n || !p t) hlt hd
    rw [List.any_cons, List.any_cons, ← Bool.or_assoc, ← Bool.or_assoc, ← ih, run_loop]
    generalize MC.loop keep59_0 body59_0 = L
    cases hp : p t with
    | false =>
      rw [hp] at hca
      simp (maxSteps := 10000000) [-List.getD_eq_getElem?_getD, -ixsA, -loadA, -storeA, -un_fn, body59_0, keep59_0, head59, hlt', hw, hix, l7, hca, hst, hld, u1, u2, hun]
    | true =>
      rw [hp] at hca
      simp (maxSteps := 10000000) [-List.getD_eq_getElem?_getD, -ixsA, -loadA, -storeA, -un_fn, body59_0, keep59_0, head59, hlt', hw, hix, l7, hca, hst, hld, u1, u2, hun]
theorem vote_call (O : XO x T) (g : Nat) (caps : List AV) (hF : FnOk g caps) (p : List Int → Bool) (hg : ∀ q ∈ T, call Cv g (.agg (tC x q) :: caps) = some (.bool (p q))) : call Cv 59 [.agg O.c, .fn (.func g) [] caps] = some (I (vote p T)) := by
  have h := loop59 O g caps hF p hg T 0 false false (Nat.zero_le _) rfl
  have hl' := fun E (hE : mask keep59_0 E = _) => run_at h hE
  have e0 : ((0 : Nat) : Int) = 0 := rfl
  simp only [keep59_0, head59, e0, Bool.false_or] at hl'
  have hb := O.box0
  have hld : loadA { boxes := [O.c] } none (.box 0 8) = some O.tv := rfl
  have hq := q_len O
  have hv : vote p T = if T.any p then (if T.any fun q => !p q then 1 else 2) else 0 := by
    unfold vote
    have : (T.any fun q => !p q) = !T.all p := by rw [List.not_all_eq_any_not]
    rw [this]
    cases T.all p <;> simp
  rw [hv]
  generalize T.any p = b1 at *
  generalize (T.any fun q => !p q) = b2 at *
  rw [call_run comp59 (Nat.le_of_ble_eq_true rfl)]
  cases b1 <;> cases b2 <;> simp (maxSteps := 10000000) [-List.getD_eq_getElem?_getD, -boxA, -loadA, code59, hb, hld, hq, keep59_0, hl']
theorem vote_callA (O : XO x T) (g : Nat) (caps : List AV) (hF : FnOk g caps) (p : List Int → Bool) (hg : ∀ q ∈ T, call Cv g (.agg (tC x q) :: caps) = some (.bool (p q))) (σ : St) (caps' : List AV) (b : Bool) (hp : purAll (pur σ 11) caps' = some (caps, b)) : callA Cv (run Cv) false (.fn (.func 59) [] []) [.agg O.c, .fn (.func g) [] caps'] σ = some (I (vote p T), σ) := by
  have h4 := O.purA σ 10
  have hpu : purAll (pur σ 12) ([] ++ [.agg O.c, .fn (.func g) [] caps'] ++ []) = some ([.agg O.c, .fn (.func g) [] caps], b) := by
    have h5 : pur σ 12 (.fn (.func g) [] caps') = some (.fn (.func g) [] caps, b) := by
      simp [pur, purAll, hp]
    simp [purAll, h4, h5]
  have hfo : ∀ n : Int, fo depth (I n) = true := fun _ => rfl
  rw [ca_none (by rfl), hpu]
  simp only [pureCallA, pureA_call, vote_call O g caps hF p hg, backA, hfo]
  cases b <;> rfl
theorem kept_fn (O : XO x T) {u f : Nat} (hu : u < 2) (hf : f < 4) (q : List Int) : call Cv 62 [.agg (tC x q), .rp [fallsA O u f] 0] = some (.bool (x.bk.keptB u f q)) := by
  have hb := box_tC (x := x) q
  have hl : ∀ σ, loadA σ none (.rp [fallsA O u f] 0) = some (fallsA O u f) := fun _ => rfl
  have h7 : loadA { boxes := [tC x q] } (some 7) (.box 0 0) = some (.agg (tC x q)) := rfl
  have hc : callA Cv (run Cv) false (fallsA O u f) [.agg (tC x q)] { boxes := [tC x q] } = some (I (x.bk.falls q u f), { boxes := [tC x q] }) := by
    have hF : FnAt x [q] [tC x q] (fallsA O u f) (fun q => x.bk.falls q u f) := fnAt_of (caps := [.rp O.c 0, .rp [I (u : Nat)] 0, .rp [I (f : Nat)] 0]) (b := false) rfl (fun E m => rfl) (fun q _ => falls_hg O hu hf q)
    exact hF.call [] q (List.mem_singleton.2 rfl)
  unfold Bk.keptB
  generalize x.bk.falls q u f = v at *
  rw [call_run comp62 (Nat.le_of_ble_eq_true rfl)]
  simp (maxSteps := 10000000) [-List.getD_eq_getElem?_getD, -boxA, -loadA, code62, hb, hl, h7, hc]
end
def keptI (x : OB) (u f : Int) : Int := if errQ x (useI x u f) = 0 then vote (x.bk.keptB u.toNat f.toNat) x.bk.tr else 0
theorem Kept_call (x : OB) (hx : x.Ok) (u f : Int) : call Cv 29 [x.av, I u, I f] = some (.tup [I (keptI x u f), I (errQ x (useI x u f))]) := by
  have p1 := hx.fr.cell
  have p2 := hx.q0.cell
  have p3 := hx.q1.cell
  have p4 := hx.nr.cell
  have r1 := hx.fr.pur
  have r2 := hx.q0.pur
  have r3 := hx.q1.pur
  have r4 := hx.nr.pur
  have hl := flen hx
  have hlf := hx.lf
  have hw : IntKind.wrap .i64 ((x.fs.length : Int) - 1) = x.fs.length - 1 := wrap_small (by omega) (by omega)
  have hlie := within_call f 0 ((x.fs.length : Int) - 1)
  have hlu := within_call u 0 1
  obtain ⟨is, his⟩ : ∃ is, is = useI x u f := ⟨_, rfl⟩
  have his2 : (lie u 0 1 && lie f 0 ((x.fs.length : Int) - 1)) = is := his.symm
  have hl0 : ∀ E, loadA { boxes := [I x.days, I x.first, x.fr, x.q0, .bool x.g0, x.q1, .bool x.g1, x.nr] :: E } (some 8) (.box 0 0) = some (.agg [I x.days, I x.first, x.fr, x.q0, .bool x.g0, x.q1, .bool x.g1, x.nr]) := fun _ => rfl
  have hl1 : ∀ E, loadA { boxes := [I x.days, I x.first, x.fr, x.q0, .bool x.g0, x.q1, .bool x.g1, x.nr] :: E } none (.box 0 2) = some x.fr := fun _ => rfl
  rw [keptI, ← his]
  rcases asked_cases x hx is with ⟨he, A, hA, hAc, hc⟩ | ⟨he, O, hc⟩
  · rw [if_neg he]
    have hse := zero9_set A hA
    simp only [OB.av, OB.cells] at hc
    have hne : ((errQ x is) == 0) = false := by rw [beq_eq_false_iff_ne]; exact he
    generalize lie u 0 1 = b1 at *
    generalize lie f 0 ((x.fs.length : Int) - 1) = b2 at *
    generalize errQ x is = er at *
    rw [call_run comp29 (Nat.le_of_ble_eq_true rfl)]
    cases b1 <;> cases b2 <;> simp only [Bool.and_true, Bool.and_false, Bool.false_and, Bool.true_and] at his2 <;> subst his2 <;>
      simp (maxSteps := 10000000) [-List.getD_eq_getElem?_getD, -loadA, code29, OB.av, OB.cells, p1, p2, p3, p4, r1, r2, r3, r4, hl, hw, hlie, hlu, hc, hA, hAc, hse, hne, he, AV.cells, ret2, hl0, hl1]
  · rw [if_pos he]
    obtain ⟨hk, hi, hT⟩ := errQ_zero he
    rw [hi] at his
    obtain ⟨n, k, rfl, rfl, hn, hk4, hkl⟩ := use_ok O.f his.symm
    have hv := vote_callA O 62 [.rp [fallsA O n k] 0] (rp1_ok 62 rfl [[fallsA O n k]]) (x.bk.keptB n k) (fun q _ => kept_fn O hn hk4 q) { boxes := [x.cells, O.c, [fallsA O n k]] } [.box 2 0] true (by
      simp [purAll, pur, fallsA])
    rw [Int.toNat_natCast, Int.toNat_natCast]
    generalize vote (x.bk.keptB n k) x.bk.tr = V at *
    have h9 := fun E => O.load9 (B := [x.cells, O.c] ++ E) (k := 1) rfl
    have hOl : O.c.length = 9 := rfl
    have hOc := O.cell
    have hse := zero9_set O.c rfl
    have h61 := falls61_callA O (n : Nat) (k : Nat)
    simp only [OB.av, OB.cells, List.cons_append, List.nil_append] at hc h9 hv
    have hst0 : storeA { boxes := [[I x.days, I x.first, x.fr, x.q0, .bool x.g0, x.q1, .bool x.g1, x.nr], [I 0, I 0, .nils, .nils, .bool false, .nils, .bool false, .nils, .nils]] } 9 (.box 1 0) (.agg O.c) = some { boxes := [[I x.days, I x.first, x.fr, x.q0, .bool x.g0, x.q1, .bool x.g1, x.nr], O.c] } := by
      simp [storeA, AV.cells, hOl, hOc, hse]
    have hst1 : ∀ Z, storeA { boxes := [Z, O.c, [.nilf]] } 1 (.box 2 0) (.agg [fallsA O n k]) = some { boxes := [Z, O.c, [fallsA O n k]] } := fun _ => rfl
    rw [hi] at hc his2
    rw [Bool.and_eq_true] at his2
    rw [his2.1] at hlu
    rw [his2.2] at hlie
    rw [he, call_run comp29 (Nat.le_of_ble_eq_true rfl)]
    simp (maxSteps := 10000000) [-List.getD_eq_getElem?_getD, -storeA, -loadA, code29, OB.av, OB.cells, p1, p2, p3, p4, r1, r2, r3, r4, hl, hw, hlie, hlu, hc, hst0, hst1, hl0, hl1, ret2, h9, h61, hv]
def dayI (x : OB) (d : Int) : Bool := lie d 0 (IntKind.wrap .i64 (x.days - 1))
def agreeI (x : OB) (d : Int) : Int := if errQ x (dayI x d) = 0 then vote (x.bk.agreeB d.toNat) x.bk.tr else 0
theorem Agree_call (x : OB) (hx : x.Ok) (d : Int) : call Cv 28 [x.av, I d] = some (.tup [I (agreeI x d), I (errQ x (dayI x d))]) := by
  have p1 := hx.fr.cell
  have p2 := hx.q0.cell
  have p3 := hx.q1.cell
  have p4 := hx.nr.cell
  have r1 := hx.fr.pur
  have r2 := hx.q0.pur
  have r3 := hx.q1.pur
  have r4 := hx.nr.pur
  have hlie := within_call d 0 (IntKind.wrap .i64 (x.days - 1))
  have hfe : lie d 0 (IntKind.wrap .i64 (x.days - 1)) = dayI x d := rfl
  rw [hfe] at hlie
  have hl0 : ∀ E, loadA { boxes := [I x.days, I x.first, x.fr, x.q0, .bool x.g0, x.q1, .bool x.g1, x.nr] :: E } (some 8) (.box 0 0) = some (.agg [I x.days, I x.first, x.fr, x.q0, .bool x.g0, x.q1, .bool x.g1, x.nr]) := fun _ => rfl
  have hl1 : ∀ E, loadA { boxes := [I x.days, I x.first, x.fr, x.q0, .bool x.g0, x.q1, .bool x.g1, x.nr] :: E } none (.box 0 0) = some (I x.days) := fun _ => rfl
  have hl2 : ∀ (n : Int) (a : List AV) E, loadA { boxes := a :: [I n] :: E } none (.box 1 0) = some (I n) := fun _ _ _ => rfl
  rw [agreeI]
  rcases asked_cases x hx (dayI x d) with ⟨he, A, hA, hAc, hc⟩ | ⟨he, O, hc⟩
  · rw [if_neg he]
    have hse := zero9_set A hA
    simp only [OB.av, OB.cells] at hc
    have hne : ((errQ x (dayI x d)) == 0) = false := by rw [beq_eq_false_iff_ne]; exact he
    rw [call_run comp28 (Nat.le_of_ble_eq_true rfl)]
    simp (maxSteps := 10000000) [-List.getD_eq_getElem?_getD, -loadA, code28, OB.av, OB.cells, p1, p2, p3, p4, r1, r2, r3, r4, hlie, hc, hA, hAc, hse, hne, he, AV.cells, ret2, hl0, hl1, hl2]
  · rw [if_pos he]
    obtain ⟨hk, hi, hT⟩ := errQ_zero he
    have d1 : 1 ≤ x.days := O.f.bk.d1
    have d6 : x.days ≤ 6 := O.f.bk.d6
    have w1 : IntKind.wrap .i64 (x.days - 1) = x.days - 1 := wrap_small (by omega) (by omega)
    obtain ⟨n, rfl⟩ : ∃ n : Nat, d = n := ⟨d.toNat, by have := hi; rw [dayI, lie_iff] at this; omega⟩
    have hn : (n : Int) < x.days := by have := hi; rw [dayI, lie_iff, w1] at this; omega
    have hv := vote_callA O 60 [.rp [I (n : Nat)] 0] (rp1_ok 60 rfl [[I (n : Nat)]]) (x.bk.agreeB n) (fun q _ => agree_fn q hn) { boxes := [x.cells, [I (n : Nat)], O.c] } [.box 1 0] true (by
      simp [purAll, pur])
    rw [Int.toNat_natCast]
    generalize vote (x.bk.agreeB n) x.bk.tr = V at *
    have h9 := O.load9 (B := [x.cells, [I (n : Nat)], O.c]) (k := 2) rfl
    have hOl : O.c.length = 9 := rfl
    have hOc := O.cell
    have hse := zero9_set O.c rfl
    simp only [OB.av, OB.cells] at hc h9 hv
    have hst0 : storeA { boxes := [[I x.days, I x.first, x.fr, x.q0, .bool x.g0, x.q1, .bool x.g1, x.nr], [I (n : Nat)], [I 0, I 0, .nils, .nils, .bool false, .nils, .bool false, .nils, .nils]] } 9 (.box 2 0) (.agg O.c) = some { boxes := [[I x.days, I x.first, x.fr, x.q0, .bool x.g0, x.q1, .bool x.g1, x.nr], [I (n : Nat)], O.c] } := by
      simp [storeA, AV.cells, hOl, hOc, hse]
    rw [he, call_run comp28 (Nat.le_of_ble_eq_true rfl)]
    simp (maxSteps := 10000000) [-List.getD_eq_getElem?_getD, -storeA, -loadA, code28, OB.av, OB.cells, p1, p2, p3, p4, r1, r2, r3, r4, hlie, hc, hst0, hl0, hl1, hl2, ret2, h9, hv]
end Go.Ai

set_option maxRecDepth 100000
namespace Go.Ai
open Go.Office (Ft Rl Us Nt Bk Mt Dy DyK Dy0 Sg now0 seas vals keptN butF cnt vote allI mem_allI nonNeg mem_nonNeg ends ends_congr fallsF)
section
variable {x : OB} {T : List (List Int)}
def fitB (x : OB) (n : Nt) (q : List Int) : Bool := decide ((x.bk.at q n.use.toNat n.day.toNat).chief = n.chief)
theorem fit_fn (q : List Int) (n : Nt) (hu : 0 ≤ n.use ∧ n.use ≤ 1) (hd : 0 ≤ n.day ∧ n.day < x.days) : call Cv 52 [.agg (tC x q), .rp (ntC n) 0] = some (.bool (fitB x n q)) := by
  have hb := box_tC (x := x) q
  have hl : loadA { boxes := [tC x q] } none (.box 0 4) = some (.mapv (ksM (smX x q)) (vsM (smX x q))) := rfl
  have hr : ∀ σ, loadA σ none (.rp (ntC n) 0) = some (I n.use) ∧ loadA σ none (.rp (ntC n) 1) = some (I n.day) ∧ loadA σ none (.rp (ntC n) 2) = some (I n.chief) := fun _ => ⟨rfl, rfl, rfl⟩
  have hr0 := fun σ => (hr σ).1
  have hr1 := fun σ => (hr σ).2.1
  have hr2 := fun σ => (hr σ).2.2
  have hk := smX_lkp (x := x) q (u := n.use.toNat) (d := n.day.toNat) (by omega) (by omega)
  rw [Int.toNat_of_nonneg hu.1, Int.toNat_of_nonneg hd.1] at hk
  unfold fitB
  generalize x.bk.at q n.use.toNat n.day.toNat = s at *
  obtain ⟨f0, f1, f3⟩ := fld_sg s
  have hbc : (s.chief == n.chief) = decide (s.chief = n.chief) := by
    rw [Bool.eq_iff_iff, beq_iff_eq, decide_eq_true_eq]
  rw [call_run comp52 (Nat.le_of_ble_eq_true rfl)]
  simp (maxSteps := 10000000) [-List.getD_eq_getElem?_getD, -boxA, -loadA, -fldA, code52, hb, hl, hr0, hr1, hr2, fill2, hk, f0, hbc]
theorem fits_any (O : XO x T) (n : Nt) (hu : 0 ≤ n.use ∧ n.use ≤ 1) (hd : 0 ≤ n.day ∧ n.day < x.days) : call Cv 51 [O.tv, .fn (.func 52) [] [.rp (ntC n) 0]] = some (.bool (T.any (fitB x n))) := by
  have hF := rp1_ok 52 rfl [ntC n]
  exact any51_call (cX x) (fun _ => rfl) (fun _ _ => rfl) (fun q σ m => by
    have := tC_pur (x := x) q σ (m + 2)
    simp [cX_is, Ai.pur, this]) (fitB x n) 52 [.rp (ntC n) 0] hF.pur hF.under rfl T (fun q _ => fit_fn q n hu hd) O.tv O.trow (by have := O.lt; omega)
end
def fitsV (x : OB) (n : Nt) : Bool := if errQ x (noteB x n) = 0 then x.bk.tr.any (fitB x n) else false
theorem note_ok {x : OB} (f : x.Fine) {n : Nt} (h : noteB x n = true) : 0 ≤ n.use ∧ n.use ≤ 1 ∧ 0 ≤ n.day ∧ n.day < x.days ∧ -1 ≤ n.chief ∧ n.chief < x.fs.length := by
  have d1 : 1 ≤ x.days := f.bk.d1
  have d6 : x.days ≤ 6 := f.bk.d6
  have n4 : x.fs.length ≤ 4 := f.bk.n4
  have w1 : IntKind.wrap .i64 (x.days - 1) = x.days - 1 := wrap_small (by omega) (by omega)
  have w2 : IntKind.wrap .i64 ((x.fs.length : Int) - 1) = x.fs.length - 1 := wrap_small (by omega) (by omega)
  simp only [noteB, Bool.and_eq_true, lie_iff, w1, w2] at h
  omega
theorem Fits_call (x : OB) (hx : x.Ok) (n : Nt) : call Cv 16 [x.av, ntA n] = some (.tup [.bool (fitsV x n), I (errQ x (noteB x n))]) := by
  have p1 := hx.fr.cell
  have p2 := hx.q0.cell
  have p3 := hx.q1.cell
  have p4 := hx.nr.cell
  have r1 := hx.fr.pur
  have r2 := hx.q0.pur
  have r3 := hx.q1.pur
  have r4 := hx.nr.pur
  have hsp := isNote_call x hx n
  simp only [OB.av, OB.cells] at hsp
  have hn : ntA n = .agg (ntC n) := rfl
  rw [hn] at hsp ⊢
  have hbn : ∀ B : List (List AV), boxA { boxes := B } (.agg (ntC n)) = some (.box B.length 0, { boxes := B ++ [ntC n] }) := fun B => rfl
  have hpn : ∀ σ k, pur σ (k + 2) (.agg (ntC n)) = some (.agg (ntC n), false) := fun _ _ => rfl
  have hl0 : ∀ E, loadA { boxes := [I x.days, I x.first, x.fr, x.q0, .bool x.g0, x.q1, .bool x.g1, x.nr] :: E } (some 8) (.box 0 0) = some (.agg [I x.days, I x.first, x.fr, x.q0, .bool x.g0, x.q1, .bool x.g1, x.nr]) := fun _ => rfl
  have hl1 : ∀ (a : List AV) E, loadA { boxes := a :: ntC n :: E } (some 3) (.box 1 0) = some (.agg (ntC n)) := fun _ _ => rfl
  have hb0 : boxA {} (.agg [I x.days, I x.first, x.fr, x.q0, .bool x.g0, x.q1, .bool x.g1, x.nr]) = some (.box 0 0, { boxes := [[I x.days, I x.first, x.fr, x.q0, .bool x.g0, x.q1, .bool x.g1, x.nr]] }) := by
    simp [boxA, p1, p2, p3, p4]
  unfold fitsV
  rcases asked_cases x hx (noteB x n) with ⟨he, A, hA, hAc, hc⟩ | ⟨he, O, hc⟩
  · rw [if_neg he]
    have hse := zero9_set A hA
    simp only [OB.av, OB.cells] at hc
    have hne : ((errQ x (noteB x n)) == 0) = false := by rw [beq_eq_false_iff_ne]; exact he
    generalize noteB x n = nb at *
    rw [call_run comp16 (Nat.le_of_ble_eq_true rfl)]
    simp (maxSteps := 10000000) [-List.getD_eq_getElem?_getD, -loadA, -boxA, code16, OB.av, OB.cells, hb0, hbn, hpn, p1, p2, p3, p4, r1, r2, r3, r4, hl0, hl1, hsp, hc, hA, hAc, hse, hne, he, AV.cells, ret2]
  · rw [if_pos he]
    obtain ⟨hk, hi, hT⟩ := errQ_zero he
    obtain ⟨a1, a2, a3, a4, a5, a6⟩ := note_ok O.f hi
    have hv := fits_any O n ⟨a1, a2⟩ ⟨a3, a4⟩
    generalize x.bk.tr.any (fitB x n) = V at *
    have h9 : ∀ (Z Y : List AV), loadA { boxes := [Z, Y, O.c] } none (.box 2 8) = some O.tv := fun _ _ => rfl
    have hOl : O.c.length = 9 := rfl
    have hOc := O.cell
    have hse := zero9_set O.c rfl
    have htp := O.trow.pur
    simp only [OB.av, OB.cells] at hc
    have hst0 : storeA { boxes := [[I x.days, I x.first, x.fr, x.q0, .bool x.g0, x.q1, .bool x.g1, x.nr], ntC n, [I 0, I 0, .nils, .nils, .bool false, .nils, .bool false, .nils, .nils]] } 9 (.box 2 0) (.agg O.c) = some { boxes := [[I x.days, I x.first, x.fr, x.q0, .bool x.g0, x.q1, .bool x.g1, x.nr], ntC n, O.c] } := by
      simp [storeA, AV.cells, hOl, hOc, hse]
    have hpf : ∀ (Z Y : List AV) k, pur ({ boxes := [Z, ntC n, Y] } : St) (k + 3) (.fn (.func 52) [] [.box 1 0]) = some (.fn (.func 52) [] [.rp (ntC n) 0], true) := fun Z Y k => by
      have h1 : ∀ σ m, purAll (pur σ (m + 1)) (ntC n) = some (ntC n, false) := fun _ _ => rfl
      simp [pur, purAll, h1]
    rw [he]
    rw [hi] at hc hsp
    rw [call_run comp16 (Nat.le_of_ble_eq_true rfl)]
    simp (maxSteps := 10000000) [-List.getD_eq_getElem?_getD, -storeA, -loadA, -boxA, -pu_fn, code16, OB.av, OB.cells, hb0, hbn, hpn, p1, p2, p3, p4, r1, r2, r3, r4, hl0, hl1, hsp, hc, hst0, ret2, h9, htp, hpf, hv]
end Go.Ai
