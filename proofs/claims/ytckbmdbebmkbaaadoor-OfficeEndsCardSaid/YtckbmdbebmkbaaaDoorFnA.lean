/- This text shows what Check answers. No conditions of its own. -/
import Derived.Test.YtckbmdbebmkbaaaDoorHelpC
import Derived.Test.YtckbmdbebmkbaaaDoorPlainB
set_option linter.unusedSimpArgs false
set_option linter.unusedVariables false
set_option maxRecDepth 100000
namespace Go.Ai
open Go.Office (Ft Rl Us Nt Bk)
theorem run_at {C : Cfg} {f : FuncId} {k : Option (List Tmp)} {b : MC} {E e : Env} {σ : St} {r : Option Out} (h : run C f (.loop k b) e σ = r) (hE : mask k E = e) : run C f (.loop k b) E σ = r := by
  rw [run_loop_mask, hE]; exact h
theorem fo_b (b : Bool) : fo 12 (.bool b) = true := rfl
theorem fo_i (n : Int) : fo 12 (I n) = true := rfl
attribute [simp] fo_b fo_i
theorem ret2 {e : Env} {σ : St} {a b : Tmp} : retA [(a, none), (b, none)] e σ = some (.tup [gt e a, gt e b]) := rfl
theorem ret3 {e : Env} {σ : St} {a b c : Tmp} : retA [(a, none), (b, none), (c, none)] e σ = some (.tup [gt e a, gt e b, gt e c]) := rfl
theorem retc2 {e : Env} {σ : St} {a b : Tmp} {n : Option Nat} : retA [(a, some n), (b, none)] e σ = (loadA σ n (gt e a)).map fun v => .tup [v, gt e b] := by
  unfold retA
  rw [rets_cell, rets_val, rets_nil]
  cases loadA σ n (gt e a) <;> rfl
structure OB where
  days : Int
  first : Int
  fs : List Ft
  r0 : List Rl
  g0 : Bool
  r1 : List Rl
  g1 : Bool
  ns : List Nt
  fr : AV
  q0 : AV
  q1 : AV
  nr : AV
def ftC (f : Ft) : List AV := [I f.lo, I f.hi, I f.rank]
def rlC (r : Rl) : List AV := [I r.rank, I r.to, I r.does]
def ntC (x : Nt) : List AV := [I x.use, I x.day, I x.chief]
def ftA (f : Ft) : AV := .agg (ftC f)
def rlA (r : Rl) : AV := .agg (rlC r)
def ntA (x : Nt) : AV := .agg (ntC x)
def OB.cells (x : OB) : List AV := [I x.days, I x.first, x.fr, x.q0, .bool x.g0, x.q1, .bool x.g1, x.nr]
def OB.av (x : OB) : AV := .agg x.cells
structure OB.Ok (x : OB) : Prop where
  fr : IsRow 3 (x.fs.map ftA) x.fr
  q0 : IsRow 3 (x.r0.map rlA) x.q0
  q1 : IsRow 3 (x.r1.map rlA) x.q1
  nr : IsRow 3 (x.ns.map ntA) x.nr
  lf : x.fs.length < 2 ^ 47
  l0 : x.r0.length < 2 ^ 47
  l1 : x.r1.length < 2 ^ 47
  ln : x.ns.length < 2 ^ 47
def OB.bk (x : OB) : Bk := ⟨x.days, x.first, x.fs, ⟨x.r0, x.g0⟩, ⟨x.r1, x.g1⟩, x.ns⟩
section
variable {x : OB}
theorem flen (hx : x.Ok) : lenA x.fr = some (I x.fs.length) := by rw [hx.fr.len]; simp
theorem nlen (hx : x.Ok) : lenA x.nr = some (I x.ns.length) := by rw [hx.nr.len]; simp
theorem len0 (hx : x.Ok) : lenA x.q0 = some (I x.r0.length) := by rw [hx.q0.len]; simp
theorem len1 (hx : x.Ok) : lenA x.q1 = some (I x.r1.length) := by rw [hx.q1.len]; simp
theorem row_at {α : Type} {f : α → List AV} {l : List α} {r : AV} (hr : IsRow 3 (l.map fun a => .agg (f a)) r) {k : Nat} (hk : k < l.length) : ixsA 3 r (I k) = some (.rp (f l[k]) 0) := by
  obtain ⟨c, hc, hr'⟩ := hr.sl (by intro hn; simp at hn; rw [hn] at hk; simp at hk)
  rw [hr']
  simp [ixsA, AV.cells, hk]
theorem f_ix (hx : x.Ok) {k : Nat} (hk : k < x.fs.length) : ixsA 3 x.fr (I k) = some (.rp (ftC x.fs[k]) 0) := row_at hx.fr hk
theorem n_ix (hx : x.Ok) {k : Nat} (hk : k < x.ns.length) : ixsA 3 x.nr (I k) = some (.rp (ntC x.ns[k]) 0) := row_at hx.nr hk
theorem ft_pur (m : Ft) (σ : St) (n : Nat) : purAll (pur σ (n + 1)) (ftC m) = some (ftC m, false) := rfl
theorem rl_pur (m : Rl) (σ : St) (n : Nat) : purAll (pur σ (n + 1)) (rlC m) = some (rlC m, false) := rfl
theorem nt_pur (m : Nt) (σ : St) (n : Nat) : purAll (pur σ (n + 1)) (ntC m) = some (ntC m, false) := rfl
end
def lie (n low high : Int) : Bool := decide (low ≤ n) && decide (n ≤ high)
theorem within_call (n low high : Int) : call Cv 54 [I n, I low, I high] = some (.bool (lie n low high)) := by
  rw [call_run comp54 (Nat.le_of_ble_eq_true rfl)]
  simp +contextual (maxSteps := 10000000) [-List.getD_eq_getElem?_getD, code54, lie]
def spotB (x : OB) (use day : Int) : Bool := lie use 0 1 && lie day 0 (IntKind.wrap .i64 (x.days - 1))
theorem isSpot_call (x : OB) (hx : x.Ok) (use day : Int) : call Cv 47 [x.av, I use, I day] = some (.bool (spotB x use day)) := by
  have h1 := within_call use 0 1
  have h2 := within_call day 0 (IntKind.wrap .i64 (x.days - 1))
  have p1 := hx.fr.cell
  have p2 := hx.q0.cell
  have p3 := hx.q1.cell
  have p4 := hx.nr.cell
  unfold spotB
  generalize lie use 0 1 = b1 at *
  generalize lie day 0 (IntKind.wrap .i64 (x.days - 1)) = b2 at *
  rw [call_run comp47 (Nat.le_of_ble_eq_true rfl)]
  cases b1 <;> simp (maxSteps := 10000000) [-List.getD_eq_getElem?_getD, code47, OB.av, OB.cells, h1, h2, p1, p2, p3, p4]
def noteB (x : OB) (n : Nt) : Bool := lie n.use 0 1 && (lie n.day 0 (IntKind.wrap .i64 (x.days - 1)) && lie n.chief (-1) (IntKind.wrap .i64 ((x.fs.length : Int) - 1)))
theorem isNote_call (x : OB) (hx : x.Ok) (n : Nt) : call Cv 50 [x.av, ntA n] = some (.bool (noteB x n)) := by
  have h1 := within_call n.use 0 1
  have h2 := within_call n.day 0 (IntKind.wrap .i64 (x.days - 1))
  have h3 := within_call n.chief (-1) (IntKind.wrap .i64 ((x.fs.length : Int) - 1))
  have p1 := hx.fr.cell
  have p2 := hx.q0.cell
  have p3 := hx.q1.cell
  have p4 := hx.nr.cell
  have hl := flen hx
  unfold noteB
  generalize lie n.use 0 1 = b1 at *
  generalize lie n.day 0 (IntKind.wrap .i64 (x.days - 1)) = b2 at *
  generalize lie n.chief (-1) (IntKind.wrap .i64 ((x.fs.length : Int) - 1)) = b3 at *
  rw [call_run comp50 (Nat.le_of_ble_eq_true rfl)]
  cases b1
  · simp (maxSteps := 10000000) [-List.getD_eq_getElem?_getD, code50, OB.av, OB.cells, ntA, ntC, h1, h2, h3, p1, p2, p3, p4, hl]
  · cases b2 <;> simp (maxSteps := 10000000) [-List.getD_eq_getElem?_getD, code50, OB.av, OB.cells, ntA, ntC, h1, h2, h3, p1, p2, p3, p4, hl]
def featB (x : OB) (f : Ft) : Bool := lie f.lo 0 f.hi && (decide (f.hi < x.days) && (decide (IntKind.wrap .i64 (f.hi - f.lo) ≤ 3) && lie f.rank 0 3))
def ruleB (r : Rl) : Bool := lie r.rank 0 3 && (lie r.to 0 3 && lie r.does 0 2)
def stO (x : OB) (E : List (List AV)) : St := { boxes := [x.cells] ++ E }
def head43_0 (x : OB) (ok : Bool) (k : Int) : Env := mkE 124 .any [(36, I k), (35, I x.fs.length), (34, x.fr), (3, .bool ok), (1, .box 0 0)]
theorem x_under {x : OB} (hx : x.Ok) (a b c d n : Nat) : x.cells.all (under a b c d (n + 1)) = true := by
  have h1 := hx.fr.under a b c d n
  have h2 := hx.q0.under a b c d n
  have h3 := hx.q1.under a b c d n
  have h4 := hx.nr.under a b c d n
  simp [OB.cells, under, h1, h2, h3, h4]
theorem cut_add (B E : List (List AV)) (e : Env) (hB : B.all (fun cs => cs.all (under B.length 0 0 0 6)) = true) (he : e.all (under B.length 0 0 0 6) = true) : cut { boxes := B } { boxes := B ++ E } e = { boxes := B } := by
  have ht : (B ++ E).take B.length = B := List.take_left' rfl
  have hd : dryAt 0 { boxes := B } { boxes := B ++ E } e = true := by
    simp only [dryAt, List.length_nil, ht, he, hB, List.take_nil, List.all_nil, Bool.and_self]
  unfold cut
  rw [if_pos (show dryAt ({ boxes := B } : St).chains.length { boxes := B } { boxes := B ++ E } e = true from hd)]
  simp [cutAt, ht]
theorem cutO {x : OB} (hx : x.Ok) (E : List (List AV)) (e : Env) (he : e.all (under 1 0 0 0 6) = true) : cut (stO x []) (stO x E) e = stO x [] := by
  have := cut_add [x.cells] E e (by simp only [List.all_cons, List.all_nil, Bool.and_true]; exact x_under hx _ _ _ _ 5) he
  unfold stO
  rw [List.append_nil]
  exact this
theorem loop43_0 (x : OB) (hx : x.Ok) : ∀ (l : List Ft) (k : Nat) (ok : Bool), k ≤ x.fs.length → x.fs.drop k = l →
    ∃ L, run Cv 43 (.loop keep43_0 body43_0) (head43_0 x ok k) (stO x []) = some (.ex 0, mkE 124 .any L, stO x []) ∧ gt (mkE 124 .any L) 3 = .bool (ok && l.all (featB x)) ∧ gt (mkE 124 .any L) 1 = .box 0 0
  | [], k, ok, hk, h => by
    obtain rfl := drop_nil hk h
    rw [run_loop]
    simp (maxSteps := 10000000) [-List.getD_eq_getElem?_getD, body43_0, keep43_0, head43_0, stO]
    exact ⟨_, rfl, by simp (maxSteps := 10000000) [-List.getD_eq_getElem?_getD, ], by simp (maxSteps := 10000000) [-List.getD_eq_getElem?_getD, ]⟩
  | t :: l, k, ok, hk, h => by
    obtain ⟨hlt, ha, hd⟩ := head_drop h
    have hw := wrap_succ hlt hx.lf
    have hlt' : (k : Int) < (x.fs.length : Int) := by omega
    have hix := f_ix hx hlt
    rw [ha] at hix
    have h1 := within_call t.lo 0 t.hi
    have h2 := within_call t.rank 0 3
    have u1 := hx.fr.under
    have hl1 : ∀ σ : St, loadA σ (some 3) (.rp (ftC t) 0) = some (.agg [I t.lo, I t.hi, I t.rank]) := fun _ => rfl
    obtain ⟨L, g1, g2, g3⟩ := loop43_0 x hx l (k + 1) (ok && featB x t) hlt hd
    refine ⟨L, ?_, by rw [g2, List.all_cons, Bool.and_assoc], g3⟩
    rw [← g1, run_loop]
    generalize MC.loop keep43_0 body43_0 = L
    unfold featB
    generalize lie t.lo 0 t.hi = b1 at *
    generalize lie t.rank 0 3 = b2 at *
    generalize hb3 : decide (t.hi < x.days) = b3 at *
    generalize hb4 : decide (IntKind.wrap .i64 (t.hi - t.lo) ≤ 3) = b4 at *
    have u2 := hx.q0.under
    have u3 := hx.q1.under
    have u4 := hx.nr.under
    cases ok <;> cases b1 <;> cases b3 <;> cases b4 <;>
      simp (maxSteps := 10000000) [-List.getD_eq_getElem?_getD, -ixsA, body43_0, keep43_0, head43_0, stO, hlt', hw, hix, h1, h2, u1, u2, u3, u4, OB.cells, hb3, hb4, ftC]
end Go.Ai

set_option maxRecDepth 100000
namespace Go.Ai
open Go.Office (Ft Rl Us Nt Bk)
def usA (x : OB) : AV := .agg [x.q0, .bool x.g0, x.q1, .bool x.g1]
def head43_1 (x : OB) (r : AV) (n : Int) (u : Int) (ok : Bool) (k : Int) : Env := mkE 124 .any [(86, I k), (85, I n), (84, r), (73, I u), (72, usA x), (3, .bool ok), (1, .box 0 0)]
theorem loop43_1 (x : OB) (hx : x.Ok) (l0 : List Rl) (r : AV) (hr : IsRow 3 (l0.map rlA) r) (hl : l0.length < 2 ^ 47) (u : Int) (B : List AV) (hB : ∀ a b c d n, B.all (under a b c d (n + 1)) = true) : ∀ (l : List Rl) (k : Nat) (ok : Bool), k ≤ l0.length → l0.drop k = l →
    ∃ L, run Cv 43 (.loop keep43_1 body43_1) (head43_1 x r l0.length u ok k) (stO x [B]) = some (.ex 4, mkE 124 .any L, stO x [B]) ∧ gt (mkE 124 .any L) 3 = .bool (ok && l.all ruleB) ∧ gt (mkE 124 .any L) 1 = .box 0 0 ∧ gt (mkE 124 .any L) 72 = usA x ∧ gt (mkE 124 .any L) 73 = I u
  | [], k, ok, hk, h => by
    obtain rfl := drop_nil hk h
    rw [run_loop]
    simp (maxSteps := 10000000) [-List.getD_eq_getElem?_getD, body43_1, keep43_1, head43_1, stO]
    exact ⟨_, rfl, by simp (maxSteps := 10000000) [-List.getD_eq_getElem?_getD, ], by simp (maxSteps := 10000000) [-List.getD_eq_getElem?_getD, ], by simp (maxSteps := 10000000) [-List.getD_eq_getElem?_getD, ], by simp (maxSteps := 10000000) [-List.getD_eq_getElem?_getD, ]⟩
  | t :: l, k, ok, hk, h => by
    obtain ⟨hlt, ha, hd⟩ := head_drop h
    have hw := wrap_succ hlt hl
    have hlt' : (k : Int) < (l0.length : Int) := by omega
    have hix := row_at hr hlt
    rw [ha] at hix
    have h1 := within_call t.rank 0 3
    have h2 := within_call t.to 0 3
    have h3 := within_call t.does 0 2
    have u1 := hx.fr.under
    have u2 := hx.q0.under
    have u3 := hx.q1.under
    have u4 := hx.nr.under
    have u5 := hr.under
    obtain ⟨L, g1, g2, g3⟩ := loop43_1 x hx l0 r hr hl u B hB l (k + 1) (ok && ruleB t) hlt hd
    refine ⟨L, ?_, by rw [g2, List.all_cons, Bool.and_assoc], g3⟩
    rw [← g1, run_loop]
    generalize MC.loop keep43_1 body43_1 = L
    unfold ruleB
    generalize lie t.rank 0 3 = b1 at *
    generalize lie t.to 0 3 = b2 at *
    generalize lie t.does 0 2 = b3 at *
    have hB5 := fun a b c d => hB a b c d 5
    cases ok <;> cases b1 <;> cases b2 <;>
      simp (maxSteps := 10000000) [-List.getD_eq_getElem?_getD, -ixsA, -List.all_eq_true, body43_1, keep43_1, head43_1, stO, usA, hlt', hw, hix, h1, h2, h3, u1, u2, u3, u4, u5, OB.cells, rlC, hB5]
def useB (l : List Rl) : Bool := decide ((l.length : Int) ≤ 5) && l.all ruleB
def head43_2 (x : OB) (ok : Bool) (k : Int) : Env := mkE 124 .any [(73, I k), (72, usA x), (3, .bool ok), (1, .box 0 0)]
theorem round43_2 (x : OB) (hx : x.Ok) (k : Nat) (hk : k < 2) (l0 : List Rl) (r : AV) (g : Bool) (hr : IsRow 3 (l0.map rlA) r) (hl : l0.length < 2 ^ 47) (hix : ixvA 2 2 (some 2) (usA x) (I k) = some (.agg [r, .bool g])) (ok : Bool) :
    run Cv 43 (.loop keep43_2 body43_2) (head43_2 x ok k) (stO x []) = run Cv 43 (.loop keep43_2 body43_2) (head43_2 x (ok && useB l0) ((k : Int) + 1)) (stO x []) := by
  have hlt' : (k : Int) < 2 := by omega
  have hw : IntKind.wrap .i64 ((k : Int) + 1) = k + 1 := wrap_small (by omega) (by omega)
  have hlen : lenA r = some (I l0.length) := by rw [hr.len]; simp
  have hc := hr.cell
  have u1 := hx.fr.under
  have u2 := hx.q0.under
  have u3 := hx.q1.under
  have u4 := hx.nr.under
  have u5 := hr.under
  obtain ⟨L, g1, g2, g3, g4, g5⟩ := loop43_1 x hx l0 r hr hl k [r, .bool g] (fun a b c d n => by simp [hr.under a b c d n, under]) l0 0 (ok && decide ((l0.length : Int) ≤ 5)) (Nat.zero_le _) rfl
  have g' := fun E (hE : mask keep43_1 E = _) => run_at g1 hE
  have e0 : ((0 : Nat) : Int) = 0 := rfl
  simp only [keep43_1, head43_1, stO, usA, OB.cells, e0, List.cons_append, List.nil_append] at g'
  rw [run_loop]
  generalize MC.loop keep43_2 body43_2 = LL
  have hu : (ok && useB l0) = (ok && decide ((l0.length : Int) ≤ 5) && l0.all ruleB) := by rw [useB, Bool.and_assoc]
  rw [hu]
  generalize l0.all ruleB = b2 at *
  have hcond : ∀ ok : Bool, (if ok = true then AV.bool (decide ((l0.length : Int) ≤ 5)) else AV.bool false) = .bool (ok && decide ((l0.length : Int) ≤ 5)) := by intro ok; cases ok <;> rfl
  simp only [usA] at hix g4
  generalize hq : decide ((l0.length : Int) ≤ 5) = q at *
  cases ok with
  | true => simp (maxSteps := 10000000) [-List.getD_eq_getElem?_getD, -List.all_eq_true, body43_2, keep43_2, head43_2, stO, usA, hlt', hw, hix, hlen, hc, hq, u1, u2, u3, u4, u5, OB.cells, keep43_1, g', g2, g3, g4, g5]
  | false => simp (maxSteps := 10000000) [-List.getD_eq_getElem?_getD, -List.all_eq_true, body43_2, keep43_2, head43_2, stO, usA, hlt', hw, hix, hlen, hc, hq, u1, u2, u3, u4, u5, OB.cells, keep43_1, g', g2, g3, g4, g5]
theorem loop43_2 (x : OB) (hx : x.Ok) (ok : Bool) : run Cv 43 (.loop keep43_2 body43_2) (head43_2 x ok 0) (stO x []) = some (.ex 2, mkE 124 .any [(74, .bool false), (73, I 2), (72, usA x), (3, .bool ((ok && useB x.r0) && useB x.r1)), (1, .box 0 0)], stO x []) := by
  have h0 := round43_2 x hx 0 (by omega) x.r0 x.q0 x.g0 hx.q0 hx.l0 rfl ok
  have h1 := round43_2 x hx 1 (by omega) x.r1 x.q1 x.g1 hx.q1 hx.l1 rfl (ok && useB x.r0)
  have e0 : ((0 : Nat) : Int) = 0 := rfl
  have e1 : ((1 : Nat) : Int) = 1 := rfl
  have e2 : (0 : Int) + 1 = 1 := rfl
  have e3 : (1 : Int) + 1 = 2 := rfl
  rw [e0, e2] at h0
  rw [e1, e3] at h1
  rw [h0, h1, run_loop]
  simp (maxSteps := 10000000) [-List.getD_eq_getElem?_getD, body43_2, keep43_2, head43_2]
def head43_3 (x : OB) (ok : Bool) (k : Int) : Env := mkE 124 .any [(111, I k), (110, I x.ns.length), (109, x.nr), (3, .bool ok), (1, .box 0 0)]
theorem loop43_3 (x : OB) (hx : x.Ok) : ∀ (l : List Nt) (k : Nat) (ok : Bool), k ≤ x.ns.length → x.ns.drop k = l →
    ∃ L, run Cv 43 (.loop keep43_3 body43_3) (head43_3 x ok k) (stO x []) = some (.ex 6, mkE 124 .any L, stO x []) ∧ gt (mkE 124 .any L) 3 = .bool (ok && l.all (noteB x))
  | [], k, ok, hk, h => by
    obtain rfl := drop_nil hk h
    rw [run_loop]
    simp (maxSteps := 10000000) [-List.getD_eq_getElem?_getD, body43_3, keep43_3, head43_3, stO]
    exact ⟨_, rfl, by simp (maxSteps := 10000000) [-List.getD_eq_getElem?_getD, ]⟩
  | t :: l, k, ok, hk, h => by
    obtain ⟨hlt, ha, hd⟩ := head_drop h
    have hw := wrap_succ hlt hx.ln
    have hlt' : (k : Int) < (x.ns.length : Int) := by omega
    have hix := n_ix hx hlt
    rw [ha] at hix
    have h1 := isNote_call x hx t
    simp only [OB.av, OB.cells, ntA, ntC] at h1
    have u1 := hx.fr.under
    have u2 := hx.q0.under
    have u3 := hx.q1.under
    have u4 := hx.nr.under
    have p1 := hx.fr.pur
    have p2 := hx.q0.pur
    have p3 := hx.q1.pur
    have p4 := hx.nr.pur
    obtain ⟨L, g1, g2⟩ := loop43_3 x hx l (k + 1) (ok && noteB x t) hlt hd
    refine ⟨L, ?_, by rw [g2, List.all_cons, Bool.and_assoc]⟩
    rw [← g1, run_loop]
    generalize MC.loop keep43_3 body43_3 = L
    generalize noteB x t = b1 at *
    cases ok <;>
      simp (maxSteps := 10000000) [-List.getD_eq_getElem?_getD, -ixsA, body43_3, keep43_3, head43_3, stO, hlt', hw, hix, h1, u1, u2, u3, u4, p1, p2, p3, p4, OB.cells, ntC]
end Go.Ai

set_option maxRecDepth 100000
namespace Go.Ai
open Go.Office (Ft Rl Us Nt Bk)
def okOne (x : OB) : Bool := lie x.days 1 6 && (lie x.first 0 29 && (decide ((x.fs.length : Int) ≤ 4) && decide ((x.ns.length : Int) ≤ 4)))
def checkB (x : OB) : Bool := okOne x && x.fs.all (featB x) && useB x.r0 && useB x.r1 && x.ns.all (noteB x)
theorem check_call (x : OB) (hx : x.Ok) : call Cv 43 [x.av] = some (I (if checkB x then 0 else 10)) := by
  have h1 := flen hx
  have h2 := nlen hx
  have w1 := within_call x.days 1 6
  have w2 := within_call x.first 0 29
  have p1 := hx.fr.cell
  have p2 := hx.q0.cell
  have p3 := hx.q1.cell
  have p4 := hx.nr.cell
  have e0 : ((0 : Nat) : Int) = 0 := rfl
  have key : ∀ ok : Bool, ok = okOne x → call Cv 43 [x.av] = some (I (if (ok && x.fs.all (featB x) && useB x.r0 && useB x.r1 && x.ns.all (noteB x)) then 0 else 10)) := by
    intro ok hok
    obtain ⟨La, a1, a3, a5⟩ := loop43_0 x hx x.fs 0 ok (Nat.zero_le _) rfl
    have b1 := loop43_2 x hx (ok && x.fs.all (featB x))
    obtain ⟨Lc, c1, c3⟩ := loop43_3 x hx x.ns 0 (ok && x.fs.all (featB x) && useB x.r0 && useB x.r1) (Nat.zero_le _) rfl
    generalize (ok && x.fs.all (featB x) && useB x.r0 && useB x.r1) = ok3 at *
    generalize (ok && x.fs.all (featB x)) = ok2 at *
    generalize x.ns.all (noteB x) = ok4 at *
    have a' := fun E (hE : mask keep43_0 E = _) => run_at a1 hE
    have b' := fun E (hE : mask keep43_2 E = _) => run_at b1 hE
    have c' := fun E (hE : mask keep43_3 E = _) => run_at c1 hE
    simp only [keep43_0, head43_0, stO, OB.cells, e0, List.cons_append, List.nil_append] at a'
    simp only [keep43_2, head43_2, usA, stO, OB.cells, List.cons_append, List.nil_append] at b'
    simp only [keep43_3, head43_3, stO, OB.cells, e0, List.cons_append, List.nil_append] at c'
    unfold okOne at hok
    generalize lie x.days 1 6 = q1 at *
    generalize lie x.first 0 29 = q2 at *
    generalize hb3 : decide ((x.fs.length : Int) ≤ 4) = q3 at *
    generalize hb4 : decide ((x.ns.length : Int) ≤ 4) = q4 at *
    rw [call_run comp43 (Nat.le_of_ble_eq_true rfl)]
    have fin : ∀ q : Bool, gt (mkE 124 .any Lc) 3 = .bool q → (ok3 && ok4) = q := fun q h => by rw [c3] at h; exact AV.bool.inj h
    cases hb : (ok3 && ok4) <;> rw [hb] at c3 <;> cases q1 <;> cases q2 <;> cases q3 <;> cases q4 <;> simp only [Bool.false_and, Bool.true_and, Bool.and_true, Bool.and_false] at hok <;> subst hok <;>
      simp (maxSteps := 10000000) [-List.getD_eq_getElem?_getD, -List.all_eq_true, code43, OB.av, OB.cells, w1, w2, hb3, hb4, h1, h2, p1, p2, p3, p4, keep43_0, keep43_2, keep43_3, a', a3, a5, b', c', c3]
  rw [key _ rfl]
  rfl
end Go.Ai
