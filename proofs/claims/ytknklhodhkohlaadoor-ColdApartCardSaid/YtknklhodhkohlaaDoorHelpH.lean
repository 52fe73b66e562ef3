/- This text shows whether somebody catches a cold, if some are moved. No conditions of its own. -/
import Derived.Test.YtknklhodhkohlaaDoorHelpI
import Derived.Test.YtknklhodhkohlaaDoorCodesL7
set_option linter.unusedSimpArgs false
set_option linter.unusedVariables false
set_option maxRecDepth 100000
namespace Go.Ai
open Go.Cold (Mv Hd Bk Tr awayL lineF coughsT illT ends asideL moveAw caughtT)
def head38 (r : AV) (day k : Int) : Env := mkE 53 .any [(12, I k), (11, r), (3, I day)]
def st38 (X x : CB) (kc : List AV) : St := { boxes := [x.cells, kc, X.cells] }
theorem loop38 (X x : CB) (hX : X.Ok) (hx : x.Ok) (kc : List AV) (hkc : kc.all (under 3 0 0 0 6) = true) (B : Nat) (hB5 : B ≤ 5) (F : Nat → Int) (r : AV) (hr : IsRow 1 (ints (rowOf B F)) r) (day : Int) (hF : ∀ i, i < B → F i < day) : ∀ (n k : Nat), k + n = B →
    ∃ L, run Cv 38 (.loop keep38_0 body38_0) (head38 r day k) (st38 X x kc) = some (.ex 0, mkE 53 .any L, st38 X x kc)
  | 0, k, hk => by
    have hl := row_len hr
    rw [rowOf_len] at hl
    have h1 : ¬ (k : Int) < (B : Int) := by omega
    rw [run_loop]
    simp (maxSteps := 10000000) [-List.getD_eq_getElem?_getD, body38_0, keep38_0, head38, st38, hl, h1]
    exact ⟨_, rfl⟩
  | n + 1, k, hk => by
    have hl := row_len hr
    rw [rowOf_len] at hl
    have h1 : (k : Int) < (B : Int) := by omega
    have hix := row_ix hr (i := k) (by omega)
    have hlv : ∀ σ v, loadA σ none (.rp [I v] 0) = some (I v) := fun _ _ => rfl
    have h2 : ¬ day ≤ F k := by have := hF k (by omega); omega
    have hw : IntKind.wrap .i64 ((k : Int) + 1) = k + 1 := wrap_small (by omega) (by omega)
    have hru := hr.under
    have hcut := cut_add [x.cells, kc, X.cells] [] 
    obtain ⟨L, ih⟩ := loop38 X x hX hx kc hkc B hB5 F r hr day hF n (k + 1) (by omega)
    refine ⟨L, ?_⟩
    have u1 := cells_under hX 3 0 0 0
    have u2 := cells_under hx 3 0 0 0
    have hb : List.all [x.cells, kc, X.cells] (fun cs => cs.all (under 3 0 0 0 6)) = true := by
      simp only [List.all_cons, List.all_nil, u1, u2, hkc, Bool.and_self]
    have hc : ∀ e : Env, e.all (under 3 0 0 0 6) = true → cut (st38 X x kc) (st38 X x kc) e = st38 X x kc := fun e he => hcut e hb he
    rw [← ih, run_loop]
    generalize MC.loop keep38_0 body38_0 = L
    simp (maxSteps := 10000000) [-List.getD_eq_getElem?_getD, -loadA, -ixsA, -cut, body38_0, keep38_0, head38, hl, h1, hix, hlv, h2, hw]
    rw [hc]
    simp (maxSteps := 10000000) [-List.getD_eq_getElem?_getD, hru]
theorem aside_sz {x : CB} (f : x.Fine) (l : List Int) (day : Int) : (x.aside l day).Sz := ⟨f.b1, f.b5, f.d1, f.d6⟩
theorem catches_call (x : CB) (hx : x.Ok) (f : x.Fine) (t : Tr) (hT : t.bed < x.bk.B ∧ 0 ≤ t.day ∧ t.day ≤ x.bk.u ∧ x.bk.oL ≤ t.out ∧ t.out ≤ x.bk.oH ∧ x.bk.gL ≤ t.goes ∧ t.goes ≤ x.bk.gH) (r : AV) (hr : IsRow 1 (ints (rowOf x.bk.B (x.bk.at t))) r) (l : List Int) (rl : AV) (hrl : IsRow 1 (ints l) rl) (hll : l.length < 1000) (day : Int)
    (haw : ∀ y ∈ l, 0 ≤ y → awayL x.ms y.toNat day = false) (hen : (day ≤ t.day ∧ moveAw x.ms l day t.bed t.day = true) ∨ ∀ i, i < x.bk.B → caughtT x.bk.B x.bk.D (moveAw x.ms l day) t i < day) : call Cv 38 [x.av, knA t r, rl, I day] = some (.bool false) := by
  have hcl := x_cell x hx
  have hav : x.av.cells = x.cells := rfl
  have hbox := x_box x hx
  have hpx := part_x x
  have hp := av_pur x hx
  have hrc := hr.cell
  have hlp := hrl.pur
  have hbox2 : boxA { boxes := [x.cells] } (knA t r) = some (.box 1 0, { boxes := [x.cells, knC t r] }) := by
    simp [boxA, knA, knC, AV.cells, hrc]
  have ac := aside_call x hx (by have := f.lm; omega) l rl hrl hll day
  have Xok := aside_ok hx (by have := f.lm; omega) hll day
  have Xsz := aside_sz f l day
  have Xd : (x.aside l day).days = x.days := rfl
  have Xb : (x.aside l day).beds = x.beds := rfl
  have Xm : (x.aside l day).ms = asideL x.ms l day := rfl
  have hu1 := f.bk.u1
  have hD : x.bk.D = x.days := rfl
  have hBn : x.bk.B = x.beds.toNat := rfl
  have hgo := gone_call (x.aside l day) Xok t.bed
  have hga := gone_away (x := x.aside l day) (bed := t.bed) (d := t.day) (by rw [Xd]; omega)
  have g1 := f.bk.g1
  have g3 := f.bk.g3
  have hsp := spreads_call (x.aside l day) Xok Xsz t.bed (by rw [Xb]; omega) t.day t.goes (by omega) (by rw [Xd]; omega) (by omega) (by omega)
  rw [Xd, Xb, Xm] at hsp
  rw [Xm] at hga
  generalize x.aside l day = X at *
  have Xp := av_pur X Xok
  have Xcl := x_cell X Xok
  have Xz := z11 X
  have Xpx := part_x X
  have Xlen : X.cells.length = 11 := rfl
  have Xav : X.av.cells = X.cells := rfl
  have hix := row_ix hr (i := t.bed) hT.1
  have hfirst : x.bk.at t t.bed = t.day := Go.Cold.line_first
  rw [hfirst] at hix
  have hk0 : partA none (knC t r) 0 = some (I t.bed) := rfl
  have hk2 : partA none (knC t r) 2 = some (I t.goes) := rfl
  have hk3 : partA none (knC t r) 3 = some r := rfl
  have hp1 : partA none [I t.day] 0 = some (I t.day) := rfl
  obtain ⟨rs, hrs, sc⟩ := hsp
  have hrsp := hrs.pur
  have hmv : awayL (asideL x.ms l day) t.bed t.day = moveAw x.ms l day t.bed t.day := Go.Cold.aside_move haw _ _
  by_cases hge : day ≤ t.day
  · by_cases hg : X.gone t.bed ≤ t.day
    · rw [call_run comp38 (Nat.le_of_ble_eq_true rfl)]
      simp (maxSteps := 10000000) [-List.getD_eq_getElem?_getD, -boxA, -partA, -setAt, -ixsA, -List.all_eq_true, code38, hbox, hbox2, hpx, hp, hlp, ac, Xp, Xcl, Xz, Xpx, Xlen, Xav, hk0, hk2, hk3, hp1, hix, hge, hgo, hg]
    · -- he is not moved: then nobody catches it
      have hne : moveAw x.ms l day t.bed t.day = false := by
        cases h : moveAw x.ms l day t.bed t.day with
        | false => rfl
        | true => exact absurd (hga.2 (by rw [hmv]; exact h)) hg
      rcases hen with ⟨_, h⟩ | hen
      · rw [hne] at h; cases h
      · have := hen t.bed hT.1
        have e : caughtT x.bk.B x.bk.D (moveAw x.ms l day) t t.bed = t.day := Go.Cold.line_first
        omega
  · have hen' : ∀ i, i < x.beds.toNat → lineF x.beds.toNat x.days (awayL (asideL x.ms l day)) t.goes t.bed t.day i < day := fun i hi => by
      rcases hen with ⟨h, _⟩ | hen
      · exact absurd h hge
      · have := hen i hi
        rw [← Go.Cold.caught_aside haw hT.1 i] at this
        exact this
    have hkc : (knC t r).all (under 3 0 0 0 6) = true := by
      have u := hr.under 3 0 0 0 5
      simp only [knC, List.all_cons, List.all_nil, u, un_int, Bool.and_self]
    obtain ⟨L, lp⟩ := loop38 X x Xok hx (knC t r) hkc x.beds.toNat (by have := f.b5; omega) _ rs hrs day hen' x.beds.toNat 0 (by omega)
    have e0 : ((0 : Nat) : Int) = 0 := rfl
    rw [e0] at lp
    have lp' := fun E (hE : mask keep38_0 E = _) => run_at lp hE
    simp only [keep38_0, head38, st38] at lp'
    rw [call_run comp38 (Nat.le_of_ble_eq_true rfl)]
    simp (maxSteps := 10000000) [-List.getD_eq_getElem?_getD, -boxA, -partA, -setAt, -ixsA, -List.all_eq_true, code38, hbox, hbox2, hpx, hp, hlp, ac, Xp, Xcl, Xz, Xpx, Xlen, Xav, hk0, hk2, hk3, hp1, hix, hge, hgo, sc, hrsp, keep38_0, lp']
end Go.Ai
