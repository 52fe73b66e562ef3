/- This text shows what Keys and Best answer. No conditions of its own. -/
import Derived.Test.YtbjdaefdifofkaaDoorFnC
set_option linter.unusedSimpArgs false
set_option linter.unusedVariables false
set_option maxRecDepth 100000
namespace Go.Ai
open Go.Organ (T4 F3 Tb allS allS_step allS_nil)
structure P3 where
  boy : Int
  low : Int
  high : Int
def paA (p : P3) : AV := .agg [I p.boy, I p.low, I p.high]
def singO (x : OB) (boy week n : Int) : Int := if Vc.askE x.voice (Vc.isBoyB x.voice boy && Vc.isWeekB x.voice week && Vc.isNoteB n) = 0 then Vc.singsN x.voice boy week n else 0
def singE (x : OB) (boy week n : Int) : Int := Vc.askE x.voice (Vc.isBoyB x.voice boy && Vc.isWeekB x.voice week && Vc.isNoteB n)
def surely (x : OB) (boy week n : Int) : Bool := (singE x boy week n == 0) && (singO x boy week n == 2)
theorem sing_call (x : OB) (hx : x.Ok) (boy week n : Int) : call Cv 41 [.agg [x.br, I x.voice.weeks, x.vr], I boy, I week, I n] = some (.tup [I (singO x boy week n), I (singE x boy week n)]) := by
  rw [← voice_av]; exact Vc.Sings_call x.voice hx.voice boy week n
def head77 (week key note : Int) : Env := mkE 51 .any [(11, I note), (9, .box 2 0), (6, .box 1 0), (5, .box 0 0), (3, I key), (2, I week)]
def st77 (C : List AV) (p : P3) (a b : Int) : St := { boxes := [C, [I p.boy, I p.low, I p.high], [I a, I b]] }
structure Vox (x : OB) (C : List AV) : Prop where
  c : C44 C
  voice : partA (some 3) C 3 = some (.agg [x.br, I x.voice.weeks, x.vr])
  under : ∀ a b c d n, C.all (under a b c d (n + 2)) = true
theorem open_vox (x : OB) (hx : x.Ok) (l) (m : Tb) (is : Bool) : Vox x (openC x l m is) := ⟨openC_44 x hx l m is, rfl, openC_under x hx l m is⟩
theorem loop77 (x : OB) (hx : x.Ok) (C : List AV) (hC : Vox x C) (p : P3) (week key sl sh hi : Int) (w1 : IntKind.wrap .i64 (p.high + key) = p.high + key) (w2 : IntKind.wrap .i64 (p.high + key + sh) = hi) (hhi : hi ≤ 100000) : ∀ (n : Nat) (a : Int), n = (hi + 1 - a).toNat → a ≤ hi + 1 → -100000 ≤ a →
    match allS (surely x p.boy week) a hi with
    | true => ∃ L, run Cv 77 (.loop keep77_0 body77_0) (head77 week key a) (st77 C p sl sh) = some (.ex 0, mkE 51 .any L, st77 C p sl sh)
    | false => ∃ L, run Cv 77 (.loop keep77_0 body77_0) (head77 week key a) (st77 C p sl sh) = some (.rt, mkE 51 .any ((10, .bool false) :: L), st77 C p sl sh)
  | 0, a, hn, ha, ha' => by
    have hle : ¬ a ≤ hi := by omega
    rw [allS_nil (by omega)]
    dsimp only
    rw [run_loop]
    simp (maxSteps := 10000000) [-List.getD_eq_getElem?_getD, body77_0, keep77_0, head77, st77, w1, w2, hle]
    exact ⟨_, rfl⟩
  | n + 1, a, hn, ha, ha' => by
    have hle : a ≤ hi := by omega
    have hw : IntKind.wrap .i64 (a + 1) = a + 1 := wrap_small (by omega) (by omega)
    have hs := sing_call x hx p.boy week a
    have hv := hC.voice
    have hvp : ∀ σ n, pur σ (n + 2) (.agg [x.br, I x.voice.weeks, x.vr]) = some (.agg [x.br, I x.voice.weeks, x.vr], false) := fun σ n => by
      rw [pu_agg]; simp only [pa_cons, pa_nil, br_pur, vr_pur, pu_int, Option.bind_some, Bool.or_self]
    have hcu := fun a b c d => hC.under a b c d 4
    rw [allS_step hle]
    cases hsu : surely x p.boy week a with
    | false =>
      simp only [Bool.false_and]
      simp only [surely] at hsu
      generalize singE x p.boy week a = e at *
      generalize singO x p.boy week a = o at *
      rw [run_loop]
      by_cases he : e = 0
      · subst he
        have ho : ¬ o = 2 := by simpa using hsu
        simp (maxSteps := 10000000) [-List.getD_eq_getElem?_getD, -partA, part_none, body77_0, keep77_0, head77, st77, w1, w2, hle, hs, hv, hvp, ho]
        exact ⟨_, rfl⟩
      · simp (maxSteps := 10000000) [-List.getD_eq_getElem?_getD, -partA, part_none, body77_0, keep77_0, head77, st77, w1, w2, hle, hs, hv, hvp, he]
        exact ⟨_, rfl⟩
    | true =>
      simp only [Bool.true_and]
      simp only [surely, Bool.and_eq_true, beq_iff_eq] at hsu
      rw [hsu.1, hsu.2] at hs
      have step : run Cv 77 (.loop keep77_0 body77_0) (head77 week key a) (st77 C p sl sh) = run Cv 77 (.loop keep77_0 body77_0) (head77 week key (a + 1)) (st77 C p sl sh) := by
        rw [run_loop]
        generalize MC.loop keep77_0 body77_0 = L
        simp (maxSteps := 10000000) [-List.getD_eq_getElem?_getD, -partA, -List.all_eq_true, part_none, body77_0, keep77_0, head77, st77, w1, w2, hle, hs, hv, hvp, hw, hcu]
      rw [step]
      exact loop77 x hx C hC p week key sl sh hi w1 w2 hhi n (a + 1) (by omega) (by omega) (by omega)
def sungO (x : OB) (week : Int) (sl sh : Int) (p : P3) (key : Int) : Bool := allS (surely x p.boy week) (p.low + key + sl) (p.high + key + sh)
theorem sung_call (x : OB) (hx : x.Ok) (C : List AV) (hC : Vox x C) (p : P3) (week key sl sh : Int) (hp : 0 ≤ p.low ∧ p.low ≤ p.high ∧ p.high ≤ 40) (hk : -100 ≤ key ∧ key ≤ 100) (hsl : -100 ≤ sl ∧ sl ≤ sh ∧ sh ≤ 100) :
    call Cv 77 [.agg C, paA p, I week, I key, .agg [I sl, I sh]] = some (.bool (sungO x week sl sh p key)) := by
  have w1 : IntKind.wrap .i64 (p.high + key) = p.high + key := wrap_small (by omega) (by omega)
  have w2 : IntKind.wrap .i64 (p.high + key + sh) = p.high + key + sh := wrap_small (by omega) (by omega)
  have w3 : IntKind.wrap .i64 (p.low + key) = p.low + key := wrap_small (by omega) (by omega)
  have w4 : IntKind.wrap .i64 (p.low + key + sl) = p.low + key + sl := wrap_small (by omega) (by omega)
  have hl := loop77 x hx C hC p week key sl sh (p.high + key + sh) w1 w2 (by omega) _ (p.low + key + sl) rfl (by omega) (by omega)
  have hcell := hC.c.cell
  cases hs : sungO x week sl sh p key with
  | true =>
    rw [show allS (surely x p.boy week) (p.low + key + sl) (p.high + key + sh) = true from hs] at hl
    obtain ⟨L, hl⟩ := hl
    have hl' := fun E (hE : mask keep77_0 E = _) => run_at hl hE
    simp only [keep77_0, head77, st77] at hl'
    rw [call_run comp77 (Nat.le_of_ble_eq_true rfl)]
    simp (maxSteps := 10000000) [-List.getD_eq_getElem?_getD, -partA, -List.all_eq_true, part_none, code77, paA, hcell, w3, w4, keep77_0, hl']
  | false =>
    rw [show allS (surely x p.boy week) (p.low + key + sl) (p.high + key + sh) = false from hs] at hl
    obtain ⟨L, hl⟩ := hl
    have hl' := fun E (hE : mask keep77_0 E = _) => run_at hl hE
    simp only [keep77_0, head77, st77] at hl'
    rw [call_run comp77 (Nat.le_of_ble_eq_true rfl)]
    simp (maxSteps := 10000000) [-List.getD_eq_getElem?_getD, -partA, -List.all_eq_true, part_none, code77, paA, hcell, w3, w4, keep77_0, hl']
end Go.Ai

set_option maxRecDepth 100000
namespace Go.Ai
open Go.Organ (T4 F3 Tb)
def partOk (x : OB) (p : P3) : Bool := lie p.boy 0 ((x.voice.boys.length : Int) - 1) && (decide (0 ≤ p.low) && (decide (p.low ≤ p.high) && decide (p.high ≤ 40)))
theorem brlen {x : OB} (hx : x.Ok) : lenA x.br = some (I x.voice.boys.length) := hx.voice.lenB
theorem isPart_call (x : OB) (hx : x.Ok) (p : P3) : call Cv 76 [x.av, paA p] = some (.bool (partOk x p)) := by
  have hcl := xcells_cell x hx
  have hbl := brlen hx
  have hlt := hx.voice.blen
  have hw : IntKind.wrap .i64 ((x.voice.boys.length : Int) - 1) = x.voice.boys.length - 1 := wrap_small (by omega) (by omega)
  have hwi := within_call p.boy 0 ((x.voice.boys.length : Int) - 1)
  have hbox : boxA {} x.av = some (.box 0 0, { boxes := [x.cells] }) := by
    simp only [boxA, OB.av, AV.cells, hcl, if_true]; rfl
  have hbox2 : boxA { boxes := [x.cells] } (.agg [I p.boy, I p.low, I p.high]) = some (.box 1 0, { boxes := [x.cells, [I p.boy, I p.low, I p.high]] }) := rfl
  have h3' : x.cells[3]? = some x.br := rfl
  unfold partOk
  generalize lie p.boy 0 ((x.voice.boys.length : Int) - 1) = b1 at *
  generalize hq1 : decide (0 ≤ p.low) = q1
  generalize hq2 : decide (p.low ≤ p.high) = q2
  generalize hq3 : decide (p.high ≤ 40) = q3
  rw [call_run comp76 (Nat.le_of_ble_eq_true rfl)]
  cases b1 <;> cases q1 <;> cases q2 <;> simp (maxSteps := 10000000) [-List.getD_eq_getElem?_getD, -boxA, -partA, part_none, h3', code76, paA, hbox, hbox2, hbl, hw, hwi, hq1, hq2, hq3]
theorem not_call (x : OB) (hx : x.Ok) (p : P3) : call Cv 75 [paA p, .rp x.cells 0] = some (.bool (!partOk x p)) := by
  have h1 := isPart_call x hx p
  have hp := av_pur x hx
  have hl : ∀ σ, loadA σ (some 6) (.rp x.cells 0) = some x.av := fun _ => rfl
  have hl3 : ∀ σ, loadA σ (some 3) (.box 0 0) = loadA σ (some 3) (.box 0 0) := fun _ => rfl
  have hp3 : partA (some 3) [I p.boy, I p.low, I p.high] 0 = some (paA p) := rfl
  have hpp : ∀ σ n, pur σ (n + 2) (paA p) = some (paA p, false) := fun _ _ => rfl
  have hb : boxA {} (paA p) = some (.box 0 0, { boxes := [[I p.boy, I p.low, I p.high]] }) := rfl
  have hl6 : loadA { boxes := [[I p.boy, I p.low, I p.high]] } (some 3) (.box 0 0) = some (paA p) := rfl
  rw [call_run comp75 (Nat.le_of_ble_eq_true rfl)]
  simp (maxSteps := 10000000) [-List.getD_eq_getElem?_getD, -boxA, -loadA, code75, hb, hl, hl6, hp, hpp, h1]
def idxP (x : OB) : List P3 → Nat → Int
  | [], _ => -1
  | p :: l, k => if partOk x p then idxP x l (k + 1) else k
theorem idxP_nonneg (x : OB) : ∀ (l : List P3) (k : Nat), decide (0 ≤ idxP x l k) = !l.all (partOk x)
  | [], k => rfl
  | p :: l, k => by
    cases hp : partOk x p with
    | true => simp only [idxP, hp, if_true, List.all_cons, Bool.true_and]; exact idxP_nonneg x l (k + 1)
    | false => simp [idxP, hp]
structure PRow (ps : List P3) (r : AV) : Prop where
  row : IsRow 3 (ps.map paA) r
  lt : ps.length < 2 ^ 47
theorem PRow.len {ps : List P3} {r : AV} (h : PRow ps r) : lenA r = some (I ps.length) := by rw [h.row.len]; simp
theorem PRow.ix {ps : List P3} {r : AV} (h : PRow ps r) {k : Nat} (hk : k < ps.length) : ixsA 3 r (I k) = some (.rp [I ps[k].boy, I ps[k].low, I ps[k].high] 0) := by
  have hk' : (k : Int) < (ps.length : Int) := by omega
  obtain ⟨c, hc, hr⟩ := h.row.sl (by intro hn; simp at hn; rw [hn] at hk; simp at hk)
  rw [hr]
  simp [ixsA, hk, paA, AV.cells]
def isV (x : OB) : AV := .fn (.func 75) [] [.rp x.cells 0]
def head104 (x : OB) (r : AV) (n k : Int) : Env := mkE 19 .any [(8, I k), (7, I n), (1, isV x), (0, r)]
theorem loop104 (x : OB) (hx : x.Ok) (ps : List P3) (r : AV) (hr : PRow ps r) : ∀ (l : List P3) (k : Nat), k ≤ ps.length → ps.drop k = l →
    (idxP x l k = -1 ∧ ∃ L, run Cv 104 (.loop keep104_0 body104_0) (head104 x r ps.length k) {} = some (.ex 0, mkE 19 .any L, {})) ∨ ∃ L, run Cv 104 (.loop keep104_0 body104_0) (head104 x r ps.length k) {} = some (.rt, mkE 19 .any ((4, I (idxP x l k)) :: L), {})
  | [], k, hk, h => by
    obtain rfl := drop_nil hk h
    refine .inl ⟨rfl, ?_⟩
    rw [run_loop]
    simp (maxSteps := 10000000) [-List.getD_eq_getElem?_getD, body104_0, keep104_0, head104]
    exact ⟨_, rfl⟩
  | p :: l, k, hk, h => by
    obtain ⟨hlt, ha, hd⟩ := head_drop h
    have hw := wrap_succ hlt hr.lt
    have hlt' : (k : Int) < (ps.length : Int) := by omega
    have hix := hr.ix hlt
    rw [ha] at hix
    have hn := not_call x hx p
    have hlr : ∀ σ, loadA σ (some 3) (.rp [I p.boy, I p.low, I p.high] 0) = some (paA p) := fun _ => rfl
    have hpp : ∀ σ n, pur σ (n + 2) (paA p) = some (paA p, false) := fun _ _ => rfl
    have hfn : ∀ σ args, callA Cv (run Cv) false (.fn (.func 75) [] [.rp x.cells 0]) args σ = pureCallA Cv (run Cv) false 75 σ (purAll (pur σ 12) (args ++ [.rp x.cells 0])) := fun σ args => ca_none (by rfl)
    have hru := hr.row.under
    simp only [idxP]
    cases hp : partOk x p with
    | true =>
      rw [hp] at hn
      have key : run Cv 104 (.loop keep104_0 body104_0) (head104 x r ps.length k) {} = run Cv 104 (.loop keep104_0 body104_0) (head104 x r ps.length ((k : Int) + 1)) {} := by
        rw [run_loop]
        generalize MC.loop keep104_0 body104_0 = L
        simp (maxSteps := 10000000) [-List.getD_eq_getElem?_getD, -loadA, -ixsA, body104_0, keep104_0, head104, isV, hlt', hw, hix, hlr, hpp, hn, hru]
      rw [key]
      have := loop104 x hx ps r hr l (k + 1) hlt hd
      simpa using this
    | false =>
      rw [hp] at hn
      right
      simp only [Bool.false_eq_true, if_false]
      rw [run_loop]
      simp (maxSteps := 10000000) [-List.getD_eq_getElem?_getD, -loadA, -ixsA, body104_0, keep104_0, head104, isV, hlt', hw, hix, hlr, hpp, hn, hru]
      exact ⟨_, rfl⟩
theorem any_call (x : OB) (hx : x.Ok) (ps : List P3) (r : AV) (hr : PRow ps r) : call Cv 74 [r, isV x] = some (.bool (!ps.all (partOk x))) := by
  have hlen := hr.len
  have hrp := hr.row.pur
  have h104 : call Cv 104 [r, .fn (.func 75) [] [.rp x.cells 0]] = some (I (idxP x ps 0)) := by
    have e5 : ((0 : Nat) : Int) = 0 := rfl
    rcases loop104 x hx ps r hr ps 0 (Nat.zero_le _) rfl with ⟨h1, L, hl⟩ | ⟨L, hl⟩
    · have hl' := fun E (hE : mask keep104_0 E = _) => run_at hl hE
      simp only [keep104_0, head104, isV, e5] at hl'
      rw [h1, call_run comp104 (Nat.le_of_ble_eq_true rfl)]
      simp (maxSteps := 10000000) [-List.getD_eq_getElem?_getD, code104, hlen, keep104_0, hl']
    · have hl' := fun E (hE : mask keep104_0 E = _) => run_at hl hE
      simp only [keep104_0, head104, isV, e5] at hl'
      rw [call_run comp104 (Nat.le_of_ble_eq_true rfl)]
      simp (maxSteps := 10000000) [-List.getD_eq_getElem?_getD, code104, hlen, keep104_0, hl']
  rw [← idxP_nonneg x ps 0]
  rw [call_run comp74 (Nat.le_of_ble_eq_true rfl)]
  simp (maxSteps := 10000000) [-List.getD_eq_getElem?_getD, code74, isV, hrp, h104]
end Go.Ai

set_option maxRecDepth 100000
namespace Go.Ai
open Go.Organ (T4 F3 Tb keysF keysL shL shH)
def chO (l : List Int) : List (Nat × Nat) := if l = [] then [] else [(l.length, 1)]
def kOut (l : List Int) : AV := if l = [] then .nils else .sl 1 (ints l) (.chain 0)
def rowO (l : List Int) : AV := if l = [] then .nils else .sl 1 (ints l) .full
def st26 (x : OB) (C : List AV) (a b : Int) (l : List Int) (E : List (List AV)) : St := { boxes := [x.cells, C, [I a, I b]] ++ E, chains := chO l }
theorem rowO_row (l : List Int) : IsRow 1 (ints l) (rowO l) := by
  unfold rowO
  split
  · rename_i h; exact .inl ⟨rfl, by rw [h]; rfl⟩
  · exact .inr (.inr ⟨.full, rfl, rfl⟩)
theorem kOut_len (l : List Int) : lenA (kOut l) = some (I l.length) := by
  unfold kOut
  split
  · rename_i h; rw [h]; rfl
  · simp [ints]
theorem kOut_slc (l : List Int) : slcA 1 (kOut l) none (some (I l.length)) (some (I l.length)) = some (rowO l) := by
  unfold kOut rowO
  split
  · rename_i h; rw [h]; rfl
  · simp [slcA, boundA, ints]
    exact List.take_of_length_le (by simp)
theorem kOut_under (l : List Int) (a b c d n : Nat) (h : (chO l).length ≤ b) : under a b c d (n + 1) (kOut l) = true := by
  unfold kOut
  unfold chO at h
  split
  · rfl
  · rename_i hl
    rw [if_neg hl] at h
    simp only [un_chain, decide_eq_true_eq]
    simp at h; omega
theorem app26 (x : OB) (C : List AV) (a b : Int) (l : List Int) (hl : l.length < 1000) (E : List (List AV)) (k : Int) : appA (st26 x C a b l E) false 1 8 false (kOut l) (.sl 1 [I k] .full) = some (kOut (l ++ [k]), st26 x C a b (l ++ [k]) E) := by
  have hn : l ++ [k] ≠ [] := by simp
  unfold kOut
  rw [if_neg hn]
  by_cases h : l = []
  · subst h
    simp [appA, elemsA, grown, st26, chO, ints]
  · rw [if_neg h]
    have : (l.length + 1) * 8 ≤ 140737488355328 := by omega
    simp [appA, elemsA, st26, chO, h, hn, ints, this]
theorem cut26 (x : OB) (hx : x.Ok) (C : List AV) (hC : Vox x C) (a b : Int) (l l' : List Int) (E : List (List AV)) (e : Env) (h1 : e.all (under 3 (chO l').length 0 0 6) = true) (h2 : (chO l').length = (chO l).length ∨ e.all (under 3 (chO l).length 0 0 6) = false) :
    cut (st26 x C a b l []) (st26 x C a b l' E) e = st26 x C a b l' [] := by
  have hb : ∀ nc, (List.take 3 ([x.cells, C, [I a, I b]] ++ E)).all (fun cs => cs.all (under 3 nc 0 0 6)) = true := fun nc => by
    have u1 := hx.trow.under 3 nc 0 0 5
    have u2 := hx.frow.under 3 nc 0 0 5
    have u3 := br_under x 3 nc 0 0 5
    have u4 := vr_under x 3 nc 0 0 5
    have u5 := hC.under 3 nc 0 0 4
    have h0 : (x.cells).all (under 3 nc 0 0 6) = true := by
      simp only [OB.cells, List.all_cons, List.all_nil, u1, u2, u3, u4, un_int, Bool.and_self]
    show List.all [x.cells, C, [I a, I b]] _ = true
    simp only [List.all_cons, List.all_nil, h0, u5, un_int, Bool.and_self]
  have hd : ∀ nc, e.all (under 3 nc 0 0 6) = true → dryAt nc (st26 x C a b l []) (st26 x C a b l' E) e = true := fun nc he => by
    show (e.all (under 3 nc 0 0 6) && (List.take 3 ([x.cells, C, [I a, I b]] ++ E)).all (fun cs => cs.all (under 3 nc 0 0 6)) && true && true) = true
    rw [he, hb]; rfl
  have hd' : ∀ nc, e.all (under 3 nc 0 0 6) = false → dryAt nc (st26 x C a b l []) (st26 x C a b l' E) e = false := fun nc he => by
    show (e.all (under 3 nc 0 0 6) && (List.take 3 ([x.cells, C, [I a, I b]] ++ E)).all (fun cs => cs.all (under 3 nc 0 0 6)) && true && true) = false
    rw [he]; rfl
  have hat : cutAt (chO l').length (st26 x C a b l []) (st26 x C a b l' E) = st26 x C a b l' [] := by
    simp only [cutAt, st26, List.take_length]
    rfl
  unfold cut
  have e1 : (st26 x C a b l []).chains.length = (chO l).length := rfl
  have e2 : (st26 x C a b l' E).chains.length = (chO l').length := rfl
  rw [e1, e2]
  rcases h2 with h2 | h2
  · rw [← h2, hd _ h1, if_pos rfl, hat]
  · rw [hd' _ h2, if_neg (by simp), hd _ h1, if_pos rfl, hat]
def fnS (C : List AV) : AV := .fn (.func 77) [.agg C] []
def head26_0 (C : List AV) (r : AV) (n : Int) (week key : Int) (l : List Int) (k : Int) : Env := mkE 75 .any [(53, I k), (52, I n), (51, r), (14, I key), (13, .box 2 0), (12, fnS C), (11, kOut l), (2, r), (1, I week)]
structure Kept26 (C : List AV) (r : AV) (week key : Int) (l : List Int) (e : Env) : Prop where
  g1 : gt e 1 = I week
  g2 : gt e 2 = r
  g11 : gt e 11 = kOut l
  g12 : gt e 12 = fnS C
  g13 : gt e 13 = .box 2 0
  g14 : gt e 14 = I key
theorem loop26_0 (x : OB) (hx : x.Ok) (C : List AV) (hC : Vox x C) (ps : List P3) (r : AV) (hr : PRow ps r) (hps : ∀ p ∈ ps, 0 ≤ p.low ∧ p.low ≤ p.high ∧ p.high ≤ 40) (week key a b : Int) (hk : -100 ≤ key ∧ key ≤ 100) (hab : -100 ≤ a ∧ a ≤ b ∧ b ≤ 100) (l : List Int) : ∀ (qs : List P3) (k : Nat), k ≤ ps.length → ps.drop k = qs →
    (qs.all (fun p => sungO x week a b p key) = true ∧ ∃ L, run Cv 26 (.loop keep26_0 body26_0) (head26_0 C r ps.length week key l k) (st26 x C a b l []) = some (.ex 2, mkE 75 .any L, st26 x C a b l []) ∧ Kept26 C r week key l (mkE 75 .any L)) ∨
    (qs.all (fun p => sungO x week a b p key) = false ∧ ∃ L p, run Cv 26 (.loop keep26_0 body26_0) (head26_0 C r ps.length week key l k) (st26 x C a b l []) = some (.ex 1, mkE 75 .any L, st26 x C a b l [p]) ∧ Kept26 C r week key l (mkE 75 .any L))
  | [], k, hk, h => by
    obtain rfl := drop_nil hk h
    refine .inl ⟨rfl, ?_⟩
    rw [run_loop]
    simp (maxSteps := 10000000) [-List.getD_eq_getElem?_getD, body26_0, keep26_0, head26_0]
    exact ⟨_, rfl, ⟨by simp (maxSteps := 10000000) [-List.getD_eq_getElem?_getD, ], by simp (maxSteps := 10000000) [-List.getD_eq_getElem?_getD, ], by simp (maxSteps := 10000000) [-List.getD_eq_getElem?_getD, ], by simp (maxSteps := 10000000) [-List.getD_eq_getElem?_getD, ], by simp (maxSteps := 10000000) [-List.getD_eq_getElem?_getD, ], by simp (maxSteps := 10000000) [-List.getD_eq_getElem?_getD, ]⟩⟩
  | p :: qs, k, hk', h => by
    obtain ⟨hlt, ha, hd⟩ := head_drop h
    have hw := wrap_succ hlt hr.lt
    have hlt' : (k : Int) < (ps.length : Int) := by omega
    have hix := hr.ix hlt
    rw [ha] at hix
    have hpp := hps p (ha ▸ List.getElem_mem _)
    have hs := sung_call x hx C hC p week key a b hpp hk hab
    have hlr : ∀ σ, loadA σ (some 3) (.rp [I p.boy, I p.low, I p.high] 0) = some (paA p) := fun _ => rfl
    have hpap : ∀ σ n, pur σ (n + 2) (paA p) = some (paA p, false) := fun _ _ => rfl
    have hal : ∀ z, { st26 x C a b l [] with boxes := (st26 x C a b l []).boxes ++ [z] } = st26 x C a b l [z] := fun _ => rfl
    have hlen : (st26 x C a b l []).boxes.length = 3 := rfl
    have hst : storeA (st26 x C a b l [[I 0, I 0, I 0]]) 3 (.box 3 0) (paA p) = some (st26 x C a b l [[I p.boy, I p.low, I p.high]]) := rfl
    have hl3 : loadA (st26 x C a b l [[I p.boy, I p.low, I p.high]]) (some 3) (.box 3 0) = some (paA p) := rfl
    have hl2 : loadA (st26 x C a b l [[I p.boy, I p.low, I p.high]]) (some 2) (.box 2 0) = some (.agg [I a, I b]) := rfl
    have hCp := hC.c.pur
    have hfn : ∀ σ args, callA Cv (run Cv) false (.fn (.func 77) [.agg C] []) args σ = pureCallA Cv (run Cv) false 77 σ (purAll (pur σ 12) ([.agg C] ++ args ++ [])) := fun σ args => ca_none (by rfl)
    have hc := fun e he => cut26 x hx C hC a b l l [[I p.boy, I p.low, I p.high]] e he (.inl rfl)
    have hou := kOut_under l 3 (chO l).length 0 0 5 (Nat.le_refl _)
    have hru := hr.row.under 3 (chO l).length 0 0 5
    have hCu := hC.under 3 (chO l).length 0 0 2
    rw [List.all_cons]
    cases hsu : sungO x week a b p key with
    | true =>
      rw [hsu] at hs
      have step : run Cv 26 (.loop keep26_0 body26_0) (head26_0 C r ps.length week key l k) (st26 x C a b l []) = run Cv 26 (.loop keep26_0 body26_0) (head26_0 C r ps.length week key l ((k : Int) + 1)) (st26 x C a b l []) := by
        rw [run_loop]
        generalize MC.loop keep26_0 body26_0 = L
        simp (maxSteps := 10000000) [-List.getD_eq_getElem?_getD, -loadA, -storeA, -cut, -ixsA, -List.all_eq_true, body26_0, keep26_0, head26_0, fnS, hlt', hw, hix, hlr, hal, hlen, hst, hl3, hl2, hpap, hCp, hs]
        rw [hc]
        simp (maxSteps := 10000000) [-List.getD_eq_getElem?_getD, -List.all_eq_true, hou, hru, hCu]
      rw [step, Bool.true_and]
      exact loop26_0 x hx C hC ps r hr hps week key a b hk hab l qs (k + 1) hlt hd
    | false =>
      rw [hsu] at hs
      refine .inr ⟨Bool.false_and _, ?_⟩
      rw [run_loop]
      simp (maxSteps := 10000000) [-List.getD_eq_getElem?_getD, -loadA, -storeA, -cut, -ixsA, -List.all_eq_true, body26_0, keep26_0, head26_0, fnS, hlt', hw, hix, hlr, hal, hlen, hst, hl3, hl2, hpap, hCp, hs]
      exact ⟨_, ⟨rfl, ⟨_, rfl⟩⟩, ⟨by simp (maxSteps := 10000000) [-List.getD_eq_getElem?_getD, ], by simp (maxSteps := 10000000) [-List.getD_eq_getElem?_getD, ], by simp (maxSteps := 10000000) [-List.getD_eq_getElem?_getD, ], by simp (maxSteps := 10000000) [-List.getD_eq_getElem?_getD, fnS], by simp (maxSteps := 10000000) [-List.getD_eq_getElem?_getD, ], by simp (maxSteps := 10000000) [-List.getD_eq_getElem?_getD, ]⟩⟩
end Go.Ai

set_option maxRecDepth 100000
namespace Go.Ai
open Go.Organ (T4 F3 Tb keysF keysL shL shH)
def head26_1 (C : List AV) (r : AV) (week key : Int) (l : List Int) : Env := mkE 75 .any [(14, I key), (13, .box 2 0), (12, fnS C), (11, kOut l), (2, r), (1, I week)]
def keyOk26 (x : OB) (week a b : Int) (ps : List P3) (key : Int) : Bool := ps.all fun p => sungO x week a b p key
theorem loop26_1 (x : OB) (hx : x.Ok) (C : List AV) (hC : Vox x C) (ps : List P3) (r : AV) (hr : PRow ps r) (hps : ∀ p ∈ ps, 0 ≤ p.low ∧ p.low ≤ p.high ∧ p.high ≤ 40) (week a b : Int) (hab : -100 ≤ a ∧ a ≤ b ∧ b ≤ 100) : ∀ (n : Nat) (key : Int) (l : List Int), key + n = 7 → -6 ≤ key → l.length + n ≤ 13 →
    run Cv 26 (.loop keep26_1 body26_1) (head26_1 C r week key l) (st26 x C a b l []) = some (.ex 0, mkE 75 .any [(48, .bool false), (47, I 7), (14, I 7), (13, .box 2 0), (12, fnS C), (11, kOut (l ++ keysF (keyOk26 x week a b ps) key n)), (2, r), (1, I week)], st26 x C a b (l ++ keysF (keyOk26 x week a b ps) key n) [])
  | 0, key, l, hk, hk', hl => by
    obtain rfl : key = 7 := by omega
    rw [run_loop]
    simp (maxSteps := 10000000) [-List.getD_eq_getElem?_getD, body26_1, keep26_1, head26_1, keysF]
  | n + 1, key, l, hk, hk', hl => by
    have hle : key ≤ 6 := by omega
    have hw : IntKind.wrap .i64 (key + 1) = key + 1 := wrap_small (by omega) (by omega)
    have hlen := hr.len
    have hin := loop26_0 x hx C hC ps r hr hps week key a b (by omega) hab l ps 0 (Nat.zero_le _) rfl
    have e5 : ((0 : Nat) : Int) = 0 := rfl
    rw [keysF]
    rcases hin with ⟨hq, L, hin, hg⟩ | ⟨hq, L, p, hin, hg⟩
    · have hin' := fun E (hE : mask keep26_0 E = _) => run_at hin hE
      obtain ⟨g1, g2, g11, g12, g13, g14⟩ := hg
      simp only [keep26_0, head26_0, e5] at hin'
      have happ := app26 x C a b l (by omega) [] key
      have hf1 : ∀ v, fillE 1 false [(0, I v)] [I 0] = some [I v] := fun _ => rfl
      have hou := kOut_under (l ++ [key]) 3 (chO (l ++ [key])).length 0 0 5 (Nat.le_refl _)
      have hru := hr.row.under 3 (chO (l ++ [key])).length 0 0 5
      have hCu := hC.under 3 (chO (l ++ [key])).length 0 0 2
      have hc := fun e he h2 => cut26 x hx C hC a b l (l ++ [key]) [] e he h2
      have step : run Cv 26 (.loop keep26_1 body26_1) (head26_1 C r week key l) (st26 x C a b l []) = run Cv 26 (.loop keep26_1 body26_1) (head26_1 C r week (key + 1) (l ++ [key])) (st26 x C a b (l ++ [key]) []) := by
        rw [run_loop]
        generalize MC.loop keep26_1 body26_1 = L'
        simp (maxSteps := 10000000) [-List.getD_eq_getElem?_getD, -cut, -List.all_eq_true, body26_1, keep26_1, head26_1, keep26_0, hle, hlen, hin', g1, g2, g11, g12, g13, g14, hf1, happ, hw]
        rw [hc]
        · simp (maxSteps := 10000000) [-List.getD_eq_getElem?_getD, -List.all_eq_true, fnS, hou, hru, hCu]
        · by_cases hl0 : l = []
          · right
            subst hl0
            refine all_f 11 (by omega) ?_
            simp (maxSteps := 10000000) [-List.getD_eq_getElem?_getD, ]
            rfl
          · left
            simp [chO, hl0]
      rw [step, if_pos (show keyOk26 x week a b ps key = true from hq)]
      have := loop26_1 x hx C hC ps r hr hps week a b hab n (key + 1) (l ++ [key]) (by omega) (by omega) (by simp; omega)
      simpa using this
    · have hin' := fun E (hE : mask keep26_0 E = _) => run_at hin hE
      obtain ⟨g1, g2, g11, g12, g13, g14⟩ := hg
      simp only [keep26_0, head26_0, e5] at hin'
      have hou := kOut_under l 3 (chO l).length 0 0 5 (Nat.le_refl _)
      have hru := hr.row.under 3 (chO l).length 0 0 5
      have hCu := hC.under 3 (chO l).length 0 0 2
      have hc := fun e he => cut26 x hx C hC a b l l [p] e he (.inl rfl)
      have step : run Cv 26 (.loop keep26_1 body26_1) (head26_1 C r week key l) (st26 x C a b l []) = run Cv 26 (.loop keep26_1 body26_1) (head26_1 C r week (key + 1) l) (st26 x C a b l []) := by
        rw [run_loop]
        generalize MC.loop keep26_1 body26_1 = L'
        simp (maxSteps := 10000000) [-List.getD_eq_getElem?_getD, -cut, -List.all_eq_true, body26_1, keep26_1, head26_1, keep26_0, hle, hlen, hin', g1, g2, g11, g12, g13, g14, hw]
        rw [hc]
        simp (maxSteps := 10000000) [-List.getD_eq_getElem?_getD, -List.all_eq_true, fnS, hou, hru, hCu]
      rw [step, if_neg (by rw [show keyOk26 x week a b ps key = false from hq]; simp)]
      have := loop26_1 x hx C hC ps r hr hps week a b hab n (key + 1) l (by omega) (by omega) (by omega)
      simpa using this
def pieceB (x : OB) (week : Int) (ps : List P3) : Bool := lie week 0 (IntKind.wrap .i64 (x.voice.weeks - 1)) && (lie ps.length 1 4 && ps.all (partOk x))
def keysO (x : OB) (week : Int) (ps : List P3) : List Int := if askE x (pieceB x week ps) = 0 then keysL (keyOk26 x week (shL (tabO x noF) x.N) (shH (tabO x noF) x.N) ps) else []
set_option maxHeartbeats 2000000 in
theorem Keys_call (x : OB) (hx : x.Ok) (week : Int) (ps : List P3) (r : AV) (hr : PRow ps r) : call Cv 26 [x.av, I week, r] = some (.tup [rowO (keysO x week ps), I (askE x (pieceB x week ps))]) := by
  have h1 := asked_call x hx (pieceB x week ps)
  have h2 := within_call week 0 (IntKind.wrap .i64 (x.voice.weeks - 1))
  have h3 := within_call ps.length 1 4
  have h4 := any_call x hx ps r hr
  have hcl := xcells_cell x hx
  have hp := av_pur x hx
  have hlen' := hr.len
  have hrc := hr.row.cell
  have hrs := hr.row.cells
  have hrp := hr.row.pur
  have hbox : boxA {} x.av = some (.box 0 0, { boxes := [x.cells] }) := by
    simp only [boxA, OB.av, AV.cells, hcl, if_true]; rfl
  have hx4 : x.cells[4]? = some (I x.voice.weeks) := rfl
  have hfp : ∀ B, pur { boxes := x.cells :: B } 12 (.fn (.func 75) [] [.box 0 0]) = some (isV x, true) := fun B => by
    have := xcells_pur x hx { boxes := x.cells :: B } 9
    rw [pu_fn]
    simp only [pa_nil, pa_cons, pu_box, List.getElem?_cons_zero, Option.bind_some, this]
    rfl
  have h44 := askC_44 x hx (pieceB x week ps)
  have hst := h44.set (Z := zero44) rfl
  have hlen := h44.len
  have hcell := h44.cell
  simp only [zero44, zeros, List.cons_append, List.nil_append] at hst
  have hfo : ∀ b, fo 12 (.bool b) = true := fun _ => rfl
  by_cases h0 : askE x (pieceB x week ps) = 0
  · obtain ⟨hc, hi, ht⟩ := ask_zero h0
    have hia := hi
    simp only [pieceB, Bool.and_eq_true] at hi
    obtain ⟨i1, i2, i3⟩ := hi
    have hsh := sharp_call x hx hc ht
    have e1 : askC x true = openC x (mapO x noF) (tabO x noF) (canO x noF) := by rw [← hia, askC, if_pos h0]
    rw [← e1] at hsh
    have hV : Vox x (askC x true) := e1 ▸ open_vox x hx _ _ _
    have hne := Organ.sh_near hc.b (true_can ht)
    rw [← tab0] at hne
    obtain ⟨n1, n2, n3⟩ := hne
    have hps : ∀ p ∈ ps, 0 ≤ p.low ∧ p.low ≤ p.high ∧ p.high ≤ 40 := fun p hp => by
      have := List.all_eq_true.1 i3 p hp
      simp only [partOk, Bool.and_eq_true, decide_eq_true_eq] at this
      exact ⟨this.2.1, this.2.2.1, this.2.2.2⟩
    have hab : -100 ≤ shL (tabO x noF) x.N ∧ shL (tabO x noF) x.N ≤ shH (tabO x noF) x.N ∧ shH (tabO x noF) x.N ≤ 100 := by
      unfold shL shH; omega
    have hl := loop26_1 x hx (askC x true) hV ps r hr hps week _ _ hab 13 (-6) [] (by omega) (by omega) (by simp)
    have hl' := fun E (hE : mask keep26_1 E = _) => run_at hl hE
    have hk : keysO x week ps = keysF (keyOk26 x week (shL (tabO x noF) x.N) (shH (tabO x noF) x.N) ps) (-6) 13 := by rw [keysO, if_pos h0]; rfl
    rw [hk]
    simp only [List.nil_append] at hl'
    generalize keysF (keyOk26 x week (shL (tabO x noF) x.N) (shH (tabO x noF) x.N) ps) (-6) 13 = R at *
    generalize shL (tabO x noF) x.N = sl at *
    generalize shH (tabO x noF) x.N = sh at *
    have hol := kOut_len R
    have hos := kOut_slc R
    have hrow := rowO_row R
    have hop := hrow.pur
    have hC := h44.part
    have hCp := h44.pur
    rw [h0] at h1 ⊢
    rw [i1] at h2
    rw [i2] at h3
    rw [i3] at h4
    rw [hia] at h1 hst hC hCp hlen hcell
    have hll : ∀ E, (st26 x (askC x true) sl sh R E) = st26 x (askC x true) sl sh R E := fun _ => rfl
    have hs0 : ∀ a b, ({ boxes := [x.cells, askC x true, [I a, I b]] } : St) = st26 x (askC x true) a b [] [] := fun _ _ => rfl
    have hk0 : kOut [] = .nils := rfl
    simp only [keep26_1, head26_1, fnS, hk0] at hl'
    rw [← hs0] at hl'
    generalize askC x true = C at *
    rw [call_run comp26 (Nat.le_of_ble_eq_true rfl)]
    simp (maxSteps := 10000000) [-List.getD_eq_getElem?_getD, ret2, retc2, -partA, -setAt, -List.all_eq_true, part_none, part_two, part_x, fill_two, fill_span, set_two, -boxA, code26, run_scope, hbox, hp, hx4, hlen', hrp, hfp, hfo, h1, h2, h3, h4, hlen, hcell, hst, still, hC, hCp, hsh, keep26_1, hl', hol, hos, hop]
  · have hk : keysO x week ps = [] := by rw [keysO, if_neg h0]
    rw [hk]
    generalize askE x (pieceB x week ps) = e at *
    have h0' : (e == 0) = false := by simpa using h0
    generalize askC x (pieceB x week ps) = C at *
    have hr0 : rowO [] = .nils := rfl
    rw [hr0]
    simp only [pieceB] at h1
    generalize lie week 0 (IntKind.wrap .i64 (x.voice.weeks - 1)) = b1 at *
    generalize lie ps.length 1 4 = b2 at *
    generalize ps.all (partOk x) = b3 at *
    rw [call_run comp26 (Nat.le_of_ble_eq_true rfl)]
    cases b1 <;> cases b2 <;> simp only [Bool.false_and, Bool.true_and] at h1 <;>
      simp (maxSteps := 10000000) [-List.getD_eq_getElem?_getD, ret2, retc2, -partA, -setAt, -List.all_eq_true, part_none, part_two, part_x, fill_two, fill_span, set_two, -boxA, code26, run_scope, hbox, hp, hx4, hlen', hrp, hfp, hfo, h1, h2, h3, h4, hlen, hcell, hst, still, h0, h0']
end Go.Ai

set_option maxRecDepth 100000
namespace Go.Ai
open Go.Organ (T4 F3 Tb keysF keysL shL shH bestF)
def nearB (k b : Int) : Bool := decide (max k (-k) < max b (-b)) || (decide (max k (-k) = max b (-b)) && decide (k < b))
theorem near_call (k b : Int) (hk : -100 ≤ k ∧ k ≤ 100) (hb : -100 ≤ b ∧ b ≤ 100) : call Cv 106 [I k, I b] = some (.bool (nearB k b)) := by
  have w1 : IntKind.wrap .i64 (-k) = -k := wrap_small (by omega) (by omega)
  have w2 : IntKind.wrap .i64 (-b) = -b := wrap_small (by omega) (by omega)
  have m1 := fold_max k (-k)
  have m2 := fold_max b (-b)
  unfold nearB
  generalize max k (-k) = n at *
  generalize max b (-b) = m at *
  have he : (n == m) = decide (n = m) := rfl
  generalize hq1 : decide (n < m) = q1
  generalize hq2 : decide (n = m) = q2
  generalize hq3 : decide (k < b) = q3
  rw [call_run comp106 (Nat.le_of_ble_eq_true rfl)]
  cases q1 <;> cases q2 <;> simp (maxSteps := 10000000) [-List.getD_eq_getElem?_getD, code106, w1, w2, m1, m2, he, hq1, hq2, hq3]
theorem order_call : call Cv 80 [] = some (.agg [.fn (.func 106) [] []]) := by
  have hf : fillA [(0, 1, .fn (.func 106) [] [])] [.nilf] = some [.fn (.func 106) [] []] := rfl
  rw [call_run comp80 (Nat.le_of_ble_eq_true rfl)]
  simp (maxSteps := 10000000) [-List.getD_eq_getElem?_getD, code80, hf]
def head29 (r : AV) (n best k : Int) : Env := mkE 45 .any [(33, I k), (32, I n), (31, r), (11, .box 1 0), (10, I best)]
def st29 (x : OB) : St := { boxes := [x.cells, [.fn (.func 106) [] []]] }
theorem best_step (k b : Int) (l : List Int) : bestF (k :: l) b = bestF l (if nearB k b then k else b) := by
  unfold bestF
  rw [List.foldl_cons]
  congr 1
  by_cases h : max k (-k) < max b (-b) ∨ (max k (-k) = max b (-b) ∧ k < b)
  · rw [if_pos h, if_pos]
    simpa [nearB] using h
  · rw [if_neg h, if_neg]
    simpa [nearB] using h
theorem loop29 (x : OB) (hx : x.Ok) (R : List Int) (r : AV) (hr : IsRow 1 (ints R) r) (hR : ∀ k ∈ R, -100 ≤ k ∧ k ≤ 100) (hl : R.length < 1000) : ∀ (l : List Int) (k : Nat) (b : Int), k ≤ R.length → R.drop k = l → -100 ≤ b ∧ b ≤ 100 →
    run Cv 29 (.loop keep29_0 body29_0) (head29 r R.length b k) (st29 x) = some (.ex 0, mkE 45 .any [(34, .bool false), (33, I R.length), (32, I R.length), (31, r), (11, .box 1 0), (10, I (bestF l b))], st29 x)
  | [], k, b, hk, h, hb => by
    obtain rfl := drop_nil hk h
    rw [run_loop]
    simp (maxSteps := 10000000) [-List.getD_eq_getElem?_getD, body29_0, keep29_0, head29, bestF]
  | n :: l, k, b, hk, h, hb => by
    obtain ⟨hlt, ha, hd⟩ := head_drop h
    have hw := wrap_succ hlt (by omega)
    have hlt' : (k : Int) < (R.length : Int) := by omega
    have hn := hR n (ha ▸ List.getElem_mem _)
    have hix : ixsA 1 r (I k) = some (.rp [I n] 0) := by
      obtain ⟨c, hc, hr⟩ := row_sl hr (by intro hn; rw [hn] at hlt; simp at hlt)
      rw [hr]
      simp [ixsA, ints, hlt, ha, AV.cells]
    have hlr : ∀ σ, loadA σ none (.rp [I n] 0) = some (I n) := fun _ => rfl
    have hl1 : loadA (st29 x) none (.box 1 0) = some (.fn (.func 106) [] []) := rfl
    have hnc := near_call n b hn hb
    have hfn : ∀ σ args, callA Cv (run Cv) false (.fn (.func 106) [] []) args σ = pureCallA Cv (run Cv) false 106 σ (purAll (pur σ 12) ([] ++ args ++ [])) := fun σ args => ca_none (by rfl)
    have hru := hr.under
    have hc := fun e => cut_self (st29 x) e (by simp [st29]) (by simp [st29])
    rw [best_step]
    have hb' : -100 ≤ (if nearB n b then n else b) ∧ (if nearB n b then n else b) ≤ 100 := by split <;> omega
    have step : run Cv 29 (.loop keep29_0 body29_0) (head29 r R.length b k) (st29 x) = run Cv 29 (.loop keep29_0 body29_0) (head29 r R.length (if nearB n b then n else b) ((k : Int) + 1)) (st29 x) := by
      rw [run_loop]
      generalize MC.loop keep29_0 body29_0 = L
      cases hq : nearB n b <;> rw [hq] at hnc <;> simp (maxSteps := 10000000) [-List.getD_eq_getElem?_getD, -loadA, -cut, -ixsA, body29_0, keep29_0, head29, hlt', hw, hix, hlr, hl1, hnc, hc]
    rw [step]
    exact loop29 x hx R r hr hR hl l (k + 1) _ hlt hd hb'
def bestO (x : OB) (week : Int) (ps : List P3) : Int := match keysO x week ps with
  | [] => 0
  | k :: l => bestF (k :: l) k
def bestE (x : OB) (week : Int) (ps : List P3) : Int := if askE x (pieceB x week ps) ≠ 0 then askE x (pieceB x week ps) else if keysO x week ps = [] then 4 else 0
theorem keysO_mem {x : OB} {week : Int} {ps : List P3} : ∀ k ∈ keysO x week ps, -6 ≤ k ∧ k ≤ 6 := fun k hk => by
  unfold keysO at hk
  split at hk
  · have := (Organ.mem_keysL).1 hk; exact ⟨this.1, this.2.1⟩
  · cases hk
theorem keysO_len (x : OB) (week : Int) (ps : List P3) : (keysO x week ps).length ≤ 13 := by
  unfold keysO
  split
  · exact Organ.keysF_len 13 (-6)
  · simp
set_option maxHeartbeats 1000000 in
theorem Best_call (x : OB) (hx : x.Ok) (week : Int) (ps : List P3) (r : AV) (hr : PRow ps r) : call Cv 29 [x.av, I week, r] = some (.tup [I (bestO x week ps), I (bestE x week ps)]) := by
  have h1 := Keys_call x hx week ps r hr
  have h2 := order_call
  have hcl := xcells_cell x hx
  have hp := av_pur x hx
  have hrp := hr.row.pur
  have hbox : boxA {} x.av = some (.box 0 0, { boxes := [x.cells] }) := by
    simp only [boxA, OB.av, AV.cells, hcl, if_true]; rfl
  have hrow := rowO_row (keysO x week ps)
  have hlen := row_len hrow
  have hmem := keysO_mem (x := x) (week := week) (ps := ps)
  have hl13 := keysO_len x week ps
  have hop := hrow.pur
  unfold bestE bestO
  by_cases h0 : askE x (pieceB x week ps) = 0
  · rw [h0] at h1 ⊢
    cases hk : keysO x week ps with
    | nil =>
      rw [hk] at h1 hlen hrow hop
      have e0 : (([] : List Int).length : Int) = 0 := rfl
      rw [e0] at hlen
      simp only [ne_eq, not_true_eq_false, if_false, if_true]
      rw [call_run comp29 (Nat.le_of_ble_eq_true rfl)]
      simp (maxSteps := 10000000) [-List.getD_eq_getElem?_getD, ret2, -boxA, -partA, part_x, code29, hbox, hp, hrp, h1, hlen, hop]
    | cons k l =>
      rw [hk] at h1 hlen hrow hop hmem hl13
      have hb := hmem k (.head _)
      have hl := fun E (hE : mask keep29_0 E = _) => run_at (loop29 x hx (k :: l) (rowO (k :: l)) hrow (fun y hy => by have := hmem y hy; omega) (by omega) (k :: l) 0 k (Nat.zero_le _) rfl (by omega)) hE
      have e5 : ((0 : Nat) : Int) = 0 := rfl
      simp only [keep29_0, head29, st29, e5] at hl
      have hne : (((k :: l).length : Int) == 0) = false := by simp; omega
      have hix : ixsA 1 (rowO (k :: l)) (I 0) = some (.rp [I k] 0) := by
        have hro : rowO (k :: l) = .sl 1 (ints (k :: l)) .full := if_neg (by simp)
        rw [hro]
        simp [ixsA, ints, AV.cells]
      have hst : ∀ v, still Cv (.cst (.fn (.func 80) [] [])) v = true := fun _ => rfl
      simp only [ne_eq, not_true_eq_false, if_false, reduceCtorEq]
      generalize (k :: l).length = n at *
      generalize rowO (k :: l) = R at *
      rw [call_run comp29 (Nat.le_of_ble_eq_true rfl)]
      simp (maxSteps := 10000000) [-List.getD_eq_getElem?_getD, ret2, -boxA, -partA, -ixsA, part_none, part_x, code29, hbox, hp, hrp, h1, h2, hlen, hne, hop, hix, hst, keep29_0, hl]
  · have hk : keysO x week ps = [] := by rw [keysO, if_neg h0]
    rw [hk] at h1 hlen hop ⊢
    generalize askE x (pieceB x week ps) = e at *
    have h0' : (e == 0) = false := by simpa using h0
    rw [if_pos h0]
    dsimp only
    rw [call_run comp29 (Nat.le_of_ble_eq_true rfl)]
    simp (maxSteps := 10000000) [-List.getD_eq_getElem?_getD, ret2, -boxA, -partA, part_none, part_x, code29, hbox, hp, hrp, h1, h0, h0', hop]
end Go.Ai
