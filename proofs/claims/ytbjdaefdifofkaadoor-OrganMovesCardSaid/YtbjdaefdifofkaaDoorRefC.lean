/- This text shows the reference of the organ: pieces, keys. No conditions of its own. -/
import Derived.Test.YtbjdaefdifofkaaDoorCodesRk
import Derived.Test.YtbjdaefdifofkaaDoorRefB
import Derived.Test.YtbjdaefdifofkaaDoorFnD
set_option linter.unusedSimpArgs false
set_option linter.unusedVariables false
set_option maxRecDepth 100000
namespace Go.Ai
open Go.Organ (T4 F3 Tb T6 upd flat allS allS_nil allS_step)
theorem fair_part (p : P3) : fairB p.low p.high 0 40 40 = (decide (0 ≤ p.low) && (decide (p.low ≤ p.high) && decide (p.high ≤ 40))) := by
  unfold fairB
  by_cases h1 : 0 ≤ p.low
  · by_cases h2 : p.low ≤ p.high
    · by_cases h3 : p.high ≤ 40
      · have : IntKind.wrap .i64 (p.high - p.low) = p.high - p.low := wrap_small (by omega) (by omega)
        rw [this]
        have h4 : p.high - p.low ≤ 40 := by omega
        simp [h1, h2, h3, h4]
      · simp [h1, h2, h3]
    · simp [h1, h2]
  · simp [h1]
def head78 (r : AV) (ok : Bool) (k : Int) : Env := mkE 39 .any [(6, I k), (5, .bool ok), (2, .box 0 0), (1, r)]
theorem loop78 (x : OB) (hx : x.Ok) (ps : List P3) (r : AV) (hr : PRow ps r) (hbl : x.voice.boys.length < 2 ^ 47) : ∀ (l : List P3) (k : Nat) (ok : Bool), k ≤ ps.length → ps.drop k = l →
    ∃ L, run Cv 78 (.loop keep78_0 body78_0) (head78 r ok k) (stO x) = some (.ex 0, mkE 39 .any L, stO x) ∧ gt (mkE 39 .any L) 5 = .bool (ok && l.all (partOk x))
  | l, k, false, hk, h => by
    rw [run_loop]
    simp (maxSteps := 10000000) [-List.getD_eq_getElem?_getD, body78_0, keep78_0, head78, stO]
    exact ⟨_, rfl, by simp (maxSteps := 10000000) [-List.getD_eq_getElem?_getD, ]⟩
  | [], k, true, hk, h => by
    obtain rfl := drop_nil hk h
    have hlen := hr.len
    rw [run_loop]
    simp (maxSteps := 10000000) [-List.getD_eq_getElem?_getD, body78_0, keep78_0, head78, stO, hlen]
    exact ⟨_, rfl, by simp (maxSteps := 10000000) [-List.getD_eq_getElem?_getD, ]⟩
  | p :: l, k, true, hk, h => by
    obtain ⟨hlt, ha, hd⟩ := head_drop h
    have hw := wrap_succ hlt hr.lt
    have hlt' : (k : Int) < (ps.length : Int) := by omega
    have hix := hr.ix hlt
    rw [ha] at hix
    have hlen := hr.len
    have hb := brlen hx
    have wb : IntKind.wrap .i64 ((x.voice.boys.length : Int) - 1) = (x.voice.boys.length : Int) - 1 := wrap_small (by omega) (by omega)
    have c1 := lies' p.boy 0 ((x.voice.boys.length : Int) - 1)
    have c2 := fair_call p.low p.high 0 40 40
    rw [fair_part] at c2
    have hp : partOk x p = (lie p.boy 0 ((x.voice.boys.length : Int) - 1) && (decide (0 ≤ p.low) && (decide (p.low ≤ p.high) && decide (p.high ≤ 40)))) := rfl
    have l1 : ∀ σ, loadA σ none (.rp [I p.boy, I p.low, I p.high] 0) = some (I p.boy) := fun _ => rfl
    have l2 : ∀ σ, loadA σ (some 2) (.rp [I p.boy, I p.low, I p.high] 1) = some (.agg [I p.low, I p.high]) := fun _ => rfl
    have l3 : ∀ B, loadA { boxes := x.cells :: B } none (.box 0 3) = some x.br := fun _ => rfl
    have u1 := xcells_under x hx
    have hru := hr.row.under
    have key : run Cv 78 (.loop keep78_0 body78_0) (head78 r true k) (stO x) = run Cv 78 (.loop keep78_0 body78_0) (head78 r (true && partOk x p) (k + 1)) (stO x) := by
      rw [hp]
      generalize lie p.boy 0 ((x.voice.boys.length : Int) - 1) = b1 at *
      generalize (decide (0 ≤ p.low) && (decide (p.low ≤ p.high) && decide (p.high ≤ 40))) = b2 at *
      rw [run_loop]
      generalize MC.loop keep78_0 body78_0 = L
      cases b1 <;> simp (maxSteps := 10000000) [-List.getD_eq_getElem?_getD, -loadA, -ixsA, -List.all_eq_true, body78_0, keep78_0, head78, stO, hlen, hlt', hw, hix, hb, wb, c1, c2, l1, l2, l3, u1, hru]
    rw [key]
    have := loop78 x hx ps r hr hbl l (k + 1) (true && partOk x p) hlt hd
    rw [List.all_cons, ← Bool.and_assoc]
    exact this
theorem isPiece_call (x : OB) (hx : x.Ok) (ps : List P3) (r : AV) (hr : PRow ps r) (hbl : x.voice.boys.length < 2 ^ 47) : call Cv 78 [x.av, r] = some (.bool (lie ps.length 1 4 && ps.all (partOk x))) := by
  obtain ⟨L, hl, hg⟩ := loop78 x hx ps r hr hbl ps 0 (lie ps.length 1 4) (Nat.zero_le _) rfl
  have hl' := fun E (hE : mask keep78_0 E = _) => run_at hl hE
  have e5 : ((0 : Nat) : Int) = 0 := rfl
  simp only [keep78_0, head78, stO, e5] at hl'
  have hcl := xcells_cell x hx
  have hbox : boxA {} x.av = some (.box 0 0, { boxes := [x.cells] }) := by
    simp only [boxA, OB.av, AV.cells, hcl, if_true]; rfl
  have hlen := hr.len
  have c1 := lies' ps.length 1 4
  generalize lie ps.length 1 4 = b1 at *
  rw [call_run comp78 (Nat.le_of_ble_eq_true rfl)]
  simp (maxSteps := 10000000) [-List.getD_eq_getElem?_getD, -boxA, -List.all_eq_true, code78, hbox, hlen, c1, keep78_0, hl', hg]
theorem rsing_call (x : OB) (hx : x.Ok) (boy week n : Int) : call Cv 105 [.agg [x.br, I x.voice.weeks, x.vr], I boy, I week, I n] = some (.tup [I (singO x boy week n), I (singE x boy week n)]) := by
  rw [← voice_av]; exact Vc.rSings_call x.voice hx.voice boy week n
def head79 (week key note : Int) : Env := mkE 50 .any [(11, I note), (9, .box 2 0), (7, .box 1 0), (5, .box 0 0), (3, I key), (1, I week)]
def st79 (x : OB) (p : P3) (a b : Int) : St := { boxes := [x.cells, [I p.boy, I p.low, I p.high], [I a, I b]] }
theorem loop79 (x : OB) (hx : x.Ok) (p : P3) (week key sl sh hi : Int) (w1 : IntKind.wrap .i64 (p.high + key) = p.high + key) (w2 : IntKind.wrap .i64 (p.high + key + sh) = hi) (hhi : hi ≤ 100000) : ∀ (n : Nat) (a : Int), n = (hi + 1 - a).toNat → a ≤ hi + 1 → -100000 ≤ a →
    match allS (surely x p.boy week) a hi with
    | true => ∃ L, run Cv 79 (.loop keep79_0 body79_0) (head79 week key a) (st79 x p sl sh) = some (.ex 0, mkE 50 .any L, st79 x p sl sh)
    | false => ∃ L, run Cv 79 (.loop keep79_0 body79_0) (head79 week key a) (st79 x p sl sh) = some (.rt, mkE 50 .any ((10, .bool false) :: L), st79 x p sl sh)
  | 0, a, hn, ha, ha' => by
    have hle : ¬ a ≤ hi := by omega
    rw [allS_nil (by omega)]
    dsimp only
    rw [run_loop]
    simp (maxSteps := 10000000) [-List.getD_eq_getElem?_getD, body79_0, keep79_0, head79, st79, w1, w2, hle]
    exact ⟨_, rfl⟩
  | n + 1, a, hn, ha, ha' => by
    have hle : a ≤ hi := by omega
    have hw : IntKind.wrap .i64 (a + 1) = a + 1 := wrap_small (by omega) (by omega)
    have hs := rsing_call x hx p.boy week a
    have hv : partA (some 3) x.cells 3 = some (.agg [x.br, I x.voice.weeks, x.vr]) := rfl
    have hvp : ∀ σ n, pur σ (n + 2) (.agg [x.br, I x.voice.weeks, x.vr]) = some (.agg [x.br, I x.voice.weeks, x.vr], false) := fun σ n => by
      rw [pu_agg]; simp only [pa_cons, pa_nil, br_pur, vr_pur, pu_int, Option.bind_some, Bool.or_self]
    have hcu := fun a b c d => xcells_under x hx a b c d 5
    rw [allS_step hle]
    cases hsu : surely x p.boy week a with
    | false =>
      simp only [Bool.false_and]
      simp only [surely] at hsu
      generalize singE x p.boy week a = e at *
      generalize singO x p.boy week a = o at *
      rw [run_loop]
      by_cases he : e = 0
      · subst he
        have ho : ¬ o = 2 := by simpa using hsu
        simp (maxSteps := 10000000) [-List.getD_eq_getElem?_getD, -partA, part_none, body79_0, keep79_0, head79, st79, w1, w2, hle, hs, hv, hvp, ho]
        exact ⟨_, rfl⟩
      · simp (maxSteps := 10000000) [-List.getD_eq_getElem?_getD, -partA, part_none, body79_0, keep79_0, head79, st79, w1, w2, hle, hs, hv, hvp, he]
        exact ⟨_, rfl⟩
    | true =>
      simp only [Bool.true_and]
      simp only [surely, Bool.and_eq_true, beq_iff_eq] at hsu
      rw [hsu.1, hsu.2] at hs
      have step : run Cv 79 (.loop keep79_0 body79_0) (head79 week key a) (st79 x p sl sh) = run Cv 79 (.loop keep79_0 body79_0) (head79 week key (a + 1)) (st79 x p sl sh) := by
        rw [run_loop]
        generalize MC.loop keep79_0 body79_0 = L
        simp (maxSteps := 10000000) [-List.getD_eq_getElem?_getD, -partA, -List.all_eq_true, part_none, body79_0, keep79_0, head79, st79, w1, w2, hle, hs, hv, hvp, hw, hcu]
      rw [step]
      exact loop79 x hx p week key sl sh hi w1 w2 hhi n (a + 1) (by omega) (by omega) (by omega)
theorem rsung_call (x : OB) (hx : x.Ok) (p : P3) (week key sl sh : Int) (hp : 0 ≤ p.low ∧ p.low ≤ p.high ∧ p.high ≤ 40) (hk : -100 ≤ key ∧ key ≤ 100) (hsl : -100 ≤ sl ∧ sl ≤ sh ∧ sh ≤ 100) :
    call Cv 79 [x.av, I week, paA p, I key, .agg [I sl, I sh]] = some (.bool (sungO x week sl sh p key)) := by
  have w1 : IntKind.wrap .i64 (p.high + key) = p.high + key := wrap_small (by omega) (by omega)
  have w2 : IntKind.wrap .i64 (p.high + key + sh) = p.high + key + sh := wrap_small (by omega) (by omega)
  have w3 : IntKind.wrap .i64 (p.low + key) = p.low + key := wrap_small (by omega) (by omega)
  have w4 : IntKind.wrap .i64 (p.low + key + sl) = p.low + key + sl := wrap_small (by omega) (by omega)
  have hl := loop79 x hx p week key sl sh (p.high + key + sh) w1 w2 (by omega) _ (p.low + key + sl) rfl (by omega) (by omega)
  have hcl := xcells_cell x hx
  have hbox : boxA {} x.av = some (.box 0 0, { boxes := [x.cells] }) := by
    simp only [boxA, OB.av, AV.cells, hcl, if_true]; rfl
  have hbox2 : boxA { boxes := [x.cells] } (paA p) = some (.box 1 0, { boxes := [x.cells, [I p.boy, I p.low, I p.high]] }) := rfl
  have hbox3 : ∀ a b A B, boxA { boxes := [A, B] } (.agg [I a, I b]) = some (.box 2 0, { boxes := [A, B, [I a, I b]] }) := fun _ _ _ _ => rfl
  cases hs : sungO x week sl sh p key with
  | true =>
    rw [show allS (surely x p.boy week) (p.low + key + sl) (p.high + key + sh) = true from hs] at hl
    obtain ⟨L, hl⟩ := hl
    have hl' := fun E (hE : mask keep79_0 E = _) => run_at hl hE
    simp only [keep79_0, head79, st79] at hl'
    rw [call_run comp79 (Nat.le_of_ble_eq_true rfl)]
    simp (maxSteps := 10000000) [-List.getD_eq_getElem?_getD, -boxA, -partA, -List.all_eq_true, part_none, code79, hbox, hbox2, hbox3, w3, w4, keep79_0, hl']
  | false =>
    rw [show allS (surely x p.boy week) (p.low + key + sl) (p.high + key + sh) = false from hs] at hl
    obtain ⟨L, hl⟩ := hl
    have hl' := fun E (hE : mask keep79_0 E = _) => run_at hl hE
    simp only [keep79_0, head79, st79] at hl'
    rw [call_run comp79 (Nat.le_of_ble_eq_true rfl)]
    simp (maxSteps := 10000000) [-List.getD_eq_getElem?_getD, -boxA, -partA, -List.all_eq_true, part_none, code79, hbox, hbox2, hbox3, w3, w4, keep79_0, hl']
end Go.Ai

set_option maxRecDepth 100000
namespace Go.Ai
open Go.Organ (T4 F3 Tb T6 upd flat keysF keysL shL shH)
def kOutR (l : List Int) : AV := if l = [] then .sl 1 [] .full else .sl 1 (ints l) (.chain 0)
theorem kOutR_under (l : List Int) (a b c d n : Nat) (h : (chO l).length ≤ b) : under a b c d (n + 1) (kOutR l) = true := by
  unfold kOutR
  unfold chO at h
  split
  · rfl
  · rename_i hl
    rw [if_neg hl] at h
    simp only [List.length_singleton] at h
    show decide (0 < b) = true
    simp; omega
theorem app27 (x : OB) (C : List AV) (a b : Int) (l : List Int) (hl : l.length < 1000) (E : List (List AV)) (k : Int) : appA (st26 x C a b l E) false 1 8 false (kOutR l) (.sl 1 [I k] .full) = some (kOutR (l ++ [k]), st26 x C a b (l ++ [k]) E) := by
  have hn : l ++ [k] ≠ [] := by simp
  unfold kOutR
  rw [if_neg hn]
  by_cases h : l = []
  · subst h
    simp [appA, elemsA, grown, st26, chO, ints]
  · rw [if_neg h]
    have : (l.length + 1) * 8 ≤ 140737488355328 := by omega
    simp [appA, elemsA, st26, chO, h, hn, ints, this]
theorem cut27 (x : OB) (hx : x.Ok) (M : Tb) (a b : Int) (l l' : List Int) (E : List (List AV)) (e : Env) (h1 : e.all (under 3 (chO l').length 0 0 6) = true) (h2 : (chO l').length = (chO l).length ∨ e.all (under 3 (chO l).length 0 0 6) = false) :
    cut (st26 x (flatA M) a b l []) (st26 x (flatA M) a b l' E) e = st26 x (flatA M) a b l' [] := by
  have hb : ∀ nc, (List.take 3 ([x.cells, flatA M, [I a, I b]] ++ E)).all (fun cs => cs.all (under 3 nc 0 0 6)) = true := fun nc => by
    have h0 := xcells_under x hx 3 nc 0 0 5
    have u5 := flatA_under M 3 nc 0 0 5
    show List.all [x.cells, flatA M, [I a, I b]] _ = true
    simp only [List.all_cons, List.all_nil, h0, u5, un_int, Bool.and_self]
  have hd : ∀ nc, e.all (under 3 nc 0 0 6) = true → dryAt nc (st26 x (flatA M) a b l []) (st26 x (flatA M) a b l' E) e = true := fun nc he => by
    show (e.all (under 3 nc 0 0 6) && (List.take 3 ([x.cells, flatA M, [I a, I b]] ++ E)).all (fun cs => cs.all (under 3 nc 0 0 6)) && true && true) = true
    rw [he, hb]; rfl
  have hd' : ∀ nc, e.all (under 3 nc 0 0 6) = false → dryAt nc (st26 x (flatA M) a b l []) (st26 x (flatA M) a b l' E) e = false := fun nc he => by
    show (e.all (under 3 nc 0 0 6) && (List.take 3 ([x.cells, flatA M, [I a, I b]] ++ E)).all (fun cs => cs.all (under 3 nc 0 0 6)) && true && true) = false
    rw [he]; rfl
  have hat : cutAt (chO l').length (st26 x (flatA M) a b l []) (st26 x (flatA M) a b l' E) = st26 x (flatA M) a b l' [] := by
    simp only [cutAt, st26, List.take_length]
    rfl
  unfold cut
  have e1 : (st26 x (flatA M) a b l []).chains.length = (chO l).length := rfl
  have e2 : (st26 x (flatA M) a b l' E).chains.length = (chO l').length := rfl
  rw [e1, e2]
  rcases h2 with h2 | h2
  · rw [← h2, hd _ h1, if_pos rfl, hat]
  · rw [hd' _ h2, if_neg (by simp), hd _ h1, if_pos rfl, hat]
def head27_0 (r : AV) (week key : Int) (l : List Int) (ok : Bool) (k : Int) : Env := mkE 66 .any [(14, I k), (13, .bool ok), (12, I key), (11, kOutR l), (10, .box 2 0), (3, .box 0 0), (2, r), (1, I week)]
structure Kept27 (r : AV) (week key : Int) (l : List Int) (ok : Bool) (e : Env) : Prop where
  g1 : gt e 1 = I week
  g2 : gt e 2 = r
  g3 : gt e 3 = .box 0 0
  g10 : gt e 10 = .box 2 0
  g11 : gt e 11 = kOutR l
  g12 : gt e 12 = I key
  g13 : gt e 13 = .bool ok
theorem loop27_0 (x : OB) (hx : x.Ok) (M : Tb) (ps : List P3) (r : AV) (hr : PRow ps r) (hps : ∀ p ∈ ps, 0 ≤ p.low ∧ p.low ≤ p.high ∧ p.high ≤ 40) (week key a b : Int) (hk : -100 ≤ key ∧ key ≤ 100) (hab : -100 ≤ a ∧ a ≤ b ∧ b ≤ 100) (l : List Int) : ∀ (qs : List P3) (k : Nat) (ok : Bool), k ≤ ps.length → ps.drop k = qs →
    ∃ L, run Cv 27 (.loop keep27_0 body27_0) (head27_0 r week key l ok k) (st26 x (flatA M) a b l []) = some (.ex 2, mkE 66 .any L, st26 x (flatA M) a b l []) ∧ Kept27 r week key l (ok && qs.all (fun p => sungO x week a b p key)) (mkE 66 .any L)
  | qs, k, false, hk, h => by
    rw [run_loop]
    simp (maxSteps := 10000000) [-List.getD_eq_getElem?_getD, body27_0, keep27_0, head27_0]
    exact ⟨_, rfl, ⟨by simp (maxSteps := 10000000) [-List.getD_eq_getElem?_getD, ], by simp (maxSteps := 10000000) [-List.getD_eq_getElem?_getD, ], by simp (maxSteps := 10000000) [-List.getD_eq_getElem?_getD, ], by simp (maxSteps := 10000000) [-List.getD_eq_getElem?_getD, ], by simp (maxSteps := 10000000) [-List.getD_eq_getElem?_getD, ], by simp (maxSteps := 10000000) [-List.getD_eq_getElem?_getD, ], by simp (maxSteps := 10000000) [-List.getD_eq_getElem?_getD, ]⟩⟩
  | [], k, true, hk, h => by
    obtain rfl := drop_nil hk h
    have hlen := hr.len
    rw [run_loop]
    simp (maxSteps := 10000000) [-List.getD_eq_getElem?_getD, body27_0, keep27_0, head27_0, hlen]
    exact ⟨_, rfl, ⟨by simp (maxSteps := 10000000) [-List.getD_eq_getElem?_getD, ], by simp (maxSteps := 10000000) [-List.getD_eq_getElem?_getD, ], by simp (maxSteps := 10000000) [-List.getD_eq_getElem?_getD, ], by simp (maxSteps := 10000000) [-List.getD_eq_getElem?_getD, ], by simp (maxSteps := 10000000) [-List.getD_eq_getElem?_getD, ], by simp (maxSteps := 10000000) [-List.getD_eq_getElem?_getD, ], by simp (maxSteps := 10000000) [-List.getD_eq_getElem?_getD, ]⟩⟩
  | p :: qs, k, true, hk', h => by
    obtain ⟨hlt, ha, hd⟩ := head_drop h
    have hw := wrap_succ hlt hr.lt
    have hlt' : (k : Int) < (ps.length : Int) := by omega
    have hix := hr.ix hlt
    rw [ha] at hix
    have hlen := hr.len
    have hpp := hps p (ha ▸ List.getElem_mem _)
    have hs := rsung_call x hx p week key a b hpp hk hab
    have hlr : ∀ σ, loadA σ (some 3) (.rp [I p.boy, I p.low, I p.high] 0) = some (paA p) := fun _ => rfl
    have hl6 : loadA (st26 x (flatA M) a b l []) (some 6) (.box 0 0) = some x.av := rfl
    have hl2 : loadA (st26 x (flatA M) a b l []) (some 2) (.box 2 0) = some (.agg [I a, I b]) := rfl
    have hpap : ∀ σ n, pur σ (n + 2) (paA p) = some (paA p, false) := fun _ _ => rfl
    have hp := av_pur x hx
    have hc := fun e he => cut27 x hx M a b l l [] e he (.inl rfl)
    have hou := kOutR_under l 3 (chO l).length 0 0 5 (Nat.le_refl _)
    have hru := hr.row.under 3 (chO l).length 0 0 5
    have step : run Cv 27 (.loop keep27_0 body27_0) (head27_0 r week key l true k) (st26 x (flatA M) a b l []) = run Cv 27 (.loop keep27_0 body27_0) (head27_0 r week key l (true && sungO x week a b p key) ((k : Int) + 1)) (st26 x (flatA M) a b l []) := by
      rw [run_loop]
      generalize MC.loop keep27_0 body27_0 = L
      simp (maxSteps := 10000000) [-List.getD_eq_getElem?_getD, -loadA, -storeA, -cut, -ixsA, -List.all_eq_true, body27_0, keep27_0, head27_0, hlen, hlt', hw, hix, hlr, hl6, hl2, hpap, hp, hs]
      rw [hc]
      simp (maxSteps := 10000000) [-List.getD_eq_getElem?_getD, -List.all_eq_true, hou, hru]
    rw [step]
    have := loop27_0 x hx M ps r hr hps week key a b hk hab l qs (k + 1) (true && sungO x week a b p key) hlt hd
    rw [List.all_cons, ← Bool.and_assoc]
    exact this
def head27_1 (r : AV) (week key : Int) (l : List Int) : Env := mkE 66 .any [(12, I key), (11, kOutR l), (10, .box 2 0), (3, .box 0 0), (2, r), (1, I week)]
theorem loop27_1 (x : OB) (hx : x.Ok) (M : Tb) (ps : List P3) (r : AV) (hr : PRow ps r) (hps : ∀ p ∈ ps, 0 ≤ p.low ∧ p.low ≤ p.high ∧ p.high ≤ 40) (week a b : Int) (hab : -100 ≤ a ∧ a ≤ b ∧ b ≤ 100) : ∀ (n : Nat) (key : Int) (l : List Int), key + n = 7 → -6 ≤ key → l.length + n ≤ 13 →
    run Cv 27 (.loop keep27_1 body27_1) (head27_1 r week key l) (st26 x (flatA M) a b l []) = some (.ex 0, mkE 66 .any [(39, .bool false), (38, I 7), (12, I 7), (11, kOutR (l ++ keysF (keyOk26 x week a b ps) key n)), (10, .box 2 0), (3, .box 0 0), (2, r), (1, I week)], st26 x (flatA M) a b (l ++ keysF (keyOk26 x week a b ps) key n) [])
  | 0, key, l, hk, hk', hl => by
    obtain rfl : key = 7 := by omega
    rw [run_loop]
    simp (maxSteps := 10000000) [-List.getD_eq_getElem?_getD, body27_1, keep27_1, head27_1, keysF]
  | n + 1, key, l, hk, hk', hl => by
    have hle : key ≤ 6 := by omega
    have hw : IntKind.wrap .i64 (key + 1) = key + 1 := wrap_small (by omega) (by omega)
    obtain ⟨L, hin, hg⟩ := loop27_0 x hx M ps r hr hps week key a b (by omega) hab l ps 0 true (Nat.zero_le _) rfl
    have e5 : ((0 : Nat) : Int) = 0 := rfl
    have hq : (true && ps.all fun p => sungO x week a b p key) = keyOk26 x week a b ps key := rfl
    rw [hq] at hg
    have hin' := fun E (hE : mask keep27_0 E = _) => run_at hin hE
    simp only [keep27_0, head27_0, e5] at hin'
    obtain ⟨g1, g2, g3, g10, g11, g12, g13⟩ := hg
    rw [keysF]
    cases hok : keyOk26 x week a b ps key with
    | true =>
      rw [hok] at g13
      have happ := app27 x (flatA M) a b l (by omega) [] key
      have hf1 : ∀ v, fillE 1 false [(0, I v)] [I 0] = some [I v] := fun _ => rfl
      have hou := kOutR_under (l ++ [key]) 3 (chO (l ++ [key])).length 0 0 5 (Nat.le_refl _)
      have hru := hr.row.under 3 (chO (l ++ [key])).length 0 0 5
      have hc := fun e he h2 => cut27 x hx M a b l (l ++ [key]) [] e he h2
      have step : run Cv 27 (.loop keep27_1 body27_1) (head27_1 r week key l) (st26 x (flatA M) a b l []) = run Cv 27 (.loop keep27_1 body27_1) (head27_1 r week (key + 1) (l ++ [key])) (st26 x (flatA M) a b (l ++ [key]) []) := by
        rw [run_loop]
        generalize MC.loop keep27_1 body27_1 = L'
        simp (maxSteps := 10000000) [-List.getD_eq_getElem?_getD, -cut, -List.all_eq_true, body27_1, keep27_1, head27_1, keep27_0, hle, hin', g1, g2, g3, g10, g11, g12, g13, hf1, happ, hw]
        rw [hc]
        · simp (maxSteps := 10000000) [-List.getD_eq_getElem?_getD, -List.all_eq_true, hou, hru]
        · by_cases hl0 : l = []
          · right
            subst hl0
            refine all_f 11 (by omega) ?_
            simp (maxSteps := 10000000) [-List.getD_eq_getElem?_getD, ]
            rfl
          · left
            simp [chO, hl0]
      rw [step, if_pos rfl]
      have := loop27_1 x hx M ps r hr hps week a b hab n (key + 1) (l ++ [key]) (by omega) (by omega) (by simp; omega)
      simpa using this
    | false =>
      rw [hok] at g13
      have hou := kOutR_under l 3 (chO l).length 0 0 5 (Nat.le_refl _)
      have hru := hr.row.under 3 (chO l).length 0 0 5
      have hc := fun e he => cut27 x hx M a b l l [] e he (.inl rfl)
      have step : run Cv 27 (.loop keep27_1 body27_1) (head27_1 r week key l) (st26 x (flatA M) a b l []) = run Cv 27 (.loop keep27_1 body27_1) (head27_1 r week (key + 1) l) (st26 x (flatA M) a b l []) := by
        rw [run_loop]
        generalize MC.loop keep27_1 body27_1 = L'
        simp (maxSteps := 10000000) [-List.getD_eq_getElem?_getD, -cut, -List.all_eq_true, body27_1, keep27_1, head27_1, keep27_0, hle, hin', g1, g2, g3, g10, g11, g12, g13, hw]
        rw [hc]
        simp (maxSteps := 10000000) [-List.getD_eq_getElem?_getD, -List.all_eq_true, hou, hru]
      rw [step, if_neg (by simp)]
      have := loop27_1 x hx M ps r hr hps week a b hab n (key + 1) l (by omega) (by omega) (by omega)
      simpa using this
end Go.Ai
