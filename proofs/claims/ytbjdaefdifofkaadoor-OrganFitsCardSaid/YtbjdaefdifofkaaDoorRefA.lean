/- This text shows the reference of the organ: tables. No conditions of its own. -/
import Derived.Test.YtbjdaefdifofkaaDoorFnE
import Derived.Test.YtbjdaefdifofkaaDoorCodesR
import Derived.Test.YtbjdaefdifofkaaDoorFnC
import Derived.Test.YtbjdaefdifofkaaDoorHelp
set_option linter.unusedSimpArgs false
set_option linter.unusedVariables false
set_option maxRecDepth 100000
namespace Go.Ai
open Go.Organ (T4 F3 Tb upd flat)
theorem rIsPipe_call (x : OB) (hx : x.Ok) (n : Int) : call Cv 66 [x.av, I n] = some (.bool (isPipe x n)) := by
  have h := lies' n 0 (IntKind.wrap .i64 (x.pipes - 1))
  have p1 := hx.trow.cell
  have p2 := hx.frow.cell
  have p3 := br_cell x
  have p4 := vr_cell x
  rw [call_run comp66 (Nat.le_of_ble_eq_true rfl)]
  simp (maxSteps := 10000000) [-List.getD_eq_getElem?_getD, code66, OB.av, OB.cells, h, isPipe, p1, p2, p3, p4]
theorem rIsTune_call (x : OB) (hx : x.Ok) (t : T4) : call Cv 65 [x.av, tuA t] = some (.bool (tuneOk x t)) := by
  have h1 := rIsPipe_call x hx t.src
  have h2 := rIsPipe_call x hx t.dst
  have h3 := lies' t.off (-30) 30
  have h4 := lies' t.err 0 5
  have p1 := hx.trow.cell
  have p2 := hx.frow.cell
  have p3 := br_cell x
  have p4 := vr_cell x
  have q1 := hx.trow.pur
  have q2 := hx.frow.pur
  have q3 := br_pur x
  have q4 := vr_pur x
  unfold tuneOk
  simp only [OB.av, OB.cells] at h1 h2
  generalize isPipe x t.src = b1 at *
  generalize isPipe x t.dst = b2 at *
  generalize lie t.off (-30) 30 = b4 at *
  generalize lie t.err 0 5 = b5 at *
  generalize hb3 : (t.src != t.dst) = b3 at *
  rw [call_run comp65 (Nat.le_of_ble_eq_true rfl)]
  cases b1 <;> cases b2 <;> cases b3 <;> cases b4 <;> simp (maxSteps := 10000000) [-List.getD_eq_getElem?_getD, code65, OB.av, OB.cells, tuA, h1, h2, h3, h4, hb3, p1, p2, p3, p4, q1, q2, q3, q4]
def head18_0 (ok : Bool) (k : Int) : Env := mkE 76 .any [(4, I k), (3, .bool ok), (1, .box 0 0)]
theorem loop18_0 (x : OB) (hx : x.Ok) : ∀ (l : List T4) (k : Nat) (ok : Bool), k ≤ x.tunes.length → x.tunes.drop k = l →
    ∃ L, run Cv 18 (.loop keep18_0 body18_0) (head18_0 ok k) (stO x) = some (.ex 0, mkE 76 .any L, stO x) ∧ gt (mkE 76 .any L) 3 = .bool (ok && l.all (tuneOk x)) ∧ gt (mkE 76 .any L) 1 = .box 0 0
  | l, k, false, hk, h => by
    rw [run_loop]
    simp (maxSteps := 10000000) [-List.getD_eq_getElem?_getD, body18_0, keep18_0, head18_0, stO]
    exact ⟨_, rfl, by simp (maxSteps := 10000000) [-List.getD_eq_getElem?_getD, ], by simp (maxSteps := 10000000) [-List.getD_eq_getElem?_getD, ]⟩
  | [], k, true, hk, h => by
    obtain rfl := drop_nil hk h
    have hlen := tlen hx
    rw [run_loop]
    simp (maxSteps := 10000000) [-List.getD_eq_getElem?_getD, body18_0, keep18_0, head18_0, stO, OB.cells, hlen]
    exact ⟨_, rfl, by simp (maxSteps := 10000000) [-List.getD_eq_getElem?_getD, ], by simp (maxSteps := 10000000) [-List.getD_eq_getElem?_getD, ]⟩
  | t :: l, k, true, hk, h => by
    obtain ⟨hlt, ha, hd⟩ := head_drop h
    have hw := wrap_succ hlt hx.lt
    have hlt' : (k : Int) < (x.tunes.length : Int) := by omega
    have hix : ixsA 4 x.tr (I k) = some (.rp [I t.src, I t.dst, I t.off, I t.err] 0) := by
      obtain ⟨c, hc, hr⟩ := hx.trow.sl (by intro hn; simp at hn; rw [hn] at hlt; simp at hlt)
      rw [hr]
      simp [ixsA, hlt, ha, tuA, AV.cells]
    have hlen := tlen hx
    have hcall := rIsTune_call x hx t
    have u1 := hx.trow.under
    have u2 := hx.frow.under
    have u3 := br_under x
    have u4 := vr_under x
    have q1 := hx.trow.pur
    have q2 := hx.frow.pur
    have q3 := br_pur x
    have q4 := vr_pur x
    have key : run Cv 18 (.loop keep18_0 body18_0) (head18_0 true k) (stO x) = run Cv 18 (.loop keep18_0 body18_0) (head18_0 (true && tuneOk x t) (k + 1)) (stO x) := by
      simp only [OB.av, OB.cells, tuA] at hcall
      rw [run_loop]
      generalize MC.loop keep18_0 body18_0 = L
      simp (maxSteps := 10000000) [-List.getD_eq_getElem?_getD, -ixsA, -List.all_eq_true, body18_0, keep18_0, head18_0, stO, OB.cells, hlen, hlt', hw, hix, hcall, u1, u2, u3, u4, q1, q2, q3, q4]
    rw [key]
    have := loop18_0 x hx l (k + 1) (true && tuneOk x t) hlt hd
    rw [List.all_cons, ← Bool.and_assoc]
    exact this
def head18_1 (ok : Bool) (k : Int) : Env := mkE 76 .any [(5, I k), (3, .bool ok), (1, .box 0 0)]
theorem loop18_1 (x : OB) (hx : x.Ok) : ∀ (l : List F3) (k : Nat) (ok : Bool), k ≤ x.forks.length → x.forks.drop k = l →
    ∃ L, run Cv 18 (.loop keep18_1 body18_1) (head18_1 ok k) (stO x) = some (.ex 2, mkE 76 .any L, stO x) ∧ gt (mkE 76 .any L) 3 = .bool (ok && l.all (forkOk x))
  | l, k, false, hk, h => by
    rw [run_loop]
    simp (maxSteps := 10000000) [-List.getD_eq_getElem?_getD, body18_1, keep18_1, head18_1, stO]
    exact ⟨_, rfl, by simp (maxSteps := 10000000) [-List.getD_eq_getElem?_getD, ]⟩
  | [], k, true, hk, h => by
    obtain rfl := drop_nil hk h
    have hlen := flen hx
    rw [run_loop]
    simp (maxSteps := 10000000) [-List.getD_eq_getElem?_getD, body18_1, keep18_1, head18_1, stO, OB.cells, hlen]
    exact ⟨_, rfl, by simp (maxSteps := 10000000) [-List.getD_eq_getElem?_getD, ]⟩
  | f :: l, k, true, hk, h => by
    obtain ⟨hlt, ha, hd⟩ := head_drop h
    have hw := wrap_succ hlt hx.lf
    have hlt' : (k : Int) < (x.forks.length : Int) := by omega
    have hix : ixsA 3 x.fr (I k) = some (.rp [I f.pipe, I f.read, I f.err] 0) := by
      obtain ⟨c, hc, hr⟩ := hx.frow.sl (by intro hn; simp at hn; rw [hn] at hlt; simp at hlt)
      rw [hr]
      simp [ixsA, hlt, ha, foA, AV.cells]
    have hlen := flen hx
    have c1 := rIsPipe_call x hx f.pipe
    have c2 := lies' f.read (-60) 60
    have c3 := lies' f.err 0 5
    have u1 := hx.trow.under
    have u2 := hx.frow.under
    have u3 := br_under x
    have u4 := vr_under x
    have q1 := hx.trow.pur
    have q2 := hx.frow.pur
    have q3 := br_pur x
    have q4 := vr_pur x
    have hs3 : ∀ a b c : AV, setAt [I 0, I 0, I 0] 0 [a, b, c] = [a, b, c] := fun _ _ _ => rfl
    have key : run Cv 18 (.loop keep18_1 body18_1) (head18_1 true k) (stO x) = run Cv 18 (.loop keep18_1 body18_1) (head18_1 (true && forkOk x f) (k + 1)) (stO x) := by
      simp only [OB.av, OB.cells] at c1
      unfold forkOk
      generalize isPipe x f.pipe = b1 at *
      generalize lie f.read (-60) 60 = b2 at *
      generalize lie f.err 0 5 = b3 at *
      rw [run_loop]
      generalize MC.loop keep18_1 body18_1 = L
      cases b1 <;> cases b2 <;> simp (maxSteps := 10000000) [-List.getD_eq_getElem?_getD, -ixsA, -setAt, -List.all_eq_true, body18_1, keep18_1, head18_1, stO, OB.cells, hlen, hlt', hw, hix, hs3, c1, c2, c3, u1, u2, u3, u4, q1, q2, q3, q4]
    rw [key]
    have := loop18_1 x hx l (k + 1) (true && forkOk x f) hlt hd
    rw [List.all_cons, ← Bool.and_assoc]
    exact this
theorem rCheck18_call (x : OB) (hx : x.Ok) : call Cv 18 [x.av] = some (I (if checkOk x then 0 else 80)) := by
  have h1 := tlen hx
  have h2 := flen hx
  have w1 := lies' x.pipes 1 5
  have w2 := Vc.rCheck_call x.voice hx.voice
  rw [voice_av] at w2
  have p1 := hx.trow.cell
  have p2 := hx.frow.cell
  have p3 := br_cell x
  have p4 := vr_cell x
  have q1 := hx.trow.pur
  have q2 := hx.frow.pur
  have q3 := br_pur x
  have q4 := vr_pur x
  have e5 : ((0 : Nat) : Int) = 0 := rfl
  have key : ∀ ok : Bool, ok = (lie x.pipes 1 5 && (decide ((x.tunes.length : Int) ≤ 6) && (decide ((x.forks.length : Int) ≤ 3) && Vc.checkOk x.voice))) → call Cv 18 [x.av] = some (I (if (ok && x.tunes.all (tuneOk x)) && x.forks.all (forkOk x) then 0 else 80)) := by
    intro ok hok
    obtain ⟨Lt, lt, lt3, lt1⟩ := loop18_0 x hx x.tunes 0 ok (Nat.zero_le _) rfl
    obtain ⟨Lf, lf, lf3⟩ := loop18_1 x hx x.forks 0 (ok && x.tunes.all (tuneOk x)) (Nat.zero_le _) rfl
    generalize (ok && x.tunes.all (tuneOk x)) = ok2 at *
    have lt' := fun E (hE : mask keep18_0 E = _) => run_at lt hE
    have lf' := fun E (hE : mask keep18_1 E = _) => run_at lf hE
    simp only [keep18_0, head18_0, stO, OB.cells, e5] at lt'
    simp only [keep18_1, head18_1, stO, OB.cells, e5] at lf'
    have e0 : ((I (if Vc.checkOk x.voice then 0 else 20)) = I 0) = (Vc.checkOk x.voice = true) := by cases Vc.checkOk x.voice <;> simp
    generalize x.forks.all (forkOk x) = ok3 at *
    generalize lie x.pipes 1 5 = b1 at *
    generalize hb2 : decide ((x.tunes.length : Int) ≤ 6) = b2 at *
    generalize hb3 : decide ((x.forks.length : Int) ≤ 3) = b3 at *
    generalize Vc.checkOk x.voice = b4 at *
    rw [call_run comp18 (Nat.le_of_ble_eq_true rfl)]
    cases b1 <;> cases b2 <;> cases b3 <;> cases b4 <;> simp only [Bool.false_and, Bool.true_and, Bool.and_true, Bool.and_false, Bool.false_eq_true, if_true, if_false] at hok w2 <;> subst hok <;> cases hb : (ok2 && ok3) <;> rw [hb] at lf3 <;>
      simp (maxSteps := 10000000) [-List.getD_eq_getElem?_getD, -List.all_eq_true, code18, OB.av, OB.cells, w1, w2, hb2, hb3, h1, h2, p1, p2, p3, p4, q1, q2, q3, q4, keep18_0, keep18_1, lt', lt3, lt1, lf', lf3]
  have := key _ rfl
  rw [this]
  rfl
end Go.Ai

set_option maxRecDepth 100000
namespace Go.Ai
open Go.Organ (T4 F3 Tb upd flat flat_ext lower tbl)
theorem flatA_part (m : Tb) : partA (some 36) (flatA m) 0 = some (.agg (flatA m)) := rfl
theorem flatA_all (m m' : Tb) : setAt (flatA m) 0 (flatA m') = flatA m' := rfl
theorem tbA_cell (m : Tb) : (flatA m).all AV.isCell = true := rfl
theorem tbA_pur (m : Tb) (σ : St) (n : Nat) : pur σ (n + 2) (.agg (flatA m)) = some (.agg (flatA m), false) := rfl
theorem flatA_at (m : Tb) {i k : Nat} (hi : i < 6) (hk : k < 6) : partA none (flatA m) (6 * i + k) = some (I (m i k)) := flatA_get m hi hk
theorem flatA_put (m : Tb) {i k : Nat} (hi : i < 6) (hk : k < 6) (v : Int) : setAt (flatA m) (6 * i + k) [I v] = flatA (upd m i k v) := by
  rw [setAt_one _ _ _ (by rw [flatA_len]; omega), flatA_set m hi hk]
theorem flatA_congr {m m' : Tb} (h : flat m = flat m') : flatA m = flatA m' := by
  simp only [flatA, h]
theorem ixa0 {b i : Nat} (hi : i < 6) : ixaA 6 6 (.box b 0) (I i) = some (.box b (6 * i)) := by
  have : (i : Int) < 6 := by omega
  simp [ixaA, this, ptrAdd]; omega
theorem ixb0 {b i k : Nat} (hk : k < 6) : ixaA 6 1 (.box b (6 * i)) (I k) = some (.box b (6 * i + k)) := by
  have : (k : Int) < 6 := by omega
  simp [ixaA, this, ptrAdd]
def Z36 : List AV := [I 0, I 0, I 0, I 0, I 0, I 0, I 0, I 0, I 0, I 0, I 0, I 0, I 0, I 0, I 0, I 0, I 0, I 0, I 0, I 0, I 0, I 0, I 0, I 0, I 0, I 0, I 0, I 0, I 0, I 0, I 0, I 0, I 0, I 0, I 0, I 0]
theorem Z36_is : Z36 = flatA (fun _ _ => 0) := rfl
theorem ld46 {B : List (List AV)} {m : Tb} {b i k : Nat} (hb : B[b]? = some (flatA m)) (hi : i < 6) (hk : k < 6) : loadA { boxes := B } none (.box b (6 * i + k)) = some (I (m i k)) := by
  show (B[b]?).bind (fun cs => partA none cs (6 * i + k)) = _
  rw [hb, Option.bind_some]
  exact flatA_at m hi hk
theorem st46 {B : List (List AV)} {m : Tb} {b i k : Nat} (hb : B[b]? = some (flatA m)) (hi : i < 6) (hk : k < 6) (v : Int) : storeA { boxes := B } 1 (.box b (6 * i + k)) (I v) = some { boxes := B.set b (flatA (upd m i k v)) } := by
  have h1 : storeA { boxes := B } 1 (.box b (6 * i + k)) (I v) = (B[b]?).bind fun cs => if 0 ≤ b ∧ (I v).cells.length = 1 ∧ 6 * i + k + 1 ≤ cs.length ∧ (I v).cells.all AV.isCell = true then some { boxes := B.set b (setAt cs (6 * i + k) (I v).cells) } else none := rfl
  rw [h1, hb, Option.bind_some, if_pos ⟨by omega, rfl, by rw [flatA_len]; omega, rfl⟩, cells_int, flatA_put m hi hk]
theorem lw46 {B : List (List AV)} {m : Tb} {b : Nat} (hb : B[b]? = some (flatA m)) : loadA { boxes := B } (some 36) (.box b 0) = some (.agg (flatA m)) := by
  show (B[b]?).bind (fun cs => partA (some 36) cs 0) = _
  rw [hb, Option.bind_some]
  exact flatA_part m
theorem sw46 {B : List (List AV)} {m : Tb} {F : List AV} {b : Nat} (hb : B[b]? = some F) (hF : F.length = 36) : storeA { boxes := B } 36 (.box b 0) (.agg (flatA m)) = some { boxes := B.set b (flatA m) } := by
  have h1 : storeA { boxes := B } 36 (.box b 0) (.agg (flatA m)) = (B[b]?).bind fun cs => if 0 ≤ b ∧ (flatA m).length = 36 ∧ 0 + 36 ≤ cs.length ∧ (flatA m).all AV.isCell = true then some { boxes := B.set b (setAt cs 0 (flatA m)) } else none := rfl
  have h2 : setAt F 0 (flatA m) = flatA m := by
    simp only [setAt, flatA_len, List.take_zero, List.nil_append, Nat.zero_add]
    rw [List.drop_eq_nil_of_le (by omega), List.append_nil]
  rw [h1, hb, Option.bind_some, if_pos ⟨by omega, flatA_len m, by omega, tbA_cell m⟩, h2]
theorem lower_call (m : Tb) {i k : Nat} (hi : i < 6) (hk : k < 6) (v : Int) : call Cv 96 [.agg (flatA m), I i, I k, I v] = some (.agg (flatA (lower m (i, k, v)))) := by
  have hbox : boxA {} (.agg (flatA m)) = some (.box 0 0, { boxes := [flatA m] }) := rfl
  have i1 := fun b => ixa0 (b := b) hi
  have i2 := fun b => ixb0 (b := b) (i := i) hk
  have l1 := ld46 (B := [flatA m, Z36]) (b := 0) rfl hi hk
  have s1 := st46 (B := [flatA m, Z36]) (b := 0) rfl hi hk (min (m i k) v)
  have hmn := fold_min (m i k) v
  have p2 := tbA_pur
  rw [Organ.upd_lower m i k v]
  generalize upd m i k (min (m i k) v) = m' at *
  have l2 := lw46 (B := [flatA m', Z36]) (b := 0) rfl
  have s2 := sw46 (B := [flatA m', Z36]) (m := m') (b := 1) rfl rfl
  have l3 := lw46 (B := [flatA m', flatA m']) (b := 1) rfl
  rw [call_run comp96 (Nat.le_of_ble_eq_true rfl)]
  simp only [Z36, List.set_cons_zero, List.set_cons_succ] at *
  simp (maxSteps := 10000000) [-List.getD_eq_getElem?_getD, -boxA, -partA, -setAt, -loadA, -storeA, -ixaA, -List.all_eq_true, code96, hbox, i1, i2, l1, s1, hmn, p2, l2, s2, l3]
end Go.Ai

set_option maxRecDepth 100000
namespace Go.Ai
open Go.Organ (T4 F3 Tb upd flat flat_ext lower tbl kept forkB tuneB)
def S59 (x : OB) (F : List AV) : St := { boxes := [x.cells, Z36, F] }
theorem xcells_under (x : OB) (hx : x.Ok) (a b c d n : Nat) : x.cells.all (under a b c d (n + 1)) = true := by
  have u1 := hx.trow.under a b c d n
  have u2 := hx.frow.under a b c d n
  have u3 := br_under x a b c d n
  have u4 := vr_under x a b c d n
  simp only [OB.cells, List.all_cons, List.all_nil, u1, u2, u3, u4, un_int, Bool.and_self]
theorem Z36_under (a b c d n : Nat) : Z36.all (under a b c d (n + 1)) = true := rfl
def initT (i k : Nat) : Tb := fun a b => if a < i then (if a = b then 0 else 100000) else if a = i ∧ b < k then 100000 else 0
def dR : Tb := fun a b => if a = b then 0 else 100000
theorem init_next {i k : Nat} (hi : i < 6) (hk : k < 6) : flatA (upd (initT i k) i k 100000) = flatA (initT i (k + 1)) := flatA_congr (flat_ext fun a b ha hb => by
  simp only [upd, initT]
  by_cases h : a = i
  · subst h
    by_cases h' : b = k
    · subst h'; simp
    · have : b < k ↔ b < k + 1 := by omega
      simp [h', this]
  · simp [h])
theorem init_row {i : Nat} (hi : i < 6) : flatA (upd (initT i 6) i i 0) = flatA (initT (i + 1) 0) := flatA_congr (flat_ext fun a b ha hb => by
  simp only [upd, initT]
  by_cases h : a = i
  · subst h
    by_cases h' : b = a
    · subst h'; simp
    · have : ¬ a = b := fun e => h' e.symm
      simp [h', hb, this]
  · have : a < i ↔ a < i + 1 := by omega
    simp [h, this])
theorem init_done : flatA (initT 6 0) = flatA dR := flatA_congr (flat_ext fun a b ha hb => by simp [initT, dR, ha])
def head59_0 (but i k : Int) : Env := mkE 150 .any [(8, I k), (7, I i), (6, .box 2 0), (4, .box 1 0), (2, .box 0 0), (1, I but)]
theorem loop59_0 (x : OB) (hx : x.Ok) (but : Int) (i : Nat) (hi : i < 6) : ∀ (n k : Nat), k + n = 6 →
    run Cv 59 (.loop keep59_0 body59_0) (head59_0 but i k) (S59 x (flatA (initT i k))) = some (.ex 2, mkE 150 .any [(23, .bool false), (22, I 6), (8, I 6), (7, I i), (6, .box 2 0), (4, .box 1 0), (2, .box 0 0), (1, I but)], S59 x (flatA (initT i 6)))
  | 0, k, hk => by
    obtain rfl : k = 6 := by omega
    have e6 : ((6 : Nat) : Int) = 6 := rfl
    rw [run_loop]
    simp (maxSteps := 10000000) [-List.getD_eq_getElem?_getD, body59_0, keep59_0, head59_0, e6]
  | n + 1, k, hk => by
    have hk6 : k < 6 := by omega
    have hlt : (k : Int) < 6 := by omega
    have hw : IntKind.wrap .i64 ((k : Int) + 1) = ((k + 1 : Nat) : Int) := by rw [wrap_small (by omega) (by omega)]; rfl
    have i1 := fun b => ixa0 (b := b) hi
    have i2 := fun b => ixb0 (b := b) (i := i) hk6
    have s1 := st46 (B := [x.cells, Z36, flatA (initT i k)]) (b := 2) rfl hi hk6 100000
    have u1 := xcells_under x hx
    have u2 := Z36_under
    have u3 := flatA_under
    simp only [List.set_cons_zero, List.set_cons_succ] at s1
    rw [init_next hi hk6] at s1
    have key : run Cv 59 (.loop keep59_0 body59_0) (head59_0 but i k) (S59 x (flatA (initT i k))) = run Cv 59 (.loop keep59_0 body59_0) (head59_0 but i ((k + 1 : Nat) : Int)) (S59 x (flatA (initT i (k + 1)))) := by
      rw [run_loop]
      generalize MC.loop keep59_0 body59_0 = L'
      simp (maxSteps := 10000000) [-List.getD_eq_getElem?_getD, -loadA, -storeA, -ixaA, -List.all_eq_true, body59_0, keep59_0, head59_0, S59, hlt, hw, i1, i2, s1, u1, u2, u3]
    rw [key]
    exact loop59_0 x hx but i hi n (k + 1) (by omega)
def head59_1 (but i : Int) : Env := mkE 150 .any [(7, I i), (6, .box 2 0), (4, .box 1 0), (2, .box 0 0), (1, I but)]
theorem loop59_1 (x : OB) (hx : x.Ok) (but : Int) : ∀ (n i : Nat), i + n = 6 →
    run Cv 59 (.loop keep59_1 body59_1) (head59_1 but i) (S59 x (flatA (initT i 0))) = some (.ex 0, mkE 150 .any [(19, .bool false), (18, I 6), (7, I 6), (6, .box 2 0), (4, .box 1 0), (2, .box 0 0), (1, I but)], S59 x (flatA dR))
  | 0, i, hk => by
    obtain rfl : i = 6 := by omega
    have e6 : ((6 : Nat) : Int) = 6 := rfl
    rw [init_done, run_loop]
    simp (maxSteps := 10000000) [-List.getD_eq_getElem?_getD, body59_1, keep59_1, head59_1, e6]
  | n + 1, i, hk => by
    have hi : i < 6 := by omega
    have hlt : (i : Int) < 6 := by omega
    have hw : IntKind.wrap .i64 ((i : Int) + 1) = ((i + 1 : Nat) : Int) := by rw [wrap_small (by omega) (by omega)]; rfl
    have i1 := fun b => ixa0 (b := b) hi
    have i2 := fun b => ixb0 (b := b) (i := i) hi
    have s1 := st46 (B := [x.cells, Z36, flatA (initT i 6)]) (b := 2) rfl hi hi 0
    have u1 := xcells_under x hx
    have u2 := Z36_under
    have u3 := flatA_under
    simp only [List.set_cons_zero, List.set_cons_succ] at s1
    rw [init_row hi] at s1
    have hin := fun E (hE : mask keep59_0 E = _) => run_at (loop59_0 x hx but i hi 6 0 (by omega)) hE
    have e5 : ((0 : Nat) : Int) = 0 := rfl
    simp only [keep59_0, head59_0, e5, S59] at hin
    have key : run Cv 59 (.loop keep59_1 body59_1) (head59_1 but i) (S59 x (flatA (initT i 0))) = run Cv 59 (.loop keep59_1 body59_1) (head59_1 but ((i + 1 : Nat) : Int)) (S59 x (flatA (initT (i + 1) 0))) := by
      rw [run_loop]
      generalize MC.loop keep59_1 body59_1 = L'
      simp (maxSteps := 10000000) [-List.getD_eq_getElem?_getD, -loadA, -storeA, -ixaA, -List.all_eq_true, body59_1, keep59_1, head59_1, keep59_0, S59, hlt, hw, i1, i2, s1, hin, u1, u2, u3]
    rw [key]
    exact loop59_1 x hx but n (i + 1) (by omega)
def head59_2 (but p : Int) : Env := mkE 150 .any [(9, I p), (6, .box 2 0), (4, .box 1 0), (2, .box 0 0), (1, I but)]
theorem tbl_app (d : Tb) (a b : List Organ.Bd) : tbl d (a ++ b) = tbl (tbl d a) b := List.foldl_append
theorem loop59_2 (x : OB) (hx : x.Ok) (hc : Chk0 x) (but : Int) : ∀ (n p : Nat) (m : Tb), p + n = x.N →
    run Cv 59 (.loop keep59_2 body59_2) (head59_2 but p) (S59 x (flatA m)) = some (.ex 4, mkE 150 .any [(37, .bool false), (36, I x.pipes), (35, .box 0 0), (34, I x.pipes), (9, I x.pipes), (6, .box 2 0), (4, .box 1 0), (2, .box 0 0), (1, I but)], S59 x (flatA (tbl m ((List.range' p n).flatMap fun p => [(5, p, 60), (p, 5, 60)]))))
  | 0, p, m, hk => by
    have hp := hc.pipes
    obtain rfl : p = x.N := by omega
    rw [← hp]
    have x0 : x.cells[0]? = some (I x.pipes) := rfl
    rw [run_loop]
    simp (maxSteps := 10000000) [-List.getD_eq_getElem?_getD, -partA, part_none, body59_2, keep59_2, head59_2, S59, x0, tbl]
  | n + 1, p, m, hk => by
    have hpp := hc.pipes
    have h5 := hc.b.five
    have hp6 : p < 6 := by omega
    have hlt : (p : Int) < x.pipes := by omega
    have hw : IntKind.wrap .i64 ((p : Int) + 1) = ((p + 1 : Nat) : Int) := by rw [wrap_small (by omega) (by omega)]; rfl
    have x0 : x.cells[0]? = some (I x.pipes) := rfl
    have l0 : ∀ F, loadA { boxes := [x.cells, Z36, F] } none (.box 0 0) = some (I x.pipes) := fun _ => rfl
    have l1 := lw46 (B := [x.cells, Z36, flatA m]) (b := 2) rfl
    have c1 : call Cv 96 [.agg (flatA m), I 5, I p, I 60] = _ := lower_call m (show 5 < 6 by omega) hp6 60
    have c2 : call Cv 96 [.agg (flatA (lower m (5, p, 60))), I p, I 5, I 60] = _ := lower_call (lower m (5, p, 60)) hp6 (show 5 < 6 by omega) 60
    have p2 := tbA_pur
    have hm : tbl m ((List.range' p (n + 1)).flatMap fun p => [(5, p, 60), (p, 5, 60)]) = tbl (lower (lower m (5, p, 60)) (p, 5, 60)) ((List.range' (p + 1) n).flatMap fun p => [(5, p, 60), (p, 5, 60)]) := by
      rw [List.range'_succ, List.flatMap_cons, tbl_app]
      rfl
    rw [hm]
    generalize lower (lower m (5, p, 60)) (p, 5, 60) = m' at *
    have s1 := sw46 (B := [x.cells, Z36, flatA m]) (m := m') (b := 2) rfl (flatA_len m)
    have u1 := xcells_under x hx
    have u2 := Z36_under
    have u3 := flatA_under
    simp only [List.set_cons_zero, List.set_cons_succ] at s1
    have key : run Cv 59 (.loop keep59_2 body59_2) (head59_2 but p) (S59 x (flatA m)) = run Cv 59 (.loop keep59_2 body59_2) (head59_2 but ((p + 1 : Nat) : Int)) (S59 x (flatA m')) := by
      rw [run_loop]
      generalize MC.loop keep59_2 body59_2 = L'
      simp (maxSteps := 10000000) [-List.getD_eq_getElem?_getD, -loadA, -storeA, -ixaA, -List.all_eq_true, body59_2, keep59_2, head59_2, S59, hlt, hw, l0, l1, c1, c2, p2, s1, u1, u2, u3]
    rw [key]
    exact loop59_2 x hx hc but n (p + 1) m' (by omega)
end Go.Ai

set_option maxRecDepth 100000
namespace Go.Ai
open Go.Organ (T4 F3 Tb upd flat flat_ext lower tbl kept forkB tuneB)
def head59_3 (but k : Int) : Env := mkE 150 .any [(10, I k), (6, .box 2 0), (4, .box 1 0), (2, .box 0 0), (1, I but)]
theorem loop59_3 (x : OB) (hx : x.Ok) (hc : Chk0 x) (but : Int) : ∀ (l : List F3) (k : Nat) (m : Tb), k ≤ x.forks.length → x.forks.drop k = l →
    run Cv 59 (.loop keep59_3 body59_3) (head59_3 but k) (S59 x (flatA m)) = some (.ex 6, mkE 150 .any [(49, .bool false), (48, I x.forks.length), (47, x.fr), (46, .box 0 2), (45, I x.forks.length), (10, I x.forks.length), (6, .box 2 0), (4, .box 1 0), (2, .box 0 0), (1, I but)], S59 x (flatA (tbl m (l.flatMap forkB))))
  | [], k, m, hk, h => by
    obtain rfl := drop_nil hk h
    have hlen := flen hx
    have x2 : x.cells[2]? = some x.fr := rfl
    rw [run_loop]
    simp (maxSteps := 10000000) [-List.getD_eq_getElem?_getD, -partA, part_none, body59_3, keep59_3, head59_3, S59, hlen, x2, tbl]
  | f :: l, k, m, hk, h => by
    obtain ⟨hlt, ha, hd⟩ := head_drop h
    have hw := wrap_succ hlt hx.lf
    have hlt' : (k : Int) < (x.forks.length : Int) := by omega
    have hix : ixsA 3 x.fr (I k) = some (.rp [I f.pipe, I f.read, I f.err] 0) := by
      obtain ⟨c, hc, hr⟩ := hx.frow.sl (by intro hn; simp at hn; rw [hn] at hlt; simp at hlt)
      rw [hr]
      simp [ixsA, hlt, ha, foA, AV.cells]
    have hlen := flen hx
    have hf := hc.b.forks f (ha ▸ List.getElem_mem _)
    have h5 := hc.b.five
    obtain ⟨q, hq⟩ : ∃ q : Nat, f.pipe = q := ⟨f.pipe.toNat, by have := hf.pipe; omega⟩
    have hq6 : q < 6 := by have := hf.pipe; omega
    have hr := hf.read
    have he := hf.err
    have x2 : x.cells[2]? = some x.fr := rfl
    have l0 : ∀ F E, loadA { boxes := x.cells :: Z36 :: F :: E } none (.box 0 2) = some x.fr := fun _ _ => rfl
    have l1 := fun E => lw46 (B := x.cells :: Z36 :: flatA m :: E) (m := m) (b := 2) rfl
    have c1 : call Cv 96 [.agg (flatA m), I 5, I q, I (f.read + f.err)] = _ := lower_call m (show 5 < 6 by omega) hq6 (f.read + f.err)
    have c2 : call Cv 96 [.agg (flatA (lower m (5, q, f.read + f.err))), I q, I 5, I (f.err - f.read)] = _ := lower_call (lower m (5, q, f.read + f.err)) hq6 (show 5 < 6 by omega) (f.err - f.read)
    have w1 : IntKind.wrap .i64 (f.read + f.err) = f.read + f.err := wrap_small (by omega) (by omega)
    have w2 : IntKind.wrap .i64 (f.err - f.read) = f.err - f.read := wrap_small (by omega) (by omega)
    have p2 := tbA_pur
    have hm : tbl m ((f :: l).flatMap forkB) = tbl (lower (lower m (5, q, f.read + f.err)) (q, 5, f.err - f.read)) (l.flatMap forkB) := by
      rw [List.flatMap_cons, tbl_app, forkB, show f.pipe.toNat = q by omega]
      rfl
    rw [hm]
    generalize lower (lower m (5, q, f.read + f.err)) (q, 5, f.err - f.read) = m' at *
    have s1 := fun E => sw46 (B := x.cells :: Z36 :: flatA m :: E) (m := m') (b := 2) rfl (flatA_len m)
    have u1 := xcells_under x hx
    have u2 := Z36_under
    have u3 := flatA_under
    simp only [List.set_cons_zero, List.set_cons_succ] at s1
    have ld2 : ∀ a b c, loadA { boxes := [a, b, c, [I q, I f.read, I f.err]] } none (.box 3 1) = some (I f.read) := fun _ _ _ => rfl
    have ld3 : ∀ a b c, loadA { boxes := [a, b, c, [I q, I f.read, I f.err]] } none (.box 3 2) = some (I f.err) := fun _ _ _ => rfl
    have ld4 : ∀ σ, loadA σ (some 3) (.rp [I q, I f.read, I f.err] 0) = some (.agg [I q, I f.read, I f.err]) := fun _ => rfl
    have ld5 : ∀ a b c, loadA { boxes := [a, b, c, [I q, I f.read, I f.err]] } none (.box 3 0) = some (I q) := fun _ _ _ => rfl
    have st3 : ∀ a b c, storeA { boxes := [a, b, c, [I 0, I 0, I 0]] } 3 (.box 3 0) (.agg [I q, I f.read, I f.err]) = some { boxes := [a, b, c, [I q, I f.read, I f.err]] } := fun _ _ _ => rfl
    rw [hq] at hix
    have key : run Cv 59 (.loop keep59_3 body59_3) (head59_3 but k) (S59 x (flatA m)) = run Cv 59 (.loop keep59_3 body59_3) (head59_3 but (k + 1)) (S59 x (flatA m')) := by
      rw [run_loop]
      generalize MC.loop keep59_3 body59_3 = L'
      simp (maxSteps := 10000000) [-List.getD_eq_getElem?_getD, -loadA, -storeA, -ixaA, -ixsA, -List.all_eq_true, body59_3, keep59_3, head59_3, S59, hlen, hlt', hw, hix, l0, l1, w1, w2, c1, c2, p2, s1, ld2, ld3, ld4, ld5, st3, u1, u2, u3]
    rw [key]
    exact loop59_3 x hx hc but l (k + 1) m' hlt hd
def head59_4 (but k : Int) : Env := mkE 150 .any [(12, I k), (6, .box 2 0), (4, .box 1 0), (2, .box 0 0), (1, I but)]
theorem loop59_4 (x : OB) (hx : x.Ok) (hc : Chk0 x) (but : Nat) (hbut : but < 2 ^ 62) : ∀ (l : List T4) (k : Nat) (m : Tb), k ≤ x.tunes.length → x.tunes.drop k = l →
    run Cv 59 (.loop keep59_4 body59_4) (head59_4 but k) (S59 x (flatA m)) = some (.ex 8, mkE 150 .any [(78, .bool false), (77, I x.tunes.length), (76, x.tr), (75, .box 0 1), (74, I x.tunes.length), (12, I x.tunes.length), (6, .box 2 0), (4, .box 1 0), (2, .box 0 0), (1, I but)], S59 x (flatA (tbl m ((kept (fun i => Least.hasB but i) l k).flatMap tuneB))))
  | [], k, m, hk, h => by
    obtain rfl := drop_nil hk h
    have hlen := tlen hx
    have x2 : x.cells[1]? = some x.tr := rfl
    rw [run_loop]
    simp (maxSteps := 10000000) [-List.getD_eq_getElem?_getD, -partA, part_none, body59_4, keep59_4, head59_4, S59, hlen, x2, tbl, kept]
  | t :: l, k, m, hk, h => by
    obtain ⟨hlt, ha, hd⟩ := head_drop h
    have hw := wrap_succ hlt hx.lt
    have hlt' : (k : Int) < (x.tunes.length : Int) := by omega
    have hix : ixsA 4 x.tr (I k) = some (.rp [I t.src, I t.dst, I t.off, I t.err] 0) := by
      obtain ⟨c, hc, hr⟩ := hx.trow.sl (by intro hn; simp at hn; rw [hn] at hlt; simp at hlt)
      rw [hr]
      simp [ixsA, hlt, ha, tuA, AV.cells]
    have hlen := tlen hx
    have hf := hc.b.tunes t (ha ▸ List.getElem_mem _)
    have h5 := hc.b.five
    obtain ⟨p, hp⟩ : ∃ q : Nat, t.src = q := ⟨t.src.toNat, by have := hf.src; omega⟩
    have hp6 : p < 6 := by have := hf.src; omega
    obtain ⟨q, hq⟩ : ∃ q : Nat, t.dst = q := ⟨t.dst.toNat, by have := hf.dst; omega⟩
    have hq6 : q < 6 := by have := hf.dst; omega
    have hr := hf.off
    have he := hf.err
    have l0 : ∀ F E, loadA { boxes := x.cells :: Z36 :: F :: E } none (.box 0 1) = some x.tr := fun _ _ => rfl
    have l1 := fun E => lw46 (B := x.cells :: Z36 :: flatA m :: E) (m := m) (b := 2) rfl
    have hhas := has_call but hbut k
    have w1 : IntKind.wrap .i64 (t.off + t.err) = t.off + t.err := wrap_small (by omega) (by omega)
    have w2 : IntKind.wrap .i64 (t.err - t.off) = t.err - t.off := wrap_small (by omega) (by omega)
    have p2 := tbA_pur
    have u1 := xcells_under x hx
    have u2 := Z36_under
    have u3 := flatA_under
    rw [hp, hq] at hix
    have ld1 : ∀ a b c, loadA { boxes := [a, b, c, [I p, I q, I t.off, I t.err]] } none (.box 3 0) = some (I p) := fun _ _ _ => rfl
    have ld2 : ∀ a b c, loadA { boxes := [a, b, c, [I p, I q, I t.off, I t.err]] } none (.box 3 1) = some (I q) := fun _ _ _ => rfl
    have ld3 : ∀ a b c, loadA { boxes := [a, b, c, [I p, I q, I t.off, I t.err]] } none (.box 3 2) = some (I t.off) := fun _ _ _ => rfl
    have ld5 : ∀ a b c, loadA { boxes := [a, b, c, [I p, I q, I t.off, I t.err]] } none (.box 3 3) = some (I t.err) := fun _ _ _ => rfl
    have ld4 : ∀ σ, loadA σ (some 4) (.rp [I p, I q, I t.off, I t.err] 0) = some (.agg [I p, I q, I t.off, I t.err]) := fun _ => rfl
    have st3 : ∀ a b c, storeA { boxes := [a, b, c, [I 0, I 0, I 0, I 0]] } 4 (.box 3 0) (.agg [I p, I q, I t.off, I t.err]) = some { boxes := [a, b, c, [I p, I q, I t.off, I t.err]] } := fun _ _ _ => rfl
    cases hb : Least.hasB but k with
    | true =>
      rw [hb] at hhas
      have hm : tbl m ((kept (fun i => Least.hasB but i) (t :: l) k).flatMap tuneB) = tbl m ((kept (fun i => Least.hasB but i) l (k + 1)).flatMap tuneB) := by
        rw [kept, if_pos hb, List.nil_append]
      rw [hm]
      have key : run Cv 59 (.loop keep59_4 body59_4) (head59_4 but k) (S59 x (flatA m)) = run Cv 59 (.loop keep59_4 body59_4) (head59_4 but (k + 1)) (S59 x (flatA m)) := by
        rw [run_loop]
        generalize MC.loop keep59_4 body59_4 = L'
        simp (maxSteps := 10000000) [-List.getD_eq_getElem?_getD, -loadA, -storeA, -ixaA, -ixsA, -List.all_eq_true, body59_4, keep59_4, head59_4, S59, hlen, hlt', hw, hix, hhas, l0, l1, w1, w2, p2, ld1, ld2, ld3, ld4, ld5, st3, u1, u2, u3]
      rw [key]
      exact loop59_4 x hx hc but hbut l (k + 1) m hlt hd
    | false =>
      rw [hb] at hhas
      have c1 : call Cv 96 [.agg (flatA m), I p, I q, I (t.off + t.err)] = _ := lower_call m hp6 hq6 (t.off + t.err)
      have c2 : call Cv 96 [.agg (flatA (lower m (p, q, t.off + t.err))), I q, I p, I (t.err - t.off)] = _ := lower_call (lower m (p, q, t.off + t.err)) hq6 hp6 (t.err - t.off)
      have hm : tbl m ((kept (fun i => Least.hasB but i) (t :: l) k).flatMap tuneB) = tbl (lower (lower m (p, q, t.off + t.err)) (q, p, t.err - t.off)) ((kept (fun i => Least.hasB but i) l (k + 1)).flatMap tuneB) := by
        rw [kept, if_neg (by rw [hb]; decide), List.cons_append, List.nil_append, List.flatMap_cons, tbl_app, tuneB, show t.src.toNat = p by omega, show t.dst.toNat = q by omega]
        rfl
      rw [hm]
      generalize lower (lower m (p, q, t.off + t.err)) (q, p, t.err - t.off) = m' at *
      have s1 := fun E => sw46 (B := x.cells :: Z36 :: flatA m :: E) (m := m') (b := 2) rfl (flatA_len m)
      simp only [List.set_cons_zero, List.set_cons_succ] at s1
      have key : run Cv 59 (.loop keep59_4 body59_4) (head59_4 but k) (S59 x (flatA m)) = run Cv 59 (.loop keep59_4 body59_4) (head59_4 but (k + 1)) (S59 x (flatA m')) := by
        rw [run_loop]
        generalize MC.loop keep59_4 body59_4 = L'
        simp (maxSteps := 10000000) [-List.getD_eq_getElem?_getD, -loadA, -storeA, -ixaA, -ixsA, -List.all_eq_true, body59_4, keep59_4, head59_4, S59, hlen, hlt', hw, hix, hhas, l0, l1, w1, w2, c1, c2, p2, s1, ld1, ld2, ld3, ld4, ld5, st3, u1, u2, u3]
      rw [key]
      exact loop59_4 x hx hc but hbut l (k + 1) m' hlt hd
end Go.Ai

set_option maxRecDepth 100000
namespace Go.Ai
open Go.Organ (T4 F3 Tb upd flat flat_ext lower tbl kept forkB tuneB rowF phF clF Hi Lo Low rowF_low phF_low ph_lo)
def head59_5 (t i k : Int) : Env := mkE 150 .any [(16, I k), (15, I i), (14, I t), (6, .box 2 0), (4, .box 1 0)]
theorem loop59_5 (x : OB) (hx : x.Ok) (t i : Nat) (ht : t < 6) (hi : i < 6) (M : Int) (hM : M ≤ 0) (hM' : -1000000000000 ≤ M) : ∀ (n k : Nat) (m : Tb), k + n = 6 → Low t M m (6 * i + k) → Hi m →
    run Cv 59 (.loop keep59_5 body59_5) (head59_5 t i k) (S59 x (flatA m)) = some (.ex 14, mkE 150 .any [(120, .bool false), (119, I 6), (16, I 6), (15, I i), (14, I t), (6, .box 2 0), (4, .box 1 0)], S59 x (flatA (rowF t i n k m)))
  | 0, k, m, hk, h, hh => by
    obtain rfl : k = 6 := by omega
    have e6 : ((6 : Nat) : Int) = 6 := rfl
    rw [run_loop]
    simp (maxSteps := 10000000) [-List.getD_eq_getElem?_getD, body59_5, keep59_5, head59_5, e6, rowF]
  | n + 1, k, m, hk, h, hh => by
    have hk6 : k < 6 := by omega
    have hlt : (k : Int) < 6 := by omega
    have hw : IntKind.wrap .i64 ((k : Int) + 1) = ((k + 1 : Nat) : Int) := by rw [wrap_small (by omega) (by omega)]; rfl
    obtain ⟨b1, b2, b3⟩ := h.sum hM ht hi hk6
    have c2 := hh i t hi ht
    have c3 := hh t k ht hk6
    have hws : IntKind.wrap .i64 (m i t + m t k) = m i t + m t k := wrap_small (by omega) (by omega)
    have i1 := fun b => ixa0 (b := b) hi
    have i2 := fun b => ixa0 (b := b) ht
    have j1 := fun b j => ixb0 (b := b) (i := j) hk6
    have j2 := fun b j => ixb0 (b := b) (i := j) ht
    have l2 := ld46 (B := [x.cells, Z36, flatA m]) (b := 2) rfl hi ht
    have l3 := ld46 (B := [x.cells, Z36, flatA m]) (b := 2) rfl ht hk6
    have l1 := lw46 (B := [x.cells, Z36, flatA m]) (b := 2) rfl
    have c1 := lower_call m hi hk6 (m i t + m t k)
    rw [Organ.upd_lower, ← Organ.upd_cell] at c1
    have p2 := tbA_pur
    have u1 := xcells_under x hx
    have u2 := Z36_under
    have u3 := flatA_under
    have hm : rowF t i (n + 1) k m = rowF t i n (k + 1) (Organ.cell t m (i, k)) := rfl
    have hn := h.next ht hi hk6 hM
    have hhn := hh.cell t (i, k)
    rw [hm]
    have s1 := sw46 (B := [x.cells, Z36, flatA m]) (m := Organ.cell t m (i, k)) (b := 2) rfl (flatA_len m)
    simp only [List.set_cons_zero, List.set_cons_succ] at s1
    have key : run Cv 59 (.loop keep59_5 body59_5) (head59_5 t i k) (S59 x (flatA m)) = run Cv 59 (.loop keep59_5 body59_5) (head59_5 t i ((k + 1 : Nat) : Int)) (S59 x (flatA (Organ.cell t m (i, k)))) := by
      generalize Organ.cell t m (i, k) = m' at *
      rw [run_loop]
      generalize MC.loop keep59_5 body59_5 = L'
      simp (maxSteps := 10000000) [-List.getD_eq_getElem?_getD, -loadA, -storeA, -ixaA, -List.all_eq_true, body59_5, keep59_5, head59_5, S59, hlt, hw, hws, i1, i2, j1, j2, l1, l2, l3, c1, p2, s1, u1, u2, u3]
    rw [key]
    exact loop59_5 x hx t i ht hi M hM hM' n (k + 1) _ (by omega) hn hhn
def head59_6 (t i : Int) : Env := mkE 150 .any [(15, I i), (14, I t), (6, .box 2 0), (4, .box 1 0)]
theorem loop59_6 (x : OB) (hx : x.Ok) (t : Nat) (ht : t < 6) (M : Int) (hM : M ≤ 0) (hM' : -1000000000000 ≤ M) : ∀ (n i : Nat) (m : Tb), i + n = 6 → Low t M m (6 * i) → Hi m →
    run Cv 59 (.loop keep59_6 body59_6) (head59_6 t i) (S59 x (flatA m)) = some (.ex 12, mkE 150 .any [(116, .bool false), (115, I 6), (15, I 6), (14, I t), (6, .box 2 0), (4, .box 1 0)], S59 x (flatA (phF t n i m)))
  | 0, k, m, hk, h, hh => by
    obtain rfl : k = 6 := by omega
    have e6 : ((6 : Nat) : Int) = 6 := rfl
    rw [run_loop]
    simp (maxSteps := 10000000) [-List.getD_eq_getElem?_getD, body59_6, keep59_6, head59_6, e6, phF]
  | n + 1, i, m, hk, h, hh => by
    have hi : i < 6 := by omega
    have hlt : (i : Int) < 6 := by omega
    have hw : IntKind.wrap .i64 ((i : Int) + 1) = ((i + 1 : Nat) : Int) := by rw [wrap_small (by omega) (by omega)]; rfl
    have hin := fun E (hE : mask keep59_5 E = _) => run_at (loop59_5 x hx t i ht hi M hM hM' 6 0 m (by omega) h hh) hE
    have e5 : ((0 : Nat) : Int) = 0 := rfl
    simp only [keep59_5, head59_5, e5, S59] at hin
    have u1 := xcells_under x hx
    have u2 := Z36_under
    have u3 := flatA_under
    have key : run Cv 59 (.loop keep59_6 body59_6) (head59_6 t i) (S59 x (flatA m)) = run Cv 59 (.loop keep59_6 body59_6) (head59_6 t ((i + 1 : Nat) : Int)) (S59 x (flatA (rowF t i 6 0 m))) := by
      rw [run_loop]
      generalize MC.loop keep59_6 body59_6 = L'
      simp (maxSteps := 10000000) [-List.getD_eq_getElem?_getD, -loadA, -storeA, -ixaA, -List.all_eq_true, body59_6, keep59_6, head59_6, keep59_5, S59, hlt, hw, hin, u1, u2, u3]
    rw [key]
    obtain ⟨g1, g2⟩ := rowF_low ht hi hM 6 0 m (by omega) h hh
    exact loop59_6 x hx t ht M hM hM' n (i + 1) _ (by omega) g1 g2
def head59_7 (t : Int) : Env := mkE 150 .any [(14, I t), (6, .box 2 0), (4, .box 1 0)]
theorem loop59_7 (x : OB) (hx : x.Ok) : ∀ (n t : Nat) (M : Int) (m : Tb), M ≤ 0 → -1000000000000 ≤ M * 6 ^ n → t + n = 6 → Lo M m → Hi m →
    run Cv 59 (.loop keep59_7 body59_7) (head59_7 t) (S59 x (flatA m)) = some (.ex 10, mkE 150 .any [(112, .bool false), (111, I 6), (14, I 6), (6, .box 2 0), (4, .box 1 0)], S59 x (flatA (clF n t m)))
  | 0, k, M, m, hM, hM', hk, h, hh => by
    obtain rfl : k = 6 := by omega
    have e6 : ((6 : Nat) : Int) = 6 := rfl
    rw [run_loop]
    simp (maxSteps := 10000000) [-List.getD_eq_getElem?_getD, body59_7, keep59_7, head59_7, e6, clF]
  | n + 1, t, M, m, hM, hM', hk, h, hh => by
    have ht : t < 6 := by omega
    have hlt : (t : Int) < 6 := by omega
    have hw : IntKind.wrap .i64 ((t : Int) + 1) = ((t + 1 : Nat) : Int) := by rw [wrap_small (by omega) (by omega)]; rfl
    have hM6 : M * 6 * 6 ^ n = M * 6 ^ (n + 1) := by rw [Int.pow_succ, Int.mul_assoc, Int.mul_comm 6]
    have hp : (1 : Int) ≤ 6 ^ n := by
      have := Int.pow_pos (m := n) (show (0 : Int) < 6 by omega)
      omega
    have hM1 : -1000000000000 ≤ M := by
      have h1 : M * 6 * 6 ^ n ≤ M * 6 * 1 := Int.mul_le_mul_of_nonpos_left (by omega) hp
      omega
    have hin := fun E (hE : mask keep59_6 E = _) => run_at (loop59_6 x hx t ht M hM hM1 6 0 m (by omega) (.start t hM h) hh) hE
    have e5 : ((0 : Nat) : Int) = 0 := rfl
    simp only [keep59_6, head59_6, e5, S59] at hin
    have u1 := xcells_under x hx
    have u2 := Z36_under
    have u3 := flatA_under
    have key : run Cv 59 (.loop keep59_7 body59_7) (head59_7 t) (S59 x (flatA m)) = run Cv 59 (.loop keep59_7 body59_7) (head59_7 ((t + 1 : Nat) : Int)) (S59 x (flatA (phF t 6 0 m))) := by
      rw [run_loop]
      generalize MC.loop keep59_7 body59_7 = L'
      simp (maxSteps := 10000000) [-List.getD_eq_getElem?_getD, -loadA, -storeA, -ixaA, -List.all_eq_true, body59_7, keep59_7, head59_7, keep59_6, S59, hlt, hw, hin, u1, u2, u3]
    rw [key]
    obtain ⟨g1, g2⟩ := ph_lo ht hM h hh
    refine loop59_7 x hx n (t + 1) (6 * M) _ (by omega) ?_ (by omega) g1 g2
    rw [Int.mul_comm 6 M, hM6]; exact hM'
def head59_8 (p : Int) : Env := mkE 150 .any [(17, I p), (6, .box 2 0), (4, .box 1 0)]
def from0 (m : Tb) : Nat → Nat → Bool
  | 0, _ => true
  | n + 1, p => decide (0 ≤ m p p) && from0 m n (p + 1)
theorem loop59_8 (x : OB) (hx : x.Ok) (m : Tb) : ∀ (n p : Nat), p + n = 6 →
    match from0 m n p with
    | true => run Cv 59 (.loop keep59_8 body59_8) (head59_8 p) (S59 x (flatA m)) = some (.ex 16, mkE 150 .any [(139, .bool false), (138, I 6), (17, I 6), (6, .box 2 0), (4, .box 1 0)], S59 x (flatA m))
    | false => ∃ L, run Cv 59 (.loop keep59_8 body59_8) (head59_8 p) (S59 x (flatA m)) = some (.rt, mkE 150 .any L, { boxes := [x.cells, flatA m, flatA m] }) ∧ gt (mkE 150 .any L) 5 = .bool false ∧ gt (mkE 150 .any L) 4 = .box 1 0
  | 0, k, hk => by
    obtain rfl : k = 6 := by omega
    have e6 : ((6 : Nat) : Int) = 6 := rfl
    dsimp only [from0]
    rw [run_loop]
    simp (maxSteps := 10000000) [-List.getD_eq_getElem?_getD, body59_8, keep59_8, head59_8, e6]
  | n + 1, p, hk => by
    have hp : p < 6 := by omega
    have hlt : (p : Int) < 6 := by omega
    have hw : IntKind.wrap .i64 ((p : Int) + 1) = ((p + 1 : Nat) : Int) := by rw [wrap_small (by omega) (by omega)]; rfl
    have i1 := fun b => ixa0 (b := b) hp
    have i2 := fun b => ixb0 (b := b) (i := p) hp
    have l1 := ld46 (B := [x.cells, Z36, flatA m]) (b := 2) rfl hp hp
    have l2 := lw46 (B := [x.cells, Z36, flatA m]) (b := 2) rfl
    have s1 := sw46 (B := [x.cells, Z36, flatA m]) (m := m) (b := 1) rfl rfl
    have u1 := xcells_under x hx
    have u2 := Z36_under
    have u3 := flatA_under
    simp only [List.set_cons_zero, List.set_cons_succ] at s1
    unfold from0
    by_cases h : m p p < 0
    · have : decide (0 ≤ m p p) = false := by simpa using h
      rw [this, Bool.false_and]
      dsimp only
      rw [run_loop]
      simp (maxSteps := 10000000) [-List.getD_eq_getElem?_getD, -loadA, -storeA, -ixaA, -List.all_eq_true, body59_8, keep59_8, head59_8, S59, hlt, hw, i1, i2, l1, l2, s1, h, u1, u2, u3]
      exact ⟨_, rfl, by simp (maxSteps := 10000000) [-List.getD_eq_getElem?_getD, ], by simp (maxSteps := 10000000) [-List.getD_eq_getElem?_getD, ]⟩
    · have : decide (0 ≤ m p p) = true := by simp; omega
      rw [this, Bool.true_and]
      have key : run Cv 59 (.loop keep59_8 body59_8) (head59_8 p) (S59 x (flatA m)) = run Cv 59 (.loop keep59_8 body59_8) (head59_8 ((p + 1 : Nat) : Int)) (S59 x (flatA m)) := by
        rw [run_loop]
        generalize MC.loop keep59_8 body59_8 = L'
        simp (maxSteps := 10000000) [-List.getD_eq_getElem?_getD, -loadA, -storeA, -ixaA, -List.all_eq_true, body59_8, keep59_8, head59_8, S59, hlt, hw, i1, i2, l1, h, u1, u2, u3]
      rw [key]
      exact loop59_8 x hx m n (p + 1) (by omega)
end Go.Ai
