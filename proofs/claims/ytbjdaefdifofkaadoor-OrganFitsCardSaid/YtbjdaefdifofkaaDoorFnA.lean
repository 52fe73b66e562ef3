/- This text shows what Check and the map answer. No conditions of its own. -/
import Derived.Test.YtbjdaefdifofkaaDoorHelp
import Derived.Test.YtbjdaefdifofkaaDoorVoxC
import Derived.Test.YtbjdaefdifofkaaDoorPlain
set_option linter.unusedSimpArgs false
set_option linter.unusedVariables false
set_option maxRecDepth 100000
namespace Go.Ai
open Go.Organ (T4 F3)
theorem run_at {C : Cfg} {f : FuncId} {k : Option (List Tmp)} {b : MC} {E e : Env} {σ : St} {r : Option Out} (h : run C f (.loop k b) e σ = r) (hE : mask k E = e) : run C f (.loop k b) E σ = r := by
  rw [run_loop_mask, hE]; exact h
structure OB where
  pipes : Int
  tunes : List T4
  forks : List F3
  voice : Vc.Book
  tr : AV
  fr : AV
def tuA (t : T4) : AV := .agg [I t.src, I t.dst, I t.off, I t.err]
def foA (f : F3) : AV := .agg [I f.pipe, I f.read, I f.err]
def OB.br (x : OB) : AV := x.voice.boysV
def OB.vr (x : OB) : AV := x.voice.trialsV
def OB.cells (x : OB) : List AV := [I x.pipes, x.tr, x.fr, x.br, I x.voice.weeks, x.vr]
def OB.av (x : OB) : AV := .agg x.cells
structure OB.Ok (x : OB) : Prop where
  trow : IsRow 4 (x.tunes.map tuA) x.tr
  frow : IsRow 3 (x.forks.map foA) x.fr
  lt : x.tunes.length < 2 ^ 47
  lf : x.forks.length < 2 ^ 47
  voice : x.voice.Ok
theorem voice_av (x : OB) : x.voice.av = .agg [x.br, I x.voice.weeks, x.vr] := rfl
theorem br_cell (x : OB) : x.br.isCell = true := rowV_cell _ _ _
theorem br_pur (x : OB) (σ : St) (n : Nat) : pur σ (n + 1) x.br = some (x.br, false) := rowV_pur _ _ _ _ _
theorem br_under (x : OB) (a b c d n : Nat) : under a b c d (n + 1) x.br = true := rowV_under _ _ _ _ _ _ _ _
theorem vr_cell (x : OB) : x.vr.isCell = true := rowV_cell _ _ _
theorem vr_pur (x : OB) (σ : St) (n : Nat) : pur σ (n + 1) x.vr = some (x.vr, false) := rowV_pur _ _ _ _ _
theorem vr_under (x : OB) (a b c d n : Nat) : under a b c d (n + 1) x.vr = true := rowV_under _ _ _ _ _ _ _ _
theorem tlen {x : OB} (hx : x.Ok) : lenA x.tr = some (I x.tunes.length) := by rw [hx.trow.len]; simp
theorem flen {x : OB} (hx : x.Ok) : lenA x.fr = some (I x.forks.length) := by rw [hx.frow.len]; simp
def lie (n low high : Int) : Bool := decide (low ≤ n) && decide (n ≤ high)
theorem within_call (n low high : Int) : call Cv 60 [I n, I low, I high] = some (.bool (lie n low high)) := by
  rw [call_run comp60 (Nat.le_of_ble_eq_true rfl)]
  simp +contextual (maxSteps := 10000000) [-List.getD_eq_getElem?_getD, code60, lie]
theorem lies' (n low high : Int) : call Cv 43 [I n, I low, I high] = some (.bool (lie n low high)) := lies_call n low high
def isPipe (x : OB) (n : Int) : Bool := lie n 0 (IntKind.wrap .i64 (x.pipes - 1))
theorem isPipe_call (x : OB) (hx : x.Ok) (n : Int) : call Cv 68 [x.av, I n] = some (.bool (isPipe x n)) := by
  have h := within_call n 0 (IntKind.wrap .i64 (x.pipes - 1))
  have p1 := hx.trow.cell
  have p2 := hx.frow.cell
  have p3 := br_cell x
  have p4 := vr_cell x
  rw [call_run comp68 (Nat.le_of_ble_eq_true rfl)]
  simp (maxSteps := 10000000) [-List.getD_eq_getElem?_getD, code68, OB.av, OB.cells, h, isPipe, p1, p2, p3, p4]
def tuneOk (x : OB) (t : T4) : Bool := isPipe x t.src && (isPipe x t.dst && (t.src != t.dst && (lie t.off (-30) 30 && lie t.err 0 5)))
theorem isTune_call (x : OB) (hx : x.Ok) (t : T4) : call Cv 62 [x.av, tuA t] = some (.bool (tuneOk x t)) := by
  have h1 := isPipe_call x hx t.src
  have h2 := isPipe_call x hx t.dst
  have h3 := within_call t.off (-30) 30
  have h4 := within_call t.err 0 5
  have p1 := hx.trow.cell
  have p2 := hx.frow.cell
  have p3 := br_cell x
  have p4 := vr_cell x
  have q1 := hx.trow.pur
  have q2 := hx.frow.pur
  have q3 := br_pur x
  have q4 := vr_pur x
  unfold tuneOk
  simp only [OB.av, OB.cells] at h1 h2
  generalize isPipe x t.src = b1 at *
  generalize isPipe x t.dst = b2 at *
  generalize lie t.off (-30) 30 = b4 at *
  generalize lie t.err 0 5 = b5 at *
  generalize hb3 : (t.src != t.dst) = b3 at *
  rw [call_run comp62 (Nat.le_of_ble_eq_true rfl)]
  cases b1 <;> cases b2 <;> cases b3 <;> cases b4 <;> simp (maxSteps := 10000000) [-List.getD_eq_getElem?_getD, code62, OB.av, OB.cells, tuA, h1, h2, h3, h4, hb3, p1, p2, p3, p4, q1, q2, q3, q4]
def forkOk (x : OB) (f : F3) : Bool := isPipe x f.pipe && (lie f.read (-60) 60 && lie f.err 0 5)
theorem isFork_call (x : OB) (hx : x.Ok) (f : F3) : call Cv 63 [x.av, foA f] = some (.bool (forkOk x f)) := by
  have h1 := isPipe_call x hx f.pipe
  have h3 := within_call f.read (-60) 60
  have h4 := within_call f.err 0 5
  have p1 := hx.trow.cell
  have p2 := hx.frow.cell
  have p3 := br_cell x
  have p4 := vr_cell x
  have q1 := hx.trow.pur
  have q2 := hx.frow.pur
  have q3 := br_pur x
  have q4 := vr_pur x
  unfold forkOk
  simp only [OB.av, OB.cells] at h1
  generalize isPipe x f.pipe = b1 at *
  generalize lie f.read (-60) 60 = b4 at *
  generalize lie f.err 0 5 = b5 at *
  rw [call_run comp63 (Nat.le_of_ble_eq_true rfl)]
  cases b1 <;> cases b4 <;> simp (maxSteps := 10000000) [-List.getD_eq_getElem?_getD, code63, OB.av, OB.cells, foA, h1, h3, h4, p1, p2, p3, p4, q1, q2, q3, q4]
end Go.Ai

set_option maxRecDepth 100000
namespace Go.Ai
open Go.Organ (T4 F3)
def stO (x : OB) : St := { boxes := [x.cells] }
def headT17 (x : OB) (ok : Bool) (k : Int) : Env := mkE 59 .any [(32, I k), (31, I x.tunes.length), (30, x.tr), (3, .bool ok), (1, .box 0 0)]
theorem loopT17 (x : OB) (hx : x.Ok) : ∀ (l : List T4) (k : Nat) (ok : Bool), k ≤ x.tunes.length → x.tunes.drop k = l →
    ∃ L, run Cv 17 (.loop keep17_0 body17_0) (headT17 x ok k) (stO x) = some (.ex 0, mkE 59 .any L, stO x) ∧ gt (mkE 59 .any L) 3 = .bool (ok && l.all (tuneOk x)) ∧ gt (mkE 59 .any L) 1 = .box 0 0
  | [], k, ok, hk, h => by
    obtain rfl := drop_nil hk h
    rw [run_loop]
    simp (maxSteps := 10000000) [-List.getD_eq_getElem?_getD, body17_0, keep17_0, headT17, stO]
    exact ⟨_, rfl, by simp (maxSteps := 10000000) [-List.getD_eq_getElem?_getD, ], by simp (maxSteps := 10000000) [-List.getD_eq_getElem?_getD, ]⟩
  | t :: l, k, ok, hk, h => by
    obtain ⟨hlt, ha, hd⟩ := head_drop h
    have hw := wrap_succ hlt hx.lt
    have hlt' : (k : Int) < (x.tunes.length : Int) := by omega
    have hix : ixsA 4 x.tr (I k) = some (.rp [I t.src, I t.dst, I t.off, I t.err] 0) := by
      obtain ⟨c, hc, hr⟩ := hx.trow.sl (by intro hn; simp at hn; rw [hn] at hlt; simp at hlt)
      rw [hr]
      simp [ixsA, hlt, ha, tuA, AV.cells]
    have hcall := isTune_call x hx t
    have u1 := hx.trow.under
    have u2 := hx.frow.under
    have u3 := br_under x
    have u4 := vr_under x
    have q1 := hx.trow.pur
    have q2 := hx.frow.pur
    have q3 := br_pur x
    have q4 := vr_pur x
    have hs4 : ∀ a b c d : AV, setAt [I 0, I 0, I 0, I 0] 0 [a, b, c, d] = [a, b, c, d] := fun _ _ _ _ => rfl
    have key : run Cv 17 (.loop keep17_0 body17_0) (headT17 x ok k) (stO x) = run Cv 17 (.loop keep17_0 body17_0) (headT17 x (ok && tuneOk x t) (k + 1)) (stO x) := by
      simp only [OB.av, OB.cells, tuA] at hcall
      rw [run_loop]
      generalize MC.loop keep17_0 body17_0 = L
      cases ok <;> simp (maxSteps := 10000000) [-List.getD_eq_getElem?_getD, -ixsA, -setAt, -List.all_eq_true, body17_0, keep17_0, headT17, stO, OB.cells, hlt', hw, hix, hs4, hcall, u1, u2, u3, u4, q1, q2, q3, q4]
    rw [key]
    have := loopT17 x hx l (k + 1) (ok && tuneOk x t) hlt hd
    rw [List.all_cons, ← Bool.and_assoc]
    exact this
def headF17 (x : OB) (ok : Bool) (k : Int) : Env := mkE 59 .any [(46, I k), (45, I x.forks.length), (44, x.fr), (3, .bool ok), (1, .box 0 0)]
theorem loopF17 (x : OB) (hx : x.Ok) : ∀ (l : List F3) (k : Nat) (ok : Bool), k ≤ x.forks.length → x.forks.drop k = l →
    ∃ L, run Cv 17 (.loop keep17_1 body17_1) (headF17 x ok k) (stO x) = some (.ex 2, mkE 59 .any L, stO x) ∧ gt (mkE 59 .any L) 3 = .bool (ok && l.all (forkOk x))
  | [], k, ok, hk, h => by
    obtain rfl := drop_nil hk h
    rw [run_loop]
    simp (maxSteps := 10000000) [-List.getD_eq_getElem?_getD, body17_1, keep17_1, headF17, stO]
    exact ⟨_, rfl, by simp (maxSteps := 10000000) [-List.getD_eq_getElem?_getD, ]⟩
  | f :: l, k, ok, hk, h => by
    obtain ⟨hlt, ha, hd⟩ := head_drop h
    have hw := wrap_succ hlt hx.lf
    have hlt' : (k : Int) < (x.forks.length : Int) := by omega
    have hix : ixsA 3 x.fr (I k) = some (.rp [I f.pipe, I f.read, I f.err] 0) := by
      obtain ⟨c, hc, hr⟩ := hx.frow.sl (by intro hn; simp at hn; rw [hn] at hlt; simp at hlt)
      rw [hr]
      simp [ixsA, hlt, ha, foA, AV.cells]
    have hcall := isFork_call x hx f
    have u1 := hx.trow.under
    have u2 := hx.frow.under
    have u3 := br_under x
    have u4 := vr_under x
    have q1 := hx.trow.pur
    have q2 := hx.frow.pur
    have q3 := br_pur x
    have q4 := vr_pur x
    have hs3 : ∀ a b c : AV, setAt [I 0, I 0, I 0] 0 [a, b, c] = [a, b, c] := fun _ _ _ => rfl
    have key : run Cv 17 (.loop keep17_1 body17_1) (headF17 x ok k) (stO x) = run Cv 17 (.loop keep17_1 body17_1) (headF17 x (ok && forkOk x f) (k + 1)) (stO x) := by
      simp only [OB.av, OB.cells, foA] at hcall
      rw [run_loop]
      generalize MC.loop keep17_1 body17_1 = L
      cases ok <;> simp (maxSteps := 10000000) [-List.getD_eq_getElem?_getD, -ixsA, -setAt, -List.all_eq_true, body17_1, keep17_1, headF17, stO, OB.cells, hlt', hw, hix, hs3, hcall, u1, u2, u3, u4, q1, q2, q3, q4]
    rw [key]
    have := loopF17 x hx l (k + 1) (ok && forkOk x f) hlt hd
    rw [List.all_cons, ← Bool.and_assoc]
    exact this
def checkOk (x : OB) : Bool := (lie x.pipes 1 5 && (decide ((x.tunes.length : Int) ≤ 6) && (decide ((x.forks.length : Int) ≤ 3) && Vc.checkOk x.voice))) && x.tunes.all (tuneOk x) && x.forks.all (forkOk x)
theorem check_call (x : OB) (hx : x.Ok) : call Cv 17 [x.av] = some (I (if checkOk x then 0 else 80)) := by
  have h1 := tlen hx
  have h2 := flen hx
  have w1 := within_call x.pipes 1 5
  have w2 := Vc.check_call x.voice hx.voice
  rw [voice_av] at w2
  have p1 := hx.trow.cell
  have p2 := hx.frow.cell
  have p3 := br_cell x
  have p4 := vr_cell x
  have q1 := hx.trow.pur
  have q2 := hx.frow.pur
  have q3 := br_pur x
  have q4 := vr_pur x
  have e5 : ((0 : Nat) : Int) = 0 := rfl
  have key : ∀ ok : Bool, ok = (lie x.pipes 1 5 && (decide ((x.tunes.length : Int) ≤ 6) && (decide ((x.forks.length : Int) ≤ 3) && Vc.checkOk x.voice))) → call Cv 17 [x.av] = some (I (if (ok && x.tunes.all (tuneOk x)) && x.forks.all (forkOk x) then 0 else 80)) := by
    intro ok hok
    obtain ⟨Lt, lt, lt3, lt1⟩ := loopT17 x hx x.tunes 0 ok (Nat.zero_le _) rfl
    obtain ⟨Lf, lf, lf3⟩ := loopF17 x hx x.forks 0 (ok && x.tunes.all (tuneOk x)) (Nat.zero_le _) rfl
    generalize (ok && x.tunes.all (tuneOk x)) = ok2 at *
    have lt' := fun E (hE : mask keep17_0 E = _) => run_at lt hE
    have lf' := fun E (hE : mask keep17_1 E = _) => run_at lf hE
    simp only [keep17_0, headT17, stO, OB.cells, e5] at lt'
    simp only [keep17_1, headF17, stO, OB.cells, e5] at lf'
    have e0 : ((I (if Vc.checkOk x.voice then 0 else 20)) = I 0) = (Vc.checkOk x.voice = true) := by cases Vc.checkOk x.voice <;> simp
    generalize x.forks.all (forkOk x) = ok3 at *
    generalize lie x.pipes 1 5 = b1 at *
    generalize hb2 : decide ((x.tunes.length : Int) ≤ 6) = b2 at *
    generalize hb3 : decide ((x.forks.length : Int) ≤ 3) = b3 at *
    generalize Vc.checkOk x.voice = b4 at *
    rw [call_run comp17 (Nat.le_of_ble_eq_true rfl)]
    cases b1 <;> cases b2 <;> cases b3 <;> cases b4 <;> simp only [Bool.false_and, Bool.true_and, Bool.and_true, Bool.and_false, Bool.false_eq_true, if_true, if_false] at hok w2 <;> subst hok <;> cases hb : (ok2 && ok3) <;> rw [hb] at lf3 <;>
      simp (maxSteps := 10000000) [-List.getD_eq_getElem?_getD, -List.all_eq_true, code17, OB.av, OB.cells, w1, w2, hb2, hb3, h1, h2, p1, p2, p3, p4, q1, q2, q3, q4, keep17_0, keep17_1, lt', lt3, lt1, lf', lf3]
  have := key _ rfl
  rw [this]
  rfl
end Go.Ai

set_option maxRecDepth 100000
namespace Go.Ai
open Go.Organ (T4 F3 PM get_put addB)
def keyA (k : Int × Int) : AV := .agg [I k.1, I k.2]
def ksM (l : PM) : List AV := l.map fun e => keyA e.1
def vsM (l : PM) : List AV := l.map fun e => I e.2
theorem key_eq (k k' : Int × Int) : keyEq (some 2) (keyA k) (keyA k') = some (decide (k = k')) := by
  obtain ⟨a, b⟩ := k
  obtain ⟨c, d⟩ := k'
  simp only [keyEq, keyA, List.length_cons, List.length_nil, and_self, if_true, eqCells, Option.map_some, Option.some.injEq, Prod.mk.injEq, Bool.decide_and, Bool.and_true]
  rfl
theorem find_spec (k : Int × Int) : ∀ (l : PM) (i : Nat), (Organ.PM.get l k = none ∧ findA (some 2) (keyA k) (ksM l) i = some none) ∨ ∃ (j : Nat) (v : Int), Organ.PM.get l k = some v ∧ findA (some 2) (keyA k) (ksM l) i = some (some (i + j)) ∧ (vsM l)[j]? = some (I v) ∧ ∀ w, (vsM l).set j (I w) = vsM (Organ.PM.put l k w) ∧ ksM (Organ.PM.put l k w) = ksM l
  | [], i => .inl ⟨rfl, rfl⟩
  | e :: l, i => by
    simp only [ksM, List.map_cons, findA, key_eq, Option.bind_some, Organ.PM.get]
    by_cases h : e.1 = k
    · have h' : k = e.1 := h.symm
      refine .inr ⟨0, e.2, by simp [h], by simp [h'], by simp [vsM], fun w => by simp [vsM, Organ.PM.put, h]⟩
    · have h' : ¬ k = e.1 := fun he => h he.symm
      rcases find_spec k l (i + 1) with ⟨g1, g2⟩ | ⟨j, v, g1, g2, g3, g4⟩
      · exact .inl ⟨by simp [h, g1], by simp only [ksM] at g2; simp [h', g2]⟩
      · refine .inr ⟨j + 1, v, by simp [h, g1], ?_, by simpa [vsM] using g3, fun w => ?_⟩
        · simp only [ksM] at g2
          simp only [h', decide_false, Bool.false_eq_true, if_false, g2]
          congr 2; omega
        · obtain ⟨q1, q2⟩ := g4 w
          simp only [vsM, ksM, Organ.PM.put, h, if_false, List.map_cons, List.set_cons_succ] at q1 q2 ⊢
          exact ⟨by rw [q1], by rw [q2]⟩
theorem key_ok (k : Int × Int) : keyOk (some 2) (keyA k) = true := rfl
theorem lkp_map (σ : St) (l : PM) (k : Int × Int) (m : AV) (hm : entriesA σ m = some (ksM l, vsM l)) : lkpA σ (some 2) (I 0) m (keyA k) true = some (.tup [I ((Organ.PM.get l k).getD 0), .bool (Organ.PM.get l k).isSome]) := by
  rcases find_spec k l 0 with ⟨g1, g2⟩ | ⟨j, v, g1, g2, g3, _⟩
  · simp only [lkpA, hm, Option.bind_some, key_ok, if_true, g2, g1, Option.getD_none, Option.isSome_none]
  · simp only [lkpA, hm, Option.bind_some, key_ok, if_true, g2, Nat.zero_add, g3, Option.map_some, g1, Option.getD_some, Option.isSome_some]
theorem put_none (k : Int × Int) (v : Int) : ∀ l : PM, Organ.PM.get l k = none → Organ.PM.put l k v = l ++ [(k, v)]
  | [], _ => rfl
  | e :: l, h => by
    simp only [Organ.PM.get] at h
    split at h
    · cases h
    · rename_i hk
      simp only [Organ.PM.put, hk, if_false, List.cons_append, put_none k v l h]
theorem mput_map (σ : St) (l : PM) (k : Int × Int) (v : Int) (i : Nat) (hm : σ.maps[i]? = some (ksM l, vsM l)) (hr : σ.mro ≤ i) : mputA σ (some 2) (.mp i) (keyA k) (I v) = some { σ with maps := σ.maps.set i (ksM (Organ.PM.put l k v), vsM (Organ.PM.put l k v)) } := by
  rcases find_spec k l 0 with ⟨g1, g2⟩ | ⟨j, w, g1, g2, g3, g4⟩
  · simp only [mputA, hm, Option.bind_some, hr, key_ok, and_self, if_true, g2, put_none k v l g1]
    simp [ksM, vsM]
  · obtain ⟨q1, q2⟩ := g4 v
    simp only [mputA, hm, Option.bind_some, hr, key_ok, and_self, if_true, g2, Nat.zero_add, q1, q2]
theorem ks_under (a b c d n : Nat) : ∀ l : PM, (ksM l).all (under a b c d (n + 2)) = true
  | [] => rfl
  | e :: l => by
    have := ks_under a b c d n l
    simp only [ksM] at this ⊢
    simp only [List.map_cons, List.all_cons, this, Bool.and_true]
    rfl
theorem vs_under (a b c d n : Nat) : ∀ l : PM, (vsM l).all (under a b c d (n + 1)) = true
  | [] => rfl
  | e :: l => by
    have := vs_under a b c d n l
    simp only [vsM] at this ⊢
    simp only [List.map_cons, List.all_cons, this, Bool.and_true]
    rfl
theorem ks_pur (σ : St) (n : Nat) : ∀ l : PM, purAll (pur σ (n + 2)) (ksM l) = some (ksM l, false)
  | [] => rfl
  | e :: l => by
    have := ks_pur σ n l
    simp only [ksM, keyA] at this ⊢
    simp [purAll, pur, this]
theorem vs_pur (σ : St) (n : Nat) : ∀ l : PM, purAll (pur σ (n + 1)) (vsM l) = some (vsM l, false)
  | [] => rfl
  | e :: l => by
    have := vs_pur σ n l
    simp only [vsM] at this ⊢
    simp [purAll, pur, this]
theorem put_lit (bx : List (List AV)) (lp : List Lp) (l : PM) (k : Int × Int) (n : Int) : mputA { boxes := bx, maps := [(ksM l, vsM l)], loops := lp } (some 2) (.mp 0) (.agg [I k.1, I k.2]) (I n) = some { boxes := bx, maps := [(ksM (Organ.PM.put l k n), vsM (Organ.PM.put l k n))], loops := lp } :=
  mput_map { boxes := bx, maps := [(ksM l, vsM l)], loops := lp } l k n 0 rfl (Nat.le_refl _)
theorem lkp_lit (bx : List (List AV)) (lp : List Lp) (l : PM) (k : Int × Int) : lkpA { boxes := bx, maps := [(ksM l, vsM l)], loops := lp } (some 2) (I 0) (.mp 0) (.agg [I k.1, I k.2]) true = some (.tup [I ((Organ.PM.get l k).getD 0), .bool (Organ.PM.get l k).isSome]) :=
  lkp_map { boxes := bx, maps := [(ksM l, vsM l)], loops := lp } l k (.mp 0) rfl
end Go.Ai

set_option maxRecDepth 100000
namespace Go.Ai
open Go.Organ (T4 F3 PM get_put addB)
theorem min_if (a b : Int) : (if b < a then b else a) = min a b := by
  split <;> omega
theorem fold_min (a b : Int) : foldA min2 (I a) [I b] = some (I (min a b)) := by
  simp only [foldA, min2, min_if, Option.bind_some]
theorem fold_max (a b : Int) : foldA max2 (I a) [I b] = some (I (max a b)) := by
  have : (if a < b then b else a) = max a b := by split <;> omega
  simp only [foldA, max2, this, Option.bind_some]
theorem least_call (a b : Int) : call Cv 101 [I a, .sl 1 [I b] .full] = some (I (min a b)) := by
  have hm := fold_min a b
  rw [call_run comp101 (Nat.le_of_ble_eq_true rfl)]
  simp (maxSteps := 10000000) [-List.getD_eq_getElem?_getD, code101]
  rw [run_loop]
  simp (maxSteps := 10000000) [-List.getD_eq_getElem?_getD, body101_0, keep101_0, hm]
  rw [run_loop]
  simp (maxSteps := 10000000) [-List.getD_eq_getElem?_getD, body101_0, keep101_0]
def SB (B : List (List AV)) (l : PM) (lp : List Lp) : St := { boxes := B, maps := [(ksM l, vsM l)], loops := lp }
def Bx (B : List (List AV)) : Prop := ∀ a b c d, 1 ≤ c → B.all (fun cs => cs.all (under a b c d 6)) = true
def Lx (n : Nat) (lp : List Lp) : Prop := ∀ a b c, n ≤ a → 1 ≤ c → lp.all (fun L => L.env.all (under a b c lp.length 6)) = true
theorem cut_SB {B E : List (List AV)} {l l' : PM} {lp : List Lp} {e : Env} (hB : Bx B) (hL : Lx B.length lp) (he : e.all (under B.length 0 1 lp.length 6) = true) : cut (SB B l lp) (SB (B ++ E) l' lp) e = SB B l' lp := by
  have h1 := hB B.length 0 1 lp.length (Nat.le_refl _)
  have h2 := hL B.length 0 1 (Nat.le_refl _) (Nat.le_refl _)
  have h3 := ks_under B.length 0 1 lp.length 4 l'
  have h4 := vs_under B.length 0 1 lp.length 5 l'
  have ht : (B ++ E).take B.length = B := List.take_left' rfl
  unfold cut
  rw [if_pos]
  · simp only [cutAt, SB, ht, List.length_singleton, List.take_succ_cons, List.take_zero, List.take_length, List.length_nil, Nat.zero_min, Nat.min_self]
  · simp only [dryAt, SB, ht, List.length_singleton, List.take_succ_cons, List.take_zero, List.take_length, List.length_nil, he, h1, List.all_cons, List.all_nil, h3, h4, h2, Bool.and_self]
theorem g1 (B : List (List AV)) (a : List AV) : (B ++ [a])[B.length]? = some a := by simp
theorem g2 (B : List (List AV)) (a b : List AV) : (B ++ [a, b])[B.length]? = some a := by simp
theorem g3 (B : List (List AV)) (a b : List AV) : (B ++ [a, b])[B.length + 1]? = some b := by simp
theorem s3 (B : List (List AV)) (a b c : List AV) : (B ++ [a, b]).set (B.length + 1) c = B ++ [a, c] := by simp
theorem put_put (k : Int × Int) (v w : Int) : ∀ l : PM, Organ.PM.put (Organ.PM.put l k v) k w = Organ.PM.put l k w
  | [] => by simp [Organ.PM.put]
  | e :: l => by
    by_cases h : e.1 = k
    · simp only [Organ.PM.put, h, if_true]
    · simp only [Organ.PM.put, h, if_false, put_put k v w l]
def head107 (B : List (List AV)) (c28 : AV) (i : Int) : Env := mkE 61 .any [(29, I i), (28, c28), (5, .box B.length 0)]
theorem round107 (B : List (List AV)) (a : List AV) (l : PM) (lp : List Lp) (hB : Bx (B ++ [a])) (ha : a[6]? = some (.mp 0)) (hL : Lx B.length lp) (c28 : AV) (i p q v : Int) (hp : 0 ≤ p) (h28 : ixvA 2 3 (some 3) c28 (I i) = some (.agg [I p, I q, I v])) (h28u : ∀ a b c d, under a b c d 6 c28 = true) (hi : i < 2) (hw : IntKind.wrap .i64 (i + 1) = i + 1) :
    run Cv 107 (.loop keep107_0 body107_0) (head107 B c28 i) (SB (B ++ [a]) l lp) = run Cv 107 (.loop keep107_0 body107_0) (head107 B c28 (i + 1)) (SB (B ++ [a]) (addB l (p, q) v) lp) := by
  have hl := fun bx => lkp_lit bx lp l (p, q)
  have hput := fun bx l v => put_lit bx lp l (p, q) v
  have hL' : Lx (B ++ [a]).length lp := fun x b c h1 h2 => hL x b c (by simp at h1; omega) h2
  have hc := fun l' (e : Env) (he : e.all (under (B ++ [a]).length 0 1 lp.length 6) = true) => cut_SB (E := [[I p, I q, I v]]) (l := l) (l' := l') hB hL' he
  have hpp : ¬ p = -1 := by omega
  have heq : eqCells [I p, I q] [I (-1), I (-1)] = some false := by
    simp [eqCells, hpp]
  have hs3 : ∀ a b c : AV, setAt [I 0, I 0, I 0] 0 [a, b, c] = [a, b, c] := fun _ _ _ => rfl
  simp only [SB, List.append_assoc, List.cons_append, List.nil_append] at hc
  rw [run_loop]
  generalize MC.loop keep107_0 body107_0 = L
  cases hg : Organ.PM.get l (p, q) with
  | none =>
    simp only [hg, Option.getD_none, Option.isSome_none] at hl
    simp (maxSteps := 10000000) [-List.getD_eq_getElem?_getD, -cut, -setAt, -List.all_eq_true, body107_0, keep107_0, head107, SB, addB, hg, h28, hi, hw, g1, g2, g3, s3, hs3, ha, hl, hput, heq]
    rw [hc]
    simp (maxSteps := 10000000) [-List.getD_eq_getElem?_getD, h28u]
  | some w =>
    simp only [hg, Option.getD_some, Option.isSome_some] at hl
    have hle := least_call w v
    have hf1 : fillE 1 false [(0, I v)] [I 0] = some [I v] := rfl
    have hst : ∀ v, still Cv (.cst (.fn (.func 101) [] [])) v = true := fun _ => rfl
    have hpt : Organ.PM.put (Organ.PM.put l (p, q) v) (p, q) (min w v) = Organ.PM.put l (p, q) (min w v) := put_put _ _ _ _
    simp (maxSteps := 10000000) [-List.getD_eq_getElem?_getD, -cut, -setAt, -List.all_eq_true, body107_0, keep107_0, head107, SB, addB, hg, h28, hi, hw, g1, g2, g3, s3, hs3, ha, hl, hput, heq, hle, hpt, hf1, hst]
    rw [hc]
    simp (maxSteps := 10000000) [-List.getD_eq_getElem?_getD, h28u]
end Go.Ai
