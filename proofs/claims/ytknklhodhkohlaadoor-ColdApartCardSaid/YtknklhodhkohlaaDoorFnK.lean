/- This text shows what Apart answers. No conditions of its own. -/
import Derived.Test.YtknklhodhkohlaaDoorFnJ
set_option linter.unusedSimpArgs false
set_option linter.unusedVariables false
set_option maxRecDepth 100000
namespace Go.Ai
open Go.Cold (Mv Hd Bk Tr awayL)
open Go.Least (fromOf chooseG wrongG)
def moveV : AV := .fn (.func 75) [] [.box 2 0, .box 1 0, .box 0 0, .box 3 0]
def st75 (x : CB) {T : List Tr} (O : OB x T) (day : Int) (ch : List (Nat × Nat)) : St := { boxes := [x.cells, [I day], O.c, [moveV]], chains := ch }
def head75 (r : AV) (many k n : Int) : Env := mkE 61 .any [(12, I n), (10, I k), (5, .box 3 0), (4, .box 0 0), (3, .box 1 0), (2, .box 2 0), (1, I many), (0, r)]
def ChosenA (ch : List (Nat × Nat)) (x : CB) {T : List Tr} (O : OB x T) (day : Int) (res : Option (List Int)) (out : Option (AV × St)) : Prop := match res with
  | none => ∃ r, out = some (.tup [r, .bool false], st75 x O day ch)
  | some m => ∃ r more, out = some (.tup [r, .bool true], st75 x O day (ch ++ more)) ∧ OutRow m r
section
variable {x : CB} {T : List Tr} {O : OB x T} {day : Int}
theorem app75 (ch : List (Nat × Nat)) (l : List Int) (hl : l.length < 1000) (r : AV) (hr : LRow ch l r) (n : Int) :
    ∃ y, slcA 1 r none (some (I l.length)) (some (I l.length)) = some y ∧ appA (st75 x O day ch) false 1 8 false y (.sl 1 [I n] .full) = some (.sl 1 (ints (l ++ [n])) (.chain ch.length), st75 x O day (ch ++ [(l.length + 1, 1)])) := by
  rcases hr with ⟨rfl, rfl⟩ | ⟨k, hk, rfl⟩
  · exact ⟨.nils, rfl, by simp [appA, elemsA, grown, st75, ints]⟩
  · refine ⟨.sl 1 (ints l) .full, ?_, ?_⟩
    · simp [slcA, boundA, ints]
      exact List.take_of_length_le (by simp)
    · have : (l.length + 1) * 8 ≤ 140737488355328 := by omega
      simp [appA, elemsA, grown, st75, ints, this]
theorem cut75 (hx : x.Ok) (ch more : List (Nat × Nat)) (e : Env) (he : e.all (under 4 ch.length 0 0 6) = true) : cut (st75 x O day ch) (st75 x O day (ch ++ more)) e = st75 x O day ch := by
  have h1 := hx.mrow.under 4 ch.length 0 0 5
  have h2 := hx.hrow.under 4 ch.length 0 0 5
  have h3 := O.under 4 ch.length 0 0 5
  have hd : dryAt ch.length (st75 x O day ch) (st75 x O day (ch ++ more)) e = true := by
    show (e.all (under 4 ch.length 0 0 6) && List.all [x.cells, [I day], O.c, [moveV]] (fun cs => cs.all (under 4 ch.length 0 0 6)) && true && true) = true
    have hv : under 4 ch.length 0 0 6 moveV = true := rfl
    simp only [he, CB.cells, List.all_cons, List.all_nil, h1, h2, h3, hv, un_int, Bool.and_self]
  unfold cut
  rw [if_pos (show dryAt (st75 x O day ch).chains.length (st75 x O day ch) (st75 x O day (ch ++ more)) e = true from hd)]
  simp [cutAt, st75]
theorem cut75' (ch more : List (Nat × Nat)) (e : Env) : ∃ more', cut (st75 x O day ch) (st75 x O day (ch ++ more)) e = st75 x O day (ch ++ more') := by
  unfold cut
  split
  · exact ⟨[], by simp [cutAt, st75]⟩
  · split
    · exact ⟨more, by simp [cutAt, st75]; exact List.take_of_length_le (by simp)⟩
    · exact ⟨more, rfl⟩
theorem cut_st75 (ch : List (Nat × Nat)) (e : Env) : cut (st75 x O day ch) (st75 x O day ch) e = st75 x O day ch := cut_self _ _ (by simp [st75]) (by simp [st75])
theorem loop75 (hx : x.Ok) (f : x.Fine) (hd0 : 0 ≤ day) (hdD : day < x.days) (ok : List Int → Bool) (d : Nat) (many : Int) (l : List Int) (hl : l.length < 100) (r : AV) (ch : List (Nat × Nat)) (hr : LRow ch l r)
    (ih : ∀ (n : Nat), (n : Int) < x.beds → awayL x.ms n day = false → ChosenA (ch ++ [(l.length + 1, 1)]) x O day (chooseG ok x.beds.toNat d (l ++ [(n : Int)])) (callA Cv (run Cv) false moveV [.sl 1 (ints (l ++ [(n : Int)])) (.chain ch.length), I many] (st75 x O day (ch ++ [(l.length + 1, 1)])))) :
    ∀ (m n : Nat), n + m = x.beds.toNat ∨ (m = 0 ∧ x.beds.toNat ≤ n) → n < 1000 →
      match (List.range' n m).findSome? fun (n : Nat) => if awayL x.ms n day then none else chooseG ok x.beds.toNat d (l ++ [(n : Int)]) with
      | none => ∃ L, run Cv 75 (.loop keep75_0 body75_0) (head75 r many l.length n) (st75 x O day ch) = some (.ex 0, mkE 61 .any L, st75 x O day ch)
      | some q => ∃ L more y, run Cv 75 (.loop keep75_0 body75_0) (head75 r many l.length n) (st75 x O day ch) = some (.rt, mkE 61 .any ((9, .bool true) :: (8, y) :: L), st75 x O day (ch ++ more)) ∧ OutRow q y
  | 0, n, hn, hn' => by
    have h1 : ¬ (n : Int) < x.beds := by omega
    simp only [List.range'_zero, List.findSome?_nil]
    have hld : ∀ ch', loadA (st75 x O day ch') none (.box 0 0) = some (I x.beds) := fun _ => rfl
    rw [run_loop]
    simp (maxSteps := 10000000) [-List.getD_eq_getElem?_getD, -loadA, body75_0, keep75_0, head75, hld, h1]
    exact ⟨_, rfl⟩
  | m + 1, n, hn, hn' => by
    have hb5 := f.b5
    have hlt : (n : Int) < x.beds := by omega
    have hw : IntKind.wrap .i64 ((n : Int) + 1) = n + 1 := wrap_small (by omega) (by omega)
    obtain ⟨y, a1, a2⟩ := app75 (O := O) (day := day) ch l (by omega) r hr n
    have hO := O.cells
    have hld : ∀ ch', loadA (st75 x O day ch') none (.box 0 0) = some (I x.beds) := fun _ => rfl
    have hld1 : ∀ ch', loadA (st75 x O day ch') none (.box 3 0) = some moveV := fun _ => rfl
    have hld2 : ∀ ch', loadA (st75 x O day ch') none (.box 1 0) = some (I day) := fun _ => rfl
    have hld3 : ∀ ch', loadA (st75 x O day ch') none (.box 2 11) = some (.mapv (ksM (amX x)) (vsM (amX x))) := fun _ => rfl
    have hlk := fun σ => lkp_mapv σ (amX x) n day
    rw [amX_get x f n day hlt hd0 hdD] at hlk
    have hf1 : fillE 1 false [(0, I (n : Int))] [I 0] = some [I (n : Int)] := rfl
    have hr1 : List.replicate 1 (I 0) = [I 0] := rfl
    have hru := hr.under 4 ch.length 0 0 5 (Nat.le_refl _)
    rw [List.range'_succ, List.findSome?_cons]
    cases hav : awayL x.ms n day with
    | true =>
      rw [hav] at hlk
      have hcut := cut_st75 (x := x) (O := O) (day := day) ch
      have step : run Cv 75 (.loop keep75_0 body75_0) (head75 r many l.length n) (st75 x O day ch) = run Cv 75 (.loop keep75_0 body75_0) (head75 r many l.length (n + 1)) (st75 x O day ch) := by
        rw [run_loop]
        generalize MC.loop keep75_0 body75_0 = L
        simp (maxSteps := 10000000) [-List.getD_eq_getElem?_getD, -loadA, -partA, -cut, body75_0, keep75_0, head75, hld, hld1, hld2, hld3, hlk, hlt, hw, hcut]
      rw [step]
      have := loop75 hx f hd0 hdD ok d many l hl r ch hr ih m (n + 1) (by omega) (by omega)
      simpa using this
    | false =>
      rw [hav] at hlk
      have hih := ih n hlt hav
      simp only [Bool.false_eq_true, if_false]
      cases hc : chooseG ok x.beds.toNat d (l ++ [(n : Int)]) with
      | none =>
        rw [hc] at hih
        obtain ⟨r', hr'⟩ := hih
        have hcut := cut75 (O := O) (day := day) hx ch [(l.length + 1, 1)]
        have step : run Cv 75 (.loop keep75_0 body75_0) (head75 r many l.length n) (st75 x O day ch) = run Cv 75 (.loop keep75_0 body75_0) (head75 r many l.length (n + 1)) (st75 x O day ch) := by
          rw [run_loop]
          generalize MC.loop keep75_0 body75_0 = L
          simp (maxSteps := 10000000) [-List.getD_eq_getElem?_getD, -loadA, -partA, -cut, body75_0, keep75_0, head75, hld, hld1, hld2, hld3, hlk, hlt, hw, hf1, hr1, a1, a2, hr']
          rw [hcut]
          simp (maxSteps := 10000000) [-List.getD_eq_getElem?_getD, hru]
        rw [step]
        have := loop75 hx f hd0 hdD ok d many l hl r ch hr ih m (n + 1) (by omega) (by omega)
        simpa using this
      | some q =>
        rw [hc] at hih
        obtain ⟨r', more, hr', hq⟩ := hih
        simp only
        rw [List.append_assoc] at hr'
        have step : ∃ L, run Cv 75 (.loop keep75_0 body75_0) (head75 r many l.length n) (st75 x O day ch) = some (.rt, mkE 61 .any ((9, .bool true) :: (8, r') :: L), st75 x O day (ch ++ ([(l.length + 1, 1)] ++ more))) := by
          rw [run_loop]
          simp (maxSteps := 10000000) [-List.getD_eq_getElem?_getD, -loadA, -partA, -cut, body75_0, keep75_0, head75, hld, hld1, hld2, hld3, hlk, hlt, hw, hf1, hr1, a1, a2, hr']
          exact ⟨_, rfl⟩
        obtain ⟨L, k1⟩ := step
        exact ⟨L, _, r', k1, hq⟩
end
end Go.Ai

set_option maxRecDepth 100000
namespace Go.Ai
open Go.Cold (Mv Hd Bk Tr awayL)
open Go.Least (fromOf chooseG wrongG)
theorem LRow.isrow {ch l r} (h : LRow ch l r) : ∃ r', (∀ σ n, pur σ (n + 1) r = some (r', false)) ∧ IsRow 1 (ints l) r' := h.row'
theorem move_call (x : CB) (hx : x.Ok) (f : x.Fine) (O : OB x x.bk.tr) (day : Int) (hd1 : 1 ≤ day) (hdD : day < x.days) (many : Nat) (hmany : many ≤ 10) : ∀ (d : Nat) (l : List Int) (r : AV) (ch : List (Nat × Nat)), l.length + d = many → LRow ch l r → (∀ y ∈ l, 0 ≤ y ∧ y < x.beds ∧ awayL x.ms y.toNat day = false) →
    ChosenA ch x O day (chooseG (x.bk.okA day) x.beds.toNat d l) (callA Cv (run Cv) false moveV [r, I many] (st75 x O day ch))
  | 0, l, r, ch, hd, hr, hy => by
    obtain ⟨r', hp, hrow⟩ := hr.row'
    have ho := enough_call x f O l r' hrow (by omega) day hd1
    have hok : x.bk.okA day l = x.bk.enough l day := by
      unfold Go.Cold.Bk.okA
      have : (l.all fun y => !awayL x.bk.ms y.toNat day) = true := by
        rw [List.all_eq_true]
        intro y hyl
        have := (hy y hyl).2.2
        show (!awayL x.ms y.toNat day) = true
        rw [this]
        rfl
      rw [this, Bool.true_and]
    rw [← hok] at ho
    have hlen := hr.len
    have hp6 : ∀ ch', loadA (st75 x O day ch') (some 13) (.box 2 0) = some (.agg O.c) := fun _ => rfl
    have hp7 : ∀ ch', loadA (st75 x O day ch') none (.box 1 0) = some (I day) := fun _ => rfl
    have hOp : ∀ σ n, pur σ (n + 2) (.agg O.c) = some (.agg O.c, false) := fun σ n => by
      have := O.pur σ n
      simp [pur, this]
    have hlm : (l.length : Int) = many := by omega
    have hlm' : ((l.length : Int) == many) = true := by simpa using hlm
    have hcut := cut_st75 (x := x) (O := O) (day := day) ch
    have step : callA Cv (run Cv) false moveV [r, I many] (st75 x O day ch) = some (.tup [r, .bool (x.bk.okA day l)], st75 x O day ch) := by
      rw [moveV, callA_imp (by rfl), body_run comp75 (Nat.le_of_ble_eq_true rfl)]
      simp (maxSteps := 10000000) [-List.getD_eq_getElem?_getD, ret2, ret3, retc2, -loadA, -partA, -cut, code75, hlen, hlm', hp6, hp7, hOp, hp, ho]
      simp only [cutR, hcut]
    rw [step]
    simp only [chooseG]
    cases hf : x.bk.okA day l with
    | true => exact ⟨r, [], by rw [List.append_nil], hr.out⟩
    | false => exact ⟨r, rfl⟩
  | d + 1, l, r, ch, hd, hr, hy => by
    have hb5 := f.b5
    have hb1 := f.b1
    have hlen := hr.len
    have hcut := cut_st75 (x := x) (O := O) (day := day) ch
    have hne : ((l.length : Int) == many) = false := by simp; omega
    have ih : ∀ (n : Nat), (n : Int) < x.beds → awayL x.ms n day = false → ChosenA (ch ++ [(l.length + 1, 1)]) x O day (chooseG (x.bk.okA day) x.beds.toNat d (l ++ [(n : Int)])) (callA Cv (run Cv) false moveV [.sl 1 (ints (l ++ [(n : Int)])) (.chain ch.length), I many] (st75 x O day (ch ++ [(l.length + 1, 1)]))) :=
      fun n hn hav => move_call x hx f O day hd1 hdD many hmany d _ _ _ (by simp; omega) (.inr ⟨ch.length, by simp, rfl⟩) (by
        intro y hy'
        rcases List.mem_append.1 hy' with h | h
        · exact hy y h
        · simp only [List.mem_singleton] at h; subst h; exact ⟨by omega, hn, hav⟩)
    have hn0 : fromOf l ≤ x.beds.toNat := by
      unfold fromOf
      split
      · omega
      · rename_i y hyl
        have := hy y (List.mem_of_getLast? hyl)
        omega
    have hent : ∀ (res : Option (AV × St)) , (∀ out, run Cv 75 (.loop keep75_0 body75_0) (head75 r many l.length (fromOf l)) (st75 x O day ch) = out → cutR (st75 x O day ch) (endA [(8, none), (9, none)] (thenA (run Cv) 75 (.seq (.ops false [⟨some 8, none, .mov (.cst .nils)⟩, ⟨some 9, none, .mov (.cst (.bool false))⟩]) .ret) (blockA 0 out))) = res) → callA Cv (run Cv) false moveV [r, I many] (st75 x O day ch) = res := by
      intro res hres
      have hres' := fun E (hE : mask keep75_0 E = _) => hres _ (run_at (E := E) rfl hE).symm
      rcases List.eq_nil_or_concat l with rfl | ⟨l', y, hly⟩
      · have hf0 : fromOf [] = 0 := rfl
        have e5 : ((0 : Nat) : Int) = 0 := rfl
        simp only [List.length_nil, e5] at hlen hne
        rw [hf0] at hres'
        simp only [head75, keep75_0, List.length_nil, e5] at hres'
        rw [moveV, callA_imp (by rfl), body_run comp75 (Nat.le_of_ble_eq_true rfl)]
        simp (maxSteps := 10000000) [-List.getD_eq_getElem?_getD, ret2, ret3, retc2, -loadA, -partA, -cut, code75, hlen, hne, keep75_0]
        exact hres' _ (by simp (maxSteps := 10000000) [-List.getD_eq_getElem?_getD, ])
      · have hly : l = l' ++ [y] := by rw [hly]; simp
        subst hly
        have hyy := hy y (by simp)
        have hf0 : fromOf (l' ++ [y]) = (y + 1).toNat := by simp [fromOf]
        have hy1 : ((y + 1).toNat : Int) = y + 1 := by omega
        have hll : ((l' ++ [y]).length : Int) = (l'.length : Int) + 1 := by simp
        rw [hll] at hlen hne
        have hd' : l'.length + 1 + (d + 1) = many := by simpa using hd
        have hw1 : IntKind.wrap .i64 (l'.length : Int) = l'.length := wrap_small (by omega) (by omega)
        have hw2 : IntKind.wrap .i64 (y + 1) = y + 1 := wrap_small (by omega) (by omega)
        have hpos : (l'.length : Int) + 1 > 0 := by omega
        have hix : ixsA 1 r (I (l'.length : Int)) = some (.rp [I y] 0) := by
          rcases hr with ⟨rfl, h⟩ | ⟨k, hk, rfl⟩
          · exact absurd h (by simp)
          · have hlt : (l'.length : Int) < ((ints (l' ++ [y])).length : Int) := by simp [ints]; omega
            simp [ixsA, ints, AV.cells]; omega
        have hlr : loadA (st75 x O day ch) none (.rp [I y] 0) = some (I y) := rfl
        rw [hf0, hy1] at hres'
        simp only [head75, keep75_0, hll] at hres'
        rw [moveV, callA_imp (by rfl), body_run comp75 (Nat.le_of_ble_eq_true rfl)]
        simp (maxSteps := 10000000) [-List.getD_eq_getElem?_getD, ret2, ret3, retc2, -loadA, -partA, -cut, -ixsA, code75, hlen, hne, hw1, hw2, hpos, hix, hlr, keep75_0]
        exact hres' _ (by simp (maxSteps := 10000000) [-List.getD_eq_getElem?_getD, ])
    have hl := loop75 (O := O) (day := day) hx f (by omega) hdD (x.bk.okA day) d many l (by omega) r ch hr ih (x.beds.toNat - fromOf l) (fromOf l) (by omega) (by omega)
    have hskip := Go.Cold.choose_skip (ok := x.bk.okA day) (T := x.beds.toNat) (d := d) (l := l) (fun n => awayL x.ms n day) (fun m y hym hno => by
      unfold Go.Cold.Bk.okA
      have : (m.all fun y => !awayL x.bk.ms y.toNat day) = false := by
        rw [List.all_eq_false]
        refine ⟨(y : Int), hym, ?_⟩
        have e : ((y : Int)).toNat = y := by omega
        rw [e]
        have : awayL x.bk.ms y day = true := hno
        rw [this]
        simp
      rw [this, Bool.false_and])
    rw [hskip] at hl
    cases hfs : chooseG (x.bk.okA day) x.beds.toNat (d + 1) l with
    | none =>
      rw [hfs] at hl
      obtain ⟨L, h1⟩ := hl
      refine ⟨.nils, hent _ fun out ho => ?_⟩
      rw [← ho, h1]
      simp (maxSteps := 10000000) [-List.getD_eq_getElem?_getD, ret2, ret3, retc2, -cut]
      rw [cutR, hcut]
    | some q =>
      rw [hfs] at hl
      obtain ⟨L, more, y, h1, h4⟩ := hl
      obtain ⟨more', hm⟩ := cut75' (x := x) (O := O) (day := day) ch more [.tup [y, .bool true]]
      refine ⟨y, more', hent _ fun out ho => ?_, h4⟩
      rw [← ho, h1]
      simp (maxSteps := 10000000) [-List.getD_eq_getElem?_getD, ret2, ret3, retc2, -cut]
      rw [cutR, hm]
end Go.Ai

set_option maxRecDepth 100000
namespace Go.Ai
open Go.Cold (Mv Hd Bk Tr awayL)
open Go.Least (fromOf chooseG wrongG)
def head36 (x : CB) (k : Int) : Env := mkE 46 .any [(29, I k), (28, I (x.rooms + 1)), (8, .box 3 0)]
theorem loop36 (x : CB) (hx : x.Ok) (f : x.Fine) (O : OB x x.bk.tr) (day : Int) (hd1 : 1 ≤ day) (hdD : day < x.days) : ∀ (n k : Nat), (k : Int) + n = x.rooms + 1 →
    match wrongG (x.bk.okA day) x.beds.toNat k n with
    | none => ∃ L, run Cv 36 (.loop keep36_0 body36_0) (head36 x k) (st75 x O day []) = some (.ex 0, mkE 46 .any L, st75 x O day [])
    | some m => ∃ L more y, run Cv 36 (.loop keep36_0 body36_0) (head36 x k) (st75 x O day []) = some (.rt, mkE 46 .any ((5, I 0) :: (4, y) :: L), st75 x O day more) ∧ IsRow 1 (ints m) y
  | 0, k, hk => by
    have h1 : ¬ (k : Int) < x.rooms + 1 := by omega
    simp only [wrongG]
    rw [run_loop]
    simp (maxSteps := 10000000) [-List.getD_eq_getElem?_getD, body36_0, keep36_0, head36, st75, h1]
    exact ⟨_, rfl⟩
  | n + 1, k, hk => by
    have hr3 := f.r3
    have hlt : (k : Int) < x.rooms + 1 := by omega
    have hw : IntKind.wrap .i64 ((k : Int) + 1) = k + 1 := wrap_small (by omega) (by omega)
    have hch := move_call x hx f O day hd1 hdD k (by omega) k [] .nils [] (by simp) (.inl ⟨rfl, rfl⟩) (by simp)
    have hld1 : ∀ ch', loadA (st75 x O day ch') none (.box 3 0) = some moveV := fun _ => rfl
    simp only [wrongG]
    cases hm : chooseG (x.bk.okA day) x.beds.toNat k [] with
    | none =>
      rw [hm] at hch
      obtain ⟨r, hr⟩ := hch
      have step : run Cv 36 (.loop keep36_0 body36_0) (head36 x k) (st75 x O day []) = run Cv 36 (.loop keep36_0 body36_0) (head36 x (k + 1)) (st75 x O day []) := by
        rw [run_loop]
        generalize MC.loop keep36_0 body36_0 = L
        simp (maxSteps := 10000000) [-List.getD_eq_getElem?_getD, -loadA, -cut, body36_0, keep36_0, head36, hld1, hlt, hw, hr]
        rw [cut_st75]
      rw [step]
      have := loop36 x hx f O day hd1 hdD n (k + 1) (by omega)
      simpa using this
    | some m =>
      rw [hm] at hch
      obtain ⟨r, more, hr, hq⟩ := hch
      rw [List.nil_append] at hr
      have s1 := slc_out hq
      obtain ⟨y, g1, s2⟩ := slc_row hq
      have step : ∃ L, run Cv 36 (.loop keep36_0 body36_0) (head36 x k) (st75 x O day []) = some (.rt, mkE 46 .any ((5, I 0) :: (4, y) :: L), st75 x O day more) := by
        rw [run_loop]
        simp (maxSteps := 10000000) [-List.getD_eq_getElem?_getD, -loadA, -cut, body36_0, keep36_0, head36, hld1, hlt, hw, hr, s1, s2]
        exact ⟨_, rfl⟩
      obtain ⟨L, k1⟩ := step
      exact ⟨L, more, y, k1, g1⟩
def dayB (x : CB) (day : Int) : Bool := lie day 1 (IntKind.wrap .i64 (x.days - 1))
def apartW (x : CB) (day : Int) : Option (List Int) := if errQ x (dayB x day) = 0 then x.bk.apartO day x.rooms.toNat else none
def apartV (x : CB) (day : Int) : List Int := (apartW x day).getD []
def apartE (x : CB) (day : Int) : Int := if errQ x (dayB x day) = 0 then (if (x.bk.apartO day x.rooms.toNat).isSome then 0 else 4) else errQ x (dayB x day)
theorem Apart_call (x : CB) (hx : x.Ok) (day : Int) : ∃ y, IsRow 1 (ints (apartV x day)) y ∧ call Cv 36 [x.av, I day] = some (.tup [y, I (apartE x day)]) := by
  have hs := within_call day 1 (IntKind.wrap .i64 (x.days - 1))
  have p1 := hx.mrow.cell
  have p2 := hx.hrow.cell
  have q1 := hx.mrow.pur
  have q2 := hx.hrow.pur
  have e1 : lie day 1 (IntKind.wrap .i64 (x.days - 1)) = dayB x day := rfl
  rw [e1] at hs
  unfold apartV apartW apartE
  by_cases hbad : checkB x = false ∨ dayB x day = false
  · have ha := asked_bad x hx (dayB x day) hbad
    rw [errQ_bad hbad]
    obtain ⟨e, he, he2⟩ : ∃ e : Int, (if checkB x then 31 else 30) = e ∧ e ≠ 0 := ⟨_, rfl, by split <;> decide⟩
    have he3 : ((if checkB x then (31 : Int) else 30)) = e := he
    rw [he3] at ha ⊢
    rw [if_neg he2, if_neg he2]
    refine ⟨.nils, nils_row, ?_⟩
    simp only [CB.av, CB.cells, zero13] at ha
    generalize dayB x day = b at *
    rw [call_run comp36 (Nat.le_of_ble_eq_true rfl)]
    simp (maxSteps := 10000000) [-List.getD_eq_getElem?_getD, code36, CB.av, CB.cells, p1, p2, q1, q2, hs, ha, he2, ret2]
  · have hk : checkB x = true := by cases h : checkB x with | true => rfl | false => exact absurd (.inl h) hbad
    have hsp : dayB x day = true := by cases h : dayB x day with | true => rfl | false => exact absurd (.inr h) hbad
    have f := check_fine hk
    obtain ⟨hv, tv, h1, h2, ha⟩ := asked_ok x hx hk
    rw [hsp] at hs
    rw [hsp, errQ_ok hk]
    have d1 := f.d1
    have d6 := f.d6
    have r0 := f.r0
    have r3 := f.r3
    have w2 : IntKind.wrap .i64 (x.days - 1) = x.days - 1 := wrap_small (by omega) (by omega)
    have hr : 1 ≤ day ∧ day < x.days := by
      simp only [dayB, lie, Bool.and_eq_true, decide_eq_true_eq, w2] at hsp
      omega
    obtain ⟨O, hO⟩ : ∃ O : OB x x.bk.tr, O = obOf hx f h1 h2 := ⟨_, rfl⟩
    have hOc : O.c = openC x hv (amX x) tv := by subst hO; rfl
    have hl := loop36 x hx f O day hr.1 hr.2 (x.rooms.toNat + 1) 0 (by omega)
    have hwr : wrongG (x.bk.okA day) x.beds.toNat 0 (x.rooms.toNat + 1) = x.bk.apartO day x.rooms.toNat := Go.Cold.wrong_rooms (x.bk.okA day) (T := x.beds.toNat) (by have := f.b5; omega) x.rooms.toNat
    rw [hwr] at hl
    have e5 : ((0 : Nat) : Int) = 0 := rfl
    have hw : IntKind.wrap .i64 (x.rooms + 1) = x.rooms + 1 := wrap_small (by omega) (by omega)
    have p3 := h1.cell
    have p4 := h2.cell
    have q3 := h1.pur
    have q4 := h2.pur
    have hmv : ∀ ks vs, AV.isCell (.mapv ks vs) = true := fun _ _ => rfl
    have hpm : ∀ σ n ks vs, pur σ (n + 1) (.mapv ks vs) = some (.mapv ks vs, false) := fun _ _ _ _ => rfl
    simp only [CB.av, CB.cells, openC, bkC, List.cons_append, List.nil_append] at ha
    unfold errOf at *
    by_cases hn : x.bk.tr = []
    · rw [if_pos hn] at ha ⊢
      refine ⟨.nils, nils_row, ?_⟩
      rw [call_run comp36 (Nat.le_of_ble_eq_true rfl)]
      simp (maxSteps := 10000000) [-List.getD_eq_getElem?_getD, code36, CB.av, CB.cells, p1, p2, p3, p4, q1, q2, q3, q4, hs, ha, hmv, hpm, ret2]
    · rw [if_neg hn] at ha ⊢
      rw [if_pos rfl, if_pos rfl]
      cases hwo : x.bk.apartO day x.rooms.toNat with
      | none =>
        rw [hwo] at hl
        obtain ⟨L, g1⟩ := hl
        have g' := fun E (hE : mask keep36_0 E = _) => run_at g1 hE
        simp only [keep36_0, head36, st75, e5, moveV, CB.cells, hOc, openC, bkC, List.cons_append, List.nil_append] at g'
        refine ⟨.nils, nils_row, ?_⟩
        rw [call_run comp36 (Nat.le_of_ble_eq_true rfl)]
        simp (maxSteps := 10000000) [-List.getD_eq_getElem?_getD, code36, CB.av, CB.cells, p1, p2, p3, p4, q1, q2, q3, q4, hs, ha, hmv, hpm, hw, keep36_0, g', ret2]
      | some m =>
        rw [hwo] at hl
        obtain ⟨L, more, y, g1, g2⟩ := hl
        have g4 := g2.pur
        have g' := fun E (hE : mask keep36_0 E = _) => run_at g1 hE
        simp only [keep36_0, head36, st75, e5, moveV, CB.cells, hOc, openC, bkC, List.cons_append, List.nil_append] at g'
        refine ⟨y, g2, ?_⟩
        rw [call_run comp36 (Nat.le_of_ble_eq_true rfl)]
        simp (maxSteps := 10000000) [-List.getD_eq_getElem?_getD, code36, CB.av, CB.cells, p1, p2, p3, p4, q1, q2, q3, q4, hs, ha, hmv, hpm, hw, keep36_0, g', g4, ret2]
end Go.Ai
