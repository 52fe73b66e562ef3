/- This text shows what Wrong answers. No conditions of its own. -/
import Derived.Test.YtckbmdbebmkbaaaDoorFnM
import Derived.Test.YtckbmdbebmkbaaaDoorPlainB
set_option linter.unusedSimpArgs false
set_option linter.unusedVariables false
set_option maxRecDepth 100000
namespace Go.Ai
open Go.Office (Bk Nt)
open Go.Least (fromOf chooseG wrongG)
def okL (x : OB) (l : List Int) : Bool := x.bk.okW l
def LRow (ch : List (Nat × Nat)) (l : List Int) (r : AV) : Prop := (r = .nils ∧ l = []) ∨ ∃ c, c < ch.length ∧ r = .sl 1 (ints l) (.chain c)
def leaveV : AV := .fn (.func 57) [] [.box 0 0, .box 1 0]
def st57 (x : OB) (ch : List (Nat × Nat)) : St := { boxes := [x.cells, [leaveV]], chains := ch }
def head57 (r : AV) (many k n : Int) : Env := mkE 56 .any [(10, I n), (8, I k), (3, .box 1 0), (2, .box 0 0), (1, I many), (0, r)]
theorem LRow.under {ch l r} (h : LRow ch l r) (a b c d n : Nat) (hb : ch.length ≤ b) : Ai.under a b c d (n + 1) r = true := by
  rcases h with ⟨rfl, _⟩ | ⟨k, hk, rfl⟩
  · rfl
  · simp only [Ai.under, decide_eq_true_eq]; omega
theorem LRow.len {ch l r} (h : LRow ch l r) : lenA r = some (I l.length) := by
  rcases h with ⟨rfl, h⟩ | ⟨k, hk, rfl⟩
  · rw [h]; rfl
  · simp [ints]
theorem LRow.row' {ch l r} (h : LRow ch l r) : ∃ r', (∀ σ n, pur σ (n + 1) r = some (r', false)) ∧ IsRow 1 (ints l) r' := by
  rcases h with ⟨rfl, h⟩ | ⟨k, hk, rfl⟩
  · exact ⟨.nils, fun _ _ => rfl, .inl ⟨rfl, by rw [h]; rfl⟩⟩
  · exact ⟨.sl 1 (ints l) .no, fun _ _ => rfl, .inr (.inr ⟨.no, rfl, rfl⟩)⟩
def OutRow (m : List Int) (r : AV) : Prop := (r = .nils ∧ m = []) ∨ ∃ c, r = .sl 1 (ints m) (.chain c)
def Chosen (ch : List (Nat × Nat)) (x : OB) (res : Option (List Int)) (out : Option (AV × St)) : Prop := match res with
  | none => ∃ r, out = some (.tup [r, .bool false], st57 x ch)
  | some m => ∃ r more, out = some (.tup [r, .bool true], st57 x (ch ++ more)) ∧ OutRow m r
theorem app57 (x : OB) (ch : List (Nat × Nat)) (l : List Int) (hl : l.length < 1000) (r : AV) (hr : LRow ch l r) (n : Int) :
    ∃ y, slcA 1 r none (some (I l.length)) (some (I l.length)) = some y ∧ appA (st57 x ch) false 1 8 false y (.sl 1 [I n] .full) = some (.sl 1 (ints (l ++ [n])) (.chain ch.length), st57 x (ch ++ [(l.length + 1, 1)])) := by
  rcases hr with ⟨rfl, rfl⟩ | ⟨k, hk, rfl⟩
  · exact ⟨.nils, rfl, by simp [appA, elemsA, grown, st57, ints]⟩
  · refine ⟨.sl 1 (ints l) .full, ?_, ?_⟩
    · simp [slcA, boundA, ints]
      exact List.take_of_length_le (by simp)
    · have : (l.length + 1) * 8 ≤ 140737488355328 := by omega
      simp [appA, elemsA, grown, st57, ints, this]
theorem cut57 (x : OB) (hx : x.Ok) (ch more : List (Nat × Nat)) (e : Env) (he : e.all (under 2 ch.length 0 0 6) = true) : cut (st57 x ch) (st57 x (ch ++ more)) e = st57 x ch := by
  have h1 := hx.fr.under 2 ch.length 0 0 5
  have h2 := hx.q0.under 2 ch.length 0 0 5
  have h3 := hx.q1.under 2 ch.length 0 0 5
  have h4 := hx.nr.under 2 ch.length 0 0 5
  have hbb : ∀ b : Bool, under 2 ch.length 0 0 6 (.bool b) = true := fun _ => rfl
  have hd : dryAt ch.length (st57 x ch) (st57 x (ch ++ more)) e = true := by
    show (e.all (under 2 ch.length 0 0 6) && List.all [x.cells, [leaveV]] (fun cs => cs.all (under 2 ch.length 0 0 6)) && true && true) = true
    have hv : under 2 ch.length 0 0 6 leaveV = true := rfl
    simp only [he, OB.cells, List.all_cons, List.all_nil, h1, h2, h3, h4, hbb, hv, un_int, Bool.and_self]
  unfold cut
  rw [if_pos (show dryAt (st57 x ch).chains.length (st57 x ch) (st57 x (ch ++ more)) e = true from hd)]
  simp [cutAt, st57]
theorem cut57' (x : OB) (ch more : List (Nat × Nat)) (e : Env) : ∃ more', cut (st57 x ch) (st57 x (ch ++ more)) e = st57 x (ch ++ more') := by
  unfold cut
  split
  · exact ⟨[], by simp [cutAt, st57]⟩
  · split
    · exact ⟨more, by simp [cutAt, st57]; exact List.take_of_length_le (by simp)⟩
    · exact ⟨more, rfl⟩
theorem loop57 (x : OB) (hx : x.Ok) (hT : x.ns.length < 100) (d : Nat) (many : Int) (l : List Int) (hl : l.length < 100) (r : AV) (ch : List (Nat × Nat)) (hr : LRow ch l r)
    (ih : ∀ (n : Nat), n < x.ns.length → Chosen (ch ++ [(l.length + 1, 1)]) x (chooseG (okL x) x.ns.length d (l ++ [(n : Int)])) (callA Cv (run Cv) false leaveV [.sl 1 (ints (l ++ [(n : Int)])) (.chain ch.length), I many] (st57 x (ch ++ [(l.length + 1, 1)])))) :
    ∀ (m n : Nat), n + m = x.ns.length ∨ (m = 0 ∧ x.ns.length ≤ n) → n < 1000 →
      match (List.range' n m).findSome? fun (n : Nat) => chooseG (okL x) x.ns.length d (l ++ [(n : Int)]) with
      | none => ∃ L, run Cv 57 (.loop keep57_0 body57_0) (head57 r many l.length n) (st57 x ch) = some (.ex 0, mkE 56 .any L, st57 x ch)
      | some q => ∃ L more y, run Cv 57 (.loop keep57_0 body57_0) (head57 r many l.length n) (st57 x ch) = some (.rt, mkE 56 .any ((7, .bool true) :: (6, y) :: L), st57 x (ch ++ more)) ∧ OutRow q y
  | 0, n, hn, hn' => by
    have h1 : ¬ (n : Int) < x.ns.length := by omega
    simp only [List.range'_zero, List.findSome?_nil]
    have hlen := nlen hx
    rw [run_loop]
    simp (maxSteps := 10000000) [-List.getD_eq_getElem?_getD, body57_0, keep57_0, head57, st57, OB.cells, hlen, h1]
    exact ⟨_, rfl⟩
  | m + 1, n, hn, hn' => by
    have hlt : n < x.ns.length := by omega
    have hlt' : (n : Int) < x.ns.length := by omega
    have hlen := nlen hx
    have hw : IntKind.wrap .i64 ((n : Int) + 1) = n + 1 := wrap_small (by omega) (by omega)
    obtain ⟨y, a1, a2⟩ := app57 x ch l (by omega) r hr n
    have hih := ih n hlt
    have hld : ∀ ch', loadA (st57 x ch') none (.box 0 7) = some x.nr := fun _ => rfl
    have hld1 : ∀ ch', loadA (st57 x ch') none (.box 1 0) = some leaveV := fun _ => rfl
    have hf1 : fillE 1 false [(0, I (n : Int))] [I 0] = some [I (n : Int)] := rfl
    have hr1 : List.replicate 1 (I 0) = [I 0] := rfl
    rw [List.range'_succ, List.findSome?_cons]
    cases hc : chooseG (okL x) x.ns.length d (l ++ [(n : Int)]) with
    | none =>
      rw [hc] at hih
      obtain ⟨r', hr'⟩ := hih
      have hcut := cut57 x hx ch [(l.length + 1, 1)]
      have hru := hr.under 2 ch.length 0 0 5 (Nat.le_refl _)
      have step : run Cv 57 (.loop keep57_0 body57_0) (head57 r many l.length n) (st57 x ch) = run Cv 57 (.loop keep57_0 body57_0) (head57 r many l.length (n + 1)) (st57 x ch) := by
        rw [run_loop]
        generalize MC.loop keep57_0 body57_0 = L
        simp (maxSteps := 10000000) [-List.getD_eq_getElem?_getD, -loadA, -partA, -cut, body57_0, keep57_0, head57, hld, hld1, hlen, hlt', hw, hf1, hr1, a1, a2, hr']
        rw [hcut]
        simp (maxSteps := 10000000) [-List.getD_eq_getElem?_getD, hru]
      rw [step]
      have := loop57 x hx hT d many l hl r ch hr ih m (n + 1) (by omega) (by omega)
      simpa using this
    | some q =>
      rw [hc] at hih
      obtain ⟨r', more, hr', hq⟩ := hih
      simp only
      rw [List.append_assoc] at hr'
      have step : ∃ L, run Cv 57 (.loop keep57_0 body57_0) (head57 r many l.length n) (st57 x ch) = some (.rt, mkE 56 .any ((7, .bool true) :: (6, r') :: L), st57 x (ch ++ ([(l.length + 1, 1)] ++ more))) := by
        rw [run_loop]
        simp (maxSteps := 10000000) [-List.getD_eq_getElem?_getD, -loadA, -partA, -cut, body57_0, keep57_0, head57, hld, hld1, hlen, hlt', hw, hf1, hr1, a1, a2, hr']
        exact ⟨_, rfl⟩
      obtain ⟨L, k1⟩ := step
      exact ⟨L, _, r', k1, hq⟩
end Go.Ai

set_option maxRecDepth 100000
namespace Go.Ai
open Go.Office (Bk Nt)
open Go.Least (fromOf chooseG wrongG)
theorem LRow.out {ch l r} (h : LRow ch l r) : OutRow l r := by
  rcases h with ⟨rfl, h⟩ | ⟨k, hk, rfl⟩
  · exact .inl ⟨rfl, h⟩
  · exact .inr ⟨_, rfl⟩
theorem cut_st57 (x : OB) (ch : List (Nat × Nat)) (e : Env) : cut (st57 x ch) (st57 x ch) e = st57 x ch := cut_self _ _ (by simp [st57]) (by simp [st57])
theorem leave_call (x : OB) (hx : x.Ok) (f : x.Fine) (many : Nat) (hmany : many ≤ x.ns.length) : ∀ (d : Nat) (l : List Int) (r : AV) (ch : List (Nat × Nat)), l.length + d = many → LRow ch l r → (∀ y ∈ l, 0 ≤ y ∧ y < x.ns.length) →
    Chosen ch x (chooseG (okL x) x.ns.length d l) (callA Cv (run Cv) false leaveV [r, I many] (st57 x ch))
  | 0, l, r, ch, hd, hr, hy => by
    have hnc := f.n4
    obtain ⟨r', hp, hrow⟩ := hr.row'
    obtain ⟨hv, tv, o1, o2, ho⟩ := opened_call x hx f l r' hrow (by omega)
    have hlt2 := row_len7 o2
    have hdec : decide (0 < (x.bk.left l).tr.length) = okL x l := by
      unfold okL Go.Office.Bk.okW
      cases (x.bk.left l).tr with
      | nil => rfl
      | cons a l => simp
    have hpx := hx.fr.pur
    have hpx2 := hx.q0.pur
    have hpx3 := hx.q1.pur
    have hpx4 := hx.nr.pur
    have hlen := hr.len
    have hp6 : ∀ ch', loadA (st57 x ch') (some 8) (.box 0 0) = some x.av := fun _ => rfl
    have hxp : ∀ σ n, pur σ (n + 2) x.av = some (x.av, false) := fun σ n => by simp [OB.av, OB.cells, pur, purAll, hpx, hpx2, hpx3, hpx4]
    have hlm : (l.length : Int) = many := by omega
    have hlm' : ((l.length : Int) == many) = true := by simpa using hlm
    have hcut := cut_st57 x ch
    have h43 : fldA none (.agg (bkC x hv tv)) 8 = some tv := rfl
    have step : callA Cv (run Cv) false leaveV [r, I many] (st57 x ch) = some (.tup [r, .bool (okL x l)], st57 x ch) := by
      rw [leaveV, callA_imp (by rfl) (by rfl), body_run comp57 (Nat.le_of_ble_eq_true rfl)]
      simp (maxSteps := 10000000) [-List.getD_eq_getElem?_getD, ret2, ret3, retc2, -loadA, -partA, -cut, -fldA, code57, hlen, hlm', hp6, hxp, hp, ho, h43, hlt2, hdec]
      simp only [cutR, hcut]
    rw [step]
    simp only [chooseG]
    cases hf : okL x l with
    | true => exact ⟨r, [], by rw [List.append_nil], hr.out⟩
    | false => exact ⟨r, rfl⟩
  | d + 1, l, r, ch, hd, hr, hy => by
    have hnc := f.n4
    have hlen := hr.len
    have hcut := cut_st57 x ch
    have hne : ((l.length : Int) == many) = false := by simp; omega
    have ih : ∀ (n : Nat), n < x.ns.length → Chosen (ch ++ [(l.length + 1, 1)]) x (chooseG (okL x) x.ns.length d (l ++ [(n : Int)])) (callA Cv (run Cv) false leaveV [.sl 1 (ints (l ++ [(n : Int)])) (.chain ch.length), I many] (st57 x (ch ++ [(l.length + 1, 1)]))) :=
      fun n hn => leave_call x hx f many hmany d _ _ _ (by simp; omega) (.inr ⟨ch.length, by simp, rfl⟩) (by
        intro y hy'
        rcases List.mem_append.1 hy' with h | h
        · exact hy y h
        · simp only [List.mem_singleton] at h; subst h; omega)
    have hn0 : fromOf l ≤ x.ns.length := by
      unfold fromOf
      split
      · omega
      · rename_i y hyl
        have := hy y (List.mem_of_getLast? hyl)
        omega
    have hent : ∀ (res : Option (AV × St)) , (∀ out, run Cv 57 (.loop keep57_0 body57_0) (head57 r many l.length (fromOf l)) (st57 x ch) = out → cutR (st57 x ch) (endA [(6, none), (7, none)] (thenA (run Cv) 57 (.seq (.ops false [⟨some 6, none, .mov (.cst .nils)⟩, ⟨some 7, none, .mov (.cst (.bool false))⟩]) .ret) (blockA 0 out))) = res) → callA Cv (run Cv) false leaveV [r, I many] (st57 x ch) = res := by
      intro res hres
      have hres' := fun E (hE : mask keep57_0 E = _) => hres _ (run_at (E := E) rfl hE).symm
      rcases List.eq_nil_or_concat l with rfl | ⟨l', y, hly⟩
      · have hf0 : fromOf [] = 0 := rfl
        have e5 : ((0 : Nat) : Int) = 0 := rfl
        simp only [List.length_nil, e5] at hlen hne
        rw [hf0] at hres'
        simp only [head57, keep57_0, List.length_nil, e5] at hres'
        rw [leaveV, callA_imp (by rfl) (by rfl), body_run comp57 (Nat.le_of_ble_eq_true rfl)]
        simp (maxSteps := 10000000) [-List.getD_eq_getElem?_getD, ret2, ret3, retc2, -loadA, -partA, -cut, code57, hlen, hne, keep57_0]
        exact hres' _ (by simp (maxSteps := 10000000) [-List.getD_eq_getElem?_getD, ])
      · have hly : l = l' ++ [y] := by rw [hly]; simp
        subst hly
        have hyy := hy y (by simp)
        have hf0 : fromOf (l' ++ [y]) = (y + 1).toNat := by simp [fromOf]
        have hy1 : ((y + 1).toNat : Int) = y + 1 := by omega
        have hll : ((l' ++ [y]).length : Int) = (l'.length : Int) + 1 := by simp
        rw [hll] at hlen hne
        have hd' : l'.length + 1 + (d + 1) = many := by simpa using hd
        have hw1 : IntKind.wrap .i64 (l'.length : Int) = l'.length := wrap_small (by omega) (by omega)
        have hw2 : IntKind.wrap .i64 (y + 1) = y + 1 := wrap_small (by omega) (by omega)
        have hpos : (l'.length : Int) + 1 > 0 := by omega
        have hix : ixsA 1 r (I (l'.length : Int)) = some (.rp [I y] 0) := by
          rcases hr with ⟨rfl, h⟩ | ⟨k, hk, rfl⟩
          · exact absurd h (by simp)
          · have hlt : (l'.length : Int) < ((ints (l' ++ [y])).length : Int) := by simp [ints]; omega
            simp [ixsA, ints, AV.cells]; omega
        have hlr : loadA (st57 x ch) none (.rp [I y] 0) = some (I y) := rfl
        rw [hf0, hy1] at hres'
        simp only [head57, keep57_0, hll] at hres'
        rw [leaveV, callA_imp (by rfl) (by rfl), body_run comp57 (Nat.le_of_ble_eq_true rfl)]
        simp (maxSteps := 10000000) [-List.getD_eq_getElem?_getD, ret2, ret3, retc2, -loadA, -partA, -cut, -ixsA, code57, hlen, hne, hw1, hw2, hpos, hix, hlr, keep57_0]
        exact hres' _ (by simp (maxSteps := 10000000) [-List.getD_eq_getElem?_getD, ])
    have hl := loop57 x hx (by omega) d many l (by omega) r ch hr ih (x.ns.length - fromOf l) (fromOf l) (by omega) (by omega)
    simp only [chooseG]
    cases hfs : (List.range' (fromOf l) (x.ns.length - fromOf l)).findSome? fun (n : Nat) => chooseG (okL x) x.ns.length d (l ++ [(n : Int)]) with
    | none =>
      rw [hfs] at hl
      obtain ⟨L, h1⟩ := hl
      refine ⟨.nils, hent _ fun out ho => ?_⟩
      rw [← ho, h1]
      simp (maxSteps := 10000000) [-List.getD_eq_getElem?_getD, ret2, ret3, retc2, -cut]
      rw [cutR, hcut]
    | some q =>
      rw [hfs] at hl
      obtain ⟨L, more, y, h1, h4⟩ := hl
      obtain ⟨more', hm⟩ := cut57' x ch more [.tup [y, .bool true]]
      refine ⟨y, more', hent _ fun out ho => ?_, h4⟩
      rw [← ho, h1]
      simp (maxSteps := 10000000) [-List.getD_eq_getElem?_getD, ret2, ret3, retc2, -cut]
      rw [cutR, hm]
def head26 (x : OB) (k : Int) : Env := mkE 36 .any [(19, I k), (18, I ((x.ns.length : Int) + 1)), (5, .box 1 0)]
theorem slc_out {m : List Int} {r : AV} (h : OutRow m r) : lenA r = some (I m.length) := by
  rcases h with ⟨rfl, rfl⟩ | ⟨c, rfl⟩
  · rfl
  · simp [ints]
theorem slc_row {m : List Int} {r : AV} (h : OutRow m r) : ∃ y, IsRow 1 (ints m) y ∧ slcA 1 r none (some (I m.length)) (some (I m.length)) = some y := by
  rcases h with ⟨rfl, rfl⟩ | ⟨c, rfl⟩
  · exact ⟨.nils, nils_row, rfl⟩
  · refine ⟨.sl 1 (ints m) .full, .inr (.inr ⟨.full, rfl, rfl⟩), ?_⟩
    simp [slcA, boundA, ints]
    exact List.take_of_length_le (by simp)
theorem loop26 (x : OB) (hx : x.Ok) (f : x.Fine) : ∀ (n k : Nat), k + n = x.ns.length + 1 →
    match wrongG (okL x) x.ns.length k n with
    | none => ∃ L, run Cv 26 (.loop keep26_0 body26_0) (head26 x k) (st57 x []) = some (.ex 0, mkE 36 .any L, st57 x [])
    | some m => ∃ L more y, run Cv 26 (.loop keep26_0 body26_0) (head26 x k) (st57 x []) = some (.rt, mkE 36 .any ((3, I 0) :: (2, y) :: L), st57 x more) ∧ IsRow 1 (ints m) y
  | 0, k, hk => by
    have h1 : ¬ (k : Int) < (x.ns.length : Int) + 1 := by omega
    simp only [wrongG]
    rw [run_loop]
    simp (maxSteps := 10000000) [-List.getD_eq_getElem?_getD, body26_0, keep26_0, head26, st57, h1]
    exact ⟨_, rfl⟩
  | n + 1, k, hk => by
    have hnc := f.n4
    have hlt : (k : Int) < (x.ns.length : Int) + 1 := by omega
    have hw : IntKind.wrap .i64 ((k : Int) + 1) = k + 1 := wrap_small (by omega) (by omega)
    have hch := leave_call x hx f k (by omega) k [] .nils [] (by simp) (.inl ⟨rfl, rfl⟩) (by simp)
    have hld1 : ∀ ch', loadA (st57 x ch') none (.box 1 0) = some leaveV := fun _ => rfl
    simp only [wrongG]
    cases hm : chooseG (okL x) x.ns.length k [] with
    | none =>
      rw [hm] at hch
      obtain ⟨r, hr⟩ := hch
      have step : run Cv 26 (.loop keep26_0 body26_0) (head26 x k) (st57 x []) = run Cv 26 (.loop keep26_0 body26_0) (head26 x (k + 1)) (st57 x []) := by
        rw [run_loop]
        generalize MC.loop keep26_0 body26_0 = L
        simp (maxSteps := 10000000) [-List.getD_eq_getElem?_getD, -loadA, -cut, body26_0, keep26_0, head26, hld1, hlt, hw, hr]
        rw [cut_st57]
      rw [step]
      have := loop26 x hx f n (k + 1) (by omega)
      simpa using this
    | some m =>
      rw [hm] at hch
      obtain ⟨r, more, hr, hq⟩ := hch
      rw [List.nil_append] at hr
      have s1 := slc_out hq
      obtain ⟨y, g1, s2⟩ := slc_row hq
      have step : ∃ L, run Cv 26 (.loop keep26_0 body26_0) (head26 x k) (st57 x []) = some (.rt, mkE 36 .any ((3, I 0) :: (2, y) :: L), st57 x more) := by
        rw [run_loop]
        simp (maxSteps := 10000000) [-List.getD_eq_getElem?_getD, -loadA, -cut, body26_0, keep26_0, head26, hld1, hlt, hw, hr, s1, s2]
        exact ⟨_, rfl⟩
      obtain ⟨L, k1⟩ := step
      exact ⟨L, more, y, k1, g1⟩
def wrongA (x : OB) : List Int := if checkB x then x.bk.wrongL else []
theorem Wrong_call (x : OB) (hx : x.Ok) : ∃ y, IsRow 1 (ints (wrongA x)) y ∧ call Cv 26 [x.av] = some (.tup [y, I (if checkB x then 0 else 10)]) := by
  have h1 := check_call x hx
  have p1 := hx.fr.cell
  have p2 := hx.q0.cell
  have p3 := hx.q1.cell
  have p4 := hx.nr.cell
  have q1 := hx.fr.pur
  have q2 := hx.q0.pur
  have q3 := hx.q1.pur
  have q4 := hx.nr.pur
  have hlen := nlen hx
  cases hc : checkB x with
  | false =>
    rw [hc] at h1
    simp only [OB.av, OB.cells] at h1
    refine ⟨.nils, by simp [wrongA, hc]; exact nils_row, ?_⟩
    rw [call_run comp26 (Nat.le_of_ble_eq_true rfl)]
    simp (maxSteps := 10000000) [-List.getD_eq_getElem?_getD, code26, OB.av, OB.cells, p1, p2, p3, p4, q1, q2, q3, q4, h1, ret2]
  | true =>
    rw [hc] at h1
    have f := check_fine hc
    have hnc := f.n4
    have hw : IntKind.wrap .i64 ((x.ns.length : Int) + 1) = x.ns.length + 1 := wrap_small (by omega) (by omega)
    have hl := loop26 x hx f (x.ns.length + 1) 0 (by omega)
    have e5 : ((0 : Nat) : Int) = 0 := rfl
    have hwr : wrongG (okL x) x.ns.length 0 (x.ns.length + 1) = some x.bk.wrongL := (Go.Office.wrong_told f.bk (by have := f.n4; show x.ns.length ≤ 62; omega)).1
    rw [hwr] at hl
    obtain ⟨L, more, y, g1, g2⟩ := hl
    have g4 := g2.pur
    have g' := fun E (hE : mask keep26_0 E = _) => run_at g1 hE
    simp only [keep26_0, head26, st57, e5, leaveV, OB.cells] at g'
    simp only [OB.av, OB.cells] at h1
    refine ⟨y, by simpa [wrongA, hc] using g2, ?_⟩
    rw [call_run comp26 (Nat.le_of_ble_eq_true rfl)]
    simp (maxSteps := 10000000) [-List.getD_eq_getElem?_getD, code26, OB.av, OB.cells, p1, p2, p3, p4, q1, q2, q3, q4, h1, hlen, hw, keep26_0, g', g4, ret2]
end Go.Ai
