/- This text shows what Wrong and Bar answer. No conditions of its own. -/
import Derived.Test.YtogfbfpinhcajaaDoorFnD
import Derived.Test.YtogfbfpinhcajaaDoorLeast
set_option linter.unusedSimpArgs false
set_option linter.unusedVariables false
set_option maxRecDepth 100000
set_option linter.unusedSimpArgs false
set_option linter.unusedVariables false
/-! But some. -/
namespace Go.Ai
open Go.Part (Sp Cp Bk at' okP rightK stepOk moveOk dfs places vals truths cnt worst maxTo)
def head105 (r : AV) (n v k : Int) : Env := mkE 19 .any [(8, I k), (7, I n), (1, I v), (0, r)]
theorem loop105 (l0 : List Int) (r : AV) (hr : IsRow 1 (ints l0) r) (hl : l0.length < 2 ^ 47) (v : Int) : ∀ (l : List Int) (k : Nat), k ≤ l0.length → l0.drop k = l →
    ∃ L, (run Cv 105 (.loop keep105_0 body105_0) (head105 r l0.length v k) {} = some (.ex 0, mkE 19 .any L, {}) ∧ decide (v ∈ l) = false) ∨
      (∃ j : Nat, run Cv 105 (.loop keep105_0 body105_0) (head105 r l0.length v k) {} = some (.rt, mkE 19 .any ((4, I j) :: L), {}) ∧ decide (v ∈ l) = true)
  | [], k, hk, h => by
    obtain rfl := drop_nil hk h
    have key : ∃ L, run Cv 105 (.loop keep105_0 body105_0) (head105 r l0.length v l0.length) {} = some (.ex 0, mkE 19 .any L, {}) := by
      rw [run_loop]
      simp (maxSteps := 10000000) [-List.getD_eq_getElem?_getD, body105_0, keep105_0, head105]
      exact ⟨_, rfl⟩
    obtain ⟨L, hL⟩ := key
    exact ⟨L, .inl ⟨hL, by simp⟩⟩
  | a :: l, k, hk, h => by
    obtain ⟨hlt, ha, hd⟩ := head_drop h
    have hw := wrap_succ hlt hl
    have hu := hr.under
    obtain ⟨c, hc, rfl⟩ := row_sl hr (by rintro rfl; simp at hlt)
    simp only [ints] at hu
    by_cases hp : v = a
    · have key : ∃ L, run Cv 105 (.loop keep105_0 body105_0) (head105 (.sl 1 (ints l0) c) l0.length v k) {} = some (.rt, mkE 19 .any ((4, I k) :: L), {}) := by
        rw [run_loop]
        simp (maxSteps := 10000000) [-List.getD_eq_getElem?_getD, body105_0, keep105_0, head105, ints, hlt, ha, hp]
        exact ⟨_, rfl⟩
      obtain ⟨L, hL⟩ := key
      exact ⟨L, .inr ⟨k, hL, by simp [hp]⟩⟩
    · have hp' : (v == a) = false := by simpa using hp
      have key : run Cv 105 (.loop keep105_0 body105_0) (head105 (.sl 1 (ints l0) c) l0.length v k) {} = run Cv 105 (.loop keep105_0 body105_0) (head105 (.sl 1 (ints l0) c) l0.length v (k + 1)) {} := by
        rw [run_loop]
        generalize MC.loop keep105_0 body105_0 = L
        simp (maxSteps := 10000000) [-List.getD_eq_getElem?_getD, body105_0, keep105_0, head105, ints, hlt, ha, hp', hw, hu]
      rw [key]
      have := loop105 l0 _ hr hl v l (k + 1) hlt hd
      simp only [List.mem_cons, hp, false_or]
      exact this
theorem contains98_call (l : List Int) (r : AV) (hr : IsRow 1 (ints l) r) (hl : l.length < 2 ^ 47) (v : Int) : call Cv 98 [r, I v] = some (.bool (decide (v ∈ l))) := by
  have h1 := row_len hr
  have e5 : ((0 : Nat) : Int) = 0 := rfl
  have hx : ∃ j : Int, call Cv 105 [r, I v] = some (I j) ∧ decide (j ≥ 0) = decide (v ∈ l) := by
    obtain ⟨L, h⟩ := loop105 l r hr hl v l 0 (Nat.zero_le _) rfl
    rcases h with ⟨h, hi⟩ | ⟨j, h, hi⟩
    · refine ⟨-1, ?_, by rw [hi]; rfl⟩
      have h' := fun E (hE : mask keep105_0 E = _) => run_at h hE
      simp only [keep105_0, head105, e5] at h'
      rw [call_run comp105 (Nat.le_of_ble_eq_true rfl)]
      simp (maxSteps := 10000000) [-List.getD_eq_getElem?_getD, code105, keep105_0, h', h1]
    · refine ⟨j, ?_, by rw [hi]; simp⟩
      have h' := fun E (hE : mask keep105_0 E = _) => run_at h hE
      simp only [keep105_0, head105, e5] at h'
      rw [call_run comp105 (Nat.le_of_ble_eq_true rfl)]
      simp (maxSteps := 10000000) [-List.getD_eq_getElem?_getD, code105, keep105_0, h', h1]
  obtain ⟨j, h, hj⟩ := hx
  have p1 := hr.pur
  rw [call_run comp98 (Nat.le_of_ble_eq_true rfl)]
  simp (maxSteps := 10000000) [-List.getD_eq_getElem?_getD, code98, h, p1, ← hj]
def butF (l : List Int) : Nat → Bool := fun k => decide ((k : Int) ∈ l)
def butV (r : AV) : AV := .fn (.func 97) [] [.rp [r] 0]
theorem but_lf (l : List Int) (r : AV) (hr : IsRow 1 (ints l) r) (hl : l.length < 2 ^ 47) (m : Nat) : Lf (butV r) (butF l) m where
  cell := rfl
  cells := rfl
  under _ _ _ _ _ := rfl
  call k σ _ := by
    have h0 := contains98_call l r hr hl k
    have p1 := hr.pur
    have h : call Cv 97 [I k, .rp [r] 0] = some (.bool (decide ((k : Int) ∈ l))) := by
      rw [call_run comp97 (Nat.le_of_ble_eq_true rfl)]
      simp (maxSteps := 10000000) [-List.getD_eq_getElem?_getD, code97, h0, p1]
    simp (maxSteps := 10000000) [-List.getD_eq_getElem?_getD, butV, h, butF, p1]
theorem but_call (r : AV) (hc : r.isCell = true) (hcs : r.cells = [r]) (hp : ∀ σ n, pur σ (n + 1) r = some (r, false)) : call Cv 81 [r] = some (.agg [butV r]) := by
  rw [call_run comp81 (Nat.le_of_ble_eq_true rfl)]
  simp (maxSteps := 10000000) [-List.getD_eq_getElem?_getD, code81, butV, fillA, setAt, hc, hcs, hp]
theorem opened_but (x : PB) (hx : x.Ok) (h : Chk x) (l : List Int) (r : AV) (hr : IsRow 1 (ints l) r) (hl : l.length < 2 ^ 47) : call Cv 65 [x.av, .agg [butV r]] = some (openV x (mapOf x (butF l)) (Ps x (butF l))) := opened_call x hx h _ _ (but_lf l r hr hl _)
end Go.Ai

set_option maxRecDepth 100000
set_option linter.unusedSimpArgs false
set_option linter.unusedVariables false
/-! Wrong. -/
namespace Go.Ai
open Go.Part (Sp Cp Bk at' okP rightK stepOk moveOk dfs places vals truths cnt worst maxTo)
open Go.Least (fromOf chooseG wrongG)
def okL (x : PB) (l : List Int) : Bool := decide (Ts x (butF l) ≠ [])
def LRow (ch : List (Nat × Nat)) (l : List Int) (r : AV) : Prop := (r = .nils ∧ l = []) ∨ ∃ c, c < ch.length ∧ r = .sl 1 (ints l) (.chain c)
def leaveV : AV := .fn (.func 80) [] [.box 0 0, .box 1 0]
def st80 (x : PB) (ch : List (Nat × Nat)) : St := { boxes := [x.cells, [leaveV]], chains := ch }
def head80 (r : AV) (many k n : Int) : Env := mkE 57 .any [(10, I n), (8, I k), (3, .box 1 0), (2, .box 0 0), (1, I many), (0, r)]
theorem LRow.under {ch l r} (h : LRow ch l r) (a b c d n : Nat) (hb : ch.length ≤ b) : Ai.under a b c d (n + 1) r = true := by
  rcases h with ⟨rfl, _⟩ | ⟨k, hk, rfl⟩
  · rfl
  · simp only [Ai.under, decide_eq_true_eq]; omega
theorem LRow.len {ch l r} (h : LRow ch l r) : lenA r = some (I l.length) := by
  rcases h with ⟨rfl, h⟩ | ⟨k, hk, rfl⟩
  · rw [h]; rfl
  · simp [ints]
theorem LRow.row' {ch l r} (h : LRow ch l r) : ∃ r', (∀ σ n, pur σ (n + 1) r = some (r', false)) ∧ IsRow 1 (ints l) r' ∧ r'.isCell = true ∧ r'.cells = [r'] ∧ ∀ σ n, pur σ (n + 1) r' = some (r', false) := by
  rcases h with ⟨rfl, h⟩ | ⟨k, hk, rfl⟩
  · exact ⟨.nils, fun _ _ => rfl, .inl ⟨rfl, by rw [h]; rfl⟩, rfl, rfl, fun _ _ => rfl⟩
  · exact ⟨.sl 1 (ints l) .no, fun _ _ => rfl, .inr (.inr ⟨.no, rfl, rfl⟩), rfl, rfl, fun _ _ => rfl⟩
def OutRow (m : List Int) (r : AV) : Prop := (r = .nils ∧ m = []) ∨ ∃ c, r = .sl 1 (ints m) (.chain c)
/-- What a choice comes to. -/
def Chosen (ch : List (Nat × Nat)) (x : PB) (res : Option (List Int)) (out : Option (AV × St)) : Prop := match res with
  | none => ∃ r, out = some (.tup [r, .bool false], st80 x ch)
  | some m => ∃ r σ, out = some (.tup [r, .bool true], σ) ∧ OutRow m r
theorem app80 (x : PB) (ch : List (Nat × Nat)) (l : List Int) (hl : l.length < 1000) (r : AV) (hr : LRow ch l r) (n : Int) :
    ∃ y, slcA 1 r none (some (I l.length)) (some (I l.length)) = some y ∧ appA (st80 x ch) false 1 8 false y (.sl 1 [I n] .full) = some (.sl 1 (ints (l ++ [n])) (.chain ch.length), st80 x (ch ++ [(l.length + 1, 1)])) := by
  rcases hr with ⟨rfl, rfl⟩ | ⟨k, hk, rfl⟩
  · exact ⟨.nils, rfl, by simp [appA, elemsA, grown, st80, ints]⟩
  · refine ⟨.sl 1 (ints l) .full, ?_, ?_⟩
    · simp [slcA, boundA, ints]
      exact List.take_of_length_le (by simp)
    · have : (l.length + 1) * 8 ≤ 140737488355328 := by omega
      simp [appA, elemsA, grown, st80, ints, this]
theorem cut80 (x : PB) (hx : x.Ok) (ch more : List (Nat × Nat)) (e : Env) (he : e.all (under 2 ch.length 0 0 6) = true) : cut (st80 x ch) (st80 x (ch ++ more)) e = st80 x ch := by
  have h2 := hx.vrow.under 2 ch.length 0 0 5
  have h3 := hx.crow.under 2 ch.length 0 0 5
  unfold cut
  rw [if_pos]
  · simp [cutAt, st80]
  · simp only [dryAt, st80]
    simp [-cut, -List.all_eq_true, he, PB.cells, under, leaveV, h2, h3]
theorem loop80 (x : PB) (hx : x.Ok) (hT : x.copies.length < 100) (d : Nat) (many : Int) (l : List Int) (hl : l.length < 100) (r : AV) (ch : List (Nat × Nat)) (hr : LRow ch l r)
    (ih : ∀ (n : Nat), n < x.copies.length → Chosen (ch ++ [(l.length + 1, 1)]) x (chooseG (okL x) x.copies.length d (l ++ [(n : Int)])) (callA Cv (run Cv) false leaveV [.sl 1 (ints (l ++ [(n : Int)])) (.chain ch.length), I many] (st80 x (ch ++ [(l.length + 1, 1)])))) :
    ∀ (m n : Nat), n + m = x.copies.length ∨ (m = 0 ∧ x.copies.length ≤ n) → n < 1000 →
      match (List.range' n m).findSome? fun (n : Nat) => chooseG (okL x) x.copies.length d (l ++ [(n : Int)]) with
      | none => ∃ L, run Cv 80 (.loop keep80_0 body80_0) (head80 r many l.length n) (st80 x ch) = some (.ex 0, mkE 57 .any L, st80 x ch)
      | some q => ∃ L σ y, run Cv 80 (.loop keep80_0 body80_0) (head80 r many l.length n) (st80 x ch) = some (.rt, mkE 57 .any ((7, .bool true) :: (6, y) :: L), σ) ∧ OutRow q y
  | 0, n, hn, hn' => by
    have h1 : ¬ (n : Int) < x.copies.length := by omega
    simp only [List.range'_zero, List.findSome?_nil]
    have hlen := clen hx
    rw [run_loop]
    simp (maxSteps := 10000000) [-List.getD_eq_getElem?_getD, body80_0, keep80_0, head80, st80, PB.cells, hlen, h1]
    exact ⟨_, rfl⟩
  | m + 1, n, hn, hn' => by
    have hlt : n < x.copies.length := by omega
    have hlt' : (n : Int) < x.copies.length := by omega
    have hlen := clen hx
    have hw : IntKind.wrap .i64 ((n : Int) + 1) = n + 1 := wrap_small (by omega) (by omega)
    obtain ⟨y, a1, a2⟩ := app80 x ch l (by omega) r hr n
    have hih := ih n hlt
    have hld : ∀ ch' nn off, loadA (st80 x ch') nn (.box 0 off) = partA nn x.cells off := fun _ _ _ => rfl
    have hld1 : ∀ ch', loadA (st80 x ch') none (.box 1 0) = some leaveV := fun _ => rfl
    have hp5 : partA none x.cells 5 = some x.cr := rfl
    have hf1 : fillE 1 false [(0, I (n : Int))] [I 0] = some [I (n : Int)] := rfl
    have hr1 : List.replicate 1 (I 0) = [I 0] := rfl
    rw [List.range'_succ, List.findSome?_cons]
    cases hc : chooseG (okL x) x.copies.length d (l ++ [(n : Int)]) with
    | none =>
      rw [hc] at hih
      obtain ⟨r', hr'⟩ := hih
      have hcut := cut80 x hx ch [(l.length + 1, 1)]
      have hru := hr.under 2 ch.length 0 0 5 (Nat.le_refl _)
      have key : run Cv 80 (.loop keep80_0 body80_0) (head80 r many l.length n) (st80 x ch) = run Cv 80 (.loop keep80_0 body80_0) (head80 r many l.length (n + 1)) (st80 x ch) := by
        rw [run_loop]
        generalize MC.loop keep80_0 body80_0 = L
        simp (maxSteps := 10000000) [-List.getD_eq_getElem?_getD, -loadA, -partA, -cut, body80_0, keep80_0, head80, hld, hld1, hp5, hlen, hlt', hw, hf1, hr1, a1, a2, hr']
        rw [hcut]
        simp (maxSteps := 10000000) [-List.getD_eq_getElem?_getD, hru]
      rw [key]
      have := loop80 x hx hT d many l hl r ch hr ih m (n + 1) (by omega) (by omega)
      simpa using this
    | some q =>
      rw [hc] at hih
      obtain ⟨r', σ', hr', hq⟩ := hih
      simp only
      have key : ∃ L, run Cv 80 (.loop keep80_0 body80_0) (head80 r many l.length n) (st80 x ch) = some (.rt, mkE 57 .any ((7, .bool true) :: (6, r') :: L), σ') := by
        rw [run_loop]
        simp (maxSteps := 10000000) [-List.getD_eq_getElem?_getD, -loadA, -partA, -cut, body80_0, keep80_0, head80, hld, hld1, hp5, hlen, hlt', hw, hf1, hr1, a1, a2, hr']
        exact ⟨_, rfl⟩
      obtain ⟨L, k1⟩ := key
      exact ⟨L, σ', r', k1, hq⟩
end Go.Ai

set_option maxRecDepth 100000
set_option linter.unusedSimpArgs false
set_option linter.unusedVariables false
/-! Wrong as a whole. -/
namespace Go.Ai
open Go.Part (Sp Cp Bk at' okP rightK stepOk moveOk dfs places vals truths cnt worst maxTo)
open Go.Least (fromOf chooseG wrongG)
theorem LRow.out {ch l r} (h : LRow ch l r) : OutRow l r := by
  rcases h with ⟨rfl, h⟩ | ⟨k, hk, rfl⟩
  · exact .inl ⟨rfl, h⟩
  · exact .inr ⟨_, rfl⟩
theorem cut_st80 (x : PB) (ch : List (Nat × Nat)) (e : Env) : cut (st80 x ch) (st80 x ch) e = st80 x ch := cut_self _ _ (by simp [st80]) (by simp [st80])
theorem leave_call (x : PB) (hx : x.Ok) (hc : checkOk x = true) (many : Nat) (hmany : many ≤ x.copies.length) : ∀ (d : Nat) (l : List Int) (r : AV) (ch : List (Nat × Nat)), l.length + d = many → LRow ch l r → (∀ y ∈ l, 0 ≤ y ∧ y < x.copies.length) →
    Chosen ch x (chooseG (okL x) x.copies.length d l) (callA Cv (run Cv) false leaveV [r, I many] (st80 x ch))
  | 0, l, r, ch, hd, hr, hy => by
    have hk := chk_of hc
    have hnc := hk.nc
    obtain ⟨r', hp, hrow, hrc, hrcs, hrp⟩ := hr.row'
    have ho := opened_but x hx hk l r' hrow (by omega)
    have hb := but_call r' hrc hrcs hrp
    have hlen := hr.len
    have hld : ∀ ch' nn off, loadA (st80 x ch') nn (.box 0 off) = partA nn x.cells off := fun _ _ _ => rfl
    have hp6 : partA (some 6) x.cells 0 = some x.av := rfl
    have hxp : ∀ σ n, pur σ (n + 2) x.av = some (x.av, false) := fun σ n => by
      simp [PB.av, PB.cells, pur, purAll, hx.vrow.pur, hx.crow.pur]
    have hlm : (l.length : Int) = many := by omega
    have hlm' : ((l.length : Int) == many) = true := by simpa using hlm
    have hbp : ∀ σ n, pur σ (n + 2) (butV r') = some (butV r', false) := fun σ n => by simp [butV, pur, purAll]
    have hlT := tP_len (Ps x (butF l))
    have hcut := cut_st80 x ch
    have hpos : decide (((Ps x (butF l)).length : Int) > 0) = okL x l := by
      rw [okL, decide_eq_decide]
      rw [show (Ps x (butF l)).length = (Ts x (butF l)).length from by simp [Ps], ← List.length_pos_iff]; omega
    have h7 : fldA none (openV x (mapOf x (butF l)) (Ps x (butF l))) 7 = some (tP (Ps x (butF l))) := rfl
    have key : callA Cv (run Cv) false leaveV [r, I many] (st80 x ch) = some (.tup [r, .bool (okL x l)], st80 x ch) := by
      rw [leaveV, callA_imp (by rfl), body_run comp80 (Nat.le_of_ble_eq_true rfl)]
      simp (maxSteps := 10000000) [-List.getD_eq_getElem?_getD, ret2, ret3, retc2, -loadA, -partA, -cut, -fldA, code80, hlen, hlm', hld, hp6, hxp, hp, hb, hbp, ho, h7, hlT]
      simp only [cutR, hcut]
      rw [← hpos]
      simp
    rw [key]
    simp only [chooseG]
    cases hf : okL x l with
    | true => exact ⟨r, st80 x ch, rfl, hr.out⟩
    | false => exact ⟨r, rfl⟩
  | d + 1, l, r, ch, hd, hr, hy => by
    have hk := chk_of hc
    have hnc := hk.nc
    have hlen := hr.len
    have hcut := cut_st80 x ch
    have hne : ((l.length : Int) == many) = false := by simp; omega
    have ih : ∀ (n : Nat), n < x.copies.length → Chosen (ch ++ [(l.length + 1, 1)]) x (chooseG (okL x) x.copies.length d (l ++ [(n : Int)])) (callA Cv (run Cv) false leaveV [.sl 1 (ints (l ++ [(n : Int)])) (.chain ch.length), I many] (st80 x (ch ++ [(l.length + 1, 1)]))) :=
      fun n hn => leave_call x hx hc many hmany d _ _ _ (by simp; omega) (.inr ⟨ch.length, by simp, rfl⟩) (by
        intro y hy'
        rcases List.mem_append.1 hy' with h | h
        · exact hy y h
        · simp only [List.mem_singleton] at h; subst h; omega)
    have hn0 : fromOf l ≤ x.copies.length := by
      unfold fromOf
      split
      · omega
      · rename_i y hyl
        have := hy y (List.mem_of_getLast? hyl)
        omega
    have hent : ∀ (res : Option (AV × St)) , (∀ out, run Cv 80 (.loop keep80_0 body80_0) (head80 r many l.length (fromOf l)) (st80 x ch) = out → cutR (st80 x ch) (endA [(6, none), (7, none)] (thenA (run Cv) 80 (.seq (.ops false [⟨some 6, none, .mov (.cst .nils)⟩, ⟨some 7, none, .mov (.cst (.bool false))⟩]) .ret) (blockA 0 out))) = res) → callA Cv (run Cv) false leaveV [r, I many] (st80 x ch) = res := by
      intro res hres
      have hres' := fun E (hE : mask keep80_0 E = _) => hres _ (run_at (E := E) rfl hE).symm
      rcases List.eq_nil_or_concat l with rfl | ⟨l', y, hly⟩
      · have hf0 : fromOf [] = 0 := rfl
        have e5 : ((0 : Nat) : Int) = 0 := rfl
        simp only [List.length_nil, e5] at hlen hne
        rw [hf0] at hres'
        simp only [head80, keep80_0, List.length_nil, e5] at hres'
        rw [leaveV, callA_imp (by rfl), body_run comp80 (Nat.le_of_ble_eq_true rfl)]
        simp (maxSteps := 10000000) [-List.getD_eq_getElem?_getD, ret2, ret3, retc2, -loadA, -partA, -cut, code80, hlen, hne, keep80_0]
        exact hres' _ (by simp (maxSteps := 10000000) [-List.getD_eq_getElem?_getD, ])
      · have hly : l = l' ++ [y] := by rw [hly]; simp
        subst hly
        have hyy := hy y (by simp)
        have hf0 : fromOf (l' ++ [y]) = (y + 1).toNat := by simp [fromOf]
        have hy1 : ((y + 1).toNat : Int) = y + 1 := by omega
        have hll : ((l' ++ [y]).length : Int) = (l'.length : Int) + 1 := by simp
        rw [hll] at hlen hne
        have hd' : l'.length + 1 + (d + 1) = many := by simpa using hd
        have hw1 : IntKind.wrap .i64 (l'.length : Int) = l'.length := wrap_small (by omega) (by omega)
        have hw2 : IntKind.wrap .i64 (y + 1) = y + 1 := wrap_small (by omega) (by omega)
        have hpos : (l'.length : Int) + 1 > 0 := by omega
        have hix : ixsA 1 r (I (l'.length : Int)) = some (.rp [I y] 0) := by
          rcases hr with ⟨rfl, h⟩ | ⟨k, hk, rfl⟩
          · exact absurd h (by simp)
          · have hlt : (l'.length : Int) < ((ints (l' ++ [y])).length : Int) := by simp [ints]; omega
            simp [ixsA, ints, AV.cells]; omega
        have hlr : loadA (st80 x ch) none (.rp [I y] 0) = some (I y) := rfl
        rw [hf0, hy1] at hres'
        simp only [head80, keep80_0, hll] at hres'
        rw [leaveV, callA_imp (by rfl), body_run comp80 (Nat.le_of_ble_eq_true rfl)]
        simp (maxSteps := 10000000) [-List.getD_eq_getElem?_getD, ret2, ret3, retc2, -loadA, -partA, -cut, -ixsA, code80, hlen, hne, hw1, hw2, hpos, hix, hlr, keep80_0]
        exact hres' _ (by simp (maxSteps := 10000000) [-List.getD_eq_getElem?_getD, ])
    have hl := loop80 x hx (by omega) d many l (by omega) r ch hr ih (x.copies.length - fromOf l) (fromOf l) (by omega) (by omega)
    simp only [chooseG]
    cases hfs : (List.range' (fromOf l) (x.copies.length - fromOf l)).findSome? fun (n : Nat) => chooseG (okL x) x.copies.length d (l ++ [(n : Int)]) with
    | none =>
      rw [hfs] at hl
      obtain ⟨L, h1⟩ := hl
      refine ⟨.nils, hent _ fun out ho => ?_⟩
      rw [← ho, h1]
      simp (maxSteps := 10000000) [-List.getD_eq_getElem?_getD, ret2, ret3, retc2, -cut]
      rw [cutR, hcut]
    | some q =>
      rw [hfs] at hl
      obtain ⟨L, σ, y, h1, h4⟩ := hl
      refine ⟨y, cut (st80 x ch) σ [.tup [y, .bool true]], hent _ fun out ho => ?_, h4⟩
      rw [← ho, h1]
      simp (maxSteps := 10000000) [-List.getD_eq_getElem?_getD, ret2, ret3, retc2, -cut]
      rw [cutR]
def head33 (T k : Int) : Env := mkE 36 .any [(19, I k), (18, I T), (5, .box 1 0)]
theorem slc_out {m : List Int} {r : AV} (h : OutRow m r) : lenA r = some (I m.length) := by
  rcases h with ⟨rfl, rfl⟩ | ⟨c, rfl⟩
  · rfl
  · simp [ints]
theorem slc_row {m : List Int} {r : AV} (h : OutRow m r) : ∃ y, IsRow 1 (ints m) y ∧ y.isCell = true ∧ (∀ σ n, pur σ (n + 1) y = some (y, false)) ∧ slcA 1 r none (some (I m.length)) (some (I m.length)) = some y := by
  rcases h with ⟨rfl, rfl⟩ | ⟨c, rfl⟩
  · exact ⟨.nils, nils_row, rfl, fun _ _ => rfl, rfl⟩
  · refine ⟨.sl 1 (ints m) .full, .inr (.inr ⟨.full, rfl, rfl⟩), rfl, fun _ _ => rfl, ?_⟩
    simp [slcA, boundA, ints]
    exact List.take_of_length_le (by simp)
theorem loop33 (x : PB) (hx : x.Ok) (hc : checkOk x = true) : ∀ (n k : Nat), k + n = x.copies.length + 1 →
    match wrongG (okL x) x.copies.length k n with
    | none => ∃ L, run Cv 33 (.loop keep33_0 body33_0) (head33 (x.copies.length + 1) k) (st80 x []) = some (.ex 0, mkE 36 .any L, st80 x [])
    | some m => ∃ L σ y, run Cv 33 (.loop keep33_0 body33_0) (head33 (x.copies.length + 1) k) (st80 x []) = some (.rt, mkE 36 .any ((3, I 0) :: (2, y) :: L), σ) ∧ IsRow 1 (ints m) y ∧ y.isCell = true ∧ ∀ σ n, pur σ (n + 1) y = some (y, false)
  | 0, k, hk => by
    have h1 : ¬ (k : Int) < (x.copies.length : Int) + 1 := by omega
    simp only [wrongG]
    rw [run_loop]
    simp (maxSteps := 10000000) [-List.getD_eq_getElem?_getD, body33_0, keep33_0, head33, st80, h1]
    exact ⟨_, rfl⟩
  | n + 1, k, hk => by
    have hnc := (chk_of hc).nc
    have hlt : (k : Int) < (x.copies.length : Int) + 1 := by omega
    have hw : IntKind.wrap .i64 ((k : Int) + 1) = k + 1 := wrap_small (by omega) (by omega)
    have hch := leave_call x hx hc k (by omega) k [] .nils [] (by simp) (.inl ⟨rfl, rfl⟩) (by simp)
    have hld1 : ∀ ch', loadA (st80 x ch') none (.box 1 0) = some leaveV := fun _ => rfl
    simp only [wrongG]
    cases hm : chooseG (okL x) x.copies.length k [] with
    | none =>
      rw [hm] at hch
      obtain ⟨r, hr⟩ := hch
      have key : run Cv 33 (.loop keep33_0 body33_0) (head33 (x.copies.length + 1) k) (st80 x []) = run Cv 33 (.loop keep33_0 body33_0) (head33 (x.copies.length + 1) (k + 1)) (st80 x []) := by
        rw [run_loop]
        generalize MC.loop keep33_0 body33_0 = L
        simp (maxSteps := 10000000) [-List.getD_eq_getElem?_getD, -loadA, -cut, body33_0, keep33_0, head33, hld1, hlt, hw, hr]
        rw [cut_st80]
      rw [key]
      have := loop33 x hx hc n (k + 1) (by omega)
      simpa using this
    | some m =>
      rw [hm] at hch
      obtain ⟨r, σ, hr, hq⟩ := hch
      have s1 := slc_out hq
      obtain ⟨y, g1, g2, g3, s2⟩ := slc_row hq
      have key : ∃ L, run Cv 33 (.loop keep33_0 body33_0) (head33 (x.copies.length + 1) k) (st80 x []) = some (.rt, mkE 36 .any ((3, I 0) :: (2, y) :: L), σ) := by
        rw [run_loop]
        simp (maxSteps := 10000000) [-List.getD_eq_getElem?_getD, -loadA, -cut, body33_0, keep33_0, head33, hld1, hlt, hw, hr, s1, s2]
        exact ⟨_, rfl⟩
      obtain ⟨L, k1⟩ := key
      exact ⟨L, σ, y, k1, g1, g2, g3⟩
def wrongO (x : PB) : Option (List Int) := if checkOk x then wrongG (okL x) x.copies.length 0 (x.copies.length + 1) else none
def wrongL (x : PB) : List Int := (wrongO x).getD []
def wrongE (x : PB) : Int := if checkOk x then (if (wrongO x).isSome then 0 else 52) else 50
theorem wrongP_call (x : PB) (hx : x.Ok) : ∃ y, IsRow 1 (ints (wrongL x)) y ∧ y.isCell = true ∧ (∀ σ n, pur σ (n + 1) y = some (y, false)) ∧ call Cv 33 [x.av] = some (.tup [y, I (wrongE x)]) := by
  have h1 := check_call x hx
  have hvc := hx.vrow.cell
  have hcc := hx.crow.cell
  have hvp := hx.vrow.pur
  have hcp := hx.crow.pur
  have hlen := clen hx
  simp only [PB.av, PB.cells] at h1
  cases hc : checkOk x with
  | false =>
    rw [hc] at h1
    simp only [Bool.false_eq_true, if_false] at h1
    refine ⟨.nils, by simp [wrongL, wrongO, hc]; exact nils_row, rfl, fun _ _ => rfl, ?_⟩
    rw [call_run comp33 (Nat.le_of_ble_eq_true rfl)]
    simp (maxSteps := 10000000) [-List.getD_eq_getElem?_getD, ret2, ret3, retc2, code33, PB.av, PB.cells, hvc, hcc, hvp, hcp, h1, wrongE, hc]
  | true =>
    rw [hc] at h1
    simp only [if_true] at h1
    have hnc := (chk_of hc).nc
    have hw : IntKind.wrap .i64 ((x.copies.length : Int) + 1) = x.copies.length + 1 := wrap_small (by omega) (by omega)
    have hl := loop33 x hx hc (x.copies.length + 1) 0 (by omega)
    have e5 : ((0 : Nat) : Int) = 0 := rfl
    cases hwr : wrongG (okL x) x.copies.length 0 (x.copies.length + 1) with
    | none =>
      rw [hwr] at hl
      obtain ⟨L, g1⟩ := hl
      have g' := fun E (hE : mask keep33_0 E = _) => run_at g1 hE
      simp only [keep33_0, head33, st80, PB.cells, e5, leaveV] at g'
      refine ⟨.nils, by simp [wrongL, wrongO, hc, hwr]; exact nils_row, rfl, fun _ _ => rfl, ?_⟩
      rw [call_run comp33 (Nat.le_of_ble_eq_true rfl)]
      simp (maxSteps := 10000000) [-List.getD_eq_getElem?_getD, ret2, ret3, retc2, code33, PB.av, PB.cells, hvc, hcc, hvp, hcp, h1, hlen, hw, keep33_0, g', wrongE, wrongO, hc, hwr]
    | some m =>
      rw [hwr] at hl
      obtain ⟨L, σ, y, g1, g2, g3, g4⟩ := hl
      have g' := fun E (hE : mask keep33_0 E = _) => run_at g1 hE
      simp only [keep33_0, head33, st80, PB.cells, e5, leaveV] at g'
      refine ⟨y, by simpa [wrongL, wrongO, hc, hwr] using g2, g3, g4, ?_⟩
      rw [call_run comp33 (Nat.le_of_ble_eq_true rfl)]
      simp (maxSteps := 10000000) [-List.getD_eq_getElem?_getD, ret2, ret3, retc2, code33, PB.av, PB.cells, hvc, hcc, hvp, hcp, h1, hlen, hw, keep33_0, g', wrongE, wrongO, hc, hwr, g4]
end Go.Ai

set_option maxRecDepth 100000
set_option linter.unusedSimpArgs false
set_option linter.unusedVariables false
/-! Bar. -/
namespace Go.Ai
open Go.Part (Sp Cp Bk at' okP rightK stepOk moveOk dfs places vals truths cnt worst maxTo)
def barF (T : List (List Int)) (N v : Nat) : List Int → Nat → Option Nat
  | [], _ => none
  | n :: l, k => if cnt T (v * N + k) n = 0 then some k else barF T N v l (k + 1)
def st35 (x : PB) (out : Nat → Bool) (c : CpV) : St := { boxes := [x.cells, x.cells ++ [mapOf x out, tP (Ps x out)], [I c.cp.voice, c.row]] }
def head35 (c : CpV) (k : Int) : Env := mkE 61 .any [(45, I k), (44, I c.cp.notes.length), (43, c.row), (10, .box 2 0), (9, .box 1 0)]
theorem cnts_get (T : List (List Int)) (j : Nat) (n : Int) (h0 : 0 ≤ n) (h12 : n ≤ 12) : ixvA 13 1 none (.agg (ints (cntsL T j))) (I n) = some (I (cnt T j n)) := by
  obtain ⟨n', rfl⟩ := Int.eq_ofNat_of_zero_le h0
  have h13 : n' < 13 := by omega
  have e1 : ((n' : Nat) : Int) < ((13 : Nat) : Int) := by omega
  simp only [ixvA, h0, e1, and_self, if_true, partA, Int.toNat_natCast, Nat.mul_one, ints, cntsL, List.getElem?_map, List.getElem?_range h13, Option.map_some]
theorem loop35 (x : PB) (hx : x.Ok) (h : Chk x) (out : Nat → Bool) (c : CpV) (hc : c.Ok) (v : Nat) (hv : c.cp.voice = v) (hvl : v < x.spans.length) (hcl : c.cp.notes.length = x.N.toNat) (hn : ∀ n ∈ c.cp.notes, 0 ≤ n ∧ n ≤ 12) : ∀ (l : List Int) (k : Nat), k ≤ c.cp.notes.length → c.cp.notes.drop k = l →
    match barF (Ts x out) x.N.toNat v l k with
    | none => ∃ L σ, run Cv 35 (.loop keep35_0 body35_0) (head35 c k) (st35 x out c) = some (.ex 0, mkE 61 .any L, σ)
    | some j => ∃ L σ, run Cv 35 (.loop keep35_0 body35_0) (head35 c k) (st35 x out c) = some (.rt, mkE 61 .any ((5, I 0) :: (4, I j) :: L), σ)
  | [], k, hk, hd => by
    obtain rfl := drop_nil hk hd
    simp only [barF]
    rw [run_loop]
    simp (maxSteps := 10000000) [-List.getD_eq_getElem?_getD, body35_0, keep35_0, head35, st35]
    exact ⟨_, rfl⟩
  | n :: l, k, hk, hd => by
    obtain ⟨hlt, ha, hd'⟩ := head_drop hd
    have hN := h.N
    have hw := wrap_succ hlt (by omega)
    have hnr := hn n (ha ▸ List.getElem_mem _)
    have hix : ixsA 1 c.row (I k) = some (.rp [I n] 0) := by
      obtain ⟨cc, hcc, hr⟩ := hc.row.sl (by intro hn; simp [ints] at hn; rw [hn] at hlt; simp at hlt)
      rw [hr]
      simp [ixsA, ints, hlt, ha, AV.cells]
    have h69 := notes_of x hx h out hvl (show k < x.N.toNat by omega)
    have hcn := cnts_get (Ts x out) (v * x.N.toNat + k) n hnr.1 hnr.2
    have hvp := hx.vrow.pur
    have hcp := hx.crow.pur
    have hvu := hx.vrow.under
    have hcu := hx.crow.under
    have hmp := (mapOf_ok x out).pur
    have hmu := (mapOf_ok x out).under
    have htp := fun σ n => tP_pur σ n (Ps x out)
    have htu := tP_under (Ps x out)
    have hru := hc.row.under
    simp only [openV, PB.cells, List.cons_append, List.nil_append] at h69
    simp only [barF]
    generalize hc0 : cnt (Ts x out) (v * x.N.toNat + k) n = c0 at *
    generalize cntsL (Ts x out) (v * x.N.toNat + k) = C at *
    by_cases hz : c0 = 0
    · rw [if_pos hz]
      simp only
      have hz' : ((c0 : Int) == 0) = true := by simp [hz]
      rw [run_loop]
      simp (maxSteps := 10000000) [-List.getD_eq_getElem?_getD, -List.all_eq_true, -ixsA, -setAt, body35_0, keep35_0, head35, st35, PB.cells, hv, hlt, hix, hvp, hcp, hmp, htp, h69, hcn, hz', fillA, set20, set21]
      exact ⟨_, rfl⟩
    · rw [if_neg hz]
      have hz' : ((c0 : Int) == 0) = false := by simpa using hz
      have key : run Cv 35 (.loop keep35_0 body35_0) (head35 c k) (st35 x out c) = run Cv 35 (.loop keep35_0 body35_0) (head35 c (k + 1)) (st35 x out c) := by
        rw [run_loop]
        generalize MC.loop keep35_0 body35_0 = L
        simp (maxSteps := 10000000) [-List.getD_eq_getElem?_getD, -List.all_eq_true, -ixsA, -setAt, body35_0, keep35_0, head35, st35, PB.cells, hv, hlt, hix, hvp, hcp, hmp, htp, h69, hcn, hz', fillA, set20, set21, hw, hvu, hcu, hmu, htu, hru]
      rw [key]
      exact loop35 x hx h out c hc v hv hvl hcl hn l (k + 1) hlt hd'
def barR (x : PB) (n : Int) : Int × Int :=
  if checkOk x then (if lie n 0 ((x.copies.length : Int) - 1) then (if wrongE x = 0 then
    (match x.copies[n.toNat]? with
      | some c => (match barF (Ts x (butF (wrongL x))) x.N.toNat c.cp.voice.toNat c.cp.notes 0 with
        | some k => ((k : Int), 0)
        | none => (0, 4))
      | none => (0, 4)) else (0, wrongE x)) else (0, 51)) else (0, 50)
theorem zero8s (a b c d e f g h : AV) : setAt [I 0, .nils, I 0, I 0, I 0, .nils, .nilm, .nils] 0 [a, b, c, d, e, f, g, h] = [a, b, c, d, e, f, g, h] := rfl
theorem set2s (a b : AV) : setAt [I 0, .nils] 0 [a, b] = [a, b] := rfl
theorem less_one' {n : Nat} (h : n < 2 ^ 47) : IntKind.wrap .i64 ((n : Int) - 1) = n - 1 := wrap_small (by omega) (by omega)
theorem wrong_short (x : PB) (hx : x.Ok) : (wrongL x).length < 2 ^ 47 := by
  unfold wrongL wrongO
  split
  · rename_i hc
    cases hw : Least.wrongG (okL x) x.copies.length 0 (x.copies.length + 1) with
    | none => simp
    | some m =>
      have h1 := (chk_of hc).nc
      have := Least.told_some (by omega) hw
      have h2 := this.len
      simp; omega
  · simp
theorem barP_call (x : PB) (hx : x.Ok) (n : Int) : call Cv 35 [x.av, I n] = some (.tup [I (barR x n).1, I (barR x n).2]) := by
  have h1 := check_call x hx
  obtain ⟨y, hy, hyc, hyp, h33⟩ := wrongP_call x hx
  have w1 := within_call n 0 ((x.copies.length : Int) - 1)
  have h4 := less_one' hx.lc
  have hvc := hx.vrow.cell
  have hcc := hx.crow.cell
  have hvp := hx.vrow.pur
  have hcp := hx.crow.pur
  have hlen := clen hx
  simp only [PB.av, PB.cells] at h1 h33
  unfold barR
  cases hc : checkOk x with
  | false =>
    rw [hc] at h1
    simp only [Bool.false_eq_true, if_false] at h1 ⊢
    rw [call_run comp35 (Nat.le_of_ble_eq_true rfl)]
    simp (maxSteps := 10000000) [-List.getD_eq_getElem?_getD, ret2, ret3, retc2, code35, PB.av, PB.cells, hvc, hcc, hvp, hcp, h1]
  | true =>
    rw [hc] at h1
    simp only [if_true] at h1 ⊢
    cases hq : lie n 0 ((x.copies.length : Int) - 1) with
    | false =>
      rw [hq] at w1
      simp only [Bool.false_eq_true, if_false]
      rw [call_run comp35 (Nat.le_of_ble_eq_true rfl)]
      simp (maxSteps := 10000000) [-List.getD_eq_getElem?_getD, ret2, ret3, retc2, code35, PB.av, PB.cells, hvc, hcc, hvp, hcp, h1, hlen, h4, w1]
    | true =>
      rw [hq] at w1
      simp only [if_true]
      by_cases hwe : wrongE x = 0
      · rw [if_pos hwe]
        rw [hwe] at h33
        simp only [lie, Bool.and_eq_true, decide_eq_true_eq] at hq
        obtain ⟨n', rfl⟩ := Int.eq_ofNat_of_zero_le hq.1
        have hlt : n' < x.copies.length := by omega
        have hg : x.copies[n']? = some x.copies[n'] := List.getElem?_eq_getElem hlt
        simp only [Int.toNat_natCast, hg]
        have hcm : x.copies[n'] ∈ x.copies := List.getElem_mem hlt
        have hcx := hx.cp _ hcm
        have hk := chk_of hc
        have hcf := hk.copies _ hcm
        have hix : ixsA 2 x.cr (I n') = some (.rp [I x.copies[n'].cp.voice, x.copies[n'].row] 0) := by
          obtain ⟨cc, hcc, hr⟩ := hx.crow.sl (by intro hn; simp at hn; rw [hn] at hlt; simp at hlt)
          rw [hr]
          simp [ixsA, hlt, CpV.av, AV.cells]
        generalize hcg : x.copies[n'] = c at *
        have hb := but_call y hyc (by cases y <;> first | rfl | simp [AV.isCell] at hyc) hyp
        have ho := opened_but x hx hk (wrongL x) y hy (wrong_short x hx)
        have hl := loop35 x hx hk (butF (wrongL x)) c hcx c.cp.voice.toNat (by omega) (by omega) (by omega) hcf.2.2.2 c.cp.notes 0 (Nat.zero_le _) rfl
        have e5 : ((0 : Nat) : Int) = 0 := rfl
        have hbp : ∀ σ n, pur σ (n + 2) (butV y) = some (butV y, false) := fun σ n => by simp [butV, pur, purAll, hyp]
        have hrl := row_len hcx.row
        have hrc := hcx.row.cell
        have htc := tP_cell (Ps x (butF (wrongL x)))
        have hmc := (mapOf_ok x (butF (wrongL x))).cell
        simp only [openV, PB.av, PB.cells, List.cons_append, List.nil_append] at ho
        cases hbr : barF (Ts x (butF (wrongL x))) x.N.toNat c.cp.voice.toNat c.cp.notes 0 with
        | none =>
          rw [hbr] at hl
          obtain ⟨L, σ, hl⟩ := hl
          have hl' := fun E (hE : mask keep35_0 E = _) => run_at hl hE
          simp only [keep35_0, head35, st35, PB.cells, e5, List.cons_append, List.nil_append] at hl'
          rw [call_run comp35 (Nat.le_of_ble_eq_true rfl)]
          simp (maxSteps := 10000000) [-List.getD_eq_getElem?_getD, ret2, ret3, retc2, -setAt, -List.all_eq_true, -ixsA, code35, PB.av, PB.cells, hvc, hcc, hvp, hcp, h1, hlen, h4, w1, h33, hyp, hb, hbp, ho, hix, hrl, hrc, htc, hmc, zero8s, set2s, keep35_0, hl']
        | some k =>
          rw [hbr] at hl
          obtain ⟨L, σ, hl⟩ := hl
          have hl' := fun E (hE : mask keep35_0 E = _) => run_at hl hE
          simp only [keep35_0, head35, st35, PB.cells, e5, List.cons_append, List.nil_append] at hl'
          rw [call_run comp35 (Nat.le_of_ble_eq_true rfl)]
          simp (maxSteps := 10000000) [-List.getD_eq_getElem?_getD, ret2, ret3, retc2, -setAt, -List.all_eq_true, -ixsA, code35, PB.av, PB.cells, hvc, hcc, hvp, hcp, h1, hlen, h4, w1, h33, hyp, hb, hbp, ho, hix, hrl, hrc, htc, hmc, zero8s, set2s, keep35_0, hl']
      · rw [if_neg hwe]
        have hne : (wrongE x != 0) = true := by simpa using hwe
        rw [call_run comp35 (Nat.le_of_ble_eq_true rfl)]
        simp (maxSteps := 10000000) [-List.getD_eq_getElem?_getD, ret2, ret3, retc2, code35, PB.av, PB.cells, hvc, hcc, hvp, hcp, h1, hlen, h4, w1, h33, hne, hyp]
end Go.Ai
