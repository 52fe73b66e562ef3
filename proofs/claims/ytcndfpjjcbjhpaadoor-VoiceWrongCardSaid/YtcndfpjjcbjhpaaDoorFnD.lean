/- This text shows what Fits and Wrong answer, and Equal. No conditions of its own. -/
import Derived.Test.YtcndfpjjcbjhpaaDoorFnC
set_option linter.unusedSimpArgs false
set_option linter.unusedVariables false
set_option maxRecDepth 100000
set_option linter.unusedSimpArgs false
set_option linter.unusedVariables false
namespace Go.Ai
def Book.more (x : Book) (t : Trial) : Book := { x with trials := x.trials ++ [t], tnil := .no }
theorem Book.more_ok {x : Book} (hx : x.Ok) (hl : x.trials.length < 1000) (t : Trial) : (x.more t).Ok where
  boys := hx.boys
  trials h := by cases h
  blen := hx.blen
  tlen := by simp [Book.more]; omega
def fitsB (x : Book) (t : Trial) : Bool := decide (askE x (trialOk x t) = 0) && fine (x.more t) []
theorem Fits_call (x : Book) (hx : x.Ok) (t : Trial) : call Cv 35 [x.av, t.av] = some (.tup [.bool (fitsB x t), I (askE x (trialOk x t))]) := by
  have h1 := asked_call x hx (trialOk x t)
  have h2 := isTrial_call x hx t
  simp only [Book.av, Book.cells, Trial.av] at h1 h2
  rcases ask_cases x (trialOk x t) with ⟨h0, hc, his, hf, hB⟩ | ⟨h0, B, hB1, hB2, hB3⟩
  · rw [hB] at h1
    rw [his] at h1 h0 h2
    have g := good_of hc
    have hm := Book.more_ok hx (by have := g.tl; omega) t
    have ho := opened_call (x.more t) hm g.w6 g.boys (by have := g.bl; show x.boys.length < 800; omega) [] .nils (by simp) nils_row
    have hi := isTrue_call (x.more t) hm []
    have hfin : fitsB x t = fine (x.more t) [] := by simp [fitsB, his, h0]
    simp only [openedV, Book.cells, List.cons_append, List.nil_append] at h1 hi
    have hb : (x.more t).boys = x.boys := rfl
    have hrow : rowV 4 ((x.more t).trials.map Trial.av) (x.more t).tnil = .sl 4 (x.trials.map Trial.av ++ [t.av]) .no := by
      have : (x.more t).trials.map Trial.av = x.trials.map Trial.av ++ [t.av] := by simp [Book.more]
      rw [this]; rfl
    have hbn : rowV 11 ((x.more t).boys.map Boy.av) (x.more t).bnil = rowV 11 (x.boys.map Boy.av) x.bnil := rfl
    have hw : (x.more t).weeks = x.weeks := rfl
    simp only [Book.av, openedV, Book.cells, hrow, hbn, hw, Trial.av, List.cons_append, List.nil_append] at ho
    simp only [hrow, hbn, hw, Trial.av] at hi
    have hcap := trP_pur (Ts (x.more t) [] (x.more t).boys 0)
    have hbytes : (x.trials.length + 1) * 32 ≤ 140737488355328 := by have := g.tl; omega
    have htake : List.take x.trials.length (List.map Trial.av x.trials) = List.map Trial.av x.trials := List.take_of_length_le (by simp)
    have rv1 : ∀ l, rowV 4 l .nil = .nils := fun _ => rfl
    rw [call_def comp35]
    by_cases hn : x.tnil = .nil
    · have hnil := hx.trials hn
      rw [hnil] at ho hi h1 h2
      rw [hn] at h1 h2
      simp [rv1] at ho hi h1 h2
      simp [code35, Book.av, Book.cells, Trial.av, h1, h2, his, h0, trP_cell, hn, hnil, rv1, slcA, boundA, fillE, AV.isAgg, appA, elemsA, grown, ho, hi, hcap, hfin]
    · have hrow0 : ∀ l, rowV 4 l x.tnil = .sl 4 l x.tnil.cap := fun l => rowV_some hn
      rw [hrow0] at h1 h2
      simp [code35, Book.av, Book.cells, Trial.av, h1, h2, his, h0, trP_cell, hrow0, slcA, boundA, fillE, AV.isAgg, appA, elemsA, grown, ho, hi, hcap, hfin, hbytes, htake]
  · rw [hB1] at h1
    have hB4 := eq_true hB3
    have hset : setAt [.nils, I 0, .nils, .nils, .nilm] 0 B = B := by
      simp [setAt, hB2]
    have hfin : fitsB x t = false := by simp [fitsB, h0]
    rw [call_def comp35]
    simp [-setAt, code35, Book.av, Book.cells, Trial.av, h1, h2, h0, hB2, hB4, hset, hfin]

/-! ### Wrong -/
def fromOf (l : List Int) : Nat := match l.getLast? with
  | none => 0
  | some y => (y + 1).toNat
def chooseM (x : Book) (T : Nat) : Nat → List Int → Option (List Int)
  | 0, l => if fine x l then some l else none
  | d + 1, l => (List.range' (fromOf l) (T - fromOf l)).findSome? fun (n : Nat) => chooseM x T d (l ++ [(n : Int)])
def LRow (ch : List (Nat × Nat)) (l : List Int) (r : AV) : Prop := (r = .nils ∧ l = []) ∨ ∃ c, c < ch.length ∧ r = .sl 1 (ints l) (.chain c)
def chooseV : AV := .fn (.func 89) [] [.box 0 0, .box 1 0]
def st89 (x : Book) (ch : List (Nat × Nat)) : St := { boxes := [x.cells, [chooseV]], chains := ch }
def head89 (r : AV) (many k n : Int) : Env := [r, I many, .box 0 0, .box 1 0, .any, .any, .any, .any, I k, .any, I n] ++ List.replicate 43 .any
theorem LRow.under {ch l r} (h : LRow ch l r) (a b c d n : Nat) (hb : ch.length ≤ b) : Ai.under a b c d (n + 1) r = true := by
  rcases h with ⟨rfl, _⟩ | ⟨k, hk, rfl⟩
  · rfl
  · simp only [Ai.under, decide_eq_true_eq]; omega
theorem LRow.len {ch l r} (h : LRow ch l r) : lenA r = some (I l.length) := by
  rcases h with ⟨rfl, h⟩ | ⟨k, hk, rfl⟩
  · rw [h]; rfl
  · simp [ints]
/-- What a choice comes to. -/
def Chosen (ch : List (Nat × Nat)) (x : Book) (res : Option (List Int)) (out : Option (AV × St)) : Prop := match res with
  | none => ∃ r, out = some (.tup [r, .bool false], st89 x ch)
  | some m => ∃ r σ, out = some (.tup [r, .bool true], σ) ∧ ((r = .nils ∧ m = []) ∨ ∃ c, r = .sl 1 (ints m) c)
theorem app89 (x : Book) (ch : List (Nat × Nat)) (l : List Int) (hl : l.length < 1000) (r : AV) (hr : LRow ch l r) (n : Int) :
    ∃ y, slcA 1 r none (some (I l.length)) (some (I l.length)) = some y ∧ appA (st89 x ch) false 1 8 false y (.sl 1 [I n] .full) = some (.sl 1 (ints (l ++ [n])) (.chain ch.length), st89 x (ch ++ [(l.length + 1, 1)])) := by
  rcases hr with ⟨rfl, rfl⟩ | ⟨k, hk, rfl⟩
  · exact ⟨.nils, rfl, by simp [appA, elemsA, grown, st89, ints]⟩
  · refine ⟨.sl 1 (ints l) .full, ?_, ?_⟩
    · simp [slcA, boundA, ints]
      exact List.take_of_length_le (by simp)
    · have : (l.length + 1) * 8 ≤ 140737488355328 := by omega
      simp [appA, elemsA, grown, st89, ints, this]
theorem cut89 (x : Book) (ch more : List (Nat × Nat)) (e : Env) (he : e.all (under 2 ch.length 0 0 6) = true) : cut (st89 x ch) (st89 x (ch ++ more)) e = st89 x ch := by
  unfold cut
  rw [if_pos]
  · simp [cutAt, st89]
  · simp only [dryAt, st89]
    simp [-cut, -List.all_eq_true, he, Book.cells, under, chooseV]
theorem loop89 (x : Book) (hx : x.Ok) (hT : x.trials.length < 100) (d : Nat) (many : Int) (l : List Int) (hl : l.length < 100) (r : AV) (ch : List (Nat × Nat)) (hr : LRow ch l r)
    (ih : ∀ (n : Nat), n < x.trials.length → Chosen (ch ++ [(l.length + 1, 1)]) x (chooseM x x.trials.length d (l ++ [(n : Int)])) (callA Cv (run Cv) false chooseV [.sl 1 (ints (l ++ [(n : Int)])) (.chain ch.length), I many] (st89 x (ch ++ [(l.length + 1, 1)])))) :
    ∀ (m n : Nat), n + m = x.trials.length ∨ (m = 0 ∧ x.trials.length ≤ n) → n < 1000 →
      match (List.range' n m).findSome? fun (n : Nat) => chooseM x x.trials.length d (l ++ [(n : Int)]) with
      | none => ∃ e, run Cv 89 (.loop keep89_0 body89_0) (head89 r many l.length n) (st89 x ch) = some (.ex 0, e, st89 x ch) ∧ e.length = 54
      | some q => ∃ e σ y, run Cv 89 (.loop keep89_0 body89_0) (head89 r many l.length n) (st89 x ch) = some (.rt, e, σ) ∧ e[6]? = some y ∧ e[7]? = some (.bool true) ∧ ((y = .nils ∧ q = []) ∨ ∃ c, y = .sl 1 (ints q) c)
  | 0, n, hn, hn' => by
    have h1 : ¬ (n : Int) < x.trials.length := by omega
    simp only [List.range'_zero, List.findSome?_nil]
    have h2 : ¬ n < x.trials.length := by omega
    have hlen := hx.lenT
    rw [run_loop]
    simp [body89_0, keep89_0, head89, st89, Book.cells, hlen, h2]
  | m + 1, n, hn, hn' => by
    have hlt : n < x.trials.length := by omega
    have hlen := hx.lenT
    have hw : IntKind.wrap .i64 ((n : Int) + 1) = n + 1 := wrap_small (by omega) (by omega)
    obtain ⟨y, a1, a2⟩ := app89 x ch l (by omega) r hr n
    have hih := ih n hlt
    have hld : ∀ ch' nn off, loadA (st89 x ch') nn (.box 0 off) = partA nn x.cells off := fun _ _ _ => rfl
    have hld1 : ∀ ch', loadA (st89 x ch') none (.box 1 0) = some chooseV := fun _ => rfl
    have hp2 : partA none x.cells 2 = some (rowV 4 (x.trials.map Trial.av) x.tnil) := rfl
    rw [List.range'_succ, List.findSome?_cons]
    cases hc : chooseM x x.trials.length d (l ++ [(n : Int)]) with
    | none =>
      rw [hc] at hih
      obtain ⟨r', hr'⟩ := hih
      have hcut := cut89 x ch [(l.length + 1, 1)]
      have hru := hr.under 2 ch.length 0 0 5 (Nat.le_refl _)
      have key : run Cv 89 (.loop keep89_0 body89_0) (head89 r many l.length n) (st89 x ch) = run Cv 89 (.loop keep89_0 body89_0) (head89 r many l.length (n + 1)) (st89 x ch) := by
        rw [run_loop]
        generalize MC.loop keep89_0 body89_0 = L
        simp [-loadA, -partA, -cut, body89_0, keep89_0, head89, hld, hld1, hp2, hlen, hlt, hw, fillE, AV.isAgg, a1, a2, hr']
        rw [hcut]
        simp [under, hru]
      rw [key]
      have := loop89 x hx hT d many l hl r ch hr ih m (n + 1) (by omega) (by omega)
      simpa using this
    | some q =>
      rw [hc] at hih
      obtain ⟨r', σ', hr', hq⟩ := hih
      simp only
      have key : ∃ e, run Cv 89 (.loop keep89_0 body89_0) (head89 r many l.length n) (st89 x ch) = some (.rt, e, σ') ∧ e[6]? = some r' ∧ e[7]? = some (.bool true) := by
        rw [run_loop]
        simp [-loadA, -partA, -cut, body89_0, keep89_0, head89, hld, hld1, hp2, hlen, hlt, hw, fillE, AV.isAgg, a1, a2, hr']
      obtain ⟨e, k1, k2, k3⟩ := key
      exact ⟨e, σ', r', k1, k2, k3, hq⟩
end Go.Ai

set_option maxRecDepth 100000
set_option linter.unusedSimpArgs false
set_option linter.unusedVariables false
namespace Go.Ai
theorem LRow.row {ch l r} (h : LRow ch l r) (σ : St) (n : Nat) : ∃ r', pur σ (n + 1) r = some (r', false) ∧ IsRow 1 (ints l) r' := by
  rcases h with ⟨rfl, h⟩ | ⟨k, hk, rfl⟩
  · exact ⟨.nils, rfl, .inl ⟨rfl, by rw [h]; rfl⟩⟩
  · exact ⟨.sl 1 (ints l) .no, rfl, .inr ⟨.no, rfl, rfl⟩⟩
theorem LRow.row' {ch l r} (h : LRow ch l r) : ∃ r', (∀ σ n, pur σ (n + 1) r = some (r', false)) ∧ IsRow 1 (ints l) r' := by
  rcases h with ⟨rfl, h⟩ | ⟨k, hk, rfl⟩
  · exact ⟨.nils, fun _ _ => rfl, .inl ⟨rfl, by rw [h]; rfl⟩⟩
  · exact ⟨.sl 1 (ints l) .no, fun _ _ => rfl, .inr ⟨.no, rfl, rfl⟩⟩
theorem LRow.out {ch l r} (h : LRow ch l r) : (r = .nils ∧ l = []) ∨ ∃ c, r = .sl 1 (ints l) c := by
  rcases h with ⟨rfl, h⟩ | ⟨k, hk, rfl⟩
  · exact .inl ⟨rfl, h⟩
  · exact .inr ⟨_, rfl⟩
theorem cut_st89 (x : Book) (ch : List (Nat × Nat)) (e : Env) : cut (st89 x ch) (st89 x ch) e = st89 x ch := cut_self _ _ (by simp [st89]) (by simp [st89])
theorem choose_call (x : Book) (hx : x.Ok) (hc : checkOk x = true) (many : Nat) (hmany : many ≤ x.trials.length) : ∀ (d : Nat) (l : List Int) (r : AV) (ch : List (Nat × Nat)), l.length + d = many → LRow ch l r → (∀ y ∈ l, 0 ≤ y ∧ y < x.trials.length) →
    Chosen ch x (chooseM x x.trials.length d l) (callA Cv (run Cv) false chooseV [r, I many] (st89 x ch))
  | 0, l, r, ch, hd, hr, hy => by
    have g := good_of hc
    have htl := g.tl
    obtain ⟨r', hp, hrow⟩ := hr.row'
    have ho := opened_call x hx g.w6 g.boys (by have := g.bl; omega) l r' (by omega) hrow
    have hi := isTrue_call x hx l
    have hcap := trP_pur (Ts x l x.boys 0)
    have hlen := hr.len
    have hld : ∀ ch' nn off, loadA (st89 x ch') nn (.box 0 off) = partA nn x.cells off := fun _ _ _ => rfl
    have hp3 : partA (some 3) x.cells 0 = some (.agg [rowV 11 (x.boys.map Boy.av) x.bnil, I x.weeks, rowV 4 (x.trials.map Trial.av) x.tnil]) := rfl
    have hlm : (l.length : Int) = many := by omega
    simp only [Book.av, Book.cells] at ho
    simp only [openedV, Book.cells, List.cons_append, List.nil_append] at hi ho
    have hcut := cut_st89 x ch
    simp only [chooseM]
    cases hf : fine x l with
    | true =>
      rw [hf] at hi
      simp only [if_true, Chosen]
      rw [chooseV, callA_imp (by rfl)]
      refine ⟨r, st89 x ch, ?_, hr.out⟩
      simp [-loadA, -partA, -cut, bodyA, comp89, code89, hlen, hlm, hld, hp3, hp, ho, hi, hcap, cutR, hcut]
    | false =>
      rw [hf] at hi
      simp only [Bool.false_eq_true, if_false, Chosen]
      rw [chooseV, callA_imp (by rfl)]
      refine ⟨r, ?_⟩
      simp [-loadA, -partA, -cut, bodyA, comp89, code89, hlen, hlm, hld, hp3, hp, ho, hi, hcap, cutR, hcut]
  | d + 1, l, r, ch, hd, hr, hy => by
    have g := good_of hc
    have htl := g.tl
    have hlen := hr.len
    have hcut := cut_st89 x ch
    have hne : ¬ (l.length : Int) = many := by omega
    have ih : ∀ (n : Nat), n < x.trials.length → Chosen (ch ++ [(l.length + 1, 1)]) x (chooseM x x.trials.length d (l ++ [(n : Int)])) (callA Cv (run Cv) false chooseV [.sl 1 (ints (l ++ [(n : Int)])) (.chain ch.length), I many] (st89 x (ch ++ [(l.length + 1, 1)]))) :=
      fun n hn => choose_call x hx hc many hmany d _ _ _ (by simp; omega) (.inr ⟨ch.length, by simp, rfl⟩) (by
        intro y hy'
        rcases List.mem_append.1 hy' with h | h
        · exact hy y h
        · simp only [List.mem_singleton] at h; subst h; omega)
    have hent : ∃ n0 : Nat, n0 ≤ x.trials.length ∧ fromOf l = n0 ∧ 
        ∀ (res : Option (AV × St)), cutR (st89 x ch) (endA [(6, none), (7, none)] (thenA (run Cv) 89 (.seq (.ops false [⟨some 6, none, .mov (.cst .nils)⟩, ⟨some 7, none, .mov (.cst (.bool false))⟩]) .ret) (blockA 0 (run Cv 89 (.loop keep89_0 body89_0) (head89 r many l.length n0) (st89 x ch))))) = res → callA Cv (run Cv) false chooseV [r, I many] (st89 x ch) = res := by
      rcases hr with ⟨rfl, rfl⟩ | ⟨k, hk, rfl⟩
      · refine ⟨0, by omega, rfl, fun res hres => ?_⟩
        have hne' : ¬ (0 : Int) = many := by simpa using hne
        rw [chooseV, callA_imp (by rfl), ← hres]
        simp [-loadA, -partA, -cut, bodyA, comp89, code89, hne']
        rw [run_loop_mask, show mask keep89_0 _ = head89 .nils many 0 0 from by simp [keep89_0, head89]]
      · rcases List.eq_nil_or_concat l with rfl | ⟨l', y, rfl⟩
        · refine ⟨0, by omega, rfl, fun res hres => ?_⟩
          have hne' : ¬ (0 : Int) = many := by simpa using hne
          rw [chooseV, callA_imp (by rfl), ← hres]
          simp [-loadA, -partA, -cut, bodyA, comp89, code89, hne', ints]
          rw [run_loop_mask, show mask keep89_0 _ = head89 (.sl 1 [] (.chain k)) many 0 0 from by simp [keep89_0, head89]]
        · have hyy := hy y (by simp)
          refine ⟨(y + 1).toNat, by omega, by simp [fromOf], fun res hres => ?_⟩
          have hy1 : ((y + 1).toNat : Int) = y + 1 := by omega
          have hw1 : IntKind.wrap .i64 (((l'.length : Int) + 1) - 1) = l'.length := by rw [wrap_small] <;> simp at hd ⊢ <;> omega
          have hw2 : IntKind.wrap .i64 (y + 1) = y + 1 := wrap_small (by omega) (by omega)
          have hpos : (0 : Int) < (l'.length : Int) + 1 := by omega
          have hlt' : (l'.length : Int) < (l'.length : Int) + 1 := by omega
          rw [hy1] at hres
          simp at hne hw1 hres
          rw [chooseV, callA_imp (by rfl), ← hres]
          simp [-loadA, -partA, -cut, bodyA, comp89, code89, hne, ints, hw1, hw2, hpos, hlt', load_rp]
          simp [partA, hw2]
          rw [run_loop_mask, show mask keep89_0 _ = head89 (AV.sl 1 (List.map (fun n => I n) l' ++ [I y]) (Cap.chain k)) (many) (l'.length + 1) (y + 1) from by simp [keep89_0, head89]]
    obtain ⟨n0, hn0, hn1, hent⟩ := hent
    have hl := loop89 x hx (by omega) d many l (by omega) r ch hr ih (x.trials.length - n0) n0 (by omega) (by omega)
    simp only [chooseM, hn1]
    cases hfs : (List.range' n0 (x.trials.length - n0)).findSome? fun (n : Nat) => chooseM x x.trials.length d (l ++ [(n : Int)]) with
    | none =>
      rw [hfs] at hl
      obtain ⟨e, h1, h2⟩ := hl
      refine ⟨.nils, hent _ ?_⟩
      rw [h1]
      simp [-cut, h2, cutR, hcut]
    | some q =>
      rw [hfs] at hl
      obtain ⟨e, σ, y, h1, h2, h3, h4⟩ := hl
      refine ⟨y, cut (st89 x ch) σ [.tup [y, .bool true]], hent _ ?_, h4⟩
      rw [h1]
      simp [-cut, h2, h3, cutR]
end Go.Ai

set_option maxRecDepth 100000
set_option linter.unusedSimpArgs false
set_option linter.unusedVariables false
namespace Go.Ai
def head37 (N k : Int) : Env := [.any, .any, .any, .any, .any, .box 1 0] ++ List.replicate 12 .any ++ [I N, I k] ++ List.replicate 16 .any
def wrongFrom (x : Book) : Nat → Nat → Option (List Int)
  | _, 0 => none
  | many, n + 1 => match chooseM x x.trials.length many [] with
    | some m => some m
    | none => wrongFrom x (many + 1) n
theorem slc_out {m : List Int} {r : AV} (h : (r = .nils ∧ m = []) ∨ ∃ c, r = .sl 1 (ints m) c) : ∃ y, lenA r = some (I m.length) ∧ slcA 1 r none (some (I m.length)) (some (I m.length)) = some y ∧ IsRow 1 (ints m) y := by
  rcases h with ⟨rfl, rfl⟩ | ⟨c, rfl⟩
  · exact ⟨.nils, rfl, rfl, .inl ⟨rfl, rfl⟩⟩
  · refine ⟨.sl 1 (ints m) .full, by simp [ints], ?_, .inr ⟨.full, rfl, rfl⟩⟩
    simp [slcA, boundA, ints]
    exact List.take_of_length_le (by simp)
theorem loop37 (x : Book) (hx : x.Ok) (hc : checkOk x = true) : ∀ (n k : Nat), k + n = x.trials.length + 1 →
    match wrongFrom x k n with
    | none => ∃ e, run Cv 37 (.loop keep37_0 body37_0) (head37 (x.trials.length + 1) k) (st89 x []) = some (.ex 0, e, st89 x []) ∧ e.length = 36
    | some m => ∃ e σ y, run Cv 37 (.loop keep37_0 body37_0) (head37 (x.trials.length + 1) k) (st89 x []) = some (.rt, e, σ) ∧ e[2]? = some y ∧ e[3]? = some (I 0) ∧ IsRow 1 (ints m) y
  | 0, k, hk => by
    have h1 : ¬ (k : Int) < x.trials.length + 1 := by omega
    simp only [wrongFrom]
    rw [run_loop]
    simp [body37_0, keep37_0, head37, h1]
  | n + 1, k, hk => by
    have htl := (good_of hc).tl
    have hlt : (k : Int) < x.trials.length + 1 := by omega
    have hw : IntKind.wrap .i64 ((k : Int) + 1) = k + 1 := wrap_small (by omega) (by omega)
    have hch := choose_call x hx hc k (by omega) k [] .nils [] (by simp) (.inl ⟨rfl, rfl⟩) (by simp)
    have hld1 : ∀ ch', loadA (st89 x ch') none (.box 1 0) = some chooseV := fun _ => rfl
    simp only [wrongFrom]
    cases hm : chooseM x x.trials.length k [] with
    | none =>
      rw [hm] at hch
      obtain ⟨r, hr⟩ := hch
      have key : run Cv 37 (.loop keep37_0 body37_0) (head37 (x.trials.length + 1) k) (st89 x []) = run Cv 37 (.loop keep37_0 body37_0) (head37 (x.trials.length + 1) (k + 1)) (st89 x []) := by
        rw [run_loop]
        generalize MC.loop keep37_0 body37_0 = L
        simp [-loadA, -cut, body37_0, keep37_0, head37, hld1, hlt, hw, hr]
        rw [cut_st89]
      rw [key]
      have := loop37 x hx hc n (k + 1) (by omega)
      simpa using this
    | some m =>
      rw [hm] at hch
      obtain ⟨r, σ, hr, hq⟩ := hch
      obtain ⟨y, s1, s2, s3⟩ := slc_out hq
      have key : ∃ e, run Cv 37 (.loop keep37_0 body37_0) (head37 (x.trials.length + 1) k) (st89 x []) = some (.rt, e, σ) ∧ e[2]? = some y ∧ e[3]? = some (I 0) := by
        rw [run_loop]
        simp [-loadA, -cut, body37_0, keep37_0, head37, hld1, hlt, hw, hr, s1, s2]
      obtain ⟨e, k1, k2, k3⟩ := key
      exact ⟨e, σ, y, k1, k2, k3, s3⟩
def wrongL (x : Book) : List Int := if checkOk x = true then (wrongFrom x 0 (x.trials.length + 1)).getD [] else []
theorem Wrong_call (x : Book) (hx : x.Ok) : ∃ y, IsRow 1 (ints (wrongL x)) y ∧ call Cv 37 [x.av] = some (.tup [y, I (if checkOk x then 0 else 20)]) := by
  have h1 := check_call x hx
  simp only [Book.av, Book.cells] at h1
  have hlen := hx.lenT
  cases hc : checkOk x with
  | false =>
    rw [hc] at h1
    refine ⟨.nils, .inl ⟨rfl, by simp [wrongL, hc, ints]⟩, ?_⟩
    rw [call_def comp37]
    simp [code37, Book.av, Book.cells, h1]
  | true =>
    rw [hc] at h1
    have htl := (good_of hc).tl
    have hw : IntKind.wrap .i64 ((x.trials.length : Int) + 1) = x.trials.length + 1 := wrap_small (by omega) (by omega)
    have hl := loop37 x hx hc (x.trials.length + 1) 0 (by omega)
    simp only [st89, Book.cells] at hl
    have hcc : chooseV.isCell = true := rfl
    cases hwr : wrongFrom x 0 (x.trials.length + 1) with
    | none =>
      rw [hwr] at hl
      obtain ⟨e, g1, g2⟩ := hl
      refine ⟨.nils, .inl ⟨rfl, by simp [wrongL, hc, hwr, ints]⟩, ?_⟩
      rw [call_def comp37]
      simp [code37, Book.av, Book.cells, h1, hlen, hw]
      rw [run_loop_mask, show mask keep37_0 _ = head37 (x.trials.length + 1) (0 : Nat) from by simp [keep37_0, head37]]
      simp only [chooseV] at g1
      rw [g1]
      simp [g2]
    | some m =>
      rw [hwr] at hl
      obtain ⟨e, σ, y, g1, g2, g3, g4⟩ := hl
      refine ⟨y, by simpa [wrongL, hc, hwr] using g4, ?_⟩
      rw [call_def comp37]
      simp [code37, Book.av, Book.cells, h1, hlen, hw]
      rw [run_loop_mask, show mask keep37_0 _ = head37 (x.trials.length + 1) (0 : Nat) from by simp [keep37_0, head37]]
      simp only [chooseV] at g1
      rw [g1]
      simp [g2, g3, g4.pur]
end Go.Ai
