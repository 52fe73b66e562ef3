/- This text shows what Fits and Wrong answer; the chapter's examples. No conditions of its own. -/
import Derived.Test.YtbjdaefdifofkaaDoorFnD
import Derived.KernelRfl
set_option linter.unusedSimpArgs false
set_option linter.unusedVariables false
set_option maxRecDepth 100000
namespace Go.Ai
open Go.Organ (T4 F3 Tb)
def OB.tuned (x : OB) (ts : List T4) (r : AV) : OB := { x with tunes := ts, tr := r }
theorem tuned_ok {x : OB} (hx : x.Ok) {ts : List T4} {r : AV} (hr : IsRow 4 (ts.map tuA) r) (hl : ts.length < 2 ^ 47) : (x.tuned ts r).Ok := ⟨hr, hx.frow, hl, hx.lf, hx.voice⟩
theorem tuned_chk0 {x : OB} (hc : Chk0 x) {ts : List T4} {r : AV} (ht : ∀ t ∈ ts, Organ.TOk x.N t) : Chk0 (x.tuned ts r) := ⟨⟨hc.b.one, hc.b.five, hc.b.forks, ht⟩, hc.pipes⟩
theorem tuned_chk {x : OB} (hc : Chk x) {ts : List T4} {r : AV} (ht : ∀ t ∈ ts, Organ.TOk x.N t) (hl : ts.length ≤ 6) : Chk (x.tuned ts r) := ⟨tuned_chk0 hc.toChk0 ht, hl, hc.forks, hc.voice⟩
theorem more_row {x : OB} (hx : x.Ok) (hl : x.tunes.length < 1000) (t : T4) (B : List (List AV)) :
    ∃ y, slcA 4 x.tr none (some (I x.tunes.length)) (some (I x.tunes.length)) = some y ∧ appA { boxes := B } false 4 32 true y (.sl 4 [tuA t] .full) = some (.sl 4 ((x.tunes ++ [t]).map tuA) (.chain 0), { boxes := B, chains := [(x.tunes.length + 1, 4)] }) := by
  have hb : (x.tunes.length + 1) * 32 ≤ 140737488355328 := by omega
  rcases hx.trow with ⟨hr, he⟩ | ⟨hr, he⟩ | ⟨c, hc, hr⟩
  · have : x.tunes = [] := by simpa using he
    rw [hr, this]
    exact ⟨.nils, rfl, by simp [appA, elemsA, grown]⟩
  · have : x.tunes = [] := by simpa using he
    rw [hr, this]
    exact ⟨.esl, rfl, by simp [appA, elemsA, grown]⟩
  · rw [hr]
    refine ⟨.sl 4 (x.tunes.map tuA) .full, ?_, ?_⟩
    · simp [slcA, boundA]
      exact List.take_of_length_le (by simp)
    · simp [appA, elemsA, grown, hb]
def fitsO (x : OB) (t : T4) : Bool := if askE x (tuneOk x t) = 0 then Organ.isO x.N x.forks (x.tunes ++ [t]) else false
set_option maxHeartbeats 1000000 in
theorem Fits_call (x : OB) (hx : x.Ok) (t : T4) : call Cv 31 [x.av, tuA t] = some (.tup [.bool (fitsO x t), I (askE x (tuneOk x t))]) := by
  have h1 := asked_call x hx (tuneOk x t)
  have h2 := isTune_call x hx t
  have hcl := xcells_cell x hx
  have hp := av_pur x hx
  have hbox : boxA {} x.av = some (.box 0 0, { boxes := [x.cells] }) := by
    simp only [boxA, OB.av, AV.cells, hcl, if_true]; rfl
  have hbox2 : boxA { boxes := [x.cells] } (tuA t) = some (.box 1 0, { boxes := [x.cells, [I t.src, I t.dst, I t.off, I t.err]] }) := rfl
  have hp4 : partA (some 4) [I t.src, I t.dst, I t.off, I t.err] 0 = some (tuA t) := rfl
  have htp : ∀ σ n, pur σ (n + 2) (tuA t) = some (tuA t, false) := fun _ _ => rfl
  have h44 := askC_44 x hx (tuneOk x t)
  have hst := h44.set (Z := zero44) rfl
  have hlen := h44.len
  have hcell := h44.cell
  simp only [zero44, zeros, List.cons_append, List.nil_append] at hst
  unfold fitsO
  by_cases h0 : askE x (tuneOk x t) = 0
  · obtain ⟨hc, hi, ht⟩ := ask_zero h0
    rw [if_pos h0]
    have hl6 := hc.tunes
    have htl := tlen hx
    obtain ⟨y, hy1, hy2⟩ := more_row hx (by omega) t [x.cells, [I t.src, I t.dst, I t.off, I t.err], askC x (tuneOk x t)]
    have hto : Organ.TOk x.N t := (tuneOk_iff hc.p).1 hi
    have hnew : IsRow 4 ((x.tunes ++ [t]).map tuA) (.sl 4 ((x.tunes ++ [t]).map tuA) .no) := .inr (.inr ⟨.no, rfl, rfl⟩)
    have hox := tuned_ok hx hnew (by simp; omega)
    have hch := tuned_chk0 hc.toChk0 (r := .sl 4 ((x.tunes ++ [t]).map tuA) .no) (ts := x.tunes ++ [t]) (fun u hu => by
      rcases List.mem_append.1 hu with hu | hu
      · exact hc.b.tunes u hu
      · rw [List.mem_singleton.1 hu]; exact hto)
    have hop := opened_call _ hox hch .nils noF (but_nil _)
    have hcan : canO (x.tuned (x.tunes ++ [t]) (.sl 4 ((x.tunes ++ [t]).map tuA) .no)) noF = Organ.isO x.N x.forks (x.tunes ++ [t]) := by
      rw [canO, kept_noF]; rfl
    have hfld : fldA none (openV (x.tuned (x.tunes ++ [t]) (.sl 4 ((x.tunes ++ [t]).map tuA) .no)) noF) 43 = some (.bool (Organ.isO x.N x.forks (x.tunes ++ [t]))) := by
      rw [← hcan]; rfl
    have hav : (x.tuned (x.tunes ++ [t]) (.sl 4 ((x.tunes ++ [t]).map tuA) .no)).av = .agg [I x.pipes, .sl 4 ((x.tunes ++ [t]).map tuA) .no, x.fr, x.br, I x.voice.weeks, x.vr] := rfl
    rw [hav] at hop
    have hx1 : x.cells[1]? = some x.tr := rfl
    have hf1 : fillE 4 true [(0, tuA t)] [.agg [I 0, I 0, I 0, I 0]] = some [tuA t] := rfl
    have q2 := hx.frow.pur
    have q3 := br_pur x
    have q4 := vr_pur x
    have hsx : ∀ v : AV, setAt x.cells 1 [v] = [I x.pipes, v, x.fr, x.br, I x.voice.weeks, x.vr] := fun _ => rfl
    have hxl : x.cells.length = 6 := rfl
    have hx1g : ∀ h : 1 < x.cells.length, x.cells[1]'h = x.tr := fun _ => rfl
    have hp6 : ∀ v : AV, partA (some 6) [I x.pipes, v, x.fr, x.br, I x.voice.weeks, x.vr] 0 = some (.agg [I x.pipes, v, x.fr, x.br, I x.voice.weeks, x.vr]) := fun _ => rfl
    rw [h0] at h1 ⊢
    rw [hi] at h1 h2 hst hlen hcell hy2
    generalize openV (x.tuned (x.tunes ++ [t]) (.sl 4 ((x.tunes ++ [t]).map tuA) .no)) noF = W at *
    generalize (x.tunes ++ [t]).map tuA = R at *
    generalize askC x true = C at *
    rw [call_run comp31 (Nat.le_of_ble_eq_true rfl)]
    simp (maxSteps := 10000000) [-List.getD_eq_getElem?_getD, ret2, retc2, -partA, -setAt, -fldA, -List.all_eq_true, -boxA, part_none, part_x, fill_two, code31, hbox, hbox2, hp4, htp, hp, h1, h2, hlen, hcell, hst, still, hx1, hx1g, htl, hy1, hy2, hf1, hsx, hxl, hp6, q2, q3, q4, hop, hfld]
  · generalize askE x (tuneOk x t) = e at *
    have h0' : (e == 0) = false := by simpa using h0
    generalize askC x (tuneOk x t) = C at *
    rw [if_neg h0]
    rw [call_run comp31 (Nat.le_of_ble_eq_true rfl)]
    simp (maxSteps := 10000000) [-List.getD_eq_getElem?_getD, ret2, retc2, -partA, -setAt, -List.all_eq_true, -boxA, part_none, part_x, fill_two, code31, hbox, hbox2, hp4, htp, hp, h1, h2, hlen, hcell, hst, still, h0, h0']
end Go.Ai

set_option maxRecDepth 100000
namespace Go.Ai
open Go.Organ (T4 F3 Tb)
open Go.Least (fromOf chooseG wrongG)
def butF (l : List Int) : Nat → Bool := fun k => decide ((k : Int) ∈ l)
def okL (x : OB) (l : List Int) : Bool := canO x (butF l)
def LRow (ch : List (Nat × Nat)) (l : List Int) (r : AV) : Prop := (r = .nils ∧ l = []) ∨ ∃ c, c < ch.length ∧ r = .sl 1 (ints l) (.chain c)
def leaveV : AV := .fn (.func 82) [] [.box 0 0, .box 1 0]
def st82 (x : OB) (ch : List (Nat × Nat)) : St := { boxes := [x.cells, [leaveV]], chains := ch }
def head82 (r : AV) (many k n : Int) : Env := mkE 54 .any [(10, I n), (8, I k), (3, .box 1 0), (2, .box 0 0), (1, I many), (0, r)]
theorem LRow.under {ch l r} (h : LRow ch l r) (a b c d n : Nat) (hb : ch.length ≤ b) : Ai.under a b c d (n + 1) r = true := by
  rcases h with ⟨rfl, _⟩ | ⟨k, hk, rfl⟩
  · rfl
  · simp only [Ai.under, decide_eq_true_eq]; omega
theorem LRow.len {ch l r} (h : LRow ch l r) : lenA r = some (I l.length) := by
  rcases h with ⟨rfl, h⟩ | ⟨k, hk, rfl⟩
  · rw [h]; rfl
  · simp [ints]
theorem LRow.row' {ch l r} (h : LRow ch l r) : ∃ r', (∀ σ n, pur σ (n + 1) r = some (r', false)) ∧ Vc.VRow 1 (Vc.ints l) r' := by
  rcases h with ⟨rfl, h⟩ | ⟨k, hk, rfl⟩
  · exact ⟨.nils, fun _ _ => rfl, .inl ⟨rfl, by rw [h]; rfl⟩⟩
  · exact ⟨.sl 1 (ints l) .no, fun _ _ => rfl, .inr ⟨.no, rfl, rfl⟩⟩
theorem but_row {l : List Int} {r : AV} (hr : Vc.VRow 1 (Vc.ints l) r) (hl : l.length < 2 ^ 47) (m : Nat) : But r (butF l) m where
  cell := hr.cell
  cells := hr.cells
  under := hr.under
  pur := hr.pur
  call k _ := Vc.contains_call l r hl hr k
def OutRow (m : List Int) (r : AV) : Prop := (r = .nils ∧ m = []) ∨ ∃ c, r = .sl 1 (ints m) (.chain c)
def Chosen (ch : List (Nat × Nat)) (x : OB) (res : Option (List Int)) (out : Option (AV × St)) : Prop := match res with
  | none => ∃ r, out = some (.tup [r, .bool false], st82 x ch)
  | some m => ∃ r more, out = some (.tup [r, .bool true], st82 x (ch ++ more)) ∧ OutRow m r
theorem app82 (x : OB) (ch : List (Nat × Nat)) (l : List Int) (hl : l.length < 1000) (r : AV) (hr : LRow ch l r) (n : Int) :
    ∃ y, slcA 1 r none (some (I l.length)) (some (I l.length)) = some y ∧ appA (st82 x ch) false 1 8 false y (.sl 1 [I n] .full) = some (.sl 1 (ints (l ++ [n])) (.chain ch.length), st82 x (ch ++ [(l.length + 1, 1)])) := by
  rcases hr with ⟨rfl, rfl⟩ | ⟨k, hk, rfl⟩
  · exact ⟨.nils, rfl, by simp [appA, elemsA, grown, st82, ints]⟩
  · refine ⟨.sl 1 (ints l) .full, ?_, ?_⟩
    · simp [slcA, boundA, ints]
      exact List.take_of_length_le (by simp)
    · have : (l.length + 1) * 8 ≤ 140737488355328 := by omega
      simp [appA, elemsA, grown, st82, ints, this]
theorem cut82 (x : OB) (hx : x.Ok) (ch more : List (Nat × Nat)) (e : Env) (he : e.all (under 2 ch.length 0 0 6) = true) : cut (st82 x ch) (st82 x (ch ++ more)) e = st82 x ch := by
  have h1 := hx.trow.under 2 ch.length 0 0 5
  have h2 := hx.frow.under 2 ch.length 0 0 5
  have h3 := br_under x 2 ch.length 0 0 5
  have h4 := vr_under x 2 ch.length 0 0 5
  have hd : dryAt ch.length (st82 x ch) (st82 x (ch ++ more)) e = true := by
    show (e.all (under 2 ch.length 0 0 6) && List.all [x.cells, [leaveV]] (fun cs => cs.all (under 2 ch.length 0 0 6)) && true && true) = true
    have hv : under 2 ch.length 0 0 6 leaveV = true := rfl
    simp only [he, OB.cells, List.all_cons, List.all_nil, h1, h2, h3, h4, hv, un_int, Bool.and_self]
  unfold cut
  rw [if_pos (show dryAt (st82 x ch).chains.length (st82 x ch) (st82 x (ch ++ more)) e = true from hd)]
  simp [cutAt, st82]
theorem cut82' (x : OB) (ch more : List (Nat × Nat)) (e : Env) : ∃ more', cut (st82 x ch) (st82 x (ch ++ more)) e = st82 x (ch ++ more') := by
  unfold cut
  split
  · exact ⟨[], by simp [cutAt, st82]⟩
  · split
    · exact ⟨more, by simp [cutAt, st82]; exact List.take_of_length_le (by simp)⟩
    · exact ⟨more, rfl⟩
theorem loop82 (x : OB) (hx : x.Ok) (hT : x.tunes.length < 100) (d : Nat) (many : Int) (l : List Int) (hl : l.length < 100) (r : AV) (ch : List (Nat × Nat)) (hr : LRow ch l r)
    (ih : ∀ (n : Nat), n < x.tunes.length → Chosen (ch ++ [(l.length + 1, 1)]) x (chooseG (okL x) x.tunes.length d (l ++ [(n : Int)])) (callA Cv (run Cv) false leaveV [.sl 1 (ints (l ++ [(n : Int)])) (.chain ch.length), I many] (st82 x (ch ++ [(l.length + 1, 1)])))) :
    ∀ (m n : Nat), n + m = x.tunes.length ∨ (m = 0 ∧ x.tunes.length ≤ n) → n < 1000 →
      match (List.range' n m).findSome? fun (n : Nat) => chooseG (okL x) x.tunes.length d (l ++ [(n : Int)]) with
      | none => ∃ L, run Cv 82 (.loop keep82_0 body82_0) (head82 r many l.length n) (st82 x ch) = some (.ex 0, mkE 54 .any L, st82 x ch)
      | some q => ∃ L more y, run Cv 82 (.loop keep82_0 body82_0) (head82 r many l.length n) (st82 x ch) = some (.rt, mkE 54 .any ((7, .bool true) :: (6, y) :: L), st82 x (ch ++ more)) ∧ OutRow q y
  | 0, n, hn, hn' => by
    have h1 : ¬ (n : Int) < x.tunes.length := by omega
    simp only [List.range'_zero, List.findSome?_nil]
    have hlen := tlen hx
    rw [run_loop]
    simp (maxSteps := 10000000) [-List.getD_eq_getElem?_getD, body82_0, keep82_0, head82, st82, OB.cells, hlen, h1]
    exact ⟨_, rfl⟩
  | m + 1, n, hn, hn' => by
    have hlt : n < x.tunes.length := by omega
    have hlt' : (n : Int) < x.tunes.length := by omega
    have hlen := tlen hx
    have hw : IntKind.wrap .i64 ((n : Int) + 1) = n + 1 := wrap_small (by omega) (by omega)
    obtain ⟨y, a1, a2⟩ := app82 x ch l (by omega) r hr n
    have hih := ih n hlt
    have hld : ∀ ch', loadA (st82 x ch') none (.box 0 1) = some x.tr := fun _ => rfl
    have hld1 : ∀ ch', loadA (st82 x ch') none (.box 1 0) = some leaveV := fun _ => rfl
    have hf1 : fillE 1 false [(0, I (n : Int))] [I 0] = some [I (n : Int)] := rfl
    have hr1 : List.replicate 1 (I 0) = [I 0] := rfl
    rw [List.range'_succ, List.findSome?_cons]
    cases hc : chooseG (okL x) x.tunes.length d (l ++ [(n : Int)]) with
    | none =>
      rw [hc] at hih
      obtain ⟨r', hr'⟩ := hih
      have hcut := cut82 x hx ch [(l.length + 1, 1)]
      have hru := hr.under 2 ch.length 0 0 5 (Nat.le_refl _)
      have step : run Cv 82 (.loop keep82_0 body82_0) (head82 r many l.length n) (st82 x ch) = run Cv 82 (.loop keep82_0 body82_0) (head82 r many l.length (n + 1)) (st82 x ch) := by
        rw [run_loop]
        generalize MC.loop keep82_0 body82_0 = L
        simp (maxSteps := 10000000) [-List.getD_eq_getElem?_getD, -loadA, -partA, -cut, body82_0, keep82_0, head82, hld, hld1, hlen, hlt', hw, hf1, hr1, a1, a2, hr']
        rw [hcut]
        simp (maxSteps := 10000000) [-List.getD_eq_getElem?_getD, hru]
      rw [step]
      have := loop82 x hx hT d many l hl r ch hr ih m (n + 1) (by omega) (by omega)
      simpa using this
    | some q =>
      rw [hc] at hih
      obtain ⟨r', more, hr', hq⟩ := hih
      simp only
      rw [List.append_assoc] at hr'
      have step : ∃ L, run Cv 82 (.loop keep82_0 body82_0) (head82 r many l.length n) (st82 x ch) = some (.rt, mkE 54 .any ((7, .bool true) :: (6, r') :: L), st82 x (ch ++ ([(l.length + 1, 1)] ++ more))) := by
        rw [run_loop]
        simp (maxSteps := 10000000) [-List.getD_eq_getElem?_getD, -loadA, -partA, -cut, body82_0, keep82_0, head82, hld, hld1, hlen, hlt', hw, hf1, hr1, a1, a2, hr']
        exact ⟨_, rfl⟩
      obtain ⟨L, k1⟩ := step
      exact ⟨L, _, r', k1, hq⟩
end Go.Ai

set_option maxRecDepth 100000
namespace Go.Ai
open Go.Organ (T4 F3 Tb)
open Go.Least (fromOf chooseG wrongG)
theorem LRow.out {ch l r} (h : LRow ch l r) : OutRow l r := by
  rcases h with ⟨rfl, h⟩ | ⟨k, hk, rfl⟩
  · exact .inl ⟨rfl, h⟩
  · exact .inr ⟨_, rfl⟩
theorem cut_st82 (x : OB) (ch : List (Nat × Nat)) (e : Env) : cut (st82 x ch) (st82 x ch) e = st82 x ch := cut_self _ _ (by simp [st82]) (by simp [st82])
theorem leave_call (x : OB) (hx : x.Ok) (hc : Chk x) (many : Nat) (hmany : many ≤ x.tunes.length) : ∀ (d : Nat) (l : List Int) (r : AV) (ch : List (Nat × Nat)), l.length + d = many → LRow ch l r → (∀ y ∈ l, 0 ≤ y ∧ y < x.tunes.length) →
    Chosen ch x (chooseG (okL x) x.tunes.length d l) (callA Cv (run Cv) false leaveV [r, I many] (st82 x ch))
  | 0, l, r, ch, hd, hr, hy => by
    have hnc := hc.tunes
    obtain ⟨r', hp, hrow⟩ := hr.row'
    have ho := opened_call x hx hc.toChk0 r' (butF l) (but_row hrow (by omega) _)
    have hlen := hr.len
    have hp6 : ∀ ch', loadA (st82 x ch') (some 6) (.box 0 0) = some x.av := fun _ => rfl
    have hxp := av_pur x hx
    have hlm : (l.length : Int) = many := by omega
    have hlm' : ((l.length : Int) == many) = true := by simpa using hlm
    have hcut := cut_st82 x ch
    have h43 : fldA none (openV x (butF l)) 43 = some (.bool (okL x l)) := rfl
    have step : callA Cv (run Cv) false leaveV [r, I many] (st82 x ch) = some (.tup [r, .bool (okL x l)], st82 x ch) := by
      rw [leaveV, callA_imp (by rfl), body_run comp82 (Nat.le_of_ble_eq_true rfl)]
      simp (maxSteps := 10000000) [-List.getD_eq_getElem?_getD, ret2, ret3, retc2, -loadA, -partA, -cut, -fldA, code82, hlen, hlm', hp6, hxp, hp, ho, h43]
      simp only [cutR, hcut]
    rw [step]
    simp only [chooseG]
    cases hf : okL x l with
    | true => exact ⟨r, [], by rw [List.append_nil], hr.out⟩
    | false => exact ⟨r, rfl⟩
  | d + 1, l, r, ch, hd, hr, hy => by
    have hnc := hc.tunes
    have hlen := hr.len
    have hcut := cut_st82 x ch
    have hne : ((l.length : Int) == many) = false := by simp; omega
    have ih : ∀ (n : Nat), n < x.tunes.length → Chosen (ch ++ [(l.length + 1, 1)]) x (chooseG (okL x) x.tunes.length d (l ++ [(n : Int)])) (callA Cv (run Cv) false leaveV [.sl 1 (ints (l ++ [(n : Int)])) (.chain ch.length), I many] (st82 x (ch ++ [(l.length + 1, 1)]))) :=
      fun n hn => leave_call x hx hc many hmany d _ _ _ (by simp; omega) (.inr ⟨ch.length, by simp, rfl⟩) (by
        intro y hy'
        rcases List.mem_append.1 hy' with h | h
        · exact hy y h
        · simp only [List.mem_singleton] at h; subst h; omega)
    have hn0 : fromOf l ≤ x.tunes.length := by
      unfold fromOf
      split
      · omega
      · rename_i y hyl
        have := hy y (List.mem_of_getLast? hyl)
        omega
    have hent : ∀ (res : Option (AV × St)) , (∀ out, run Cv 82 (.loop keep82_0 body82_0) (head82 r many l.length (fromOf l)) (st82 x ch) = out → cutR (st82 x ch) (endA [(6, none), (7, none)] (thenA (run Cv) 82 (.seq (.ops false [⟨some 6, none, .mov (.cst .nils)⟩, ⟨some 7, none, .mov (.cst (.bool false))⟩]) .ret) (blockA 0 out))) = res) → callA Cv (run Cv) false leaveV [r, I many] (st82 x ch) = res := by
      intro res hres
      have hres' := fun E (hE : mask keep82_0 E = _) => hres _ (run_at (E := E) rfl hE).symm
      rcases List.eq_nil_or_concat l with rfl | ⟨l', y, hly⟩
      · have hf0 : fromOf [] = 0 := rfl
        have e5 : ((0 : Nat) : Int) = 0 := rfl
        simp only [List.length_nil, e5] at hlen hne
        rw [hf0] at hres'
        simp only [head82, keep82_0, List.length_nil, e5] at hres'
        rw [leaveV, callA_imp (by rfl), body_run comp82 (Nat.le_of_ble_eq_true rfl)]
        simp (maxSteps := 10000000) [-List.getD_eq_getElem?_getD, ret2, ret3, retc2, -loadA, -partA, -cut, code82, hlen, hne, keep82_0]
        exact hres' _ (by simp (maxSteps := 10000000) [-List.getD_eq_getElem?_getD, ])
      · have hly : l = l' ++ [y] := by rw [hly]; simp
        subst hly
        have hyy := hy y (by simp)
        have hf0 : fromOf (l' ++ [y]) = (y + 1).toNat := by simp [fromOf]
        have hy1 : ((y + 1).toNat : Int) = y + 1 := by omega
        have hll : ((l' ++ [y]).length : Int) = (l'.length : Int) + 1 := by simp
        rw [hll] at hlen hne
        have hd' : l'.length + 1 + (d + 1) = many := by simpa using hd
        have hw1 : IntKind.wrap .i64 (l'.length : Int) = l'.length := wrap_small (by omega) (by omega)
        have hw2 : IntKind.wrap .i64 (y + 1) = y + 1 := wrap_small (by omega) (by omega)
        have hpos : (l'.length : Int) + 1 > 0 := by omega
        have hix : ixsA 1 r (I (l'.length : Int)) = some (.rp [I y] 0) := by
          rcases hr with ⟨rfl, h⟩ | ⟨k, hk, rfl⟩
          · exact absurd h (by simp)
          · have hlt : (l'.length : Int) < ((ints (l' ++ [y])).length : Int) := by simp [ints]; omega
            simp [ixsA, ints, AV.cells]; omega
        have hlr : loadA (st82 x ch) none (.rp [I y] 0) = some (I y) := rfl
        rw [hf0, hy1] at hres'
        simp only [head82, keep82_0, hll] at hres'
        rw [leaveV, callA_imp (by rfl), body_run comp82 (Nat.le_of_ble_eq_true rfl)]
        simp (maxSteps := 10000000) [-List.getD_eq_getElem?_getD, ret2, ret3, retc2, -loadA, -partA, -cut, -ixsA, code82, hlen, hne, hw1, hw2, hpos, hix, hlr, keep82_0]
        exact hres' _ (by simp (maxSteps := 10000000) [-List.getD_eq_getElem?_getD, ])
    have hl := loop82 x hx (by omega) d many l (by omega) r ch hr ih (x.tunes.length - fromOf l) (fromOf l) (by omega) (by omega)
    simp only [chooseG]
    cases hfs : (List.range' (fromOf l) (x.tunes.length - fromOf l)).findSome? fun (n : Nat) => chooseG (okL x) x.tunes.length d (l ++ [(n : Int)]) with
    | none =>
      rw [hfs] at hl
      obtain ⟨L, h1⟩ := hl
      refine ⟨.nils, hent _ fun out ho => ?_⟩
      rw [← ho, h1]
      simp (maxSteps := 10000000) [-List.getD_eq_getElem?_getD, ret2, ret3, retc2, -cut]
      rw [cutR, hcut]
    | some q =>
      rw [hfs] at hl
      obtain ⟨L, more, y, h1, h4⟩ := hl
      obtain ⟨more', hm⟩ := cut82' x ch more [.tup [y, .bool true]]
      refine ⟨y, more', hent _ fun out ho => ?_, h4⟩
      rw [← ho, h1]
      simp (maxSteps := 10000000) [-List.getD_eq_getElem?_getD, ret2, ret3, retc2, -cut]
      rw [cutR, hm]
def head33 (T k : Int) (can : Bool) : Env := mkE 47 .any [(27, I k), (26, I T), (6, .bool can), (5, .box 1 0)]
theorem slc_out {m : List Int} {r : AV} (h : OutRow m r) : lenA r = some (I m.length) := by
  rcases h with ⟨rfl, rfl⟩ | ⟨c, rfl⟩
  · rfl
  · simp [ints]
theorem slc_row {m : List Int} {r : AV} (h : OutRow m r) : ∃ y, IsRow 1 (ints m) y ∧ slcA 1 r none (some (I m.length)) (some (I m.length)) = some y := by
  rcases h with ⟨rfl, rfl⟩ | ⟨c, rfl⟩
  · exact ⟨.nils, nils_row, rfl⟩
  · refine ⟨.sl 1 (ints m) .full, .inr (.inr ⟨.full, rfl, rfl⟩), ?_⟩
    simp [slcA, boundA, ints]
    exact List.take_of_length_le (by simp)
theorem loop33 (x : OB) (hx : x.Ok) (hc : Chk x) (can : Bool) : ∀ (n k : Nat), k + n = x.tunes.length + 1 →
    match (if can then wrongG (okL x) x.tunes.length k n else none) with
    | none => ∃ L, run Cv 33 (.loop keep33_0 body33_0) (head33 (x.tunes.length + 1) k can) (st82 x []) = some (.ex 0, mkE 47 .any L, st82 x [])
    | some m => ∃ L more y, run Cv 33 (.loop keep33_0 body33_0) (head33 (x.tunes.length + 1) k can) (st82 x []) = some (.rt, mkE 47 .any ((3, I 0) :: (2, y) :: L), st82 x more) ∧ IsRow 1 (ints m) y
  | 0, k, hk => by
    have h1 : ¬ (k : Int) < (x.tunes.length : Int) + 1 := by omega
    simp only [wrongG, ite_self]
    rw [run_loop]
    simp (maxSteps := 10000000) [-List.getD_eq_getElem?_getD, body33_0, keep33_0, head33, st82, h1]
    exact ⟨_, rfl⟩
  | n + 1, k, hk => by
    have hnc := hc.tunes
    have hlt : (k : Int) < (x.tunes.length : Int) + 1 := by omega
    have hw : IntKind.wrap .i64 ((k : Int) + 1) = k + 1 := wrap_small (by omega) (by omega)
    have hch := leave_call x hx hc k (by omega) k [] .nils [] (by simp) (.inl ⟨rfl, rfl⟩) (by simp)
    have hld1 : ∀ ch', loadA (st82 x ch') none (.box 1 0) = some leaveV := fun _ => rfl
    simp only [wrongG]
    cases hm : chooseG (okL x) x.tunes.length k [] with
    | none =>
      rw [hm] at hch
      obtain ⟨r, hr⟩ := hch
      have step : run Cv 33 (.loop keep33_0 body33_0) (head33 (x.tunes.length + 1) k can) (st82 x []) = run Cv 33 (.loop keep33_0 body33_0) (head33 (x.tunes.length + 1) (k + 1) can) (st82 x []) := by
        rw [run_loop]
        generalize MC.loop keep33_0 body33_0 = L
        simp (maxSteps := 10000000) [-List.getD_eq_getElem?_getD, -loadA, -cut, body33_0, keep33_0, head33, hld1, hlt, hw, hr]
        rw [cut_st82]
      rw [step]
      have := loop33 x hx hc can n (k + 1) (by omega)
      simpa using this
    | some m =>
      rw [hm] at hch
      obtain ⟨r, more, hr, hq⟩ := hch
      rw [List.nil_append] at hr
      have s1 := slc_out hq
      obtain ⟨y, g1, s2⟩ := slc_row hq
      cases can with
      | true =>
        simp only [if_true]
        have step : ∃ L, run Cv 33 (.loop keep33_0 body33_0) (head33 (x.tunes.length + 1) k true) (st82 x []) = some (.rt, mkE 47 .any ((3, I 0) :: (2, y) :: L), st82 x more) := by
          rw [run_loop]
          simp (maxSteps := 10000000) [-List.getD_eq_getElem?_getD, -loadA, -cut, body33_0, keep33_0, head33, hld1, hlt, hw, hr, s1, s2]
          exact ⟨_, rfl⟩
        obtain ⟨L, k1⟩ := step
        exact ⟨L, more, y, k1, g1⟩
      | false =>
        have hcut := fun e he => cut82 x hx [] more e he
        rw [show ([] : List (Nat × Nat)) ++ more = more from rfl] at hcut
        have step : run Cv 33 (.loop keep33_0 body33_0) (head33 (x.tunes.length + 1) k false) (st82 x []) = run Cv 33 (.loop keep33_0 body33_0) (head33 (x.tunes.length + 1) (k + 1) false) (st82 x []) := by
          rw [run_loop]
          generalize MC.loop keep33_0 body33_0 = L
          simp (maxSteps := 10000000) [-List.getD_eq_getElem?_getD, -loadA, -cut, body33_0, keep33_0, head33, hld1, hlt, hw, hr]
          rw [hcut]
          simp (maxSteps := 10000000) [-List.getD_eq_getElem?_getD, ]
        rw [step]
        have := loop33 x hx hc false n (k + 1) (by omega)
        simpa using this
def wrongO (x : OB) : Option (List Int) := if checkOk x then (if Vc.fine x.voice [] then wrongG (okL x) x.tunes.length 0 (x.tunes.length + 1) else none) else none
def wrongL (x : OB) : List Int := (wrongO x).getD []
def wrongE (x : OB) : Int := if checkOk x then (if (wrongO x).isSome then 0 else 82) else 80
theorem wrongP_call (x : OB) (hx : x.Ok) : ∃ y, IsRow 1 (ints (wrongL x)) y ∧ call Cv 33 [x.av] = some (.tup [y, I (wrongE x)]) := by
  have h1 := check_call x hx
  have hcl := xcells_cell x hx
  have hp := av_pur x hx
  have hlen := tlen hx
  have hbox : boxA {} x.av = some (.box 0 0, { boxes := [x.cells] }) := by
    simp only [boxA, OB.av, AV.cells, hcl, if_true]; rfl
  cases hc : checkOk x with
  | false =>
    rw [hc] at h1
    simp only [Bool.false_eq_true, if_false] at h1
    refine ⟨.nils, by simp [wrongL, wrongO, hc]; exact nils_row, ?_⟩
    rw [call_run comp33 (Nat.le_of_ble_eq_true rfl)]
    simp (maxSteps := 10000000) [-List.getD_eq_getElem?_getD, ret2, ret3, retc2, -boxA, -partA, part_none, part_x, code33, hbox, hp, h1, wrongE, hc]
  | true =>
    rw [hc] at h1
    simp only [if_true] at h1
    have hch := (chk_iff x).1 hc
    have hnc := hch.tunes
    have hw : IntKind.wrap .i64 ((x.tunes.length : Int) + 1) = x.tunes.length + 1 := wrap_small (by omega) (by omega)
    have hl := loop33 x hx hch (Vc.fine x.voice []) (x.tunes.length + 1) 0 (by omega)
    have e5 : ((0 : Nat) : Int) = 0 := rfl
    have h2 := Vc.Right_call x.voice hx.voice
    rw [voice_av, hch.voice] at h2
    simp only [Bool.true_and, if_true] at h2
    have hv : ∀ B, loadA { boxes := x.cells :: B } (some 3) (.box 0 3) = some (.agg [x.br, I x.voice.weeks, x.vr]) := fun _ => rfl
    have hvp : ∀ σ n, pur σ (n + 2) (.agg [x.br, I x.voice.weeks, x.vr]) = some (.agg [x.br, I x.voice.weeks, x.vr], false) := fun σ n => by
      rw [pu_agg]; simp only [pa_cons, pa_nil, br_pur, vr_pur, pu_int, Option.bind_some, Bool.or_self]
    have hp3 : partA (some 3) x.cells 3 = some (.agg [x.br, I x.voice.weeks, x.vr]) := rfl
    have hx1 : x.cells[1]? = some x.tr := rfl
    have hwo : wrongO x = if Vc.fine x.voice [] then wrongG (okL x) x.tunes.length 0 (x.tunes.length + 1) else none := by rw [wrongO, hc, if_pos rfl]
    have hwe : wrongE x = if (wrongO x).isSome then 0 else 82 := by rw [wrongE, hc, if_pos rfl]
    rw [← hwo] at hl
    have hst0 : ({ boxes := [x.cells, [leaveV]] } : St) = st82 x [] := rfl
    cases hwr : wrongO x with
    | none =>
      rw [hwr] at hl hwe
      obtain ⟨L, g1⟩ := hl
      have g' := fun E (hE : mask keep33_0 E = _) => run_at g1 hE
      simp only [keep33_0, head33, st82, e5, leaveV] at g'
      refine ⟨.nils, by simp [wrongL, hwr]; exact nils_row, ?_⟩
      rw [hwe]
      rw [call_run comp33 (Nat.le_of_ble_eq_true rfl)]
      simp (maxSteps := 10000000) [-List.getD_eq_getElem?_getD, ret2, ret3, retc2, -boxA, -partA, part_none, part_x, code33, hbox, hp, h1, h2, hp3, hvp, hx1, hlen, hw, keep33_0, g']
    | some m =>
      rw [hwr] at hl hwe
      obtain ⟨L, more, y, g1, g2⟩ := hl
      have g4 := g2.pur
      have g' := fun E (hE : mask keep33_0 E = _) => run_at g1 hE
      simp only [keep33_0, head33, st82, e5, leaveV] at g'
      refine ⟨y, by simpa [wrongL, hwr] using g2, ?_⟩
      rw [hwe]
      rw [call_run comp33 (Nat.le_of_ble_eq_true rfl)]
      simp (maxSteps := 10000000) [-List.getD_eq_getElem?_getD, ret2, ret3, retc2, -boxA, -partA, part_none, part_x, code33, hbox, hp, h1, h2, hp3, hvp, hx1, hlen, hw, keep33_0, g', g4]
end Go.Ai

set_option maxRecDepth 100000
namespace Go.Ai
open Go.Organ (T4 F3 Tb)
theorem tune_call (a b c d : Int) : call Cv 46 [I a, I b, I c, I d] = some (.agg [I a, I b, I c, I d]) := by
  have hf : fillA [(0, 1, I a), (1, 1, I b), (2, 1, I c), (3, 1, I d)] [I 0, I 0, I 0, I 0] = some [I a, I b, I c, I d] := rfl
  have hs : setAt [I 0, I 0, I 0, I 0] 0 [I a, I b, I c, I d] = [I a, I b, I c, I d] := rfl
  have hp : partA (some 4) [I a, I b, I c, I d] 0 = some (.agg [I a, I b, I c, I d]) := rfl
  rw [call_run comp46 (Nat.le_of_ble_eq_true rfl)]
  simp (maxSteps := 10000000) [-List.getD_eq_getElem?_getD, -partA, -setAt, code46, hf, hs, hp]
theorem part_call (a b c : Int) : call Cv 40 [I a, I b, I c] = some (.agg [I a, I b, I c]) := by
  have hf : fillA [(0, 1, I a), (1, 2, .agg [I b, I c])] [I 0, I 0, I 0] = some [I a, I b, I c] := rfl
  have hs : setAt [I 0, I 0, I 0] 0 [I a, I b, I c] = [I a, I b, I c] := rfl
  have hp : partA (some 3) [I a, I b, I c] 0 = some (.agg [I a, I b, I c]) := rfl
  have h1 := bounds_call b c
  rw [call_run comp40 (Nat.le_of_ble_eq_true rfl)]
  simp (maxSteps := 10000000) [-List.getD_eq_getElem?_getD, -partA, -setAt, code40, hf, hs, hp, h1]
def boy0 : Vc.Boy := ⟨⟨5, 6⟩, ⟨20, 21⟩, ⟨1, 2⟩, ⟨2, 3⟩, 1, ⟨3, 5⟩⟩
def boy1 : Vc.Boy := ⟨⟨8, 8⟩, ⟨18, 18⟩, ⟨0, 1⟩, ⟨1, 1⟩, 0, ⟨6, 7⟩⟩
def boysB : Vc.Book := ⟨[boy0, boy1], 4, [], .full, .nil⟩
theorem boysB_ok : boysB.Ok where
  boys h := by rcases h with h | h <;> cases h
  trials _ := rfl
  blen := by decide
  tlen := by decide
theorem boys_call : call Cv 94 [] = some boysB.av := by
  have h1 : ∀ a b, call Cv 49 [I a, I b] = some (.agg [I a, I b]) := bounds_call
  have h2 : ∀ a, call Cv 44 [I a] = some (.agg [I a, I a]) := only_call
  have hf0 : fillA [(0, 2, .agg [I 5, I 6]), (2, 2, .agg [I 20, I 21]), (4, 2, .agg [I 1, I 2]), (6, 2, .agg [I 2, I 3]), (8, 1, I 1), (9, 2, .agg [I 3, I 5])] [I 0, I 0, I 0, I 0, I 0, I 0, I 0, I 0, I 0, I 0, I 0] = some boy0.cells := rfl
  have hf1 : fillA [(0, 2, .agg [I 8, I 8]), (2, 2, .agg [I 18, I 18]), (4, 2, .agg [I 0, I 1]), (6, 2, .agg [I 1, I 1]), (9, 2, .agg [I 6, I 7])] [I 0, I 0, I 0, I 0, I 0, I 0, I 0, I 0, I 0, I 0, I 0] = some boy1.cells := rfl
  have hz : (AV.agg [I 0, I 0, I 0, I 0, I 0, I 0, I 0, I 0, I 0, I 0, I 0]) = .agg [I 0, I 0, I 0, I 0, I 0, I 0, I 0, I 0, I 0, I 0, I 0] := rfl
  have he : fillE 11 true [(0, .agg boy0.cells), (1, .agg boy1.cells)] [.agg [I 0, I 0, I 0, I 0, I 0, I 0, I 0, I 0, I 0, I 0, I 0], .agg [I 0, I 0, I 0, I 0, I 0, I 0, I 0, I 0, I 0, I 0, I 0]] = some [boy0.av, boy1.av] := rfl
  have hf2 : fillA [(0, 1, .sl 11 [boy0.av, boy1.av] .full), (1, 1, I 4)] [.nils, I 0, .nils] = some [.sl 11 [boy0.av, boy1.av] .full, I 4, .nils] := rfl
  have hs : ∀ a b c, setAt [.nils, I 0, .nils] 0 [a, b, c] = [a, b, c] := fun _ _ _ => rfl
  have hp : ∀ a b c, partA (some 3) [a, b, c] 0 = some (.agg [a, b, c]) := fun _ _ _ => rfl
  have hr : List.replicate 2 (AV.agg [I 0, I 0, I 0, I 0, I 0, I 0, I 0, I 0, I 0, I 0, I 0]) = [.agg [I 0, I 0, I 0, I 0, I 0, I 0, I 0, I 0, I 0, I 0, I 0], .agg [I 0, I 0, I 0, I 0, I 0, I 0, I 0, I 0, I 0, I 0, I 0]] := rfl
  rw [show boysB.av = .agg [.sl 11 [boy0.av, boy1.av] .full, I 4, .nils] from rfl]
  rw [call_run comp94 (Nat.le_of_ble_eq_true rfl)]
  simp (maxSteps := 10000000) [-List.getD_eq_getElem?_getD, -partA, -setAt, code94, h1, h2, hf0, hf1, he, hf2, hs, hp, hr]
def ownT : List T4 := [⟨0, 1, 0, 2⟩, ⟨1, 2, 1, 1⟩, ⟨0, 2, 4, 1⟩]
def tornT : List T4 := ownT ++ [⟨0, 1, 10, 1⟩]
def ownB : OB := ⟨3, ownT, [⟨0, 10, 1⟩], boysB, .sl 4 (ownT.map tuA) .full, .sl 3 [foA ⟨0, 10, 1⟩] .full⟩
def tornB : OB := ⟨3, tornT, [⟨0, 10, 1⟩], boysB, .sl 4 (tornT.map tuA) .no, .sl 3 [foA ⟨0, 10, 1⟩] .full⟩
theorem ownB_ok : ownB.Ok := ⟨.inr (.inr ⟨.full, rfl, rfl⟩), .inr (.inr ⟨.full, rfl, rfl⟩), by decide, by decide, boysB_ok⟩
theorem tornB_ok : tornB.Ok := ⟨.inr (.inr ⟨.no, rfl, rfl⟩), .inr (.inr ⟨.full, rfl, rfl⟩), by decide, by decide, boysB_ok⟩
theorem own_call : call Cv 55 [] = some ownB.av := by
  have h1 : ∀ a b c d, call Cv 46 [I a, I b, I c, I d] = some (.agg [I a, I b, I c, I d]) := tune_call
  have h2 := boys_call
  rw [show boysB.av = .agg [ownB.br, I 4, .nils] from rfl] at h2
  have he : fillE 4 true [(0, .agg [I 0, I 1, I 0, I 2]), (1, .agg [I 1, I 2, I 1, I 1]), (2, .agg [I 0, I 2, I 4, I 1])] [.agg [I 0, I 0, I 0, I 0], .agg [I 0, I 0, I 0, I 0], .agg [I 0, I 0, I 0, I 0]] = some (ownT.map tuA) := rfl
  have hr : List.replicate 3 (AV.agg [I 0, I 0, I 0, I 0]) = [.agg [I 0, I 0, I 0, I 0], .agg [I 0, I 0, I 0, I 0], .agg [I 0, I 0, I 0, I 0]] := rfl
  have hf : fillA [(1, 1, I 10), (2, 1, I 1)] [I 0, I 0, I 0] = some [I 0, I 10, I 1] := rfl
  have he2 : fillE 3 true [(0, .agg [I 0, I 10, I 1])] [.agg [I 0, I 0, I 0]] = some [foA ⟨0, 10, 1⟩] := rfl
  have hr2 : List.replicate 1 (AV.agg [I 0, I 0, I 0]) = [.agg [I 0, I 0, I 0]] := rfl
  have hf2 : fillA [(0, 1, I 3), (1, 1, .sl 4 (ownT.map tuA) .full), (2, 1, .sl 3 [foA ⟨0, 10, 1⟩] .full), (3, 3, .agg [ownB.br, I 4, .nils])] [I 0, .nils, .nils, .nils, I 0, .nils] = some ownB.cells := rfl
  have hs : setAt [I 0, .nils, .nils, .nils, I 0, .nils] 0 ownB.cells = ownB.cells := rfl
  have hp : partA (some 6) ownB.cells 0 = some ownB.av := rfl
  have hc : ownB.cells.all AV.isCell = true := rfl
  have hl : ownB.cells.length = 6 := rfl
  have hpu := av_pur ownB ownB_ok
  rw [call_run comp55 (Nat.le_of_ble_eq_true rfl)]
  simp (maxSteps := 10000000) [-List.getD_eq_getElem?_getD, -partA, -setAt, -List.all_eq_true, code55, h1, h2, he, hr, hf, he2, hr2, hf2, hs, hp, hc, hl, hpu]
theorem torn_call : call Cv 56 [] = some tornB.av := by
  have h1 : call Cv 46 [I 0, I 1, I 10, I 1] = some (.agg [I 0, I 1, I 10, I 1]) := tune_call 0 1 10 1
  have h2 := own_call
  have hs : setAt [I 0, .nils, .nils, .nils, I 0, .nils] 0 ownB.cells = ownB.cells := rfl
  have hc : ownB.cells.all AV.isCell = true := rfl
  have hl : ownB.cells.length = 6 := rfl
  have hx1 : ownB.cells[1]? = some ownB.tr := rfl
  have hx1g : ∀ h : 1 < ownB.cells.length, ownB.cells[1]'h = .sl 4 (ownT.map tuA) .full := fun _ => rfl
  have he : fillE 4 true [(0, .agg [I 0, I 1, I 10, I 1])] [.agg [I 0, I 0, I 0, I 0]] = some [tuA ⟨0, 1, 10, 1⟩] := rfl
  have ha : ∀ B, appA { boxes := B } false 4 32 true (.sl 4 (ownT.map tuA) .full) (.sl 4 [tuA ⟨0, 1, 10, 1⟩] .full) = some (.sl 4 (tornT.map tuA) (.chain 0), { boxes := B, chains := [(4, 4)] }) := fun B => by
    simp [appA, elemsA, grown, ownT, tornT]
  have hs1 : setAt ownB.cells 1 [.sl 4 (tornT.map tuA) (.chain 0)] = [I 3, .sl 4 (tornT.map tuA) (.chain 0), ownB.fr, ownB.br, I 4, ownB.vr] := rfl
  have hs6 : setAt [I 0, .nils, .nils, .nils, I 0, .nils] 0 [I 3, .sl 4 (tornT.map tuA) (.chain 0), ownB.fr, ownB.br, I 4, ownB.vr] = [I 3, .sl 4 (tornT.map tuA) (.chain 0), ownB.fr, ownB.br, I 4, ownB.vr] := rfl
  have hp6 : ∀ a b c d e f : AV, partA (some 6) [a, b, c, d, e, f] 0 = some (.agg [a, b, c, d, e, f]) := fun _ _ _ _ _ _ => rfl
  have c1 : ownB.fr.isCell = true := rfl
  have c2 : ownB.br.isCell = true := rfl
  have c3 : ownB.vr.isCell = true := rfl
  have q2 : ∀ σ n, pur σ (n + 1) ownB.fr = some (ownB.fr, false) := fun _ _ => rfl
  have q3 := br_pur ownB
  have q4 := vr_pur ownB
  have hav : tornB.av = .agg [I 3, (.sl 4 (tornT.map tuA) .no), ownB.fr, ownB.br, I 4, ownB.vr] := rfl
  have hav' : ownB.av = .agg ownB.cells := rfl
  rw [hav'] at h2
  rw [hav]
  generalize tornT.map tuA = R at *
  generalize ownT.map tuA = R' at *
  rw [call_run comp56 (Nat.le_of_ble_eq_true rfl)]
  simp (maxSteps := 10000000) [-List.getD_eq_getElem?_getD, -partA, -setAt, -List.all_eq_true, part_none, code56, h1, h2, hs, hc, hl, hx1, hx1g, he, ha, hs1, hs6, hp6, c1, c2, c3, q2, q3, q4, still]
end Go.Ai

set_option maxRecDepth 100000
namespace Go.Ai
open Go.Organ (T4 F3 Tb)
def piece2 : List P3 := [⟨0, 8, 15⟩, ⟨1, 10, 14⟩]
def piece1 : List P3 := [⟨1, 10, 18⟩]
set_option maxHeartbeats 4000000 in
theorem tuned_call : call Cv 25 [] = some (.bool true) := by
  have a0 : askE ownB true = 0 := by decide +kernel
  have c1 := Pitch_call ownB ownB_ok 2
  have c2 := Apart_call ownB ownB_ok 0 2
  have c3 := Sharp_call ownB ownB_ok
  have p2 : isPipe ownB 2 = true := by decide +kernel
  have p0 : isPipe ownB 0 = true := by decide +kernel
  rw [p2, a0] at c1
  rw [p0, p2, Bool.and_self, a0] at c2
  rw [a0] at c3
  have v1 : twoV ownB true 5 (2 : Int).toNat = .agg [I 12, I 15] := by
    rw [twoV, if_pos a0]
    have e1 : -tabO ownB noF (2 : Int).toNat 5 = 12 := by decide +kernel
    have e2 : tabO ownB noF 5 (2 : Int).toNat = 15 := by decide +kernel
    rw [e1, e2]
  have v2 : twoV ownB true (0 : Int).toNat (2 : Int).toNat = .agg [I 3, I 4] := by
    rw [twoV, if_pos a0]
    have e1 : -tabO ownB noF (2 : Int).toNat (0 : Int).toNat = 3 := by decide +kernel
    have e2 : tabO ownB noF (0 : Int).toNat (2 : Int).toNat = 4 := by decide +kernel
    rw [e1, e2]
  have v3 : sharpV ownB = .agg [I 0, I 2] := by
    rw [sharpV, if_pos a0]
    have e1 : Organ.shL (tabO ownB noF) ownB.N = 0 := by decide +kernel
    have e2 : Organ.shH (tabO ownB noF) ownB.N = 2 := by decide +kernel
    rw [e1, e2]
  rw [v1] at c1
  rw [v2] at c2
  rw [v3] at c3
  have r2 : PRow piece2 (.sl 3 (piece2.map paA) .full) := ⟨.inr (.inr ⟨.full, rfl, rfl⟩), by decide⟩
  have r1 : PRow piece1 (.sl 3 (piece1.map paA) .full) := ⟨.inr (.inr ⟨.full, rfl, rfl⟩), by decide⟩
  have c4 := Keys_call ownB ownB_ok 0 piece2 _ r2
  have c5 := Best_call ownB ownB_ok 0 piece1 _ r1
  have q2 : pieceB ownB 0 piece2 = true := by decide +kernel
  have k2 : keysO ownB 0 piece2 = [-2, -1, 0, 1, 2] := by decide +kernel
  have k1 : bestO ownB 0 piece1 = -2 := by decide +kernel
  have k0 : bestE ownB 0 piece1 = 0 := by decide +kernel
  rw [q2, a0, k2] at c4
  rw [k1, k0] at c5
  have c6 := Fits_call ownB ownB_ok ⟨0, 1, 4, 2⟩
  have t6 : tuneOk ownB ⟨0, 1, 4, 2⟩ = true := by decide +kernel
  have f6 : fitsO ownB ⟨0, 1, 4, 2⟩ = true := by decide +kernel
  rw [t6, a0, f6] at c6
  obtain ⟨y, hy, c7⟩ := wrongP_call tornB tornB_ok
  have w7 : wrongL tornB = [3] := by decide +kernel
  have e7 : wrongE tornB = 0 := by decide +kernel
  rw [w7] at hy
  rw [e7] at c7
  have c8 := Right_call ownB ownB_ok
  have b8 : rightB ownB = true := by decide +kernel
  have e8 : rightE ownB = 0 := by decide +kernel
  rw [b8, e8] at c8
  have q1 : ∀ l : List Int, IsRow 1 (ints l) (.sl 1 (ints l) .full) := fun l => .inr (.inr ⟨.full, rfl, rfl⟩)
  have hro : rowO [-2, -1, 0, 1, 2] = .sl 1 (ints [-2, -1, 0, 1, 2]) .full := if_neg (by simp)
  rw [hro] at c4
  have d1 : call Cv 28 [.sl 1 [I (-2), I (-1), I 0, I 1, I 2] .full, .sl 1 [I (-2), I (-1), I 0, I 1, I 2] .full] = some (.bool true) := equal_call [-2, -1, 0, 1, 2] [-2, -1, 0, 1, 2] _ _ (q1 _) (q1 _) (by decide) (by decide)
  have d2 : call Cv 28 [y, .sl 1 [I 3] .full] = some (.bool true) := equal_call [3] [3] _ _ hy (q1 _) (by decide) (by decide)
  have b1 : ∀ a b, call Cv 49 [I a, I b] = some (.agg [I a, I b]) := bounds_call
  have p1 := av_pur ownB ownB_ok
  have p3 := av_pur tornB tornB_ok
  have p4 := hy.pur
  have s1 := own_call
  have s2 := torn_call
  have s3 : ∀ a b c, call Cv 40 [I a, I b, I c] = some (.agg [I a, I b, I c]) := part_call
  have s4 : ∀ a b c d, call Cv 46 [I a, I b, I c, I d] = some (.agg [I a, I b, I c, I d]) := tune_call
  have f1 : ∀ a b, fillE 3 true [(0, .agg [I 0, I 8, I 15]), (1, .agg [I 1, I 10, I 14])] [a, b] = some [paA ⟨0, 8, 15⟩, paA ⟨1, 10, 14⟩] := fun _ _ => rfl
  have f2 : ∀ a, fillE 3 true [(0, .agg [I 1, I 10, I 18])] [a] = some [paA ⟨1, 10, 18⟩] := fun _ => rfl
  have f3 : fillE 1 false [(0, I (-2)), (1, I (-1)), (2, I 0), (3, I 1), (4, I 2)] [I 0, I 0, I 0, I 0, I 0] = some [I (-2), I (-1), I 0, I 1, I 2] := rfl
  have f4 : fillE 1 false [(0, I 3)] [I 0] = some [I 3] := rfl
  have rp1 : ∀ z : AV, List.replicate 1 z = [z] := fun _ => rfl
  have rp2 : ∀ z : AV, List.replicate 2 z = [z, z] := fun _ => rfl
  have rp5 : ∀ z : AV, List.replicate 5 z = [z, z, z, z, z] := fun _ => rfl
  have e1 : eqCells [I 12, I 15] [I 12, I 15] = some true := rfl
  have e2 : eqCells [I 3, I 4] [I 3, I 4] = some true := rfl
  have e3 : eqCells [I 0, I 2] [I 0, I 2] = some true := rfl
  have hm2 : piece2.map paA = [paA ⟨0, 8, 15⟩, paA ⟨1, 10, 14⟩] := rfl
  have hm1 : piece1.map paA = [paA ⟨1, 10, 18⟩] := rfl
  have htu : tuA ⟨0, 1, 4, 2⟩ = .agg [I 0, I 1, I 4, I 2] := rfl
  have hin : ints [-2, -1, 0, 1, 2] = [I (-2), I (-1), I 0, I 1, I 2] := rfl
  rw [hm2, hin] at c4
  rw [hm1] at c5
  rw [htu] at c6
  generalize ownB.av = O at *
  generalize tornB.av = U at *
  rw [call_run comp25 (Nat.le_of_ble_eq_true rfl)]
  simp (maxSteps := 10000000) [-List.getD_eq_getElem?_getD, -partA, -setAt, part_none, part_two, set_two, code25, s1, s2, s3, s4, c1, c2, c3, c4, c5, c6, c7, c8, d1, d2, b1, p1, p3, p4, f1, f2, f3, f4, rp1, rp2, rp5, e1, e2, e3, still]
end Go.Ai
