/- This text shows books with other notes. No conditions of its own. -/
import Derived.Test.YtckbmdbebmkbaaaDoorFnQ
set_option linter.unusedSimpArgs false
set_option linter.unusedVariables false
set_option maxRecDepth 100000
namespace Go.Ai
open Go.Office (Ft Rl Us Nt Bk keptN butF)
theorem join_row {sz bytes : Nat} {es : List AV} {r : AV} (hr : IsRow sz es r) (hb : (es.length + 1) * bytes ≤ 140737488355328) (v : AV) (B : List (List AV)) :
    ∃ y ch, appA { boxes := B } false sz bytes true (.sl sz [] .full) r = some (y, { boxes := B, chains := ch }) ∧ appA { boxes := B, chains := ch } false sz bytes true y (.sl sz [v] .full) = some (.sl sz (es ++ [v]) (.chain 0), { boxes := B, chains := [(es.length + 1, sz)] }) := by
  have hb1 : bytes ≤ 140737488355328 := by
    have : bytes ≤ (es.length + 1) * bytes := Nat.le_mul_of_pos_left _ (by omega)
    omega
  have hb0 : es.length * bytes ≤ 140737488355328 := Nat.le_trans (Nat.mul_le_mul_right _ (by omega)) hb
  by_cases he : es = []
  · subst he
    refine ⟨.sl sz [] .full, [], ?_, ?_⟩
    · rcases hr with ⟨rfl, _⟩ | ⟨rfl, _⟩ | ⟨c, hc, rfl⟩ <;> simp [appA, elemsA, isSl]
    · simp [appA, elemsA, grown, hb1]
  · obtain ⟨c, hc, rfl⟩ := hr.sl he
    refine ⟨.sl sz es (.chain 0), [(es.length, sz)], ?_, ?_⟩
    · simp [appA, elemsA, grown, he, hb0]
    · simp [appA, elemsA, hb]
theorem keptN_sub {f : Nat → Bool} {l : List Nt} {k : Nat} : ∀ y ∈ keptN f l k, y ∈ l := fun y hy => by
  obtain ⟨j, hj, h1, _⟩ := (Go.Office.kept_mem _ _).1 hy
  exact h1 ▸ List.getElem_mem _
def OB.put (x : OB) (l : List Nt) (r : AV) : OB := { x with ns := l, nr := r }
theorem put_ok {x : OB} (hx : x.Ok) {l : List Nt} {r : AV} (hr : IsRow 3 (l.map ntA) r) (hl : l.length < 2 ^ 47) : (x.put l r).Ok := { fr := hx.fr, q0 := hx.q0, q1 := hx.q1, nr := hr, lf := hx.lf, l0 := hx.l0, l1 := hx.l1, ln := hl }
theorem noteB_put (x : OB) (l : List Nt) (r : AV) (n : Nt) : noteB (x.put l r) n = noteB x n := rfl
theorem put_check {x : OB} (hk : checkB x = true) {l : List Nt} (r : AV) (hl : l.length ≤ 4) (h : ∀ y ∈ l, noteB x y = true) : checkB (x.put l r) = true := by
  have hl' : ((l.length : Nat) : Int) ≤ 4 := by omega
  simp only [checkB, okOne, Bool.and_eq_true] at hk ⊢
  obtain ⟨⟨⟨⟨⟨a1, a2, a3, a4⟩, b⟩, c⟩, d⟩, e⟩ := hk
  exact ⟨⟨⟨⟨⟨a1, a2, a3, decide_eq_true hl'⟩, b⟩, c⟩, d⟩, List.all_eq_true.2 h⟩
theorem check_notes {x : OB} (hk : checkB x = true) : ∀ y ∈ x.ns, noteB x y = true := by
  simp only [checkB, Bool.and_eq_true, List.all_eq_true] at hk
  exact hk.2
theorem not_note {x : OB} {l : List Nt} (r : AV) {y : Nt} (hy : y ∈ l) (h : noteB x y = false) : checkB (x.put l r) = false := by
  cases hc : checkB (x.put l r) with
  | false => rfl
  | true =>
    have : noteB x y = true := check_notes hc y hy
    rw [h] at this
    cases this
theorem put_bk (x : OB) (l : List Nt) (r : AV) : (x.put l r).bk = x.bk.note l := rfl
def OB.more (x : OB) (n : Nt) : OB := x.put (x.ns ++ [n]) (.sl 3 ((x.ns ++ [n]).map ntA) .no)
def OB.left (x : OB) (but : List Int) : OB := x.put (keptN (butF but) x.ns 0) (growP 3 ((keptN (butF but) x.ns 0).map ntA))
theorem more_ok {x : OB} (hx : x.Ok) (hl : x.ns.length < 1000) (n : Nt) : (x.more n).Ok := put_ok hx (.inr (.inr ⟨.no, rfl, rfl⟩)) (by simp; omega)
theorem left_ok {x : OB} (hx : x.Ok) (but : List Int) : (x.left but).Ok := put_ok hx (growP_row _ _) (by have := Go.Office.keptN_len (butF but) x.ns 0; have := hx.ln; omega)
theorem left_check {x : OB} (hk : checkB x = true) (but : List Int) : checkB (x.left but) = true := put_check hk _ (by have := Go.Office.keptN_len (butF but) x.ns 0; have := (check_fine hk).n4; omega) fun y hy => check_notes hk y (keptN_sub y hy)
theorem more_check {x : OB} (hk : checkB x = true) (hl : x.ns.length < 4) {n : Nt} (hs : noteB x n = true) : checkB (x.more n) = true := put_check hk _ (by simp; omega) fun y hy => by
  rcases List.mem_append.1 hy with hy | hy
  · exact check_notes hk y hy
  · rw [List.mem_singleton.1 hy]; exact hs
theorem more_bad {x : OB} {n : Nt} (hs : noteB x n = false) : checkB (x.more n) = false := not_note _ (List.mem_append.2 (.inr (List.mem_singleton.2 rfl))) hs
theorem left_bk (x : OB) (but : List Int) : (x.left but).bk = x.bk.left but := rfl
theorem nt_row (x : OB) (hx : x.Ok) : IsRow 3 (x.ns.map ntA) x.nr := hx.nr
def F38 (x : OB) (g : AV) : List (List AV) := [x.cells, [I 0, I 0, .nils, .nils, .bool false, .nils, .bool false, .nils], [I x.days, I x.first, x.fr, x.q0, .bool x.g0, x.q1, .bool x.g1, g]]
theorem F38_under (x : OB) (hx : x.Ok) (g : AV) (nc : Nat) : (F38 x g).all (fun cs => cs.all (under 3 nc 0 0 6)) = under 3 nc 0 0 6 g := by
  have u1 := hx.fr.under 3 nc 0 0 5
  have u2 := hx.q0.under 3 nc 0 0 5
  have u3 := hx.q1.under 3 nc 0 0 5
  have u4 := hx.nr.under 3 nc 0 0 5
  have ub : ∀ b : Bool, under 3 nc 0 0 6 (.bool b) = true := fun _ => rfl
  have u0 : under 3 nc 0 0 6 AV.nils = true := rfl
  simp only [F38, OB.cells, List.all_cons, List.all_nil, u1, u2, u3, u4, ub, u0, un_int, Bool.and_self, Bool.true_and, Bool.and_true]
def st38 (x : OB) (es : List AV) : St := { boxes := F38 x (growV 0 3 es), chains := [] ++ growC 3 es }
theorem cut38 (x : OB) (hx : x.Ok) (es es' : List AV) (hes : es' = es ∨ es' ≠ []) (e : Env) (hE : ∀ nc, e.all (under 3 nc 0 0 6) = true) : cut (st38 x es) (st38 x es') e = st38 x es' := by
  have := cut_grow (sz := 3) (F38 x) (fun _ => rfl) [] (fun g nc _ => F38_under x hx g nc) es es' hes [] e (fun nc _ => hE nc)
  rw [List.append_nil] at this
  exact this
theorem app38 (x : OB) (es : List AV) (v : AV) (hl : es.length < 1000) : appA (st38 x es) false 3 24 true (growV 0 3 es) (.sl 3 [v] .full) = some (growV 0 3 (es ++ [v]), { boxes := F38 x (growV 0 3 es), chains := [] ++ growC 3 (es ++ [v]) }) := growV_app (ch0 := []) (by omega) (by omega)
theorem sto38 (x : OB) (es : List AV) (v : AV) : storeA { boxes := F38 x (growV 0 3 es), chains := [] ++ growC 3 (es ++ [v]) } 1 (.box 2 7) (growV 0 3 (es ++ [v])) = some (st38 x (es ++ [v])) := by
  have g1 := growV_cell 0 3 (es ++ [v])
  have g2 := growV_cells 0 3 (es ++ [v])
  simp [storeA, g1, g2, st38, F38, setAt]
def head38 (r : AV) (k : Int) : Env := mkE 31 .any [(6, I k), (5, .box 2 0), (4, .box 1 0), (2, .box 0 0), (1, r)]
theorem loop38 (x : OB) (hx : x.Ok) (hl : x.ns.length < 1000) (but : List Int) (r : AV) (hr : IsRow 1 (ints but) r) (hbl : but.length < 2 ^ 47) : ∀ (l : List Nt) (k : Nat) (es : List Nt), k ≤ x.ns.length → x.ns.drop k = l → es.length ≤ k →
    ∃ L, run Cv 38 (.loop keep38_0 body38_0) (head38 r k) (st38 x (es.map ntA)) = some (.ex 0, mkE 31 .any L, st38 x ((es ++ keptN (butF but) l k).map ntA)) ∧ gt (mkE 31 .any L) 5 = .box 2 0 ∧ gt (mkE 31 .any L) 4 = .box 1 0
  | [], k, es, hk, h, he => by
    obtain rfl := drop_nil hk h
    have hlen := nlen hx
    have hld : ∀ es off, loadA (st38 x es) none (.box 0 off) = x.cells[off]? := fun _ _ => rfl
    have hx1 : x.cells[7]? = some x.nr := rfl
    rw [run_loop, keptN, List.append_nil]
    simp (maxSteps := 10000000) [-List.getD_eq_getElem?_getD, -loadA, body38_0, keep38_0, head38, hld, hx1, hlen]
    exact ⟨_, rfl, by simp (maxSteps := 10000000) [-List.getD_eq_getElem?_getD, ], by simp (maxSteps := 10000000) [-List.getD_eq_getElem?_getD, ]⟩
  | t :: l, k, es, hk, h, he => by
    obtain ⟨hlt, ha, hd⟩ := head_drop h
    have hw := wrap_succ hlt hx.ln
    have hlt' : (k : Int) < (x.ns.length : Int) := by omega
    have hlen := nlen hx
    have hwc := where_call but r hr hbl k
    have hrp := hr.pur
    have hru := hr.under
    have hneg : decide (idx k but 0 < 0) = !butF but k := by
      have := idx_nonneg k but 0
      rw [show butF but k = decide ((k : Int) ∈ but) from rfl, ← this]
      by_cases h0 : 0 ≤ idx k but 0 <;> simp [h0] <;> omega
    have hld : ∀ es off, loadA (st38 x es) none (.box 0 off) = x.cells[off]? := fun _ _ => rfl
    have hx1 : x.cells[7]? = some x.nr := rfl
    have hix := n_ix hx hlt
    rw [ha] at hix
    have hlr : ∀ σ, loadA σ (some 3) (.rp (ntC t) 0) = some (ntA t) := fun _ => rfl
    have hl5 : ∀ es, loadA (st38 x es) none (.box 2 7) = some (growV 0 3 es) := fun _ => rfl
    have hfe : ∀ z, fillE 3 true [(0, ntA t)] [z] = some [ntA t] := fun _ => rfl
    have hr1 : ∀ z : AV, List.replicate 1 z = [z] := fun _ => rfl
    have happ := app38 x (es.map ntA) (ntA t) (by simp; omega)
    have hst := sto38 x (es.map ntA) (ntA t)
    rw [show ([] : List (Nat × Nat)) ++ growC 3 (es.map ntA ++ [ntA t]) = growC 3 (es.map ntA ++ [ntA t]) from rfl] at happ hst
    have hkept : keptN (butF but) (t :: l) k = (if butF but k then [] else [t]) ++ keptN (butF but) l (k + 1) := rfl
    rw [hkept, ← List.append_assoc]
    cases hb : butF but k with
    | true =>
      have hj : ¬ idx k but 0 < 0 := by rw [hb] at hneg; simpa using hneg
      have hc2 := cut38 x hx (es.map ntA) (es.map ntA) (.inl rfl)
      have step : run Cv 38 (.loop keep38_0 body38_0) (head38 r k) (st38 x (es.map ntA)) = run Cv 38 (.loop keep38_0 body38_0) (head38 r (k + 1)) (st38 x (es.map ntA)) := by
        rw [run_loop]
        generalize MC.loop keep38_0 body38_0 = L
        simp (maxSteps := 10000000) [-List.getD_eq_getElem?_getD, -loadA, -storeA, -cut, -ixsA, body38_0, keep38_0, head38, hlen, hlt', hw, hwc, hrp, hj, hld, hx1]
        rw [hc2]
        intro nc
        simp (maxSteps := 10000000) [-List.getD_eq_getElem?_getD, hru]
      rw [step, if_pos rfl, List.append_nil]
      exact loop38 x hx hl but r hr hbl l (k + 1) es hlt hd (by omega)
    | false =>
      have hj : idx k but 0 < 0 := by rw [hb] at hneg; simpa using hneg
      have hc2 := cut38 x hx (es.map ntA) (es.map ntA ++ [ntA t]) (.inr (by simp))
      have step : run Cv 38 (.loop keep38_0 body38_0) (head38 r k) (st38 x (es.map ntA)) = run Cv 38 (.loop keep38_0 body38_0) (head38 r (k + 1)) (st38 x (es.map ntA ++ [ntA t])) := by
        rw [run_loop]
        generalize MC.loop keep38_0 body38_0 = L
        simp (maxSteps := 10000000) [-List.getD_eq_getElem?_getD, -loadA, -storeA, -cut, -ixsA, body38_0, keep38_0, head38, hlen, hlt', hw, hwc, hrp, hj, hld, hx1, hix, hlr, hl5, hfe, hr1, happ, hst]
        rw [hc2]
        intro nc
        simp (maxSteps := 10000000) [-List.getD_eq_getElem?_getD, hru]
      rw [step, if_neg (by simp)]
      have := loop38 x hx hl but r hr hbl l (k + 1) (es ++ [t]) hlt hd (by simp; omega)
      simpa [List.append_assoc] using this
theorem x_cells_len (x : OB) : x.cells.length = 8 := rfl
theorem z8x (x : OB) : setAt [I 0, I 0, .nils, .nils, .bool false, .nils, .bool false, .nils] 0 x.cells = x.cells := rfl
theorem x_cell (x : OB) (hx : x.Ok) : x.cells.all AV.isCell = true := by
  have p1 := hx.fr.cell
  have p2 := hx.q0.cell
  have p3 := hx.q1.cell
  have p4 := hx.nr.cell
  have hi : ∀ n, AV.isCell (I n) = true := fun _ => rfl
  simp [OB.cells, p1, p2, p3, p4, hi]
theorem without_call (x : OB) (hx : x.Ok) (hl : x.ns.length < 1000) (but : List Int) (r : AV) (hr : IsRow 1 (ints but) r) (hbl : but.length < 2 ^ 47) : call Cv 38 [x.av, r] = some (x.left but).av := by
  have hcl := x_cell x hx
  have hav : x.av.cells = x.cells := rfl
  have hxl : x.cells.length = 8 := rfl
  have hbox := x_box hx
  obtain ⟨L, l0, g5, g4⟩ := loop38 x hx hl but r hr hbl x.ns 0 [] (Nat.zero_le _) rfl (Nat.le_refl _)
  have l0' := fun E (hE : mask keep38_0 E = _) => run_at l0 hE
  have e5 : ((0 : Nat) : Int) = 0 := rfl
  simp only [keep38_0, head38, e5, List.nil_append, List.map_nil] at l0'
  have hz := z8x x
  have hs1 : setAt x.cells 7 [.nils] = [I x.days, I x.first, x.fr, x.q0, .bool x.g0, x.q1, .bool x.g1, .nils] := rfl
  have hst0 : st38 x [] = { boxes := [x.cells, [I 0, I 0, .nils, .nils, .bool false, .nils, .bool false, .nils], [I x.days, I x.first, x.fr, x.q0, .bool x.g0, x.q1, .bool x.g1, .nils]] } := rfl
  rw [hst0] at l0'
  have hstd : ∀ es, st38 x es = { boxes := [x.cells, [I 0, I 0, .nils, .nils, .bool false, .nils, .bool false, .nils], [I x.days, I x.first, x.fr, x.q0, .bool x.g0, x.q1, .bool x.g1, growV 0 3 es]], chains := growC 3 es } := fun _ => rfl
  rw [hstd] at l0'
  have hp11 : ∀ a b c d e f g h : AV, partA (some 8) [a, b, c, d, e, f, g, h] 0 = some (.agg [a, b, c, d, e, f, g, h]) := fun _ _ _ _ _ _ _ _ => rfl
  have hs11 : ∀ a b c d e f g h : AV, setAt [I 0, I 0, .nils, .nils, .bool false, .nils, .bool false, .nils] 0 [a, b, c, d, e, f, g, h] = [a, b, c, d, e, f, g, h] := fun _ _ _ _ _ _ _ _ => rfl
  have hpx : partA (some 8) x.cells 0 = some (.agg x.cells) := rfl
  have hax : (AV.agg x.cells) = x.av := rfl
  have c1 := hx.fr.cell
  have c2 := hx.q0.cell
  have c3 := hx.q1.cell
  have q1 := hx.fr.pur
  have q2 := hx.q0.pur
  have q3 := hx.q1.pur
  have gc := growV_cell 0 3 ((keptN (butF but) x.ns 0).map ntA)
  have gp := growV_puri 0 3 ((keptN (butF but) x.ns 0).map ntA)
  have hm : (x.left but).av = .agg [I x.days, I x.first, x.fr, x.q0, .bool x.g0, x.q1, .bool x.g1, growP 3 ((keptN (butF but) x.ns 0).map ntA)] := rfl
  rw [hm]
  rw [call_run comp38 (Nat.le_of_ble_eq_true rfl)]
  simp (maxSteps := 10000000) [-List.getD_eq_getElem?_getD, -boxA, -partA, -setAt, -List.all_eq_true, code38, hbox, hav, hcl, hxl, hz, hs1, keep38_0, l0', g5, g4, hp11, hs11, hpx, hax, c1, c2, c3, q1, q2, q3, gc, gp]
theorem with_call (x : OB) (hx : x.Ok) (hl : x.ns.length < 1000) (t : Nt) : call Cv 20 [x.av, ntA t] = some (x.more t).av := by
  have hcl := x_cell x hx
  have hav : x.av.cells = x.cells := rfl
  have hxl : x.cells.length = 8 := rfl
  have hbox := x_box hx
  have hbox2 : boxA { boxes := [x.cells] } (ntA t) = some (.box 1 0, { boxes := [x.cells, ntC t] }) := rfl
  obtain ⟨y, ch, j1, j2⟩ := join_row (sz := 3) (bytes := 24) (nt_row x hx) (by simp; omega) (ntA t) [x.cells, ntC t, [I 0, I 0, .nils, .nils, .bool false, .nils, .bool false, .nils], x.cells]
  have hz := z8x x
  have hx1 : x.cells[7]? = some x.nr := rfl
  have hx1g : ∀ h : 7 < x.cells.length, x.cells[7]'h = x.nr := fun _ => rfl
  have hp3 : partA (some 3) (ntC t) 0 = some (ntA t) := rfl
  have hr0 : ∀ z : AV, List.replicate 0 z = [] := fun _ => rfl
  have hr1 : ∀ z : AV, List.replicate 1 z = [z] := fun _ => rfl
  have hf0 : fillE 3 true [] [] = some [] := rfl
  have hf1 : ∀ z, fillE 3 true [(0, ntA t)] [z] = some [ntA t] := fun _ => rfl
  have hs1 : ∀ v : AV, setAt x.cells 7 [v] = [I x.days, I x.first, x.fr, x.q0, .bool x.g0, x.q1, .bool x.g1, v] := fun _ => rfl
  have hp11 : ∀ a b c d e f g h : AV, partA (some 8) [a, b, c, d, e, f, g, h] 0 = some (.agg [a, b, c, d, e, f, g, h]) := fun _ _ _ _ _ _ _ _ => rfl
  have hs11 : ∀ a b c d e f g h : AV, setAt [I 0, I 0, .nils, .nils, .bool false, .nils, .bool false, .nils] 0 [a, b, c, d, e, f, g, h] = [a, b, c, d, e, f, g, h] := fun _ _ _ _ _ _ _ _ => rfl
  have hpx : partA (some 8) x.cells 0 = some (.agg x.cells) := rfl
  have hax : (AV.agg x.cells) = x.av := rfl
  have hpn : ∀ i, partA none x.cells i = x.cells[i]? := fun _ => rfl
  have c1 := hx.fr.cell
  have c2 := hx.q0.cell
  have c3 := hx.q1.cell
  have q1 := hx.fr.pur
  have q2 := hx.q0.pur
  have q3 := hx.q1.pur
  have hm : (x.more t).av = .agg [I x.days, I x.first, x.fr, x.q0, .bool x.g0, x.q1, .bool x.g1, .sl 3 (x.ns.map ntA ++ [ntA t]) .no] := by
    show AV.agg [I x.days, I x.first, x.fr, x.q0, .bool x.g0, x.q1, .bool x.g1, .sl 3 ((x.ns ++ [t]).map ntA) .no] = _
    rw [List.map_append]; rfl
  rw [hm]
  rw [call_run comp20 (Nat.le_of_ble_eq_true rfl)]
  simp (maxSteps := 10000000) [-List.getD_eq_getElem?_getD, -boxA, -partA, -setAt, -List.all_eq_true, code20, hbox, hbox2, hav, hcl, hxl, hz, hx1, hx1g, hp3, hr0, hr1, hf0, hf1, j1, j2, hs1, hp11, hs11, hpx, hax, hpn, c1, c2, c3, q1, q2, q3]
end Go.Ai

set_option maxRecDepth 100000
namespace Go.Ai
open Go.Office (Ft Rl Us Nt Bk)
section
variable {x : OB} (hx : x.Ok) (hk : checkB x = true)
include hx hk
theorem Right_1 : call Cv 19 [x.av] = some (.tup [.bool (!x.bk.tr.isEmpty), I 0]) := by
  rw [Right_call x hx, hk, if_pos rfl, Bool.true_and]
theorem Fits_0 (hT : x.bk.tr = []) {n : Nt} (hn : noteB x n = true) : call Cv 16 [x.av, ntA n] = some (.tup [.bool false, I 12]) := by
  rw [Fits_call x hx, fitsV, hn, errQ_none hk hT]; rfl
theorem Fits_1 (hT : x.bk.tr ≠ []) {n : Nt} (hn : noteB x n = true) : call Cv 16 [x.av, ntA n] = some (.tup [.bool (x.bk.tr.any (fitB x n)), I 0]) := by
  rw [Fits_call x hx, fitsV, hn, errQ_ok hk hT]; rfl
omit hk in
theorem Fits_bad {n : Nt} (hk : checkB x = true) (hn : noteB x n = false) : call Cv 16 [x.av, ntA n] = some (.tup [.bool false, I 11]) := by
  have he : errQ x false = 11 := by unfold errQ; simp [hk]
  rw [Fits_call x hx, fitsV, hn, he]; rfl
end
end Go.Ai
