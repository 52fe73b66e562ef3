/- This text shows the loops of the law of the keys. No conditions of its own. -/
import Derived.Test.YtbjdaefdifofkaaDoorLawsM
import Derived.Test.YtbjdaefdifofkaaDoorCodesL7
set_option linter.unusedSimpArgs false
set_option linter.unusedVariables false
set_option maxRecDepth 100000
set_option linter.unusedSimpArgs false
set_option linter.unusedVariables false
/-! The law of the keys: its loops. -/
namespace Go.Ai
open Go.Organ (T4 F3 Tb T6 shL shH keysL keysF allS allS_nil allS_step nearF bestF)
def head7_0 (l : AV) (week key best f k : Int) (sure : Bool) : Env := mkE 242 .any [(16, I k), (15, .bool sure), (13, .box 3 0), (12, I f), (11, I best), (9, l), (8, .box 2 0), (6, I key), (5, I week), (2, .box 0 0)]
def st7 (x : OB) (n0 n1 n2 n3 n4 : Int) (p : P3) (sl sh : Int) : St := { boxes := [x.cells, [I n0, I n1, I n2, I n3, I n4], [I p.boy, I p.low, I p.high], [I sl, I sh]] }
theorem loop7_0 (x : OB) (hx : x.Ok) (l : AV) (n0 n1 n2 n3 n4 : Int) (p : P3) (week key best f sl sh hi : Int) (w1 : IntKind.wrap .i64 (p.high + key) = p.high + key) (w2 : IntKind.wrap .i64 (p.high + key + sh) = hi) (hhi : hi ≤ 100000) : ∀ (n : Nat) (a : Int) (s : Bool), n = (hi + 1 - a).toNat → a ≤ hi + 1 → -100000 ≤ a →
    run Cv 7 (.loop keep7_0 body7_0) (head7_0 l week key best f a s) (st7 x n0 n1 n2 n3 n4 p sl sh) = some (.ex 0, mkE 242 .any [(142, .bool false), (141, I hi), (140, I sh), (139, .box 3 1), (138, I (p.high + key)), (137, I key), (136, I p.high), (135, .box 2 2), (134, .box 2 1), (133, I (hi + 1)), (16, I (hi + 1)), (15, .bool (s && allS (surely x p.boy week) a hi)), (13, .box 3 0), (12, I f), (11, I best), (9, l), (8, .box 2 0), (6, I key), (5, I week), (2, .box 0 0)], st7 x n0 n1 n2 n3 n4 p sl sh)
  | 0, a, s, hn, ha, ha' => by
    have hle : ¬ a ≤ hi := by omega
    obtain rfl : a = hi + 1 := by omega
    rw [allS_nil (by omega)]
    rw [run_loop]
    simp (maxSteps := 10000000) [-List.getD_eq_getElem?_getD, body7_0, keep7_0, head7_0, st7, w1, w2, hle]
  | n + 1, a, s, hn, ha, ha' => by
    have hle : a ≤ hi := by omega
    have hw : IntKind.wrap .i64 (a + 1) = a + 1 := wrap_small (by omega) (by omega)
    have hs := sing_call x hx p.boy week a
    have hv : partA (some 3) x.cells 3 = some (.agg [x.br, I x.voice.weeks, x.vr]) := rfl
    have hvp : ∀ σ n, pur σ (n + 2) (.agg [x.br, I x.voice.weeks, x.vr]) = some (.agg [x.br, I x.voice.weeks, x.vr], false) := fun σ n => by
      rw [pu_agg]; simp only [pa_cons, pa_nil, br_pur, vr_pur, pu_int, Option.bind_some, Bool.or_self]
    have hcut := fun e => cut_self (st7 x n0 n1 n2 n3 n4 p sl sh) e (Nat.zero_le _) (Nat.zero_le _)
    simp only [st7] at hcut
    rw [allS_step hle]
    have hsu : surely x p.boy week a = (singE x p.boy week a == 0 && singO x p.boy week a == 2) := rfl
    rw [hsu, ← Bool.and_assoc]
    generalize singE x p.boy week a = e at *
    generalize singO x p.boy week a = o at *
    have step : run Cv 7 (.loop keep7_0 body7_0) (head7_0 l week key best f a s) (st7 x n0 n1 n2 n3 n4 p sl sh) = run Cv 7 (.loop keep7_0 body7_0) (head7_0 l week key best f (a + 1) (s && (e == 0 && o == 2))) (st7 x n0 n1 n2 n3 n4 p sl sh) := by
      rw [run_loop]
      generalize MC.loop keep7_0 body7_0 = L
      cases s with
      | false => simp (maxSteps := 10000000) [-List.getD_eq_getElem?_getD, -cut, -partA, -List.all_eq_true, part_none, body7_0, keep7_0, head7_0, st7, w1, w2, hle, hs, hv, hvp, hw, hcut]
      | true =>
        by_cases he : e = 0
        · subst he
          by_cases ho : o = 2
          · subst ho
            simp (maxSteps := 10000000) [-List.getD_eq_getElem?_getD, -cut, -partA, -List.all_eq_true, part_none, body7_0, keep7_0, head7_0, st7, w1, w2, hle, hs, hv, hvp, hw, hcut]
          · have ho' : (o == 2) = false := by simpa using ho
            simp (maxSteps := 10000000) [-List.getD_eq_getElem?_getD, -cut, -partA, -List.all_eq_true, part_none, body7_0, keep7_0, head7_0, st7, w1, w2, hle, hs, hv, hvp, hw, ho', hcut]
        · have he' : (e == 0) = false := by simpa using he
          simp (maxSteps := 10000000) [-List.getD_eq_getElem?_getD, -cut, -partA, -List.all_eq_true, part_none, body7_0, keep7_0, head7_0, st7, w1, w2, hle, hs, hv, hvp, hw, he', hcut]
    rw [step]
    exact loop7_0 x hx l n0 n1 n2 n3 n4 p week key best f sl sh hi w1 w2 hhi n (a + 1) _ (by omega) (by omega) (by omega)
/-- What is wanted: the first key that is nearest to 0. -/
def wf : List Int → Int → Bool → Int × Bool
  | [], w, fo => (w, fo)
  | y :: l, w, fo => if !fo || decide (max y (-y) < max w (-w)) then wf l y true else wf l w fo
theorem wf_near : ∀ (l : List Int) (w : Int), wf l w true = (nearF l w, true)
  | [], w => rfl
  | y :: l, w => by
    unfold wf nearF
    rw [List.foldl_cons]
    by_cases h : max y (-y) < max w (-w)
    · simp only [h, decide_true, Bool.or_true, if_true]; exact wf_near l y
    · simp only [h, decide_false, Bool.not_true, Bool.or_self, Bool.false_eq_true, if_false]; exact wf_near l w
theorem wf_start (y : Int) (l : List Int) : wf (y :: l) 0 false = (nearF (y :: l) y, true) := by
  unfold wf
  rw [if_pos (by simp), wf_near]
  unfold nearF
  rw [List.foldl_cons, if_neg (by omega)]
def head7_1 (lr : AV) (best f w : Int) (fo : Bool) (k : Int) : Env := mkE 242 .any [(21, I k), (20, .bool fo), (19, I w), (12, I f), (11, I best), (9, lr)]
theorem loop7_1 (l0 : List Int) (lr : AV) (hr : IsRow 1 (ints l0) lr) (hl : l0.length < 1000) (hb : ∀ y ∈ l0, -6 ≤ y ∧ y ≤ 6) (hup : l0.Pairwise (· < ·)) (best f : Int) (σ : St) (s1 : σ.ro ≤ σ.boxes.length) (s2 : σ.mro ≤ σ.maps.length) : ∀ (l : List Int) (k : Nat) (w : Int) (fo : Bool), k ≤ l0.length → l0.drop k = l → -6 ≤ w → w ≤ 6 →
    run Cv 7 (.loop keep7_1 body7_1) (head7_1 lr best f w fo k) σ = some (.ex 2, mkE 242 .any [(173, .bool false), (172, I l0.length), (171, lr), (170, I l0.length), (21, I l0.length), (20, .bool (wf l w fo).2), (19, I (wf l w fo).1), (12, I f), (11, I best), (9, lr)], σ)
  | [], k, w, fo, hk, h, hw1, hw2 => by
    obtain rfl := drop_nil hk h
    have hlen := row_len hr
    rw [run_loop]
    simp (maxSteps := 10000000) [-List.getD_eq_getElem?_getD, body7_1, keep7_1, head7_1, hlen, wf]
  | y :: l, k, w, fo, hk, h, hw1, hw2 => by
    obtain ⟨hlt, ha, hd⟩ := head_drop h
    have hlen := row_len hr
    have hw := wrap_succ hlt (by omega)
    have hlt' : (k : Int) < (l0.length : Int) := by omega
    have hix : ixsA 1 lr (I k) = some (.rp [I y] 0) := by
      obtain ⟨c, hc, hr⟩ := row_sl hr (by intro hn; subst hn; simp at hlt)
      rw [hr]
      simp [ixsA, ints, hlt, ha, AV.cells]
    have hlr : ∀ σ y, loadA σ none (.rp [I y] 0) = some (I y) := fun _ _ => rfl
    have hy := hb y (ha ▸ List.getElem_mem _)
    have c1 := lies' y (-6) 6
    rw [lie_true (by omega)] at c1
    have hcut := fun e => cut_self σ e s1 s2
    have hmp := hr.pur
    have hru := hr.under
    have n1 : IntKind.wrap .i64 (-y) = -y := wrap_small (by omega) (by omega)
    have n2 : IntKind.wrap .i64 (-w) = -w := wrap_small (by omega) (by omega)
    have hmx := fold_max
    have key : ∀ w' fo', (w' = if !fo || decide (max y (-y) < max w (-w)) then y else w) → (fo' = if !fo || decide (max y (-y) < max w (-w)) then true else fo) → run Cv 7 (.loop keep7_1 body7_1) (head7_1 lr best f w fo k) σ = run Cv 7 (.loop keep7_1 body7_1) (head7_1 lr best f w' fo' (k + 1)) σ := by
      intro w' fo' hw' hfo'
      rw [run_loop]
      generalize MC.loop keep7_1 body7_1 = L'
      cases k with
      | zero =>
        have e0 : ((0 : Nat) : Int) = 0 := rfl
        rw [e0] at hix hw ⊢
        have hne : l0 ≠ [] := by rintro rfl; simp at hlt
        have hn0 : 0 < l0.length := hlt
        cases fo with
        | false =>
          simp at hw' hfo'
          subst hw' hfo'
          simp (maxSteps := 10000000) [-List.getD_eq_getElem?_getD, -loadA, -cut, -ixsA, hmx, body7_1, keep7_1, head7_1, hlen, hne, hn0, hw, hix, hlr, hmp, c1, hcut, n1, n2]
        | true =>
          by_cases hc : max y (-y) < max w (-w)
          · simp [hc] at hw' hfo'
            subst hw' hfo'
            simp (maxSteps := 10000000) [-List.getD_eq_getElem?_getD, -loadA, -cut, -ixsA, hmx, body7_1, keep7_1, head7_1, hlen, hne, hn0, hw, hix, hlr, hmp, c1, hcut, n1, n2, hc]
          · simp [hc] at hw' hfo'
            subst hw' hfo'
            simp (maxSteps := 10000000) [-List.getD_eq_getElem?_getD, -loadA, -cut, -ixsA, hmx, body7_1, keep7_1, head7_1, hlen, hne, hn0, hw, hix, hlr, hmp, c1, hcut, n1, n2, hc]
      | succ j =>
        have e0 : ((j + 1 : Nat) : Int) > 0 := by omega
        have w3 : IntKind.wrap .i64 (((j + 1 : Nat) : Int) - 1) = (j : Int) := by
          rw [wrap_small (by omega) (by omega)]; omega
        have hix2 : ixsA 1 lr (I (j : Int)) = some (.rp [I (l0[j]'(by omega))] 0) := by
          obtain ⟨c, hc, hr⟩ := row_sl hr (by intro hn; subst hn; simp at hlt)
          rw [hr]
          have : j < l0.length := by omega
          simp [ixsA, ints, this, AV.cells]
        have hlt2 : l0[j]'(by omega) < y := by
          have := (List.pairwise_iff_getElem.1 hup) j (j + 1) (by omega) hlt (by omega)
          rw [ha] at this
          exact this
        have hle2 : ¬ y ≤ l0[j]'(by omega) := by omega
        generalize l0[j]'(by omega) = z at *
        generalize ((j + 1 : Nat) : Int) = J at *
        cases fo with
        | false =>
          simp at hw' hfo'
          subst hw' hfo'
          simp (maxSteps := 10000000) [-List.getD_eq_getElem?_getD, -loadA, -cut, -ixsA, hmx, body7_1, keep7_1, head7_1, hlen, hlt', hw, hix, hlr, hmp, c1, hcut, n1, n2, e0, w3, hix2, hle2]
        | true =>
          by_cases hc : max y (-y) < max w (-w)
          · simp [hc] at hw' hfo'
            subst hw' hfo'
            simp (maxSteps := 10000000) [-List.getD_eq_getElem?_getD, -loadA, -cut, -ixsA, hmx, body7_1, keep7_1, head7_1, hlen, hlt', hw, hix, hlr, hmp, c1, hcut, n1, n2, hc, e0, w3, hix2, hle2]
          · simp [hc] at hw' hfo'
            subst hw' hfo'
            simp (maxSteps := 10000000) [-List.getD_eq_getElem?_getD, -loadA, -cut, -ixsA, hmx, body7_1, keep7_1, head7_1, hlen, hlt', hw, hix, hlr, hmp, c1, hcut, n1, n2, hc, e0, w3, hix2, hle2]
    rw [key _ _ rfl rfl]
    unfold wf
    by_cases hc : (!fo || decide (max y (-y) < max w (-w))) = true
    · simp only [hc, if_true]
      exact loop7_1 l0 lr hr hl hb hup best f σ s1 s2 l (k + 1) y true hlt hd hy.1 hy.2
    · simp only [hc, Bool.false_eq_true, if_false]
      exact loop7_1 l0 lr hr hl hb hup best f σ s1 s2 l (k + 1) w fo hlt hd hw1 hw2
end Go.Ai
