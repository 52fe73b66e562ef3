/- This text shows a book that is told from the other end. No conditions of its own. -/
import Derived.Test.YtknklhodhkohlaaDoorHelpE
import Derived.Test.YtknklhodhkohlaaDoorHelpB
import Derived.Test.YtknklhodhkohlaaDoorHelpC
set_option linter.unusedSimpArgs false
set_option linter.unusedVariables false
set_option maxRecDepth 100000
namespace Go.Ai
open Go.Cold (Mv Hd Bk Tr flipB)
open Go.Least (hasB)
def mirN (set B : Nat) : Nat → Nat → Nat → Nat
  | 0, _, acc => acc
  | n + 1, k, acc => mirN set B n (k + 1) (if set.testBit k then acc ||| 2 ^ (B - 1 - k) else acc)
theorem mirN_lt {set B : Nat} (hB : 1 ≤ B) : ∀ (n k acc : Nat), k + n = B → acc < 2 ^ B → mirN set B n k acc < 2 ^ B
  | 0, _, acc, _, h => h
  | n + 1, k, acc, hk, h => by
    rw [mirN]
    refine mirN_lt hB n (k + 1) _ (by omega) ?_
    split
    · exact Nat.or_lt_two_pow h (Nat.pow_lt_pow_right (by decide) (by omega))
    · exact h
theorem mirN_bit {set B : Nat} (i : Nat) : ∀ (n k acc : Nat), k + n = B → (mirN set B n k acc).testBit i = (acc.testBit i || (decide (i < n) && set.testBit (B - 1 - i)))
  | 0, k, acc, hk => by simp [mirN]
  | n + 1, k, acc, hk => by
    rw [mirN, mirN_bit i n (k + 1) _ (by omega)]
    by_cases hi : i = n
    · subst hi
      have e : B - 1 - k = i := by omega
      have e2 : B - 1 - i = k := by omega
      rw [e, e2]
      have h1 : decide (i < i) = false := by simp
      have h2 : decide (i < i + 1) = true := by simp
      rw [h1, h2, Bool.false_and, Bool.true_and, Bool.or_false]
      cases hs : set.testBit k with
      | true =>
        rw [if_pos rfl, Nat.testBit_or, Nat.testBit_two_pow_self]
      | false => rw [if_neg (by decide), Bool.or_false]
    · have h1 : decide (i < n + 1) = decide (i < n) := decide_eq_decide.2 (by omega)
      rw [h1]
      congr 1
      split
      · rw [Nat.testBit_or, Nat.testBit_two_pow_of_ne (by omega), Bool.or_false]
      · rfl
def flM (x : CB) (m : Mv) : Mv := ⟨flipB x.beds.toNat m.bed, m.day⟩
def flH (x : CB) (h : Hd) : Hd := ⟨flipB x.beds.toNat h.bed, h.day, h.cough⟩
def CB.mset (x : CB) : Nat := mirN x.begins.toNat x.beds.toNat x.beds.toNat 0 0
def CB.mir (x : CB) : CB := { x with begins := x.mset, ms := x.ms.map (flM x), mr := growP 2 ((x.ms.map (flM x)).map mvA), hs := x.hs.map (flH x), hr := growP 3 ((x.hs.map (flH x)).map hdA) }
theorem mir_okc {x : CB} (hx : x.Ok) : x.mir.Ok where
  mrow := growP_row _ _
  hrow := growP_row _ _
  lm := by show (x.ms.map (flM x)).length < _; rw [List.length_map]; exact hx.lm
  lh := by show (x.hs.map (flH x)).length < _; rw [List.length_map]; exact hx.lh
theorem mir_bk {x : CB} : x.mir.bk = x.bk.mir := by
  have : (fun i => x.mset.testBit i) = fun i => decide (i < x.bk.B) && x.bk.begins (x.bk.B - 1 - i) := by
    funext i
    rw [CB.mset, mirN_bit i _ 0 0 (by omega), Nat.zero_testBit, Bool.false_or]
    rfl
  show Bk.mk x.beds.toNat x.days (fun i => (x.mset : Int).toNat.testBit i) x.until_ x.oL x.oH x.gL x.gH (x.ms.map (flM x)) (x.hs.map (flH x)) = _
  rw [show (fun i => (x.mset : Int).toNat.testBit i) = fun i => x.mset.testBit i from rfl, this]
  rfl
theorem mset_range {x : CB} (f : x.Fine) : 1 ≤ x.mset ∧ x.mset < 2 ^ x.beds.toNat := by
  have hb1 := f.b1
  refine ⟨?_, mirN_lt (by omega) _ _ _ (by omega) (Nat.two_pow_pos _)⟩
  obtain ⟨i, hi, hb⟩ := f.bk.some_
  rcases Nat.eq_zero_or_pos x.mset with h0 | h0
  · have h1 : x.mset.testBit (x.bk.B - 1 - i) = true := by
      rw [CB.mset, mirN_bit _ _ 0 0 (by omega), Nat.zero_testBit, Bool.false_or]
      have e1 : x.beds.toNat - 1 - (x.bk.B - 1 - i) = i := by show x.beds.toNat - 1 - (x.beds.toNat - 1 - i) = i; have : i < x.beds.toNat := hi; omega
      rw [e1, Bool.and_eq_true]
      refine ⟨decide_eq_true ?_, hb⟩
      show x.beds.toNat - 1 - i < x.beds.toNat
      have : i < x.beds.toNat := hi
      omega
    rw [h0, Nat.zero_testBit] at h1
    cases h1
  · exact h0
theorem flip_bed {B : Nat} {a b : Int} : flipB B a = flipB B b ↔ a = b := by unfold flipB; omega
theorem mir_check {x : CB} (hk : checkB x = true) : checkB x.mir = true := by
  have f := check_fine hk
  have hb := bedsN f
  have hr := mset_range f
  have h2 : ((2 ^ x.beds.toNat : Nat) : Int) = (2 : Int) ^ x.beds.toNat := by norm_cast
  refine check_mk f x.mir rfl rfl ⟨rfl, rfl, rfl, rfl, rfl⟩ ⟨f.u0, f.u1⟩ ⟨?_, ?_⟩ ?_ ?_ ?_ ?_ ?_
  · show (1 : Int) ≤ (x.mset : Int); omega
  · show (x.mset : Int) < 2 ^ x.beds.toNat; omega
  · show (x.ms.map (flM x)).length ≤ 3; rw [List.length_map]; exact f.lm
  · show (x.hs.map (flH x)).length ≤ 4; rw [List.length_map]; exact f.lh
  · intro m hm
    obtain ⟨n, hn, rfl⟩ := List.mem_map.1 hm
    have := f.ms n hn
    show 0 ≤ flipB x.beds.toNat n.bed ∧ flipB x.beds.toNat n.bed < x.beds ∧ 1 ≤ n.day ∧ n.day ≤ x.days - 1
    unfold flipB
    omega
  · show (x.ms.map (flM x)).Pairwise _
    rw [List.pairwise_map]
    exact (check_pair hk).imp fun h he => h (flip_bed.1 he)
  · intro m hm
    obtain ⟨n, hn, rfl⟩ := List.mem_map.1 hm
    have := f.hs n hn
    show 0 ≤ flipB x.beds.toNat n.bed ∧ flipB x.beds.toNat n.bed < x.beds ∧ 0 ≤ n.day ∧ n.day ≤ x.days - 1
    unfold flipB
    omega
def zero11 : List AV := [I 0, I 0, I 0, I 0, I 0, I 0, I 0, I 0, .nils, I 0, .nils]
def c42 (x : CB) (s : Int) (g h : AV) : List AV := [I x.beds, I x.days, I s, I x.until_, I x.oL, I x.oH, I x.gL, I x.gH, g, I x.rooms, h]
def st42a (x : CB) (s : Int) : St := { boxes := [x.cells, zero11, c42 x s .nils .nils] }
def head42a (k : Int) : Env := mkE 87 .any [(4, I k), (3, .box 2 0), (2, .box 1 0), (1, .box 0 0)]
theorem loop42a (x : CB) (hx : x.Ok) (f : x.Fine) : ∀ (n k s : Nat), k + n = x.beds.toNat → s < 2 ^ x.beds.toNat →
    ∃ L, run Cv 42 (.loop keep42_0 body42_0) (head42a k) (st42a x s) = some (.ex 0, mkE 87 .any L, st42a x (mirN x.begins.toNat x.beds.toNat n k s)) ∧ gt (mkE 87 .any L) 3 = .box 2 0 ∧ gt (mkE 87 .any L) 2 = .box 1 0 ∧ gt (mkE 87 .any L) 1 = .box 0 0
  | 0, k, s, hk, hs => by
    have hb := bedsN f
    have h1 : ¬ (k : Int) < x.beds := by omega
    have u1 := hx.mrow.under
    have u2 := hx.hrow.under
    rw [run_loop, mirN]
    simp (maxSteps := 10000000) [-List.getD_eq_getElem?_getD, body42_0, keep42_0, head42a, st42a, c42, zero11, CB.cells, h1]
    exact ⟨_, rfl, by simp (maxSteps := 10000000) [-List.getD_eq_getElem?_getD, ], by simp (maxSteps := 10000000) [-List.getD_eq_getElem?_getD, ], by simp (maxSteps := 10000000) [-List.getD_eq_getElem?_getD, ]⟩
  | n + 1, k, s, hk, hs => by
    have hb := bedsN f
    have b5 := f.b5
    have hlt : (k : Int) < x.beds := by omega
    have hp := pow_small (n := x.beds.toNat) (by omega)
    have h2 : ((2 ^ x.beds.toNat : Nat) : Int) = (2 : Int) ^ x.beds.toNat := by norm_cast
    have hs2 : s < 2 ^ 62 := by omega
    have n1 := f.n1
    have n2 := f.n2
    have hset : x.begins.toNat < 2 ^ 62 := by omega
    have hbe : ((x.begins.toNat : Nat) : Int) = x.begins := by omega
    have hh := has_call x.begins.toNat hset k
    rw [hbe] at hh
    have hhb : hasB x.begins k = x.begins.toNat.testBit k := by
      have e1 : (0 : Int) ≤ (k : Int) := by omega
      have e2 : (k : Int) < 62 := by omega
      rw [← hbe]
      simp only [hasB, e1, e2, decide_true, Bool.true_and, Int.toNat_natCast]
    have hhc : call Cv 77 [I x.begins, I k] = some (.bool (x.begins.toNat.testBit k)) := by rw [← hhb, ← hbe]; rw [← hbe] at hh; exact hh
    have w1 : IntKind.wrap .i64 ((k : Int) + 1) = k + 1 := wrap_small (by omega) (by omega)
    have w2 : IntKind.wrap .i64 (x.beds - 1) = x.beds - 1 := wrap_small (by omega) (by omega)
    have w3 : IntKind.wrap .i64 (x.beds - 1 - k) = ((x.beds.toNat - 1 - k : Nat) : Int) := by rw [wrap_small (by omega) (by omega)]; omega
    have hm : x.beds.toNat - 1 - k < 62 := by omega
    have hsh := shl_fact hm
    have b1 := mod_nat hs2
    have b2 := mod_nat (pow_lt hm)
    have ho := or_fact hs2 (pow_lt hm)
    have hneg : ¬ ((x.beds.toNat - 1 - k : Nat) : Int) < 0 := by omega
    have u1 := hx.mrow.under
    have u2 := hx.hrow.under
    rw [mirN]
    cases ht : x.begins.toNat.testBit k with
    | false =>
      rw [ht] at hhc
      rw [if_neg (by decide)]
      obtain ⟨L, g⟩ := loop42a x hx f n (k + 1) s (by omega) hs
      refine ⟨L, ?_, g.2⟩
      rw [← g.1, run_loop]
      generalize MC.loop keep42_0 body42_0 = L
      simp (maxSteps := 10000000) [-List.getD_eq_getElem?_getD, body42_0, keep42_0, head42a, st42a, c42, zero11, CB.cells, hlt, w1, hhc, u1, u2]
    | true =>
      rw [ht] at hhc
      rw [if_pos rfl]
      obtain ⟨L, g⟩ := loop42a x hx f n (k + 1) (s ||| 2 ^ (x.beds.toNat - 1 - k)) (by omega) (Nat.or_lt_two_pow hs (Nat.pow_lt_pow_right (by decide) (by omega)))
      refine ⟨L, ?_, g.2⟩
      rw [← g.1, run_loop]
      generalize MC.loop keep42_0 body42_0 = L
      generalize hP : 2 ^ (x.beds.toNat - 1 - k) = P at *
      generalize x.beds.toNat - 1 - k = m at *
      simp (maxSteps := 10000000) [-List.getD_eq_getElem?_getD, body42_0, keep42_0, head42a, st42a, c42, zero11, CB.cells, hlt, w1, w2, w3, hhc, hneg, hsh, b1, b2, ho, u1, u2]
def F42b (x : CB) (s : Int) (g : AV) : List (List AV) := [x.cells, zero11, c42 x s g .nils]
theorem F42b_under (x : CB) (hx : x.Ok) (s : Int) (g : AV) (nc : Nat) : (F42b x s g).all (fun cs => cs.all (under 3 nc 0 0 6)) = under 3 nc 0 0 6 g := by
  have u1 := hx.mrow.under 3 nc 0 0 5
  have u2 := hx.hrow.under 3 nc 0 0 5
  have u0 : under 3 nc 0 0 6 AV.nils = true := rfl
  simp only [F42b, c42, zero11, CB.cells, List.all_cons, List.all_nil, u1, u2, u0, un_int, Bool.and_self, Bool.true_and, Bool.and_true]
def st42b (x : CB) (s : Int) (es : List AV) : St := { boxes := F42b x s (growV 0 2 es), chains := [] ++ growC 2 es }
theorem cut42b (x : CB) (hx : x.Ok) (s : Int) (es es' : List AV) (hes : es' = es ∨ es' ≠ []) (e : Env) (hE : ∀ nc, e.all (under 3 nc 0 0 6) = true) : cut (st42b x s es) (st42b x s es') e = st42b x s es' := by
  have := cut_grow (sz := 2) (F42b x s) (fun _ => rfl) [] (fun g nc _ => F42b_under x hx s g nc) es es' hes [] e (fun nc _ => hE nc)
  rw [List.append_nil] at this
  exact this
theorem app42b (x : CB) (s : Int) (es : List AV) (v : AV) (hl : es.length < 10000) : appA (st42b x s es) false 2 16 true (growV 0 2 es) (.sl 2 [v] .full) = some (growV 0 2 (es ++ [v]), { boxes := F42b x s (growV 0 2 es), chains := [] ++ growC 2 (es ++ [v]) }) := growV_app (ch0 := []) (by omega) (by omega)
theorem sto42b (x : CB) (s : Int) (es : List AV) (v : AV) : storeA { boxes := F42b x s (growV 0 2 es), chains := [] ++ growC 2 (es ++ [v]) } 1 (.box 2 8) (growV 0 2 (es ++ [v])) = some (st42b x s (es ++ [v])) := by
  have g1 := growV_cell 0 2 (es ++ [v])
  have g2 := growV_cells 0 2 (es ++ [v])
  simp [storeA, g1, g2, st42b, F42b, c42, setAt]
def head42b (k : Int) : Env := mkE 87 .any [(5, I k), (3, .box 2 0), (2, .box 1 0), (1, .box 0 0)]
theorem loop42b (x : CB) (hx : x.Ok) (f : x.Fine) (s : Int) : ∀ (l : List Mv) (k : Nat) (es : List Mv), k ≤ x.ms.length → x.ms.drop k = l → es.length ≤ k →
    ∃ L, run Cv 42 (.loop keep42_1 body42_1) (head42b k) (st42b x s (es.map mvA)) = some (.ex 2, mkE 87 .any L, st42b x s ((es ++ l.map (flM x)).map mvA)) ∧ gt (mkE 87 .any L) 3 = .box 2 0 ∧ gt (mkE 87 .any L) 2 = .box 1 0 ∧ gt (mkE 87 .any L) 1 = .box 0 0
  | [], k, es, hk, h, he => by
    obtain rfl := drop_nil hk h
    have hlen := mlen hx
    have hld : ∀ es off, loadA (st42b x s es) none (.box 0 off) = x.cells[off]? := fun _ _ => rfl
    have hx1 : x.cells[8]? = some x.mr := rfl
    rw [run_loop, List.map_nil, List.append_nil]
    simp (maxSteps := 10000000) [-List.getD_eq_getElem?_getD, -loadA, body42_1, keep42_1, head42b, hld, hx1, hlen]
    exact ⟨_, rfl, by simp (maxSteps := 10000000) [-List.getD_eq_getElem?_getD, ], by simp (maxSteps := 10000000) [-List.getD_eq_getElem?_getD, ], by simp (maxSteps := 10000000) [-List.getD_eq_getElem?_getD, ]⟩
  | b :: l, k, es, hk, h, he => by
    obtain ⟨hlt, ha, hd⟩ := head_drop h
    have hb := bedsN f
    have b5 := f.b5
    have b1 := f.b1
    have hlm := f.lm
    have hin := f.ms b (by rw [← ha]; exact List.getElem_mem _)
    have hw := wrap_succ hlt hx.lm
    have hlt' : (k : Int) < (x.ms.length : Int) := by omega
    have hlen := mlen hx
    have hix := m_ix hx hlt
    rw [ha] at hix
    have w2 : IntKind.wrap .i64 (x.beds - 1) = x.beds - 1 := wrap_small (by omega) (by omega)
    have w3 : IntKind.wrap .i64 (x.beds - 1 - b.bed) = flipB x.beds.toNat b.bed := by rw [wrap_small (by omega) (by omega)]; unfold flipB; omega
    have hld : ∀ es off, loadA (st42b x s es) none (.box 0 off) = x.cells[off]? := fun _ _ => rfl
    have hx0 : x.cells[0]? = some (I x.beds) := rfl
    have hx1 : x.cells[8]? = some x.mr := rfl
    have hlr0 : ∀ σ, loadA σ none (.rp (mvC b) 0) = some (I b.bed) := fun _ => rfl
    have hlr1 : ∀ σ, loadA σ none (.rp (mvC b) 1) = some (I b.day) := fun _ => rfl
    have hl5 : ∀ es, loadA (st42b x s es) none (.box 2 8) = some (growV 0 2 es) := fun _ => rfl
    have hfe : ∀ z, fillE 2 true [(0, .agg [I (flipB x.beds.toNat b.bed), I b.day])] [z] = some [.agg [I (flipB x.beds.toNat b.bed), I b.day]] := fun _ => rfl
    have hr1 : ∀ z : AV, List.replicate 1 z = [z] := fun _ => rfl
    have happ := app42b x s (es.map mvA) (.agg [I (flipB x.beds.toNat b.bed), I b.day]) (by simp; omega)
    have hst := sto42b x s (es.map mvA) (.agg [I (flipB x.beds.toNat b.bed), I b.day])
    rw [show ([] : List (Nat × Nat)) ++ growC 2 (es.map mvA ++ [.agg [I (flipB x.beds.toNat b.bed), I b.day]]) = growC 2 (es.map mvA ++ [.agg [I (flipB x.beds.toNat b.bed), I b.day]]) from rfl] at happ hst
    have hc2 := cut42b x hx s (es.map mvA) (es.map mvA ++ [.agg [I (flipB x.beds.toNat b.bed), I b.day]]) (.inr (by simp))
    have step : run Cv 42 (.loop keep42_1 body42_1) (head42b k) (st42b x s (es.map mvA)) = run Cv 42 (.loop keep42_1 body42_1) (head42b (k + 1)) (st42b x s (es.map mvA ++ [.agg [I (flipB x.beds.toNat b.bed), I b.day]])) := by
      rw [run_loop]
      generalize MC.loop keep42_1 body42_1 = L
      simp (maxSteps := 10000000) [-List.getD_eq_getElem?_getD, -loadA, -storeA, -cut, -ixsA, body42_1, keep42_1, head42b, hlen, hlt', hw, hld, hx0, hx1, hix, hlr0, hlr1, w2, w3, hl5, hfe, hr1, happ, hst]
      rw [hc2]
      intro nc
      simp (maxSteps := 10000000) [-List.getD_eq_getElem?_getD, ]
    rw [step]
    have := loop42b x hx f s l (k + 1) (es ++ [flM x b]) hlt hd (by simp; omega)
    simpa [List.append_assoc, mvA, mvC, flM] using this
def F42c (x : CB) (s : Int) (M : List AV) (g : AV) : List (List AV) := [x.cells, zero11, c42 x s (growV 0 2 M) g]
theorem F42c_under (x : CB) (hx : x.Ok) (s : Int) (M : List AV) (g : AV) (nc : Nat) (hnc : (growC 2 M).length ≤ nc) : (F42c x s M g).all (fun cs => cs.all (under 3 nc 0 0 6)) = under 3 nc 0 0 6 g := by
  have u1 := hx.mrow.under 3 nc 0 0 5
  have u2 := hx.hrow.under 3 nc 0 0 5
  have u0 : under 3 nc 0 0 6 AV.nils = true := rfl
  have u3 : under 3 nc 0 0 6 (growV 0 2 M) = true := by
    rw [growV_under, decide_eq_true_iff]
    by_cases h : M = []
    · exact .inl h
    · rw [growC_some 2 h] at hnc
      exact .inr hnc
  simp only [F42c, c42, zero11, CB.cells, List.all_cons, List.all_nil, u1, u2, u0, u3, un_int, Bool.and_self, Bool.true_and, Bool.and_true]
def st42c (x : CB) (s : Int) (M es : List AV) (E : List (List AV)) : St := { boxes := F42c x s M (growV (growC 2 M).length 3 es) ++ E, chains := growC 2 M ++ growC 3 es }
theorem cut42c (x : CB) (hx : x.Ok) (s : Int) (M es es' : List AV) (hes : es' = es ∨ es' ≠ []) (E : List (List AV)) (e : Env) (hE : ∀ nc, e.all (under 3 nc 0 0 6) = true) : cut (st42c x s M es []) (st42c x s M es' E) e = st42c x s M es' [] := by
  have := cut_grow (sz := 3) (F42c x s M) (fun _ => rfl) (growC 2 M) (fun g nc h => F42c_under x hx s M g nc h) es es' hes E e (fun nc _ => hE nc)
  unfold st42c
  rw [List.append_nil]
  rw [this, List.append_nil]
theorem app42c (x : CB) (s : Int) (M es : List AV) (v : AV) (hl : es.length < 10000) (E : List (List AV)) : appA (st42c x s M es E) false 3 24 true (growV (growC 2 M).length 3 es) (.sl 3 [v] .full) = some (growV (growC 2 M).length 3 (es ++ [v]), { boxes := F42c x s M (growV (growC 2 M).length 3 es) ++ E, chains := growC 2 M ++ growC 3 (es ++ [v]) }) := growV_app (by omega) (by omega)
theorem sto42c (x : CB) (s : Int) (M es : List AV) (v : AV) (E : List (List AV)) : storeA { boxes := F42c x s M (growV (growC 2 M).length 3 es) ++ E, chains := growC 2 M ++ growC 3 (es ++ [v]) } 1 (.box 2 10) (growV (growC 2 M).length 3 (es ++ [v])) = some (st42c x s M (es ++ [v]) E) := by
  have g1 := growV_cell (growC 2 M).length 3 (es ++ [v])
  have g2 := growV_cells (growC 2 M).length 3 (es ++ [v])
  simp [storeA, g1, g2, st42c, F42c, c42, setAt]
def head42c (k : Int) : Env := mkE 87 .any [(6, I k), (3, .box 2 0), (2, .box 1 0), (1, .box 0 0)]
theorem loop42c (x : CB) (hx : x.Ok) (f : x.Fine) (s : Int) (M : List AV) : ∀ (l : List Hd) (k : Nat) (es : List Hd), k ≤ x.hs.length → x.hs.drop k = l → es.length ≤ k →
    ∃ L, run Cv 42 (.loop keep42_2 body42_2) (head42c k) (st42c x s M (es.map hdA) []) = some (.ex 4, mkE 87 .any L, st42c x s M ((es ++ l.map (flH x)).map hdA) []) ∧ gt (mkE 87 .any L) 3 = .box 2 0 ∧ gt (mkE 87 .any L) 2 = .box 1 0
  | [], k, es, hk, h, he => by
    obtain rfl := drop_nil hk h
    have hlen := hlen hx
    have hld : ∀ es E off, loadA (st42c x s M es E) none (.box 0 off) = x.cells[off]? := fun _ _ _ => rfl
    have hx1 : x.cells[10]? = some x.hr := rfl
    rw [run_loop, List.map_nil, List.append_nil]
    simp (maxSteps := 10000000) [-List.getD_eq_getElem?_getD, -loadA, body42_2, keep42_2, head42c, hld, hx1, hlen]
    exact ⟨_, rfl, by simp (maxSteps := 10000000) [-List.getD_eq_getElem?_getD, ], by simp (maxSteps := 10000000) [-List.getD_eq_getElem?_getD, ]⟩
  | b :: l, k, es, hk, h, he => by
    obtain ⟨hlt, ha, hd⟩ := head_drop h
    have hb := bedsN f
    have b5 := f.b5
    have b1 := f.b1
    have hlh := f.lh
    have hin := f.hs b (by rw [← ha]; exact List.getElem_mem _)
    have hw := wrap_succ hlt hx.lh
    have hlt' : (k : Int) < (x.hs.length : Int) := by omega
    have hlen := hlen hx
    have hix := h_ix hx hlt
    rw [ha] at hix
    have w2 : IntKind.wrap .i64 (x.beds - 1) = x.beds - 1 := wrap_small (by omega) (by omega)
    have w3 : IntKind.wrap .i64 (x.beds - 1 - b.bed) = flipB x.beds.toNat b.bed := by rw [wrap_small (by omega) (by omega)]; unfold flipB; omega
    have hld : ∀ es E off, loadA (st42c x s M es E) none (.box 0 off) = x.cells[off]? := fun _ _ _ => rfl
    have hx0 : x.cells[0]? = some (I x.beds) := rfl
    have hx1 : x.cells[10]? = some x.hr := rfl
    have hlr : ∀ σ, loadA σ (some 3) (.rp (hdC b) 0) = some (.agg [I b.bed, I b.day, .bool b.cough]) := fun _ => rfl
    have hal : ∀ (C : Cfg) (R : Rec) (d : Bool) (e : Env) (es : List AV) (z : List AV), operA C R d e (st42c x s M es []) (.alloc z) = some (.box 3 0, st42c x s M es [z]) := fun C R d e es z => by
      simp [operA, st42c, F42c]
    have hs3 : ∀ es u v w, storeA (st42c x s M es [[I 0, I 0, .bool false]]) 3 (.box 3 0) (.agg [I u, I v, .bool w]) = some (st42c x s M es [[I u, I v, .bool w]]) := fun es u v w => by
      simp [storeA, st42c, F42c, setAt, AV.cells]
    have hl30 : ∀ es u v w, loadA (st42c x s M es [[u, v, w]]) none (.box 3 0) = some u := fun _ _ _ _ => rfl
    have hs30 : ∀ es u v w n, storeA (st42c x s M es [[u, v, w]]) 1 (.box 3 0) (I n) = some (st42c x s M es [[I n, v, w]]) := fun es u v w n => by
      simp [storeA, st42c, F42c, setAt]
    have hl33 : ∀ es u v w, loadA (st42c x s M es [[u, v, w]]) (some 3) (.box 3 0) = some (.agg [u, v, w]) := fun _ _ _ _ => rfl
    have hl5 : ∀ es E, loadA (st42c x s M es E) none (.box 2 10) = some (growV (growC 2 M).length 3 es) := fun _ _ => rfl
    have hfe : ∀ z, fillE 3 true [(0, .agg [I (flipB x.beds.toNat b.bed), I b.day, .bool b.cough])] [z] = some [.agg [I (flipB x.beds.toNat b.bed), I b.day, .bool b.cough]] := fun _ => rfl
    have hr1 : ∀ z : AV, List.replicate 1 z = [z] := fun _ => rfl
    have happ := app42c x s M (es.map hdA) (.agg [I (flipB x.beds.toNat b.bed), I b.day, .bool b.cough]) (by simp; omega)
    have hst := sto42c x s M (es.map hdA) (.agg [I (flipB x.beds.toNat b.bed), I b.day, .bool b.cough])
    have hc2 := cut42c x hx s M (es.map hdA) (es.map hdA ++ [.agg [I (flipB x.beds.toNat b.bed), I b.day, .bool b.cough]]) (.inr (by simp))
    have step : run Cv 42 (.loop keep42_2 body42_2) (head42c k) (st42c x s M (es.map hdA) []) = run Cv 42 (.loop keep42_2 body42_2) (head42c (k + 1)) (st42c x s M (es.map hdA ++ [.agg [I (flipB x.beds.toNat b.bed), I b.day, .bool b.cough]]) []) := by
      rw [run_loop]
      generalize MC.loop keep42_2 body42_2 = L
      simp (maxSteps := 10000000) [-List.getD_eq_getElem?_getD, -loadA, -storeA, -cut, -ixsA, -op_alloc, hal, hs3, hl30, hs30, hl33, body42_2, keep42_2, head42c, hlen, hlt', hw, hld, hx0, hx1, hix, hlr, w2, w3, hl5, hfe, hr1, happ, hst]
      rw [hc2]
      intro nc
      simp (maxSteps := 10000000) [-List.getD_eq_getElem?_getD, ]
    rw [step]
    have := loop42c x hx f s M l (k + 1) (es ++ [flH x b]) hlt hd (by simp; omega)
    simpa [List.append_assoc, hdA, hdC, flH] using this
theorem mirrored_call (x : CB) (hx : x.Ok) (f : x.Fine) : call Cv 42 [x.av] = some x.mir.av := by
  have hcl := x_cell x hx
  have hav : x.av.cells = x.cells := rfl
  have hxl : x.cells.length = 11 := rfl
  have hbox := x_box x hx
  have hlm := f.lm
  have hlh := f.lh
  obtain ⟨L, l0, a3, a2, a1⟩ := loop42a x hx f x.beds.toNat 0 0 (by omega) (Nat.two_pow_pos _)
  obtain ⟨M, l1, b3, b2, b1⟩ := loop42b x hx f x.mset x.ms 0 [] (Nat.zero_le _) rfl (Nat.le_refl _)
  obtain ⟨N, l2, c3, c2⟩ := loop42c x hx f x.mset ((x.ms.map (flM x)).map mvA) x.hs 0 [] (Nat.zero_le _) rfl (Nat.le_refl _)
  have hms : mirN x.begins.toNat x.beds.toNat x.beds.toNat 0 0 = x.mset := rfl
  rw [hms] at l0
  have l0' := fun E (hE : mask keep42_0 E = _) => run_at l0 hE
  have l1' := fun E (hE : mask keep42_1 E = _) => run_at l1 hE
  have l2' := fun E (hE : mask keep42_2 E = _) => run_at l2 hE
  have e5 : ((0 : Nat) : Int) = 0 := rfl
  simp only [keep42_0, head42a, e5] at l0'
  simp only [keep42_1, head42b, e5, List.nil_append, List.map_nil] at l1'
  simp only [keep42_2, head42c, e5, List.nil_append, List.map_nil] at l2'
  have hz := z11 x
  have hs0 : setAt x.cells 2 [I 0] = c42 x 0 x.mr x.hr := rfl
  have hs1 : setAt (c42 x 0 x.mr x.hr) 8 [.nils] = c42 x 0 .nils x.hr := rfl
  have hs2 : setAt (c42 x 0 .nils x.hr) 10 [.nils] = c42 x 0 .nils .nils := rfl
  have hcl2 : (c42 x 0 x.mr x.hr).length = 11 := rfl
  have hcl3 : (c42 x 0 .nils x.hr).length = 11 := rfl
  have hst0 : ∀ s, st42a x s = { boxes := [x.cells, [I 0, I 0, I 0, I 0, I 0, I 0, I 0, I 0, .nils, I 0, .nils], c42 x s .nils .nils] } := fun _ => rfl
  rw [hst0] at l0'
  rw [hst0] at l0'
  have hst1 : st42b x x.mset [] = { boxes := [x.cells, [I 0, I 0, I 0, I 0, I 0, I 0, I 0, I 0, .nils, I 0, .nils], c42 x x.mset .nils .nils] } := rfl
  rw [hst1] at l1'
  have hst2 : ∀ M, st42c x x.mset M [] [] = st42b x x.mset M := fun M => by
    simp [st42c, st42b, F42c, F42b, growV, growC]
  rw [hst2] at l2'
  have hm : x.mir.av = .agg [I x.beds, I x.days, I x.mset, I x.until_, I x.oL, I x.oH, I x.gL, I x.gH, growP 2 ((x.ms.map (flM x)).map mvA), I x.rooms, growP 3 ((x.hs.map (flH x)).map hdA)] := rfl
  rw [hm]
  generalize (x.ms.map (flM x)).map mvA = E1 at *
  generalize (x.hs.map (flH x)).map hdA = E2 at *
  have gc1 := growV_cell 0 2 E1
  have gp1 := growV_puri 0 2 E1
  have gc2 := growV_cell (growC 2 E1).length 3 E2
  have gp2 := growV_puri (growC 2 E1).length 3 E2
  have hst3 : st42c x x.mset E1 E2 [] = { boxes := [x.cells, [I 0, I 0, I 0, I 0, I 0, I 0, I 0, I 0, .nils, I 0, .nils], [I x.beds, I x.days, I x.mset, I x.until_, I x.oL, I x.oH, I x.gL, I x.gH, growV 0 2 E1, I x.rooms, growV (growC 2 E1).length 3 E2]], chains := growC 2 E1 ++ growC 3 E2 } := rfl
  rw [hst3] at l2'
  have hp11 : ∀ a b c d e f g h i j k : AV, partA (some 11) [a, b, c, d, e, f, g, h, i, j, k] 0 = some (.agg [a, b, c, d, e, f, g, h, i, j, k]) := fun _ _ _ _ _ _ _ _ _ _ _ => rfl
  have hs11 : ∀ a b c d e f g h i j k : AV, setAt [I 0, I 0, I 0, I 0, I 0, I 0, I 0, I 0, .nils, I 0, .nils] 0 [a, b, c, d, e, f, g, h, i, j, k] = [a, b, c, d, e, f, g, h, i, j, k] := fun _ _ _ _ _ _ _ _ _ _ _ => rfl
  have hpx := part_x x
  rw [call_run comp42 (Nat.le_of_ble_eq_true rfl)]
  simp (maxSteps := 10000000) [-List.getD_eq_getElem?_getD, -boxA, -partA, -setAt, -List.all_eq_true, code42, hbox, hav, hcl, hxl, hz, hs0, hs1, hs2, hcl2, hcl3, keep42_0, l0', a3, a2, a1, keep42_1, l1', b3, b2, b1, keep42_2, l2', c3, c2, hp11, hs11, hpx, gc1, gp1, gc2, gp2]
end Go.Ai
