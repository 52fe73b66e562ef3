/- This text shows all lines of a voice. No conditions of its own. -/
import Derived.Test.YtogfbfpinhcajaaDoorLawsD
set_option linter.unusedSimpArgs false
set_option linter.unusedVariables false
set_option maxRecDepth 100000
set_option linter.unusedSimpArgs false
set_option linter.unusedVariables false
/-! All lists of notes that a voice could sing. -/
namespace Go.Ai
open Go.Part (Sp Cp Bk truths cnt at' vals)
def rowN (l : List Int) : AV := .sl 1 (ints l) .no
def accL (L0 : List (Nat × Nat)) (acc : List (List Int)) : AV := if acc = [] then .nils else .sl 1 (acc.map rowN) (.chain L0.length)
def tlL (acc : List (List Int)) : List (Nat × Nat) := if acc = [] then [] else [(acc.length, 1)]
theorem tlL_len (acc : List (List Int)) : (tlL acc).length = if acc = [] then 0 else 1 := by unfold tlL; split <;> rfl
theorem app_L (bx : List (List AV)) (L0 : List (Nat × Nat)) (acc : List (List Int)) (l : List Int) (hl : acc.length < 100000) : appA { boxes := bx, chains := L0 ++ tlL acc } false 1 24 false (accL L0 acc) (.sl 1 [rowN l] .full) = some (accL L0 (acc ++ [l]), { boxes := bx, chains := L0 ++ tlL (acc ++ [l]) }) := by
  have hn : acc ++ [l] ≠ [] := by simp
  have c1 : tlL (acc ++ [l]) = [(acc.length + 1, 1)] := by unfold tlL; rw [if_neg hn, List.length_append]; rfl
  have c2 : accL L0 (acc ++ [l]) = .sl 1 (acc.map rowN ++ [rowN l]) (.chain L0.length) := by unfold accL; rw [if_neg hn, List.map_append]; rfl
  rw [c1, c2]
  by_cases h : acc = []
  · subst h
    simp [appA, elemsA, accL, grown, tlL]
  · have c3 : accL L0 acc = .sl 1 (acc.map rowN) (.chain L0.length) := by unfold accL; rw [if_neg h]
    have c4 : tlL acc = [(acc.length, 1)] := by unfold tlL; rw [if_neg h]
    have hb : (acc.length + 1) * 24 ≤ 140737488355328 := by omega
    have g : (L0 ++ [(acc.length, 1)])[L0.length]? = some (acc.length, 1) := by simp
    have s : (L0 ++ [(acc.length, 1)]).set L0.length (acc.length + 1, 1) = L0 ++ [(acc.length + 1, 1)] := by simp
    simp only [appA, elemsA, c3, c4, Option.bind_some, List.map_append, List.length_append, List.length_map, List.length_singleton, hb, g, s, if_true, and_self]
    simp
theorem accL_under (L0 : List (Nat × Nat)) (acc : List (List Int)) (a b c d n : Nat) : under a b c d (n + 1) (accL L0 acc) = decide (acc = [] ∨ L0.length < b) := by
  unfold accL
  by_cases h : acc = [] <;> simp [h, under]
theorem cut_L (bx : List (List AV)) (L0 : List (Nat × Nat)) (acc acc' : List (List Int)) (hl : acc' = [] → acc = []) (e : Env) (t : Nat) (ht : t < e.length) (hv : gt e t = accL L0 acc') (he : ∀ nc, L0.length ≤ nc → (acc' = [] ∨ L0.length < nc) → e.all (under bx.length nc 0 0 6) = true) (hb : ∀ nc, bx.all (fun cs => cs.all (under bx.length nc 0 0 6)) = true) :
    cut { boxes := bx, chains := L0 ++ tlL acc } { boxes := bx, chains := L0 ++ tlL acc' } e = { boxes := bx, chains := L0 ++ tlL acc' } := by
  have hlen : ∀ a, (L0 ++ tlL a).length = L0.length + if a = [] then 0 else 1 := fun a => by rw [List.length_append, tlL_len]
  have hc' : acc' = [] ∨ L0.length < (L0 ++ tlL acc').length := by
    rw [hlen]; by_cases h : acc' = [] <;> simp [h]
  have h2 : dryAt (L0 ++ tlL acc').length { boxes := bx, chains := L0 ++ tlL acc } { boxes := bx, chains := L0 ++ tlL acc' } e = true := by
    simp only [dryAt, List.take_length, List.length_nil, List.take_nil, List.all_nil, Bool.and_true, Bool.and_eq_true]
    exact ⟨he _ (by rw [hlen]; omega) hc', hb _⟩
  have h1 : (L0 ++ tlL acc').length = (L0 ++ tlL acc).length ∨ dryAt (L0 ++ tlL acc).length { boxes := bx, chains := L0 ++ tlL acc } { boxes := bx, chains := L0 ++ tlL acc' } e = false := by
    by_cases h : acc = []
    · by_cases h' : acc' = []
      · left; rw [h, h']
      · right
        have hz : under bx.length (L0 ++ tlL acc).length 0 0 6 (accL L0 acc') = false := by
          rw [accL_under, hlen, if_pos h]; simp [h']
        have : e.all (under bx.length (L0 ++ tlL acc).length 0 0 6) = false := by
          rw [List.all_eq_false]
          refine ⟨e[t], List.getElem_mem ht, ?_⟩
          have hg : gt e t = e[t] := by
            show e.getD t .any = _
            rw [List.getD_eq_getElem?_getD, List.getElem?_eq_getElem ht]; rfl
          rw [← hg, hv, hz]; simp
        simp only [dryAt, List.length_nil, this, Bool.false_and]
    · left
      have h' : acc' ≠ [] := fun h' => h (hl h')
      rw [hlen, hlen, if_neg h, if_neg h']
  rw [cut_keep _ _ _ h2 h1]
  simp [cutAt]
  rw [← List.length_append, List.take_length]
/-- What stands so far: lists, as a row. -/
structure OutL (L0 : List (Nat × Nat)) (ls : List (List Int)) (o : AV) : Prop where
  under : ∀ a b c d n, L0.length ≤ b → under a b c d (n + 1) o = true
  len : lenA o = some (I ls.length)
  get : ∀ (k : Nat) (l : List Int), ls[k]? = some l → ∃ c : Cap, c.pure = c ∧ ixsA 1 o (I k) = some (.rp [.sl 1 (ints l) c] 0)
def st44 (x : PB) (s : Sp) (L0 : List (Nat × Nat)) (acc : List (List Int)) : St := { boxes := [x.cells, [I s.low, I s.high]], chains := L0 ++ tlL acc }
def head44_0 (L0 : List (Nat × Nat)) (o : AV) (acc : List (List Int)) (r k : Nat) (n : Int) : Env := mkE 49 .any [(10, I n), (9, I k), (8, accL L0 acc), (7, I r), (6, .box 1 0), (5, o), (2, .box 0 0)]
theorem loop44_0 (x : PB) (hx : x.Ok) (s : Sp) (hs : 0 ≤ s.low ∧ s.high ≤ 12) (L0 : List (Nat × Nat)) (ls : List (List Int)) (o : AV) (ho : OutL L0 ls o) (r k : Nat) (l : List Int) (hk : ls[k]? = some l) (hl : l.length < 100) : ∀ (m : Nat) (n : Int) (acc : List (List Int)), n + m = s.high + 1 → s.low ≤ n → acc.length + m < 10000 →
    ∃ L, run Cv 44 (.loop keep44_0 body44_0) (head44_0 L0 o acc r k n) (st44 x s L0 acc) = some (.ex 4, mkE 49 .any L, st44 x s L0 (acc ++ (List.range m).map fun (j : Nat) => l ++ [n + j])) ∧ gt (mkE 49 .any L) 2 = .box 0 0 ∧ gt (mkE 49 .any L) 5 = o ∧ gt (mkE 49 .any L) 6 = .box 1 0 ∧ gt (mkE 49 .any L) 7 = I r ∧ gt (mkE 49 .any L) 8 = accL L0 (acc ++ (List.range m).map fun (j : Nat) => l ++ [n + j]) ∧ gt (mkE 49 .any L) 9 = I k
  | 0, n, acc, hn, hlo, hm => by
    have h1 : ¬ n ≤ s.high := by omega
    rw [run_loop]
    simp (maxSteps := 10000000) [-List.getD_eq_getElem?_getD, body44_0, keep44_0, head44_0, st44, h1]
    exact ⟨_, rfl, by simp (maxSteps := 10000000) [-List.getD_eq_getElem?_getD, ], by simp (maxSteps := 10000000) [-List.getD_eq_getElem?_getD, ], by simp (maxSteps := 10000000) [-List.getD_eq_getElem?_getD, ], by simp (maxSteps := 10000000) [-List.getD_eq_getElem?_getD, ], by simp (maxSteps := 10000000) [-List.getD_eq_getElem?_getD, ], by simp (maxSteps := 10000000) [-List.getD_eq_getElem?_getD, ]⟩
  | m + 1, n, acc, hn, hlo, hm => by
    have h1 : n ≤ s.high := by omega
    have hw : IntKind.wrap .i64 (n + 1) = n + 1 := wrap_small (by omega) (by omega)
    obtain ⟨c, hc, hix⟩ := ho.get k l hk
    have hwi := with_call l (.sl 1 (ints l) c) (.inr ⟨c, hc, rfl⟩) (by omega) n
    have happ := fun bx => app_L bx L0 acc (l ++ [n]) (by omega)
    have hvu := hx.vrow.under
    have hcu := hx.crow.under
    have hfl : fillE 1 false [(0, .sl 1 (ints (l ++ [n])) .no)] [.nils] = some [rowN (l ++ [n])] := by simp [fillE, depth, pur, rowN, AV.cells, AV.isAgg]
    have hr1 : List.replicate 1 AV.nils = [.nils] := rfl
    have key : run Cv 44 (.loop keep44_0 body44_0) (head44_0 L0 o acc r k n) (st44 x s L0 acc) = run Cv 44 (.loop keep44_0 body44_0) (head44_0 L0 o (acc ++ [l ++ [n]]) r k (n + 1)) (st44 x s L0 (acc ++ [l ++ [n]])) := by
      rw [run_loop]
      generalize MC.loop keep44_0 body44_0 = L
      simp (maxSteps := 10000000) [-List.getD_eq_getElem?_getD, -ixsA, -cut, -List.all_eq_true, body44_0, keep44_0, head44_0, st44, PB.cells, h1, hw, hix, hwi, hc, hfl, hr1, happ]
      rw [cut_L _ _ _ _ (fun h => by simp at h) _ 8 (by rw [mkE_len]; decide) (by simp (maxSteps := 10000000) [-List.getD_eq_getElem?_getD, ])]
      · intro nc h1 h2
        have hou := fun a c d n => ho.under a nc c d n h1
        rcases h2 with h2 | h2
        · simp at h2
        · simp (maxSteps := 10000000) [-List.getD_eq_getElem?_getD, -List.all_eq_true, hou, accL_under, h2]
      · intro nc
        simp (maxSteps := 10000000) [-List.getD_eq_getElem?_getD, -List.all_eq_true, hvu, hcu]
    rw [key]
    obtain ⟨L, g1, g2⟩ := loop44_0 x hx s hs L0 ls o ho r k l hk hl m (n + 1) (acc ++ [l ++ [n]]) (by omega) (by omega) (by simp; omega)
    have e : acc ++ [l ++ [n]] ++ (List.range m).map (fun (j : Nat) => l ++ [n + 1 + j]) = acc ++ (List.range (m + 1)).map fun (j : Nat) => l ++ [n + j] := by
      rw [List.range_succ_eq_map, List.map_cons, List.map_map, List.append_assoc]
      simp only [Int.natCast_zero, Int.add_zero, List.singleton_append]
      congr 2
      refine List.map_congr_left fun j _ => ?_
      simp only [Function.comp, Nat.succ_eq_add_one]
      congr 2
      omega
    rw [e] at g1 g2
    exact ⟨L, g1, g2⟩
end Go.Ai

set_option maxRecDepth 100000
set_option linter.unusedSimpArgs false
set_option linter.unusedVariables false
namespace Go.Ai
open Go.Part (Sp Cp Bk truths cnt at' vals seqs)
def stepL (s : Sp) (l : List Int) : List (List Int) := (List.range (s.high - s.low + 1).toNat).map fun (j : Nat) => l ++ [s.low + j]
def head44_1 (L0 : List (Nat × Nat)) (o : AV) (acc : List (List Int)) (r : Nat) (k : Int) : Env := mkE 49 .any [(9, I k), (8, accL L0 acc), (7, I r), (6, .box 1 0), (5, o), (2, .box 0 0)]
theorem loop44_1 (x : PB) (hx : x.Ok) (s : Sp) (hs : 0 ≤ s.low ∧ s.low ≤ s.high ∧ s.high ≤ 12) (L0 : List (Nat × Nat)) (ls : List (List Int)) (o : AV) (ho : OutL L0 ls o) (r : Nat) (hlen : ∀ l ∈ ls, l.length < 100) (hll : ls.length < 100) : ∀ (rest : List (List Int)) (k : Nat) (acc : List (List Int)), k ≤ ls.length → ls.drop k = rest → acc.length ≤ 20 * k →
    ∃ L, run Cv 44 (.loop keep44_1 body44_1) (head44_1 L0 o acc r k) (st44 x s L0 acc) = some (.ex 2, mkE 49 .any L, st44 x s L0 (acc ++ rest.flatMap (stepL s))) ∧ gt (mkE 49 .any L) 2 = .box 0 0 ∧ gt (mkE 49 .any L) 6 = .box 1 0 ∧ gt (mkE 49 .any L) 7 = I r ∧ gt (mkE 49 .any L) 8 = accL L0 (acc ++ rest.flatMap (stepL s))
  | [], k, acc, hk, hd, ha => by
    obtain rfl := drop_nil hk hd
    have hol := ho.len
    rw [run_loop]
    simp (maxSteps := 10000000) [-List.getD_eq_getElem?_getD, body44_1, keep44_1, head44_1, st44, hol]
    exact ⟨_, rfl, by simp (maxSteps := 10000000) [-List.getD_eq_getElem?_getD, ], by simp (maxSteps := 10000000) [-List.getD_eq_getElem?_getD, ], by simp (maxSteps := 10000000) [-List.getD_eq_getElem?_getD, ], by simp (maxSteps := 10000000) [-List.getD_eq_getElem?_getD, ]⟩
  | l :: rest, k, acc, hk, hd, ha => by
    obtain ⟨hlt, hg, hd'⟩ := head_drop hd
    have hlt' : (k : Int) < (ls.length : Int) := by omega
    have hw := wrap_succ hlt (by omega)
    have hol := ho.len
    have hlm : l ∈ ls := hg ▸ List.getElem_mem _
    obtain ⟨L1, h0, g2, g5, g6, g7, g8, g9⟩ := loop44_0 x hx s ⟨hs.1, hs.2.2⟩ L0 ls o ho r k l (by rw [List.getElem?_eq_getElem hlt, hg]) (hlen l hlm) (s.high - s.low + 1).toNat s.low acc (by omega) (Int.le_refl _) (by omega)
    have hin := fun E (hE : mask keep44_0 E = _) => run_at h0 hE
    rw [show (List.range (s.high - s.low + 1).toNat).map (fun (j : Nat) => l ++ [s.low + j]) = stepL s l from rfl] at g8 hin
    have hsl : (stepL s l).length ≤ 13 := by simp [stepL]; omega
    simp only [st44, head44_0, keep44_0, PB.cells] at hin
    have hvu := hx.vrow.under
    have hcu := hx.crow.under
    have key : run Cv 44 (.loop keep44_1 body44_1) (head44_1 L0 o acc r k) (st44 x s L0 acc) = run Cv 44 (.loop keep44_1 body44_1) (head44_1 L0 o (acc ++ stepL s l) r (k + 1)) (st44 x s L0 (acc ++ stepL s l)) := by
      rw [run_loop]
      generalize MC.loop keep44_1 body44_1 = L
      simp (maxSteps := 10000000) [-List.getD_eq_getElem?_getD, -cut, -List.all_eq_true, body44_1, keep44_1, head44_1, st44, PB.cells, hlt', hw, hol, keep44_0, hin, g2, g5, g6, g7, g8, g9]
      rw [cut_L _ _ _ _ (fun h => (List.append_eq_nil_iff.1 h).1) _ 8 (by rw [mkE_len]; decide) (by simp (maxSteps := 10000000) [-List.getD_eq_getElem?_getD, ])]
      · intro nc h1 h2
        have hou := fun a c d n => ho.under a nc c d n h1
        have hau : ∀ a c d n, under a nc c d (n + 1) (accL L0 (acc ++ stepL s l)) = true := fun a c d n => by rw [accL_under, decide_eq_true_eq]; exact h2
        simp (maxSteps := 10000000) [-List.getD_eq_getElem?_getD, -List.all_eq_true, hou, hau]
      · intro nc
        simp (maxSteps := 10000000) [-List.getD_eq_getElem?_getD, -List.all_eq_true, hvu, hcu]
    rw [key]
    obtain ⟨L, g⟩ := loop44_1 x hx s hs L0 ls o ho r hlen hll rest (k + 1) (acc ++ stepL s l) hlt hd' (by rw [List.length_append]; omega)
    rw [List.flatMap_cons, ← List.append_assoc]
    exact ⟨L, g⟩
def linesN (s : Sp) : Nat → List (List Int)
  | 0 => [[]]
  | n + 1 => (linesN s n).flatMap (stepL s)
theorem stepL_vals (s : Sp) (l : List Int) : stepL s l = (vals s).map fun n => l ++ [n] := by
  simp [stepL, vals, List.map_map, Function.comp]
theorem linesN_eq (s : Sp) : ∀ n, linesN s n = seqs (List.replicate n (vals s))
  | 0 => rfl
  | n + 1 => by
    rw [linesN, linesN_eq s n, List.replicate_succ', Part.seqs_app]
    refine congrArg (fun f => List.flatMap f (seqs (List.replicate n (vals s)))) ?_
    funext l
    rw [stepL_vals]
    have hf : ∀ l : List Int, l.flatMap (fun n => [[n]]) = l.map fun n => [n] := by
      intro l
      induction l with
      | nil => rfl
      | cons a l ih => rw [List.flatMap_cons, ih]; rfl
    have : seqs [vals s] = (vals s).map fun n => [n] := by simp [seqs, hf]
    rw [this, List.map_map]
    rfl
theorem flatMap_len {α β : Type} (f : α → List β) (B : Nat) : ∀ l : List α, (∀ x ∈ l, (f x).length ≤ B) → (l.flatMap f).length ≤ l.length * B
  | [], _ => by simp
  | x :: l, h => by
    have h1 := h x List.mem_cons_self
    have h2 := flatMap_len f B l fun y hy => h y (List.mem_cons_of_mem _ hy)
    rw [List.flatMap_cons, List.length_append, List.length_cons, Nat.add_mul]
    omega
theorem linesN_len (s : Sp) (hw : s.high - s.low ≤ 2) : ∀ n, (linesN s n).length ≤ 3 ^ n ∧ ∀ l ∈ linesN s n, l.length = n
  | 0 => ⟨by simp [linesN], fun l hl => by simp [linesN] at hl; rw [hl]; rfl⟩
  | n + 1 => by
    obtain ⟨h1, h2⟩ := linesN_len s hw n
    refine ⟨?_, fun l hl => ?_⟩
    · have := flatMap_len (stepL s) 3 (linesN s n) fun l _ => by simp [stepL]; omega
      rw [linesN, Nat.pow_succ]
      omega
    · rw [linesN, List.mem_flatMap] at hl
      obtain ⟨m, hm, hl⟩ := hl
      rw [stepL, List.mem_map] at hl
      obtain ⟨j, _, rfl⟩ := hl
      rw [List.length_append, h2 m hm]; rfl
theorem out_acc (L0 : List (Nat × Nat)) (acc : List (List Int)) (hn : acc ≠ []) : OutL (L0 ++ tlL acc) acc (accL L0 acc) where
  under a b c d n h := by
    rw [accL_under, decide_eq_true_eq]
    rw [List.length_append, tlL_len, if_neg hn] at h
    exact .inr (by omega)
  len := by unfold accL; rw [if_neg hn]; simp
  get k l hk := by
    refine ⟨.no, rfl, ?_⟩
    have hlt := (List.getElem?_eq_some_iff.1 hk).1
    have hg := (List.getElem?_eq_some_iff.1 hk).2
    unfold accL
    rw [if_neg hn]
    simp [ixsA, hlt, hg, rowN, AV.cells]
theorem loop44_2 (x : PB) (hx : x.Ok) (h : Chk x) (s : Sp) (hs : 0 ≤ s.low ∧ s.low ≤ s.high ∧ s.high ≤ 12) (hw2 : s.high - s.low ≤ 2) : ∀ (m i : Nat) (L0 : List (Nat × Nat)) (o : AV), i + m = x.N.toNat → OutL L0 (linesN s i) o →
    ∃ L σ, run Cv 44 (.loop keep44_2 body44_2) (mkE 49 .any [(7, I i), (6, .box 1 0), (5, o), (2, .box 0 0)]) (st44 x s L0 []) = some (.ex 0, mkE 49 .any L, σ) ∧ ((m = 0 ∧ gt (mkE 49 .any L) 5 = o) ∨ ∃ L1, gt (mkE 49 .any L) 5 = accL L1 (linesN s x.N.toNat))
  | 0, i, L0, o, hi, ho => by
    have hN := h.N
    have h1 : ¬ (i : Int) < x.N := by omega
    rw [run_loop]
    simp (maxSteps := 10000000) [-List.getD_eq_getElem?_getD, body44_2, keep44_2, st44, PB.cells, h1]
    exact ⟨_, rfl, .inl (by simp (maxSteps := 10000000) [-List.getD_eq_getElem?_getD, ])⟩
  | m + 1, i, L0, o, hi, ho => by
    have hN := h.N
    have h1 : (i : Int) < x.N := by omega
    have hw : IntKind.wrap .i64 ((i : Int) + 1) = i + 1 := wrap_small (by omega) (by omega)
    obtain ⟨hl1, hl2⟩ := linesN_len s hw2 i
    have hp : 3 ^ i ≤ 27 := by
      have : i ≤ 3 := by omega
      calc 3 ^ i ≤ 3 ^ 3 := Nat.pow_le_pow_right (by omega) this
        _ = 27 := by decide
    obtain ⟨L1, h0, g2, g6, g7, g8⟩ := loop44_1 x hx s hs L0 (linesN s i) o ho i (fun l hl => by rw [hl2 l hl]; omega) (by omega) (linesN s i) 0 [] (Nat.zero_le _) rfl (by simp)
    rw [List.nil_append] at h0 g8
    rw [show (linesN s i).flatMap (stepL s) = linesN s (i + 1) from rfl] at h0 g8
    have hin := fun E (hE : mask keep44_1 E = _) => run_at h0 hE
    have e5 : ((0 : Nat) : Int) = 0 := rfl
    have k0 : accL L0 [] = .nils := rfl
    simp only [st44, head44_1, keep44_1, PB.cells, e5, k0] at hin
    have hvu := hx.vrow.under
    have hcu := hx.crow.under
    have hne : linesN s (i + 1) ≠ [] := by
      rw [linesN_eq]
      intro hn
      have : List.replicate (i + 1) s.low ∈ seqs (List.replicate (i + 1) (vals s)) := by
        rw [Part.seqs_mem]
        refine ⟨by simp, fun j n L hj hL => ?_⟩
        rw [List.getElem?_replicate] at hj hL
        split at hj
        · simp only [Option.some.injEq] at hj
          rename_i hji
          rw [if_pos hji] at hL
          simp only [Option.some.injEq] at hL
          subst hj hL
          exact Part.vals_mem.2 ⟨Int.le_refl _, hs.2.1⟩
        · cases hj
      rw [hn] at this
      cases this
    have key : run Cv 44 (.loop keep44_2 body44_2) (mkE 49 .any [(7, I i), (6, .box 1 0), (5, o), (2, .box 0 0)]) (st44 x s L0 []) = run Cv 44 (.loop keep44_2 body44_2) (mkE 49 .any [(7, I ((i : Int) + 1)), (6, .box 1 0), (5, accL L0 (linesN s (i + 1))), (2, .box 0 0)]) (st44 x s (L0 ++ tlL (linesN s (i + 1))) []) := by
      have k1 : tlL [] = [] := rfl
      rw [run_loop]
      generalize MC.loop keep44_2 body44_2 = L
      rw [st44, st44, k1, List.append_nil, List.append_nil]
      rw [k1, List.append_nil] at hin
      simp (maxSteps := 10000000) [-List.getD_eq_getElem?_getD, -cut, -List.all_eq_true, body44_2, keep44_2, PB.cells, h1, hw, keep44_1, hin, g2, g6, g7, g8]
      have hcl := cut_L [[I x.N, x.vr, I x.step, I x.chords, I x.perfect, x.cr], [I s.low, I s.high]] L0 [] (linesN s (i + 1)) (fun _ => rfl)
      rw [k1, List.append_nil] at hcl
      rw [hcl _ 5 (by rw [mkE_len]; decide) (by simp (maxSteps := 10000000) [-List.getD_eq_getElem?_getD, ])]
      · intro nc h1 h2
        have hau : ∀ a c d n, under a nc c d (n + 1) (accL L0 (linesN s (i + 1))) = true := fun a c d n => by rw [accL_under, decide_eq_true_eq]; exact h2
        simp (maxSteps := 10000000) [-List.getD_eq_getElem?_getD, -List.all_eq_true, hau]
      · intro nc
        simp (maxSteps := 10000000) [-List.getD_eq_getElem?_getD, -List.all_eq_true, hvu, hcu]
    rw [key]
    obtain ⟨L, σ, r1, r2⟩ := loop44_2 x hx h s hs hw2 m (i + 1) (L0 ++ tlL (linesN s (i + 1))) (accL L0 (linesN s (i + 1))) (by omega) (out_acc L0 _ hne)
    refine ⟨L, σ, r1, ?_⟩
    rcases r2 with ⟨hm, r2⟩ | r2
    · right
      refine ⟨L0, ?_⟩
      rw [r2, show i + 1 = x.N.toNat by omega]
    · exact .inr r2
theorem set2z (a b : AV) : setAt [I 0, I 0] 0 [a, b] = [a, b] := rfl
/-- All lists of notes of a voice. -/
theorem lines_call (x : PB) (hx : x.Ok) (h : Chk x) {v : Nat} {s : Sp} (hv : x.spans[v]? = some s) : call Cv 44 [x.av, I v] = some (.sl 1 ((linesN s x.N.toNat).map rowN) .no) := by
  have hN := h.N
  have hsm := List.mem_of_getElem? hv
  have hs := h.spans s hsm
  have hlt := (List.getElem?_eq_some_iff.1 hv).1
  have ho : OutL [] (linesN s 0) (.sl 1 [.sl 1 [] .full] .full) := {
    under := fun _ _ _ _ _ _ => rfl
    len := rfl
    get := fun k l hk => by
      have : k = 0 := by
        have := (List.getElem?_eq_some_iff.1 hk).1
        simp [linesN] at this; exact this
      subst this
      simp [linesN] at hk
      subst hk
      exact ⟨.full, rfl, by simp [ixsA, AV.cells, ints]⟩ }
  obtain ⟨L, σ, r1, r2⟩ := loop44_2 x hx h s hs (h.wide s hsm) x.N.toNat 0 [] _ (by omega) ho
  have r2' : ∃ L1, gt (mkE 49 .any L) 5 = accL L1 (linesN s x.N.toNat) := by
    rcases r2 with ⟨h0, _⟩ | r2
    · omega
    · exact r2
  obtain ⟨L1, r2'⟩ := r2'
  have hne : linesN s x.N.toNat ≠ [] := by
    intro hn
    rw [linesN_eq] at hn
    have : List.replicate x.N.toNat s.low ∈ seqs (List.replicate x.N.toNat (vals s)) := by
      rw [Part.seqs_mem]
      refine ⟨by simp, fun j n L hj hL => ?_⟩
      rw [List.getElem?_replicate] at hj hL
      split at hj
      · simp only [Option.some.injEq] at hj
        rename_i hji
        rw [if_pos hji] at hL
        simp only [Option.some.injEq] at hL
        subst hj hL
        exact Part.vals_mem.2 ⟨Int.le_refl _, hs.2.1⟩
      · cases hj
    rw [hn] at this
    cases this
  have hin := fun E (hE : mask keep44_2 E = _) => run_at r1 hE
  have e5 : ((0 : Nat) : Int) = 0 := rfl
  have k1 : tlL [] = [] := rfl
  simp only [st44, keep44_2, PB.cells, e5, k1, List.append_nil] at hin
  have hvc := hx.vrow.cell
  have hcc := hx.crow.cell
  have hix : ixsA 2 x.vr (I v) = some (.rp [I s.low, I s.high] 0) := by
    have hg := (List.getElem?_eq_some_iff.1 hv).2
    obtain ⟨cc, hcc, hr⟩ := hx.vrow.sl (by intro hn; simp at hn; rw [hn] at hlt; simp at hlt)
    rw [hr]
    simp [ixsA, hlt, hg, spA, AV.cells]
  have hpa : ∀ σ n, pur σ (n + 1) (accL L1 (linesN s x.N.toNat)) = some (.sl 1 ((linesN s x.N.toNat).map rowN) .no, false) := fun σ n => by
    unfold accL; rw [if_neg hne]; rfl
  generalize linesN s x.N.toNat = F at *
  rw [call_run comp44 (Nat.le_of_ble_eq_true rfl)]
  simp (maxSteps := 10000000) [-List.getD_eq_getElem?_getD, -ixsA, -List.all_eq_true, code44, PB.av, PB.cells, hvc, hcc, hix, fillE, AV.isAgg, set2z, keep44_2, hin, r2', hpa]
end Go.Ai

set_option maxRecDepth 100000
set_option linter.unusedSimpArgs false
set_option linter.unusedVariables false
/-! All ways together: plain facts. -/
namespace Go.Ai
open Go.Part (Sp Cp Bk truths cnt at' vals seqs seg sumN)
def segs (N v : Nat) (T : List (List Int)) (l : List Int) : Nat := (T.filter fun q => decide (seg N q v = l)).length
theorem segs_pos {N v : Nat} {T : List (List Int)} {l : List Int} : 0 < segs N v T l ↔ ∃ q ∈ T, seg N q v = l := by
  simp only [segs, List.length_pos_iff_exists_mem, List.mem_filter, decide_eq_true_eq]
def withW (w : List Int → Nat) (ls : List (List Int)) : List (List Int) := ls.filter fun l => decide (0 < w l)
theorem one_of {α : Type} {l : List α} (hn : l.Nodup) {a : α} (ha : a ∈ l) (h : ∀ b ∈ l, b = a) : l = [a] := by
  cases l with
  | nil => cases ha
  | cons b l =>
    have hb := h b (.head _)
    subst hb
    cases l with
    | nil => rfl
    | cons c l =>
      have hc := h c (.tail _ (.head _))
      subst hc
      simp at hn
structure Lines (x : PB) (v : Nat) (s : Sp) : Prop where
  ok : Chk x
  v : x.spans[v]? = some s
theorem lines_nodup (s : Sp) (n : Nat) : (linesN s n).Nodup := by
  rw [linesN_eq]
  exact Part.seqs_nodup _ fun L hL => by rw [(List.mem_replicate.1 hL).2]; exact Part.vals_nodup s
theorem seg_lines {x : PB} {v : Nat} {s : Sp} (h : Lines x v s) {q : List Int} (hq : q ∈ Ts x noneF) : seg x.N.toNat q v ∈ linesN s x.N.toNat := by
  rw [linesN_eq]
  exact Part.seg_mem (b := bkOf x) (Ts_mem h.ok hq) h.v
theorem lines_mem {x : PB} {v : Nat} {s : Sp} (h : Lines x v s) {l : List Int} (hl : l ∈ linesN s x.N.toNat) : l.length = x.N.toNat ∧ ∀ n ∈ l, s.low ≤ n ∧ n ≤ s.high := by
  rw [linesN_eq, Part.seqs_mem] at hl
  obtain ⟨h1, h2⟩ := hl
  rw [List.length_replicate] at h1
  refine ⟨h1, fun n hn => ?_⟩
  obtain ⟨i, hi⟩ := List.getElem?_of_mem hn
  have hlt := (List.getElem?_eq_some_iff.1 hi).1
  exact Part.vals_mem.1 (h2 i n (vals s) hi (by rw [List.getElem?_replicate, if_pos (by omega)]))
theorem sum_all {x : PB} {v : Nat} {s : Sp} (h : Lines x v s) : sumN ((linesN s x.N.toNat).map fun l => segs x.N.toNat v (Ts x noneF) l) = (Ts x noneF).length :=
  Part.sum_lines (fun q => seg x.N.toNat q v) _ (lines_nodup s _) _ fun q hq => seg_lines h hq
theorem withW_mem {x : PB} {v : Nat} {s : Sp} (h : Lines x v s) (l : List Int) : l ∈ withW (segs x.N.toNat v (Ts x noneF)) (linesN s x.N.toNat) ↔ ∃ q ∈ Ts x noneF, seg x.N.toNat q v = l := by
  rw [withW, List.mem_filter, decide_eq_true_eq, segs_pos]
  constructor
  · exact fun h => h.2
  · rintro ⟨q, hq, rfl⟩
    exact ⟨seg_lines h hq, q, hq, rfl⟩
theorem withW_nodup (s : Sp) (n : Nat) (w : List Int → Nat) : (withW w (linesN s n)).Nodup := List.Pairwise.filter _ (lines_nodup s n)
/-- The line that is told. -/
theorem line_seg {N v : Nat} {q : List Int} {V : Nat} (hq : q.length = V * N) (hv : v < V) : (List.range' 0 N).map (fun j => at' q (v * N + j)) = seg N q v := by
  have hl := Part.seg_len (k := v) hq hv
  refine List.ext_getElem? fun i => ?_
  by_cases hi : i < N
  · rw [List.getElem?_map, List.getElem?_range' hi]
    have := Part.seg_at (N := N) (q := q) (k := v) hi
    rw [List.getElem?_eq_getElem (by omega)]
    simp only [Option.map_some, Nat.zero_add, Nat.one_mul, Option.some.injEq]
    rw [← this]
    simp [at', List.getElem?_eq_getElem (show i < (seg N q v).length by omega)]
  · rw [List.getElem?_eq_none (by simp; omega), List.getElem?_eq_none (by omega)]
theorem known_iff {T : List (List Int)} {q : List Int} {j : Nat} : knownB T q j = true ↔ ∀ p ∈ T, at' p j = at' q j := by
  rw [knownB, decide_eq_true_eq, ← Part.cnt_all]
  have := Part.cnt_le T j (at' q j)
  omega
theorem lineOf_spec {N v V : Nat} {T : List (List Int)} (hT : ∀ q ∈ T, q.length = V * N) (hv : v < V) (hne : T ≠ []) : (∃ q ∈ T, lineOf T N v = some (seg N q v) ∧ ∀ p ∈ T, seg N p v = seg N q v) ∨ (lineOf T N v = none ∧ ∃ p ∈ T, ∃ q ∈ T, seg N p v ≠ seg N q v) := by
  cases T with
  | nil => exact absurd rfl hne
  | cons q U =>
    have hq := hT q (.head _)
    by_cases h : (List.range N).all (fun j => knownB (q :: U) q (v * N + j)) = true
    · left
      refine ⟨q, .head _, ?_, fun p hp => ?_⟩
      · rw [lineOf, if_pos h, line_seg hq hv]
      · have hlp := Part.seg_len (k := v) (hT p hp) hv
        have hlq := Part.seg_len (k := v) hq hv
        refine List.ext_getElem? fun i => ?_
        by_cases hi : i < N
        · have h1 := known_iff.1 (List.all_eq_true.1 h i (List.mem_range.2 hi)) p hp
          rw [← Part.seg_at hi, ← Part.seg_at hi] at h1
          simp only [at', List.getD_eq_getElem?_getD] at h1
          rw [List.getElem?_eq_getElem (by omega), List.getElem?_eq_getElem (by omega)] at h1 ⊢
          simpa using h1
        · rw [List.getElem?_eq_none (by omega), List.getElem?_eq_none (by omega)]
    · right
      refine ⟨by rw [lineOf, if_neg h], ?_⟩
      rw [Bool.not_eq_true, List.all_eq_false] at h
      obtain ⟨j, hj, hk⟩ := h
      rw [List.mem_range] at hj
      have hk' : ¬ ∀ p ∈ q :: U, at' p (v * N + j) = at' q (v * N + j) := fun hh => hk (known_iff.2 hh)
      have : ∃ p, p ∈ q :: U ∧ at' p (v * N + j) ≠ at' q (v * N + j) := by
        apply Classical.byContradiction
        intro hn
        exact hk' fun p hp => Classical.byContradiction fun hne => hn ⟨p, hp, hne⟩
      obtain ⟨p, hp, hne⟩ := this
      refine ⟨p, hp, q, .head _, fun he => hne ?_⟩
      rw [← Part.seg_at hj, ← Part.seg_at hj, he]
/-- A line is told just if there is one line alone. -/
theorem line_one {x : PB} {v : Nat} {s : Sp} (h : Lines x v s) (hne : Ts x noneF ≠ []) : (∃ l, lineOf (Ts x noneF) x.N.toNat v = some l ∧ withW (segs x.N.toNat v (Ts x noneF)) (linesN s x.N.toNat) = [l]) ∨ (lineOf (Ts x noneF) x.N.toNat v = none ∧ (withW (segs x.N.toNat v (Ts x noneF)) (linesN s x.N.toNat)).length ≠ 1) := by
  have hv := (List.getElem?_eq_some_iff.1 h.v).1
  rcases lineOf_spec (Ts_len h.ok) hv hne with ⟨q, hq, h1, h2⟩ | ⟨h1, p, hp, q, hq, h2⟩
  · left
    refine ⟨_, h1, one_of (withW_nodup _ _ _) ((withW_mem h _).2 ⟨q, hq, rfl⟩) fun b hb => ?_⟩
    obtain ⟨p, hp, rfl⟩ := (withW_mem h b).1 hb
    exact h2 p hp
  · right
    refine ⟨h1, fun hl => h2 ?_⟩
    obtain ⟨a, ha⟩ := List.length_eq_one_iff.1 hl
    have e1 := (withW_mem h (seg x.N.toNat p v)).2 ⟨p, hp, rfl⟩
    have e2 := (withW_mem h (seg x.N.toNat q v)).2 ⟨q, hq, rfl⟩
    rw [ha] at e1 e2
    rw [List.mem_singleton.1 e1, List.mem_singleton.1 e2]
/-- The notes that are told are those of lines. -/
theorem notes_lines {x : PB} {v i : Nat} {s : Sp} (h : Lines x v s) (hi : i < x.N.toNat) (n : Int) : n ∈ (withW (segs x.N.toNat v (Ts x noneF)) (linesN s x.N.toNat)).map (fun l => at' l i) ↔ n ∈ posOf (Ts x noneF) (v * x.N.toNat + i) := by
  have hv := (List.getElem?_eq_some_iff.1 h.v).1
  rw [posOf_mem, List.mem_map]
  constructor
  · rintro ⟨l, hl, rfl⟩
    obtain ⟨q, hq, rfl⟩ := (withW_mem h l).1 hl
    have := Ts_note h.ok hq hv hi
    rw [Part.seg_at hi]
    exact ⟨this.1, this.2, Part.cnt_pos.2 ⟨q, hq, rfl⟩⟩
  · rintro ⟨h0, h12, hc⟩
    obtain ⟨q, hq, he⟩ := Part.cnt_pos.1 hc
    exact ⟨_, (withW_mem h _).2 ⟨q, hq, rfl⟩, by rw [Part.seg_at hi]; exact he⟩
theorem gat_eq {l m : List Int} (hl : gatN 0 l < 2 ^ 62) (hm : gatN 0 m < 2 ^ 62) (h : ∀ n, n ∈ l ↔ n ∈ m) : gatN 0 l = gatN 0 m := by
  apply Nat.eq_of_testBit_eq
  intro j
  by_cases hj : j < 62
  · rw [gatN_bit _ _ _ hj, gatN_bit _ _ _ hj]
    congr 1
    rw [decide_eq_decide]
    exact h j
  · rw [Nat.testBit_lt_two_pow (Nat.lt_of_lt_of_le hl (Nat.pow_le_pow_right (by decide) (by omega))), Nat.testBit_lt_two_pow (Nat.lt_of_lt_of_le hm (Nat.pow_le_pow_right (by decide) (by omega)))]
end Go.Ai
