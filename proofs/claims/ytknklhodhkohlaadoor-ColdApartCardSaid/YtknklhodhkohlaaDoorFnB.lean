/- This text shows who is away; how a cold goes on. No conditions of its own. -/
import Derived.Test.YtknklhodhkohlaaDoorFnA
set_option linter.unusedSimpArgs false
set_option linter.unusedVariables false
set_option maxRecDepth 100000
namespace Go.Ai
open Go.Cold (Mv Hd Bk)
abbrev BM := List ((Int × Int) × Bool)
def BM.get : BM → Int × Int → Bool
  | [], _ => false
  | e :: l, k => if e.1 = k then e.2 else BM.get l k
def BM.has : BM → Int × Int → Bool
  | [], _ => false
  | e :: l, k => decide (e.1 = k) || BM.has l k
def BM.put : BM → Int × Int → Bool → BM
  | [], k, v => [(k, v)]
  | e :: l, k, v => if e.1 = k then (k, v) :: l else e :: BM.put l k v
theorem bm_get_put (k k' : Int × Int) (v : Bool) : ∀ l : BM, BM.get (BM.put l k v) k' = if k = k' then v else BM.get l k'
  | [] => by simp [BM.put, BM.get]
  | e :: l => by
    have ih := bm_get_put k k' v l
    simp only [BM.put]
    by_cases h : e.1 = k
    · simp only [h, if_true, BM.get]
      by_cases h2 : k = k' <;> simp [h2]
    · simp only [h, if_false, BM.get, ih]
      by_cases h2 : e.1 = k'
      · have : ¬ k = k' := fun h3 => h (h2.trans h3.symm)
        simp [h2, this]
      · simp [h2]
def keyA (k : Int × Int) : AV := .agg [I k.1, I k.2]
def ksM (l : BM) : List AV := l.map fun e => keyA e.1
def vsM (l : BM) : List AV := l.map fun e => .bool e.2
theorem key_eq (k k' : Int × Int) : keyEq (some 2) (keyA k) (keyA k') = some (decide (k = k')) := by
  obtain ⟨a, b⟩ := k
  obtain ⟨c, d⟩ := k'
  simp only [keyEq, keyA, List.length_cons, List.length_nil, and_self, if_true, eqCells, Option.map_some, Option.some.injEq, Prod.mk.injEq, Bool.decide_and, Bool.and_true]
  rfl
theorem find_spec (k : Int × Int) : ∀ (l : BM) (i : Nat), (BM.has l k = false ∧ BM.get l k = false ∧ findA (some 2) (keyA k) (ksM l) i = some none) ∨ ∃ (j : Nat), BM.has l k = true ∧ findA (some 2) (keyA k) (ksM l) i = some (some (i + j)) ∧ (vsM l)[j]? = some (.bool (BM.get l k)) ∧ ∀ w, (vsM l).set j (.bool w) = vsM (BM.put l k w) ∧ ksM (BM.put l k w) = ksM l
  | [], i => .inl ⟨rfl, rfl, rfl⟩
  | e :: l, i => by
    simp only [ksM, List.map_cons, findA, key_eq, Option.bind_some, BM.get, BM.has]
    by_cases h : e.1 = k
    · have h' : k = e.1 := h.symm
      refine .inr ⟨0, by simp [h], by simp [h'], by simp [vsM, h], fun w => by simp [vsM, BM.put, h]⟩
    · have h' : ¬ k = e.1 := fun he => h he.symm
      rcases find_spec k l (i + 1) with ⟨g0, g1, g2⟩ | ⟨j, g1, g2, g3, g4⟩
      · exact .inl ⟨by simp [h, g0], by simp [h, g1], by simp only [ksM] at g2; simp [h', g2]⟩
      · refine .inr ⟨j + 1, by simp [h, g1], ?_, by simpa [vsM, h] using g3, fun w => ?_⟩
        · simp only [ksM] at g2
          simp only [h', decide_false, Bool.false_eq_true, if_false, g2]
          congr 2; omega
        · obtain ⟨q1, q2⟩ := g4 w
          simp only [vsM, ksM, BM.put, h, if_false, List.map_cons, List.set_cons_succ] at q1 q2 ⊢
          exact ⟨by rw [q1], by rw [q2]⟩
theorem key_ok (k : Int × Int) : keyOk (some 2) (keyA k) = true := rfl
theorem lkp_map (σ : St) (l : BM) (a b : Int) (m : AV) (hm : entriesA σ m = some (ksM l, vsM l)) : lkpA σ (some 2) (.bool false) m (.agg [I a, I b]) false = some (.bool (BM.get l (a, b))) := by
  show lkpA σ (some 2) (.bool false) m (keyA (a, b)) false = _
  rcases find_spec (a, b) l 0 with ⟨_, g1, g2⟩ | ⟨j, _, g2, g3, _⟩
  · simp [lkpA, hm, key_ok, g2, g1]
  · simp only [lkpA, hm, Option.bind_some, key_ok, if_true, g2, Nat.zero_add, g3, Option.map_some]; rfl
theorem lkp_mapv (σ : St) (l : BM) (a b : Int) : lkpA σ (some 2) (.bool false) (.mapv (ksM l) (vsM l)) (.agg [I a, I b]) false = some (.bool (BM.get l (a, b))) := lkp_map σ l a b _ rfl
theorem put_none (k : Int × Int) (v : Bool) : ∀ l : BM, BM.has l k = false → BM.put l k v = l ++ [(k, v)]
  | [], _ => rfl
  | e :: l, h => by
    simp only [BM.has, Bool.or_eq_false_iff, decide_eq_false_iff_not] at h
    simp only [BM.put, h.1, if_false, List.cons_append, put_none k v l h.2]
theorem mput_map (σ : St) (l : BM) (k : Int × Int) (v : Bool) (i : Nat) (hm : σ.maps[i]? = some (ksM l, vsM l)) (hr : σ.mro ≤ i) : mputA σ (some 2) (.mp i) (keyA k) (.bool v) = some { σ with maps := σ.maps.set i (ksM (BM.put l k v), vsM (BM.put l k v)) } := by
  rcases find_spec k l 0 with ⟨g0, g1, g2⟩ | ⟨j, g1, g2, g3, g4⟩
  · simp only [mputA, hm, Option.bind_some, hr, key_ok, and_self, if_true, g2, put_none k v l g0]
    simp [ksM, vsM]
  · obtain ⟨q1, q2⟩ := g4 v
    simp only [mputA, hm, Option.bind_some, hr, key_ok, and_self, if_true, g2, Nat.zero_add, q1, q2]
theorem ks_under (a b c d n : Nat) : ∀ l : BM, (ksM l).all (under a b c d (n + 2)) = true
  | [] => rfl
  | e :: l => by
    have := ks_under a b c d n l
    simp only [ksM] at this ⊢
    simp only [List.map_cons, List.all_cons, this, Bool.and_true]
    rfl
theorem vs_under (a b c d n : Nat) : ∀ l : BM, (vsM l).all (under a b c d (n + 1)) = true
  | [] => rfl
  | e :: l => by
    have := vs_under a b c d n l
    simp only [vsM] at this ⊢
    simp only [List.map_cons, List.all_cons, this, Bool.and_true]
    rfl
theorem ks_pur (σ : St) (n : Nat) : ∀ l : BM, purAll (pur σ (n + 2)) (ksM l) = some (ksM l, false)
  | [] => rfl
  | e :: l => by
    have := ks_pur σ n l
    simp only [ksM, keyA] at this ⊢
    simp [purAll, pur, this]
theorem vs_pur (σ : St) (n : Nat) : ∀ l : BM, purAll (pur σ (n + 1)) (vsM l) = some (vsM l, false)
  | [] => rfl
  | e :: l => by
    have := vs_pur σ n l
    simp only [vsM] at this ⊢
    simp [purAll, pur, this]
theorem put_lit (bx : List (List AV)) (ch : List (Nat × Nat)) (lp : List Lp) (l : BM) (a b : Int) (v : Bool) : mputA { boxes := bx, chains := ch, maps := [(ksM l, vsM l)], loops := lp } (some 2) (.mp 0) (.agg [I a, I b]) (.bool v) = some { boxes := bx, chains := ch, maps := [(ksM (BM.put l (a, b) v), vsM (BM.put l (a, b) v))], loops := lp } :=
  mput_map _ l (a, b) v 0 rfl (Nat.le_refl _)
theorem fill2 (a b : Int) : fillA [(0, 1, I a), (1, 1, I b)] [I 0, I 0] = some [I a, I b] := rfl
attribute [simp] fill2
def arr (f : Nat → Int) : List AV := [I (f 0), I (f 1), I (f 2), I (f 3), I (f 4)]
def updF (f : Nat → Int) (i : Nat) (n : Int) : Nat → Int := fun j => if j = i then n else f j
theorem arr_len (f : Nat → Int) : (arr f).length = 5 := rfl
theorem arr_get (f : Nat → Int) {i : Nat} (h : i < 5) : (arr f)[i]? = some (I (f i)) := by
  have : i = 0 ∨ i = 1 ∨ i = 2 ∨ i = 3 ∨ i = 4 := by omega
  rcases this with rfl | rfl | rfl | rfl | rfl <;> rfl
theorem arr_set (f : Nat → Int) {i : Nat} (h : i < 5) (n : Int) : setAt (arr f) i [I n] = arr (updF f i n) := by
  have : i = 0 ∨ i = 1 ∨ i = 2 ∨ i = 3 ∨ i = 4 := by omega
  rcases this with rfl | rfl | rfl | rfl | rfl <;> rfl
theorem arr_ext {f g : Nat → Int} (h : ∀ i, i < 5 → f i = g i) : arr f = arr g := by
  simp only [arr, h 0 (by omega), h 1 (by omega), h 2 (by omega), h 3 (by omega), h 4 (by omega)]
theorem arr_pur (σ : St) (n : Nat) (f : Nat → Int) : purAll (pur σ (n + 1)) (arr f) = some (arr f, false) := rfl
theorem arr_cell (f : Nat → Int) : (arr f).all AV.isCell = true := rfl
theorem arr_under (a b c d n : Nat) (f : Nat → Int) : (arr f).all (under a b c d (n + 1)) = true := rfl
end Go.Ai

set_option maxRecDepth 100000
namespace Go.Ai
open Go.Cold (Mv Hd Bk stepD daysF)
structure SP where
  x : CB
  l : BM
  tr : AV
  bed : Int
  day : Int
  out : Int
  g : Int
  c : Nat → Int
  s : Nat → Int
structure SP.Ok (Y : SP) : Prop where
  x : Y.x.Ok
  trow : ∃ es, IsRow 9 es Y.tr
  b1 : 1 ≤ Y.x.beds
  b5 : Y.x.beds ≤ 5
  d6 : Y.x.days ≤ 6
  g1 : 1 ≤ Y.g
  g3 : Y.g ≤ 3
def SP.bk (Y : SP) : List AV := Y.x.cells ++ [.mapv (ksM Y.l) (vsM Y.l), Y.tr]
def SP.tc (Y : SP) : List AV := [I Y.bed, I Y.day, I Y.out, I Y.g] ++ arr Y.c
def nextV : AV := .fn (.func 105) [] [.box 0 0, .box 1 0, .box 4 0]
def zero5 : List AV := [I 0, I 0, I 0, I 0, I 0]
def SP.base (Y : SP) : List (List AV) := [Y.bk, Y.tc, zero5, arr Y.s, [nextV]]
def SP.st (Y : SP) (E : List (List AV)) : St := { boxes := Y.base ++ E }
theorem sp_len (Y : SP) (E : List (List AV)) : (Y.base ++ E).length = 5 + E.length := by rw [List.length_append]; rfl
theorem sp_boxes (Y : SP) (E : List (List AV)) : (Y.st E).boxes.length = 5 + E.length := sp_len Y E
theorem sp_base {Y : SP} {E : List (List AV)} {i : Nat} (h : i < 5) (n : Option Nat) (off : Nat) : loadA (Y.st E) n (.box i off) = partA n (Y.base.getD i []) off := by
  have : (Y.base ++ E)[i]? = Y.base[i]? := List.getElem?_append_left h
  have h2 : Y.base[i]? = some (Y.base.getD i []) := by
    have : i = 0 ∨ i = 1 ∨ i = 2 ∨ i = 3 ∨ i = 4 := by omega
    rcases this with rfl | rfl | rfl | rfl | rfl <;> rfl
  simp only [loadA, SP.st, this, h2, Option.bind_some]
theorem sp_load {Y : SP} (E F : List (List AV)) {q : Nat} (cs : List AV) (hF : F[q]? = some cs) (n : Option Nat) (off p : Nat) (hp : p = 5 + E.length + q) : loadA (Y.st (E ++ F)) n (.box p off) = partA n cs off := by
  subst hp
  have : (Y.base ++ (E ++ F))[5 + E.length + q]? = some cs := by
    rw [← List.append_assoc, List.getElem?_append_right (by rw [sp_len]; omega), sp_len, show 5 + E.length + q - (5 + E.length) = q by omega, hF]
  simp only [loadA, SP.st, this, Option.bind_some]
theorem sp_store {Y : SP} (E F : List (List AV)) {q : Nat} (cs : List AV) (hF : F[q]? = some cs) (n : Nat) (off p : Nat) (hp : p = 5 + E.length + q) (v : AV) (h1 : v.cells.length = n) (h2 : off + n ≤ cs.length) (h3 : v.cells.all AV.isCell = true) : storeA (Y.st (E ++ F)) n (.box p off) v = some (Y.st (E ++ F.set q (setAt cs off v.cells))) := by
  subst hp
  have hq := (List.getElem?_eq_some_iff.1 hF).1
  have : (Y.base ++ (E ++ F))[5 + E.length + q]? = some cs := by
    rw [← List.append_assoc, List.getElem?_append_right (by rw [sp_len]; omega), sp_len, show 5 + E.length + q - (5 + E.length) = q by omega, hF]
  have ro : (Y.st (E ++ F)).ro = 0 := rfl
  have hb : (Y.st (E ++ F)).boxes[5 + E.length + q]? = some cs := this
  simp only [storeA, hb, Option.bind_some, ro, Nat.zero_le, h1, h2, h3, and_self, if_true]
  simp only [SP.st]
  congr 2
  rw [← List.append_assoc, List.set_append_right _ _ (by rw [sp_len]; omega), sp_len, show 5 + E.length + q - (5 + E.length) = q by omega, List.append_assoc]
theorem sp_under (Y : SP) (hY : Y.Ok) (a b c d : Nat) (ha : 5 ≤ a) : Y.base.all (fun cs => cs.all (under a b c d 6)) = true := by
  obtain ⟨es, ht⟩ := hY.trow
  have h1 := hY.x.mrow.under a b c d 5
  have h2 := hY.x.hrow.under a b c d 5
  have h3 := ht.under a b c d 5
  have q : ∀ k, k < 5 → k < a := fun k hk => by omega
  simp [SP.base, SP.bk, SP.tc, CB.cells, arr, zero5, nextV, under, h1, h2, h3, q]
def under6 (E : List (List AV)) : Prop := ∀ a b c d n, E.all (fun cs => cs.all (under a b c d (n + 1))) = true
theorem sp_cut (Y : SP) (hY : Y.Ok) (E0 E F : List (List AV)) (hl : E0.length = E.length) (hE : under6 E) (e : Env) (he : e.all (under (5 + E.length) 0 0 0 6) = true) : cut (Y.st E0) (Y.st (E ++ F)) e = Y.st E := by
  have ht : (Y.base ++ (E ++ F)).take (5 + E.length) = Y.base ++ E := by
    rw [← List.append_assoc, List.take_left']
    rw [sp_len]
  have hu := sp_under Y hY (5 + E.length) 0 0 0 (by omega)
  have h2 : dryAt 0 (Y.st E0) (Y.st (E ++ F)) e = true := by
    simp only [dryAt, SP.st, sp_len, hl, ht, List.length_nil, List.take_nil, List.all_nil, Bool.and_true, List.all_append, Bool.and_eq_true]
    exact ⟨he, hu, hE _ _ _ _ 5⟩
  unfold cut
  have hc : (Y.st E0).chains.length = 0 := rfl
  rw [hc, h2]
  simp only [if_true, cutAt, SP.st, sp_len, hl, ht, List.length_nil, List.take_nil]
  rfl
def nearB (Y : SP) (d : Int) (f : Nat → Int) (near : Int) : Bool := lie near 0 (Y.x.beds - 1) && (decide (0 ≤ f near.toNat) && (decide (f near.toNat + Y.g = d) && !BM.get Y.l (near, d)))
def head105a (p : Nat) (B d k j : Int) : Env := mkE 88 .any [(43, I j), (42, I 2), (41, .sl 1 [I (k - 1), I (k + 1)] .full), (22, I k), (21, I B), (9, I k), (8, .box (p + 2) 0), (7, .box (p + 1) 0), (5, .box p 0), (4, .box 4 0), (3, .box 1 0), (2, .box 0 0), (1, I d)]
theorem exit105a (Y : SP) (p : Nat) (B d k : Int) (σ : St) : run Cv 105 (.loop keep105_0 body105_0) (head105a p B d k 2) σ = some (.ex 2, mkE 88 .any [(44, .bool false), (43, I 2), (42, I 2), (41, .sl 1 [I (k - 1), I (k + 1)] .full), (22, I k), (21, I B), (9, I k), (8, .box (p + 2) 0), (7, .box (p + 1) 0), (5, .box p 0), (4, .box 4 0), (3, .box 1 0), (2, .box 0 0), (1, I d)], σ) := by
  rw [run_loop]
  simp (maxSteps := 10000000) [-List.getD_eq_getElem?_getD, body105_0, keep105_0, head105a]
theorem round105a (Y : SP) (hY : Y.Ok) (E : List (List AV)) (hE : under6 E) (f h : Nat → Int) (hf : ∀ i, i < 5 → -1 ≤ f i ∧ f i ≤ 100) (d : Int) (k : Nat) (hk : k < 5) (j : Nat) (hj : j < 2) (near : Int) (hn : near = if j = 0 then (k : Int) - 1 else k + 1) :
    run Cv 105 (.loop keep105_0 body105_0) (head105a (5 + E.length) Y.x.beds d k j) (Y.st (E ++ [arr f, zero5, arr h])) = run Cv 105 (.loop keep105_0 body105_0) (head105a (5 + E.length) Y.x.beds d k (j + 1)) (Y.st (E ++ [arr f, zero5, arr (if nearB Y d f near then updF h k d else h)])) := by
  have hb1 := hY.b1
  have hb5 := hY.b5
  have hg1 := hY.g1
  have hg3 := hY.g3
  have w0 : IntKind.wrap .i64 (Y.x.beds - 1) = Y.x.beds - 1 := wrap_small (by omega) (by omega)
  have w1 : IntKind.wrap .i64 ((j : Int) + 1) = j + 1 := wrap_small (by omega) (by omega)
  have hlt : (j : Int) < 2 := by omega
  have hix : ixsA 1 (.sl 1 [I ((k : Int) - 1), I (k + 1)] .full) (I j) = some (.rp [I near] 0) := by
    have : j = 0 ∨ j = 1 := by omega
    rcases this with rfl | rfl <;> subst hn <;> rfl
  have hw := within_call near 0 (Y.x.beds - 1)
  have hs1 := sp_load (Y := Y) E [arr f, zero5, arr h] (q := 0) (arr f) rfl
  have ha := fun n off => hs1 n off (5 + E.length) rfl
  have hbk : ∀ n off, loadA (Y.st (E ++ [arr f, zero5, arr h])) n (.box 0 off) = partA n Y.bk off := fun n off => sp_base (by omega) n off
  have htc : ∀ n off, loadA (Y.st (E ++ [arr f, zero5, arr h])) n (.box 1 off) = partA n Y.tc off := fun n off => sp_base (by omega) n off
  have hst := sp_store (Y := Y) E [arr f, zero5, arr h] (q := 2) (arr h) rfl 1 (0 + k * 1) (5 + E.length + 2) rfl (I d) rfl (by rw [arr_len]; omega) rfl
  rw [show 0 + k * 1 = k by omega] at hst
  have hset : [arr f, zero5, arr h].set 2 (setAt (arr h) k (I d).cells) = [arr f, zero5, arr (updF h k d)] := by
    have := arr_set h hk d
    simp only [AV.cells, this]
    rfl
  rw [hset] at hst
  have hik : ∀ q off, ixaA 5 1 (.box q off) (I k) = some (.box q (off + k * 1)) := fun q off => by
    have h1 : (0 : Int) ≤ k := by omega
    have h2 : (k : Int) < ((5 : Nat) : Int) := by omega
    simp only [ixaA, h1, h2, and_self, if_true, ptrAdd, Int.toNat_natCast]
  have hl := lkp_mapv
  have hE' : ∀ F, (∀ a b c d n, F.all (under a b c d (n + 1)) = true) → under6 (E ++ [arr f, zero5, F]) := fun F hF a b c d n => by
    rw [List.all_append, hE]
    simp only [List.all_cons, arr_under, hF, List.all_nil, Bool.and_true, Bool.true_and]
    rfl
  have hmk : ∀ F, under6 (E ++ [arr f, zero5, F]) → ∀ e : Env, e.all (under (5 + (E.length + 3)) 0 0 0 6) = true → cut (Y.st (E ++ [arr f, zero5, arr h])) (Y.st (E ++ [arr f, zero5, F])) e = Y.st (E ++ [arr f, zero5, F]) := fun F hF e he => by
    have := sp_cut Y hY (E ++ [arr f, zero5, arr h]) (E ++ [arr f, zero5, F]) [] (by simp) hF e (by simpa using he)
    rwa [List.append_nil] at this
  have hlr : ∀ σ, loadA σ none (.rp [I near] 0) = some (I near) := fun _ => rfl
  have q1 : ∀ k, k < 5 → k < 5 + (E.length + 3) := fun k hk => by omega
  have q2 : E.length + 5 < 5 + (E.length + 3) := by omega
  have q3 : E.length + 6 < 5 + (E.length + 3) := by omega
  have q4 : E.length + 7 < 5 + (E.length + 3) := by omega
  have q5 : ∀ q, q < 3 → 5 + E.length + q < 5 + (E.length + 3) := fun q hq => by omega
  have q6 : 5 + E.length < 5 + (E.length + 3) := by omega
  rw [run_loop]
  generalize MC.loop keep105_0 body105_0 = L
  unfold nearB
  cases hb : lie near 0 (Y.x.beds - 1) with
  | false =>
    rw [hb] at hw
    simp (maxSteps := 10000000) [-List.getD_eq_getElem?_getD, -loadA, -storeA, -ixaA, -ixsA, -cut, hlr, body105_0, keep105_0, head105a, hlt, hix, w0, w1, hw, hbk, SP.bk, CB.cells, partA]
    rw [hmk (arr h) (hE' _ (fun _ _ _ _ _ => rfl))]
    simp (maxSteps := 10000000) [-List.getD_eq_getElem?_getD, q1, q2, q3, q4, q5, q6]
  | true =>
    rw [hb] at hw
    have hn2 : 0 ≤ near ∧ near < 5 := by
      simp only [lie, Bool.and_eq_true, decide_eq_true_eq] at hb
      omega
    obtain ⟨m, rfl⟩ : ∃ m : Nat, near = m := ⟨near.toNat, by omega⟩
    have hm5 : m < 5 := by omega
    have him : ∀ q off, ixaA 5 1 (.box q off) (I m) = some (.box q (off + m * 1)) := fun q off => by
      have h1 : (0 : Int) ≤ m := by omega
      have h2 : (m : Int) < ((5 : Nat) : Int) := by omega
      simp only [ixaA, h1, h2, and_self, if_true, ptrAdd, Int.toNat_natCast]
    have hpa : ∀ f, (arr f)[m]? = some (I (f m)) := fun f => arr_get f hm5
    have w2 : IntKind.wrap .i64 (f m + Y.g) = f m + Y.g := wrap_small (by have := hf m hm5; omega) (by have := hf m hm5; omega)
    have hl2 := fun σ => hl σ Y.l m d
    simp only [Int.toNat_natCast, Bool.true_and]
    by_cases h0 : 0 ≤ f m
    · by_cases h1 : f m + Y.g = d
      · have w3 : IntKind.wrap .i64 d = d := by rw [← h1]; exact w2
        cases h2 : BM.get Y.l (m, d) with
        | false =>
          simp (maxSteps := 10000000) [-List.getD_eq_getElem?_getD, -loadA, -storeA, -ixaA, -ixsA, -cut, hlr, -setAt, body105_0, keep105_0, head105a, hlt, hix, w0, w1, w2, w3, hw, hbk, htc, SP.bk, SP.tc, CB.cells, partA, him, ha, hpa, h0, h1, hl2, h2, hik, hst]
          rw [hmk (arr (updF h k d)) (hE' _ (fun _ _ _ _ _ => rfl))]
          simp (maxSteps := 10000000) [-List.getD_eq_getElem?_getD, q1, q2, q3, q4, q5, q6]
        | true =>
          simp (maxSteps := 10000000) [-List.getD_eq_getElem?_getD, -loadA, -storeA, -ixaA, -ixsA, -cut, hlr, -setAt, body105_0, keep105_0, head105a, hlt, hix, w0, w1, w2, w3, hw, hbk, htc, SP.bk, SP.tc, CB.cells, partA, him, ha, hpa, h0, h1, hl2, h2, hik, hst]
          rw [hmk (arr h) (hE' _ (fun _ _ _ _ _ => rfl))]
          simp (maxSteps := 10000000) [-List.getD_eq_getElem?_getD, q1, q2, q3, q4, q5, q6]
      · simp (maxSteps := 10000000) [-List.getD_eq_getElem?_getD, -loadA, -storeA, -ixaA, -ixsA, -cut, hlr, -setAt, body105_0, keep105_0, head105a, hlt, hix, w0, w1, w2, hw, hbk, htc, SP.bk, SP.tc, CB.cells, partA, him, ha, hpa, h0, h1, hl2, hik, hst]
        rw [hmk (arr h) (hE' _ (fun _ _ _ _ _ => rfl))]
        simp (maxSteps := 10000000) [-List.getD_eq_getElem?_getD, q1, q2, q3, q4, q5, q6]
    · simp (maxSteps := 10000000) [-List.getD_eq_getElem?_getD, -loadA, -storeA, -ixaA, -ixsA, -cut, hlr, -setAt, body105_0, keep105_0, head105a, hlt, hix, w0, w1, w2, hw, hbk, htc, SP.bk, SP.tc, CB.cells, partA, him, ha, hpa, h0, hl2, hik, hst]
      rw [hmk (arr h) (hE' _ (fun _ _ _ _ _ => rfl))]
      simp (maxSteps := 10000000) [-List.getD_eq_getElem?_getD, q1, q2, q3, q4, q5, q6]
end Go.Ai

set_option maxRecDepth 100000
namespace Go.Ai
open Go.Cold (Mv Hd Bk stepD daysF)
theorem near_loop (Y : SP) (hY : Y.Ok) (E : List (List AV)) (hE : under6 E) (f h : Nat → Int) (hf : ∀ i, i < 5 → -1 ≤ f i ∧ f i ≤ 100) (d : Int) (k : Nat) (hk : k < 5) :
    run Cv 105 (.loop keep105_0 body105_0) (head105a (5 + E.length) Y.x.beds d k 0) (Y.st (E ++ [arr f, zero5, arr h])) = some (.ex 2, mkE 88 .any [(44, .bool false), (43, I 2), (42, I 2), (41, .sl 1 [I ((k : Int) - 1), I (k + 1)] .full), (22, I k), (21, I Y.x.beds), (9, I k), (8, .box (5 + E.length + 2) 0), (7, .box (5 + E.length + 1) 0), (5, .box (5 + E.length) 0), (4, .box 4 0), (3, .box 1 0), (2, .box 0 0), (1, I d)],
      Y.st (E ++ [arr f, zero5, arr (if nearB Y d f (k - 1) || nearB Y d f (k + 1) then updF h k d else h)])) := by
  have r1 := round105a Y hY E hE f h hf d k hk 0 (by omega) (k - 1) rfl
  have r2 := round105a Y hY E hE f (if nearB Y d f ((k : Int) - 1) then updF h k d else h) hf d k hk 1 (by omega) (k + 1) rfl
  have e0 : ((0 : Nat) : Int) = 0 := rfl
  have e1 : (0 : Int) + 1 = ((1 : Nat) : Int) := rfl
  have e2 : ((1 : Nat) : Int) + 1 = 2 := rfl
  rw [e0, e1] at r1
  rw [e2] at r2
  rw [r1, r2, exit105a Y]
  congr 4
  have : ∀ (b1 b2 : Bool), (if b2 = true then updF (if b1 = true then updF h k d else h) k d else if b1 = true then updF h k d else h) = if (b1 || b2) = true then updF h k d else h := by
    intro b1 b2
    cases b1 <;> cases b2 <;> simp
    funext j
    unfold updF
    split <;> rfl
  rw [this]
def stepC (Y : SP) (d : Int) (f : Nat → Int) (k : Nat) : Bool := !(decide (0 ≤ f k) || BM.get Y.l (k, d)) && (nearB Y d f (k - 1) || nearB Y d f (k + 1))
def head105b (p : Nat) (B d k : Int) : Env := mkE 88 .any [(22, I k), (21, I B), (8, .box (p + 2) 0), (7, .box (p + 1) 0), (5, .box p 0), (4, .box 4 0), (3, .box 1 0), (2, .box 0 0), (1, I d)]
theorem exit105b (p : Nat) (B d : Int) (σ : St) : run Cv 105 (.loop keep105_1 body105_1) (head105b p B d B) σ = some (.ex 0, mkE 88 .any [(23, .bool false), (22, I B), (21, I B), (8, .box (p + 2) 0), (7, .box (p + 1) 0), (5, .box p 0), (4, .box 4 0), (3, .box 1 0), (2, .box 0 0), (1, I d)], σ) := by
  rw [run_loop]
  simp (maxSteps := 10000000) [-List.getD_eq_getElem?_getD, body105_1, keep105_1, head105b]
theorem round105b (Y : SP) (hY : Y.Ok) (E : List (List AV)) (hE : under6 E) (f h : Nat → Int) (hf : ∀ i, i < 5 → -1 ≤ f i ∧ f i ≤ 100) (d : Int) (k : Nat) (hk : (k : Int) < Y.x.beds) :
    run Cv 105 (.loop keep105_1 body105_1) (head105b (5 + E.length) Y.x.beds d k) (Y.st (E ++ [arr f, zero5, arr h])) = run Cv 105 (.loop keep105_1 body105_1) (head105b (5 + E.length) Y.x.beds d (k + 1)) (Y.st (E ++ [arr f, zero5, arr (if stepC Y d f k then updF h k d else h)])) := by
  have hb1 := hY.b1
  have hb5 := hY.b5
  have hk5 : k < 5 := by omega
  have w1 : IntKind.wrap .i64 ((k : Int) + 1) = k + 1 := wrap_small (by omega) (by omega)
  have w2 : IntKind.wrap .i64 ((k : Int) - 1) = k - 1 := wrap_small (by omega) (by omega)
  have hs1 := sp_load (Y := Y) E [arr f, zero5, arr h] (q := 0) (arr f) rfl
  have ha := fun n off => hs1 n off (5 + E.length) rfl
  have hbk : ∀ n off, loadA (Y.st (E ++ [arr f, zero5, arr h])) n (.box 0 off) = partA n Y.bk off := fun n off => sp_base (by omega) n off
  have hik : ∀ q off, ixaA 5 1 (.box q off) (I k) = some (.box q (off + k * 1)) := fun q off => by
    have h1 : (0 : Int) ≤ k := by omega
    have h2 : (k : Int) < ((5 : Nat) : Int) := by omega
    simp only [ixaA, h1, h2, and_self, if_true, ptrAdd, Int.toNat_natCast]
  have hpa : ∀ f, (arr f)[k]? = some (I (f k)) := fun f => arr_get f hk5
  have hl2 := fun σ => lkp_mapv σ Y.l k d
  have hn := near_loop Y hY E hE f h hf d k hk5
  have hn' := fun E' (hE : mask keep105_0 E' = _) => run_at hn hE
  simp only [keep105_0, head105a] at hn'
  have hmk : ∀ F, under6 (E ++ [arr f, zero5, F]) → ∀ e : Env, e.all (under (5 + (E.length + 3)) 0 0 0 6) = true → cut (Y.st (E ++ [arr f, zero5, arr h])) (Y.st (E ++ [arr f, zero5, F])) e = Y.st (E ++ [arr f, zero5, F]) := fun F hF e he => by
    have := sp_cut Y hY (E ++ [arr f, zero5, arr h]) (E ++ [arr f, zero5, F]) [] (by simp) hF e (by simpa using he)
    rwa [List.append_nil] at this
  have hE' : ∀ F, (∀ a b c d n, F.all (under a b c d (n + 1)) = true) → under6 (E ++ [arr f, zero5, F]) := fun F hF a b c d n => by
    rw [List.all_append, hE]
    simp only [List.all_cons, arr_under, hF, List.all_nil, Bool.and_true, Bool.true_and]
    rfl
  have q1 : ∀ k, k < 5 → k < 5 + (E.length + 3) := fun k hk => by omega
  have q5 : ∀ q, q < 3 → 5 + E.length + q < 5 + (E.length + 3) := fun q hq => by omega
  have q6 : 5 + E.length < 5 + (E.length + 3) := by omega
  rw [run_loop]
  generalize MC.loop keep105_1 body105_1 = L
  unfold stepC
  by_cases h0 : 0 ≤ f k
  · simp (maxSteps := 10000000) [-List.getD_eq_getElem?_getD, -loadA, -storeA, -ixaA, -ixsA, -cut, body105_1, keep105_1, head105b, hk, hik, hpa, ha, partA, h0, w1]
    rw [hmk _ (hE' _ (fun _ _ _ _ _ => rfl))]
    simp (maxSteps := 10000000) [-List.getD_eq_getElem?_getD, q1, q5, q6]
  · cases h1 : BM.get Y.l (k, d) with
    | true =>
      simp (maxSteps := 10000000) [-List.getD_eq_getElem?_getD, -loadA, -storeA, -ixaA, -ixsA, -cut, body105_1, keep105_1, head105b, hk, hik, hpa, ha, hbk, SP.bk, CB.cells, partA, h0, hl2, h1, w1]
      rw [hmk _ (hE' _ (fun _ _ _ _ _ => rfl))]
      simp (maxSteps := 10000000) [-List.getD_eq_getElem?_getD, q1, q5, q6]
    | false =>
      simp (maxSteps := 10000000) [-List.getD_eq_getElem?_getD, -loadA, -storeA, -ixaA, -ixsA, -cut, body105_1, keep105_1, keep105_0, head105b, hk, hik, hpa, ha, hbk, SP.bk, CB.cells, partA, h0, hl2, h1, w1, w2, fillE, depth, AV.isAgg, hn']
      rw [hmk _ (hE' _ (fun _ _ _ _ _ => rfl))]
      simp (maxSteps := 10000000) [-List.getD_eq_getElem?_getD, q1, q5, q6]
end Go.Ai

set_option maxRecDepth 100000
namespace Go.Ai
open Go.Cold (Mv Hd Bk stepD daysF)
theorem callA_imp {C : Cfg} {R : Rec} {d : Bool} {f : FuncId} {a b args : List AV} {σ : St} (h : C.imp f = true) : callA C R d (.fn (.func f) a b) args σ = cutR σ (bodyA C R f (a ++ args ++ b) σ) := by simp [callA, h]
theorem body_run {C : Cfg} {f : FuncId} {args : List AV} {fn : MF} {σ : St} (h : compF C f = some fn) (hl : args.length ≤ fn.ntmps) : bodyA C (run C) f args σ = endA fn.results (run C f fn.body (mkE fn.ntmps .undef (argL 0 args [])) σ) := by
  unfold bodyA; rw [h, Option.bind_some, startE hl]
def dayF (Y : SP) (d : Int) (f : Nat → Int) : Nat → Int := fun i => if (i : Int) < Y.x.beds ∧ stepC Y d f i = true then d else f i
def daysB (Y : SP) : Nat → Int → (Nat → Int) → Nat → Int
  | 0, _, f => f
  | n + 1, d, f => daysB Y n (d + 1) (dayF Y d f)
theorem loop105b (Y : SP) (hY : Y.Ok) (E : List (List AV)) (hE : under6 E) (f : Nat → Int) (hf : ∀ i, i < 5 → -1 ≤ f i ∧ f i ≤ 100) (d : Int) : ∀ (n k : Nat) (h : Nat → Int), (k : Int) + n = Y.x.beds →
    run Cv 105 (.loop keep105_1 body105_1) (head105b (5 + E.length) Y.x.beds d k) (Y.st (E ++ [arr f, zero5, arr h])) = some (.ex 0, mkE 88 .any [(23, .bool false), (22, I Y.x.beds), (21, I Y.x.beds), (8, .box (5 + E.length + 2) 0), (7, .box (5 + E.length + 1) 0), (5, .box (5 + E.length) 0), (4, .box 4 0), (3, .box 1 0), (2, .box 0 0), (1, I d)],
      Y.st (E ++ [arr f, zero5, arr fun i => if k ≤ i ∧ (i : Int) < Y.x.beds ∧ stepC Y d f i = true then d else h i]))
  | 0, k, h, hk => by
    have hk' : (k : Int) = Y.x.beds := by omega
    rw [hk', exit105b]
    have : (fun i => if k ≤ i ∧ (i : Int) < Y.x.beds ∧ stepC Y d f i = true then d else h i) = h := by
      funext i
      rw [if_neg (by omega)]
    rw [this]
  | n + 1, k, h, hk => by
    rw [round105b Y hY E hE f h hf d k (by omega)]
    have e1 : (k : Int) + 1 = ((k + 1 : Nat) : Int) := by omega
    rw [e1, loop105b Y hY E hE f hf d n (k + 1) _ (by omega)]
    have : (fun i => if k + 1 ≤ i ∧ (i : Int) < Y.x.beds ∧ stepC Y d f i = true then d else (if stepC Y d f k = true then updF h k d else h) i) = fun i => if k ≤ i ∧ (i : Int) < Y.x.beds ∧ stepC Y d f i = true then d else h i := by
      funext i
      by_cases hi : i = k
      · subst hi
        rw [if_neg (by omega)]
        cases hs : stepC Y d f i with
        | true => simp [updF]; omega
        | false => simp
      · have h1 : (if stepC Y d f k = true then updF h k d else h) i = h i := by
          split
          · simp [updF, hi]
          · rfl
        rw [h1]
        by_cases hle : k ≤ i
        · have : k + 1 ≤ i := by omega
          simp only [hle, this, true_and]
        · have : ¬ k + 1 ≤ i := by omega
          simp only [hle, this, false_and, if_false]
    rw [this]
theorem sp_alloc (Y : SP) (E : List (List AV)) {C : Cfg} {R : Rec} {d : Bool} {e : Env} (z : List AV) : operA C R d e (Y.st E) (.alloc z) = some (.box (5 + E.length) 0, Y.st (E ++ [z])) := by
  rw [op_alloc, sp_boxes]
  simp only [SP.st, List.append_assoc]
theorem sp_box (Y : SP) (E : List (List AV)) (x : AV) (h : x.cells.all AV.isCell = true) : boxA (Y.st E) x = some (.box (5 + E.length) 0, Y.st (E ++ [x.cells])) := by
  simp only [boxA, h, if_true, sp_boxes]
  simp only [SP.st, List.append_assoc]
theorem next_spec (Y : SP) (hY : Y.Ok) : ∀ (n : Nat) (d : Int) (f : Nat → Int) (E : List (List AV)), under6 E → (∀ i, i < 5 → -1 ≤ f i ∧ f i ≤ 100) → 0 ≤ d → (Y.x.days - d).toNat = n → callA Cv (run Cv) false nextV [.agg (arr f), I d] (Y.st E) = some (.agg (arr (daysB Y n d f)), Y.st E)
  | n, d, f, E, hE, hf, h0, hn => by
    have hd6 := hY.d6
    have hbk : ∀ E, ∀ n off, loadA (Y.st E) n (.box 0 off) = partA n Y.bk off := fun E n off => sp_base (by omega) n off
    have hb4 : ∀ E, loadA (Y.st E) none (.box 4 0) = some nextV := fun E => sp_base (by omega) none 0
    have a1 := sp_box Y E (.agg (arr f)) rfl
    have a2 := fun R e => sp_alloc Y (E ++ [arr f]) (C := Cv) (R := R) (d := false) (e := e) zero5
    have l1 := sp_load (Y := Y) E [arr f, zero5] (q := 0) (arr f) rfl (some 5) 0 (5 + E.length) rfl
    have s1 := sp_store (Y := Y) E [arr f, zero5] (q := 1) zero5 rfl 5 0 (5 + E.length + 1) rfl (.agg (arr f)) rfl (by decide) rfl
    have l2 := sp_load (Y := Y) E [arr f, arr f] (q := 1) (arr f) rfl (some 5) 0 (5 + E.length + 1) rfl
    have hset : [arr f, zero5].set 1 (setAt zero5 0 (AV.agg (arr f)).cells) = [arr f, arr f] := rfl
    rw [hset] at s1
    have hp5 : ∀ g, partA (some 5) (arr g) 0 = some (.agg (arr g)) := fun g => rfl
    rw [hp5] at l1 l2
    simp only [List.append_assoc, List.cons_append, List.nil_append, List.length_append, List.length_cons, List.length_nil, AV.cells, zero5, Nat.zero_add] at a1 a2 l1 s1 l2
    have e1 : 5 + (E.length + 1) = 5 + E.length + 1 := by omega
    rw [nextV, callA_imp rfl, body_run comp105 (Nat.le_of_ble_eq_true rfl)]
    by_cases hge : Y.x.days ≤ d
    · obtain rfl : n = 0 := by omega
      have hc := sp_cut Y hY E E [arr f, arr f] rfl hE [.agg (arr f)] (by simp [under, arr])
      simp only [daysB]
      simp (maxSteps := 10000000) [-List.getD_eq_getElem?_getD, -loadA, -storeA, -boxA, -op_alloc, -cut, code105, a1, a2, hbk, SP.bk, CB.cells, partA, hge, l1, s1, l2, e1, cutR, hc]
    · obtain ⟨m, rfl⟩ : ∃ m, n = m + 1 := ⟨n - 1, by omega⟩
      have w1 : IntKind.wrap .i64 (d + 1) = d + 1 := wrap_small (by omega) (by omega)
      have a3 := fun R e => sp_alloc Y (E ++ [arr f, zero5]) (C := Cv) (R := R) (d := false) (e := e) zero5
      have s3 := sp_store (Y := Y) E [arr f, zero5, zero5] (q := 2) zero5 rfl 5 0 (5 + E.length + 2) rfl (.agg (arr f)) rfl (by decide) rfl
      have l1' := sp_load (Y := Y) E [arr f, zero5, zero5] (q := 0) (arr f) rfl (some 5) 0 (5 + E.length) rfl
      have l1'' := sp_load (Y := Y) E [arr f, zero5] (q := 0) (arr f) rfl (some 5) 0 (5 + E.length) rfl
      have hset3 : [arr f, zero5, zero5].set 2 (setAt zero5 0 (AV.agg (arr f)).cells) = [arr f, zero5, arr f] := rfl
      rw [hset3] at s3
      have hday : (fun i : Nat => if 0 ≤ i ∧ (i : Int) < Y.x.beds ∧ stepC Y d f i = true then d else f i) = dayF Y d f := by
        funext i
        simp only [Nat.zero_le, true_and]
        rfl
      have hb1 := hY.b1
      have hlp := loop105b Y hY E hE f hf d Y.x.beds.toNat 0 f (by omega)
      rw [hday] at hlp
      have e0 : ((0 : Nat) : Int) = 0 := rfl
      have hlp' := fun E' (hE : mask keep105_1 E' = _) => run_at hlp hE
      simp only [keep105_1, head105b, e0] at hlp'
      have l4 := sp_load (Y := Y) E [arr f, zero5, arr (dayF Y d f)] (q := 2) (arr (dayF Y d f)) rfl (some 5) 0 (5 + E.length + 2) rfl
      have hE3 : under6 (E ++ [arr f, zero5, arr (dayF Y d f)]) := fun a b c d n => by
        rw [List.all_append, hE]
        rfl
      have hf' : ∀ i, i < 5 → -1 ≤ dayF Y d f i ∧ dayF Y d f i ≤ 100 := fun i hi => by
        have := hf i hi
        unfold dayF
        split <;> omega
      have hrec := next_spec Y hY m (d + 1) (dayF Y d f) (E ++ [arr f, zero5, arr (dayF Y d f)]) hE3 hf' (by omega) (by omega)
      have s5 := sp_store (Y := Y) E [arr f, zero5, arr (dayF Y d f)] (q := 1) zero5 rfl 5 0 (5 + E.length + 1) rfl (.agg (arr (daysB Y m (d + 1) (dayF Y d f)))) rfl (by decide) rfl
      have hset5 : [arr f, zero5, arr (dayF Y d f)].set 1 (setAt zero5 0 (AV.agg (arr (daysB Y m (d + 1) (dayF Y d f)))).cells) = [arr f, arr (daysB Y m (d + 1) (dayF Y d f)), arr (dayF Y d f)] := rfl
      rw [hset5] at s5
      have l6 := sp_load (Y := Y) E [arr f, arr (daysB Y m (d + 1) (dayF Y d f)), arr (dayF Y d f)] (q := 1) (arr (daysB Y m (d + 1) (dayF Y d f))) rfl (some 5) 0 (5 + E.length + 1) rfl
      rw [hp5] at l1' l1'' l4 l6
      have hc := sp_cut Y hY E E [arr f, arr (daysB Y m (d + 1) (dayF Y d f)), arr (dayF Y d f)] rfl hE [.agg (arr (daysB Y m (d + 1) (dayF Y d f)))] (by simp [under, arr])
      have e2 : 5 + (E.length + 1 + 1) = 5 + E.length + 2 := by omega
      simp only [daysB]
      simp only [List.append_assoc, List.cons_append, List.nil_append, List.length_append, List.length_cons, List.length_nil, AV.cells, zero5, Nat.zero_add] at a3 l1' l1'' s3 hlp' l4 hrec s5 l6
      simp only [nextV] at hb4 hrec
      simp (maxSteps := 10000000) [-List.getD_eq_getElem?_getD, -loadA, -storeA, -boxA, -op_alloc, -cut, code105, a1, a2, a3, hbk, SP.bk, CB.cells, partA, hge, l1, l1', l1'', s1, s3, l2, e1, e2, keep105_1, hlp', hb4, l4, w1, hrec, s5, l6, cutR, hc]
end Go.Ai

set_option maxRecDepth 100000
namespace Go.Ai
open Go.Cold (Mv Hd Bk Tr stepD daysF spreadF lineF caughtT spread_line startL)
def bkC (x : CB) (l : BM) (tr : AV) : List AV := x.cells ++ [.mapv (ksM l) (vsM l), tr]
def trC (t : Tr) (c : Nat → Int) : List AV := [I t.bed, I t.day, I t.out, I t.goes] ++ arr c
def AwOk (x : CB) (l : BM) (aw : Nat → Int → Bool) : Prop := ∀ (b : Nat) (d : Int), (b : Int) < x.beds → 0 ≤ d → d < x.days → BM.get l (b, d) = aw b d
theorem near_is (Y : SP) (aw : Nat → Int → Bool) (ha : AwOk Y.x Y.l aw) (d : Int) (hd : 0 ≤ d) (hd' : d < Y.x.days) (f : Nat → Int) (m : Nat) : nearB Y d f m = true ↔ (m : Int) < Y.x.beds ∧ 0 ≤ f m ∧ f m + Y.g = d ∧ aw m d = false := by
  unfold nearB lie
  simp only [Bool.and_eq_true, decide_eq_true_eq, Bool.not_eq_true', Int.toNat_natCast]
  constructor
  · rintro ⟨⟨_, h1⟩, h2, h3, h4⟩
    have h5 : (m : Int) < Y.x.beds := by omega
    exact ⟨h5, h2, h3, by rw [← ha m d h5 hd hd']; exact h4⟩
  · rintro ⟨h1, h2, h3, h4⟩
    exact ⟨⟨by omega, by omega⟩, h2, h3, by rw [ha m d h1 hd hd']; exact h4⟩
theorem step_is (Y : SP) (aw : Nat → Int → Bool) (ha : AwOk Y.x Y.l aw) (d : Int) (hd : 0 ≤ d) (hd' : d < Y.x.days) (f g : Nat → Int) {B : Nat} (hB : (B : Int) = Y.x.beds) (hfg : ∀ i, i < B → f i = g i) (i : Nat) (hi : i < B) : dayF Y d f i = stepD B aw Y.g d g i := by
  have hi' : (i : Int) < Y.x.beds := by omega
  have key : stepC Y d f i = true ↔ g i < 0 ∧ aw i d = false ∧ ((1 ≤ i ∧ 0 ≤ g (i - 1) ∧ g (i - 1) + Y.g = d ∧ aw (i - 1) d = false) ∨ (i + 1 < B ∧ 0 ≤ g (i + 1) ∧ g (i + 1) + Y.g = d ∧ aw (i + 1) d = false)) := by
    unfold stepC
    have h1 : nearB Y d f ((i : Int) - 1) = true ↔ 1 ≤ i ∧ 0 ≤ g (i - 1) ∧ g (i - 1) + Y.g = d ∧ aw (i - 1) d = false := by
      by_cases h0 : 1 ≤ i
      · have e : (i : Int) - 1 = ((i - 1 : Nat) : Int) := by omega
        rw [e, near_is Y aw ha d hd hd', hfg (i - 1) (by omega)]
        constructor
        · rintro ⟨_, h⟩; exact ⟨h0, h⟩
        · rintro ⟨_, h⟩; exact ⟨by omega, h⟩
      · have : nearB Y d f ((i : Int) - 1) = false := by
          unfold nearB lie
          have h9 : decide ((0 : Int) ≤ (i : Int) - 1) = false := decide_eq_false (by omega)
          simp only [h9, Bool.false_and]
        rw [this]
        simp [h0]
    have h2 : nearB Y d f ((i : Int) + 1) = true ↔ i + 1 < B ∧ 0 ≤ g (i + 1) ∧ g (i + 1) + Y.g = d ∧ aw (i + 1) d = false := by
      have e : (i : Int) + 1 = ((i + 1 : Nat) : Int) := by omega
      rw [e, near_is Y aw ha d hd hd']
      constructor
      · rintro ⟨h3, h⟩
        have h4 : i + 1 < B := by omega
        rw [hfg _ h4] at h
        exact ⟨h4, h⟩
      · rintro ⟨h3, h⟩
        rw [← hfg _ h3] at h
        exact ⟨by omega, h⟩
    rw [Bool.and_eq_true, Bool.or_eq_true, h1, h2, ha i d hi' hd hd', hfg i hi]
    simp only [Bool.not_eq_true', Bool.or_eq_false_iff, decide_eq_false_iff_not, Int.not_le, and_assoc]
  unfold dayF stepD
  simp only [hi', true_and, key, hfg i hi]
theorem days_is (Y : SP) (aw : Nat → Int → Bool) (ha : AwOk Y.x Y.l aw) {B : Nat} (hB : (B : Int) = Y.x.beds) : ∀ (n : Nat) (d : Int) (f g : Nat → Int), 0 ≤ d → d + n ≤ Y.x.days → (∀ i, i < B → f i = g i) → (∀ i, i < B → daysB Y n d f i = daysF B aw Y.g n d g i) ∧ ∀ i, B ≤ i → daysB Y n d f i = f i
  | 0, d, f, g, _, _, h => ⟨h, fun _ _ => rfl⟩
  | n + 1, d, f, g, h0, h1, h => by
    obtain ⟨h2, h3⟩ := days_is Y aw ha hB n (d + 1) (dayF Y d f) (stepD B aw Y.g d g) (by omega) (by omega) (fun i hi => step_is Y aw ha d h0 (by omega) f g hB h i hi)
    refine ⟨h2, fun i hi => ?_⟩
    have : ¬ (i : Int) < Y.x.beds := by omega
    rw [daysB, h3 i hi]
    simp [dayF, this]
def caughtA (x : CB) (aw : Nat → Int → Bool) (t : Tr) : Nat → Int := fun i => if (i : Int) < x.beds then caughtT x.beds.toNat x.days aw t i else -1
theorem spread_call (x : CB) (hx : x.Ok) (hb1 : 1 ≤ x.beds) (hb5 : x.beds ≤ 5) (hd6 : x.days ≤ 6) (l : BM) (aw : Nat → Int → Bool) (ha : AwOk x l aw) (tr : AV) (ht : ∃ es, IsRow 9 es tr) (t : Tr) (hb : (t.bed : Int) < x.beds) (h0 : 0 ≤ t.day) (hD : t.day < x.days) (hg1 : 1 ≤ t.goes) (hg3 : t.goes ≤ 3) (c : Nat → Int) :
    call Cv 89 [.agg (bkC x l tr), .agg (trC t c)] = some (.agg (arr (caughtA x aw t))) := by
  obtain ⟨Y, hYd⟩ : ∃ Y : SP, Y = { x := x, l := l, tr := tr, bed := t.bed, day := t.day, out := t.out, g := t.goes, c := c, s := updF (fun _ => -1) t.bed t.day } := ⟨_, rfl⟩
  have hY : Y.Ok := by subst hYd; exact ⟨hx, ht, hb1, hb5, hd6, hg1, hg3⟩
  have hs : ∀ i, i < 5 → -1 ≤ Y.s i ∧ Y.s i ≤ 100 := fun i _ => by
    subst hYd
    simp only [updF]
    split <;> omega
  have hrec := next_spec Y hY (x.days - (t.day + 1)).toNat (t.day + 1) Y.s [] (fun _ _ _ _ _ => rfl) hs (by omega) (by subst hYd; rfl)
  have hB : ((x.beds.toNat : Nat) : Int) = x.beds := by omega
  have hdays := days_is Y aw (by subst hYd; exact ha) (B := x.beds.toNat) (by subst hYd; exact hB) (x.days - (t.day + 1)).toNat (t.day + 1) Y.s (startL t.bed t.day) (by omega) (by subst hYd; show _ ≤ x.days; omega) (fun i _ => by subst hYd; rfl)
  have hres : arr (daysB Y (x.days - (t.day + 1)).toNat (t.day + 1) Y.s) = arr (caughtA x aw t) := by
    refine arr_ext fun i hi => ?_
    unfold caughtA
    by_cases hib : (i : Int) < x.beds
    · rw [if_pos hib, hdays.1 i (by omega)]
      have := spread_line (B := x.beds.toNat) (D := x.days) (aw := aw) (g := t.goes) (b := t.bed) (day := t.day) (by omega) h0 hD (by omega) (i := i) (by omega)
      unfold caughtT
      rw [← this]
      unfold spreadF
      have e : x.days - t.day - 1 = x.days - (t.day + 1) := by omega
      subst hYd
      rw [e]
    · rw [if_neg hib, hdays.2 i (by omega)]
      subst hYd
      simp only [updF]
      rw [if_neg (by omega)]
  rw [hres] at hrec
  obtain ⟨es, ht⟩ := ht
  have p1 := hx.mrow.cell
  have p2 := hx.hrow.cell
  have p3 := ht.cell
  have hb5' : t.bed < 5 := by omega
  have hik : ∀ q off, ixaA 5 1 (.box q off) (I t.bed) = some (.box q (off + t.bed * 1)) := fun q off => by
    have h1 : (0 : Int) ≤ t.bed := by omega
    have h2 : (t.bed : Int) < ((5 : Nat) : Int) := by omega
    simp only [ixaA, h1, h2, and_self, if_true, ptrAdd, Int.toNat_natCast]
  have hb4 : t.bed ≤ 4 := by omega
  have h1 := arr_set (fun _ => -1) hb5' t.day
  have h1 : List.take t.bed [I (-1), I (-1), I (-1), I (-1), I (-1)] ++ I t.day :: List.drop t.bed [I (-1), I (-1), I (-1), I (-1)] = [I (Y.s 0), I (Y.s 1), I (Y.s 2), I (Y.s 3), I (Y.s 4)] := by
    subst hYd
    simpa [arr, setAt] using h1
  have w1 : IntKind.wrap .i64 (t.day + 1) = t.day + 1 := wrap_small (by omega) (by omega)
  have e0 : ∀ σ, loadA σ (some 5) (.rp [I (-1), I (-1), I (-1), I (-1), I (-1)] 0) = some (.agg [I (-1), I (-1), I (-1), I (-1), I (-1)]) := fun _ => rfl
  have hmv : ∀ ks vs, AV.isCell (.mapv ks vs) = true := fun _ _ => rfl
  simp only [SP.st, SP.base, SP.bk, SP.tc, CB.cells, arr, zero5, nextV, List.append_nil, List.cons_append, List.nil_append] at hrec
  have q1 : Y.x = x := by subst hYd; rfl
  have q2 : Y.l = l := by subst hYd; rfl
  have q3 : Y.tr = tr := by subst hYd; rfl
  have q4 : Y.bed = t.bed ∧ Y.day = t.day ∧ Y.out = t.out ∧ Y.g = t.goes ∧ Y.c = c := by subst hYd; exact ⟨rfl, rfl, rfl, rfl, rfl⟩
  obtain ⟨q4, q5, q6, q7, q8⟩ := q4
  rw [q1, q2, q3, q4, q5, q6, q7, q8] at hrec
  clear hres hdays hs
  rw [call_run comp89 (Nat.le_of_ble_eq_true rfl)]
  simp (maxSteps := 10000000) [-List.getD_eq_getElem?_getD, -ixaA, code89, bkC, trC, CB.cells, arr, zero5, p1, p2, p3, hmv, e0, hik, hb4, h1, w1, hrec]
end Go.Ai
