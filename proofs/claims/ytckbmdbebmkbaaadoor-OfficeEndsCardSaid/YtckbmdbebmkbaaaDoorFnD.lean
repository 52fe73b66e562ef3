/- This text shows what is sung by a use. No conditions of its own. -/
import Derived.Test.YtckbmdbebmkbaaaDoorFnC
set_option linter.unusedSimpArgs false
set_option linter.unusedVariables false
set_option maxRecDepth 100000
namespace Go.Ai
open Go.Office (Ft Rl Us Nt Bk Mt Dy Sg addB clrB)
abbrev SM := List ((Int × Int) × Sg)
def SM.get : SM → Int × Int → Option Sg
  | [], _ => none
  | e :: l, k => if e.1 = k then some e.2 else SM.get l k
def SM.put : SM → Int × Int → Sg → SM
  | [], k, v => [(k, v)]
  | e :: l, k, v => if e.1 = k then (e.1, v) :: l else e :: SM.put l k v
theorem sm_get_put (k k' : Int × Int) (v : Sg) : ∀ l : SM, SM.get (SM.put l k v) k' = if k = k' then some v else SM.get l k'
  | [] => by simp [SM.put, SM.get]
  | e :: l => by
    have ih := sm_get_put k k' v l
    simp only [SM.put]
    by_cases h : e.1 = k
    · simp only [h, if_true, SM.get]
      by_cases h2 : k = k' <;> simp [h2]
    · simp only [h, if_false, SM.get, ih]
      by_cases h2 : e.1 = k'
      · have : ¬ k = k' := fun h3 => h (h2.trans h3.symm)
        simp [h2, this]
      · simp [h2]
def keyA (k : Int × Int) : AV := .agg [I k.1, I k.2]
def sgA (s : Sg) : AV := .agg (sgC s.chief s.set s.moved s.psalm)
def ksM (l : SM) : List AV := l.map fun e => keyA e.1
def vsM (l : SM) : List AV := l.map fun e => sgA e.2
theorem key_eq (k k' : Int × Int) : keyEq (some 2) (keyA k) (keyA k') = some (decide (k = k')) := by
  obtain ⟨a, b⟩ := k
  obtain ⟨c, d⟩ := k'
  simp only [keyEq, keyA, List.length_cons, List.length_nil, and_self, if_true, eqCells, Option.map_some, Option.some.injEq, Prod.mk.injEq, Bool.decide_and, Bool.and_true]
  rfl
theorem find_spec (k : Int × Int) : ∀ (l : SM) (i : Nat), (SM.get l k = none ∧ findA (some 2) (keyA k) (ksM l) i = some none ∧ ∀ w, ksM l ++ [keyA k] = ksM (SM.put l k w) ∧ vsM l ++ [sgA w] = vsM (SM.put l k w)) ∨ ∃ (j : Nat) (v : Sg), SM.get l k = some v ∧ findA (some 2) (keyA k) (ksM l) i = some (some (i + j)) ∧ (vsM l)[j]? = some (sgA v) ∧ ∀ w, (vsM l).set j (sgA w) = vsM (SM.put l k w) ∧ ksM (SM.put l k w) = ksM l
  | [], i => .inl ⟨rfl, rfl, fun _ => ⟨rfl, rfl⟩⟩
  | e :: l, i => by
    simp only [ksM, List.map_cons, findA, key_eq, Option.bind_some, SM.get]
    by_cases h : e.1 = k
    · have h' : k = e.1 := h.symm
      refine .inr ⟨0, e.2, by simp [h], by simp [h'], by simp [vsM], fun w => by simp [vsM, SM.put, h]⟩
    · have h' : ¬ k = e.1 := fun he => h he.symm
      rcases find_spec k l (i + 1) with ⟨g1, g2, g3⟩ | ⟨j, v, g1, g2, g3, g4⟩
      · refine .inl ⟨by simp [h, g1], by simp only [ksM] at g2; simp [h', g2], fun w => ?_⟩
        obtain ⟨q1, q2⟩ := g3 w
        simp only [vsM, ksM, SM.put, h, if_false, List.map_cons, List.cons_append] at q1 q2 ⊢
        exact ⟨by rw [q1], by rw [q2]⟩
      · refine .inr ⟨j + 1, v, by simp [h, g1], ?_, by simpa [vsM] using g3, fun w => ?_⟩
        · simp only [ksM] at g2
          simp only [h', decide_false, Bool.false_eq_true, if_false, g2]
          congr 2; omega
        · obtain ⟨q1, q2⟩ := g4 w
          simp only [vsM, ksM, SM.put, h, if_false, List.map_cons, List.set_cons_succ] at q1 q2 ⊢
          exact ⟨by rw [q1], by rw [q2]⟩
theorem key_ok (k : Int × Int) : keyOk (some 2) (keyA k) = true := rfl
theorem put_map (σ : St) (l : SM) (k : Int × Int) (w : Sg) (h1 : σ.maps = [(ksM l, vsM l)]) (h2 : σ.mro = 0) : mputA σ (some 2) (.mp 0) (keyA k) (sgA w) = some { σ with maps := [(ksM (SM.put l k w), vsM (SM.put l k w))] } := by
  rcases find_spec k l 0 with ⟨_, g2, g3⟩ | ⟨j, v, _, g2, g3, g4⟩
  · simp [mputA, h1, h2, key_ok, g2, (g3 w).1, (g3 w).2]
  · simp only [Nat.zero_add] at g2
    simp [mputA, h1, h2, key_ok, g2, (g4 w).1, (g4 w).2]
theorem lkp_map (σ : St) (l : SM) (k : Int × Int) (m z : AV) (hm : entriesA σ m = some (ksM l, vsM l)) (ok : Bool) : lkpA σ (some 2) z m (keyA k) ok = some (if ok then .tup [((SM.get l k).map sgA).getD z, .bool (SM.get l k).isSome] else ((SM.get l k).map sgA).getD z) := by
  rcases find_spec k l 0 with ⟨g1, g2, _⟩ | ⟨j, v, g1, g2, g3, _⟩
  · cases ok <;> simp [lkpA, hm, key_ok, g2, g1]
  · simp only [Nat.zero_add] at g2
    cases ok <;> simp [lkpA, hm, key_ok, g2, g1, g3]
theorem ks_under (a b c d n : Nat) : ∀ l : SM, (ksM l).all (under a b c d (n + 2)) = true
  | [] => rfl
  | e :: l => by
    have := ks_under a b c d n l
    simp only [ksM] at this ⊢
    simp only [List.map_cons, List.all_cons, this, Bool.and_true]
    rfl
theorem vs_under (a b c d n : Nat) : ∀ l : SM, (vsM l).all (under a b c d (n + 2)) = true
  | [] => rfl
  | e :: l => by
    have := vs_under a b c d n l
    simp only [vsM] at this ⊢
    simp only [List.map_cons, List.all_cons, this, Bool.and_true]
    rfl
theorem ks_pur (σ : St) (n : Nat) : ∀ l : SM, purAll (pur σ (n + 2)) (ksM l) = some (ksM l, false)
  | [] => rfl
  | e :: l => by
    have := ks_pur σ n l
    simp only [ksM, keyA] at this ⊢
    simp [purAll, pur, this]
theorem vs_pur (σ : St) (n : Nat) : ∀ l : SM, purAll (pur σ (n + 2)) (vsM l) = some (vsM l, false)
  | [] => rfl
  | e :: l => by
    have := vs_pur σ n l
    simp only [vsM, sgA, sgC] at this ⊢
    simp [purAll, pur, this]
def arr4 (f : Nat → Int) : List AV := [I (f 0), I (f 1), I (f 2), I (f 3)]
def metA (m : Mt) : AV := .agg (mtC m.day m.y m.t)
structure TX where
  x : OB
  nv : AV
  B : List (List AV)
  L : Lp
  ch : List (Nat × Nat)
  u : Nat
  q : Nat → Int
  R0 : AV
structure TX.Ok (X : TX) : Prop where
  x : X.x.Ok
  n4 : X.x.fs.length ≤ 4
  d6 : X.x.days ≤ 6
  d1 : 1 ≤ X.x.days
  f0 : 0 ≤ X.x.first ∧ X.x.first ≤ 29
  does : ∀ y t, 0 ≤ X.x.bk.does X.u y t ∧ X.x.bk.does X.u y t ≤ 2
  u : X.u < 2
  nvc : X.nv.isCell = true
  nvp : ∃ r es, IsRow 3 es r ∧ ∀ σ n, pur σ (n + 1) X.nv = some (r, false)
  nvu : ∀ a nc c d n, X.ch.length ≤ nc → under a nc c d (n + 1) X.nv = true
  Bu : ∀ a nc, X.B.length ≤ a → X.ch.length ≤ nc → X.B.all (fun cs => cs.all (under a nc 1 1 6)) = true
  Lu : ∀ a nc, X.B.length ≤ a → X.ch.length ≤ nc → X.L.env.all (under a nc 1 1 6) = true
  R0c : X.R0.isCell = true
  R0u : ∀ a nc c d n, X.ch.length ≤ nc → under a nc c d (n + 1) X.R0 = true
def TX.mv (X : TX) (ms : List Mt) : AV := growV X.ch.length 3 (ms.map metA)
def TX.tc (X : TX) (ms : List Mt) : List AV := arr4 X.q ++ (if X.u = 0 then [.mp 0, X.mv ms, .nils] else [.mp 0, X.R0, X.mv ms])
def TX.bc (X : TX) : List AV := bkC X.x X.nv .nils
def TX.st (X : TX) (ms : List Mt) (sm : SM) (now : Nat → Int) (F : List (List AV)) : St := { boxes := X.B ++ ([X.tc ms, X.bc, arr4 now] ++ F), chains := X.ch ++ growC 3 (ms.map metA), maps := [(ksM sm, vsM sm)], loops := [X.L] }
theorem box_ld {σ : St} {B G : List (List AV)} (hσ : σ.boxes = B ++ G) {q : Nat} {cs : List AV} (hG : G[q]? = some cs) (n : Option Nat) (off : Nat) : loadA σ n (.box (B.length + q) off) = partA n cs off := by
  have : σ.boxes[B.length + q]? = some cs := by
    rw [hσ, List.getElem?_append_right (by omega), show B.length + q - B.length = q by omega, hG]
  simp only [loadA, this, Option.bind_some]
theorem box_st {σ : St} {B G : List (List AV)} (hσ : σ.boxes = B ++ G) (hro : σ.ro = 0) {q : Nat} {cs : List AV} (hG : G[q]? = some cs) (n off : Nat) (v : AV) (h1 : v.cells.length = n) (h2 : off + n ≤ cs.length) (h3 : v.cells.all AV.isCell = true) : storeA σ n (.box (B.length + q) off) v = some { σ with boxes := B ++ G.set q (setAt cs off v.cells) } := by
  have hb : σ.boxes[B.length + q]? = some cs := by
    rw [hσ, List.getElem?_append_right (by omega), show B.length + q - B.length = q by omega, hG]
  simp only [storeA, hb, Option.bind_some, hro, Nat.zero_le, h1, h2, h3, and_self, if_true]
  congr 2
  rw [hσ, List.set_append_right _ _ (by omega), show B.length + q - B.length = q by omega]
theorem mv_under (X : TX) (ms : List Mt) (a b c d n : Nat) : under a b c d (n + 1) (X.mv ms) = decide (ms = [] ∨ X.ch.length < b) := by
  unfold TX.mv
  rw [growV_under]
  simp
theorem tc_under (X : TX) (hX : X.Ok) (ms : List Mt) (a nc : Nat) (h1 : X.ch.length ≤ nc) : (X.tc ms).all (under a nc 1 1 6) = decide (ms = [] ∨ X.ch.length < nc) := by
  have h2 := mv_under X ms a nc 1 1 5
  have h3 := hX.R0u a nc 1 1 5 h1
  unfold TX.tc arr4
  split <;> simp [under, h2, h3]
theorem bc_under (X : TX) (hX : X.Ok) (a nc : Nat) (h1 : X.ch.length ≤ nc) : X.bc.all (under a nc 1 1 6) = true := by
  have p1 := hX.x.fr.under a nc 1 1 5
  have p2 := hX.x.q0.under a nc 1 1 5
  have p3 := hX.x.q1.under a nc 1 1 5
  have p4 := hX.nvu a nc 1 1 5 h1
  simp [TX.bc, bkC, under, p1, p2, p3, p4]
theorem arr4_under (f : Nat → Int) (a b c d n : Nat) : (arr4 f).all (under a b c d (n + 1)) = true := rfl
theorem cut_keep (σ σ' : St) (e : Env) (h2 : dryAt σ'.chains.length σ σ' e = true) (h1 : σ'.chains.length = σ.chains.length ∨ dryAt σ.chains.length σ σ' e = false) : cut σ σ' e = cutAt σ'.chains.length σ σ' := by
  unfold cut
  rcases h1 with h | h
  · rw [← h, h2]; rfl
  · rw [h, h2]; rfl
theorem t_cut (X : TX) (hX : X.Ok) (ms ms' : List Mt) (hm : ms' = ms ∨ ms' ≠ []) (sm sm' : SM) (now now' : Nat → Int) (F0 F G : List (List AV)) (hl : F0.length = F.length) (hF : ∀ a nc, F.all (fun cs => cs.all (under a nc 1 1 6)) = true) (e : Env) (he : ∀ nc, X.ch.length ≤ nc → e.all (under (X.B.length + (3 + F.length)) nc 1 1 6) = true) :
    cut (X.st ms sm now F0) (X.st ms' sm' now' (F ++ G)) e = X.st ms' sm' now' F := by
  have hlen0 : (X.st ms sm now F0).boxes.length = X.B.length + (3 + F.length) := by simp [TX.st, hl]; omega
  have ht : (X.B ++ ([X.tc ms', X.bc, arr4 now'] ++ (F ++ G))).take (X.B.length + (3 + F.length)) = X.B ++ ([X.tc ms', X.bc, arr4 now'] ++ F) := by
    rw [show X.B ++ ([X.tc ms', X.bc, arr4 now'] ++ (F ++ G)) = (X.B ++ ([X.tc ms', X.bc, arr4 now'] ++ F)) ++ G by simp]
    rw [List.take_left']
    simp; omega
  have hchl : ∀ ms : List Mt, (X.ch ++ growC 3 (ms.map metA)).length = X.ch.length + if ms = [] then 0 else 1 := fun ms => by
    rw [List.length_append]
    unfold growC
    by_cases h : ms = []
    · simp [h]
    · simp [h]
  have hdry : ∀ nc, X.ch.length ≤ nc → dryAt nc (X.st ms sm now F0) (X.st ms' sm' now' (F ++ G)) e = decide (ms' = [] ∨ X.ch.length < nc) := by
    intro nc hnc
    have b1 := hX.Bu (X.B.length + (3 + F.length)) nc (by omega) hnc
    have b2 := tc_under X hX ms' (X.B.length + (3 + F.length)) nc hnc
    have b3 := bc_under X hX (X.B.length + (3 + F.length)) nc hnc
    have b4 := hF (X.B.length + (3 + F.length)) nc
    have b5 := hX.Lu (X.B.length + (3 + F.length)) nc (by omega) hnc
    have b6 := he nc hnc
    have b7 := arr4_under now' (X.B.length + (3 + F.length)) nc 1 1 5
    have k1 := ks_under (X.B.length + (3 + F.length)) nc 1 1 4 sm'
    have k2 := vs_under (X.B.length + (3 + F.length)) nc 1 1 4 sm'
    unfold dryAt
    rw [hlen0]
    have e1 : (X.st ms' sm' now' (F ++ G)).boxes = X.B ++ ([X.tc ms', X.bc, arr4 now'] ++ (F ++ G)) := rfl
    have e2 : (X.st ms sm now F0).maps.length = 1 := rfl
    have e3 : (X.st ms sm now F0).loops.length = 1 := rfl
    have e4 : (X.st ms' sm' now' (F ++ G)).maps = [(ksM sm', vsM sm')] := rfl
    have e5 : (X.st ms' sm' now' (F ++ G)).loops = [X.L] := rfl
    rw [e1, ht, e2, e3, e4, e5]
    simp only [List.take_succ_cons, List.take_zero, List.all_cons, List.all_nil, Bool.and_true, List.all_append, b1, b2, b3, b4, b5, b6, b7, k1, k2, Bool.true_and]
  have hle : ∀ ms : List Mt, X.ch.length ≤ (X.ch ++ growC 3 (ms.map metA)).length := fun ms => by rw [hchl]; omega
  have h2 : dryAt (X.st ms' sm' now' (F ++ G)).chains.length (X.st ms sm now F0) (X.st ms' sm' now' (F ++ G)) e = true := by
    have : (X.st ms' sm' now' (F ++ G)).chains = X.ch ++ growC 3 (ms'.map metA) := rfl
    rw [this, hdry _ (hle ms'), hchl, decide_eq_true_eq]
    by_cases h : ms' = []
    · exact .inl h
    · right; rw [if_neg h]; omega
  have h1 : (X.st ms' sm' now' (F ++ G)).chains.length = (X.st ms sm now F0).chains.length ∨ dryAt (X.st ms sm now F0).chains.length (X.st ms sm now F0) (X.st ms' sm' now' (F ++ G)) e = false := by
    have c1 : (X.st ms' sm' now' (F ++ G)).chains = X.ch ++ growC 3 (ms'.map metA) := rfl
    have c2 : (X.st ms sm now F0).chains = X.ch ++ growC 3 (ms.map metA) := rfl
    rw [c1, c2, hdry _ (hle ms), hchl, hchl]
    rcases hm with rfl | hm
    · exact .inl rfl
    · rw [if_neg hm]
      by_cases h : ms = []
      · right; rw [if_pos h]; simp [hm]
      · left; rw [if_neg h]
  rw [cut_keep _ _ _ h2 h1]
  unfold cutAt
  rw [hlen0]
  have e1 : (X.st ms' sm' now' (F ++ G)).boxes = X.B ++ ([X.tc ms', X.bc, arr4 now'] ++ (F ++ G)) := rfl
  rw [e1, ht]
  simp [TX.st]
  exact List.take_of_length_le (by simp)
end Go.Ai

set_option maxRecDepth 100000
namespace Go.Ai
open Go.Office (Ft Rl Us Nt Bk Mt Dy Sg addB clrB)
section
variable {X : TX} {ms : List Mt} {sm : SM} {now : Nat → Int}
theorem t_boxes (F : List (List AV)) : (X.st ms sm now F).boxes = X.B ++ ([X.tc ms, X.bc, arr4 now] ++ F) := rfl
theorem t_len (F : List (List AV)) : (X.st ms sm now F).boxes.length = X.B.length + (3 + F.length) := by simp [TX.st]; omega
theorem ldT (F : List (List AV)) (n : Option Nat) (off : Nat) : loadA (X.st ms sm now F) n (.box X.B.length off) = partA n (X.tc ms) off := box_ld (t_boxes F) (q := 0) rfl n off
theorem ldB (F : List (List AV)) (n : Option Nat) (off : Nat) : loadA (X.st ms sm now F) n (.box (X.B.length + 1) off) = partA n X.bc off := box_ld (t_boxes F) (q := 1) rfl n off
theorem ldN (F : List (List AV)) (n : Option Nat) (off : Nat) : loadA (X.st ms sm now F) n (.box (X.B.length + 2) off) = partA n (arr4 now) off := box_ld (t_boxes F) (q := 2) rfl n off
theorem ldF (F : List (List AV)) {q : Nat} {cs : List AV} (h : F[q]? = some cs) (n : Option Nat) (off : Nat) : loadA (X.st ms sm now F) n (.box (X.B.length + (3 + q)) off) = partA n cs off := by
  refine box_ld (t_boxes F) (q := 3 + q) ?_ n off
  rw [List.getElem?_append_right (by simp)]
  simpa using h
theorem stF (F : List (List AV)) {q : Nat} {cs : List AV} (h : F[q]? = some cs) (n off : Nat) (v : AV) (h1 : v.cells.length = n) (h2 : off + n ≤ cs.length) (h3 : v.cells.all AV.isCell = true) : storeA (X.st ms sm now F) n (.box (X.B.length + (3 + q)) off) v = some (X.st ms sm now (F.set q (setAt cs off v.cells))) := by
  have hg : ([X.tc ms, X.bc, arr4 now] ++ F)[3 + q]? = some cs := by
    rw [List.getElem?_append_right (by simp)]; simpa using h
  rw [box_st (t_boxes F) rfl hg n off v h1 h2 h3]
  congr 1
  simp only [TX.st]
  congr 2
  rw [List.set_append_right _ _ (by simp)]
  simp
theorem alF {C : Cfg} {R : Rec} {d : Bool} {e : Env} (F : List (List AV)) (z : List AV) : operA C R d e (X.st ms sm now F) (.alloc z) = some (.box (X.B.length + (3 + F.length)) 0, X.st ms sm now (F ++ [z])) := by
  rw [op_alloc, t_len]
  simp [TX.st]
end
theorem part4 (f : Nat → Int) {k : Nat} (hk : k < 4) : partA none (arr4 f) k = some (I (f k)) := by
  have : k = 0 ∨ k = 1 ∨ k = 2 ∨ k = 3 := by omega
  rcases this with rfl | rfl | rfl | rfl <;> rfl
theorem ixa4 {k : Nat} (hk : k < 4) (b off : Nat) : ixaA 4 1 (.box b off) (I k) = some (.box b (off + k * 1)) := by
  have h1 : (0 : Int) ≤ k := by omega
  have h2 : (k : Int) < ((4 : Nat) : Int) := by omega
  simp only [ixaA, h1, h2, and_self, if_true, ptrAdd, Int.toNat_natCast]
theorem rule_callA (X : TX) (hX : X.Ok) (σ : St) (d : Int) {y t : Nat} (hy : y < X.x.fs.length) (ht : t < X.x.fs.length) : callA Cv (run Cv) false (.fn (.func 63) [] []) [.agg X.bc, I X.u, .agg (mtC d y t)] σ = some (.tup [I (X.x.bk.ruleI X.u y t), I (X.x.bk.does X.u y t)], σ) := by
  obtain ⟨r, es, hr, hp⟩ := hX.nvp
  have h := rule_call X.x hX.x r .nils ⟨es, hr⟩ ⟨[], .inl ⟨rfl, rfl⟩⟩ d hX.u hy ht
  have p1 := hX.x.fr.pur
  have p2 := hX.x.q0.pur
  have p3 := hX.x.q1.pur
  have hpu : purAll (pur σ 12) ([] ++ [.agg X.bc, I X.u, .agg (mtC d y t)] ++ []) = some ([.agg (bkC X.x r .nils), I X.u, .agg (mtC d y t)], false) := by
    simp [purAll, pur, TX.bc, bkC, mtC, p1, p2, p3, hp]
  rw [ca_none (by rfl), hpu]
  simp only [pureCallA, pureA_call, h, backA, Bool.false_eq_true, if_false]
theorem f_rank' {x : OB} (hx : x.Ok) {k : Nat} (hk : k < x.fs.length) : ∃ r, ixsA 3 x.fr (I k) = some (.rp r 0) ∧ ∀ σ : St, loadA σ none (.rp r 2) = some (I (x.bk.rk k)) := by
  obtain ⟨a, b, h⟩ := f_rank hx hk
  exact ⟨_, h, fun _ => rfl⟩
def head89_0 (X : TX) (ps d : Int) (k : Int) : Env := mkE 169 .any [(30, I k), (29, I X.x.fs.length), (22, I d), (21, I X.x.days), (9, .box (X.B.length + (3 + 0)) 0), (8, I d), (7, I ps), (6, .box (X.B.length + 2) 0), (3, .box (X.B.length + 1) 0), (2, I X.u), (1, .box X.B.length 0)]
def dyF (s : Dy) : List (List AV) := [sgC s.chief s.set s.moved (-1)]
theorem under_lt (X : TX) (F : List (List AV)) : X.B.length < X.B.length + (3 + F.length) ∧ X.B.length + 1 < X.B.length + (3 + F.length) ∧ X.B.length + 2 < X.B.length + (3 + F.length) := by omega
theorem sg_under (c : Int) (s m : Nat) (p : Int) (a b k l n : Nat) : (sgC c s m p).all (under a b k l (n + 1)) = true := rfl
theorem round89_0a (X : TX) (hX : X.Ok) (ms : List Mt) (sm : SM) (now : Nat → Int) (ps d : Int) (s : Dy) (k : Nat) (hk : k < X.x.fs.length) (hn : now k ≠ d) :
    run Cv 89 (.loop keep89_0 body89_0) (head89_0 X ps d k) (X.st ms sm now (dyF s)) = run Cv 89 (.loop keep89_0 body89_0) (head89_0 X ps d (k + 1)) (X.st ms sm now (dyF s)) := by
  have n4 := hX.n4
  have hlt : (k : Int) < (X.x.fs.length : Int) := by omega
  have w1 : IntKind.wrap .i64 ((k : Int) + 1) = k + 1 := wrap_small (by omega) (by omega)
  have h1 := ldN (X := X) (ms := ms) (sm := sm) (now := now) (dyF s)
  have h2 := ixa4 (k := k) (by omega) (X.B.length + 2) 0
  have h3 := part4 now (k := k) (by omega)
  have hcut := fun e he => t_cut X hX ms ms (.inl rfl) sm sm now now (dyF s) (dyF s) [] rfl (fun a nc => by simp only [dyF, List.all_cons, sg_under, List.all_nil, Bool.and_self]) e he
  rw [List.append_nil] at hcut
  rw [show 0 + k * 1 = k by omega] at h2
  rw [run_loop]
  generalize MC.loop keep89_0 body89_0 = LL
  simp (maxSteps := 10000000) [-List.getD_eq_getElem?_getD, -loadA, -ixaA, -partA, -cut, -List.all_eq_true, body89_0, keep89_0, head89_0, hlt, w1, h1, h2, h3, hn]
  rw [hcut]
  intro nc _
  have hl : (dyF s).length = 1 := rfl
  simp (maxSteps := 10000000) [-List.getD_eq_getElem?_getD, hl]
end Go.Ai

set_option maxRecDepth 100000
namespace Go.Ai
open Go.Office (Ft Rl Us Nt Bk Mt Dy Sg addB clrB)
theorem part_sg4 (c : Int) (s m : Nat) (p : Int) : partA (some 4) (sgC c s m p) 0 = some (.agg (sgC c s m p)) := rfl
theorem part_sg0 (c : Int) (s m : Nat) (p : Int) : partA none (sgC c s m p) 0 = some (I c) := rfl
theorem part_sg2 (c : Int) (s m : Nat) (p : Int) : partA none (sgC c s m p) 2 = some (I (m : Nat)) := rfl
theorem sg_pur (c : Int) (s m : Nat) (p : Int) (σ : St) (n : Nat) : purAll (pur σ (n + 1)) (sgC c s m p) = some (sgC c s m p, false) := rfl
theorem sg_pur' (c : Int) (s m : Nat) (p : Int) (σ : St) (n : Nat) : pur σ (n + 2) (.agg (sgC c s m p)) = some (.agg (sgC c s m p), false) := rfl
theorem fo_sg (c : Int) (s m : Nat) (p : Int) : fo 12 (.agg (sgC c s m p)) = true := rfl
theorem callA_of {g : Nat} {v : AV} {args : List AV} (himp : Cv.imp g = false) (h : call Cv g args = some v) (hp : ∀ σ, purAll (pur σ 12) args = some (args, false)) (d : Bool) (σ : St) : callA Cv (run Cv) d (.fn (.func g) [] []) args σ = some (v, σ) := by
  rw [ca_none himp, List.nil_append, List.append_nil, hp σ]
  simp only [pureCallA, pureA_call, h, backA, Bool.false_eq_true, if_false]
theorem sg2_pur (c : Int) (s m : Nat) (p k : Int) (σ : St) : purAll (pur σ 12) [.agg (sgC c s m p), I k] = some ([.agg (sgC c s m p), I k], false) := rfl
section
variable (c p : Int) {s m f : Nat} (hs : s < 16) (hm : m < 16) (hf : f < 4)
include hs hm hf
omit hm in
theorem too_callA (d : Bool) (σ : St) : callA Cv (run Cv) d (.fn (.func 105) [] []) [.agg (sgC c s m p), I (f : Nat)] σ = some (.agg (sgC c (addB s f) m p), σ) := callA_of (by rfl) (too_call c p hs hf) (sg2_pur _ _ _ _ _) d σ
omit hm in
theorem out_callA (d : Bool) (σ : St) : callA Cv (run Cv) d (.fn (.func 130) [] []) [.agg (sgC c s m p), I (f : Nat)] σ = some (.agg (sgC c (clrB s f) m p), σ) := callA_of (by rfl) (out_call c p hs hf) (sg2_pur _ _ _ _ _) d σ
theorem next_callA (d : Bool) (σ : St) : callA Cv (run Cv) d (.fn (.func 128) [] []) [.agg (sgC c s m p), I (f : Nat)] σ = some (.agg (sgC c (clrB s f) (addB m f) p), σ) := callA_of (by rfl) (next_call c p hs hm hf) (sg2_pur _ _ _ _ _) d σ
end
theorem round89_0b (X : TX) (hX : X.Ok) (ms : List Mt) (sm : SM) (now : Nat → Int) (ps d : Int) (s : Dy) (hs : s.set < 16) (hm : s.moved < 16) (k : Nat) (hk : k < X.x.fs.length) (hn : now k = d) (hc : s.chief < 0) :
    run Cv 89 (.loop keep89_0 body89_0) (head89_0 X ps d k) (X.st ms sm now (dyF s)) = run Cv 89 (.loop keep89_0 body89_0) (head89_0 X ps d (k + 1)) (X.st ms sm now (dyF { s with chief := k, set := addB s.set k })) := by
  have n4 := hX.n4
  have hlt : (k : Int) < (X.x.fs.length : Int) := by omega
  have w1 : IntKind.wrap .i64 ((k : Int) + 1) = k + 1 := wrap_small (by omega) (by omega)
  have h1 := ldN (X := X) (ms := ms) (sm := sm) (now := now) (dyF s)
  have h2 := ixa4 (k := k) (by omega) (X.B.length + 2) 0
  have h3 := part4 now (k := k) (by omega)
  have l0 := ldF (X := X) (ms := ms) (sm := sm) (now := now) (dyF s) (q := 0) rfl
  have ct := too_callA (m := s.moved) s.chief (-1) hs (f := k) (by omega)
  have s1 := stF (X := X) (ms := ms) (sm := sm) (now := now) (dyF s) (q := 0) rfl 4 0 (.agg (sgC s.chief (addB s.set k) s.moved (-1))) rfl (by show 0 + 4 ≤ 4; omega) rfl
  have s2 := stF (X := X) (ms := ms) (sm := sm) (now := now) [sgC s.chief (addB s.set k) s.moved (-1)] (q := 0) rfl 1 0 (I (k : Nat)) rfl (by show 0 + 1 ≤ 4; omega) rfl
  have e1 : (dyF s).set 0 (setAt (sgC s.chief s.set s.moved (-1)) 0 (AV.agg (sgC s.chief (addB s.set k) s.moved (-1))).cells) = [sgC s.chief (addB s.set k) s.moved (-1)] := rfl
  have e2 : [sgC s.chief (addB s.set k) s.moved (-1)].set 0 (setAt (sgC s.chief (addB s.set k) s.moved (-1)) 0 (I (k : Nat)).cells) = [sgC (k : Nat) (addB s.set k) s.moved (-1)] := rfl
  rw [e1] at s1
  rw [e2] at s2
  have hcut := fun e he => t_cut X hX ms ms (.inl rfl) sm sm now now (dyF s) [sgC (k : Nat) (addB s.set k) s.moved (-1)] [] rfl (fun a nc => by simp only [List.all_cons, sg_under, List.all_nil, Bool.and_self]) e he
  rw [List.append_nil] at hcut
  rw [show 0 + k * 1 = k by omega] at h2
  have hfin : dyF { s with chief := k, set := addB s.set k } = [sgC (k : Nat) (addB s.set k) s.moved (-1)] := rfl
  rw [hfin, run_loop]
  generalize MC.loop keep89_0 body89_0 = LL
  simp (maxSteps := 10000000) [-List.getD_eq_getElem?_getD, -loadA, -storeA, -ixaA, -partA, -cut, -List.all_eq_true, body89_0, keep89_0, head89_0, hlt, w1, h1, h2, h3, hn, l0, part_sg4, part_sg0, hc, ct, s1, s2]
  rw [hcut]
  intro nc _
  simp (maxSteps := 10000000) [-List.getD_eq_getElem?_getD, ]
end Go.Ai

set_option maxRecDepth 100000
namespace Go.Ai
open Go.Office (Ft Rl Us Nt Bk Mt Dy Sg addB clrB)
def TX.stc (X : TX) (ms : List Mt) (ch : List (Nat × Nat)) (sm : SM) (now : Nat → Int) (F : List (List AV)) : St := { boxes := X.B ++ ([X.tc ms, X.bc, arr4 now] ++ F), chains := ch, maps := [(ksM sm, vsM sm)], loops := [X.L] }
theorem part_tc (X : TX) (hX : X.Ok) (ms : List Mt) : partA none (X.tc ms) (5 + X.u) = some (X.mv ms) := by
  have := hX.u
  have h : X.u = 0 ∨ X.u = 1 := by omega
  unfold TX.tc arr4
  rcases h with h | h <;> rw [h] <;> rfl
theorem t_app (X : TX) (ms : List Mt) (sm : SM) (now : Nat → Int) (F : List (List AV)) (m : Mt) (hl : ms.length < 10000) : appA (X.st ms sm now F) false 3 24 true (X.mv ms) (.sl 3 [metA m] .full) = some (X.mv (ms ++ [m]), X.stc ms (X.ch ++ growC 3 ((ms ++ [m]).map metA)) sm now F) := by
  have h1 : (ms.map metA).length = ms.length := by simp
  have := app_row (X.B ++ ([X.tc ms, X.bc, arr4 now] ++ F)) [(ksM sm, vsM sm)] [X.L] X.ch (ms.map metA) (metA m) 3 24 true (by omega) X.ch.length rfl
  unfold TX.mv TX.stc
  rw [List.map_append]
  exact this
theorem t_storeT (X : TX) (hX : X.Ok) (ms ms' : List Mt) (sm : SM) (now : Nat → Int) (F : List (List AV)) : storeA (X.stc ms (X.ch ++ growC 3 (ms'.map metA)) sm now F) 1 (.box X.B.length (5 + X.u)) (X.mv ms') = some (X.st ms' sm now F) := by
  have h1 : (X.mv ms').isCell = true := growV_cell _ _ _
  have h2 : (X.mv ms').cells = [X.mv ms'] := growV_cells _ _ _
  have hu := hX.u
  have hl : (X.tc ms).length = 7 := by unfold TX.tc arr4; split <;> rfl
  have := box_st (σ := X.stc ms (X.ch ++ growC 3 (ms'.map metA)) sm now F) (B := X.B) (G := [X.tc ms, X.bc, arr4 now] ++ F) rfl rfl (q := 0) rfl 1 (5 + X.u) (X.mv ms') (by rw [h2]; rfl) (by omega) (by rw [h2]; simp [h1])
  rw [Nat.add_zero] at this
  rw [this, h2]
  have hs : setAt (X.tc ms) (5 + X.u) [X.mv ms'] = X.tc ms' := by
    have h : X.u = 0 ∨ X.u = 1 := by omega
    unfold TX.tc arr4 setAt
    rcases h with h | h <;> rw [h] <;> rfl
  rw [hs]
  rfl
theorem ixa2 {u : Nat} (hu : u < 2) (b off : Nat) : ixaA 2 1 (.box b off) (I u) = some (.box b (off + u * 1)) := by
  have h1 : (0 : Int) ≤ u := by omega
  have h2 : (u : Int) < ((2 : Nat) : Int) := by omega
  simp only [ixaA, h1, h2, and_self, if_true, ptrAdd, Int.toNat_natCast]
theorem part_bc9 (X : TX) : partA (some 9) X.bc 0 = some (.agg X.bc) := rfl
theorem part_bc2 (X : TX) : partA none X.bc 2 = some X.x.fr := rfl
theorem part_m3 (d : Int) (y t : Nat) : partA (some 3) (mtC d y t) 0 = some (.agg (mtC d y t)) := rfl
theorem part_m1 (d : Int) (y t : Nat) : partA none (mtC d y t) 1 = some (I (y : Nat)) := rfl
theorem part_m2 (d : Int) (y t : Nat) : partA none (mtC d y t) 2 = some (I (t : Nat)) := rfl
theorem fate_load (n : Option Nat) (σ : St) (off : Nat) : loadA σ n (.rp [.fn (.func 130) [] [], .fn (.func 128) [] [], .fn (.func 105) [] []] off) = partA n [.fn (.func 130) [] [], .fn (.func 128) [] [], .fn (.func 105) [] []] off := rfl
theorem fate_ix (cs : List AV) : ixaA 3 1 (.rp cs 0) (I 0) = some (.rp cs 0) ∧ ixaA 3 1 (.rp cs 0) (I 1) = some (.rp cs 1) ∧ ixaA 3 1 (.rp cs 0) (I 2) = some (.rp cs 2) := ⟨rfl, rfl, rfl⟩
theorem fate_pt (a b c : AV) : partA none [a, b, c] 0 = some a ∧ partA none [a, b, c] 1 = some b ∧ partA none [a, b, c] 2 = some c := ⟨rfl, rfl, rfl⟩
theorem round89_0c (X : TX) (hX : X.Ok) (ms : List Mt) (hml : ms.length < 10000) (sm : SM) (now : Nat → Int) (ps d : Int) (s : Dy) (hs : s.set < 16) (hm : s.moved < 16) (k : Nat) (hk : k < X.x.fs.length) (hn : now k = d) (c : Nat) (hc : s.chief = c) (hcl : c < X.x.fs.length) :
    run Cv 89 (.loop keep89_0 body89_0) (head89_0 X ps d k) (X.st ms sm now (dyF s)) = run Cv 89 (.loop keep89_0 body89_0) (head89_0 X ps d (k + 1)) (X.st (ms ++ [⟨d, X.x.bk.yOf c k, X.x.bk.tOf c k⟩]) sm now (dyF (X.x.bk.come X.u d s k))) := by
  have n4 := hX.n4
  have hu := hX.u
  have hlt : (k : Int) < (X.x.fs.length : Int) := by omega
  have w1 : IntKind.wrap .i64 ((k : Int) + 1) = k + 1 := wrap_small (by omega) (by omega)
  have h1 := fun F => ldN (X := X) (ms := ms) (sm := sm) (now := now) F
  have hb := fun F => ldB (X := X) (ms := ms) (sm := sm) (now := now) F
  have ht := fun F => ldT (X := X) (ms := ms) (sm := sm) (now := now) F
  have h2 := ixa4 (k := k) (by omega) (X.B.length + 2) 0
  have h3 := part4 now (k := k) (by omega)
  rw [show 0 + k * 1 = k by omega] at h2
  obtain ⟨rk, g1, g2⟩ := f_rank' hX.x hk
  obtain ⟨rc, g3, g4⟩ := f_rank' hX.x hcl
  have hi2 := ixa2 hu X.B.length 5
  rw [show 5 + X.u * 1 = 5 + X.u by omega] at hi2
  have hi2' : ixaA 2 1 (.box X.B.length (0 + 5)) (I X.u) = some (.box X.B.length (5 + X.u)) := by rw [show 0 + 5 = 5 by omega]; exact hi2
  have hpt := part_tc X hX ms
  -- who yields
  have hcome : X.x.bk.come X.u d s k = { chief := X.x.bk.tOf c k, set := if X.x.bk.does X.u (X.x.bk.yOf c k) (X.x.bk.tOf c k) = 2 then addB (addB s.set k) (X.x.bk.yOf c k) else clrB (addB s.set k) (X.x.bk.yOf c k), moved := if X.x.bk.does X.u (X.x.bk.yOf c k) (X.x.bk.tOf c k) = 1 then addB s.moved (X.x.bk.yOf c k) else s.moved, mets := s.mets ++ [⟨d, X.x.bk.yOf c k, X.x.bk.tOf c k⟩] } := by
    have := Go.Office.come_next (b := X.x.bk) (u := X.u) (d := d) (s := s) (k := k) (by omega)
    rw [hc, Int.toNat_natCast] at this
    exact this
  obtain ⟨hyl, htl⟩ : X.x.bk.yOf c k < X.x.fs.length ∧ X.x.bk.tOf c k < X.x.fs.length := by
    rcases Go.Office.yt_cases X.x.bk c k with ⟨e1, e2, _⟩ | ⟨e1, e2, _⟩ <;> rw [e1, e2] <;> exact ⟨by assumption, by assumption⟩
  have hdoes := hX.does (X.x.bk.yOf c k) (X.x.bk.tOf c k)
  have hrule := fun σ => rule_callA X hX σ d hyl htl
  rw [hcome]
  have hyt := Go.Office.yt_cases X.x.bk c k
  generalize X.x.bk.yOf c k = y at *
  generalize X.x.bk.tOf c k = t at *
  generalize X.x.bk.ruleI X.u y t = ri at *
  generalize X.x.bk.does X.u y t = dv at *
  have ha16 := add_lt hs (f := k) (by omega)
  have ct := too_callA (m := s.moved) s.chief (-1) hs (f := k) (by omega)
  have co := out_callA (m := s.moved) s.chief (-1) ha16 (f := y) (by omega)
  have cn := next_callA s.chief (-1) ha16 hm (f := y) (by omega)
  have c2 := too_callA (m := s.moved) s.chief (-1) ha16 (f := y) (by omega)
  -- the variables
  have l0 := fun S Z => ldF (X := X) (ms := ms) (sm := sm) (now := now) [S, Z] (q := 0) rfl
  have l1 := fun S Z => ldF (X := X) (ms := ms) (sm := sm) (now := now) [S, Z] (q := 1) rfl
  have l00 := ldF (X := X) (ms := ms) (sm := sm) (now := now) (dyF s) (q := 0) rfl
  have l2 := fun ms S Z => ldF (X := X) (ms := ms) (sm := sm) (now := now) [S, Z] (q := 1) rfl
  have al := fun R e => alF (X := X) (ms := ms) (sm := sm) (now := now) (C := Cv) (R := R) (d := false) (e := e) (dyF s) [I 0, I 0, I 0]
  have sm1 := fun S a b => stF (X := X) (ms := ms) (sm := sm) (now := now) [S, [I 0, I 0, I 0]] (q := 1) rfl 3 0 (.agg (mtC d a b)) rfl (by show 0 + 3 ≤ 3; omega) rfl
  have sm2 := fun S a b a' b' => stF (X := X) (ms := ms) (sm := sm) (now := now) [S, mtC d a b] (q := 1) rfl 3 0 (.agg (mtC d a' b')) rfl (by show 0 + 3 ≤ 3; omega) rfl
  have ss1 := fun c' s' m' Z c2 s2 m2 => stF (X := X) (ms := ms) (sm := sm) (now := now) [sgC c' s' m' (-1), Z] (q := 0) rfl 4 0 (.agg (sgC c2 s2 m2 (-1))) rfl (by show 0 + 4 ≤ 4; omega) rfl
  have ss2 := fun c' s' m' Z => stF (X := X) (ms := ms) (sm := sm) (now := now) [sgC c' s' m' (-1), Z] (q := 0) rfl 1 0 (I (t : Nat)) rfl (by show 0 + 1 ≤ 4; omega) rfl
  have q1 : ∀ S a b, [S, [I 0, I 0, I 0]].set 1 (setAt [I 0, I 0, I 0] 0 (AV.agg (mtC d a b)).cells) = [S, mtC d a b] := fun _ _ _ => rfl
  have q2 : ∀ S a b a' b', [S, mtC d a b].set 1 (setAt (mtC d a b) 0 (AV.agg (mtC d a' b')).cells) = [S, mtC d a' b'] := fun _ _ _ _ _ => rfl
  have q3 : ∀ c' s' m' Z c2 s2 m2, [sgC c' s' m' (-1), Z].set 0 (setAt (sgC c' s' m' (-1)) 0 (AV.agg (sgC c2 s2 m2 (-1))).cells) = [sgC c2 s2 m2 (-1), Z] := fun _ _ _ _ _ _ _ => rfl
  have q4 : ∀ c' s' m' Z, [sgC c' s' m' (-1), Z].set 0 (setAt (sgC c' s' m' (-1)) 0 (I (t : Nat)).cells) = [sgC (t : Nat) s' m' (-1), Z] := fun _ _ _ _ => rfl
  simp only [q1] at sm1
  simp only [q2] at sm2
  simp only [q3] at ss1
  simp only [q4] at ss2
  have hdy : dyF s = [sgC s.chief s.set s.moved (-1)] := rfl
  have e10 : (dyF s).length = 1 := rfl
  rw [hdy] at al l00
  have happ := fun F => t_app X ms sm now F ⟨d, y, t⟩ hml
  have hstT := fun F => t_storeT X hX ms (ms ++ [⟨d, y, t⟩]) sm now F
  simp only [List.map_append, List.map_cons, List.map_nil] at happ hstT
  have hfill : fillE 3 true [(0, .agg (mtC d y t))] [.agg [I 0, I 0, I 0]] = some [metA ⟨d, y, t⟩] := rfl
  have hrep : List.replicate 1 (AV.agg [I 0, I 0, I 0]) = [.agg [I 0, I 0, I 0]] := rfl
  have hcut := fun c' s' m' e he => t_cut X hX ms (ms ++ [⟨d, y, t⟩]) (.inr (by simp)) sm sm now now [sgC s.chief s.set s.moved (-1)] [sgC c' s' m' (-1)] [mtC d y t] rfl (fun a nc => by
    simp only [List.all_cons, sg_under, List.all_nil, Bool.and_self]) e he
  simp only [List.cons_append, List.nil_append] at hcut
  have hnc : ¬ ((c : Nat) : Int) < 0 := by omega
  have hfa : ∀ a b : Nat, fillA [(0, 1, I d), (1, 1, I (a : Nat)), (2, 1, I (b : Nat))] [I 0, I 0, I 0] = some (mtC d a b) := fun _ _ => rfl
  rw [hdy] at *
  rw [hc] at *
  have hd3 : dv = 0 ∨ dv = 1 ∨ dv = 2 := by omega
  simp only [dyF]
  rw [run_loop]
  generalize MC.loop keep89_0 body89_0 = LL
  have hS1 : ([sgC (c : Nat) s.set s.moved (-1)] : List (List AV)).length = 1 := rfl
  simp only [hS1, List.cons_append, List.nil_append] at al
  rcases hyt with ⟨ey, et, hrk⟩ | ⟨ey, et, hrk⟩
  · subst ey et
    rcases hd3 with rfl | rfl | rfl <;>
    · simp (maxSteps := 10000000) [-List.getD_eq_getElem?_getD, -loadA, -storeA, -ixaA, -ixsA, -partA, -cut, -op_alloc, -List.all_eq_true, body89_0, keep89_0, head89_0, hlt, w1, h1, hb, ht, h2, h3, hn, l00, l0, l1, part_sg4, part_sg0, part_bc9, part_bc2, part_m3, part_m1, part_m2, hnc, al, sm1, sm2, ss1, ss2, g1, g2, g3, g4, hrk, hrule, ct, co, cn, c2, hi2, hi2', hpt, hfa, fate_ix, fate_pt, hfill, hrep, happ, hstT, fate_load]
      rw [hcut]
      intro nc _
      simp (maxSteps := 10000000) [-List.getD_eq_getElem?_getD, ]
  · subst ey et
    rcases hd3 with rfl | rfl | rfl <;>
    · simp (maxSteps := 10000000) [-List.getD_eq_getElem?_getD, -loadA, -storeA, -ixaA, -ixsA, -partA, -cut, -op_alloc, -List.all_eq_true, body89_0, keep89_0, head89_0, hlt, w1, h1, hb, ht, h2, h3, hn, l00, l0, l1, part_sg4, part_sg0, part_bc9, part_bc2, part_m3, part_m1, part_m2, hnc, al, sm1, sm2, ss1, ss2, g1, g2, g3, g4, hrk, hrule, ct, co, cn, c2, hi2, hi2', hpt, hfa, fate_ix, fate_pt, hfill, hrep, happ, hstT, fate_load]
      rw [hcut]
      intro nc _
      simp (maxSteps := 10000000) [-List.getD_eq_getElem?_getD, ]
end Go.Ai

set_option maxRecDepth 100000
namespace Go.Ai
open Go.Office (Ft Rl Us Nt Bk Mt Dy DyK Sg addB clrB moveN)
theorem come16 (b : Bk) (u : Nat) (d : Int) (s : Dy) (k : Nat) (hk : k < 4) (hc : s.chief < 4) (h1 : s.set < 16) (h2 : s.moved < 16) : (b.come u d s k).set < 16 ∧ (b.come u d s k).moved < 16 := by
  by_cases h : s.chief < 0
  · rw [Go.Office.come_first h]
    exact ⟨add_lt h1 hk, h2⟩
  · rw [Go.Office.come_next h]
    have hy : b.yOf s.chief.toNat k < 4 := by
      rcases Go.Office.yt_cases b s.chief.toNat k with ⟨e, _, _⟩ | ⟨e, _, _⟩ <;> rw [e] <;> omega
    have ha := add_lt h1 hk
    constructor
    · show (if _ then _ else _) < 16
      split
      · exact add_lt ha hy
      · exact clr_lt ha hy
    · show (if _ then _ else _) < 16
      split
      · exact add_lt h2 hy
      · exact h2
def exit89_0 (X : TX) (ps d : Int) : Env := mkE 169 .any [(31, .bool false), (30, I X.x.fs.length), (29, I X.x.fs.length), (22, I d), (21, I X.x.days), (9, .box (X.B.length + (3 + 0)) 0), (8, I d), (7, I ps), (6, .box (X.B.length + 2) 0), (3, .box (X.B.length + 1) 0), (2, I X.u), (1, .box X.B.length 0)]
theorem loop89_0 (X : TX) (hX : X.Ok) (ms : List Mt) (hml : ms.length < 100) (sm : SM) (now : Nat → Int) (ps d : Int) : ∀ (n k : Nat) (s : Dy), k + n = X.x.fs.length → DyK X.x.bk d now k s → s.set < 16 → s.moved < 16 → s.mets.length ≤ k →
    run Cv 89 (.loop keep89_0 body89_0) (head89_0 X ps d k) (X.st (ms ++ s.mets) sm now (dyF s)) = some (.ex 2, exit89_0 X ps d, X.st (ms ++ (X.x.bk.dayF X.u d now n k s).mets) sm now (dyF (X.x.bk.dayF X.u d now n k s))) ∧ (X.x.bk.dayF X.u d now n k s).set < 16 ∧ (X.x.bk.dayF X.u d now n k s).moved < 16 ∧ (X.x.bk.dayF X.u d now n k s).mets.length ≤ X.x.fs.length
  | 0, k, s, hk, hd, h1, h2, h3 => by
    have hkn : k = X.x.fs.length := by omega
    subst hkn
    rw [Bk.dayF]
    refine ⟨?_, h1, h2, h3⟩
    rw [run_loop]
    simp (maxSteps := 10000000) [-List.getD_eq_getElem?_getD, body89_0, keep89_0, head89_0, exit89_0]
  | n + 1, k, s, hk, hd, h1, h2, h3 => by
    have n4 := hX.n4
    have hkl : k < X.x.fs.length := by omega
    have e1 : (k : Int) + 1 = ((k + 1 : Nat) : Int) := by omega
    rw [Bk.dayF]
    by_cases hn : now k = d
    · rw [if_pos hn]
      have hnew := DyK.come (u := X.u) hd hn
      have hb := come16 X.x.bk X.u d s k (by omega) (by have := hd.chief.2; omega) h1 h2
      by_cases hc : s.chief < 0
      · rw [round89_0b X hX _ sm now ps d s h1 h2 k hkl hn hc, e1]
        have hcf := Go.Office.come_first (b := X.x.bk) (u := X.u) (d := d) (s := s) (k := k) hc
        rw [hcf] at hnew hb ⊢
        exact loop89_0 X hX ms hml sm now ps d n (k + 1) { s with chief := k, set := addB s.set k } (by omega) hnew hb.1 hb.2 (by show s.mets.length ≤ k + 1; omega)
      · have hcl := hd.chief.2
        have hr := round89_0c X hX (ms ++ s.mets) (by rw [List.length_append]; omega) sm now ps d s h1 h2 k hkl hn s.chief.toNat (by omega) (by omega)
        have hm : (X.x.bk.come X.u d s k).mets = s.mets ++ [⟨d, X.x.bk.yOf s.chief.toNat k, X.x.bk.tOf s.chief.toNat k⟩] := by rw [Go.Office.come_next hc]
        rw [hr, e1, List.append_assoc, ← hm]
        exact loop89_0 X hX ms hml sm now ps d n (k + 1) (X.x.bk.come X.u d s k) (by omega) hnew hb.1 hb.2 (by rw [hm, List.length_append, List.length_singleton]; omega)
    · rw [if_neg hn, round89_0a X hX _ sm now ps d s k hkl hn, e1]
      exact loop89_0 X hX ms hml sm now ps d n (k + 1) s (by omega) (hd.skip hn) h1 h2 (by omega)
theorem stN {X : TX} {ms : List Mt} {sm : SM} {now : Nat → Int} (F : List (List AV)) {k : Nat} (hk : k < 4) (v : Int) : storeA (X.st ms sm now F) 1 (.box (X.B.length + 2) k) (I v) = some (X.st ms sm (fun i => if i = k then v else now i) F) := by
  rw [box_st (t_boxes F) rfl (q := 2) rfl 1 k (I v) rfl (by show k + 1 ≤ 4; omega) rfl]
  congr 1
  have : setAt (arr4 now) k (I v).cells = arr4 fun i => if i = k then v else now i := by
    have : k = 0 ∨ k = 1 ∨ k = 2 ∨ k = 3 := by omega
    rcases this with rfl | rfl | rfl | rfl <;> rfl
  rw [this]
  rfl
def head89_1 (X : TX) (ps d : Int) (k : Int) : Env := mkE 169 .any [(110, I k), (109, I X.x.fs.length), (22, I d), (21, I X.x.days), (9, .box (X.B.length + (3 + 0)) 0), (8, I d), (7, I ps), (6, .box (X.B.length + 2) 0), (3, .box (X.B.length + 1) 0), (2, I X.u), (1, .box X.B.length 0)]
def exit89_1 (X : TX) (ps d : Int) : Env := mkE 169 .any [(111, .bool false), (110, I X.x.fs.length), (109, I X.x.fs.length), (22, I d), (21, I X.x.days), (9, .box (X.B.length + (3 + 0)) 0), (8, I d), (7, I ps), (6, .box (X.B.length + 2) 0), (3, .box (X.B.length + 1) 0), (2, I X.u), (1, .box X.B.length 0)]
def movK (m k : Nat) (d : Int) (now : Nat → Int) : Nat → Int := fun i => if k ≤ i ∧ m.testBit i = true then d + 1 else now i
theorem loop89_1 (X : TX) (hX : X.Ok) (ms : List Mt) (sm : SM) (ps d : Int) (hd : 0 ≤ d ∧ d ≤ 6) (s : Dy) (hs : s.moved < 16) : ∀ (n k : Nat) (now : Nat → Int), k + n = X.x.fs.length →
    run Cv 89 (.loop keep89_1 body89_1) (head89_1 X ps d k) (X.st ms sm now (dyF s)) = some (.ex 4, exit89_1 X ps d, X.st ms sm (fun i => if i < k + n then movK s.moved k d now i else now i) (dyF s))
  | 0, k, now, hk => by
    have hkn : k = X.x.fs.length := by omega
    have hf : (fun i => if i < k + 0 then movK s.moved k d now i else now i) = now := by
      funext i
      unfold movK
      split
      · rw [if_neg (by omega)]
      · rfl
    rw [hf]
    subst hkn
    rw [run_loop]
    simp (maxSteps := 10000000) [-List.getD_eq_getElem?_getD, body89_1, keep89_1, head89_1, exit89_1]
  | n + 1, k, now, hk => by
    have n4 := hX.n4
    have hkl : k < X.x.fs.length := by omega
    have e1 : (k : Int) + 1 = ((k + 1 : Nat) : Int) := by omega
    have hlt : (k : Int) < (X.x.fs.length : Int) := by omega
    have w1 : IntKind.wrap .i64 ((k : Int) + 1) = ((k + 1 : Nat) : Int) := by rw [wrap_small (by omega) (by omega)]; omega
    have w2 : IntKind.wrap .i64 (d + 1) = d + 1 := wrap_small (by omega) (by omega)
    have h2 := ixa4 (k := k) (by omega) (X.B.length + 2) 0
    rw [show 0 + k * 1 = k by omega] at h2
    have l0 := ldF (X := X) (ms := ms) (sm := sm) (now := now) (dyF s) (q := 0) rfl
    have o1 := shr_op hs (f := k) (by omega)
    have o2 := and_op hs (f := k) (by omega)
    have o3 := eq_op hs (f := k) (by omega)
    have hst := stN (X := X) (ms := ms) (sm := sm) (now := now) (dyF s) (k := k) (by omega) (d + 1)
    have hcut := fun now' e he => t_cut X hX ms ms (.inl rfl) sm sm now now' (dyF s) (dyF s) [] rfl (fun a nc => by simp only [dyF, List.all_cons, sg_under, List.all_nil, Bool.and_self]) e he
    simp only [List.append_nil] at hcut
    have hadd : ∀ a b : Int, binA .add (I a) (I b) = some (I (IntKind.wrap .i64 (a + b))) := fun _ _ => rfl
    have hlss : ∀ a b : Int, binA .lss (I a) (I b) = some (.bool (decide (a < b))) := fun _ _ => rfl
    have hl1 : (dyF s).length = 1 := rfl
    cases hb : s.moved.testBit k with
    | false =>
      have ih := loop89_1 X hX ms sm ps d hd s hs n (k + 1) now (by omega)
      have hf : (fun i => if i < k + (n + 1) then movK s.moved k d now i else now i) = fun i => if i < k + 1 + n then movK s.moved (k + 1) d now i else now i := by
        funext i
        unfold movK
        by_cases hi : i = k
        · subst hi; simp [hb]
        · have a1 : (i < k + (n + 1)) = (i < k + 1 + n) := propext ⟨fun h => by omega, fun h => by omega⟩
          have a2 : (k ≤ i) = (k + 1 ≤ i) := propext ⟨fun h => by omega, fun h => by omega⟩
          simp only [a1, a2]
      rw [hf, ← ih, run_loop]
      generalize MC.loop keep89_1 body89_1 = LL
      rw [hb] at o3
      simp (maxSteps := 10000000) [-List.getD_eq_getElem?_getD, -loadA, -storeA, -ixaA, -partA, -binA, -cut, -List.all_eq_true, body89_1, keep89_1, head89_1, hlt, w1, hadd, hlss, l0, part_sg2, o1, o2, o3]
      rw [hcut]
      intro nc _
      simp (maxSteps := 10000000) [-List.getD_eq_getElem?_getD, hl1]
    | true =>
      have ih := loop89_1 X hX ms sm ps d hd s hs n (k + 1) (fun i => if i = k then d + 1 else now i) (by omega)
      have hf : (fun i => if i < k + (n + 1) then movK s.moved k d now i else now i) = fun i => if i < k + 1 + n then movK s.moved (k + 1) d (fun i => if i = k then d + 1 else now i) i else (fun i => if i = k then d + 1 else now i) i := by
        funext i
        unfold movK
        by_cases hi : i = k
        · subst hi; simp [hb]
        · have a1 : (i < k + (n + 1)) = (i < k + 1 + n) := propext ⟨fun h => by omega, fun h => by omega⟩
          have a2 : (k ≤ i) = (k + 1 ≤ i) := propext ⟨fun h => by omega, fun h => by omega⟩
          simp only [a1, a2, hi, if_false]
      rw [hf, ← ih, run_loop]
      generalize MC.loop keep89_1 body89_1 = LL
      rw [hb] at o3
      simp (maxSteps := 10000000) [-List.getD_eq_getElem?_getD, -loadA, -storeA, -ixaA, -partA, -binA, -cut, -List.all_eq_true, body89_1, keep89_1, head89_1, hlt, w1, w2, hadd, hlss, l0, part_sg2, o1, o2, o3, h2, hst]
      rw [hcut]
      intro nc _
      simp (maxSteps := 10000000) [-List.getD_eq_getElem?_getD, hl1]
end Go.Ai

set_option maxRecDepth 100000
namespace Go.Ai
open Go.Office (Ft Rl Us Nt Bk Mt Dy DyK Dy0 Sg addB clrB moveN)
def head89_2 (X : TX) (ps d : Int) : Env := mkE 169 .any [(22, I d), (21, I X.x.days), (7, I ps), (6, .box (X.B.length + 2) 0), (3, .box (X.B.length + 1) 0), (2, I X.u), (1, .box X.B.length 0)]
theorem part_tc4 (X : TX) (ms : List Mt) : partA none (X.tc ms) 4 = some (.mp 0) := by unfold TX.tc arr4; split <;> rfl
theorem part_bc1 (X : TX) : partA none X.bc 1 = some (I X.x.first) := rfl
theorem part_goes (X : TX) (hX : X.Ok) : partA none X.bc (3 + X.u * 2 + 1) = some (.bool (X.x.bk.us X.u).goes) := by
  have := hX.u
  have h : X.u = 0 ∨ X.u = 1 := by omega
  rcases h with h | h <;> rw [h] <;> rfl
theorem ixa22 {u : Nat} (hu : u < 2) (b off : Nat) : ixaA 2 2 (.box b off) (I u) = some (.box b (off + u * 2)) := by
  have h1 : (0 : Int) ≤ u := by omega
  have h2 : (u : Int) < ((2 : Nat) : Int) := by omega
  simp only [ixaA, h1, h2, and_self, if_true, ptrAdd, Int.toNat_natCast]
theorem rem30 {n : Int} (h : 0 ≤ n) : binA .rem (I n) (I 30) = some (I (n % 30)) := by
  have : ¬ (30 : Int) = 0 := by decide
  simp only [binA, binI, this, if_false, true_or, if_true]
  rw [Int.tmod_eq_emod_of_nonneg h]
theorem move_all (X : TX) (S : Dy) (d : Int) (now : Nat → Int) (h : DyK X.x.bk d now X.x.fs.length S) : (fun i => if i < 0 + X.x.fs.length then movK S.moved 0 d now i else now i) = moveN S.moved d now := by
  funext i
  unfold movK moveN
  by_cases hb : S.moved.testBit i = true
  · have := (h.moved i hb).2.1
    have h1 : i < 0 + X.x.fs.length := by omega
    simp [h1, hb]
    intro; omega
  · simp [hb]
theorem round89_2 (X : TX) (hX : X.Ok) (ms : List Mt) (hml : ms.length < 100) (sm : SM) (now : Nat → Int) (ps d : Int) (hd0 : 0 ≤ d) (hd : d < X.x.days) (hp : 0 ≤ ps ∧ ps ≤ 10) :
    run Cv 89 (.loop keep89_2 body89_2) (head89_2 X ps d) (X.st ms sm now []) = run Cv 89 (.loop keep89_2 body89_2) (head89_2 X (if X.x.bk.own (X.x.bk.dayS X.u d now).chief then ps + 1 else ps) (d + 1))
      (X.st (ms ++ (X.x.bk.dayS X.u d now).mets) (SM.put sm (X.u, d) ⟨(X.x.bk.dayS X.u d now).chief, (X.x.bk.dayS X.u d now).set, (X.x.bk.dayS X.u d now).moved, X.x.bk.psalm X.u d ps (X.x.bk.dayS X.u d now).chief⟩) (moveN (X.x.bk.dayS X.u d now).moved d now) []) := by
  have n4 := hX.n4
  have hu := hX.u
  have d6 := hX.d6
  have f0 := hX.f0
  have hlen := flen hX.x
  obtain ⟨a1, a2, a3, a4⟩ := loop89_0 X hX ms hml sm now ps d X.x.fs.length 0 Dy0 (Nat.zero_add _) Go.Office.dy0_ok (by decide) (by decide) (by decide)
  have hS : X.x.bk.dayF X.u d now X.x.fs.length 0 Dy0 = X.x.bk.dayS X.u d now := rfl
  have hok := Go.Office.day_ok (b := X.x.bk) (u := X.u) (d := d) (now := now)
  rw [hS] at a1 a2 a3 a4
  have hms0 : ms ++ Dy0.mets = ms := List.append_nil _
  rw [hms0] at a1
  generalize X.x.bk.dayS X.u d now = S at *
  have b1 := loop89_1 X hX (ms ++ S.mets) sm ps d ⟨hd0, by omega⟩ S a3 X.x.fs.length 0 now (Nat.zero_add _)
  have hok' : DyK X.x.bk d now X.x.fs.length S := hok
  rw [move_all X S d now hok'] at b1
  have e0 : ((0 : Nat) : Int) = 0 := rfl
  rw [e0] at a1 b1
  have a' := fun E (hE : mask keep89_0 E = _) => run_at a1 hE
  have b' := fun E (hE : mask keep89_1 E = _) => run_at b1 hE
  simp only [keep89_0, head89_0, exit89_0] at a'
  simp only [keep89_1, head89_1, exit89_1] at b'
  have hdy0 : dyF Dy0 = [[I (-1), I 0, I 0, I (-1)]] := rfl
  rw [hdy0] at a'
  have al := fun R e => alF (X := X) (ms := ms) (sm := sm) (now := now) (C := Cv) (R := R) (d := false) (e := e) [] [I 0, I 0, I 0, I 0]
  have s0 := stF (X := X) (ms := ms) (sm := sm) (now := now) [[I 0, I 0, I 0, I 0]] (q := 0) rfl 4 0 (.agg [I (-1), I 0, I 0, I (-1)]) rfl (by show 0 + 4 ≤ 4; omega) rfl
  have e1 : [[I 0, I 0, I 0, I 0]].set 0 (setAt [I 0, I 0, I 0, I 0] 0 (AV.agg [I (-1), I 0, I 0, I (-1)]).cells) = [[I (-1), I 0, I 0, I (-1)]] := rfl
  rw [e1] at s0
  simp only [List.length_nil, List.nil_append] at al
  have hfa : fillA [(0, 1, I (-1)), (3, 1, I (-1))] [I 0, I 0, I 0, I 0] = some [I (-1), I 0, I 0, I (-1)] := rfl
  have hfk : fillA [(0, 1, I (X.u : Nat)), (1, 1, I d)] [I 0, I 0] = some [I (X.u : Nat), I d] := rfl
  have hkey : ∀ σ m v, mputA σ (some 2) m (.agg [I (X.u : Nat), I d]) v = mputA σ (some 2) m (keyA ((X.u : Nat), d)) v := fun _ _ _ => rfl
  have lB0 := ldB (X := X) (ms := ms) (sm := sm) (now := now) [[I (-1), I 0, I 0, I (-1)]]
  have lB := fun sm now F => ldB (X := X) (ms := ms ++ S.mets) (sm := sm) (now := now) F
  have lT := fun sm now F => ldT (X := X) (ms := ms ++ S.mets) (sm := sm) (now := now) F
  have lS := fun now c s m p => ldF (X := X) (ms := ms ++ S.mets) (sm := sm) (now := now) [sgC c s m p] (q := 0) rfl
  have sS := fun now c s m p p' => stF (X := X) (ms := ms ++ S.mets) (sm := sm) (now := now) [sgC c s m p] (q := 0) rfl 1 3 (I p') rfl (by show 3 + 1 ≤ 4; omega) rfl
  have e2 : ∀ c s m p p', [sgC c s m p].set 0 (setAt (sgC c s m p) 3 (I p').cells) = [sgC c s m p'] := fun _ _ _ _ _ => rfl
  simp only [e2] at sS
  have hput := fun now F w => put_map (X.st (ms ++ S.mets) sm now F) sm ((X.u : Nat), d) w rfl rfl
  have hput2 : ∀ now F w, mputA (X.st (ms ++ S.mets) sm now F) (some 2) (.mp 0) (keyA ((X.u : Nat), d)) (.agg (sgC w.chief w.set w.moved w.psalm)) = some (X.st (ms ++ S.mets) (SM.put sm ((X.u : Nat), d) w) now F) := fun now F w => hput now F w
  have hdyS : dyF S = [sgC S.chief S.set S.moved (-1)] := rfl
  rw [hdyS] at a' b'
  have hmx : ∀ p : Int, mputA (X.st (ms ++ S.mets) sm (moveN S.moved d now) [sgC S.chief S.set S.moved p]) (some 2) (.mp 0) (keyA ((X.u : Nat), d)) (.agg (sgC S.chief S.set S.moved p)) = some (X.st (ms ++ S.mets) (SM.put sm ((X.u : Nat), d) ⟨S.chief, S.set, S.moved, p⟩) (moveN S.moved d now) [sgC S.chief S.set S.moved p]) := fun p => hput2 _ _ ⟨S.chief, S.set, S.moved, p⟩
  have hcut := fun now' sm' p e he => t_cut X hX ms (ms ++ S.mets) (by by_cases h : S.mets = []; · left; rw [h, List.append_nil]
                                                                       · right; simp [h]) sm sm' now now' [] [] [sgC S.chief S.set S.moved p] rfl (fun a nc => rfl) e he
  simp only [List.nil_append] at hcut
  have hadd : ∀ a b : Int, binA .add (I a) (I b) = some (I (IntKind.wrap .i64 (a + b))) := fun _ _ => rfl
  have hlss : ∀ a b : Int, binA .lss (I a) (I b) = some (.bool (decide (a < b))) := fun _ _ => rfl
  have heql : ∀ a b : Int, binA .eql (I a) (I b) = some (.bool (a == b)) := fun _ _ => rfl
  have w1 : IntKind.wrap .i64 (d + 1) = d + 1 := wrap_small (by omega) (by omega)
  have w2 : IntKind.wrap .i64 (X.x.first + d) = X.x.first + d := wrap_small (by omega) (by omega)
  have w3 : IntKind.wrap .i64 (X.x.first + ps) = X.x.first + ps := wrap_small (by omega) (by omega)
  have w4 : IntKind.wrap .i64 (ps + 1) = ps + 1 := wrap_small (by omega) (by omega)
  have r1 := rem30 (n := X.x.first + d) (by omega)
  have r2 := rem30 (n := X.x.first + ps) (by omega)
  have hi2 := ixa22 hu (X.B.length + 1) 3
  have hi2' : ixaA 2 2 (.box (X.B.length + 1) (0 + 3)) (I X.u) = some (.box (X.B.length + 1) (3 + X.u * 2)) := hi2
  have pg := part_goes X hX
  have p4 := part_tc4 X (ms ++ S.mets)
  have hlt := hd
  rw [run_loop]
  generalize MC.loop keep89_2 body89_2 = LL
  by_cases hc : S.chief < 0
  · have ho : X.x.bk.own S.chief = true := by simp [Bk.own, hc]
    rw [ho, if_pos rfl]
    unfold Bk.psalm
    rw [ho, if_pos rfl, show X.x.bk.first = X.x.first from rfl]
    cases hg : (X.x.bk.us X.u).goes with
    | true =>
      rw [hg] at pg
      simp (maxSteps := 10000000) [-List.getD_eq_getElem?_getD, -loadA, -storeA, -ixaA, -ixsA, -partA, -binA, -cut, -op_alloc, -List.all_eq_true, body89_2, keep89_2, head89_2, hlt, al, s0, hfa, hfk, hkey, lB0, lB, lT, lS, sS, part_bc2, part_bc1, part_sg0, part_sg4, p4, hlen, keep89_0, a', keep89_1, b', hc, hadd, hlss, heql, w1, w2, w3, w4, r1, r2, hi2, hi2', pg, hmx]
      rw [hcut]
      intro nc _
      simp (maxSteps := 10000000) [-List.getD_eq_getElem?_getD, ]
    | false =>
      rw [hg] at pg
      simp (maxSteps := 10000000) [-List.getD_eq_getElem?_getD, -loadA, -storeA, -ixaA, -ixsA, -partA, -binA, -cut, -op_alloc, -List.all_eq_true, body89_2, keep89_2, head89_2, hlt, al, s0, hfa, hfk, hkey, lB0, lB, lT, lS, sS, part_bc2, part_bc1, part_sg0, part_sg4, p4, hlen, keep89_0, a', keep89_1, b', hc, hadd, hlss, heql, w1, w2, w3, w4, r1, r2, hi2, hi2', pg, hmx]
      rw [hcut]
      intro nc _
      simp (maxSteps := 10000000) [-List.getD_eq_getElem?_getD, ]
  · have hch := hok'.chief.2
    obtain ⟨rc, g1, g2⟩ := f_rank' hX.x (k := S.chief.toNat) (by omega)
    have hcn : ((S.chief.toNat : Nat) : Int) = S.chief := by omega
    rw [hcn] at g1
    by_cases hr : X.x.bk.rk S.chief.toNat = 0
    · have ho : X.x.bk.own S.chief = true := by simp [Bk.own, hr]
      rw [ho, if_pos rfl]
      unfold Bk.psalm
      rw [ho, if_pos rfl, show X.x.bk.first = X.x.first from rfl]
      cases hg : (X.x.bk.us X.u).goes with
      | true =>
        rw [hg] at pg
        simp (maxSteps := 10000000) [-List.getD_eq_getElem?_getD, -loadA, -storeA, -ixaA, -ixsA, -partA, -binA, -cut, -op_alloc, -List.all_eq_true, body89_2, keep89_2, head89_2, hlt, al, s0, hfa, hfk, hkey, lB0, lB, lT, lS, sS, part_bc2, part_bc1, part_sg0, part_sg4, p4, hlen, keep89_0, a', keep89_1, b', hc, hadd, hlss, heql, w1, w2, w3, w4, r1, r2, hi2, hi2', pg, hmx, g1, g2, hr]
        rw [hcut]
        intro nc _
        simp (maxSteps := 10000000) [-List.getD_eq_getElem?_getD, ]
      | false =>
        rw [hg] at pg
        simp (maxSteps := 10000000) [-List.getD_eq_getElem?_getD, -loadA, -storeA, -ixaA, -ixsA, -partA, -binA, -cut, -op_alloc, -List.all_eq_true, body89_2, keep89_2, head89_2, hlt, al, s0, hfa, hfk, hkey, lB0, lB, lT, lS, sS, part_bc2, part_bc1, part_sg0, part_sg4, p4, hlen, keep89_0, a', keep89_1, b', hc, hadd, hlss, heql, w1, w2, w3, w4, r1, r2, hi2, hi2', pg, hmx, g1, g2, hr]
        rw [hcut]
        intro nc _
        simp (maxSteps := 10000000) [-List.getD_eq_getElem?_getD, ]
    · have ho : X.x.bk.own S.chief = false := by simp [Bk.own, hr, hc]
      rw [ho, if_neg (by decide)]
      unfold Bk.psalm
      rw [ho, if_neg (by decide)]
      simp (maxSteps := 10000000) [-List.getD_eq_getElem?_getD, -loadA, -storeA, -ixaA, -ixsA, -partA, -binA, -cut, -op_alloc, -List.all_eq_true, body89_2, keep89_2, head89_2, hlt, al, s0, hfa, hfk, hkey, lB0, lB, lT, lS, sS, part_bc2, part_bc1, part_sg0, part_sg4, p4, hlen, keep89_0, a', keep89_1, b', hc, hadd, hlss, heql, w1, w2, w3, w4, r1, r2, hi2, hi2', pg, hmx, g1, g2, hr]
      rw [hcut]
      intro nc _
      simp (maxSteps := 10000000) [-List.getD_eq_getElem?_getD, ]
end Go.Ai

set_option maxRecDepth 100000
namespace Go.Ai
open Go.Office (Ft Rl Us Nt Bk Mt Dy DyK Dy0 Sg addB clrB moveN)
theorem callA_imp {C : Cfg} {R : Rec} {d : Bool} {f : FuncId} {a b args : List AV} {σ : St} (h : C.imp f = true) (hs : C.srt f = false) : callA C R d (.fn (.func f) a b) args σ = cutR σ (bodyA C R f (a ++ args ++ b) σ) := by simp [callA, h, hs]
theorem body_run {C : Cfg} {f : FuncId} {args : List AV} {fn : MF} {σ : St} (h : compF C f = some fn) (hl : args.length ≤ fn.ntmps) : bodyA C (run C) f args σ = endA fn.results (run C f fn.body (mkE fn.ntmps .undef (argL 0 args [])) σ) := by
  unfold bodyA; rw [h, Option.bind_some, startE hl]
theorem retA_nil (e : Env) (σ : St) : retA [] e σ = some (.tup []) := rfl
def putS (u : Nat) : List Sg → Int → SM → SM
  | [], _, m => m
  | s :: l, d, m => putS u l (d + 1) (SM.put m ((u : Nat), d) s)
theorem come_len (b : Bk) (u : Nat) (d : Int) (s : Dy) (k : Nat) : (b.come u d s k).mets.length ≤ s.mets.length + 1 := by
  by_cases h : s.chief < 0
  · rw [Go.Office.come_first h]; show s.mets.length ≤ _; omega
  · rw [Go.Office.come_next h]; show (s.mets ++ [_]).length ≤ _; rw [List.length_append, List.length_singleton]; omega
theorem dayF_len (b : Bk) (u : Nat) (d : Int) (now : Nat → Int) : ∀ (n k : Nat) (s : Dy), (b.dayF u d now n k s).mets.length ≤ s.mets.length + n
  | 0, _, s => by rw [Bk.dayF]; omega
  | n + 1, k, s => by
    rw [Bk.dayF]
    split
    · have := dayF_len b u d now n (k + 1) (b.come u d s k)
      have := come_len b u d s k
      omega
    · have := dayF_len b u d now n (k + 1) s
      omega
theorem day_len (b : Bk) (u : Nat) (d : Int) (now : Nat → Int) : (b.dayS u d now).mets.length ≤ b.fs.length := by
  have := dayF_len b u d now b.fs.length 0 Dy0
  have h0 : Dy0.mets.length = 0 := rfl
  rw [h0, Nat.zero_add] at this
  exact this
theorem loop89_2 (X : TX) (hX : X.Ok) : ∀ (n : Nat) (d : Int) (ms : List Mt) (sm : SM) (now : Nat → Int) (ps : Int), 0 ≤ d → d + n = X.x.days → (ms.length : Int) ≤ 4 * d → 0 ≤ ps → ps ≤ d →
    ∃ L now', run Cv 89 (.loop keep89_2 body89_2) (head89_2 X ps d) (X.st ms sm now []) = some (.ex 0, mkE 169 .any L, X.st (ms ++ X.x.bk.meet X.u n d now) (putS X.u (X.x.bk.sing X.u n d now ps) d sm) now' [])
  | 0, d, ms, sm, now, ps, h0, hd, hm, hp, hp' => by
    have hlt : ¬ d < X.x.days := by omega
    rw [Bk.meet, Bk.sing, putS, List.append_nil]
    have : ∃ L, run Cv 89 (.loop keep89_2 body89_2) (head89_2 X ps d) (X.st ms sm now []) = some (.ex 0, mkE 169 .any L, X.st ms sm now []) := by
      rw [run_loop]
      simp (maxSteps := 10000000) [-List.getD_eq_getElem?_getD, body89_2, keep89_2, head89_2, hlt]
      exact ⟨_, rfl⟩
    obtain ⟨L, h⟩ := this
    exact ⟨L, now, h⟩
  | n + 1, d, ms, sm, now, ps, h0, hd, hm, hp, hp' => by
    have d6 := hX.d6
    have n4 := hX.n4
    have hl := day_len X.x.bk X.u d now
    have hbl : X.x.bk.fs.length = X.x.fs.length := rfl
    rw [round89_2 X hX ms (by omega) sm now ps d h0 (by omega) ⟨hp, by omega⟩, Bk.meet, Bk.sing, putS]
    obtain ⟨L, now', ih⟩ := loop89_2 X hX n (d + 1) (ms ++ (X.x.bk.dayS X.u d now).mets) (SM.put sm ((X.u : Nat), d) ⟨(X.x.bk.dayS X.u d now).chief, (X.x.bk.dayS X.u d now).set, (X.x.bk.dayS X.u d now).moved, X.x.bk.psalm X.u d ps (X.x.bk.dayS X.u d now).chief⟩) (moveN (X.x.bk.dayS X.u d now).moved d now) (if X.x.bk.own (X.x.bk.dayS X.u d now).chief then ps + 1 else ps) (by omega) (by omega) (by rw [List.length_append]; omega) (by split <;> omega) (by split <;> omega)
    refine ⟨L, now', ?_⟩
    rw [ih, List.append_assoc]
def TX.s0 (X : TX) (ms : List Mt) (sm : SM) : St := { boxes := X.B ++ [X.tc ms], chains := X.ch ++ growC 3 (ms.map metA), maps := [(ksM sm, vsM sm)], loops := [X.L] }
theorem t_cut0 (X : TX) (hX : X.Ok) (ms' : List Mt) (sm sm' : SM) (now' : Nat → Int) (F : List (List AV)) (e : Env) (he : ∀ nc, e.all (under (X.B.length + 1) nc 1 1 6) = true) : cut (X.s0 [] sm) (X.st ms' sm' now' F) e = X.s0 ms' sm' := by
  have hlen0 : (X.s0 [] sm).boxes.length = X.B.length + 1 := by simp [TX.s0]
  have ht : (X.B ++ ([X.tc ms', X.bc, arr4 now'] ++ F)).take (X.B.length + 1) = X.B ++ [X.tc ms'] := by
    rw [show X.B ++ ([X.tc ms', X.bc, arr4 now'] ++ F) = (X.B ++ [X.tc ms']) ++ ([X.bc, arr4 now'] ++ F) by simp]
    rw [List.take_left']
    simp
  have hchl : ∀ ms : List Mt, (X.ch ++ growC 3 (ms.map metA)).length = X.ch.length + if ms = [] then 0 else 1 := fun ms => by
    rw [List.length_append]
    unfold growC
    by_cases h : ms = []
    · simp [h]
    · simp [h]
  have hdry : ∀ nc, X.ch.length ≤ nc → dryAt nc (X.s0 [] sm) (X.st ms' sm' now' F) e = decide (ms' = [] ∨ X.ch.length < nc) := by
    intro nc hnc
    have b1 := hX.Bu (X.B.length + 1) nc (by omega) hnc
    have b2 := tc_under X hX ms' (X.B.length + 1) nc hnc
    have b5 := hX.Lu (X.B.length + 1) nc (by omega) hnc
    have b6 := he nc
    have k1 := ks_under (X.B.length + 1) nc 1 1 4 sm'
    have k2 := vs_under (X.B.length + 1) nc 1 1 4 sm'
    unfold dryAt
    rw [hlen0]
    have e1 : (X.st ms' sm' now' F).boxes = X.B ++ ([X.tc ms', X.bc, arr4 now'] ++ F) := rfl
    have e2 : (X.s0 [] sm).maps.length = 1 := rfl
    have e3 : (X.s0 [] sm).loops.length = 1 := rfl
    have e4 : (X.st ms' sm' now' F).maps = [(ksM sm', vsM sm')] := rfl
    have e5 : (X.st ms' sm' now' F).loops = [X.L] := rfl
    rw [e1, ht, e2, e3, e4, e5]
    simp only [List.take_succ_cons, List.take_zero, List.all_cons, List.all_nil, Bool.and_true, List.all_append, b1, b2, b5, b6, k1, k2, Bool.true_and]
  have hle : ∀ ms : List Mt, X.ch.length ≤ (X.ch ++ growC 3 (ms.map metA)).length := fun ms => by rw [hchl]; omega
  have c1 : (X.st ms' sm' now' F).chains = X.ch ++ growC 3 (ms'.map metA) := rfl
  have c2 : (X.s0 [] sm).chains = X.ch ++ growC 3 (([] : List Mt).map metA) := rfl
  have h2 : dryAt (X.st ms' sm' now' F).chains.length (X.s0 [] sm) (X.st ms' sm' now' F) e = true := by
    rw [c1, hdry _ (hle ms'), hchl, decide_eq_true_eq]
    by_cases h : ms' = []
    · exact .inl h
    · right; rw [if_neg h]; omega
  have h1 : (X.st ms' sm' now' F).chains.length = (X.s0 [] sm).chains.length ∨ dryAt (X.s0 [] sm).chains.length (X.s0 [] sm) (X.st ms' sm' now' F) e = false := by
    rw [c1, c2, hdry _ (hle []), hchl, hchl]
    by_cases h : ms' = []
    · left; rw [h]
    · right; simp [h]
  rw [cut_keep _ _ _ h2 h1]
  unfold cutAt
  rw [hlen0]
  have e1 : (X.st ms' sm' now' F).boxes = X.B ++ ([X.tc ms', X.bc, arr4 now'] ++ F) := rfl
  rw [e1, ht]
  simp [TX.st, TX.s0]
  exact List.take_of_length_le (by simp)
theorem bc_cell (X : TX) (hX : X.Ok) : X.bc.all AV.isCell = true := by
  have p1 := hX.x.fr.cell
  have p2 := hX.x.q0.cell
  have p3 := hX.x.q1.cell
  simp [TX.bc, bkC, p1, p2, p3, hX.nvc]
theorem sing_callA (X : TX) (hX : X.Ok) (sm : SM) : callA Cv (run Cv) false (.fn (.func 89) [] []) [.agg X.bc, .box X.B.length 0, I X.u] (X.s0 [] sm) = some (.tup [], X.s0 (X.x.bk.meet X.u X.x.days.toNat 0 X.q) (putS X.u (X.x.bk.sing X.u X.x.days.toNat 0 X.q 0) 0 sm)) := by
  have d1 := hX.d1
  obtain ⟨L, now', hl⟩ := loop89_2 X hX X.x.days.toNat 0 [] sm X.q 0 (by omega) (by omega) (by simp) (by omega) (by omega)
  rw [List.nil_append] at hl
  have hl' := fun E (hE : mask keep89_2 E = _) => run_at hl hE
  simp only [keep89_2, head89_2] at hl'
  have hcell := bc_cell X hX
  have hbox : boxA (X.s0 [] sm) (.agg X.bc) = some (.box (X.B.length + 1) 0, { boxes := X.B ++ [X.tc [], X.bc], chains := X.ch, maps := [(ksM sm, vsM sm)], loops := [X.L] }) := by
    simp [boxA, hcell, TX.s0, growC]
  have ldt : loadA { boxes := X.B ++ [X.tc [], X.bc], chains := X.ch, maps := [(ksM sm, vsM sm)], loops := [X.L] } (some 4) (.box X.B.length 0) = some (.agg (arr4 X.q)) := by
    rw [show X.B.length = X.B.length + 0 from rfl, box_ld (B := X.B) (G := [X.tc [], X.bc]) rfl (q := 0) rfl]
    unfold TX.tc arr4
    split <;> rfl
  have lal : ∀ (R : Rec) (e : Env), operA Cv R false e { boxes := X.B ++ [X.tc [], X.bc], chains := X.ch, maps := [(ksM sm, vsM sm)], loops := [X.L] } (.alloc [I 0, I 0, I 0, I 0]) = some (.box (X.B.length + 2) 0, { boxes := X.B ++ [X.tc [], X.bc, [I 0, I 0, I 0, I 0]], chains := X.ch, maps := [(ksM sm, vsM sm)], loops := [X.L] }) := fun R e => by
    simp [operA]
  have lst : storeA { boxes := X.B ++ [X.tc [], X.bc, [I 0, I 0, I 0, I 0]], chains := X.ch, maps := [(ksM sm, vsM sm)], loops := [X.L] } 4 (.box (X.B.length + 2) 0) (.agg (arr4 X.q)) = some (X.st [] sm X.q []) := by
    rw [box_st (B := X.B) (G := [X.tc [], X.bc, [I 0, I 0, I 0, I 0]]) rfl rfl (q := 2) rfl 4 0 (.agg (arr4 X.q)) rfl (by show 0 + 4 ≤ 4; omega) rfl]
    simp [TX.st, growC, setAt, arr4, AV.cells]
  have ldd := ldB (X := X) (ms := []) (sm := sm) (now := X.q) []
  have hcut := t_cut0 X hX (X.x.bk.meet X.u X.x.days.toNat 0 X.q) sm (putS X.u (X.x.bk.sing X.u X.x.days.toNat 0 X.q 0) 0 sm) now' [] [.tup []] (fun nc => rfl)
  have pd : partA none X.bc 0 = some (I X.x.days) := rfl
  rw [callA_imp (by rfl) (by rfl), body_run comp89 (Nat.le_of_ble_eq_true rfl)]
  simp (maxSteps := 10000000) [-List.getD_eq_getElem?_getD, -boxA, -loadA, -storeA, -op_alloc, -partA, -cut, code89, hbox, ldt, lal, lst, ldd, pd, keep89_2, hl', retA_nil, cutR, hcut]
end Go.Ai
