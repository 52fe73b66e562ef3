/- This text shows voices: all voices of a book. No conditions of its own. -/
import Derived.Test.YtbjdaefdifofkaaDoorVoxA
set_option linter.unusedSimpArgs false
set_option linter.unusedVariables false
set_option maxRecDepth 100000
namespace Go.Ai.Vc
attribute [local simp] opsA_cons opsA_nil oneA condA putR thenA_nm thenA_rt thenA_ex nmA wantedA operA putA ev retA retsA pur depth List.replicate List.getD purR endA condC_bool blockA_nm blockA_rt blockA_ex againA pureA_call call_none pureCallA backA purAll mask
structure Acc where
  l : AV
  ks : List AV
  vs : List AV
  ch : List (Nat × Nat)
def bcells (x : Book) (tr : AV) : List AV := x.cells ++ [tr, .mp 0]
def rightV (x : Book) (tr : AV) : AV := .fn (.func 129) [.agg (bcells x tr)] []
def fromV : AV := .fn (.func 130) [] [.box 11 0, .box 12 0, .box 9 0, .box 6 0, .box 7 0, .box 8 0]
def spansV (b : Boy) : List AV := [I b.low.low, I b.low.high, I b.high.low, I b.high.high, I b.gain.low, I b.gain.high, I b.turn.low, I b.turn.high, I b.brk.low, I b.brk.high]
structure Fix where
  x : Book
  boy : Nat
  b : Boy
  tr : AV
  tr' : AV
  but : List Int
  r : AV
  L : Lp
  c0 : Nat
structure Fix.Ok (X : Fix) : Prop where
  x : X.x.Ok
  b : X.x.boys[X.boy]? = some X.b
  boyOk : boyOk X.b = true
  hbl : X.but.length < 2 ^ 47
  hr : VRow 1 (ints X.but) X.r
  trp : ∀ σ n, pur σ (n + 1) X.tr = some (X.tr', false)
  tru : ∀ a b c d n, X.c0 ≤ b → under a b c d (n + 1) X.tr = true
  trc : X.tr.isCell = true
  trp' : ∀ σ n, pur σ (n + 1) X.tr' = some (X.tr', false)
  tru' : ∀ a b c d n, under a b c d (n + 1) X.tr' = true
  trc' : X.tr'.isCell = true
  L : ∀ n nc, 8 ≤ n → X.c0 ≤ nc → X.L.env.all (under n nc 1 1 6) = true
def base (X : Fix) (A : Acc) : List (List AV) :=
  [X.x.cells, [.nils, I 0, .nils, .nils, .nilm], bcells X.x X.tr, [I X.boy], [A.l], bcells X.x X.tr, [I X.boy], [X.r]]
def base' (X : Fix) (A : Acc) : List (List AV) := base X A ++ [[.yld 0], [rightV X.x X.tr], X.b.cells, spansV X.b, [fromV]]
def S (X : Fix) (A : Acc) (ext : List (List AV)) : St := { boxes := base' X A ++ ext, chains := A.ch, maps := [(A.ks, A.vs)], loops := [X.L] }
structure Acc.Ok (X : Fix) (A : Acc) : Prop where
  c0 : X.c0 ≤ A.ch.length
  l : ∀ a b c d n, A.ch.length ≤ b → under a b c d (n + 1) A.l = true
  lc : A.l.isCell = true
  ks : ∀ σ n, purAll (pur σ (n + 2)) A.ks = some (A.ks, false)
  ku : ∀ a b c d n, A.ks.all (under a b c d (n + 2)) = true
  vs : ∃ vs', ∀ σ n, purAll (pur σ (n + 1)) A.vs = some (vs', false)
  vu : ∀ a b c d n, A.ch.length ≤ b → A.vs.all (under a b c d (n + 1)) = true
structure Acc.Le (A A' : Acc) : Prop where
  le : A.ch.length ≤ A'.ch.length
  new : ∀ b, A.ch.length ≤ b → b < A'.ch.length → ∀ a c d n, (under a b c d (n + 1) A'.l && A'.vs.all (under a b c d (n + 1))) = false
  mono : ∀ a b c d n, (under a b c d (n + 1) A.l && A.vs.all (under a b c d (n + 1))) = false → (under a b c d (n + 1) A'.l && A'.vs.all (under a b c d (n + 1))) = false
theorem Acc.Le.refl (A : Acc) : A.Le A := ⟨Nat.le_refl _, fun b h h' => by omega, fun _ _ _ _ _ h => h⟩
theorem Acc.Le.trans {A B D : Acc} (h : A.Le B) (h' : B.Le D) : A.Le D where
  le := Nat.le_trans h.le h'.le
  new b hb hb' a c d n := by
    rcases Nat.lt_or_ge b B.ch.length with q | q
    · exact h'.mono _ _ _ _ _ (h.new b hb q a c d n)
    · exact h'.new b q hb' a c d n
  mono a b c d n q := h'.mono _ _ _ _ _ (h.mono _ _ _ _ _ q)
def IntCells (cs : List AV) : Prop := ∀ a b c d n, cs.all (under a b c d (n + 1)) = true

theorem cut_keep (σ σ' : St) (e : Env) (h2 : dryAt σ'.chains.length σ σ' e = true) (h1 : σ'.chains.length = σ.chains.length ∨ dryAt σ.chains.length σ σ' e = false) : cut σ σ' e = cutAt σ'.chains.length σ σ' := by
  unfold cut
  rcases h1 with h | h
  · rw [← h, h2]; rfl
  · rw [h, h2]; rfl
theorem base'_length (X : Fix) (A : Acc) : (base' X A).length = 13 := rfl
theorem base_len (X : Fix) (A : Acc) (ext : List (List AV)) : (base' X A ++ ext).length = 13 + ext.length := by rw [List.length_append]; rfl

theorem base_under (X : Fix) (hX : X.Ok) (A : Acc) (hA : A.Ok X) (a nc : Nat) (ha : 13 ≤ a) (hc : A.ch.length ≤ nc) : (base' X A).all (fun cs => cs.all (under a nc 1 1 6)) = true := by
  have h0 := hA.c0
  have h1 : under a nc 1 1 6 A.l = true := hA.l a nc 1 1 5 hc
  have h2 : under a nc 1 1 6 X.tr = true := hX.tru a nc 1 1 5 (by omega)
  have h3 : under a nc 1 1 4 X.tr = true := hX.tru a nc 1 1 3 (by omega)
  have h4 : under a nc 1 1 6 X.r = true := hX.hr.under a nc 1 1 5
  have q : ∀ k, k < 13 → k < a := fun k hk => by omega
  simp [base', base, bcells, rightV, fromV, spansV, Boy.cells, Book.cells, under, h1, h2, h3, h4, q]

theorem cut_S (X : Fix) (hX : X.Ok) (A A' : Acc) (hA : A.Ok X) (hA' : A'.Ok X) (hle : A.Le A') (ext0 ext more : List (List AV)) (hl : ext0.length = ext.length) (hext : ∀ a b c d n, ext.all (fun cs => cs.all (under a b c d (n + 1))) = true) (e : Env)
    (he : ∀ nc, X.c0 ≤ nc → e.all (under (13 + ext.length) nc 1 1 6) = true) :
    cut (S X A ext0) (S X A' (ext ++ more)) e = S X A' ext := by
  have ht : (base' X A' ++ (ext ++ more)).take (13 + ext.length) = base' X A' ++ ext := by
    rw [← List.append_assoc, List.take_left']
    rw [base_len]
  have h2 : dryAt A'.ch.length (S X A ext0) (S X A' (ext ++ more)) e = true := by
    simp only [dryAt, S, base_len, hl, ht, List.length_singleton, List.take_succ_cons, List.take_zero, List.all_cons, List.all_nil, Bool.and_true, List.all_append, Bool.and_eq_true]
    exact ⟨⟨⟨he _ hA'.c0, base_under X hX A' hA' _ _ (by omega) (Nat.le_refl _), hext _ _ _ _ 5⟩, hA'.ku _ _ _ _ 4, hA'.vu _ _ _ _ 5 (Nat.le_refl _)⟩, hX.L _ _ (by omega) hA'.c0⟩
  have h1 : A'.ch.length = A.ch.length ∨ dryAt A.ch.length (S X A ext0) (S X A' (ext ++ more)) e = false := by
    rcases Nat.lt_or_ge A.ch.length A'.ch.length with h | h
    · right
      have := hle.new _ (Nat.le_refl _) h (13 + ext.length) 1 1 5
      simp only [dryAt, S, base_len, hl, ht, List.length_singleton, List.take_succ_cons, List.take_zero, List.all_cons, List.all_nil, Bool.and_true, List.all_append]
      rw [Bool.and_eq_false_iff] at this
      rcases this with h' | h'
      · have : (base' X A').all (fun cs => cs.all (under (13 + ext.length) A.ch.length 1 1 6)) = false := by
          simp [base', base, h']
        rw [this]; simp
      · have h' : A'.vs.all (under (13 + ext.length) A.ch.length 1 1 6) = false := h'
        rw [h']; simp
    · left; have := hle.le; omega
  rw [cut_keep _ _ _ h2 h1]
  simp only [cutAt, S, base_len, hl, ht]
  simp

theorem getE0 (X : Fix) (A : Acc) (ext : List (List AV)) (a b : List AV) : (base' X A ++ (ext ++ [a, b]))[13 + ext.length]? = some a := by
  rw [List.getElem?_append_right (by rw [base'_length]; omega), base'_length, List.getElem?_append_right (by omega)]
  simp
theorem getE1 (X : Fix) (A : Acc) (ext : List (List AV)) (a b : List AV) : (base' X A ++ (ext ++ [a, b]))[14 + ext.length]? = some b := by
  rw [List.getElem?_append_right (by rw [base'_length]; omega), base'_length, List.getElem?_append_right (by omega)]
  rw [show 14 + ext.length - 13 - ext.length = 1 by omega]; rfl
theorem setE0 (X : Fix) (A : Acc) (ext : List (List AV)) (a b a' : List AV) : (base' X A ++ (ext ++ [a, b])).set (13 + ext.length) a' = base' X A ++ (ext ++ [a', b]) := by
  rw [List.set_append_right _ _ (by rw [base'_length]; omega), base'_length, List.set_append_right _ _ (by omega)]
  simp
theorem setE1 (X : Fix) (A : Acc) (ext : List (List AV)) (a b b' : List AV) : (base' X A ++ (ext ++ [a, b])).set (14 + ext.length) b' = base' X A ++ (ext ++ [a, b']) := by
  rw [List.set_append_right _ _ (by rw [base'_length]; omega), base'_length, List.set_append_right _ _ (by omega)]
  rw [show 14 + ext.length - 13 - ext.length = 1 by omega]; rfl
theorem load_v (X : Fix) (A : Acc) (ext : List (List AV)) (a b : List AV) (n : Option Nat) (off : Nat) : loadA (S X A (ext ++ [a, b])) n (.box (13 + ext.length) off) = partA n a off := by
  simp only [loadA, S, getE0]; rfl
theorem load_s (X : Fix) (A : Acc) (ext : List (List AV)) (a b : List AV) (n : Option Nat) (off : Nat) : loadA (S X A (ext ++ [a, b])) n (.box (14 + ext.length) off) = partA n b off := by
  simp only [loadA, S, getE1]; rfl
theorem load_base (X : Fix) (A : Acc) (ext : List (List AV)) (i : Nat) (hi : i < 13) (n : Option Nat) (off : Nat) : loadA (S X A ext) n (.box i off) = ((base' X A)[i]?).bind fun cs => partA n cs off := by
  simp only [loadA, S]
  rw [List.getElem?_append_left (by rw [base'_length]; exact hi)]
theorem store_v (X : Fix) (A : Acc) (ext : List (List AV)) (a b : List AV) (off : Nat) (n : Int) (h : off + 1 ≤ a.length) : storeA (S X A (ext ++ [a, b])) 1 (.box (13 + ext.length) off) (I n) = some (S X A (ext ++ [setAt a off [I n], b])) := by
  simp only [storeA, S, getE0, Option.bind_some, cells_int, List.length_singleton, Nat.zero_le, h, List.all_cons, isCell_int, List.all_nil, Bool.and_true, and_self, if_true, setE0]
theorem store_s (X : Fix) (A : Acc) (ext : List (List AV)) (a : List AV) (m n : Int) : storeA (S X A (ext ++ [a, [I 0, I 0]])) 2 (.box (14 + ext.length) 0) (.agg [I m, I n]) = some (S X A (ext ++ [a, [I m, I n]])) := by
  simp [storeA, S, getE1, setE1]
theorem boxes_len (X : Fix) (A : Acc) (ext : List (List AV)) : (S X A ext).boxes.length = 13 + ext.length := by simp only [S, base_len]
theorem box_S (X : Fix) (A : Acc) (ext : List (List AV)) (x : AV) (h : x.cells.all AV.isCell = true) : boxA (S X A ext) x = some (.box (13 + ext.length) 0, S X A (ext ++ [x.cells])) := by
  simp only [boxA, h, if_true, boxes_len]
  simp only [S, List.append_assoc]
theorem alloc_S (X : Fix) (A : Acc) (ext : List (List AV)) (z : List AV) : { S X A ext with boxes := (S X A ext).boxes ++ [z] } = S X A (ext ++ [z]) := by
  simp only [S, List.append_assoc]

def Vo.put (v : Vo) (k : Nat) (n : Int) : Vo := match k with
  | 0 => { v with low := n }
  | 1 => { v with high := n }
  | 2 => { v with gain := n }
  | 3 => { v with turn := n }
  | _ => { v with brk := n }
def Boy.span (b : Boy) (k : Nat) : Span := match k with
  | 0 => b.low
  | 1 => b.high
  | 2 => b.gain
  | 3 => b.turn
  | _ => b.brk
def head105 (kind p : Nat) (N k : Int) : Env :=
  [.any, I kind, .any, .box 12 0, .box 9 0, .box 6 0, .box 7 0, .box 8 0, .box (13 + p) 0, .any, .any, .box (14 + p) 0] ++ List.replicate 9 .any ++ [I N, I k] ++ List.replicate 27 .any
theorem callA_yld {C : Cfg} {R : Rec} {d : Bool} {l : Nat} {args : List AV} {σ : St} : callA C R d (.yld l) args σ = roundA R l args σ := rfl
theorem round105 (X : Fix) (hX : X.Ok) (A A' : Acc) (hA : A.Ok X) (hA' : A'.Ok X) (hle : A.Le A') (ext : List (List AV)) (hext : ∀ a b c d n, ext.all (fun cs => cs.all (under a b c d (n + 1))) = true) (kind : Nat) (hk : kind < 4) (v : Vo) (N i lo hi : Int)
    (hiN : i < N) (hN : N ≤ 100) (h0 : 0 ≤ i) (hlo : 0 ≤ lo) (hlo' : lo ≤ 100)
    (hrec : callA Cv (run Cv) false fromV [(v.put kind (lo + i)).av, I (kind + 1)] (S X A (ext ++ [(v.put kind (lo + i)).cells, [I lo, I hi]])) = some (.bool true, S X A' (ext ++ [(v.put kind (lo + i)).cells, [I lo, I hi]]))) :
    run Cv 130 (.loop keep130_0 body130_0) (head105 kind ext.length N i) (S X A (ext ++ [v.cells, [I lo, I hi]])) =
      run Cv 130 (.loop keep130_0 body130_0) (head105 kind ext.length N (i + 1)) (S X A' (ext ++ [(v.put kind (lo + i)).cells, [I lo, I hi]])) := by
  have w1 : IntKind.wrap .i64 (lo + i) = lo + i := wrap_small (by omega) (by omega)
  have w2 : IntKind.wrap .i64 (i + 1) = i + 1 := wrap_small (by omega) (by omega)
  rw [run_loop]
  generalize MC.loop keep130_0 body130_0 = L
  have hk' : kind = 0 ∨ kind = 1 ∨ kind = 2 ∨ kind = 3 := by omega
  have z1 : IntKind.wrap .i64 1 = 1 := wrap_small (by omega) (by omega)
  have z2 : IntKind.wrap .i64 2 = 2 := wrap_small (by omega) (by omega)
  have z3 : IntKind.wrap .i64 3 = 3 := wrap_small (by omega) (by omega)
  have z4 : IntKind.wrap .i64 4 = 4 := wrap_small (by omega) (by omega)
  have hc : ∀ v' : Vo, ∀ e : Env, (∀ nc, X.c0 ≤ nc → e.all (under (13 + (ext ++ [v'.cells, [I lo, I hi]]).length) nc 1 1 6) = true) → cut (S X A (ext ++ [v.cells, [I lo, I hi]])) (S X A' (ext ++ [v'.cells, [I lo, I hi]])) e = S X A' (ext ++ [v'.cells, [I lo, I hi]]) := by
    intro v' e he
    have := cut_S X hX A A' hA hA' hle (ext ++ [v.cells, [I lo, I hi]]) (ext ++ [v'.cells, [I lo, I hi]]) [] (by simp) (by
      intro a b c d n
      simp [-cut, hext, Vo.cells, under]) e he
    simpa only [List.append_nil] using this
  have q1 : ∀ k, k < 13 → k < 13 + (ext.length + 2) := fun k hk => by omega
  have q2 : 13 + ext.length < 13 + (ext.length + 2) := by omega
  have q3 : 14 + ext.length < 13 + (ext.length + 2) := by omega
  rcases hk' with rfl | rfl | rfl | rfl
  · simp [Vo.put, Vo.cells, Vo.av] at hrec
    simp [-loadA, -storeA, -boxA, -cut, body130_0, keep130_0, head105, hiN, load_s, store_v, load_v, load_base, w1, w2, Vo.cells, base', base, Vo.put, hrec, z1, z2, z3, z4]
    have hc' := hc ⟨lo + i, v.high, v.gain, v.turn, v.brk⟩
    simp only [Vo.cells] at hc'
    rw [hc']
    intro nc hnc
    simp [under, q1, q2, q3]
  · simp [Vo.put, Vo.cells, Vo.av] at hrec
    simp [-loadA, -storeA, -boxA, -cut, body130_0, keep130_0, head105, hiN, load_s, store_v, load_v, load_base, w1, w2, Vo.cells, base', base, Vo.put, hrec, z1, z2, z3, z4]
    have hc' := hc ⟨v.low, lo + i, v.gain, v.turn, v.brk⟩
    simp only [Vo.cells] at hc'
    rw [hc']
    intro nc hnc
    simp [under, q1, q2, q3]
  · simp [Vo.put, Vo.cells, Vo.av] at hrec
    simp [-loadA, -storeA, -boxA, -cut, body130_0, keep130_0, head105, hiN, load_s, store_v, load_v, load_base, w1, w2, Vo.cells, base', base, Vo.put, hrec, z1, z2, z3, z4]
    have hc' := hc ⟨v.low, v.high, lo + i, v.turn, v.brk⟩
    simp only [Vo.cells] at hc'
    rw [hc']
    intro nc hnc
    simp [under, q1, q2, q3]
  · simp [Vo.put, Vo.cells, Vo.av] at hrec
    simp [-loadA, -storeA, -boxA, -cut, body130_0, keep130_0, head105, hiN, load_s, store_v, load_v, load_base, w1, w2, Vo.cells, base', base, Vo.put, hrec, z1, z2, z3, z4]
    have hc' := hc ⟨v.low, v.high, v.gain, lo + i, v.brk⟩
    simp only [Vo.cells] at hc'
    rw [hc']
    intro nc hnc
    simp [under, q1, q2, q3]
end Go.Ai.Vc

set_option maxRecDepth 100000
namespace Go.Ai.Vc
attribute [local simp] opsA_cons opsA_nil oneA condA putR thenA_nm thenA_rt thenA_ex nmA wantedA operA putA ev retA retsA pur depth List.replicate List.getD purR endA condC_bool blockA_nm blockA_rt blockA_ex againA pureA_call call_none pureCallA backA purAll mask
theorem cutE (X : Fix) (hX : X.Ok) (A A' : Acc) (hA : A.Ok X) (hA' : A'.Ok X) (hle : A.Le A') (ext : List (List AV)) (hext : ∀ a b c d n, ext.all (fun cs => cs.all (under a b c d (n + 1))) = true) (v v' : Vo) (lo hi : Int) (e : Env)
    (he : ∀ nc, X.c0 ≤ nc → e.all (under (13 + (ext.length + 2)) nc 1 1 6) = true) : cut (S X A (ext ++ [v.cells, [I lo, I hi]])) (S X A' (ext ++ [v'.cells, [I lo, I hi]])) e = S X A' (ext ++ [v'.cells, [I lo, I hi]]) := by
  have := cut_S X hX A A' hA hA' hle (ext ++ [v.cells, [I lo, I hi]]) (ext ++ [v'.cells, [I lo, I hi]]) [] (by simp) (by
    intro a b c d n
    simp [-cut, hext, Vo.cells, under]) e (by simpa using he)
  simpa only [List.append_nil] using this

theorem right_callA (X : Fix) (hX : X.Ok) (A : Acc) (hA : A.Ok X) (E : List (List AV)) (v : Vo) :
    callA Cv (run Cv) false (rightV X.x X.tr) [I X.boy, v.av, X.r] (S X A E) = some (.bool (rightFrom X.b.loss v X.boy X.but X.x.trials 0), S X A E) := by
  obtain ⟨vs', hvs⟩ := hA.vs
  have hp : purAll (pur (S X A E) depth) ([.agg (bcells X.x X.tr)] ++ [I X.boy, v.av, X.r] ++ []) = some ([.agg (X.x.cells ++ [X.tr', .mapv A.ks vs']), I X.boy, v.av, X.r], true) := by
    have h1 : (S X A E).maps[0]? = some (A.ks, A.vs) := rfl
    simp [depth, purAll, pur, bcells, Book.cells, hX.trp, h1, hA.ks, hvs, Vo.av, Vo.cells, hX.hr.pur]
  have := right_call X.x hX.x X.tr' (.mapv A.ks vs') X.boy X.b hX.b v hX.trp' (fun _ _ => rfl) hX.trc' rfl X.but X.r hX.hbl hX.hr (fun a b c d => hX.tru' a b c d 5) (fun _ _ _ _ => rfl)
  rw [rightV, call_none (by rfl), hp]
  simp only [pureCallA, pureA_call, this, backA, if_true]
  simp [fo, depth]

theorem round105' (X : Fix) (hX : X.Ok) (A A' : Acc) (hA : A.Ok X) (hA' : A'.Ok X) (hle : A.Le A') (ext : List (List AV)) (hext : ∀ a b c d n, ext.all (fun cs => cs.all (under a b c d (n + 1))) = true) (v : Vo) (N i lo hi : Int)
    (hiN : i < N) (hN : N ≤ 100) (h0 : 0 ≤ i) (hlo : 0 ≤ lo) (hlo' : lo ≤ 100)
    (hy : if rightFrom X.b.loss (v.put 4 (lo + i)) X.boy X.but X.x.trials 0 = true then roundA (run Cv) 0 [(v.put 4 (lo + i)).av] (S X A (ext ++ [(v.put 4 (lo + i)).cells, [I lo, I hi]])) = some (.bool true, S X A' (ext ++ [(v.put 4 (lo + i)).cells, [I lo, I hi]])) else A' = A) :
    run Cv 130 (.loop keep130_0 body130_0) (head105 4 ext.length N i) (S X A (ext ++ [v.cells, [I lo, I hi]])) =
      run Cv 130 (.loop keep130_0 body130_0) (head105 4 ext.length N (i + 1)) (S X A' (ext ++ [(v.put 4 (lo + i)).cells, [I lo, I hi]])) := by
  have w1 : IntKind.wrap .i64 (lo + i) = lo + i := wrap_small (by omega) (by omega)
  have w2 : IntKind.wrap .i64 (i + 1) = i + 1 := wrap_small (by omega) (by omega)
  have q1 : ∀ k, k < 13 → k < 13 + (ext.length + 2) := fun k hk => by omega
  have q2 : 13 + ext.length < 13 + (ext.length + 2) := by omega
  have q3 : 14 + ext.length < 13 + (ext.length + 2) := by omega
  have hc := cutE X hX A A' hA hA' hle ext hext v (v.put 4 (lo + i)) lo hi
  have hr := right_callA X hX A hA (ext ++ [(v.put 4 (lo + i)).cells, [I lo, I hi]]) (v.put 4 (lo + i))
  simp only [Vo.put, Vo.cells, Vo.av] at hy hc hr
  rw [run_loop]
  generalize MC.loop keep130_0 body130_0 = L
  cases hR : rightFrom X.b.loss ⟨v.low, v.high, v.gain, v.turn, lo + i⟩ X.boy X.but X.x.trials 0 with
  | true =>
    simp only [hR, if_true] at hy hr
    simp [-loadA, -storeA, -boxA, -cut, body130_0, keep130_0, head105, hiN, load_s, store_v, load_v, load_base, w1, w2, Vo.cells, base', base, Vo.put, hr, callA_yld, hy]
    rw [hc]
    intro nc hnc
    simp [under, q1, q2, q3]
  | false =>
    simp only [hR] at hy hr
    simp at hy
    subst hy
    simp [-loadA, -storeA, -boxA, -cut, body130_0, keep130_0, head105, hiN, load_s, store_v, load_v, load_base, w1, w2, Vo.cells, base', base, Vo.put, hr, callA_yld]
    rw [hc]
    intro nc hnc
    simp [under, q1, q2, q3]
end Go.Ai.Vc

set_option maxRecDepth 100000
namespace Go.Ai.Vc
attribute [local simp] opsA_cons opsA_nil oneA condA putR thenA_nm thenA_rt thenA_ex nmA wantedA operA putA ev retA retsA pur depth List.replicate List.getD purR endA condC_bool blockA_nm blockA_rt blockA_ex againA pureA_call call_none pureCallA backA purAll mask
def vals (s : Span) : List Int := (List.range (s.high - s.low + 1).toNat).map fun (i : Nat) => s.low + i
def enum (b : Boy) (ok : Vo → Bool) : Nat → Vo → List Vo
  | 0, v => ((vals b.brk).map (v.put 4)).filter ok
  | d + 1, v => (vals (b.span (3 - d))).flatMap fun n => enum b ok d (v.put (3 - d) n)
theorem put_put (v : Vo) (k : Nat) (m n : Int) : (v.put k m).put k n = v.put k n := by
  match k with
  | 0 | 1 | 2 | 3 => rfl
  | n + 4 => rfl
structure Yields {T : Type} (X : Fix) (acc : T → Acc) (step : T → Vo → T) (Inv : Nat → T → Prop) : Prop where
  round : ∀ n M, Inv (n + 1) M → ∀ (E : List (List AV)) (v : Vo), (∀ a b c d n, E.all (fun cs => cs.all (under a b c d (n + 1))) = true) → roundA (run Cv) 0 [v.av] (S X (acc M) E) = some (.bool true, S X (acc (step M v)) E)
  ok : ∀ n M, Inv n M → (acc M).Ok X
  next : ∀ n M v, Inv (n + 1) M → Inv n (step M v)
  le : ∀ n M v, Inv (n + 1) M → (acc M).Le (acc (step M v))
theorem Yields.oks {T : Type} {X : Fix} {acc : T → Acc} {step : T → Vo → T} {Inv : Nat → T → Prop} (h : Yields X acc step Inv) : ∀ (l : List Vo) (n : Nat) (M : T), Inv (n + l.length) M → Inv n (l.foldl step M) ∧ (acc M).Le (acc (l.foldl step M))
  | [], n, M, hM => ⟨hM, .refl _⟩
  | v :: l, n, M, hM => by
    have hM' : Inv (n + l.length + 1) M := by rw [Nat.add_assoc]; exact hM
    have := h.oks l n (step M v) (h.next _ M v hM')
    exact ⟨this.1, (h.le _ M v hM').trans this.2⟩

theorem end105 (X : Fix) (A : Acc) (kind p : Nat) (N : Int) (E) : ∃ e, run Cv 130 (.loop keep130_0 body130_0) (head105 kind p N N) (S X A E) = some (.ex 0, e, S X A E) ∧ e.length = 50 := by
  rw [run_loop]
  simp [body130_0, keep130_0, head105]

def okV (X : Fix) (v : Vo) : Bool := rightFrom X.b.loss v X.boy X.but X.x.trials 0
theorem ext_ok {ext : List (List AV)} (hext : ∀ a b c d n, ext.all (fun cs => cs.all (under a b c d (n + 1))) = true) (v : Vo) (lo hi : Int) : ∀ a b c d n, (ext ++ [v.cells, [I lo, I hi]]).all (fun cs => cs.all (under a b c d (n + 1))) = true := by
  intro a b c d n
  simp [-cut, hext, Vo.cells, under]

theorem spans_ok {X : Fix} (hX : X.Ok) (k : Nat) (hk : k ≤ 4) : 0 ≤ (X.b.span k).low ∧ (X.b.span k).low ≤ (X.b.span k).high ∧ (X.b.span k).high ≤ 40 := by
  have h := hX.boyOk
  simp only [boyOk, spanOk, Bool.and_eq_true, decide_eq_true_eq] at h
  match k with
  | 0 => simp only [Boy.span]; omega
  | 1 => simp only [Boy.span]; omega
  | 2 => simp only [Boy.span]; omega
  | 3 => simp only [Boy.span]; omega
  | 4 => simp only [Boy.span]; omega

theorem from_entry (X : Fix) (hX : X.Ok) (A A' : Acc) (hA : A.Ok X) (hA' : A'.Ok X) (hle : A.Le A') (ext : List (List AV)) (hext : ∀ a b c d n, ext.all (fun cs => cs.all (under a b c d (n + 1))) = true) (k : Nat) (hk : k ≤ 4) (v : Vo)
    (hrun : ∃ e v', run Cv 130 (.loop keep130_0 body130_0) (head105 k ext.length ((X.b.span k).high - (X.b.span k).low + 1) 0) (S X A (ext ++ [v.cells, [I (X.b.span k).low, I (X.b.span k).high]])) = some (.ex 0, e, S X A' (ext ++ [Vo.cells v', [I (X.b.span k).low, I (X.b.span k).high]])) ∧ e.length = 50) :
    callA Cv (run Cv) false fromV [v.av, I k] (S X A ext) = some (.bool true, S X A' ext) := by
  obtain ⟨s1, s2, s3⟩ := spans_ok hX k hk
  have w1 : IntKind.wrap .i64 ((X.b.span k).high - (X.b.span k).low) = (X.b.span k).high - (X.b.span k).low := wrap_small (by omega) (by omega)
  have w2 : IntKind.wrap .i64 ((X.b.span k).high - (X.b.span k).low + 1) = (X.b.span k).high - (X.b.span k).low + 1 := wrap_small (by omega) (by omega)
  obtain ⟨e, v', h1, h2⟩ := hrun
  have e1 : 13 + (ext.length + 1) = 14 + ext.length := by omega
  have hc : cut (S X A ext) (S X A' (ext ++ [Vo.cells v', [I (X.b.span k).low, I (X.b.span k).high]])) [.bool true] = S X A' ext := cut_S X hX A A' hA hA' hle ext ext _ rfl hext _ (fun _ _ => rfl)
  have hsp : ∀ n off, loadA (S X A (ext ++ [v.cells])) n (.box 11 off) = partA n (spansV X.b) off := fun n off => by rw [load_base _ _ _ _ (by omega)]; rfl
  have hp : partA (some 2) (spansV X.b) (k * 2) = some (.agg [I (X.b.span k).low, I (X.b.span k).high]) := by
    have : k = 0 ∨ k = 1 ∨ k = 2 ∨ k = 3 ∨ k = 4 := by omega
    rcases this with rfl | rfl | rfl | rfl | rfl <;> rfl
  have hk5 : (k : Int) < 5 := by omega
  have hk5' : k < 5 := by omega
  have hsp2 : loadA (S X A (ext ++ [v.cells])) (some 2) (.box 11 (k * 2)) = some (.agg [I (X.b.span k).low, I (X.b.span k).high]) := by rw [hsp, hp]
  have hbox : boxA (S X A ext) v.av = some (.box (13 + ext.length) 0, S X A (ext ++ [v.cells])) := box_S X A ext v.av rfl
  simp only [callA, fromV, imp_Cv]
  simp [-loadA, -storeA, -boxA, -cut, bodyA, comp130, code130, hbox, hsp2, hk5, hk5', alloc_S, boxes_len, e1, store_s, load_s, w1, w2]
  rw [run_loop_mask]
  rw [show mask keep130_0 _ = head105 k ext.length ((X.b.span k).high - (X.b.span k).low + 1) 0 from by simp [keep130_0, head105]]
  rw [h1]
  simp [-cut, cutR, h2, hc]

theorem vals_get (s : Span) (i : Nat) (l : List Int) (n : Int) (h : (vals s).drop i = n :: l) : n = s.low + i ∧ (i : Int) < s.high - s.low + 1 ∧ (vals s).drop (i + 1) = l := by
  have h1 : (vals s)[i]? = some n := by
    have : ((vals s).drop i)[0]? = some n := by rw [h]; rfl
    simpa using this
  simp only [vals, List.getElem?_map, Option.map_eq_some_iff] at h1
  obtain ⟨j, h1, h2⟩ := h1
  obtain ⟨h3, h4⟩ := List.getElem?_eq_some_iff.1 h1
  simp only [List.length_range] at h3
  simp only [List.getElem_range] at h4
  subst h4
  exact ⟨h2.symm, by omega, by rw [← List.drop_drop, h]; rfl⟩
theorem vals_end (s : Span) (i : Nat) (h : (vals s).drop i = []) (hi : (i : Int) ≤ s.high - s.low + 1) : (i : Int) = s.high - s.low + 1 := by
  have := List.drop_eq_nil_iff.1 h
  simp only [vals, List.length_map, List.length_range] at this
  omega

section
variable {T : Type} {X : Fix} {acc : T → Acc} {step : T → Vo → T} {Inv : Nat → T → Prop}
theorem loop105' (hX : X.Ok) (hY : Yields X acc step Inv) (ext : List (List AV)) (hext : ∀ a b c d n, ext.all (fun cs => cs.all (under a b c d (n + 1))) = true) (v0 : Vo) (n0 : Nat) : ∀ (l : List Int) (i : Nat) (v : Vo) (A : T), Inv (n0 + ((l.map (v0.put 4)).filter (okV X)).length) A → (∀ n, v.put 4 n = v0.put 4 n) → (i : Int) ≤ X.b.brk.high - X.b.brk.low + 1 → (vals X.b.brk).drop i = l →
    ∃ e v', run Cv 130 (.loop keep130_0 body130_0) (head105 4 ext.length (X.b.brk.high - X.b.brk.low + 1) i) (S X (acc A) (ext ++ [v.cells, [I X.b.brk.low, I X.b.brk.high]])) =
      some (.ex 0, e, S X (acc (((l.map (v0.put 4)).filter (okV X)).foldl step A)) (ext ++ [Vo.cells v', [I X.b.brk.low, I X.b.brk.high]])) ∧ e.length = 50
  | [], i, v, A, hA, hv, hi, h => by
    rw [vals_end _ _ h hi]
    obtain ⟨e, h1, h2⟩ := end105 X (acc A) 4 ext.length (X.b.brk.high - X.b.brk.low + 1) (ext ++ [v.cells, [I X.b.brk.low, I X.b.brk.high]])
    exact ⟨e, v, h1, h2⟩
  | n :: l, i, v, A, hA, hv, hi, h => by
    obtain ⟨g1, g2, g3⟩ := vals_get _ _ _ _ h
    obtain ⟨s1, s2, s3⟩ := spans_ok hX 4 (Nat.le_refl _)
    simp only [Boy.span] at s1 s2 s3
    have hw : v.put 4 (X.b.brk.low + i) = v0.put 4 n := by rw [hv, g1]
    have ih : ∀ A' : T, Inv (n0 + ((l.map (v0.put 4)).filter (okV X)).length) A' → _ := fun A' hA' => loop105' hX hY ext hext v0 n0 l (i + 1) (v0.put 4 n) A' hA' (fun m => put_put _ _ _ _) (by omega) g3
    cases hok : okV X (v0.put 4 n) with
    | true =>
      have hA' : Inv (n0 + ((l.map (v0.put 4)).filter (okV X)).length + 1) A := by simpa [hok, Nat.add_assoc] using hA
      have hr := round105' X hX (acc A) (acc (step A (v0.put 4 n))) (hY.ok _ A hA) (hY.ok _ _ (hY.next _ A _ hA')) (hY.le _ A _ hA') ext hext v (X.b.brk.high - X.b.brk.low + 1) i X.b.brk.low X.b.brk.high g2 (by omega) (by omega) s1 (by omega) (by
        rw [hw]; rw [if_pos (by simpa [okV] using hok)]
        exact hY.round _ A hA' _ _ (ext_ok hext _ _ _))
      rw [hr, hw]
      have := ih (step A (v0.put 4 n)) (hY.next _ A _ hA')
      simpa [hok] using this
    | false =>
      have hA' : Inv (n0 + ((l.map (v0.put 4)).filter (okV X)).length) A := by simpa [hok] using hA
      have hr := round105' X hX (acc A) (acc A) (hY.ok _ A hA) (hY.ok _ A hA) (.refl _) ext hext v (X.b.brk.high - X.b.brk.low + 1) i X.b.brk.low X.b.brk.high g2 (by omega) (by omega) s1 (by omega) (by
        rw [hw]; rw [if_neg (by simp only [okV] at hok; simp [hok])])
      rw [hr, hw]
      have := ih A hA'
      simpa [hok] using this

theorem loop105 (hX : X.Ok) (hY : Yields X acc step Inv) (d : Nat) (hd : d < 4)
    (hrec : ∀ (n : Nat) (v : Vo) (A : T), Inv (n + (enum X.b (okV X) d v).length) A → ∀ (E : List (List AV)), (∀ a b c d n, E.all (fun cs => cs.all (under a b c d (n + 1))) = true) → callA Cv (run Cv) false fromV [Vo.av v, I (((3 - d : Nat) : Int) + 1)] (S X (acc A) E) = some (.bool true, S X (acc ((enum X.b (okV X) d v).foldl step A)) E))
    (ext : List (List AV)) (hext : ∀ a b c d n, ext.all (fun cs => cs.all (under a b c d (n + 1))) = true) (v0 : Vo) (n0 : Nat) : ∀ (l : List Int) (i : Nat) (v : Vo) (A : T), Inv (n0 + (l.flatMap fun n => enum X.b (okV X) d (v0.put (3 - d) n)).length) A → (∀ n, v.put (3 - d) n = v0.put (3 - d) n) → (i : Int) ≤ (X.b.span (3 - d)).high - (X.b.span (3 - d)).low + 1 → (vals (X.b.span (3 - d))).drop i = l →
    ∃ e v', run Cv 130 (.loop keep130_0 body130_0) (head105 (3 - d) ext.length ((X.b.span (3 - d)).high - (X.b.span (3 - d)).low + 1) i) (S X (acc A) (ext ++ [v.cells, [I (X.b.span (3 - d)).low, I (X.b.span (3 - d)).high]])) =
      some (.ex 0, e, S X (acc ((l.flatMap fun n => enum X.b (okV X) d (v0.put (3 - d) n)).foldl step A)) (ext ++ [Vo.cells v', [I (X.b.span (3 - d)).low, I (X.b.span (3 - d)).high]])) ∧ e.length = 50
  | [], i, v, A, hA, hv, hi, h => by
    rw [vals_end _ _ h hi]
    obtain ⟨e, h1, h2⟩ := end105 X (acc A) (3 - d) ext.length ((X.b.span (3 - d)).high - (X.b.span (3 - d)).low + 1) (ext ++ [v.cells, [I (X.b.span (3 - d)).low, I (X.b.span (3 - d)).high]])
    exact ⟨e, v, h1, h2⟩
  | n :: l, i, v, A, hA, hv, hi, h => by
    obtain ⟨g1, g2, g3⟩ := vals_get _ _ _ _ h
    obtain ⟨s1, s2, s3⟩ := spans_ok hX (3 - d) (by omega)
    have hw : v.put (3 - d) ((X.b.span (3 - d)).low + i) = v0.put (3 - d) n := by rw [hv, g1]
    have hA' : Inv (n0 + (l.flatMap fun n => enum X.b (okV X) d (v0.put (3 - d) n)).length + (enum X.b (okV X) d (v0.put (3 - d) n)).length) A := by
      rw [List.flatMap_cons, List.length_append] at hA
      rw [Nat.add_assoc, Nat.add_comm (List.length (List.flatMap _ l))]
      exact hA
    obtain ⟨o1, o2⟩ := hY.oks (enum X.b (okV X) d (v0.put (3 - d) n)) _ A hA'
    have hr := round105 X hX (acc A) (acc ((enum X.b (okV X) d (v0.put (3 - d) n)).foldl step A)) (hY.ok _ _ hA) (hY.ok _ _ o1) o2 ext hext (3 - d) (by omega) v ((X.b.span (3 - d)).high - (X.b.span (3 - d)).low + 1) i (X.b.span (3 - d)).low (X.b.span (3 - d)).high g2 (by omega) (by omega) s1 (by omega) (by
      rw [hw]
      exact hrec _ _ A hA' _ (ext_ok hext _ _ _))
    rw [hr, hw]
    have := loop105 hX hY d hd hrec ext hext v0 n0 l (i + 1) (v0.put (3 - d) n) _ o1 (fun m => put_put _ _ _ _) (by omega) g3
    simpa using this

theorem from_call (hX : X.Ok) (hY : Yields X acc step Inv) : ∀ (d : Nat), d ≤ 4 → ∀ (n : Nat) (v : Vo) (A : T), Inv (n + (enum X.b (okV X) d v).length) A → ∀ (E : List (List AV)), (∀ a b c d n, E.all (fun cs => cs.all (under a b c d (n + 1))) = true) → callA Cv (run Cv) false fromV [Vo.av v, I ((4 - d : Nat) : Int)] (S X (acc A) E) = some (.bool true, S X (acc ((enum X.b (okV X) d v).foldl step A)) E)
  | 0, _, n, v, A, hA, E, hE => by
    obtain ⟨o1, o2⟩ := hY.oks (enum X.b (okV X) 0 v) _ A hA
    have := loop105' hX hY E hE v n (vals X.b.brk) 0 v A hA (fun _ => rfl) (by have := spans_ok hX 4 (Nat.le_refl _); simp only [Boy.span] at this; omega) rfl
    exact from_entry X hX (acc A) _ (hY.ok _ _ hA) (hY.ok _ _ o1) o2 E hE 4 (Nat.le_refl _) v this
  | d + 1, hd, n, v, A, hA, E, hE => by
    obtain ⟨o1, o2⟩ := hY.oks (enum X.b (okV X) (d + 1) v) _ A hA
    have hrec := from_call hX hY d (by omega)
    have e1 : ((4 - d : Nat) : Int) = ((3 - d : Nat) : Int) + 1 := by omega
    rw [e1] at hrec
    have := loop105 hX hY d (by omega) hrec E hE v n (vals (X.b.span (3 - d))) 0 v A hA (fun _ => rfl) (by have := spans_ok hX (3 - d) (by omega); omega) rfl
    have e2 : 4 - (d + 1) = 3 - d := by omega
    rw [e2]
    exact from_entry X hX (acc A) _ (hY.ok _ _ hA) (hY.ok _ _ o1) o2 E hE (3 - d) (by omega) v this
end
end Go.Ai.Vc

set_option maxRecDepth 100000
namespace Go.Ai.Vc
attribute [local simp] opsA_cons opsA_nil oneA condA putR thenA_nm thenA_rt thenA_ex nmA wantedA operA putA ev retA retsA pur depth List.replicate List.getD purR endA condC_bool blockA_nm blockA_rt blockA_ex againA pureA_call call_none pureCallA backA purAll mask
theorem callA_imp {C : Cfg} {R : Rec} {d : Bool} {f : FuncId} {a b args : List AV} {σ : St} (h : C.imp f = true) : callA C R d (.fn (.func f) a b) args σ = cutR σ (bodyA C R f (a ++ args ++ b) σ) := by simp [callA, h]
theorem run_range {C : Cfg} {f : FuncId} {g : Opd} {ps} {asg body : MC} {e : Env} {σ : St} : run C f (.range g ps asg body) e σ = if isFn (ev e g) then pendA (run C) σ.loops.length e (callA C (run C) false (ev e g) [.yld σ.loops.length] { σ with loops := σ.loops ++ [{ f, env := e, ps, asg, body, st := .ready, pend := none }] }) else none := by rw [run_eq]; rfl

def keyV (boy w : Nat) : AV := .agg [I boy, I w]
def keysFrom (boy : Nat) : Nat → Nat → List AV
  | _, 0 => []
  | j, n + 1 => keyV boy j :: keysFrom boy (j + 1) n
def rowC (es : List Vo) (c : Nat) : AV := .sl 5 (es.map Vo.av) (.chain c)
def rowN (es : List Vo) : AV := .sl 5 (es.map Vo.av) .no
def rowsFrom : Nat → List (List Vo) → List AV
  | _, [] => []
  | c, es :: l => rowC es c :: rowsFrom (c + 1) l
theorem keysFrom_length (boy : Nat) : ∀ (j n : Nat), (keysFrom boy j n).length = n
  | _, 0 => rfl
  | j, n + 1 => by simp [keysFrom, keysFrom_length boy (j + 1) n]
theorem keysFrom_succ (boy : Nat) : ∀ (j n : Nat), keysFrom boy j (n + 1) = keysFrom boy j n ++ [keyV boy (j + n)]
  | j, 0 => rfl
  | j, n + 1 => by
    rw [keysFrom, keysFrom_succ boy (j + 1) n, keysFrom]
    simp [Nat.add_assoc, Nat.add_comm 1 n]
theorem rowsFrom_length : ∀ (c : Nat) (l : List (List Vo)), (rowsFrom c l).length = l.length
  | _, [] => rfl
  | c, es :: l => by simp [rowsFrom, rowsFrom_length (c + 1) l]
theorem rowsFrom_append : ∀ (c : Nat) (l : List (List Vo)) (es : List Vo), rowsFrom c (l ++ [es]) = rowsFrom c l ++ [rowC es (c + l.length)]
  | c, [], es => rfl
  | c, e :: l, es => by
    rw [List.cons_append, rowsFrom, rowsFrom_append (c + 1) l es, rowsFrom]
    simp [Nat.add_assoc, Nat.add_comm 1]
theorem rowsFrom_get : ∀ (c : Nat) (l : List (List Vo)) (w : Nat), (rowsFrom c l)[w]? = (l[w]?).map fun es => rowC es (c + w)
  | c, [], w => rfl
  | c, e :: l, 0 => rfl
  | c, e :: l, w + 1 => by
    rw [rowsFrom, List.getElem?_cons_succ, List.getElem?_cons_succ, rowsFrom_get (c + 1) l w]
    simp [Nat.add_assoc, Nat.add_comm 1]
theorem rowsFrom_set : ∀ (c : Nat) (l : List (List Vo)) (w : Nat) (es : List Vo), rowsFrom c (l.set w es) = (rowsFrom c l).set w (rowC es (c + w))
  | c, [], w, es => rfl
  | c, e :: l, 0, es => rfl
  | c, e :: l, w + 1, es => by
    rw [rowsFrom, List.set_cons_succ, List.set_cons_succ, rowsFrom, rowsFrom_set (c + 1) l w]
    simp [Nat.add_assoc, Nat.add_comm 1]

structure Old where
  ks : List (Int × Int)
  vs : List AV
  ch : List (Nat × Nat)
structure Old.Ok (o : Old) (boy : Nat) : Prop where
  len : o.ks.length = o.vs.length
  new : ∀ k ∈ o.ks, k.1 ≠ boy
  vs : ∃ vs', ∀ σ n, purAll (pur σ (n + 1)) o.vs = some (vs', false)
  vu : ∀ a b c d n, o.ch.length ≤ b → o.vs.all (under a b c d (n + 1)) = true
def pairV (k : Int × Int) : AV := .agg [I k.1, I k.2]
structure Ms where
  l : List Vo
  ws : List (List Vo)
def Ms.lV (M : Ms) (c : Nat) : AV := if M.l = [] then .nils else rowC M.l c
def Ms.chV (M : Ms) : List (Nat × Nat) := if M.l = [] then [] else (M.l.length, 5) :: M.ws.map fun es => (es.length, 5)
def accM (boy : Nat) (o : Old) (M : Ms) : Acc := { l := M.lV o.ch.length, ks := o.ks.map pairV ++ keysFrom boy 0 M.ws.length, vs := o.vs ++ rowsFrom (o.ch.length + 1) M.ws, ch := o.ch ++ M.chV }
def addW (ws : List (List Vo)) (w : Nat) (v : Vo) : List (List Vo) := if w < ws.length then ws.set w (ws.getD w [] ++ [v]) else ws ++ [[v]]
def addTo : Nat → List (List Vo) → Vo → List (List Vo)
  | 0, ws, _ => ws
  | w + 1, ws, v => addW (addTo w ws v) w v
theorem addTo_length : ∀ (w : Nat) (ws : List (List Vo)) (v : Vo), (addTo w ws v).length = max w ws.length
  | 0, ws, v => by simp [addTo]
  | w + 1, ws, v => by
    have := addTo_length w ws v
    simp only [addTo, addW]
    split <;> simp <;> omega

theorem find_app (kn : Option Nat) (k : AV) : ∀ (l m : List AV) (i : Nat), findA kn k l i = some none → findA kn k (l ++ m) i = findA kn k m (i + l.length)
  | [], m, i, h => rfl
  | x :: l, m, i, h => by
    simp only [findA, List.cons_append] at h ⊢
    cases hk : keyEq kn k x with
    | none => rw [hk] at h; cases h
    | some r =>
      rw [hk] at h
      simp only [Option.bind_some] at h ⊢
      cases r with
      | true => cases h
      | false =>
        simp only [Bool.false_eq_true, if_false] at h ⊢
        rw [find_app kn k l m (i + 1) h, List.length_cons]
        congr 1
        omega
theorem find_old (boy w : Nat) : ∀ (ks : List (Int × Int)) (i : Nat), (∀ k ∈ ks, k.1 ≠ boy) → findA (some 2) (keyV boy w) (ks.map pairV) i = some none
  | [], i, h => rfl
  | k :: ks, i, h => by
    have h1 := h k List.mem_cons_self
    have h2 := find_old boy w ks (i + 1) fun k hk => h k (List.mem_cons_of_mem _ hk)
    simp [findA, keyEq, pairV, keyV, eqCells, Ne.symm h1]
    exact h2
theorem find_new (boy w : Nat) : ∀ (j n i : Nat), j ≤ w → findA (some 2) (keyV boy w) (keysFrom boy j n) i = some (if w < j + n then some (i + (w - j)) else none)
  | j, 0, i, hj => by simp only [keysFrom, findA]; rw [if_neg (by omega)]
  | j, n + 1, i, hj => by
    have ih := fun h => find_new boy w (j + 1) n (i + 1) h
    simp only [keysFrom, findA, keyEq, keyV]
    simp [eqCells]
    by_cases h : w = j
    · subst h; simp
    · rw [if_neg (by omega)]
      have := ih (by omega)
      simp only [keyV] at this
      rw [this]
      by_cases h2 : w < j + (n + 1)
      · rw [if_pos (by omega), if_pos (by omega)]; congr 2; omega
      · rw [if_neg (by omega), if_neg (by omega)]
theorem find_key (boy w : Nat) (o : Old) (ho : o.Ok boy) (n : Nat) : findA (some 2) (keyV boy w) (o.ks.map pairV ++ keysFrom boy 0 n) 0 = some (if w < n then some (o.ks.length + w) else none) := by
  rw [find_app _ _ _ _ _ (find_old boy w o.ks 0 ho.new), find_new boy w 0 n _ (Nat.zero_le _)]
  simp

section
variable {X : Fix} {o : Old} (E : List (List AV)) (M : Ms)
theorem ment_old (ho : o.Ok X.boy) (w : Nat) (hw : w < M.ws.length) (l : AV) (ch) : mentA (S X ⟨l, o.ks.map pairV ++ keysFrom X.boy 0 M.ws.length, o.vs ++ rowsFrom (o.ch.length + 1) M.ws, ch⟩ E) (some 2) .nils (.mp 0) (keyV X.boy w) = some (.tup [rowC (M.ws.getD w []) (o.ch.length + 1 + w), I ((o.ks.length + w : Nat))], S X ⟨l, o.ks.map pairV ++ keysFrom X.boy 0 M.ws.length, o.vs ++ rowsFrom (o.ch.length + 1) M.ws, ch⟩ E) := by
  have h1 : (S X ⟨l, o.ks.map pairV ++ keysFrom X.boy 0 M.ws.length, o.vs ++ rowsFrom (o.ch.length + 1) M.ws, ch⟩ E).maps = [(o.ks.map pairV ++ keysFrom X.boy 0 M.ws.length, o.vs ++ rowsFrom (o.ch.length + 1) M.ws)] := rfl
  have h2 : keyOk (some 2) (keyV X.boy w) = true := rfl
  have h3 : (S X ⟨l, o.ks.map pairV ++ keysFrom X.boy 0 M.ws.length, o.vs ++ rowsFrom (o.ch.length + 1) M.ws, ch⟩ E).mro = 0 := rfl
  have h4 : (o.vs ++ rowsFrom (o.ch.length + 1) M.ws)[o.ks.length + w]? = some (rowC (M.ws.getD w []) (o.ch.length + 1 + w)) := by
    rw [ho.len, List.getElem?_append_right (by omega), Nat.add_sub_cancel_left, rowsFrom_get, List.getElem?_eq_getElem hw]
    simp [hw]
  simp only [mentA, h1, List.getElem?_cons_zero, Option.bind_some, h2, h3, Nat.le_refl, and_self, if_true, find_key X.boy w o ho, if_pos hw, h4, Option.map_some]
theorem ment_new (ho : o.Ok X.boy) (l : AV) (ch) : mentA (S X ⟨l, o.ks.map pairV ++ keysFrom X.boy 0 M.ws.length, o.vs ++ rowsFrom (o.ch.length + 1) M.ws, ch⟩ E) (some 2) .nils (.mp 0) (keyV X.boy M.ws.length) =
    some (.tup [.nils, I ((o.ks.length + M.ws.length : Nat))], S X ⟨l, o.ks.map pairV ++ keysFrom X.boy 0 (M.ws.length + 1), o.vs ++ rowsFrom (o.ch.length + 1) M.ws ++ [.nils], ch⟩ E) := by
  have h1 : (S X ⟨l, o.ks.map pairV ++ keysFrom X.boy 0 M.ws.length, o.vs ++ rowsFrom (o.ch.length + 1) M.ws, ch⟩ E).maps = [(o.ks.map pairV ++ keysFrom X.boy 0 M.ws.length, o.vs ++ rowsFrom (o.ch.length + 1) M.ws)] := rfl
  have h2 : keyOk (some 2) (keyV X.boy M.ws.length) = true := rfl
  have h3 : (S X ⟨l, o.ks.map pairV ++ keysFrom X.boy 0 M.ws.length, o.vs ++ rowsFrom (o.ch.length + 1) M.ws, ch⟩ E).mro = 0 := rfl
  simp only [mentA, h1, List.getElem?_cons_zero, Option.bind_some, h2, h3, Nat.le_refl, and_self, if_true, find_key X.boy M.ws.length o ho, Nat.lt_irrefl, if_false, List.set_cons_zero, List.length_append, List.length_map, keysFrom_length, keysFrom_succ, Nat.zero_add, List.append_assoc]
  rfl
theorem esto_S (l : AV) (ks vs) (ch) (i : Nat) (hi : i < vs.length) (y : AV) : estoA (S X ⟨l, ks, vs, ch⟩ E) (.mp 0) (I i) y = some (S X ⟨l, ks, vs.set i y, ch⟩ E) := by
  have h1 : (S X ⟨l, ks, vs, ch⟩ E).maps = [(ks, vs)] := rfl
  have h3 : (S X ⟨l, ks, vs, ch⟩ E).mro = 0 := rfl
  have hi' : (i : Int) < (vs.length : Int) := by omega
  simp [estoA, h1, h3, hi, hi']
  rfl
theorem app_nil (l : AV) (ks vs) (ch) (v : Vo) : appA (S X ⟨l, ks, vs, ch⟩ E) false 5 40 true .nils (.sl 5 [v.av] .full) = some (rowC [v] ch.length, S X ⟨l, ks, vs, ch ++ [(1, 5)]⟩ E) := by
  simp [appA, elemsA, grown, S, rowC]
  rfl
theorem app_row (l : AV) (ks vs) (ch) (v : Vo) (es : List Vo) (c : Nat) (hc : ch[c]? = some (es.length, 5)) (hl : es.length < 1000000) : appA (S X ⟨l, ks, vs, ch⟩ E) false 5 40 true (rowC es c) (.sl 5 [v.av] .full) = some (rowC (es ++ [v]) c, S X ⟨l, ks, vs, ch.set c (es.length + 1, 5)⟩ E) := by
  have h1 : (es.length + 1) * 40 ≤ 140737488355328 := by omega
  have h2 : (S X ⟨l, ks, vs, ch⟩ E).chains = ch := rfl
  simp [appA, elemsA, rowC, h1, h2, hc]
  rfl
end
end Go.Ai.Vc

set_option maxRecDepth 100000
namespace Go.Ai.Vc
attribute [local simp] opsA_cons opsA_nil oneA condA putR thenA_nm thenA_rt thenA_ex nmA wantedA operA putA ev retA retsA pur depth List.replicate List.getD purR endA condC_bool blockA_nm blockA_rt blockA_ex againA pureA_call call_none pureCallA backA purAll mask
def head60w (p : Nat) (m w : Int) : Env := [.any, .any, .any, .any, .any, .box 2 0, .box 3 0, .any, .box (13 + p) 0] ++ List.replicate 25 .any ++ [I m, I w] ++ List.replicate 26 .any
theorem load_rp (σ : St) (n : Option Nat) (cs : List AV) (off : Nat) : loadA σ n (.rp cs off) = partA n cs off := rfl
theorem round60w (X : Fix) (hX : X.Ok) (A1 A2 A3 A4 : Acc) (hA : A1.Ok X) (hA' : A4.Ok X) (hle : A1.Le A4) (E : List (List AV)) (hE : ∀ a b c d n, E.all (fun cs => cs.all (under a b c d (n + 1))) = true) (v : Vo) (m : Int) (w : Nat) (hw : (w : Int) < m) (hm : m ≤ 1000) (y y' : AV) (j : Int)
    (h1 : mentA (S X A1 (E ++ [v.cells, [I X.boy, I w]])) (some 2) .nils (.mp 0) (.agg [I X.boy, I w]) = some (.tup [y, I j], S X A2 (E ++ [v.cells, [I X.boy, I w]])))
    (h2 : appA (S X A2 (E ++ [v.cells, [I X.boy, I w]])) false 5 40 true y (.sl 5 [v.av] .full) = some (y', S X A3 (E ++ [v.cells, [I X.boy, I w]])))
    (h3 : estoA (S X A3 (E ++ [v.cells, [I X.boy, I w]])) (.mp 0) (I j) y' = some (S X A4 (E ++ [v.cells, [I X.boy, I w]]))) :
    run Cv 109 (.loop keep109_0 body109_0) (head60w E.length m w) (S X A1 (E ++ [v.cells])) = run Cv 109 (.loop keep109_0 body109_0) (head60w E.length m (w + 1)) (S X A4 (E ++ [v.cells])) := by
  have e1 : 13 + (E.length + 1) = 14 + E.length := by omega
  have w1 : IntKind.wrap .i64 ((w : Int) + 1) = w + 1 := wrap_small (by omega) (by omega)
  have hb : ((X.boy : Int) == -1) = false := by simp
  have hc : ∀ e : Env, (∀ nc, X.c0 ≤ nc → e.all (under (13 + (E.length + 1)) nc 1 1 6) = true) → cut (S X A1 (E ++ [v.cells])) (S X A4 (E ++ [v.cells, [I X.boy, I w]])) e = S X A4 (E ++ [v.cells]) := by
    intro e he
    have := cut_S X hX A1 A4 hA hA' hle (E ++ [v.cells]) (E ++ [v.cells]) [[I X.boy, I w]] rfl (by
      intro a b c d n
      simp [-cut, hE, Vo.cells, under]) e (by simpa using he)
    simpa only [List.append_assoc, List.singleton_append, List.cons_append, List.nil_append] using this
  have q1 : ∀ k, k < 13 → k < 13 + (E.length + 1) := fun k hk => by omega
  have q2 : 13 + E.length < 13 + (E.length + 1) := by omega
  have hav : v.av = .agg v.cells := rfl
  simp only [hav, Vo.cells] at h1 h2 h3 hc
  rw [run_loop]
  generalize MC.loop keep109_0 body109_0 = L
  simp [-loadA, -storeA, -boxA, -cut, body109_0, keep109_0, head60w, hw, alloc_S, boxes_len, e1, store_s, load_s, load_v, load_base, base', base, bcells, Book.cells, w1, Vo.cells, eqCells, hb, fillE, fillA, load_rp, AV.isAgg, h1, h2, h3]
  rw [hc]
  intro nc hnc
  simp [under, q1, q2]
end Go.Ai.Vc

set_option maxRecDepth 100000
namespace Go.Ai.Vc
attribute [local simp] opsA_cons opsA_nil oneA condA putR thenA_nm thenA_rt thenA_ex nmA wantedA operA putA ev retA retsA pur depth List.replicate List.getD purR endA condC_bool blockA_nm blockA_rt blockA_ex againA pureA_call call_none pureCallA backA purAll mask
theorem purAll_app (f : AV → Option (AV × Bool)) : ∀ (l m l' m' : List AV), purAll f l = some (l', false) → purAll f m = some (m', false) → purAll f (l ++ m) = some (l' ++ m', false)
  | [], m, l', m', h, h' => by simp only [purAll, Option.some.injEq, Prod.mk.injEq] at h; rw [← h.1]; exact h'
  | x :: l, m, l', m', h, h' => by
    simp only [purAll, Option.bind_eq_some_iff, Option.some.injEq, Prod.mk.injEq, Bool.or_eq_false_iff] at h
    obtain ⟨r, h1, s, h2, h3, h4, h5⟩ := h
    have h2' : purAll f l = some (s.1, false) := by rw [h2, ← h5]
    have := purAll_app f l m s.1 m' h2' h'
    simp [purAll, h1, this, ← h3, h4]
theorem pur_pairs (σ : St) (n : Nat) : ∀ l : List (Int × Int), purAll (pur σ (n + 2)) (l.map pairV) = some (l.map pairV, false)
  | [] => rfl
  | k :: l => by simp [purAll, pairV, pur, pur_pairs σ n l]
theorem pur_keys (σ : St) (n boy : Nat) : ∀ m j, purAll (pur σ (n + 2)) (keysFrom boy j m) = some (keysFrom boy j m, false)
  | 0, _ => rfl
  | m + 1, j => by simp [keysFrom, purAll, keyV, pur, pur_keys σ n boy m]
theorem pur_rows (σ : St) (n : Nat) : ∀ (l : List (List Vo)) (c : Nat), purAll (pur σ (n + 1)) (rowsFrom c l) = some (l.map rowN, false)
  | [], _ => rfl
  | es :: l, c => by simp [rowsFrom, purAll, rowC, rowN, pur, pur_rows σ n l]
theorem under_pairs (a b c d n : Nat) : ∀ l : List (Int × Int), (l.map pairV).all (under a b c d (n + 2)) = true
  | [] => rfl
  | k :: l => by simp [pairV, under]
theorem under_keys (a b c d n boy : Nat) : ∀ m j, (keysFrom boy j m).all (under a b c d (n + 2)) = true
  | 0, _ => rfl
  | m + 1, j => by
    have := under_keys a b c d n boy m (j + 1)
    simp only [keysFrom, List.all_cons, this, Bool.and_true]
    rfl
theorem under_rows (a b c d n : Nat) : ∀ (l : List (List Vo)) (k : Nat), (rowsFrom k l).all (under a b c d (n + 1)) = decide (∀ w, w < l.length → k + w < b)
  | [], k => by simp [rowsFrom]
  | es :: l, k => by
    rw [rowsFrom, List.all_cons, under_rows a b c d n l (k + 1), Bool.eq_iff_iff]
    simp only [rowC, under, Bool.and_eq_true, decide_eq_true_eq, List.length_cons]
    constructor
    · rintro ⟨h1, h2⟩ w hw
      cases w with
      | zero => omega
      | succ w => have := h2 w (by omega); omega
    · intro h
      exact ⟨by have := h 0 (by omega); omega, fun w hw => by have := h (w + 1) (by omega); omega⟩

structure Ms.Wf (M : Ms) : Prop where
  ws : M.l = [] → M.ws = []
theorem chV_length {M : Ms} (h : M.Wf) : M.chV.length = if M.l = [] then 0 else M.ws.length + 1 := by
  unfold Ms.chV
  split <;> simp
section
variable {X : Fix} {o : Old}
theorem lV_under (M : Ms) (k a b c d n : Nat) : under a b c d (n + 1) (M.lV k) = decide (M.l = [] ∨ k < b) := by
  unfold Ms.lV
  by_cases h : M.l = []
  · simp [h, under]
  · simp [h, rowC, under]
theorem accM_ok (ho : o.Ok X.boy) (hc0 : X.c0 = o.ch.length) (M : Ms) (hM : M.Wf) : (accM X.boy o M).Ok X where
  c0 := by simp [accM, hc0]
  l a b c d n hb := by
    simp only [accM, List.length_append, chV_length hM] at hb ⊢
    rw [lV_under, decide_eq_true_eq]
    by_cases h : M.l = []
    · exact .inl h
    · rw [if_neg h] at hb; right; omega
  lc := by
    simp only [accM, Ms.lV]
    split <;> rfl
  ks σ n := purAll_app _ _ _ _ _ (pur_pairs σ n _) (pur_keys σ n _ _ _)
  ku a b c d n := by
    simp only [accM, List.all_append, under_pairs, under_keys, Bool.and_self]
  vs := by
    obtain ⟨vs', h⟩ := ho.vs
    exact ⟨vs' ++ M.ws.map rowN, fun σ n => purAll_app _ _ _ _ _ (h σ n) (pur_rows σ n _ _)⟩
  vu a b c d n hb := by
    simp only [accM, List.length_append, chV_length hM] at hb
    simp only [accM, List.all_append, under_rows]
    rw [ho.vu _ _ _ _ _ (by omega), Bool.true_and, decide_eq_true_eq]
    intro w hw
    by_cases h : M.l = []
    · rw [hM.ws h] at hw; simp at hw
    · rw [if_neg h] at hb; omega
theorem accM_le (M M' : Ms) (hM : M.Wf) (hM' : M'.Wf) (h1 : M'.l ≠ []) (h2 : M.ws.length ≤ M'.ws.length) : (accM X.boy o M).Le (accM X.boy o M') where
  le := by
    simp only [accM, List.length_append, chV_length hM, chV_length hM', if_neg h1]
    split <;> omega
  new b hb hb' a c d n := by
    simp only [accM, List.length_append, chV_length hM, chV_length hM', if_neg h1] at hb hb'
    simp only [accM, List.all_append, under_rows, lV_under]
    by_cases h : b = o.ch.length
    · simp [h1, h]
    · have : ¬ ∀ w, w < M'.ws.length → o.ch.length + 1 + w < b := fun hh => by
        have := hh (b - (o.ch.length + 1)) (by omega)
        omega
      rw [decide_eq_false this]; simp
  mono a b c d n h := by
    simp only [accM, List.all_append, under_rows, lV_under] at h ⊢
    rw [← Bool.not_eq_true, Bool.and_eq_true, Bool.and_eq_true, decide_eq_true_eq, decide_eq_true_eq] at h ⊢
    rintro ⟨g1, g2, g3⟩
    refine h ⟨?_, g2, fun w hw => g3 w (by omega)⟩
    rcases g1 with g1 | g1
    · exact absurd g1 h1
    · exact .inr g1
end

theorem week_step {X : Fix} (hX : X.Ok) {o : Old} (ho : o.Ok X.boy) (hc0 : X.c0 = o.ch.length) (l : List Vo) (hl : l ≠ []) (ws : List (List Vo)) (w : Nat) (hws : w ≤ ws.length) (hlen : ∀ es ∈ ws, es.length < 1000000) (E : List (List AV)) (hE : ∀ a b c d n, E.all (fun cs => cs.all (under a b c d (n + 1))) = true) (v : Vo) (m : Int) (hw : (w : Int) < m) (hm : m ≤ 1000) :
    run Cv 109 (.loop keep109_0 body109_0) (head60w E.length m w) (S X (accM X.boy o ⟨l, ws⟩) (E ++ [v.cells])) = run Cv 109 (.loop keep109_0 body109_0) (head60w E.length m (w + 1)) (S X (accM X.boy o ⟨l, addW ws w v⟩) (E ++ [v.cells])) := by
  have wf : ∀ ws, (Ms.mk l ws).Wf := fun ws => ⟨fun h => absurd h hl⟩
  have hwl : (addW ws w v).length ≥ ws.length := by unfold addW; split <;> simp
  have hle : (accM X.boy o ⟨l, ws⟩).Le (accM X.boy o ⟨l, addW ws w v⟩) := accM_le _ _ (wf _) (wf _) hl hwl
  have hchV : ∀ ws, (Ms.mk l ws).chV = (l.length, 5) :: ws.map fun es => (es.length, 5) := fun ws => if_neg hl
  rcases Nat.lt_or_ge w ws.length with h | h
  · have hes : ws.getD w [] = ws[w] := by simp [h]
    have h1 := ment_old (E ++ [v.cells, [I X.boy, I w]]) ⟨l, ws⟩ ho w h (Ms.lV ⟨l, ws⟩ o.ch.length) (o.ch ++ Ms.chV ⟨l, ws⟩)
    have h2 := app_row (X := X) (E ++ [v.cells, [I X.boy, I w]]) (Ms.lV ⟨l, ws⟩ o.ch.length) (o.ks.map pairV ++ keysFrom X.boy 0 ws.length) (o.vs ++ rowsFrom (o.ch.length + 1) ws) (o.ch ++ Ms.chV ⟨l, ws⟩) v (ws.getD w []) (o.ch.length + 1 + w) (by
      rw [hchV, List.getElem?_append_right (by omega), show o.ch.length + 1 + w - o.ch.length = w + 1 by omega, List.getElem?_cons_succ]
      simp [h]) (hlen _ (by rw [hes]; exact List.getElem_mem h))
    have h3 := esto_S (X := X) (E ++ [v.cells, [I X.boy, I w]]) (Ms.lV ⟨l, ws⟩ o.ch.length) (o.ks.map pairV ++ keysFrom X.boy 0 ws.length) (o.vs ++ rowsFrom (o.ch.length + 1) ws) ((o.ch ++ Ms.chV ⟨l, ws⟩).set (o.ch.length + 1 + w) ((ws.getD w []).length + 1, 5)) (o.ks.length + w) (by
      rw [List.length_append, rowsFrom_length, ho.len]; omega) (rowC (ws.getD w [] ++ [v]) (o.ch.length + 1 + w))
    have e4 : (⟨Ms.lV ⟨l, ws⟩ o.ch.length, o.ks.map pairV ++ keysFrom X.boy 0 ws.length, (o.vs ++ rowsFrom (o.ch.length + 1) ws).set (o.ks.length + w) (rowC (ws.getD w [] ++ [v]) (o.ch.length + 1 + w)), (o.ch ++ Ms.chV ⟨l, ws⟩).set (o.ch.length + 1 + w) ((ws.getD w []).length + 1, 5)⟩ : Acc) = accM X.boy o ⟨l, addW ws w v⟩ := by
      have a1 : addW ws w v = ws.set w (ws.getD w [] ++ [v]) := if_pos h
      have a2 : (o.vs ++ rowsFrom (o.ch.length + 1) ws).set (o.ks.length + w) (rowC (ws.getD w [] ++ [v]) (o.ch.length + 1 + w)) = o.vs ++ rowsFrom (o.ch.length + 1) (addW ws w v) := by
        rw [ho.len, List.set_append_right _ _ (by omega), Nat.add_sub_cancel_left, a1, rowsFrom_set]
      have a3 : (o.ch ++ Ms.chV ⟨l, ws⟩).set (o.ch.length + 1 + w) ((ws.getD w []).length + 1, 5) = o.ch ++ Ms.chV ⟨l, addW ws w v⟩ := by
        rw [hchV, hchV, List.set_append_right _ _ (by omega), show o.ch.length + 1 + w - o.ch.length = w + 1 by omega, List.set_cons_succ, a1, List.map_set]
        simp
      rw [a2, a3, accM]
      simp [a1, Ms.lV]
    rw [e4] at h3
    exact round60w X hX _ _ _ _ (accM_ok ho hc0 _ (wf _)) (accM_ok ho hc0 _ (wf _)) hle E hE v m w hw hm _ _ _ h1 h2 h3
  · have hwe : w = ws.length := by omega
    subst hwe
    have h1 := ment_new (E ++ [v.cells, [I X.boy, I ws.length]]) ⟨l, ws⟩ ho (Ms.lV ⟨l, ws⟩ o.ch.length) (o.ch ++ Ms.chV ⟨l, ws⟩)
    have h2 := app_nil (X := X) (E ++ [v.cells, [I X.boy, I ws.length]]) (Ms.lV ⟨l, ws⟩ o.ch.length) (o.ks.map pairV ++ keysFrom X.boy 0 (ws.length + 1)) (o.vs ++ rowsFrom (o.ch.length + 1) ws ++ [.nils]) (o.ch ++ Ms.chV ⟨l, ws⟩) v
    have h3 := esto_S (X := X) (E ++ [v.cells, [I X.boy, I ws.length]]) (Ms.lV ⟨l, ws⟩ o.ch.length) (o.ks.map pairV ++ keysFrom X.boy 0 (ws.length + 1)) (o.vs ++ rowsFrom (o.ch.length + 1) ws ++ [.nils]) (o.ch ++ Ms.chV ⟨l, ws⟩ ++ [(1, 5)]) (o.ks.length + ws.length) (by
      simp [rowsFrom_length, ho.len]) (rowC [v] (o.ch ++ Ms.chV ⟨l, ws⟩).length)
    have e4 : (⟨Ms.lV ⟨l, ws⟩ o.ch.length, o.ks.map pairV ++ keysFrom X.boy 0 (ws.length + 1), (o.vs ++ rowsFrom (o.ch.length + 1) ws ++ [AV.nils]).set (o.ks.length + ws.length) (rowC [v] (o.ch ++ Ms.chV ⟨l, ws⟩).length), o.ch ++ Ms.chV ⟨l, ws⟩ ++ [(1, 5)]⟩ : Acc) = accM X.boy o ⟨l, addW ws ws.length v⟩ := by
      have a1 : addW ws ws.length v = ws ++ [[v]] := if_neg (by omega)
      have a2 : (o.vs ++ rowsFrom (o.ch.length + 1) ws ++ [AV.nils]).set (o.ks.length + ws.length) (rowC [v] (o.ch ++ Ms.chV ⟨l, ws⟩).length) = o.vs ++ rowsFrom (o.ch.length + 1) (addW ws ws.length v) := by
        rw [List.set_append_right _ _ (by simp [rowsFrom_length, ho.len]), a1, rowsFrom_append, hchV]
        simp [rowsFrom_length, ho.len, Nat.add_assoc, Nat.add_comm 1]
      have a3 : o.ch ++ Ms.chV ⟨l, ws⟩ ++ [(1, 5)] = o.ch ++ Ms.chV ⟨l, addW ws ws.length v⟩ := by
        rw [hchV, hchV, a1]; simp
      rw [a2, a3, accM]
      simp [a1, Ms.lV]
    rw [e4] at h3
    exact round60w X hX _ _ _ _ (accM_ok ho hc0 _ (wf _)) (accM_ok ho hc0 _ (wf _)) hle E hE v m ws.length hw hm _ _ _ h1 h2 h3
end Go.Ai.Vc

set_option maxRecDepth 100000
namespace Go.Ai.Vc
attribute [local simp] opsA_cons opsA_nil oneA condA putR thenA_nm thenA_rt thenA_ex nmA wantedA operA putA ev retA retsA pur depth List.replicate List.getD purR endA condC_bool blockA_nm blockA_rt blockA_ex againA pureA_call call_none pureCallA backA purAll mask
theorem addTo_get (ws : List (List Vo)) (v : Vo) : ∀ (w i : Nat), (addTo w ws v)[i]? = if i < w then some ((ws[i]?).getD [] ++ [v]) else ws[i]?
  | 0, i => by simp [addTo]
  | w + 1, i => by
    have ih := addTo_get ws v w
    have hl := addTo_length w ws v
    simp only [addTo, addW]
    split
    · rename_i h
      rw [List.getElem?_set]
      by_cases hi : w = i
      · subst hi
        have := ih w
        rw [if_neg (by omega)] at this
        rw [if_pos rfl, if_pos h, if_pos (by omega), List.getD_eq_getElem?_getD, this]
      · rw [if_neg hi, ih]
        by_cases h1 : i < w
        · rw [if_pos h1, if_pos (by omega)]
        · rw [if_neg h1, if_neg (by omega)]
    · rename_i h
      have h0 : (addTo w ws v).length = w := by omega
      have hw : ws.length ≤ w := by omega
      by_cases h1 : i < w
      · rw [List.getElem?_append_left (by omega), ih, if_pos h1, if_pos (by omega)]
      · rw [List.getElem?_append_right (by omega), h0]
        by_cases h2 : i = w
        · subst h2
          rw [if_pos (by omega), List.getElem?_eq_none hw]; simp
        · rw [if_neg (by omega), List.getElem?_eq_none (show ([[v]] : List (List Vo)).length ≤ _ by simp only [List.length_singleton]; omega), List.getElem?_eq_none (by omega)]
theorem addTo_bound (ws : List (List Vo)) (v : Vo) (w L : Nat) (h : ∀ es ∈ ws, es.length ≤ L) : ∀ es ∈ addTo w ws v, es.length ≤ L + 1 := by
  intro es hes
  obtain ⟨i, hi⟩ := List.getElem?_of_mem hes
  rw [addTo_get] at hi
  split at hi
  · simp only [Option.some.injEq] at hi
    subst hi
    cases hw : ws[i]? with
    | none => simp
    | some x => simp; exact h x (List.mem_of_getElem? hw)
  · have := h es (List.mem_of_getElem? hi)
    omega

theorem end60w (X : Fix) (A : Acc) (E : List (List AV)) (p : Nat) (m w : Int) (h : ¬ w < m) : ∃ e, run Cv 109 (.loop keep109_0 body109_0) (head60w p m w) (S X A E) = some (.ex 4, e, S X A E) := by
  rw [run_loop]
  simp [body109_0, keep109_0, head60w, h]
theorem weeks_loop {X : Fix} (hX : X.Ok) {o : Old} (ho : o.Ok X.boy) (hc0 : X.c0 = o.ch.length) (l : List Vo) (hl : l ≠ []) (ws : List (List Vo)) (hlen : ∀ es ∈ ws, es.length < 100000) (E : List (List AV)) (hE : ∀ a b c d n, E.all (fun cs => cs.all (under a b c d (n + 1))) = true) (v : Vo) (m : Int) (hm : m ≤ 1000) :
    ∀ (n w : Nat), w + n = m.toNat → ∃ e, run Cv 109 (.loop keep109_0 body109_0) (head60w E.length m w) (S X (accM X.boy o ⟨l, addTo w ws v⟩) (E ++ [v.cells])) = some (.ex 4, e, S X (accM X.boy o ⟨l, addTo m.toNat ws v⟩) (E ++ [v.cells]))
  | 0, w, h => by
    obtain ⟨e, he⟩ := end60w X (accM X.boy o ⟨l, addTo w ws v⟩) (E ++ [v.cells]) E.length m w (by omega)
    refine ⟨e, ?_⟩
    rw [he]
    rw [show w = m.toNat by omega]
  | n + 1, w, h => by
    have := week_step hX ho hc0 l hl (addTo w ws v) w (by rw [addTo_length]; omega) (fun es hes => by
      have := addTo_bound ws v w 99999 (fun es hes => by have := hlen es hes; omega) es hes
      omega) E hE v m (by omega) hm
    rw [this]
    exact weeks_loop hX ho hc0 l hl ws hlen E hE v m hm n (w + 1) (by omega)

def envL (x : Book) (tr r : AV) (boy : Nat) (N : Int) : Env :=
  [.any, r, .box 0 0, .any, .box 1 0, .box 2 0, .box 3 0, .box 4 0, .any, .any, .any, .any, .any, .any, .any, .any, I N, I boy, .bool true, I boy, .agg (bcells x tr), I boy, r, .fn (.func 128) [] [.box 5 0, .box 6 0, .box 7 0]] ++ List.replicate 38 .any
def lpV (x : Book) (tr r : AV) (boy : Nat) (N : Int) : Lp := { f := 109, env := envL x tr r boy N, ps := [24], asg := asg109_1, body := body109_1, st := .ready, pend := none }
def step (weeks : Int) (M : Ms) (v : Vo) : Ms := ⟨M.l ++ [v], addTo (if v.brk < weeks then v.brk else weeks).toNat M.ws v⟩
theorem load_last (X : Fix) (A : Acc) (ext : List (List AV)) (a : List AV) (n : Option Nat) (off : Nat) : loadA (S X A (ext ++ [a])) n (.box (13 + ext.length) off) = partA n a off := by
  simp only [loadA, S]
  rw [List.getElem?_append_right (by rw [base'_length]; omega), base'_length, List.getElem?_append_right (by omega)]
  simp
theorem store_l (X : Fix) (l ks vs ch) (E : List (List AV)) (y : AV) (hy : y.isCell = true) : storeA (S X ⟨l, ks, vs, ch⟩ E) 1 (.box 4 0) y = some (S X ⟨y, ks, vs, ch⟩ E) := by
  have hc : y.cells = [y] := by cases y <;> simp_all [AV.isCell, AV.cells]
  simp [storeA, S, base', base, hc, hy]
theorem app_l {X : Fix} {o : Old} (M : Ms) (hM : M.Wf) (hlen : M.l.length < 1000000) (E : List (List AV)) (v : Vo) :
    appA (S X (accM X.boy o M) E) false 5 40 true (M.lV o.ch.length) (.sl 5 [v.av] .full) = some (Ms.lV ⟨M.l ++ [v], M.ws⟩ o.ch.length, S X ⟨M.lV o.ch.length, o.ks.map pairV ++ keysFrom X.boy 0 M.ws.length, o.vs ++ rowsFrom (o.ch.length + 1) M.ws, o.ch ++ Ms.chV ⟨M.l ++ [v], M.ws⟩⟩ E) := by
  have hn : M.l ++ [v] ≠ [] := by simp
  by_cases h : M.l = []
  · have hw := hM.ws h
    have := app_nil (X := X) E (M.lV o.ch.length) (o.ks.map pairV ++ keysFrom X.boy 0 M.ws.length) (o.vs ++ rowsFrom (o.ch.length + 1) M.ws) (o.ch ++ M.chV) v
    rw [show M.chV = [] from if_pos h, List.append_nil] at this
    simp only [accM, show M.chV = [] from if_pos h, List.append_nil]
    rw [show M.lV o.ch.length = .nils from if_pos h] at this ⊢
    rw [this]
    rw [show Ms.lV ⟨M.l ++ [v], M.ws⟩ o.ch.length = rowC (M.l ++ [v]) o.ch.length from if_neg hn, show Ms.chV ⟨M.l ++ [v], M.ws⟩ = _ from if_neg hn]
    simp [h, hw]
  · have := app_row (X := X) E (M.lV o.ch.length) (o.ks.map pairV ++ keysFrom X.boy 0 M.ws.length) (o.vs ++ rowsFrom (o.ch.length + 1) M.ws) (o.ch ++ M.chV) v M.l o.ch.length (by
      rw [show M.chV = _ from if_neg h]; simp) hlen
    rw [show (rowC M.l o.ch.length) = M.lV o.ch.length from (if_neg h).symm] at this
    simp only [accM]
    rw [this]
    rw [show Ms.lV ⟨M.l ++ [v], M.ws⟩ o.ch.length = rowC (M.l ++ [v]) o.ch.length from if_neg hn, show Ms.chV ⟨M.l ++ [v], M.ws⟩ = _ from if_neg hn, show M.chV = _ from if_neg h]
    simp

theorem body_run {X : Fix} (hX : X.Ok) {o : Old} (ho : o.Ok X.boy) (hc0 : X.c0 = o.ch.length) (N : Int) (M : Ms) (hM : M.Wf) (hlen : M.l.length < 1000) (hlw : ∀ es ∈ M.ws, es.length ≤ M.l.length) (hwk : X.x.weeks ≤ 6) (E : List (List AV)) (hE : ∀ a b c d n, E.all (fun cs => cs.all (under a b c d (n + 1))) = true) (v : Vo) :
    ∃ e, run Cv 109 body109_1 (((envL X.x X.tr X.r X.boy N).set 24 v.av).set 8 (.box (13 + E.length) 0)) (S X (accM X.boy o M) (E ++ [v.cells])) = some (.nm, e, S X (accM X.boy o (step X.x.weeks M v)) (E ++ [v.cells])) := by
  have hn : M.l ++ [v] ≠ [] := by simp
  have h1 := app_l (X := X) (o := o) M hM (by omega) (E ++ [v.cells]) v
  have hcell : (Ms.lV ⟨M.l ++ [v], M.ws⟩ o.ch.length).isCell = true := by unfold Ms.lV; split <;> rfl
  have h2 := store_l X (M.lV o.ch.length) (o.ks.map pairV ++ keysFrom X.boy 0 M.ws.length) (o.vs ++ rowsFrom (o.ch.length + 1) M.ws) (o.ch ++ Ms.chV ⟨M.l ++ [v], M.ws⟩) (E ++ [v.cells]) _ hcell
  have e2 : (⟨Ms.lV ⟨M.l ++ [v], M.ws⟩ o.ch.length, o.ks.map pairV ++ keysFrom X.boy 0 M.ws.length, o.vs ++ rowsFrom (o.ch.length + 1) M.ws, o.ch ++ Ms.chV ⟨M.l ++ [v], M.ws⟩⟩ : Acc) = accM X.boy o ⟨M.l ++ [v], M.ws⟩ := rfl
  rw [e2] at h2
  obtain ⟨e, h3⟩ := weeks_loop hX ho hc0 (M.l ++ [v]) hn M.ws (fun es hes => by have := hlw es hes; omega) E hE v (if v.brk < X.x.weeks then v.brk else X.x.weeks) (by split <;> omega) (if v.brk < X.x.weeks then v.brk else X.x.weeks).toNat 0 (by omega)
  have hl : (accM X.boy o M).l = M.lV o.ch.length := rfl
  have hav : v.av = .agg v.cells := rfl
  simp only [hav, Vo.cells] at h1 h2 h3
  refine ⟨(e), ?_⟩
  simp [-loadA, -storeA, -boxA, -cut, body109_1, envL, load_base, base', base, load_last, Vo.av, Vo.cells, fillE, AV.isAgg, h1, h2, hl, bcells, Book.cells, least_call]
  rw [run_loop_mask]
  rw [show mask keep109_0 _ = head60w E.length (if v.brk < X.x.weeks then v.brk else X.x.weeks) (0 : Nat) from by simp [keep109_0, head60w]]
  simp only [addTo] at h3
  rw [h3]
  simp [step]
end Go.Ai.Vc

set_option maxRecDepth 100000
namespace Go.Ai.Vc
attribute [local simp] opsA_cons opsA_nil oneA condA putR thenA_nm thenA_rt thenA_ex nmA wantedA operA putA ev retA retsA pur depth List.replicate List.getD purR endA condC_bool blockA_nm blockA_rt blockA_ex againA pureA_call call_none pureCallA backA purAll mask
def Fix.busy (X : Fix) : Fix := { X with L := { X.L with st := .busy } }
theorem Fix.busy_ok {X : Fix} (h : X.Ok) : X.busy.Ok := { h with L := h.L }
def InvM (n : Nat) (M : Ms) : Prop := M.Wf ∧ M.l.length + n < 1000 ∧ ∀ es ∈ M.ws, es.length ≤ M.l.length
theorem step_wf (w : Int) (M : Ms) (v : Vo) : (step w M v).Wf := ⟨fun h => by simp [step] at h⟩
theorem store_last (X : Fix) (A : Acc) (E : List (List AV)) (z : List AV) (n : Nat) (y : AV) (h1 : y.cells.length = n) (h2 : z.length = n) (h3 : y.cells.all AV.isCell = true) : storeA (S X A (E ++ [z])) n (.box (13 + E.length) 0) y = some (S X A (E ++ [y.cells])) := by
  have g : (base' X A ++ (E ++ [z]))[13 + E.length]? = some z := by
    rw [List.getElem?_append_right (by rw [base'_length]; omega), base'_length, List.getElem?_append_right (by omega)]
    simp
  have s : ∀ q, (base' X A ++ (E ++ [z])).set (13 + E.length) q = base' X A ++ (E ++ [q]) := by
    intro q
    rw [List.set_append_right _ _ (by rw [base'_length]; omega), base'_length, List.set_append_right _ _ (by omega)]
    simp
  have hs : setAt z 0 y.cells = y.cells := by
    simp [setAt, h1, h2]
  have g' : (S X A (E ++ [z])).boxes[13 + E.length]? = some z := g
  have ro : (S X A (E ++ [z])).ro = 0 := rfl
  simp only [storeA, g', Option.bind_some, ro, Nat.zero_le, h1, h2, Nat.zero_add, Nat.le_refl, h3, and_self, if_true, hs]
  simp only [S, s]
theorem yields {X : Fix} (hX : X.Ok) {o : Old} (ho : o.Ok X.boy) (hc0 : X.c0 = o.ch.length) (N : Int) (hL : X.L = lpV X.x X.tr X.r X.boy N) (hwk : X.x.weeks ≤ 6) : Yields X (accM X.boy o) (step X.x.weeks) InvM where
  ok n M h := accM_ok ho hc0 M h.1
  next n M v h := ⟨step_wf _ _ _, by have := h.2.1; simp [step]; omega, fun es hes => by
    have := addTo_bound _ _ _ _ h.2.2 es hes
    simpa [step] using this⟩
  le n M v h := accM_le M _ h.1 (step_wf _ _ _) (by simp [step]) (by simp only [step, addTo_length]; omega)
  round n M h E v hE := by
    have hA := accM_ok (X := X) ho hc0 M h.1
    have hA' := accM_ok (X := X) ho hc0 _ (step_wf X.x.weeks M v)
    have hle : (accM X.boy o M).Le (accM X.boy o (step X.x.weeks M v)) := accM_le M _ h.1 (step_wf _ _ _) (by simp [step]) (by simp only [step, addTo_length]; omega)
    obtain ⟨e, hb⟩ := body_run (X := X.busy) (Fix.busy_ok hX) ho hc0 N M h.1 (by have := h.2.1; omega) h.2.2 hwk E hE v
    have hasg : run Cv 109 asg109_1 ((envL X.x X.tr X.r X.boy N).set 24 v.av) (S X (accM X.boy o M) E) = some (.nm, ((envL X.x X.tr X.r X.boy N).set 24 v.av).set 8 (.box (13 + E.length) 0), S X (accM X.boy o M) (E ++ [v.cells])) := by
      have hst := store_last X (accM X.boy o M) E [I 0, I 0, I 0, I 0, I 0] 5 v.av rfl rfl rfl
      simp [-loadA, -storeA, -boxA, -cut, asg109_1, alloc_S, boxes_len, hst, envL]
      rfl
    have hbusy : busyA 0 (S X (accM X.boy o M) (E ++ [v.cells])) = some (S X.busy (accM X.boy o M) (E ++ [v.cells])) := by
      simp [busyA, S, hL, lpV, Fix.busy]
      rfl
    have hloop : (S X (accM X.boy o M) E).loops[0]? = some X.L := rfl
    have hl2 : (S X.busy (accM X.boy o (step X.x.weeks M v)) (E ++ [v.cells])).loops[0]? = some X.busy.L := rfl
    have hcut := cut_S X hX _ _ hA hA' hle E E [v.cells] rfl hE [.bool true] (fun _ _ => rfl)
    simp only [roundA, hloop]
    rw [show X.L.ps = [24] from by rw [hL]; rfl, show X.L.f = 109 from by rw [hL]; rfl, show X.L.asg = asg109_1 from by rw [hL]; rfl, show X.L.env = envL X.x X.tr X.r X.boy N from by rw [hL]; rfl]
    simp only [List.length_singleton, if_true, List.zip_cons_cons, List.zip_nil_right, List.foldl_cons, List.foldl_nil, hasg, innerA, hbusy, bodyRun]
    rw [show X.L.f = 109 from by rw [hL]; rfl, show X.L.body = body109_1 from by rw [hL]; rfl]
    have hb : run Cv 109 body109_1 (((envL X.x X.tr X.r X.boy N).set 24 v.av).set 8 (.box (13 + E.length) 0)) (S X.busy (accM X.boy o M) (E ++ [v.cells])) = some (.nm, e, S X.busy (accM X.boy o (step X.x.weeks M v)) (E ++ [v.cells])) := hb
    rw [hb]
    have hput : putLoop 0 (fun L => { L with st := .ready, pend := none }) (.bool true) (S X.busy (accM X.boy o (step X.x.weeks M v)) (E ++ [v.cells])) = some (.bool true, S X (accM X.boy o (step X.x.weeks M v)) (E ++ [v.cells])) := by
      simp [putLoop, hl2]
      simp [S, Fix.busy, hL, lpV]
      rfl
    simp only [leaveA, hput, cutR, hcut]
end Go.Ai.Vc

set_option maxRecDepth 100000
namespace Go.Ai.Vc
attribute [local simp] opsA_cons opsA_nil oneA condA putR thenA_nm thenA_rt thenA_ex nmA wantedA operA putA ev retA retsA pur depth List.replicate List.getD purR endA condC_bool blockA_nm blockA_rt blockA_ex againA pureA_call call_none pureCallA backA purAll mask
def S0 (X : Fix) (A : Acc) : St := { boxes := base X A, chains := A.ch, maps := [(A.ks, A.vs)], loops := [X.L] }
theorem cut_S0 (X : Fix) (hX : X.Ok) (A A' : Acc) (hA : A.Ok X) (hA' : A'.Ok X) (hle : A.Le A') (e : Env) (he : ∀ nc, X.c0 ≤ nc → e.all (under 8 nc 1 1 6) = true) :
    cut (S0 X A) (S X A' []) e = S0 X A' := by
  have ht : (base' X A' ++ []).take 8 = base X A' := rfl
  have hl : (base X A).length = 8 := rfl
  have hu : (base X A').all (fun cs => cs.all (under 8 A'.ch.length 1 1 6)) = true := by
    have h0 := hA'.c0
    have h1 : under 8 A'.ch.length 1 1 6 A'.l = true := hA'.l 8 _ 1 1 5 (Nat.le_refl _)
    have h2 : under 8 A'.ch.length 1 1 6 X.tr = true := hX.tru 8 _ 1 1 5 (by omega)
    have h4 : under 8 A'.ch.length 1 1 6 X.r = true := hX.hr.under _ _ 1 1 5
    simp [base, bcells, Book.cells, under, h1, h2, h4]
  have h2 : dryAt A'.ch.length (S0 X A) (S X A' []) e = true := by
    simp only [dryAt, S0, S, hl, ht, List.length_singleton, List.take_succ_cons, List.take_zero, List.all_cons, List.all_nil, Bool.and_true, Bool.and_eq_true]
    exact ⟨⟨⟨he _ hA'.c0, hu⟩, hA'.ku _ _ _ _ 4, hA'.vu _ _ _ _ 5 (Nat.le_refl _)⟩, hX.L _ _ (by omega) hA'.c0⟩
  have h1 : A'.ch.length = A.ch.length ∨ dryAt A.ch.length (S0 X A) (S X A' []) e = false := by
    rcases Nat.lt_or_ge A.ch.length A'.ch.length with h | h
    · right
      have := hle.new _ (Nat.le_refl _) h 8 1 1 5
      simp only [dryAt, S0, S, hl, ht, List.length_singleton, List.take_succ_cons, List.take_zero, List.all_cons, List.all_nil, Bool.and_true]
      rw [Bool.and_eq_false_iff] at this
      rcases this with h' | h'
      · have : (base X A').all (fun cs => cs.all (under 8 A.ch.length 1 1 6)) = false := by
          simp [base, h']
        rw [this]; simp
      · have h' : A'.vs.all (under 8 A.ch.length 1 1 6) = false := h'
        rw [h']; simp
    · left; have := hle.le; omega
  rw [cut_keep _ _ _ h2 h1]
  simp only [cutAt, S0, S, hl, ht]
  simp

theorem f103_call {T : Type} {X : Fix} {acc : T → Acc} {step : T → Vo → T} {Inv : Nat → T → Prop} (hX : X.Ok) (hY : Yields X acc step Inv) (n : Nat) (A : T) (hA : Inv (n + (enum X.b (okV X) 4 ⟨-1, -1, -1, -1, -1⟩).length) A) :
    callA Cv (run Cv) false (.fn (.func 128) [] [.box 5 0, .box 6 0, .box 7 0]) [.yld 0] (S0 X (acc A)) = some (.tup [], S0 X (acc ((enum X.b (okV X) 4 ⟨-1, -1, -1, -1, -1⟩).foldl step A))) := by
  have h1 := from_call hX hY 4 (Nat.le_refl _) n ⟨-1, -1, -1, -1, -1⟩ A hA [] (fun _ _ _ _ _ => rfl)
  obtain ⟨o1, o2⟩ := hY.oks _ _ A hA
  have hc := cut_S0 X hX _ _ (hY.ok _ _ hA) (hY.ok _ _ o1) o2 [.tup []] (fun _ _ => rfl)
  have hb := hX.b
  have hlt : X.boy < X.x.boys.length := (List.getElem?_eq_some_iff.1 hb).1
  have hbb : X.x.boys[X.boy] = X.b := (List.getElem?_eq_some_iff.1 hb).2
  have hn : ¬ X.x.bnil.e := fun hn => by rw [hX.x.boys hn] at hlt; simp at hlt
  have hrow : rowV 11 (X.x.boys.map Boy.av) X.x.bnil = .sl 11 (X.x.boys.map Boy.av) X.x.bnil.cap := rowV_some hn
  have hS : ∀ A : Acc, S X A [] = { boxes := base' X A, chains := A.ch, maps := [(A.ks, A.vs)], loops := [X.L] } := fun A => by simp only [S, List.append_nil]
  simp only [Nat.sub_self, Int.natCast_zero, hS, base', base, bcells, Book.cells, rightV, List.cons_append, List.nil_append, Vo.av, Vo.cells, spansV, Boy.cells, fromV, hrow] at h1
  simp only [hS, S0, base', base, bcells, Book.cells, rightV, List.cons_append, List.nil_append, Vo.av, Vo.cells, spansV, Boy.cells, fromV, hrow] at hc
  have y1 : (AV.yld 0).cells = [.yld 0] := rfl
  have y2 : (AV.yld 0).isCell = true := rfl
  rw [callA_imp (by rfl)]
  simp [-cut, S0, base, bodyA, comp128, code128, bcells, Book.cells, hX.trc, hrow, hlt, hbb, Boy.av, Boy.cells, fillA, y1, y2, h1]
  simp only [cutR, hc]
end Go.Ai.Vc

set_option maxRecDepth 100000
namespace Go.Ai.Vc
attribute [local simp] opsA_cons opsA_nil oneA condA putR thenA_nm thenA_rt thenA_ex nmA wantedA operA putA ev retA retsA pur depth List.replicate List.getD purR endA condC_bool blockA_nm blockA_rt blockA_ex againA pureA_call call_none pureCallA backA purAll mask
def rowT (l : List Vo) : AV := if l = [] then .nils else rowN l
def trV (T : List (List Vo)) (ct : Nat) : AV := if T = [] then .nils else .sl 1 (T.map rowT) (.chain ct)
def trP (T : List (List Vo)) : AV := if T = [] then .nils else .sl 1 (T.map rowT) .no
structure OInv (k : Nat) (T : List (List Vo)) (ks : List (Int × Int)) (pvs vs : List AV) (ch : List (Nat × Nat)) (ct : Nat) : Prop where
  len : ks.length = vs.length
  lt : ∀ p ∈ ks, p.1 < k
  vp : ∀ σ n, purAll (pur σ (n + 1)) vs = some (pvs, false)
  vu : ∀ a b c d n, ch.length ≤ b → vs.all (under a b c d (n + 1)) = true
  ct : T ≠ [] → ch[ct]? = some (T.length, 1)
  tl : T.length < 1000
def head60 (r : AV) (N k : Int) : Env := [.any, r, .box 0 0, .any, .box 1 0, .box 2 0] ++ List.replicate 10 .any ++ [I N, I k] ++ List.replicate 44 .any
def stO (x : Book) (T : List (List Vo)) (ks : List (Int × Int)) (vs : List AV) (ch : List (Nat × Nat)) (ct : Nat) : St := { boxes := [x.cells, [.nils, I 0, .nils, .nils, .nilm], bcells x (trV T ct)], chains := ch, maps := [(ks.map pairV, vs)] }
theorem pur_lV (M : Ms) (c n : Nat) (σ : St) : pur σ (n + 1) (M.lV c) = some (rowT M.l, false) := by
  unfold Ms.lV rowT
  split <;> rfl
theorem rowT_cells (l : List Vo) : (rowT l).cells = [rowT l] := by unfold rowT; split <;> rfl
theorem rowT_cell (l : List Vo) : (rowT l).isCell = true := by unfold rowT; split <;> rfl
theorem rowT_agg (l : List Vo) : (rowT l).isAgg = false := by unfold rowT; split <;> rfl

def fixO (x : Book) (boy : Nat) (b : Boy) (T : List (List Vo)) (ct : Nat) (but : List Int) (r : AV) (N : Int) (c0 : Nat) : Fix :=
  { x := x, boy := boy, b := b, tr := trV T ct, tr' := trP T, but := but, r := r, L := lpV x (trV T ct) r boy N, c0 := c0 }
theorem fixO_ok {x : Book} (hx : x.Ok) {boy : Nat} {b : Boy} (hb : x.boys[boy]? = some b) (hbo : boyOk b = true) {T : List (List Vo)} {ct : Nat} {but : List Int} {r : AV} (hbl : but.length < 2 ^ 47) (hr : VRow 1 (ints but) r) (N : Int) {c0 : Nat} (hc : T ≠ [] → ct < c0) : (fixO x boy b T ct but r N c0).Ok where
  x := hx
  b := hb
  boyOk := hbo
  hbl := hbl
  hr := hr
  trp σ n := by simp only [fixO, trV, trP]; split <;> rfl
  tru a b' c d n h := by
    simp only [fixO, trV] at h ⊢
    split
    · rfl
    · rename_i hT; simp only [under, decide_eq_true_eq]; exact Nat.lt_of_lt_of_le (hc hT) h
  trc := by simp only [fixO, trV]; split <;> rfl
  trp' σ n := by simp only [fixO, trP]; split <;> rfl
  tru' a b' c d n := by simp only [fixO, trP]; split <;> rfl
  trc' := by simp only [fixO, trP]; split <;> rfl
  L n nc h1 h2 := by
    have htr : under n nc 1 1 5 (trV T ct) = true := by
      unfold trV
      split
      · rfl
      · rename_i hT; simp only [under, decide_eq_true_eq]; exact Nat.lt_of_lt_of_le (hc hT) h2
    have q : ∀ k, k < 8 → k < n := fun k hk => by omega
    have hru := hr.under n nc 1 1 5
    simp [fixO, lpV, envL, under, bcells, Book.cells, htr, q, hru]

def pairsFrom (boy : Nat) (n : Nat) : List (Int × Int) := (List.range n).map fun (w : Nat) => ((boy : Int), (w : Int))
theorem keys_pairs (boy : Nat) : ∀ n, keysFrom boy 0 n = (pairsFrom boy n).map pairV
  | 0 => rfl
  | n + 1 => by
    rw [keysFrom_succ, keys_pairs boy n, pairsFrom, pairsFrom, List.range_succ]
    simp [pairV, keyV]

theorem flatMap_short {α β : Type} (f : α → List β) (B : Nat) : ∀ l : List α, (∀ x ∈ l, (f x).length ≤ B) → (l.flatMap f).length ≤ l.length * B
  | [], _ => by simp
  | x :: l, h => by
    have h1 := h x List.mem_cons_self
    have h2 := flatMap_short f B l fun y hy => h y (List.mem_cons_of_mem _ hy)
    rw [List.flatMap_cons, List.length_append, List.length_cons, Nat.add_mul]
    omega
theorem enum_short {X : Fix} (hX : X.Ok) (v : Vo) : (enum X.b (okV X) 4 v).length < 999 := by
  have h := hX.boyOk
  have s0 := spans_ok hX 0 (by omega)
  have s1 := spans_ok hX 1 (by omega)
  have s2 := spans_ok hX 2 (by omega)
  have s3 := spans_ok hX 3 (by omega)
  have s4 := spans_ok hX 4 (by omega)
  simp only [Boy.span] at s0 s1 s2 s3 s4
  simp only [boyOk, spanOk, Bool.and_eq_true, decide_eq_true_eq] at h
  have w : ∀ s : Span, 0 ≤ s.low ∧ s.low ≤ s.high ∧ s.high ≤ 40 → IntKind.wrap .i64 (s.high - s.low) = s.high - s.low := fun s hs => wrap_small (by omega) (by omega)
  rw [w _ s0, w _ s1, w _ s2, w _ s3, w _ s4] at h
  have hv : ∀ s : Span, ∀ n : Nat, s.high - s.low ≤ n → (vals s).length ≤ n + 1 := by
    intro s n hs
    simp only [vals, List.length_map, List.length_range]
    omega
  have e0 : ∀ v, (enum X.b (okV X) 0 v).length ≤ 4 := fun v => by
    refine Nat.le_trans (List.length_filter_le _ _) ?_
    rw [List.length_map]
    exact hv X.b.brk 3 (by omega)
  have e1 : ∀ v, (enum X.b (okV X) 1 v).length ≤ 12 := fun v => by
    have a := flatMap_short (fun n => enum X.b (okV X) 0 (v.put (3 - 0) n)) 4 (vals (X.b.span (3 - 0))) (fun x _ => e0 _)
    have b := hv X.b.turn 2 (by omega)
    simp only [Boy.span] at a
    rw [enum]
    simp only [Boy.span]
    omega
  have e2 : ∀ v, (enum X.b (okV X) 2 v).length ≤ 24 := fun v => by
    have a := flatMap_short (fun n => enum X.b (okV X) 1 (v.put (3 - 1) n)) 12 (vals (X.b.span (3 - 1))) (fun x _ => e1 _)
    have b := hv X.b.gain 1 (by omega)
    simp only [Boy.span] at a
    rw [enum]
    simp only [Boy.span]
    omega
  have e3 : ∀ v, (enum X.b (okV X) 3 v).length ≤ 72 := fun v => by
    have a := flatMap_short (fun n => enum X.b (okV X) 2 (v.put (3 - 2) n)) 24 (vals (X.b.span (3 - 2))) (fun x _ => e2 _)
    have b := hv X.b.high 2 (by omega)
    simp only [Boy.span] at a
    rw [enum]
    simp only [Boy.span]
    omega
  have a := flatMap_short (fun n => enum X.b (okV X) 3 (v.put (3 - 3) n)) 72 (vals (X.b.span (3 - 3))) (fun x _ => e3 _)
  have b := hv X.b.low 2 (by omega)
  simp only [Boy.span] at a
  rw [enum]
  simp only [Boy.span]
  omega

def voicesOf (x : Book) (boy : Nat) (b : Boy) (but : List Int) : List Vo := enum b (fun v => rightFrom b.loss v boy but x.trials 0) 4 ⟨-1, -1, -1, -1, -1⟩
def msOf (x : Book) (boy : Nat) (b : Boy) (but : List Int) : Ms := (voicesOf x boy b but).foldl (step x.weeks) ⟨[], []⟩

theorem f94_call (x : Book) (tr r : AV) (boy : Nat) (ks vs : List AV) (ch) (htc : tr.isCell = true) (hc : r.isCell = true) (hcs : r.cells = [r]) :
    callA Cv (run Cv) false (.fn (.func 120) [] []) [.agg (bcells x tr), I boy, r] { boxes := [x.cells, [.nils, I 0, .nils, .nils, .nilm], bcells x tr, [I boy], [.nils]], chains := ch, maps := [(ks, vs)] } =
      some (.fn (.func 128) [] [.box 5 0, .box 6 0, .box 7 0], { boxes := [x.cells, [.nils, I 0, .nils, .nils, .nilm], bcells x tr, [I boy], [.nils], bcells x tr, [I boy], [r]], chains := ch, maps := [(ks, vs)] }) := by
  rw [callA_imp (by rfl)]
  simp [bodyA, comp120, code120, bcells, Book.cells, htc, hc, hcs, cutR, under]

theorem cutO2 (x : Book) (tr tr' : AV) (ksV ks' vs vs' : List AV) (ch ch' : List (Nat × Nat)) (b3 b4 b5 b6 b7 : List AV) (L : Lp) (e : Env) (he : ∀ nc, e.all (under 3 nc 1 0 6) = true)
    (h1 : under 3 ch'.length 1 0 6 tr' = true) (h2 : ks'.all (under 3 ch'.length 1 0 6) = true) (h3 : vs'.all (under 3 ch'.length 1 0 6) = true) (h4 : (under 3 ch.length 1 0 6 tr' && vs'.all (under 3 ch.length 1 0 6)) = false) :
    cut { boxes := [x.cells, [.nils, I 0, .nils, .nils, .nilm], bcells x tr], chains := ch, maps := [(ksV, vs)] } { boxes := [x.cells, [.nils, I 0, .nils, .nils, .nilm], bcells x tr', b3, b4, b5, b6, b7], chains := ch', maps := [(ks', vs')], loops := [L] } e =
      { boxes := [x.cells, [.nils, I 0, .nils, .nils, .nilm], bcells x tr'], chains := ch', maps := [(ks', vs')] } := by
  rw [cut_keep]
  · simp [cutAt]
  · simp [-cut, dryAt, he, h1, h2, h3, bcells, Book.cells, under] <;> first | exact List.all_eq_true.1 (he _) | skip
  · right
    rw [Bool.and_eq_false_iff] at h4
    rcases h4 with h4 | h4
    · simp [-cut, -List.all_eq_true, dryAt, h4, bcells, Book.cells]
    · have : dryAt ch.length { boxes := [x.cells, [.nils, I 0, .nils, .nils, .nilm], bcells x tr], chains := ch, maps := [(ksV, vs)] } { boxes := [x.cells, [.nils, I 0, .nils, .nils, .nilm], bcells x tr', b3, b4, b5, b6, b7], chains := ch', maps := [(ks', vs')], loops := [L] } e = false := by
        unfold dryAt
        simp only [List.length_cons, List.length_nil, Nat.zero_add, List.take_succ_cons, List.take_zero, List.all_cons, List.all_nil, h4, Bool.and_false, Bool.false_and, Bool.and_true]
      exact this
theorem cutO1 (x : Book) (tr tr' : AV) (ksV ks' vs vs' : List AV) (ch ch' : List (Nat × Nat)) (b3 b4 b5 b6 b7 : List AV) (L : Lp) (e : Env) (he : ∀ nc, e.all (under 3 nc 1 0 6) = true)
    (h1 : under 3 ch.length 1 0 6 tr' = true) (h2 : ks'.all (under 3 ch.length 1 0 6) = true) (h3 : vs'.all (under 3 ch.length 1 0 6) = true) :
    cut { boxes := [x.cells, [.nils, I 0, .nils, .nils, .nilm], bcells x tr], chains := ch, maps := [(ksV, vs)] } { boxes := [x.cells, [.nils, I 0, .nils, .nils, .nilm], bcells x tr', b3, b4, b5, b6, b7], chains := ch', maps := [(ks', vs')], loops := [L] } e =
      { boxes := [x.cells, [.nils, I 0, .nils, .nils, .nilm], bcells x tr'], chains := ch'.take ch.length, maps := [(ks', vs')] } := by
  unfold cut
  rw [if_pos]
  · simp [cutAt]
  · simp [-cut, dryAt, he, h1, h2, h3, bcells, Book.cells, under] <;> first | exact List.all_eq_true.1 (he _) | skip
theorem fold_l (w : Int) : ∀ (l : List Vo) (M : Ms), (l.foldl (step w) M).l = M.l ++ l
  | [], M => by simp
  | v :: l, M => by rw [List.foldl_cons, fold_l w l]; simp [step]
theorem round60 (x : Book) (hx : x.Ok) (hwk : x.weeks ≤ 6) (boy : Nat) (b : Boy) (hb : x.boys[boy]? = some b) (hbo : boyOk b = true) (N : Int) (hN : (boy : Int) < N) (hN' : N < 2 ^ 47) (but : List Int) (r : AV) (hbl : but.length < 2 ^ 47) (hr : VRow 1 (ints but) r)
    (T : List (List Vo)) (ks : List (Int × Int)) (pvs vs : List AV) (ch : List (Nat × Nat)) (ct : Nat) (hI : OInv boy T ks pvs vs ch ct) (hT : T.length < 900) :
    ∃ vs' ch' ct', OInv (boy + 1) (T ++ [voicesOf x boy b but]) (ks ++ pairsFrom boy (msOf x boy b but).ws.length) (pvs ++ (msOf x boy b but).ws.map rowN) vs' ch' ct' ∧
      run Cv 109 (.loop keep109_2 body109_2) (head60 r N boy) (stO x T ks vs ch ct) = run Cv 109 (.loop keep109_2 body109_2) (head60 r N (boy + 1)) (stO x (T ++ [voicesOf x boy b but]) (ks ++ pairsFrom boy (msOf x boy b but).ws.length) vs' ch' ct') := by
  have hc : T ≠ [] → ct < ch.length := fun h => (List.getElem?_eq_some_iff.1 (hI.ct h)).1
  have hX := fixO_ok hx hb hbo hbl hr N hc (ct := ct)
  have ho : (Old.mk ks vs ch).Ok boy := { len := hI.len, new := fun p hp => by have := hI.lt p hp; omega, vs := ⟨pvs, hI.vp⟩, vu := hI.vu }
  have hY := yields hX ho rfl N rfl hwk
  have hinv : InvM (1 + (enum b (okV (fixO x boy b T ct but r N ch.length)) 4 ⟨-1, -1, -1, -1, -1⟩).length) ⟨[], []⟩ := ⟨⟨fun _ => rfl⟩, by
    have := enum_short hX ⟨-1, -1, -1, -1, -1⟩
    show 0 + (1 + (enum b (okV (fixO x boy b T ct but r N ch.length)) 4 ⟨-1, -1, -1, -1, -1⟩).length) < 1000
    have e : (fixO x boy b T ct but r N ch.length).b = b := rfl
    rw [e] at this
    omega, fun es h => by cases h⟩
  have h1 := f103_call hX hY 1 ⟨[], []⟩ hinv
  have hM := (hY.oks _ 1 _ hinv).1
  rw [show (List.foldl (step (fixO x boy b T ct but r N ch.length).x.weeks) ⟨[], []⟩ (enum (fixO x boy b T ct but r N ch.length).b (okV (fixO x boy b T ct but r N ch.length)) 4 ⟨-1, -1, -1, -1, -1⟩)) = msOf x boy b but from rfl] at h1
  rw [show (List.foldl (step (fixO x boy b T ct but r N ch.length).x.weeks) ⟨[], []⟩ (enum b (okV (fixO x boy b T ct but r N ch.length)) 4 ⟨-1, -1, -1, -1, -1⟩)) = msOf x boy b but from rfl] at hM
  have hMl : (msOf x boy b but).l = voicesOf x boy b but := by rw [msOf, fold_l]; rfl
  generalize hMs : msOf x boy b but = M at *
  rw [← hMl]
  have e0 : accM (fixO x boy b T ct but r N ch.length).boy ⟨ks, vs, ch⟩ ⟨[], []⟩ = ⟨.nils, ks.map pairV, vs, ch⟩ := by simp [accM, Ms.lV, Ms.chV, rowsFrom, keysFrom]
  rw [e0] at h1
  have hw : IntKind.wrap .i64 ((boy : Int) + 1) = boy + 1 := wrap_small (by omega) (by omega)
  have g1 := hr.cell
  have g2 := hr.cells
  have g3 : ∀ a b c d, under a b c d 6 r = true := fun a b c d => hr.under a b c d 5
  have htc : (trV T ct).isCell = true := hX.trc
  have htu : ∀ a c d, under a ch.length c d 6 (trV T ct) = true := fun a c d => hX.tru a ch.length c d 5 (Nat.le_refl _)
  rw [run_loop]
  generalize MC.loop keep109_2 body109_2 = L
  have h94 := f94_call x (trV T ct) r boy (ks.map pairV) vs ch htc g1 g2
  simp only [bcells, Book.cells, List.cons_append, List.nil_append] at h94
  simp only [S0, base, fixO, bcells, Book.cells, List.cons_append, List.nil_append, lpV, envL, List.replicate] at h1
  have hl : (accM boy ⟨ks, vs, ch⟩ M).l = M.lV ch.length := rfl
  have hks : (accM boy ⟨ks, vs, ch⟩ M).ks = ks.map pairV ++ (pairsFrom boy M.ws.length).map pairV := by rw [← keys_pairs]; rfl
  have hvs : (accM boy ⟨ks, vs, ch⟩ M).vs = vs ++ rowsFrom (ch.length + 1) M.ws := rfl
  have hch : (accM boy ⟨ks, vs, ch⟩ M).ch = ch ++ M.chV := rfl
  have hfill : fillE 1 false [(0, M.lV ch.length)] [.nils] = some [rowT M.l] := by
    simp [fillE, depth, pur_lV M ch.length 11 {}, rowT_cells, rowT_cell, rowT_agg]
  have hlenT : ¬ 140737488355328 < (T.length + 1) * 24 := by omega
  have hkeys : ∀ nc, ((ks ++ pairsFrom boy M.ws.length).map pairV).all (under 3 nc 1 0 6) = true := fun nc => under_pairs 3 nc 1 0 4 _
  have hlen2 : (ks ++ pairsFrom boy M.ws.length).length = (vs ++ rowsFrom (ch.length + 1) M.ws).length := by simp [pairsFrom, rowsFrom_length, hI.len]
  have hlt2 : ∀ p ∈ ks ++ pairsFrom boy M.ws.length, p.1 < ((boy + 1 : Nat) : Int) := by
    intro p hp
    rcases List.mem_append.1 hp with hp | hp
    · have := hI.lt p hp; omega
    · simp only [pairsFrom, List.mem_map] at hp
      obtain ⟨w, _, rfl⟩ := hp
      show (boy : Int) < _
      omega
  have hvp2 : ∀ σ n, purAll (pur σ (n + 1)) (vs ++ rowsFrom (ch.length + 1) M.ws) = some (pvs ++ M.ws.map rowN, false) := fun σ n => purAll_app _ _ _ _ _ (hI.vp σ n) (pur_rows σ n _ _)
  have fin : ∀ ct' ch' ch'', (∀ σ : St, σ.chains = ch ++ M.chV → appA σ false 1 24 false (trV T ct) (.sl 1 [rowT M.l] .full) = some (trV (T ++ [M.l]) ct', { σ with chains := ch' })) → (trV (T ++ [M.l]) ct').isCell = true →
      (∀ (b3 b4 b5 b6 b7 : List AV) (Lo : Lp) (e : Env), (∀ nc, e.all (under 3 nc 1 0 6) = true) → cut { boxes := [x.cells, [.nils, I 0, .nils, .nils, .nilm], bcells x (trV T ct)], chains := ch, maps := [(ks.map pairV, vs)] } { boxes := [x.cells, [.nils, I 0, .nils, .nils, .nilm], bcells x (trV (T ++ [M.l]) ct'), b3, b4, b5, b6, b7], chains := ch', maps := [(ks.map pairV ++ (pairsFrom boy M.ws.length).map pairV, vs ++ rowsFrom (ch.length + 1) M.ws)], loops := [Lo] } e =
        { boxes := [x.cells, [.nils, I 0, .nils, .nils, .nilm], bcells x (trV (T ++ [M.l]) ct')], chains := ch'', maps := [(ks.map pairV ++ (pairsFrom boy M.ws.length).map pairV, vs ++ rowsFrom (ch.length + 1) M.ws)] }) →
      againA (run Cv) 109 keep109_2 L { boxes := [x.cells, [.nils, I 0, .nils, .nils, .nilm], bcells x (trV T ct)], chains := ch, maps := [(ks.map pairV, vs)] } (run Cv 109 body109_2 (mask keep109_2 (head60 r N boy)) (stO x T ks vs ch ct)) = run Cv 109 L (head60 r N (boy + 1)) (stO x (T ++ [M.l]) (ks ++ pairsFrom boy M.ws.length) (vs ++ rowsFrom (ch.length + 1) M.ws) ch'' ct') := by
    intro ct' ch' ch'' happ hcell hcut
    have htc' : (trV (T ++ [M.l]) ct').cells = [trV (T ++ [M.l]) ct'] := by unfold trV; split <;> rfl
    simp only [bcells, Book.cells, List.cons_append, List.nil_append] at hcut
    simp [-cut, body109_2, keep109_2, head60, stO, hN, bcells, Book.cells, h94, htc, g1, g2, g3, htu]
    rw [run_range]
    simp [-cut, isFn, pendA, h1, lpV, envL, hl, hks, hvs, hch, hfill, happ, hcell, htc', hw]
    rw [hcut]
    intro nc
    simp [under, g3]
  have hne : T ++ [M.l] ≠ [] := by simp
  have htv : ∀ c, trV (T ++ [M.l]) c = .sl 1 ((T ++ [M.l]).map rowT) (.chain c) := fun c => if_neg hne
  have hwf := hM.1
  have hchl : (ch ++ M.chV).length = ch.length + if M.l = [] then 0 else M.ws.length + 1 := by rw [List.length_append, chV_length hwf]
  have hvu : ∀ nc, (ch ++ M.chV).length ≤ nc → ∀ a c d n, (vs ++ rowsFrom (ch.length + 1) M.ws).all (under a nc c d (n + 1)) = true := by
    intro nc hnc a c d n
    rw [List.all_append, hI.vu _ _ _ _ _ (by omega), Bool.true_and, under_rows, decide_eq_true_eq]
    intro w hw'
    by_cases h : M.l = []
    · rw [hwf.ws h] at hw'; simp at hw'
    · rw [hchl, if_neg h] at hnc; omega
  by_cases hT0 : T = []
  · have happ : ∀ σ : St, σ.chains = ch ++ M.chV → appA σ false 1 24 false (trV T ct) (.sl 1 [rowT M.l] .full) = some (trV (T ++ [M.l]) (ch ++ M.chV).length, { σ with chains := ch ++ M.chV ++ [(1, 1)] }) := by
      intro σ hσ
      rw [htv]
      simp [trV, hT0, appA, elemsA, grown, hσ]
    refine ⟨vs ++ rowsFrom (ch.length + 1) M.ws, ch ++ M.chV ++ [(1, 1)], (ch ++ M.chV).length, ⟨hlen2, hlt2, hvp2, ?_, ?_, ?_⟩, fin _ _ _ happ (by rw [htv]; rfl) ?_⟩
    · intro a b c d n hb'
      exact hvu _ (by rw [List.length_append (bs := [(1, 1)])] at hb'; simp only [List.length_singleton] at hb'; omega) _ _ _ _
    · intro _
      simp [hT0]
    · simp [hT0]
    · intro b3 b4 b5 b6 b7 Lo e he
      refine cutO2 x _ _ _ _ _ _ _ _ _ _ _ _ _ _ _ he ?_ ?_ ?_ ?_
      · rw [htv]; simp [under]
      · have := hkeys (ch ++ M.chV ++ [(1, 1)]).length; rwa [List.map_append] at this
      · exact hvu _ (by simp) _ _ _ 5
      · rw [htv, Bool.and_eq_false_iff]; left; simp [under]
  · have hct := hI.ct hT0
    have hlt := hc hT0
    have happ : ∀ σ : St, σ.chains = ch ++ M.chV → appA σ false 1 24 false (trV T ct) (.sl 1 [rowT M.l] .full) = some (trV (T ++ [M.l]) ct, { σ with chains := (ch ++ M.chV).set ct (T.length + 1, 1) }) := by
      intro σ hσ
      rw [htv]
      simp [trV, hT0, appA, elemsA, hσ, List.getElem?_append_left hlt, hct]
      omega
    by_cases hws : M.ws = []
    · refine ⟨vs ++ rowsFrom (ch.length + 1) M.ws, ((ch ++ M.chV).set ct (T.length + 1, 1)).take ch.length, ct, ⟨hlen2, hlt2, hvp2, ?_, ?_, ?_⟩, fin _ _ _ happ (by rw [htv]; rfl) ?_⟩
      · intro a b c d n hb'
        have : (((ch ++ M.chV).set ct (T.length + 1, 1)).take ch.length).length = ch.length := by simp
        rw [this] at hb'
        rw [hws, rowsFrom, List.append_nil]
        exact hI.vu _ _ _ _ _ hb'
      · intro _
        rw [List.getElem?_take, if_pos hlt, List.getElem?_set_self (by simp; omega)]
        simp
      · simp; omega
      · intro b3 b4 b5 b6 b7 Lo e he
        refine cutO1 x _ _ _ _ _ _ _ _ _ _ _ _ _ _ _ he ?_ ?_ ?_
        · rw [htv]; simp [under, hlt]
        · have := hkeys ch.length; rwa [List.map_append] at this
        · rw [hws, rowsFrom, List.append_nil]
          exact hI.vu _ _ _ _ 5 (Nat.le_refl _)
    · have hl0 : M.l ≠ [] := fun h => hws (hwf.ws h)
      have hwl : 0 < M.ws.length := List.length_pos_iff.2 hws
      refine ⟨vs ++ rowsFrom (ch.length + 1) M.ws, (ch ++ M.chV).set ct (T.length + 1, 1), ct, ⟨hlen2, hlt2, hvp2, ?_, ?_, ?_⟩, fin _ _ _ happ (by rw [htv]; rfl) ?_⟩
      · intro a b c d n hb'
        exact hvu _ (by rwa [List.length_set] at hb') _ _ _ _
      · intro _
        rw [List.getElem?_set_self (by simp; omega)]
        simp
      · simp; omega
      · intro b3 b4 b5 b6 b7 Lo e he
        refine cutO2 x _ _ _ _ _ _ _ _ _ _ _ _ _ _ _ he ?_ ?_ ?_ ?_
        · rw [htv]; simp only [under, List.length_set, hchl, decide_eq_true_eq]; omega
        · have := hkeys ((ch ++ M.chV).set ct (T.length + 1, 1)).length; rwa [List.map_append] at this
        · exact hvu _ (by rw [List.length_set]; exact Nat.le_refl _) _ _ _ 5
        · rw [Bool.and_eq_false_iff]; right
          rw [List.all_append, under_rows, Bool.and_eq_false_iff]; right
          rw [decide_eq_false_iff_not]
          intro h
          have := h 0 hwl
          omega
end Go.Ai.Vc

set_option maxRecDepth 100000
namespace Go.Ai.Vc
attribute [local simp] opsA_cons opsA_nil oneA condA putR thenA_nm thenA_rt thenA_ex nmA wantedA operA putA ev retA retsA pur depth List.replicate List.getD purR endA condC_bool blockA_nm blockA_rt blockA_ex againA pureA_call call_none pureCallA backA purAll mask
def Ts (x : Book) (but : List Int) : List Boy → Nat → List (List Vo)
  | [], _ => []
  | b :: l, k => voicesOf x k b but :: Ts x but l (k + 1)
def Ks (x : Book) (but : List Int) : List Boy → Nat → List (Int × Int)
  | [], _ => []
  | b :: l, k => pairsFrom k (msOf x k b but).ws.length ++ Ks x but l (k + 1)
def Ps (x : Book) (but : List Int) : List Boy → Nat → List AV
  | [], _ => []
  | b :: l, k => (msOf x k b but).ws.map rowN ++ Ps x but l (k + 1)
theorem end60 (x : Book) (r : AV) (N : Int) (σ : St) : ∃ e, run Cv 109 (.loop keep109_2 body109_2) (head60 r N N) σ = some (.ex 0, e, σ) ∧ e[4]? = some (.box 1 0) ∧ e[5]? = some (.box 2 0) ∧ e.length = 62 := by
  rw [run_loop]
  simp [body109_2, keep109_2, head60]
theorem loop60 (x : Book) (hx : x.Ok) (hwk : x.weeks ≤ 6) (hbo : x.boys.all boyOk = true) (hlen : x.boys.length < 800) (but : List Int) (r : AV) (hbl : but.length < 2 ^ 47) (hr : VRow 1 (ints but) r) :
    ∀ (l : List Boy) (k : Nat) (T : List (List Vo)) (ks : List (Int × Int)) (pvs vs : List AV) (ch : List (Nat × Nat)) (ct : Nat), OInv k T ks pvs vs ch ct → T.length = k → k ≤ x.boys.length → x.boys.drop k = l →
      ∃ e vs' ch' ct', OInv x.boys.length (T ++ Ts x but l k) (ks ++ Ks x but l k) (pvs ++ Ps x but l k) vs' ch' ct' ∧
        run Cv 109 (.loop keep109_2 body109_2) (head60 r x.boys.length k) (stO x T ks vs ch ct) = some (.ex 0, e, stO x (T ++ Ts x but l k) (ks ++ Ks x but l k) vs' ch' ct') ∧ e[4]? = some (.box 1 0) ∧ e[5]? = some (.box 2 0) ∧ e.length = 62
  | [], k, T, ks, pvs, vs, ch, ct, hI, hT, hk, h => by
    have : k = x.boys.length := Nat.le_antisymm hk (by simpa using h)
    subst this
    obtain ⟨e, h1, h2, h3, h4⟩ := end60 x r x.boys.length (stO x T ks vs ch ct)
    exact ⟨e, vs, ch, ct, by simpa [Ts, Ks, Ps] using hI, by simpa [Ts, Ks, Ps] using h1, h2, h3, h4⟩
  | b :: l, k, T, ks, pvs, vs, ch, ct, hI, hT, hk, h => by
    have hb : x.boys[k]? = some b := by
      have : (x.boys.drop k)[0]? = some b := by rw [h]; rfl
      simpa using this
    have hlt : k < x.boys.length := (List.getElem?_eq_some_iff.1 hb).1
    obtain ⟨vs', ch', ct', hI', hr'⟩ := round60 x hx hwk k b hb (List.all_eq_true.1 hbo b (List.mem_of_getElem? hb)) x.boys.length (by omega) (by omega) but r hbl hr T ks pvs vs ch ct hI (by omega)
    obtain ⟨e, vs'', ch'', ct'', hI'', hr'', h2, h3, h4⟩ := loop60 x hx hwk hbo hlen but r hbl hr l (k + 1) _ _ _ _ _ _ hI' (by simp [hT]) hlt (by rw [← List.drop_drop, h]; rfl)
    refine ⟨e, vs'', ch'', ct'', by simpa [Ts, Ks, Ps] using hI'', ?_, h2, h3, h4⟩
    rw [hr']
    simpa [Ts, Ks, Ps] using hr''

def openedV (x : Book) (but : List Int) : AV := .agg (x.cells ++ [trP (Ts x but x.boys 0), .mapv ((Ks x but x.boys 0).map pairV) (Ps x but x.boys 0)])
theorem trV_pur (T : List (List Vo)) (ct : Nat) (σ : St) (n : Nat) : pur σ (n + 1) (trV T ct) = some (trP T, false) := by
  simp only [trV, trP]; split <;> rfl
theorem opened_call (x : Book) (hx : x.Ok) (hwk : x.weeks ≤ 6) (hbo : x.boys.all boyOk = true) (hlen : x.boys.length < 800) (but : List Int) (r : AV) (hbl : but.length < 2 ^ 47) (hr : VRow 1 (ints but) r) :
    call Cv 109 [x.av, r] = some (openedV x but) := by
  have hI : OInv 0 [] [] [] [] [] 0 := ⟨rfl, fun p hp => (List.not_mem_nil hp).elim, fun _ _ => rfl, fun _ _ _ _ _ _ => rfl, fun h => absurd rfl h, (by simp)⟩
  obtain ⟨e, vs', ch', ct', hI', h1, h2, h3, h4⟩ := loop60 x hx hwk hbo hlen but r hbl hr x.boys 0 [] [] [] [] [] 0 hI rfl (Nat.zero_le _) rfl
  simp only [List.nil_append] at h1 hI'
  have hvp : ∀ σ, purAll (pur σ 10) vs' = _ := fun σ => hI'.vp σ 9
  have hkp : ∀ σ n, purAll (pur σ (n + 2)) ((Ks x but x.boys 0).map pairV) = _ := fun σ n => pur_pairs σ n _
  have htc : ∀ T ct, (trV T ct).isCell = true := fun T ct => by simp only [trV]; split <;> rfl
  have htr : trV [] 0 = .nils := rfl
  simp only [stO, Book.cells, bcells, List.cons_append, List.nil_append, htr, List.map_nil] at h1
  rw [call_def comp109]
  simp [code109, Book.av, Book.cells, fillA, hx.lenB]
  rw [run_loop_mask]
  rw [show mask keep109_2 _ = head60 r x.boys.length (0 : Nat) from by simp [keep109_2, head60]]
  rw [h1]
  have hset : ∀ v, (e.set 61 v)[61]? = some v := fun v => List.getElem?_set_self (by omega)
  simp [h2, h3, htc, trV_pur, hvp, hkp, hset]
  rfl
end Go.Ai.Vc
