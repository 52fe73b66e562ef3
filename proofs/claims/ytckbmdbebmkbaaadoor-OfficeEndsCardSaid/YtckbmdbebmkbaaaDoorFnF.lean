/- This text shows all seasons. No conditions of its own. -/
import Derived.Test.YtckbmdbebmkbaaaDoorFnE
set_option linter.unusedSimpArgs false
set_option linter.unusedVariables false
set_option maxRecDepth 100000
namespace Go.Ai
open Go.Office (Ft Rl Us Nt Bk Mt Dy DyK Dy0 Sg addB clrB moveN now0 seas vals)
section
variable {X : WX}
theorem Step.trans {T T1 T2 : List (List Int)} {J J1 J2 : List (Nat × Nat)} (h : Step T J T1 J1) (k : Step T1 J1 T2 J2) : Step T J T2 J2 := by
  rcases h with ⟨rfl, h⟩ | ⟨h1, h2, h3⟩
  · rcases k with ⟨rfl, k⟩ | ⟨k1, k2, k3⟩
    · left
      refine ⟨rfl, ?_⟩
      rcases h with rfl | h
      · exact k
      · rcases k with rfl | k
        · exact .inr h
        · exact .inr ⟨h.1, k.2⟩
    · rcases h with rfl | h
      · exact .inr ⟨k1, k2, k3⟩
      · exact absurd k1 h.2
  · rcases k with ⟨rfl, k⟩ | ⟨k1, _, _⟩
    · right
      refine ⟨h1, h2, ?_⟩
      rcases k with rfl | k
      · exact h3
      · exact k.2
    · exact absurd k1 h3
theorem Step.refl (T : List (List Int)) (J : List (Nat × Nat)) : Step T J T J := .inl ⟨rfl, .inl rfl⟩
theorem Step.empty {T T' : List (List Int)} {J J' : List (Nat × Nat)} (h : Step T J T' J') (hJ : T = [] → J = []) : T' = [] → J' = [] := fun h' => by
  rcases h with ⟨rfl, h | h⟩ | ⟨_, _, h3⟩
  · exact hJ (h ▸ h')
  · exact absurd h' h.2
  · exact absurd h' h3
def WX.Fs (X : WX) (q : List Int) : List (List Int) := ((seas (X.x.fs.drop q.length)).map (q ++ ·)).filter X.rq
theorem Fs_leaf (q : List Int) (hq : q.length = X.x.fs.length) : X.Fs q = if X.rq q then [q] else [] := by
  unfold WX.Fs
  rw [hq, List.drop_length, seas]
  simp [List.filter_cons]
theorem Fs_next (q : List Int) (f : Ft) (hf : X.x.fs[q.length]? = some f) : X.Fs q = (vals f).flatMap fun v => X.Fs (q ++ [v]) := by
  unfold WX.Fs
  have hd : X.x.fs.drop q.length = f :: X.x.fs.drop (q.length + 1) := by
    obtain ⟨h1, h2⟩ := List.getElem?_eq_some_iff.1 hf
    rw [← h2, List.drop_eq_getElem_cons h1]
  rw [hd, seas, List.map_flatMap, List.filter_flatMap]
  congr 1
  funext v
  rw [List.length_append, List.length_singleton, List.map_map]
  congr 2
  funext s
  simp
theorem arr4_put (q w : List Int) (hw : w.length ≤ 1) (hq : q.length < 4) (v : Int) : setAt (arr4 (now0 (q ++ w))) q.length [I v] = arr4 (now0 (q ++ [v])) := by
  have key : ∀ i, i < 4 → now0 (q ++ [v]) i = if i = q.length then v else now0 (q ++ w) i := by
    intro i hi
    unfold now0
    by_cases h : i = q.length
    · subst h; simp
    · rw [if_neg h, List.getD_eq_getElem?_getD, List.getD_eq_getElem?_getD]
      rcases Nat.lt_or_ge i q.length with h1 | h1
      · rw [List.getElem?_append_left h1, List.getElem?_append_left h1]
      · rw [List.getElem?_append_right h1, List.getElem?_append_right h1, List.getElem?_eq_none (by simp; omega), List.getElem?_eq_none (by omega)]
  have hset : setAt (arr4 (now0 (q ++ w))) q.length [I v] = arr4 fun i => if i = q.length then v else now0 (q ++ w) i := by
    have : q.length = 0 ∨ q.length = 1 ∨ q.length = 2 ∨ q.length = 3 := by omega
    rcases this with h | h | h | h <;> rw [h] <;> rfl
  rw [hset]
  unfold arr4
  rw [key 0 (by omega), key 1 (by omega), key 2 (by omega), key 3 (by omega)]
def head88_1 (E : List (List AV)) (f : Int) (n k : Int) : Env := mkE 87 .any [(64, I k), (63, I n), (11, .box (7 + E.length + 1) 0), (6, .box (7 + E.length) 0), (5, .box 6 0), (2, .box 3 0), (1, I f)]
theorem round88_1 (hX : X.Go) (T : List (List Int)) (J : List (Nat × Nat)) (E : List (List AV)) (hE : noE E) (q w : List Int) (hw : w.length ≤ 1) (hq : q.length < X.x.fs.length) (f : Ft) (hf0 : 0 ≤ f.lo) (hf1 : f.hi < X.x.days) (k : Nat) (hk : (k : Int) < f.hi - f.lo + 1)
    (T' : List (List Int)) (J' : List (Nat × Nat)) (hS : Step T J T' J')
    (hrec : callA Cv (run Cv) false nextV [.agg (arr4 (now0 (q ++ [f.lo + k]))), I ((q.length + 1 : Nat) : Int)] (X.st T J (E ++ [arr4 (now0 (q ++ [f.lo + k])), [I f.lo, I f.hi]])) = some (.bool true, X.st T' J' (E ++ [arr4 (now0 (q ++ [f.lo + k])), [I f.lo, I f.hi]]))) :
    run Cv 88 (.loop keep88_1 body88_1) (head88_1 E q.length (f.hi - f.lo + 1) k) (X.st T J (E ++ [arr4 (now0 (q ++ w)), [I f.lo, I f.hi]])) = run Cv 88 (.loop keep88_1 body88_1) (head88_1 E q.length (f.hi - f.lo + 1) (k + 1)) (X.st T' J' (E ++ [arr4 (now0 (q ++ [f.lo + k])), [I f.lo, I f.hi]])) := by
  have hX' := hX.toOk
  have n4 := hX'.n4
  have d6 := hX'.d6
  have w1 : IntKind.wrap .i64 (f.lo + k) = f.lo + k := wrap_small (by omega) (by omega)
  have w2 : IntKind.wrap .i64 ((k : Int) + 1) = k + 1 := wrap_small (by omega) (by omega)
  have w3 : IntKind.wrap .i64 ((q.length : Int) + 1) = (q.length : Int) + 1 := wrap_small (by omega) (by omega)
  rw [show ((q.length + 1 : Nat) : Int) = (q.length : Int) + 1 by omega] at hrec
  have hix := ixa4 (k := q.length) (by omega) (7 + E.length) 0
  rw [show 0 + q.length * 1 = q.length by omega] at hix
  have l1 := y_load (X := X) T J [] E [arr4 (now0 (q ++ w)), [I f.lo, I f.hi]] [] 0 (q := 1) rfl none 0 (7 + E.length + 1) rfl
  have s1 := y_store (X := X) T J [] E [arr4 (now0 (q ++ w)), [I f.lo, I f.hi]] [] 0 (q := 0) rfl 1 q.length (7 + E.length) rfl (I (f.lo + k)) rfl (by show q.length + 1 ≤ 4; omega) rfl
  have hset : [arr4 (now0 (q ++ w)), [I f.lo, I f.hi]].set 0 (setAt (arr4 (now0 (q ++ w))) q.length (I (f.lo + k)).cells) = [arr4 (now0 (q ++ [f.lo + k])), [I f.lo, I f.hi]] := by
    show [setAt (arr4 (now0 (q ++ w))) q.length [I (f.lo + k)], _] = _
    rw [arr4_put q w hw (by omega)]
  rw [hset] at s1
  have l2 := y_load (X := X) T J [] E [arr4 (now0 (q ++ [f.lo + k])), [I f.lo, I f.hi]] [] 0 (q := 0) rfl none q.length (7 + E.length) rfl
  have l3 := y_load (X := X) T J [] E [arr4 (now0 (q ++ [f.lo + k])), [I f.lo, I f.hi]] [] 0 (q := 0) rfl (some 4) 0 (7 + E.length) rfl
  have p1 : partA none (arr4 (now0 (q ++ [f.lo + k]))) q.length = some (I (f.lo + k)) := by
    rw [part4 _ (by omega)]
    simp [now0]
  have p2 : partA (some 4) (arr4 (now0 (q ++ [f.lo + k]))) 0 = some (.agg (arr4 (now0 (q ++ [f.lo + k])))) := rfl
  have p0 : partA none [I f.lo, I f.hi] 0 = some (I f.lo) := rfl
  rw [p1] at l2
  rw [p2] at l3
  rw [p0] at l1
  have l4 : ∀ F, loadA (X.gst T J F [] [] 0) none (.box 3 0) = some (I X.x.days) := fun _ => rfl
  have l5 : ∀ F, loadA (X.gst T J F [] [] 0) none (.box 6 0) = some nextV := fun _ => rfl
  have hge : ¬ f.lo + (k : Int) ≥ X.x.days := by omega
  have hcut := fun e he => cut_ret hX' T T' J J' [] (by
    rcases hS with h | ⟨a, b, c⟩
    · exact .inl h
    · exact .inr ⟨a, b, c, rfl⟩) (E ++ [arr4 (now0 (q ++ w)), [I f.lo, I f.hi]]) (E ++ [arr4 (now0 (q ++ [f.lo + k])), [I f.lo, I f.hi]]) [] (by simp) (fun a b c d => by
      rw [List.all_append, hE]
      simp only [List.all_cons, arr4_under, List.all_nil, un_int, Bool.and_self]) [] 0 e he
  rw [List.append_nil] at hcut
  have hst : ∀ T J F, X.gst T J F [] [] 0 = X.st T J F := fun _ _ _ => rfl
  simp only [hst] at l1 s1 l2 l3 l4 l5 hcut
  unfold nextV at hrec l5
  rw [run_loop]
  generalize MC.loop keep88_1 body88_1 = LL
  have hlen : (E ++ [arr4 (now0 (q ++ [f.lo + k])), [I f.lo, I f.hi]]).length = E.length + 2 := by simp
  have q1 : ∀ i, i < 8 → i < 7 + (E.length + 2) := fun i hi => by omega
  have q2 : 7 + E.length < 7 + (E.length + 2) ∧ 7 + E.length + 1 < 7 + (E.length + 2) := by omega
  simp (maxSteps := 10000000) [-List.getD_eq_getElem?_getD, -loadA, -storeA, -ixaA, -cut, -List.all_eq_true, body88_1, keep88_1, head88_1, hk, w1, w2, w3, hix, l1, s1, l2, l3, l4, l5, hge, hrec]
  rw [hcut]
  intro nc _
  simp (maxSteps := 10000000) [-List.getD_eq_getElem?_getD, -List.all_eq_true, hlen, q1, q2.1, q2.2]
end
end Go.Ai

set_option maxRecDepth 100000
namespace Go.Ai
open Go.Office (Ft Rl Us Nt Bk Mt Dy DyK Dy0 Sg addB clrB moveN now0 seas vals mem_vals)
section
variable {X : WX}
theorem loop88_1 (hX : X.Go) (E : List (List AV)) (hE : noE E) (q : List Int) (hq : q.length < X.x.fs.length) (f : Ft) (hf0 : 0 ≤ f.lo) (hf2 : f.lo ≤ f.hi) (hf1 : f.hi < X.x.days)
    (IH : ∀ (v : Int) (T : List (List Int)) (J : List (Nat × Nat)), (T = [] → J = []) → f.lo ≤ v → v ≤ f.hi → T.length + (X.Fs (q ++ [v])).length ≤ 50000 →
      ∃ J', callA Cv (run Cv) false nextV [.agg (arr4 (now0 (q ++ [v]))), I ((q.length + 1 : Nat) : Int)] (X.st T J (E ++ [arr4 (now0 (q ++ [v])), [I f.lo, I f.hi]])) = some (.bool true, X.st (T ++ X.Fs (q ++ [v])) J' (E ++ [arr4 (now0 (q ++ [v])), [I f.lo, I f.hi]])) ∧ Step T J (T ++ X.Fs (q ++ [v])) J') :
    ∀ (n k : Nat) (T : List (List Int)) (J : List (Nat × Nat)) (w : List Int), (k : Int) + n = f.hi - f.lo + 1 → w.length ≤ 1 → (T = [] → J = []) → T.length + ((List.range' k n).flatMap fun i => X.Fs (q ++ [f.lo + (i : Nat)])).length ≤ 50000 →
      ∃ w' J', run Cv 88 (.loop keep88_1 body88_1) (head88_1 E q.length (f.hi - f.lo + 1) k) (X.st T J (E ++ [arr4 (now0 (q ++ w)), [I f.lo, I f.hi]])) =
        some (.ex 2, mkE 87 .any [(65, .bool false), (64, I (f.hi - f.lo + 1)), (63, I (f.hi - f.lo + 1)), (11, .box (7 + E.length + 1) 0), (6, .box (7 + E.length) 0), (5, .box 6 0), (2, .box 3 0), (1, I q.length)],
          X.st (T ++ (List.range' k n).flatMap fun i => X.Fs (q ++ [f.lo + (i : Nat)])) J' (E ++ [arr4 (now0 (q ++ w')), [I f.lo, I f.hi]])) ∧ Step T J (T ++ (List.range' k n).flatMap fun i => X.Fs (q ++ [f.lo + (i : Nat)])) J'
  | 0, k, T, J, w, hk, hw, hJ, hT => by
    have hk' : (k : Int) = f.hi - f.lo + 1 := by omega
    refine ⟨w, J, ?_, by simpa using Step.refl T J⟩
    rw [List.range'_zero, List.flatMap_nil, List.append_nil, hk', run_loop]
    simp (maxSteps := 10000000) [-List.getD_eq_getElem?_getD, body88_1, keep88_1, head88_1]
  | n + 1, k, T, J, w, hk, hw, hJ, hT => by
    rw [List.range'_succ, List.flatMap_cons] at hT ⊢
    rw [List.length_append] at hT
    obtain ⟨J1, h1, h2⟩ := IH (f.lo + (k : Nat)) T J hJ (by omega) (by omega) (by omega)
    rw [round88_1 hX T J E hE q w hw hq f hf0 hf1 k (by omega) _ J1 h2 h1]
    have e1 : (k : Int) + 1 = ((k + 1 : Nat) : Int) := by omega
    rw [e1]
    obtain ⟨w', J2, g1, g2⟩ := loop88_1 hX E hE q hq f hf0 hf2 hf1 IH n (k + 1) (T ++ X.Fs (q ++ [f.lo + (k : Nat)])) J1 [f.lo + (k : Nat)] (by omega) (by simp) (h2.empty hJ) (by rw [List.length_append]; omega)
    rw [List.append_assoc] at g1 g2
    exact ⟨w', J2, g1, h2.trans g2⟩
theorem flat_range (f : Ft) (q : List Int) : ((List.range' 0 (f.hi - f.lo + 1).toNat).flatMap fun i => X.Fs (q ++ [f.lo + (i : Nat)])) = (vals f).flatMap fun v => X.Fs (q ++ [v]) := by
  unfold vals
  rw [List.flatMap_map, List.range_eq_range']
theorem next_all (hX : X.Go) : ∀ (m : Nat) (q : List Int) (T : List (List Int)) (J : List (Nat × Nat)) (E : List (List AV)), q.length + m = X.x.fs.length → (∀ i, i < q.length → 0 ≤ q.getD i (-1)) → (T = [] → J = []) → noE E → T.length + (X.Fs q).length ≤ 50000 →
    ∃ J', callA Cv (run Cv) false nextV [.agg (arr4 (now0 q)), I q.length] (X.st T J E) = some (.bool true, X.st (T ++ X.Fs q) J' E) ∧ Step T J (T ++ X.Fs q) J'
  | 0, q, T, J, E, hm, hq0, hJ, hE, hT => by
    have hq : q.length = X.x.fs.length := by omega
    obtain ⟨J', h1, h2⟩ := leaf hX T (by omega) J hJ E hE q hq hq0
    have e : (if X.rq q then T ++ [q] else T) = T ++ X.Fs q := by
      rw [Fs_leaf q hq]
      cases X.rq q <;> simp
    rw [e] at h1 h2
    rw [← hq] at h1
    exact ⟨J', h1, h2⟩
  | m + 1, q, T, J, E, hm, hq0, hJ, hE, hT => by
    have hX' := hX.toOk
    have n4 := hX'.n4
    have d6 := hX'.d6
    have hql : q.length < X.x.fs.length := by omega
    obtain ⟨f, hfd⟩ : ∃ f, f = X.x.fs[q.length] := ⟨_, rfl⟩
    have hf : X.x.fs[q.length]? = some f := by rw [hfd]; exact List.getElem?_eq_getElem hql
    have hfm : f ∈ X.x.fs := List.mem_of_getElem? hf
    obtain ⟨f0, f1, f2, f3⟩ := hX'.fs f hfm
    have hix := f_ix hX'.x hql
    rw [← hfd] at hix
    have hlen := flen hX'.x
    rw [Fs_next q f hf] at hT ⊢
    have hT' : T.length + ((List.range' 0 (f.hi - f.lo + 1).toNat).flatMap fun i => X.Fs (q ++ [f.lo + (i : Nat)])).length ≤ 50000 := by rw [flat_range]; exact hT
    have IH : ∀ (v : Int) (T : List (List Int)) (J : List (Nat × Nat)), (T = [] → J = []) → f.lo ≤ v → v ≤ f.hi → T.length + (X.Fs (q ++ [v])).length ≤ 50000 →
      ∃ J', callA Cv (run Cv) false nextV [.agg (arr4 (now0 (q ++ [v]))), I ((q.length + 1 : Nat) : Int)] (X.st T J (E ++ [arr4 (now0 (q ++ [v])), [I f.lo, I f.hi]])) = some (.bool true, X.st (T ++ X.Fs (q ++ [v])) J' (E ++ [arr4 (now0 (q ++ [v])), [I f.lo, I f.hi]])) ∧ Step T J (T ++ X.Fs (q ++ [v])) J' := by
      intro v T J hJ h1 h2 h3
      have hl : (q ++ [v]).length = q.length + 1 := by simp
      have := next_all hX m (q ++ [v]) T J (E ++ [arr4 (now0 (q ++ [v])), [I f.lo, I f.hi]]) (by rw [hl]; omega) (fun i hi => by
        rw [List.getD_eq_getElem?_getD]
        rcases Nat.lt_or_ge i q.length with h | h
        · rw [List.getElem?_append_left h]
          have := hq0 i h
          rwa [List.getD_eq_getElem?_getD] at this
        · have : i = q.length := by rw [hl] at hi; omega
          subst this
          simp; omega) hJ (fun a b c d n => by
        rw [List.all_append, hE]
        simp only [List.all_cons, arr4_under, List.all_nil, un_int, Bool.and_self]) h3
      rw [hl] at this
      exact this
    obtain ⟨w', J', g1, g2⟩ := loop88_1 hX E hE q hql f f0 f1 f2 IH (f.hi - f.lo + 1).toNat 0 T J [] (by omega) (by simp) hJ hT'
    rw [flat_range] at g1 g2
    refine ⟨J', ?_, g2⟩
    generalize (vals f).flatMap (fun v => X.Fs (q ++ [v])) = FF at *
    have e0 : ((0 : Nat) : Int) = 0 := rfl
    rw [e0, List.append_nil] at g1
    have g' := fun E (hE : mask keep88_1 E = _) => run_at g1 hE
    simp only [keep88_1, head88_1] at g'
    have hbox : boxA (X.st T J E) (.agg (arr4 (now0 q))) = some (.box (7 + E.length) 0, X.st T J (E ++ [arr4 (now0 q)])) := by
      have hl : (X.st T J E).boxes.length = 7 + E.length := w_len ..
      have hc : (AV.agg (arr4 (now0 q))).cells.all AV.isCell = true := rfl
      simp only [boxA, hc, if_true, hl]
      simp [WX.st, WX.gst, AV.cells]
    have lF : ∀ F, loadA (X.st T J F) none (.box 3 2) = some X.x.fr := fun _ => rfl
    have lr : ∀ σ : St, loadA σ (some 2) (.rp (ftC f) 0) = some (.agg [I f.lo, I f.hi]) := fun _ => rfl
    have hal := fun R d e => y_alloc (X := X) T J [] (E ++ [arr4 (now0 q)]) [] 0 (C := Cv) (R := R) (d := d) (e := e) [I 0, I 0]
    rw [List.append_assoc, List.length_append, List.length_singleton] at hal
    simp only [List.cons_append, List.nil_append, ← Nat.add_assoc] at hal
    have hst := y_store (X := X) T J [] E [arr4 (now0 q), [I 0, I 0]] [] 0 (q := 1) rfl 2 0 (7 + E.length + 1) rfl (.agg [I f.lo, I f.hi]) rfl (by decide) rfl
    have hset : [arr4 (now0 q), [I 0, I 0]].set 1 (setAt [I 0, I 0] 0 (AV.agg [I f.lo, I f.hi]).cells) = [arr4 (now0 q), [I f.lo, I f.hi]] := rfl
    rw [hset] at hst
    have ll := fun n off => y_load (X := X) T J [] E [arr4 (now0 q), [I f.lo, I f.hi]] [] 0 (q := 1) rfl n off (7 + E.length + 1) rfl
    have p0 : partA none [I f.lo, I f.hi] 0 = some (I f.lo) := rfl
    have p1 : partA none [I f.lo, I f.hi] 1 = some (I f.hi) := rfl
    have hgs : ∀ T J F, X.gst T J F [] [] 0 = X.st T J F := fun _ _ _ => rfl
    simp only [hgs] at hal hst ll
    have w1 : IntKind.wrap .i64 (f.hi - f.lo) = f.hi - f.lo := wrap_small (by omega) (by omega)
    have w2 : IntKind.wrap .i64 (f.hi - f.lo + 1) = f.hi - f.lo + 1 := wrap_small (by omega) (by omega)
    have hne : ((q.length : Int) == (X.x.fs.length : Int)) = false := by rw [beq_eq_false_iff_ne]; omega
    have hcut := cut_ret hX' T (T ++ FF) J J' [] (by
      rcases g2 with h | ⟨a, b, c⟩
      · exact .inl h
      · exact .inr ⟨a, b, c, rfl⟩) E E [arr4 (now0 (q ++ w')), [I f.lo, I f.hi]] rfl (fun a b c d => hE a b c d 5) [] 0 [.bool true] (fun nc _ => rfl)
    have hcut' : cut (X.st T J E) (X.st (T ++ FF) J' (E ++ [arr4 (now0 (q ++ w')), [I f.lo, I f.hi]])) [.bool true] = X.st (T ++ FF) J' E := hcut
    unfold nextV
    rw [callA_imp (by rfl) (by rfl), body_run comp88 (Nat.le_of_ble_eq_true rfl)]
    simp (maxSteps := 10000000) [-List.getD_eq_getElem?_getD, -boxA, -loadA, -storeA, -op_alloc, -ixsA, -partA, -cut, -List.all_eq_true, code88, hbox, lF, hlen, hne, hix, lr, hal, hst, ll, p0, p1, w1, w2, keep88_1, g']
    simp only [cutR, hcut']
end
end Go.Ai

set_option maxRecDepth 100000
namespace Go.Ai
open Go.Office (Ft Rl Us Nt Bk Mt Dy DyK Dy0 Sg addB clrB moveN now0 seas vals mem_vals keptN butF)
theorem run_range {C : Cfg} {f : FuncId} {g : Opd} {ps} {asg body : MC} {e : Env} {σ : St} : run C f (.range g ps asg body) e σ = if isFn (ev e g) then pendA (run C) σ.loops.length e (callA C (run C) false (ev e g) [.yld σ.loops.length] { σ with loops := σ.loops ++ [{ f, env := e, ps, asg, body, st := .ready, pend := none }] }) else none := by rw [run_eq]; rfl
section
variable {X : WX}
def WX.base4 (X : WX) (T : List (List Int)) (J : List (Nat × Nat)) : List (List AV) := [X.x.cells, zero9, X.oc (X.tv T J), X.oc .nils]
def WX.s4 (X : WX) (T : List (List Int)) (J : List (Nat × Nat)) : St := { boxes := X.base4 T J, chains := X.h.ch ++ J ++ growC 7 (X.rows T), loops := [X.L] }
theorem cut_s4 (hX : X.Ok) (T' : List (List Int)) (J' : List (Nat × Nat)) (hJ : T' = [] → J' = []) (e : Env) (he : ∀ nc, e.all (under 4 nc 0 1 6) = true) : cut (X.s4 [] []) (X.st T' J' []) e = X.s4 T' J' := by
  have hlen0 : (X.s4 [] []).boxes.length = 4 := rfl
  have ht : (X.base T' J' ++ []).take 4 = X.base4 T' J' := rfl
  have c0 : (X.s4 [] []).chains.length = X.h.ch.length := by simp [WX.s4, growC, WX.rows]
  have c1 : (X.st T' J' []).chains.length = X.h.ch.length + J'.length + if T' = [] then 0 else 1 := by
    have : (X.st T' J' []).chains = X.h.ch ++ J' ++ growC 7 (X.rows T') ++ [] := rfl
    rw [this, List.append_nil, List.length_append, List.length_append, gC_len]
  have hdry : ∀ nc, X.h.ch.length ≤ nc → dryAt nc (X.s4 [] []) (X.st T' J' []) e = decide (T' = [] ∨ X.h.ch.length + J'.length < nc) := by
    intro nc hnc
    have q1 := x_under hX.x 4 nc 0 1 5
    have q2 : (X.oc (X.tv T' J')).all (under 4 nc 0 1 6) = decide (T' = [] ∨ X.h.ch.length + J'.length < nc) := by
      have p1 := hX.x.fr.under 4 nc 0 1 5
      have p2 := hX.x.q0.under 4 nc 0 1 5
      have p3 := hX.x.q1.under 4 nc 0 1 5
      have p4 := hX.h.un' 4 nc 0 1 5 hnc
      have p5 := tv_under (X := X) T' J' 4 nc 0 1 5
      simp [WX.oc, bkC, under, p1, p2, p3, p4, p5]
    have q3 := oc_under hX .nils 4 nc 0 hnc 5 rfl
    have q8 : zero9.all (under 4 nc 0 1 6) = true := rfl
    have b5 := hX.L 4 nc 0 (by omega) hnc
    have b6 := he nc
    unfold dryAt
    rw [hlen0]
    have e1 : (X.st T' J' []).boxes = X.base T' J' ++ [] := rfl
    have e2 : (X.s4 [] []).maps.length = 0 := rfl
    have e3 : (X.s4 [] []).loops.length = 1 := rfl
    have e5 : (X.st T' J' []).loops = [X.L] := rfl
    rw [e1, ht, e2, e3, e5]
    simp only [List.take_succ_cons, List.take_zero, List.all_cons, List.all_nil, Bool.and_true, WX.base4, q1, q2, q3, q8, b5, b6, Bool.true_and]
  have hcutAt : ∀ nc, (X.st T' J' []).chains.length ≤ nc → cutAt nc (X.s4 [] []) (X.st T' J' []) = X.s4 T' J' := by
    intro nc hnc
    unfold cutAt
    rw [hlen0]
    have e1 : (X.st T' J' []).boxes = X.base T' J' ++ [] := rfl
    rw [e1, ht, List.take_of_length_le hnc]
    simp [WX.s4, WX.st, WX.gst]
  unfold cut
  rw [hdry _ (by rw [c0]; exact Nat.le_refl _), hdry _ (by rw [c1]; omega)]
  by_cases h : T' = []
  · have hj := hJ h
    rw [if_pos (by simp [h]), hcutAt _ (by rw [c0, c1, h, hj]; simp)]
  · rw [if_neg (by rw [c0, decide_eq_true_eq]; simp [h]), if_pos (by rw [c1, decide_eq_true_eq]; right; rw [if_neg h]; omega), hcutAt _ (Nat.le_refl _)]
theorem whole_callA (hX : X.Go) (hT : (X.Fs []).length ≤ 50000) : ∃ J', callA Cv (run Cv) false (.fn (.func 86) [] [.box 3 0]) [.yld 0] (X.s4 [] []) = some (.tup [], X.s4 (X.Fs []) J') := by
  have hX' := hX.toOk
  obtain ⟨J', h1, h2⟩ := next_all hX X.x.fs.length [] [] [] [] (by simp) (fun i hi => by simp at hi) (fun _ => rfl) (fun _ _ _ _ _ => rfl) (by simpa using hT)
  refine ⟨J', ?_⟩
  rw [List.nil_append] at h1 h2
  have hcut := cut_s4 hX' (X.Fs []) J' (h2.empty fun _ => rfl) [.tup []] (fun nc => rfl)
  generalize X.Fs [] = F at *
  have hn0 : arr4 (now0 []) = [I (-1), I (-1), I (-1), I (-1)] := rfl
  have e0 : (([] : List Int).length : Int) = 0 := rfl
  rw [hn0, e0] at h1
  have y1 : (AV.yld 0).cells = [.yld 0] := rfl
  have y2 : (AV.yld 0).isCell = true := rfl
  have hoc : (X.oc .nils).length = 9 := rfl
  have p9 : partA (some 9) (X.oc .nils) 0 = some (.agg (X.oc .nils)) := rfl
  have p1 : ∀ a, partA none [a] 0 = some a := fun _ => rfl
  have pn : partA (some 4) [I (-1), I (-1), I (-1), I (-1)] 0 = some (.agg [I (-1), I (-1), I (-1), I (-1)]) := rfl
  have ht0 : X.tv [] [] = .nils := rfl
  have hr0 : X.rows [] = [] := rfl
  simp only [List.append_assoc, WX.st, WX.gst, WX.base, ht0, hr0, growC_nil, List.append_nil, rightV, nextV] at h1 hcut
  simp only [List.append_assoc, WX.s4, WX.base4, ht0, hr0, growC_nil, List.append_nil] at hcut ⊢
  rw [callA_imp (by rfl) (by rfl), body_run comp86 (Nat.le_of_ble_eq_true rfl)]
  simp (maxSteps := 10000000) [-List.getD_eq_getElem?_getD, -cut, -partA, code86, y1, y2, p9, p1, pn, h1, retA_nil]
  simp only [cutR, hcut]
end
end Go.Ai
