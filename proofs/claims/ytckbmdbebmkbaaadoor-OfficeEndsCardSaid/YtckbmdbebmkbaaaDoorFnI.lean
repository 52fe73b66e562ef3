/- This text shows all values that something has. No conditions of its own. -/
import Derived.Test.YtckbmdbebmkbaaaDoorFnH
set_option linter.unusedSimpArgs false
set_option linter.unusedVariables false
set_option maxRecDepth 100000
namespace Go.Ai
open Go.Office (Ft Rl Us Nt Bk Mt Dy DyK Dy0 Sg now0 seas vals keptN butF cnt vote allI compactF)
section
variable {x : OB} {T : List (List Int)}
structure FnAt (x : OB) (T : List (List Int)) (B : List (List AV)) (F : AV) (v : List Int → Int) : Prop where
  cell : F.isCell = true
  cells : F.cells = [F]
  call : ∀ (E : List (List AV)) (q : List Int), q ∈ T → callA Cv (run Cv) false F [.agg (tC x q)] { boxes := B ++ E } = some (I (v q), { boxes := B ++ E })
def head48 (O : XO x T) (B : List (List AV)) (r : AV) (k : Int) : Env := mkE 33 .any [(11, I k), (10, I T.length), (9, O.tv), (5, r), (3, .box (B.length + 1) 0)]
theorem sF_fn (B : List (List AV)) (c : List AV) (F : AV) (p : List (List AV)) (es : List Int) (z : List AV) : loadA (stS2 (B ++ ([c, [F]] ++ p)) es z) none (.box (B.length + 1) 0) = some F := by
  have : (stS2 (B ++ ([c, [F]] ++ p)) es z).boxes[B.length + 1]? = some [F] := by
    have e : (stS2 (B ++ ([c, [F]] ++ p)) es z).boxes = B ++ ([c, [F]] ++ p ++ [ints es, z]) := by simp [stS2]
    rw [e, List.getElem?_append_right (by omega), show B.length + 1 - B.length = 1 by omega]
    rfl
  simp only [loadA, this, Option.bind_some]
  rfl
theorem sF_load7 (pre : List (List AV)) (es : List Int) (q : List Int) : loadA (stS2 pre es (tC x q)) (some 7) (.box (pre.length + 1) 0) = some (.agg (tC x q)) := by
  simp only [loadA, sF_get, Option.bind_some]
  rfl
theorem round48 (O : XO x T) (B : List (List AV)) (F : AV) (v : List Int → Int) (hF : FnAt x T B F v) (c : List AV) (p : List (List AV)) (es : List Int) (h0 : 0 < es.length) (hl : es.length < 1000) (k : Nat) (hk : k < T.length) :
    run Cv 48 (.loop keep48_0 body48_0) (head48 O B (.wsl (B ++ ([c, [F]] ++ p)).length 0 es.length 1 false) k) (stS (B ++ ([c, [F]] ++ p)) es) =
      run Cv 48 (.loop keep48_0 body48_0) (head48 O B (.wsl (B ++ ([c, [F]] ++ (p ++ [[], tC x T[k]]))).length 0 (es ++ [v T[k]]).length 1 false) (k + 1)) (stS (B ++ ([c, [F]] ++ (p ++ [[], tC x T[k]]))) (es ++ [v T[k]])) := by
  have hTl := O.lt
  have hw := wrap_succ hk (by omega)
  have hlt' : (k : Int) < (T.length : Int) := by omega
  have hix := q_ix O hk
  have hca : callA Cv (run Cv) false F [.agg (tC x T[k])] (stS2 (B ++ ([c, [F]] ++ p)) es (tC x T[k])) = some (I (v T[k]), stS2 (B ++ ([c, [F]] ++ p)) es (tC x T[k])) := by
    have e : stS2 (B ++ ([c, [F]] ++ p)) es (tC x T[k]) = { boxes := B ++ ([c, [F]] ++ p ++ [ints es, tC x T[k]]) } := by simp [stS2]
    rw [e]
    exact hF.call _ _ (List.getElem_mem _)
  generalize T[k] = t at *
  have hfn := sF_fn B c F p es (tC x t)
  have e1 : B ++ ([c, [F]] ++ (p ++ [[], tC x t])) = (B ++ ([c, [F]] ++ p)) ++ [[], tC x t] := by simp
  rw [e1]
  generalize B ++ ([c, [F]] ++ p) = pre at *
  have l7 := load7 (x := x) t
  have ha := fun R e => sF_alloc pre es [I 0, I 0, I 0, I 0, .nilm, .nils, .nils] (C := Cv) (R := R) (d := false) (e := e)
  have hs := sF_store pre es [I 0, I 0, I 0, I 0, .nilm, .nils, .nils] (tC x t) rfl (tC_cell t)
  have hld := sF_load7 (x := x) pre es t
  have happ := sF_app pre es (tC x t) (v t) h0 hl
  have hcut := sF_cut pre (pre ++ [[], tC x t]) es (es ++ [v t])
  generalize hp2 : (pre ++ [[], tC x t]).length = p2 at *
  generalize (es ++ [v t]).length = n2 at *
  have hp2' : ¬ p2 < pre.length + 1 := by rw [← hp2]; simp
  have hfe : ∀ n : Int, fillE 1 false [(0, I n)] [I 0] = some [I n] := fun n => by simp [fillE, depth, AV.isAgg]
  have hrp : List.replicate 1 (I 0) = [I 0] := rfl
  simp only [List.length_cons, List.length_nil, Nat.zero_add, Nat.reduceAdd] at hs
  rw [run_loop]
  generalize MC.loop keep48_0 body48_0 = L
  simp only [head48]
  generalize B.length + 1 = b1 at *
  simp (maxSteps := 10000000) [-List.getD_eq_getElem?_getD, -ixsA, -loadA, -storeA, -op_alloc, -cut, -List.all_eq_true, body48_0, keep48_0, head48, hlt', hw, hix, l7, ha, hs, hfn, hld, hca, happ, hfe, hrp]
  rw [hcut]
  intro nc
  simp (maxSteps := 10000000) [-List.getD_eq_getElem?_getD, @all_f 33 .any _ _ 5, hp2']
theorem loop48 (O : XO x T) (B : List (List AV)) (F : AV) (v : List Int → Int) (hF : FnAt x T B F v) (c : List AV) : ∀ (l : List (List Int)) (k : Nat) (p : List (List AV)) (es : List Int), T.drop k = l → k ≤ T.length → es.length = k → 1 ≤ k → ∃ p',
    run Cv 48 (.loop keep48_0 body48_0) (head48 O B (.wsl (B ++ ([c, [F]] ++ p)).length 0 k 1 false) k) (stS (B ++ ([c, [F]] ++ p)) es) = some (.ex 0, mkE 33 .any [(12, .bool false), (11, I T.length), (10, I T.length), (9, O.tv), (5, .wsl (B ++ ([c, [F]] ++ p')).length 0 T.length 1 false), (3, .box (B.length + 1) 0)], stS (B ++ ([c, [F]] ++ p')) (es ++ l.map v))
  | [], k, p, es, h, hk, he, h1 => by
    obtain rfl := drop_nil hk h
    refine ⟨p, ?_⟩
    rw [run_loop, List.map_nil, List.append_nil]
    simp only [head48]
    generalize B ++ ([c, [F]] ++ p) = pre
    generalize B.length + 1 = b1
    simp (maxSteps := 10000000) [-List.getD_eq_getElem?_getD, body48_0, keep48_0, head48]
  | t :: l, k, p, es, h, hk, he, h1 => by
    have hTl := O.lt
    obtain ⟨hlt, ha, hd⟩ := head_drop h
    have hr := round48 O B F v hF c p es (by omega) (by omega) k hlt
    rw [ha, he] at hr
    have hlen : (es ++ [v t]).length = k + 1 := by simp [he]
    obtain ⟨p', ih⟩ := loop48 O B F v hF c l (k + 1) (p ++ [[], tC x t]) (es ++ [v t]) hd hlt hlen (by omega)
    refine ⟨p', ?_⟩
    rw [hr, hlen]
    have e1 : (k : Int) + 1 = ((k + 1 : Nat) : Int) := by omega
    rw [e1, ih, List.append_assoc]
    rfl
theorem sG_alloc (pre : List (List AV)) (z : List AV) {C : Cfg} {R : Rec} {d : Bool} {e : Env} : operA C R d e ({ boxes := pre } : St) (.alloc z) = some (.box pre.length 0, { boxes := pre ++ [z] }) := by
  rw [op_alloc]
theorem first48 (O : XO x T) (B : List (List AV)) (F : AV) (v : List Int → Int) (hF : FnAt x T B F v) (t : List Int) (l : List (List Int)) (h : T = t :: l) : run Cv 48 (.loop keep48_0 body48_0) (head48 O B .nils 0) { boxes := B ++ [O.c, [F]] } = run Cv 48 (.loop keep48_0 body48_0) (head48 O B (.wsl (B ++ ([O.c, [F]] ++ [tC x t])).length 0 1 1 false) 1) (stS (B ++ ([O.c, [F]] ++ [tC x t])) [v t]) := by
  have hk : 0 < T.length := by rw [h]; simp
  have hix := q_ix O hk
  have ht : T[0] = t := by subst h; rfl
  rw [ht] at hix
  have e0 : ((0 : Nat) : Int) = 0 := rfl
  rw [e0] at hix
  have hlt' : (0 : Int) < (T.length : Int) := by omega
  have hne : ¬ T = [] := by rw [h]; simp
  have l7 := load7 (x := x) t
  have hca := hF.call [O.c, [F], tC x t] t (by rw [h]; exact List.mem_cons_self ..)
  have hcell := tC_cell (x := x) t
  have hfn : loadA { boxes := B ++ [O.c, [F], tC x t] } none (.box (B.length + 1) 0) = some F := by
    have : (B ++ [O.c, [F], tC x t])[B.length + 1]? = some [F] := by
      rw [List.getElem?_append_right (by omega), show B.length + 1 - B.length = 1 by omega]
      rfl
    simp only [loadA, this, Option.bind_some]
    rfl
  have hb2 : (B ++ [O.c, [F], tC x t])[B.length + 2]? = some (tC x t) := by
    rw [List.getElem?_append_right (by omega), show B.length + 2 - B.length = 2 by omega]
    rfl
  have hld : loadA { boxes := B ++ [O.c, [F], tC x t] } (some 7) (.box (B.length + 2) 0) = some (.agg (tC x t)) := by
    simp only [loadA, hb2, Option.bind_some]
    rfl
  have hal := fun R e => sG_alloc (B ++ [O.c, [F]]) [I 0, I 0, I 0, I 0, .nilm, .nils, .nils] (C := Cv) (R := R) (d := false) (e := e)
  have hlen : (B ++ [O.c, [F]]).length = B.length + 2 := by simp
  rw [hlen, List.append_assoc] at hal
  have hst : storeA { boxes := B ++ [O.c, [F], [I 0, I 0, I 0, I 0, .nilm, .nils, .nils]] } 7 (.box (B.length + 2) 0) (.agg (tC x t)) = some { boxes := B ++ [O.c, [F], tC x t] } := by
    have hb : (B ++ [O.c, [F], [I 0, I 0, I 0, I 0, .nilm, .nils, .nils]])[B.length + 2]? = some [I 0, I 0, I 0, I 0, .nilm, .nils, .nils] := by
      rw [List.getElem?_append_right (by omega), show B.length + 2 - B.length = 2 by omega]
      rfl
    have hc : (AV.agg (tC x t)).cells = tC x t := rfl
    have hl7 : (tC x t).length = 7 := rfl
    have h1 : (0 : Nat) + 7 ≤ ([I 0, I 0, I 0, I 0, .nilm, .nils, .nils] : List AV).length := by decide
    simp only [storeA, hb, Option.bind_some, Nat.zero_le, hc, hl7, h1, hcell, and_self, if_true]
    congr 2
    rw [List.set_append_right _ _ (by omega), show B.length + 2 - B.length = 2 by omega]
    rfl
  have happ : appA { boxes := B ++ [O.c, [F], tC x t] } true 1 8 false .nils (.sl 1 [I (v t)] .full) = some (.wsl (B ++ ([O.c, [F]] ++ [tC x t])).length 0 1 1 false, stS (B ++ ([O.c, [F]] ++ [tC x t])) [v t]) := by
    have h1 : ([I (v t)] : List AV).length * 8 ≤ 140737488355328 := by simp
    have h2 : ([I (v t)] : List AV).flatMap AV.cells = [I (v t)] := rfl
    have h3 : ([I (v t)] : List AV).all AV.isCell = true := rfl
    simp only [appA, elemsA, Option.bind_some, List.cons_ne_nil, if_false, if_true, grown, h1, h2, h3]
    simp [stS, ints]
  have hfe : ∀ n : Int, fillE 1 false [(0, I n)] [I 0] = some [I n] := fun n => by simp [fillE, depth, AV.isAgg]
  have hrp : List.replicate 1 (I 0) = [I 0] := rfl
  have w1 : IntKind.wrap .i64 ((0 : Int) + 1) = 1 := rfl
  have hcut : ∀ e : Env, (∀ nc, e.all (under (B.length + 2) nc 0 0 6) = false) → cut { boxes := B ++ [O.c, [F]] } (stS (B ++ ([O.c, [F]] ++ [tC x t])) [v t]) e = stS (B ++ ([O.c, [F]] ++ [tC x t])) [v t] := fun e he => cut_no _ _ _ fun nc => by
    have := he nc
    rwa [← hlen] at this
  have hpl : ¬ (B ++ ([O.c, [F]] ++ [tC x t])).length < B.length + 2 := by simp
  rw [run_loop]
  generalize MC.loop keep48_0 body48_0 = L
  generalize stS (B ++ ([O.c, [F]] ++ [tC x t])) [v t] = S at *
  generalize (B ++ ([O.c, [F]] ++ [tC x t])).length = P at *
  have hal' : ∀ R e, operA Cv R false e { boxes := B ++ [O.c, [F]] } (.alloc [I 0, I 0, I 0, I 0, .nilm, .nils, .nils]) = some (.box (B.length + 2) 0, { boxes := B ++ [O.c, [F], [I 0, I 0, I 0, I 0, .nilm, .nils, .nils]] }) := hal
  simp (maxSteps := 10000000) [-List.getD_eq_getElem?_getD, -ixsA, -loadA, -storeA, -op_alloc, -cut, -List.all_eq_true, body48_0, keep48_0, head48, hlt', hk, hne, w1, hix, l7, hca, hfn, hld, hal', hst, happ, hfe, hrp]
  rw [hcut]
  intro nc
  simp (maxSteps := 10000000) [-List.getD_eq_getElem?_getD, @all_f 33 .any _ _ 5, hpl]
end
end Go.Ai

set_option maxRecDepth 100000
namespace Go.Ai
open Go.Office (Ft Rl Us Nt Bk Mt Dy DyK Dy0 Sg now0 seas vals keptN butF cnt vote allI compactF)
theorem intsOf_ints : ∀ l : List Int, intsOf (ints l) = some l
  | [] => rfl
  | a :: l => by
    have : ints (a :: l) = .int .i64 a :: ints l := rfl
    rw [this, intsOf, intsOf_ints l]; rfl
theorem sort_callA (pre : List (List AV)) (es : List Int) (hl : es.length < 1000) : callA Cv (run Cv) false (.fn (.func 69) [] []) [.wsl pre.length 0 es.length 1 false] (stS pre es) = some (.tup [], stS pre (es.mergeSort fun x y => decide (x ≤ y))) := by
  have h1 : Cv.imp 69 = true := by rfl
  have h2 : Cv.srt 69 = true := by rfl
  have ro : (stS pre es).ro = 0 := rfl
  have hset : (stS pre es).boxes.set pre.length ((es.mergeSort fun x y => decide (x ≤ y)).map I) = (stS pre (es.mergeSort fun x y => decide (x ≤ y))).boxes := by
    simp [stS, ints]
  have hlt : es.length < 4611686018427387904 := by omega
  simp only [callA, h1, h2, if_true, List.nil_append, List.append_nil, sortA, sS_get, Option.bind_some, intsOf_ints, ro, Nat.zero_le, hlt, and_self, hset]
  rfl
section
variable {x : OB} {T : List (List Int)}
theorem all_callA (O : XO x T) (hT : T ≠ []) (B : List (List AV)) (F : AV) (v : List Int → Int) (hF : FnAt x T B F v) : ∃ p a' m, (∀ d, callA Cv (run Cv) d (.fn (.func 48) [] []) [.agg O.c, .agg [F]] { boxes := B } = some (.wsl (B ++ p).length 0 m 1 false, stS (B ++ p) a')) ∧ a'.take m = allI (T.map v) ∧ 1 ≤ m ∧ m ≤ a'.length := by
  have hTl := O.lt
  obtain ⟨t, l, htl⟩ : ∃ t l, T = t :: l := by
    cases h : T with
    | nil => exact absurd h hT
    | cons t l => exact ⟨t, l, rfl⟩
  have hf := first48 O B F v hF t l htl
  obtain ⟨p', hl⟩ := loop48 O B F v hF O.c l 1 [tC x t] [v t] (by rw [htl]; rfl) (by rw [htl]; simp) rfl (Nat.le_refl _)
  have e1 : ((1 : Nat) : Int) = 1 := rfl
  rw [e1, ← hf] at hl
  have hb : [v t] ++ l.map v = T.map v := by rw [htl]; rfl
  rw [hb] at hl
  have hl' := fun E (hE : mask keep48_0 E = _) => run_at hl hE
  have hbl : (T.map v).length = T.length := by simp
  have hsl : ((T.map v).mergeSort fun x y => decide (x ≤ y)).length = T.length := by rw [List.length_mergeSort, hbl]
  have hpos : 1 ≤ T.length := by rw [htl]; simp
  have hsort := sort_callA (B ++ ([O.c, [F]] ++ p')) (T.map v) (by omega)
  obtain ⟨a', m, hcp, g1, g2, g3⟩ := compact_callA (B ++ ([O.c, [F]] ++ p')) ((T.map v).mergeSort fun x y => decide (x ≤ y)) (by omega) (by omega)
  refine ⟨[O.c, [F]] ++ p', a', m, fun d => ?_, g1, g2, g3⟩
  have hBp : B.length ≤ (B ++ ([O.c, [F]] ++ p')).length := by simp
  generalize hpre : B ++ ([O.c, [F]] ++ p') = pre' at *
  have c3 := sS_slc3 pre'.length m g2
  rw [hbl] at hsort
  rw [hsl] at hcp
  have hq := q_len O
  have hbx : boxA { boxes := B } (.agg O.c) = some (.box B.length 0, { boxes := B ++ [O.c] }) := by
    have hc : (AV.agg O.c).cells.all AV.isCell = true := O.cell
    simp only [boxA, hc, if_true]
    rfl
  have hbx2 : boxA { boxes := B ++ [O.c] } (.agg [F]) = some (.box (B.length + 1) 0, { boxes := B ++ [O.c, [F]] }) := by
    have hc : (AV.agg [F]).cells.all AV.isCell = true := by simp [AV.cells, hF.cell]
    have hl : (B ++ [O.c]).length = B.length + 1 := by simp
    simp only [boxA, hc, if_true, hl]
    simp [AV.cells]
  have hld : loadA { boxes := B ++ [O.c, [F]] } none (.box B.length 8) = some O.tv := by
    have : (B ++ [O.c, [F]])[B.length]? = some O.c := by
      rw [List.getElem?_append_right (by omega), Nat.sub_self]
      rfl
    simp only [loadA, this, Option.bind_some]
    rfl
  have hcut : ∀ e : Env, (∀ nc, e.all (under B.length nc 0 0 6) = false) → cut { boxes := B } (stS pre' a') e = stS pre' a' := fun e he => cut_no _ _ _ fun nc => he nc
  simp only [keep48_0, head48] at hl'
  generalize (T.map v).mergeSort (fun x y => decide (x ≤ y)) = S at *
  rw [callA_imp (by rfl) (by rfl), body_run comp48 (Nat.le_of_ble_eq_true rfl)]
  generalize B.length + 1 = b1 at *
  generalize hBl : B.length = b0 at *
  simp (maxSteps := 10000000) [-List.getD_eq_getElem?_getD, -boxA, -loadA, -cut, code48, hbx, hbx2, hld, hq, keep48_0, hl', hsort, hcp, c3, cutR]
  rw [hcut]
  intro nc
  have : ¬ pre'.length < b0 := by omega
  simp [under, this]
end
end Go.Ai
