/- This text shows truly, rightly. No conditions of its own. -/
import Derived.Test.YtbjdaefdifofkaaDoorHelpE
import Derived.Test.YtbjdaefdifofkaaDoorPlainR
set_option linter.unusedSimpArgs false
set_option linter.unusedVariables false
set_option maxRecDepth 100000
set_option linter.unusedSimpArgs false
set_option linter.unusedVariables false
/-! How high pipes truly are, as numbers choose it. -/
namespace Go.Ai
open Go.Organ (T4 F3 Tb T6)
def accV (l : List Int) : AV := if l = [] then .sl 1 [] .full else .sl 1 (ints l) (.chain 0)
def accC (l : List Int) : List (Nat × Nat) := if l = [] then [] else [(l.length, 1)]
def st36 (x : OB) (l : List Int) : St := { boxes := [x.cells], chains := accC l }
theorem accV_under (l : List Int) (a b c d n : Nat) (h : (accC l).length ≤ b) : under a b c d (n + 1) (accV l) = true := by
  unfold accV
  unfold accC at h
  split
  · rfl
  · rename_i hl
    rw [if_neg hl] at h
    simp only [un_chain, decide_eq_true_eq]
    simp at h; omega
theorem app36 (x : OB) (l : List Int) (hl : l.length < 1000) (k : Int) : appA (st36 x l) false 1 8 false (accV l) (.sl 1 [I k] .full) = some (accV (l ++ [k]), st36 x (l ++ [k])) := by
  have hn : l ++ [k] ≠ [] := by simp
  unfold accV
  rw [if_neg hn]
  by_cases h : l = []
  · subst h
    simp [appA, elemsA, grown, st36, accC, ints]
  · rw [if_neg h]
    have : (l.length + 1) * 8 ≤ 140737488355328 := by omega
    simp [appA, elemsA, st36, accC, h, hn, ints, this]
theorem cut36 (x : OB) (hx : x.Ok) (l l' : List Int) (e : Env) (h1 : e.all (under 1 (accC l').length 0 0 6) = true) (h2 : (accC l').length = (accC l).length ∨ e.all (under 1 (accC l).length 0 0 6) = false) : cut (st36 x l) (st36 x l') e = st36 x l' := by
  have hb : ∀ nc, List.all [x.cells] (fun cs => cs.all (under 1 nc 0 0 6)) = true := fun nc => by
    have u1 := hx.trow.under 1 nc 0 0 5
    have u2 := hx.frow.under 1 nc 0 0 5
    have u3 := br_under x 1 nc 0 0 5
    have u4 := vr_under x 1 nc 0 0 5
    simp only [OB.cells, List.all_cons, List.all_nil, u1, u2, u3, u4, un_int, Bool.and_self]
  have hd : ∀ nc b, e.all (under 1 nc 0 0 6) = b → dryAt nc (st36 x l) (st36 x l') e = b := fun nc b he => by
    show (e.all (under 1 nc 0 0 6) && List.all [x.cells] (fun cs => cs.all (under 1 nc 0 0 6)) && true && true) = b
    rw [he, hb]; simp
  have hat : cutAt (accC l').length (st36 x l) (st36 x l') = st36 x l' := by
    simp only [cutAt, st36, List.take_length]
    rfl
  unfold cut
  rw [show (st36 x l).chains.length = (accC l).length from rfl, show (st36 x l').chains.length = (accC l').length from rfl]
  rcases h2 with h2 | h2
  · rw [← h2, hd _ _ h1, if_pos rfl, hat]
  · rw [hd _ _ h2, if_neg (by simp), hd _ _ h1, if_pos rfl, hat]
def drawH (bits : List Int) (i : Nat) : Int := drawI (-15) 15 (nthI bits i)
def head36 (r : AV) (l : List Int) (k : Int) : Env := mkE 23 .any [(6, I k), (5, accV l), (2, .box 0 0), (1, r)]
theorem loop36 (x : OB) (hx : x.Ok) (hc : Chk x) (bits : List Int) (r : AV) (hr : IsRow 1 (ints bits) r) (hbl : bits.length < 2 ^ 47) : ∀ (n k : Nat) (l : List Int), k + n = x.N → l.length = k →
    run Cv 36 (.loop keep36_0 body36_0) (head36 r l k) (st36 x l) = some (.ex 0, mkE 23 .any [(11, .bool false), (10, I x.pipes), (9, .box 0 0), (8, I x.N), (6, I x.N), (5, accV (l ++ (List.range' k n).map (drawH bits))), (2, .box 0 0), (1, r)], st36 x (l ++ (List.range' k n).map (drawH bits)))
  | 0, k, l, hk, hl => by
    obtain rfl : k = x.N := by omega
    have hpp := hc.pipes
    have hlt : ¬ (x.N : Int) < x.pipes := by omega
    rw [run_loop]
    simp (maxSteps := 10000000) [-List.getD_eq_getElem?_getD, body36_0, keep36_0, head36, st36, OB.cells, hlt]
  | n + 1, k, l, hk, hl => by
    have hpp := hc.pipes
    have h5 := hc.b.five
    have hlt : (k : Int) < x.pipes := by omega
    have hw : IntKind.wrap .i64 ((k : Int) + 1) = ((k + 1 : Nat) : Int) := by rw [wrap_small (by omega) (by omega)]; rfl
    have hld : ∀ l off, loadA (st36 x l) none (.box 0 off) = x.cells[off]? := fun _ _ => rfl
    have hx0 : x.cells[0]? = some (I x.pipes) := rfl
    have hb := bounds_call (-15) 15
    have hn := nth_call bits r hr hbl k
    have hd := draw_call (-15) 15 (nthI bits k) (by omega) (by omega) (by omega)
    have hrp := hr.pur
    have happ := app36 x l (by omega) (drawH bits k)
    have hf1 : ∀ v, fillE 1 false [(0, I v)] [I 0] = some [I v] := fun _ => rfl
    have hu := accV_under (l ++ [drawH bits k]) 1 (accC (l ++ [drawH bits k])).length 0 0 5 (Nat.le_refl _)
    have hru := hr.under
    have hcut := fun e h1 h2 => cut36 x hx l (l ++ [drawH bits k]) e h1 h2
    rw [show drawI (-15) 15 (nthI bits k) = drawH bits k from rfl] at hd
    have step : run Cv 36 (.loop keep36_0 body36_0) (head36 r l k) (st36 x l) = run Cv 36 (.loop keep36_0 body36_0) (head36 r (l ++ [drawH bits k]) ((k + 1 : Nat) : Int)) (st36 x (l ++ [drawH bits k])) := by
      rw [run_loop]
      generalize MC.loop keep36_0 body36_0 = L
      generalize drawH bits k = dv at *
      simp (maxSteps := 10000000) [-List.getD_eq_getElem?_getD, -loadA, -cut, body36_0, keep36_0, head36, hlt, hw, hld, hx0, hb, hn, hd, hrp, hf1, happ]
      rw [hcut]
      · simp (maxSteps := 10000000) [-List.getD_eq_getElem?_getD, hu, hru]
      · by_cases hl0 : l = []
        · right
          subst hl0
          refine all_f 5 (by omega) ?_
          simp (maxSteps := 10000000) [-List.getD_eq_getElem?_getD, ]
          rfl
        · left
          simp [accC, hl0]
    rw [step, List.range'_succ, List.map_cons]
    have := loop36 x hx hc bits r hr hbl n (k + 1) (l ++ [drawH bits k]) (by omega) (by simp [hl])
    simpa using this
def highsL (x : OB) (bits : List Int) : List Int := (List.range' 0 x.N).map (drawH bits)
theorem truly_call (x : OB) (hx : x.Ok) (hc : Chk x) (bits : List Int) (r : AV) (hr : IsRow 1 (ints bits) r) (hbl : bits.length < 2 ^ 47) : call Cv 36 [x.av, r] = some (.sl 1 (ints (highsL x bits)) .no) := by
  have hcl := xcells_cell x hx
  have hbox : boxA {} x.av = some (.box 0 0, { boxes := [x.cells] }) := by
    simp only [boxA, OB.av, AV.cells, hcl, if_true]; rfl
  have h1 := hc.b.one
  have hl := fun E (hE : mask keep36_0 E = _) => run_at (loop36 x hx hc bits r hr hbl x.N 0 [] (by omega) rfl) hE
  have e5 : ((0 : Nat) : Int) = 0 := rfl
  have hst : ({ boxes := [x.cells] } : St) = st36 x [] := rfl
  have hz : accV [] = .sl 1 [] .full := rfl
  simp only [keep36_0, head36, e5, hz, List.nil_append] at hl
  rw [← hst] at hl
  rw [show (List.range' 0 x.N).map (drawH bits) = highsL x bits from rfl] at hl
  have hne : highsL x bits ≠ [] := by
    unfold highsL
    intro h
    have := congrArg List.length h
    simp at this
    omega
  have hp : ∀ σ n, pur σ (n + 1) (accV (highsL x bits)) = some (.sl 1 (ints (highsL x bits)) .no, false) := fun σ n => by
    unfold accV; rw [if_neg hne]; rfl
  have hr0 : ∀ z : AV, List.replicate 0 z = [] := fun _ => rfl
  have hf0 : fillE 1 false [] [] = some [] := rfl
  generalize highsL x bits = H at *
  rw [call_run comp36 (Nat.le_of_ble_eq_true rfl)]
  simp (maxSteps := 10000000) [-List.getD_eq_getElem?_getD, -boxA, code36, hbox, hr0, hf0, keep36_0, hl, hp]
theorem highs_get {x : OB} (bits : List Int) {p : Nat} (hp : p < x.N) : (highsL x bits).getD p 0 = drawH bits p := by
  simp [highsL, hp]
theorem highs_range {x : OB} (bits : List Int) {p : Nat} (hp : p < x.N) : -15 ≤ (highsL x bits).getD p 0 ∧ (highsL x bits).getD p 0 ≤ 15 := by
  rw [highs_get bits hp]
  exact draw_range _ _ _ (by omega)
end Go.Ai

set_option maxRecDepth 100000
set_option linter.unusedSimpArgs false
set_option linter.unusedVariables false
/-! What is rightly tuned: the walk. -/
namespace Go.Ai
open Go.Organ (T4 F3 Tb T6 tuneR tunesR forkR forksR)
theorem row_ix' {l0 : List Int} {r : AV} (hr : IsRow 1 (ints l0) r) {k : Nat} (hk : k < l0.length) : ixsA 1 r (I k) = some (.rp [I l0[k]] 0) := by
  obtain ⟨c, hc, hr⟩ := row_sl hr (by intro hn; subst hn; simp at hk)
  rw [hr]
  simp [ixsA, ints, hk, AV.cells]
def drawE (bits : List Int) (o k : Nat) (e : Int) : Int := drawI (-e) e (nthI bits ((k + o : Nat) : Int))
theorem at_row {H : List Int} {r : AV} (hr : IsRow 1 (ints H) r) {n : Int} (h0 : 0 ≤ n) (h1 : n < H.length) : ixsA 1 r (I n) = some (.rp [I (H.getD n.toNat 0)] 0) := by
  obtain ⟨m, rfl⟩ := Int.eq_ofNat_of_zero_le h0
  have hm : m < H.length := by omega
  rw [row_ix' hr hm]
  simp [hm]
def F37 (x : OB) (g : AV) : List (List AV) := [x.cells, [I 0, .nils, .nils, .nils, I 0, .nils], [I x.pipes, g, .nils, x.br, I x.voice.weeks, .nils]]
def G37 (x : OB) (es : List AV) (g : AV) : List (List AV) := [x.cells, [I 0, .nils, .nils, .nils, I 0, .nils], [I x.pipes, growAt 0 4 es, g, x.br, I x.voice.weeks, .nils]]
theorem F37_under (x : OB) (hx : x.Ok) (g : AV) (nc : Nat) : (F37 x g).all (fun cs => cs.all (under 3 nc 0 0 6)) = under 3 nc 0 0 6 g := by
  have u1 := hx.trow.under 3 nc 0 0 5
  have u2 := hx.frow.under 3 nc 0 0 5
  have u3 := br_under x 3 nc 0 0 5
  have u4 := vr_under x 3 nc 0 0 5
  have u0 : under 3 nc 0 0 6 AV.nils = true := rfl
  simp only [F37, OB.cells, List.all_cons, List.all_nil, u1, u2, u3, u4, u0, un_int, Bool.and_self, Bool.true_and, Bool.and_true]
theorem G37_under (x : OB) (hx : x.Ok) (es : List AV) (g : AV) (nc : Nat) (h : (growC 4 es).length ≤ nc) : (G37 x es g).all (fun cs => cs.all (under 3 nc 0 0 6)) = under 3 nc 0 0 6 g := by
  have u1 := hx.trow.under 3 nc 0 0 5
  have u2 := hx.frow.under 3 nc 0 0 5
  have u3 := br_under x 3 nc 0 0 5
  have u4 := vr_under x 3 nc 0 0 5
  have u0 : under 3 nc 0 0 6 AV.nils = true := rfl
  have u5 : under 3 nc 0 0 6 (growAt 0 4 es) = true := by
    rw [growAt_under, decide_eq_true_eq]
    by_cases he : es = []
    · exact .inl he
    · right
      unfold growC at h
      rw [if_neg he] at h
      simp at h; omega
  simp only [G37, OB.cells, List.all_cons, List.all_nil, u1, u2, u3, u4, u0, u5, un_int, Bool.and_self, Bool.true_and, Bool.and_true]
def st37 (x : OB) (es : List AV) (E : List (List AV)) : St := { boxes := F37 x (growAt 0 4 es) ++ E, chains := [] ++ growC 4 es }
def st37' (x : OB) (ts es : List AV) (E : List (List AV)) : St := { boxes := G37 x ts (growAt (growC 4 ts).length 3 es) ++ E, chains := growC 4 ts ++ growC 3 es }
def head37_0 (lr br : AV) (k : Int) : Env := mkE 98 .any [(8, I k), (7, .box 2 0), (6, .box 1 0), (3, .box 0 0), (2, br), (1, lr)]
structure Kept37 (lr br : AV) (e : Env) : Prop where
  g1 : gt e 1 = lr
  g2 : gt e 2 = br
  g3 : gt e 3 = .box 0 0
  g6 : gt e 6 = .box 1 0
  g7 : gt e 7 = .box 2 0
theorem loop37_0 (x : OB) (hx : x.Ok) (hc : Chk x) (H bits : List Int) (lr br : AV) (hl : IsRow 1 (ints H) lr) (hH : H.length = x.N) (hHr : ∀ p, p < x.N → -15 ≤ H.getD p 0 ∧ H.getD p 0 ≤ 15) (hb : IsRow 1 (ints bits) br) (hbl : bits.length < 2 ^ 47) : ∀ (l : List T4) (k : Nat) (es : List T4), k ≤ x.tunes.length → x.tunes.drop k = l → es.length = k →
    ∃ L, run Cv 37 (.loop keep37_0 body37_0) (head37_0 lr br k) (st37 x (es.map tuA) []) = some (.ex 0, mkE 98 .any L, st37 x ((es ++ tunesR H (drawE bits 1) l k).map tuA) []) ∧ Kept37 lr br (mkE 98 .any L)
  | [], k, es, hk, h, he => by
    obtain rfl := drop_nil hk h
    have hlen := tlen hx
    rw [run_loop, tunesR, List.append_nil]
    simp (maxSteps := 10000000) [-List.getD_eq_getElem?_getD, body37_0, keep37_0, head37_0, st37, F37, OB.cells, hlen]
    exact ⟨_, rfl, ⟨by simp (maxSteps := 10000000) [-List.getD_eq_getElem?_getD, ], by simp (maxSteps := 10000000) [-List.getD_eq_getElem?_getD, ], by simp (maxSteps := 10000000) [-List.getD_eq_getElem?_getD, ], by simp (maxSteps := 10000000) [-List.getD_eq_getElem?_getD, ], by simp (maxSteps := 10000000) [-List.getD_eq_getElem?_getD, ]⟩⟩
  | t :: l, k, es, hk, h, he => by
    obtain ⟨hlt, ha, hd⟩ := head_drop h
    have hw : IntKind.wrap .i64 ((k : Int) + 1) = ((k + 1 : Nat) : Int) := wrap_succ hlt hx.lt
    have hlt' : (k : Int) < (x.tunes.length : Int) := by omega
    have hlen := tlen hx
    have ht := hc.b.tunes t (ha ▸ List.getElem_mem _)
    have h6 := hc.tunes
    have s1 := ht.src; have s2 := ht.dst; have s5 := ht.err
    have hld : ∀ es E off, loadA (st37 x es E) none (.box 0 off) = x.cells[off]? := fun _ _ _ => rfl
    have hx1 : x.cells[1]? = some x.tr := rfl
    have hix : ixsA 4 x.tr (I k) = some (.rp [I t.src, I t.dst, I t.off, I t.err] 0) := by
      obtain ⟨c, hc, hr⟩ := hx.trow.sl (by intro hn; simp at hn; rw [hn] at hlt; simp at hlt)
      rw [hr]
      simp [ixsA, hlt, ha, tuA, AV.cells]
    have hlr : ∀ σ, loadA σ (some 4) (.rp [I t.src, I t.dst, I t.off, I t.err] 0) = some (.agg [I t.src, I t.dst, I t.off, I t.err]) := fun _ => rfl
    have i1 := at_row hl s1.1 (by omega)
    have i2 := at_row hl s2.1 (by omega)
    have hl1 : ∀ σ n, loadA σ none (.rp [I n] 0) = some (I n) := fun _ _ => rfl
    have r1 := hHr t.src.toNat (by omega)
    have r2 := hHr t.dst.toNat (by omega)
    have w1 : IntKind.wrap .i64 (H.getD t.dst.toNat 0 - H.getD t.src.toNat 0) = H.getD t.dst.toNat 0 - H.getD t.src.toNat 0 := wrap_small (by omega) (by omega)
    have w2 : IntKind.wrap .i64 (-t.err) = -t.err := wrap_small (by omega) (by omega)
    have hbc := bounds_call (-t.err) t.err
    have hn := nth_call bits br hb hbl ((k + 1 : Nat) : Int)
    have hdc := draw_call (-t.err) t.err (nthI bits ((k + 1 : Nat) : Int)) (by omega) (by omega) (by omega)
    have hdr := draw_range (-t.err) t.err (nthI bits ((k + 1 : Nat) : Int)) (by omega)
    have htr : tuneR H (drawE bits 1 k t.err) t = ⟨t.src, t.dst, max (-30) (min 30 (H.getD t.dst.toNat 0 - H.getD t.src.toNat 0 + drawI (-t.err) t.err (nthI bits ((k + 1 : Nat) : Int)))), t.err⟩ := rfl
    have htR : tunesR H (drawE bits 1) (t :: l) k = tuneR H (drawE bits 1 k t.err) t :: tunesR H (drawE bits 1) l (k + 1) := rfl
    rw [htR]
    generalize drawI (-t.err) t.err (nthI bits ((k + 1 : Nat) : Int)) = dv at *
    have ek : ((k + 1 : Nat) : Int) = (k : Int) + 1 := by omega
    rw [ek] at hn hdc
    generalize H.getD t.dst.toNat 0 = a at *
    generalize H.getD t.src.toNat 0 = b at *
    have w3 : IntKind.wrap .i64 (a - b + dv) = a - b + dv := wrap_small (by omega) (by omega)
    have m1 := fold_min 30 (a - b + dv)
    have m2 := fold_max (-30) (min 30 (a - b + dv))
    generalize max (-30) (min 30 (a - b + dv)) = o at *
    have hal : ∀ z, { st37 x (es.map tuA) [] with boxes := (st37 x (es.map tuA) []).boxes ++ [z] } = st37 x (es.map tuA) [z] := fun _ => rfl
    have hbx : (st37 x (es.map tuA) []).boxes.length = 3 := rfl
    have hst : storeA (st37 x (es.map tuA) [[I 0, I 0, I 0, I 0]]) 4 (.box 3 0) (.agg [I t.src, I t.dst, I t.off, I t.err]) = some (st37 x (es.map tuA) [[I t.src, I t.dst, I t.off, I t.err]]) := rfl
    have hl3 : ∀ z off, loadA (st37 x (es.map tuA) [z]) none (.box 3 off) = z[off]? := fun _ _ => rfl
    have hst2 : storeA (st37 x (es.map tuA) [[I t.src, I t.dst, I t.off, I t.err]]) 1 (.box 3 2) (I o) = some (st37 x (es.map tuA) [[I t.src, I t.dst, I o, I t.err]]) := rfl
    have hl5 : ∀ z, loadA (st37 x (es.map tuA) [z]) none (.box 2 1) = some (growAt 0 4 (es.map tuA)) := fun _ => rfl
    have hl44 : loadA (st37 x (es.map tuA) [[I t.src, I t.dst, I o, I t.err]]) (some 4) (.box 3 0) = some (tuA ⟨t.src, t.dst, o, t.err⟩) := rfl
    have hfe : ∀ z, fillE 4 true [(0, tuA ⟨t.src, t.dst, o, t.err⟩)] [z] = some [tuA ⟨t.src, t.dst, o, t.err⟩] := fun _ => rfl
    have hr1 : ∀ z : AV, List.replicate 1 z = [z] := fun _ => rfl
    have happ : appA (st37 x (es.map tuA) [[I t.src, I t.dst, I o, I t.err]]) false 4 32 true (growAt 0 4 (es.map tuA)) (.sl 4 [tuA ⟨t.src, t.dst, o, t.err⟩] .full) = some (growAt 0 4 (es.map tuA ++ [tuA ⟨t.src, t.dst, o, t.err⟩]), { boxes := F37 x (growAt 0 4 (es.map tuA)) ++ [[I t.src, I t.dst, I o, I t.err]], chains := growC 4 (es.map tuA ++ [tuA ⟨t.src, t.dst, o, t.err⟩]) }) := growAt_app (ch0 := []) (by simp; omega) (by omega)
    have hst5 : storeA { boxes := F37 x (growAt 0 4 (es.map tuA)) ++ [[I t.src, I t.dst, I o, I t.err]], chains := growC 4 (es.map tuA ++ [tuA ⟨t.src, t.dst, o, t.err⟩]) } 1 (.box 2 1) (growAt 0 4 (es.map tuA ++ [tuA ⟨t.src, t.dst, o, t.err⟩])) = some (st37 x (es.map tuA ++ [tuA ⟨t.src, t.dst, o, t.err⟩]) [[I t.src, I t.dst, I o, I t.err]]) := by
      have g1 := growAt_cell 0 4 (es.map tuA ++ [tuA ⟨t.src, t.dst, o, t.err⟩])
      have g2 := growAt_cells 0 4 (es.map tuA ++ [tuA ⟨t.src, t.dst, o, t.err⟩])
      simp [storeA, g1, g2, st37, F37, setAt]
    have hcut : ∀ e : Env, (∀ nc, e.all (under 3 nc 0 0 6) = true) → cut (st37 x (es.map tuA) []) (st37 x (es.map tuA ++ [tuA ⟨t.src, t.dst, o, t.err⟩]) [[I t.src, I t.dst, I o, I t.err]]) e = st37 x (es.map tuA ++ [tuA ⟨t.src, t.dst, o, t.err⟩]) [] := fun e hE => by
      have := cut_grow (sz := 4) (F37 x) (fun _ => rfl) [] (fun g nc _ => F37_under x hx g nc) (es.map tuA) (es.map tuA ++ [tuA ⟨t.src, t.dst, o, t.err⟩]) (.inr (by simp)) [[I t.src, I t.dst, I o, I t.err]] e (fun nc _ => hE nc)
      show cut { boxes := F37 x (growAt 0 4 (es.map tuA)) ++ [], chains := _ } _ e = { boxes := F37 x (growAt 0 4 (es.map tuA ++ [tuA ⟨t.src, t.dst, o, t.err⟩])) ++ [], chains := _ }
      rw [List.append_nil, List.append_nil]
      exact this
    have hlu := hl.under
    have hbu := hb.under
    have hlp := hl.pur
    have hbp := hb.pur
    have step : run Cv 37 (.loop keep37_0 body37_0) (head37_0 lr br k) (st37 x (es.map tuA) []) = run Cv 37 (.loop keep37_0 body37_0) (head37_0 lr br ((k + 1 : Nat) : Int)) (st37 x (es.map tuA ++ [tuA ⟨t.src, t.dst, o, t.err⟩]) []) := by
      rw [run_loop]
      generalize MC.loop keep37_0 body37_0 = L
      simp (maxSteps := 10000000) [-List.getD_eq_getElem?_getD, -loadA, -storeA, -cut, -ixsA, body37_0, keep37_0, head37_0, hlen, hlt', hw, hld, hx1, hix, hlr, i1, i2, hl1, w1, w2, w3, hbc, hn, hdc, m1, m2, hal, hbx, hst, hl3, hst2, hl5, hl44, hfe, hr1, happ, hst5, hlp, hbp, still]
      rw [hcut]
      intro nc
      simp (maxSteps := 10000000) [-List.getD_eq_getElem?_getD, hlu, hbu]
    rw [step, htr]
    have := loop37_0 x hx hc H bits lr br hl hH hHr hb hbl l (k + 1) (es ++ [⟨t.src, t.dst, o, t.err⟩]) hlt hd (by simp [he])
    simpa [List.append_assoc] using this
def head37_1 (lr br : AV) (k : Int) : Env := mkE 98 .any [(10, I k), (7, .box 2 0), (6, .box 1 0), (3, .box 0 0), (2, br), (1, lr)]
theorem loop37_1 (x : OB) (hx : x.Ok) (hc : Chk x) (H bits : List Int) (lr br : AV) (hl : IsRow 1 (ints H) lr) (hH : H.length = x.N) (hHr : ∀ p, p < x.N → -15 ≤ H.getD p 0 ∧ H.getD p 0 ≤ 15) (hb : IsRow 1 (ints bits) br) (hbl : bits.length < 2 ^ 47) (R : List AV) : ∀ (l : List F3) (k : Nat) (es : List F3), k ≤ x.forks.length → x.forks.drop k = l → es.length = k →
    ∃ L, run Cv 37 (.loop keep37_1 body37_1) (head37_1 lr br k) (st37' x R (es.map foA) []) = some (.ex 2, mkE 98 .any L, st37' x R ((es ++ forksR H (drawE bits 2) l k).map foA) []) ∧ gt (mkE 98 .any L) 6 = .box 1 0 ∧ gt (mkE 98 .any L) 7 = .box 2 0
  | [], k, es, hk, h, he => by
    obtain rfl := drop_nil hk h
    have hlen := flen hx
    rw [run_loop, forksR, List.append_nil]
    simp (maxSteps := 10000000) [-List.getD_eq_getElem?_getD, body37_1, keep37_1, head37_1, st37', G37, OB.cells, hlen]
    exact ⟨_, rfl, by simp (maxSteps := 10000000) [-List.getD_eq_getElem?_getD, ], by simp (maxSteps := 10000000) [-List.getD_eq_getElem?_getD, ]⟩
  | f :: l, k, es, hk, h, he => by
    obtain ⟨hlt, ha, hd⟩ := head_drop h
    have hw : IntKind.wrap .i64 ((k : Int) + 1) = ((k + 1 : Nat) : Int) := wrap_succ hlt hx.lf
    have hlt' : (k : Int) < (x.forks.length : Int) := by omega
    have hlen := flen hx
    have ht := hc.b.forks f (ha ▸ List.getElem_mem _)
    have h3 := hc.forks
    have w0 : IntKind.wrap .i64 ((k : Int) + 2) = (k : Int) + 2 := wrap_small (by omega) (by omega)
    have s1 := ht.pipe; have s5 := ht.err
    have hld : ∀ es E off, loadA (st37' x R es E) none (.box 0 off) = x.cells[off]? := fun _ _ _ => rfl
    have hx2 : x.cells[2]? = some x.fr := rfl
    have hix : ixsA 3 x.fr (I k) = some (.rp [I f.pipe, I f.read, I f.err] 0) := by
      obtain ⟨c, hc, hr⟩ := hx.frow.sl (by intro hn; simp at hn; rw [hn] at hlt; simp at hlt)
      rw [hr]
      simp [ixsA, hlt, ha, foA, AV.cells]
    have hlr : ∀ σ, loadA σ (some 3) (.rp [I f.pipe, I f.read, I f.err] 0) = some (.agg [I f.pipe, I f.read, I f.err]) := fun _ => rfl
    have i1 := at_row hl s1.1 (by omega)
    have hl1 : ∀ σ n, loadA σ none (.rp [I n] 0) = some (I n) := fun _ _ => rfl
    have r1 := hHr f.pipe.toNat (by omega)
    have w2 : IntKind.wrap .i64 (-f.err) = -f.err := wrap_small (by omega) (by omega)
    have hbc := bounds_call (-f.err) f.err
    have hn := nth_call bits br hb hbl ((k + 2 : Nat) : Int)
    have hdc := draw_call (-f.err) f.err (nthI bits ((k + 2 : Nat) : Int)) (by omega) (by omega) (by omega)
    have hdr := draw_range (-f.err) f.err (nthI bits ((k + 2 : Nat) : Int)) (by omega)
    have htr : forkR H (drawE bits 2 k f.err) f = ⟨f.pipe, H.getD f.pipe.toNat 0 + drawI (-f.err) f.err (nthI bits ((k + 2 : Nat) : Int)), f.err⟩ := rfl
    have htR : forksR H (drawE bits 2) (f :: l) k = forkR H (drawE bits 2 k f.err) f :: forksR H (drawE bits 2) l (k + 1) := rfl
    rw [htR]
    generalize drawI (-f.err) f.err (nthI bits ((k + 2 : Nat) : Int)) = dv at *
    have ek : ((k + 2 : Nat) : Int) = (k : Int) + 2 := by omega
    rw [ek] at hn hdc
    generalize H.getD f.pipe.toNat 0 = a at *
    obtain ⟨o, ho⟩ : ∃ o, a + dv = o := ⟨_, rfl⟩
    have w3 : IntKind.wrap .i64 (a + dv) = o := by rw [wrap_small (by omega) (by omega), ho]
    rw [ho] at htr
    have hal : ∀ z, { st37' x R (es.map foA) [] with boxes := (st37' x R (es.map foA) []).boxes ++ [z] } = st37' x R (es.map foA) [z] := fun _ => rfl
    have hbx : (st37' x R (es.map foA) []).boxes.length = 3 := rfl
    have hst : storeA (st37' x R (es.map foA) [[I 0, I 0, I 0]]) 3 (.box 3 0) (.agg [I f.pipe, I f.read, I f.err]) = some (st37' x R (es.map foA) [[I f.pipe, I f.read, I f.err]]) := rfl
    have hl3 : ∀ z off, loadA (st37' x R (es.map foA) [z]) none (.box 3 off) = z[off]? := fun _ _ => rfl
    have hst2 : storeA (st37' x R (es.map foA) [[I f.pipe, I f.read, I f.err]]) 1 (.box 3 1) (I o) = some (st37' x R (es.map foA) [[I f.pipe, I o, I f.err]]) := rfl
    have hl5 : ∀ z, loadA (st37' x R (es.map foA) [z]) none (.box 2 2) = some (growAt (growC 4 R).length 3 (es.map foA)) := fun _ => rfl
    have hl44 : loadA (st37' x R (es.map foA) [[I f.pipe, I o, I f.err]]) (some 3) (.box 3 0) = some (foA ⟨f.pipe, o, f.err⟩) := rfl
    have hfe : ∀ z, fillE 3 true [(0, foA ⟨f.pipe, o, f.err⟩)] [z] = some [foA ⟨f.pipe, o, f.err⟩] := fun _ => rfl
    have hr1 : ∀ z : AV, List.replicate 1 z = [z] := fun _ => rfl
    have happ : appA (st37' x R (es.map foA) [[I f.pipe, I o, I f.err]]) false 3 24 true (growAt (growC 4 R).length 3 (es.map foA)) (.sl 3 [foA ⟨f.pipe, o, f.err⟩] .full) = some (growAt (growC 4 R).length 3 (es.map foA ++ [foA ⟨f.pipe, o, f.err⟩]), { boxes := G37 x R (growAt (growC 4 R).length 3 (es.map foA)) ++ [[I f.pipe, I o, I f.err]], chains := growC 4 R ++ growC 3 (es.map foA ++ [foA ⟨f.pipe, o, f.err⟩]) }) := growAt_app (by simp; omega) (by omega)
    have hst5 : storeA { boxes := G37 x R (growAt (growC 4 R).length 3 (es.map foA)) ++ [[I f.pipe, I o, I f.err]], chains := growC 4 R ++ growC 3 (es.map foA ++ [foA ⟨f.pipe, o, f.err⟩]) } 1 (.box 2 2) (growAt (growC 4 R).length 3 (es.map foA ++ [foA ⟨f.pipe, o, f.err⟩])) = some (st37' x R (es.map foA ++ [foA ⟨f.pipe, o, f.err⟩]) [[I f.pipe, I o, I f.err]]) := by
      have g1 := growAt_cell (growC 4 R).length 3 (es.map foA ++ [foA ⟨f.pipe, o, f.err⟩])
      have g2 := growAt_cells (growC 4 R).length 3 (es.map foA ++ [foA ⟨f.pipe, o, f.err⟩])
      simp [storeA, g1, g2, st37', G37, setAt]
    have hcut : ∀ e : Env, (∀ nc, e.all (under 3 nc 0 0 6) = true) → cut (st37' x R (es.map foA) []) (st37' x R (es.map foA ++ [foA ⟨f.pipe, o, f.err⟩]) [[I f.pipe, I o, I f.err]]) e = st37' x R (es.map foA ++ [foA ⟨f.pipe, o, f.err⟩]) [] := fun e hE => by
      have := cut_grow (sz := 3) (G37 x R) (fun _ => rfl) (growC 4 R) (fun g nc hnc => G37_under x hx R g nc hnc) (es.map foA) (es.map foA ++ [foA ⟨f.pipe, o, f.err⟩]) (.inr (by simp)) [[I f.pipe, I o, I f.err]] e (fun nc _ => hE nc)
      show cut { boxes := G37 x R (growAt (growC 4 R).length 3 (es.map foA)) ++ [], chains := _ } _ e = { boxes := G37 x R (growAt (growC 4 R).length 3 (es.map foA ++ [foA ⟨f.pipe, o, f.err⟩])) ++ [], chains := _ }
      rw [List.append_nil, List.append_nil]
      exact this
    have hlu := hl.under
    have hbu := hb.under
    have hlp := hl.pur
    have hbp := hb.pur
    have step : run Cv 37 (.loop keep37_1 body37_1) (head37_1 lr br k) (st37' x R (es.map foA) []) = run Cv 37 (.loop keep37_1 body37_1) (head37_1 lr br ((k + 1 : Nat) : Int)) (st37' x R (es.map foA ++ [foA ⟨f.pipe, o, f.err⟩]) []) := by
      rw [run_loop]
      generalize MC.loop keep37_1 body37_1 = L
      simp (maxSteps := 10000000) [-List.getD_eq_getElem?_getD, -loadA, -storeA, -cut, -ixsA, body37_1, keep37_1, head37_1, hlen, hlt', hw, w0, hld, hx2, hix, hlr, i1, hl1, w2, w3, hbc, hn, hdc, hal, hbx, hst, hl3, hst2, hl5, hl44, hfe, hr1, happ, hst5, hlp, hbp, still]
      rw [hcut]
      intro nc
      simp (maxSteps := 10000000) [-List.getD_eq_getElem?_getD, hlu, hbu]
    rw [step, htr]
    have := loop37_1 x hx hc H bits lr br hl hH hHr hb hbl R l (k + 1) (es ++ [⟨f.pipe, o, f.err⟩]) hlt hd (by simp [he])
    simpa [List.append_assoc] using this
/-- The book that is rightly tuned. -/
def OB.rightly (x : OB) (H bits : List Int) : OB :=
  { pipes := x.pipes, tunes := tunesR H (drawE bits 1) x.tunes 0, forks := forksR H (drawE bits 2) x.forks 0, voice := { x.voice with trials := [], tnil := .nil },
    tr := growP 4 ((tunesR H (drawE bits 1) x.tunes 0).map tuA), fr := growP 3 ((forksR H (drawE bits 2) x.forks 0).map foA) }
theorem rightly_call (x : OB) (hx : x.Ok) (hc : Chk x) (H bits : List Int) (lr br : AV) (hl : IsRow 1 (ints H) lr) (hH : H.length = x.N) (hHr : ∀ p, p < x.N → -15 ≤ H.getD p 0 ∧ H.getD p 0 ≤ 15) (hb : IsRow 1 (ints bits) br) (hbl : bits.length < 2 ^ 47) : call Cv 37 [x.av, lr, br] = some (x.rightly H bits).av := by
  have hcl := xcells_cell x hx
  have hav : x.av.cells = x.cells := rfl
  have hxl : x.cells.length = 6 := rfl
  have hbox : boxA {} x.av = some (.box 0 0, { boxes := [x.cells] }) := by
    simp only [boxA, OB.av, AV.cells, hcl, if_true]; rfl
  obtain ⟨L0, l0, g1, g2, g3, g6, g7⟩ := loop37_0 x hx hc H bits lr br hl hH hHr hb hbl x.tunes 0 [] (Nat.zero_le _) rfl rfl
  obtain ⟨L1, l1, k6, k7⟩ := loop37_1 x hx hc H bits lr br hl hH hHr hb hbl ((tunesR H (drawE bits 1) x.tunes 0).map tuA) x.forks 0 [] (Nat.zero_le _) rfl rfl
  have l0' := fun E (hE : mask keep37_0 E = _) => run_at l0 hE
  have l1' := fun E (hE : mask keep37_1 E = _) => run_at l1 hE
  have e5 : ((0 : Nat) : Int) = 0 := rfl
  simp only [keep37_0, head37_0, e5, List.nil_append, List.map_nil] at l0'
  simp only [keep37_1, head37_1, e5, List.nil_append, List.map_nil] at l1'
  have hz : setAt [I 0, .nils, .nils, .nils, I 0, .nils] 0 x.cells = x.cells := rfl
  have hs1 : setAt x.cells 1 [.nils] = [I x.pipes, .nils, x.fr, x.br, I x.voice.weeks, x.vr] := rfl
  have hs2 : ∀ a b c d e f : AV, setAt [a, b, c, d, e, f] 2 [.nils] = [a, b, .nils, d, e, f] := fun _ _ _ _ _ _ => rfl
  have hs5 : ∀ a b c d e f : AV, setAt [a, b, c, d, e, f] 5 [.nils] = [a, b, c, d, e, .nils] := fun _ _ _ _ _ _ => rfl
  have hst0 : st37 x [] [] = { boxes := [x.cells, [I 0, .nils, .nils, .nils, I 0, .nils], [I x.pipes, .nils, .nils, x.br, I x.voice.weeks, .nils]] } := rfl
  rw [hst0] at l0'
  have hmid : ∀ es, st37' x es [] [] = st37 x es [] := fun es => by
    simp [st37', st37, G37, F37, growAt, growC]
  rw [hmid] at l1'
  have hstd : ∀ ts es, st37' x ts es [] = { boxes := [x.cells, [I 0, .nils, .nils, .nils, I 0, .nils], [I x.pipes, growAt 0 4 ts, growAt (growC 4 ts).length 3 es, x.br, I x.voice.weeks, .nils]], chains := growC 4 ts ++ growC 3 es } := fun _ _ => rfl
  rw [hstd] at l1'
  have hp6 : ∀ a b c d e f : AV, partA (some 6) [a, b, c, d, e, f] 0 = some (.agg [a, b, c, d, e, f]) := fun _ _ _ _ _ _ => rfl
  have hs6 : ∀ a b c d e f : AV, setAt [I 0, .nils, .nils, .nils, I 0, .nils] 0 [a, b, c, d, e, f] = [a, b, c, d, e, f] := fun _ _ _ _ _ _ => rfl
  have c2 := br_cell x
  have q2 := br_pur x
  have hm : (x.rightly H bits).av = .agg [I x.pipes, growP 4 ((tunesR H (drawE bits 1) x.tunes 0).map tuA), growP 3 ((forksR H (drawE bits 2) x.forks 0).map foA), x.br, I x.voice.weeks, .nils] := rfl
  rw [hm]
  generalize (tunesR H (drawE bits 1) x.tunes 0).map tuA = R at *
  generalize (forksR H (drawE bits 2) x.forks 0).map foA = S at *
  have gc := growAt_cell 0 4 R
  have gp := growAt_pur 0 4 R
  have gc' := growAt_cell (growC 4 R).length 3 S
  have gp' := growAt_pur (growC 4 R).length 3 S
  generalize st37 x R [] = σ1 at *
  rw [call_run comp37 (Nat.le_of_ble_eq_true rfl)]
  simp (maxSteps := 10000000) [-List.getD_eq_getElem?_getD, -boxA, -partA, -setAt, -List.all_eq_true, part_none, part_x, code37, hbox, hav, hcl, hxl, hz, hs1, hs2, hs5, keep37_0, l0', g1, g2, g3, g6, g7, keep37_1, l1', k6, k7, hp6, hs6, gc, gp, gc', gp', c2, q2]
end Go.Ai
