/- This text shows what Day, Chief, Psalm answer. No conditions of its own. -/
import Derived.Test.YtckbmdbebmkbaaaDoorFnJ
set_option linter.unusedSimpArgs false
set_option linter.unusedVariables false
set_option maxRecDepth 100000
namespace Go.Ai
open Go.Office (Ft Rl Us Nt Bk Mt Dy DyK Dy0 Sg now0 seas vals keptN butF cnt vote allI nonNeg mem_nonNeg ends fallsF)
section
variable {x : OB}
theorem smX_get (x : OB) (q : List Int) {u d : Nat} (hu : u < 2) (hd : (d : Int) < x.days) : SM.get (smX x q) ((u : Int), (d : Int)) = some (x.bk.at q u d) := by
  have hl : ∀ u, (x.bk.sg q u).length = x.days.toNat := fun u => Go.Office.sg_len q u
  have ha := Go.Office.at_some (b := x.bk) (q := q) (u := u) (d := d) hd
  unfold smX
  rw [get_putS, get_putS]
  have hdd : ((d : Int) - 0).toNat = d := by omega
  have : u = 0 ∨ u = 1 := by omega
  rcases this with rfl | rfl
  · rw [if_neg (by intro h; exact absurd h.1 (by decide)), if_pos ⟨rfl, by omega, by rw [hl]; omega⟩, hdd]; exact ha
  · rw [if_pos ⟨rfl, by omega, by rw [hl]; omega⟩, hdd]; exact ha
theorem smX_lkp (q : List Int) {u d : Nat} (hu : u < 2) (hd : (d : Int) < x.days) (σ : St) : lkpA σ (some 2) (.agg [I 0, I 0, I 0, I 0]) (.mapv (ksM (smX x q)) (vsM (smX x q))) (.agg [I (u : Nat), I (d : Nat)]) false = some (sgA (x.bk.at q u d)) := by
  have := lkp_map σ (smX x q) ((u : Int), (d : Int)) (.mapv (ksM (smX x q)) (vsM (smX x q))) (.agg [I 0, I 0, I 0, I 0]) rfl false
  rw [smX_get x q hu hd] at this
  exact this
theorem tC_map (q : List Int) : partA none (tC x q) 4 = some (.mapv (ksM (smX x q)) (vsM (smX x q))) := rfl
theorem tC_day (q : List Int) {f : Nat} (hf : f < 4) : partA none (tC x q) f = some (I (q.getD f (-1))) := by
  have : f = 0 ∨ f = 1 ∨ f = 2 ∨ f = 3 := by omega
  rcases this with rfl | rfl | rfl | rfl <;> rfl
theorem box_tC (q : List Int) : boxA {} (.agg (tC x q)) = some (.box 0 0, { boxes := [tC x q] }) := by
  have hc : (AV.agg (tC x q)).cells.all AV.isCell = true := tC_cell q
  simp only [boxA, hc, if_true]
  rfl
theorem fill2 (a b : Int) : fillA [(0, 1, I a), (1, 1, I b)] [I 0, I 0] = some [I a, I b] := rfl
theorem day_fn (q : List Int) {f : Nat} (hf : f < 4) : call Cv 56 [.agg (tC x q), .rp [I (f : Nat)] 0] = some (I (q.getD f (-1))) := by
  have hb := box_tC (x := x) q
  have hi := ixa4 hf 0 0
  have hl : loadA { boxes := [tC x q] } none (.box 0 f) = some (I (q.getD f (-1))) := by
    have := tC_day (x := x) q hf
    simpa [loadA] using this
  have hr : ∀ σ, loadA σ none (.rp [I (f : Nat)] 0) = some (I (f : Nat)) := fun _ => rfl
  rw [call_run comp56 (Nat.le_of_ble_eq_true rfl)]
  simp (maxSteps := 10000000) [-List.getD_eq_getElem?_getD, -boxA, -loadA, -ixaA, code56, hb, hi, hl, hr]
theorem fld_sg (s : Sg) : fldA none (sgA s) 0 = some (I s.chief) ∧ fldA none (sgA s) 1 = some (I (s.set : Nat)) ∧ fldA none (sgA s) 3 = some (I s.psalm) := ⟨rfl, rfl, rfl⟩
theorem chief_fn (q : List Int) {u d : Nat} (hu : u < 2) (hd : (d : Int) < x.days) : call Cv 49 [.agg (tC x q), .rp [I (u : Nat)] 0, .rp [I (d : Nat)] 0] = some (I (x.bk.at q u d).chief) := by
  have hb := box_tC (x := x) q
  have hl : loadA { boxes := [tC x q] } none (.box 0 4) = some (.mapv (ksM (smX x q)) (vsM (smX x q))) := rfl
  have hr : ∀ σ (n : Nat), loadA σ none (.rp [I (n : Nat)] 0) = some (I (n : Nat)) := fun _ _ => rfl
  have hk := smX_lkp (x := x) q hu hd
  obtain ⟨f0, f1, f3⟩ := fld_sg (x.bk.at q u d)
  rw [call_run comp49 (Nat.le_of_ble_eq_true rfl)]
  simp (maxSteps := 10000000) [-List.getD_eq_getElem?_getD, -boxA, -loadA, -fldA, code49, hb, hl, hr, fill2, hk, f0]
theorem psalm_fn (q : List Int) {u d : Nat} (hu : u < 2) (hd : (d : Int) < x.days) : call Cv 58 [.agg (tC x q), .rp [I (u : Nat)] 0, .rp [I (d : Nat)] 0] = some (I (x.bk.at q u d).psalm) := by
  have hb := box_tC (x := x) q
  have hl : loadA { boxes := [tC x q] } none (.box 0 4) = some (.mapv (ksM (smX x q)) (vsM (smX x q))) := rfl
  have hr : ∀ σ (n : Nat), loadA σ none (.rp [I (n : Nat)] 0) = some (I (n : Nat)) := fun _ _ => rfl
  have hk := smX_lkp (x := x) q hu hd
  obtain ⟨f0, f1, f3⟩ := fld_sg (x.bk.at q u d)
  rw [call_run comp58 (Nat.le_of_ble_eq_true rfl)]
  simp (maxSteps := 10000000) [-List.getD_eq_getElem?_getD, -boxA, -loadA, -fldA, code58, hb, hl, hr, fill2, hk, f3]
theorem agree_fn (q : List Int) {d : Nat} (hd : (d : Int) < x.days) : call Cv 60 [.agg (tC x q), .rp [I (d : Nat)] 0] = some (.bool (x.bk.agreeB d q)) := by
  have hb := box_tC (x := x) q
  have hl : (tC x q)[4]? = some (.mapv (ksM (smX x q)) (vsM (smX x q))) := rfl
  have hr : ∀ σ (n : Nat), loadA σ none (.rp [I (n : Nat)] 0) = some (I (n : Nat)) := fun _ _ => rfl
  have h0 := smX_lkp (x := x) q (u := 0) (by decide) hd
  have h1 := smX_lkp (x := x) q (u := 1) (by decide) hd
  have e0 : ((0 : Nat) : Int) = 0 := rfl
  have e1 : ((1 : Nat) : Int) = 1 := rfl
  rw [e0] at h0
  rw [e1] at h1
  unfold Bk.agreeB
  generalize x.bk.at q 0 d = s0 at *
  generalize x.bk.at q 1 d = s1 at *
  have hs : ∀ s : Sg, sgA s = .agg [I s.chief, I (s.set : Nat), I (s.moved : Nat), I s.psalm] := fun _ => rfl
  have hbe : ((s0.set : Int) == (s1.set : Int)) = decide (s0.set = s1.set) := by
    rw [Bool.eq_iff_iff, beq_iff_eq, decide_eq_true_eq]; omega
  have hbc : (s0.chief == s1.chief) = decide (s0.chief = s1.chief) := by
    rw [Bool.eq_iff_iff, beq_iff_eq, decide_eq_true_eq]
  rw [hs] at h0 h1
  rw [call_run comp60 (Nat.le_of_ble_eq_true rfl)]
  by_cases hc : s0.chief = s1.chief <;>
    simp (maxSteps := 10000000) [-List.getD_eq_getElem?_getD, -boxA, code60, hb, hl, hr, fill2, h0, h1, hbe, hbc, hc, tC_cell]
theorem at_set (f : x.Fine) {q : List Int} {u d : Nat} (hd : (d : Int) < x.days) : (x.bk.at q u d).set < 16 := by
  have key : ∀ (n : Nat) (e : Int) (now : Nat → Int) (ps : Int) (j : Nat) (s : Sg), (x.bk.sing u n e now ps)[j]? = some s → ∀ i, s.set.testBit i = true → i < x.bk.fs.length := by
    intro n
    induction n with
    | zero => intro e now ps j s h; simp [Bk.sing] at h
    | succ n ih =>
      intro e now ps j s h i hi
      rw [Bk.sing] at h
      cases j with
      | zero =>
        simp only [List.getElem?_cons_zero, Option.some.injEq] at h
        subst h
        exact (Go.Office.day_ok.set i hi).2
      | succ j => exact ih _ _ _ j s (by simpa using h) i hi
  have h1 := key _ _ _ _ d _ (Go.Office.at_some (b := x.bk) (q := q) (u := u) hd)
  show (x.bk.at q u d).set < 2 ^ 4
  refine Nat.lt_pow_two_of_testBit _ fun i hi => ?_
  cases hb : (x.bk.at q u d).set.testBit i with
  | false => rfl
  | true =>
    have := h1 i hb
    have := f.bk.n4
    omega
end
end Go.Ai

set_option maxRecDepth 100000
namespace Go.Ai
open Go.Office (Ft Rl Us Nt Bk Mt Dy DyK Dy0 Sg now0 seas vals keptN butF cnt vote allI mem_allI nonNeg mem_nonNeg ends ends_congr fallsF)
def errQ (x : OB) (is : Bool) : Int := if checkB x = true then if is = true then errOf x.bk.tr else 11 else 10
theorem errQ_zero {x : OB} {is : Bool} (h : errQ x is = 0) : checkB x = true ∧ is = true ∧ x.bk.tr ≠ [] := by
  unfold errQ errOf at h
  cases hk : checkB x <;> rw [hk] at h
  · simp at h
  · cases is
    · simp at h
    · refine ⟨rfl, rfl, fun hn => ?_⟩
      simp [hn] at h
theorem errQ_ok {x : OB} (h : checkB x = true) (hT : x.bk.tr ≠ []) : errQ x true = 0 := by
  unfold errQ errOf
  simp [h, hT]
theorem asked_cases (x : OB) (hx : x.Ok) (is : Bool) : (errQ x is ≠ 0 ∧ ∃ A : List AV, A.length = 9 ∧ A.all AV.isCell = true ∧ call Cv 46 [x.av, .bool is] = some (.tup [.agg A, I (errQ x is)])) ∨ (errQ x is = 0 ∧ ∃ O : XO x x.bk.tr, call Cv 46 [x.av, .bool is] = some (.tup [.agg O.c, I 0])) := by
  by_cases hb : checkB x = false ∨ is = false
  · left
    have h := asked_bad x hx is hb
    have he : errQ x is = if checkB x then 11 else 10 := by
      unfold errQ
      rcases hb with hb | hb
      · rw [hb]; rfl
      · rw [hb]; simp
    rw [he]
    exact ⟨by split <;> decide, zero9, rfl, rfl, h⟩
  · have hk : checkB x = true := by
      cases h : checkB x with
      | true => rfl
      | false => exact absurd (.inl h) hb
    have hi : is = true := by
      cases h : is with
      | true => rfl
      | false => exact absurd (.inr h) hb
    subst hi
    obtain ⟨hv, tv, h1, h2, h3⟩ := asked_ok x hx hk
    have f := check_fine hk
    have hlen : x.bk.tr.length ≤ 256 := by
      have := tr_len x f []
      rwa [left_none] at this
    obtain ⟨O, hO⟩ : ∃ O : XO x x.bk.tr, O.c = bkC x hv tv := ⟨{ hv := hv, tv := tv, K := x.ns, hrow := h1, trow := h2, lt := hlen, lk := by have := f.n4; omega, f := f, x := hx }, rfl⟩
    have he : errQ x true = errOf x.bk.tr := by unfold errQ; simp [hk]
    rw [he]
    by_cases hT : x.bk.tr = []
    · left
      refine ⟨by unfold errOf; simp [hT], bkC x hv tv, rfl, ?_, h3⟩
      rw [← hO]; exact O.cell
    · right
      have h0 : errOf x.bk.tr = 0 := by unfold errOf; simp [hT]
      rw [h0] at h3 ⊢
      refine ⟨rfl, O, ?_⟩
      rw [hO]; exact h3
section
variable {x : OB} {T : List (List Int)}
theorem XO.load9 (O : XO x T) {B : List (List AV)} {k : Nat} (h : B[k]? = some O.c) : loadA { boxes := B } (some 9) (.box k 0) = some (.agg O.c) := by
  simp only [loadA, h, Option.bind_some]
  rfl
theorem XO.purA (O : XO x T) (σ : St) (n : Nat) : Ai.pur σ (n + 2) (.agg O.c) = some (.agg O.c, false) := by
  have := O.pur σ n
  simp [Ai.pur, this]
theorem fnAt_of {B : List (List AV)} {g : Nat} {caps caps' : List AV} {b : Bool} {v : List Int → Int} (himp : Cv.imp g = false) (hp : ∀ E n, purAll (pur { boxes := B ++ E } (n + 6)) caps' = some (caps, b)) (hg : ∀ q ∈ T, call Cv g (.agg (tC x q) :: caps) = some (I (v q))) : FnAt x T B (.fn (.func g) [] caps') v where
  cell := rfl
  cells := rfl
  call E q hq := by
    have h1 := hp E 6
    have h2 : pur { boxes := B ++ E } 12 (.agg (tC x q)) = some (.agg (tC x q), false) := by
      have := tC_pur (x := x) q { boxes := B ++ E } 10
      simp [Ai.pur, this]
    have hpu : purAll (Ai.pur { boxes := B ++ E } 12) ([] ++ [.agg (tC x q)] ++ caps') = some (.agg (tC x q) :: caps, b) := by
      simp [purAll, h1, h2]
    have hfo : fo depth (I (v q)) = true := rfl
    rw [ca_none himp, hpu]
    simp only [pureCallA, pureA_call, hg q hq, backA, hfo]
    cases b <;> rfl
end
def hullP (l : List Int) : Int × Int := if nonNeg l = [] then (0, 0) else ends (nonNeg l)
def hullE (l : List Int) : Int := if nonNeg l = [] then 4 else 0
theorem nonNeg_all (L : List Int) : nonNeg (allI L) = [] ↔ nonNeg L = [] := by
  rw [List.eq_nil_iff_forall_not_mem, List.eq_nil_iff_forall_not_mem]
  constructor
  · intro h n hn
    exact h n (mem_nonNeg.2 ⟨mem_allI.2 (mem_nonNeg.1 hn).1, (mem_nonNeg.1 hn).2⟩)
  · intro h n hn
    exact h n (mem_nonNeg.2 ⟨mem_allI.1 (mem_nonNeg.1 hn).1, (mem_nonNeg.1 hn).2⟩)
theorem hull_all (L : List Int) : hullP (allI L) = hullP L ∧ hullE (allI L) = hullE L := by
  unfold hullP hullE
  by_cases h : nonNeg L = []
  · rw [if_pos h, if_pos h, if_pos ((nonNeg_all L).2 h), if_pos ((nonNeg_all L).2 h)]
    exact ⟨rfl, rfl⟩
  · have h' : ¬ nonNeg (allI L) = [] := fun e => h ((nonNeg_all L).1 e)
    rw [if_neg h, if_neg h, if_neg h', if_neg h']
    refine ⟨ends_congr (fun y => ?_) h', rfl⟩
    rw [mem_nonNeg, mem_nonNeg, mem_allI]
theorem all_len (L : List Int) : (allI L).length ≤ L.length := by
  unfold allI
  have h1 : ∀ l : List Int, (Go.Office.compactF l).length ≤ l.length := by
    intro l
    induction l with
    | nil => exact Nat.le_refl _
    | cons a l ih =>
      cases l with
      | nil => exact Nat.le_refl _
      | cons b l =>
        rw [Go.Office.compactF]
        split
        · rw [List.length_cons]; omega
        · rw [List.length_cons, List.length_cons]; omega
  have := h1 (L.mergeSort fun x y => decide (x ≤ y))
  rwa [List.length_mergeSort] at this
theorem all_some {L : List Int} (h : L ≠ []) : allI L ≠ [] := by
  cases L with
  | nil => exact absurd rfl h
  | cons a l => exact List.ne_nil_of_mem (mem_allI.2 (List.mem_cons_self ..))
theorem cut_boxes (σ σ' : St) (e : Env) (h0 : σ'.ro = 0) : (cut σ σ' e).ro = 0 ∧ ∀ i, i < σ.boxes.length → (cut σ σ' e).boxes[i]? = σ'.boxes[i]? := by
  have hc : ∀ nc, (cutAt nc σ σ').ro = 0 ∧ ∀ i, i < σ.boxes.length → (cutAt nc σ σ').boxes[i]? = σ'.boxes[i]? := fun nc => by
    refine ⟨by simp [cutAt, h0], fun i hi => ?_⟩
    simp only [cutAt]
    rw [List.getElem?_take_of_lt hi]
  unfold cut
  split
  · exact hc _
  · split
    · exact hc _
    · exact ⟨h0, fun _ _ => rfl⟩
theorem res2 (S : St) (k : Nat) (u v : Int) (h0 : S.ro = 0) (hk : S.boxes[k]? = some [I 0, I 0]) : ∃ S', storeA S 2 (.box k 0) (.agg [I u, I v]) = some S' ∧ loadA S' (some 2) (.box k 0) = some (.agg [I u, I v]) := by
  have hs : setAt [I 0, I 0] 0 [I u, I v] = [I u, I v] := rfl
  have hc : (AV.agg [I u, I v]).cells = [I u, I v] := rfl
  have h2 : ([I u, I v] : List AV).length = 2 := rfl
  have h3 : ([I u, I v] : List AV).all AV.isCell = true := rfl
  have h4 : (0 : Nat) + 2 ≤ ([I 0, I 0] : List AV).length := by decide
  refine ⟨{ S with boxes := S.boxes.set k [I u, I v] }, ?_, ?_⟩
  · simp only [storeA, hk, Option.bind_some, h0, Nat.zero_le, hc, h2, h3, h4, and_self, if_true, hs]
  · obtain ⟨hl, _⟩ := List.getElem?_eq_some_iff.1 hk
    simp only [loadA, List.getElem?_set_self hl, Option.bind_some]
    rfl
theorem span_callA {x : OB} {T : List (List Int)} (O : XO x T) (hT : T ≠ []) (B : List (List AV)) (F : AV) (v : List Int → Int) (hF : FnAt x T B F v) (k : Nat) (hk : B[k]? = some [I 0, I 0]) : ∃ r S1 S2 S3,
    (∀ d, callA Cv (run Cv) d (.fn (.func 48) [] []) [.agg O.c, .agg [F]] { boxes := B } = some (r, S1)) ∧
    (∀ d, callA Cv (run Cv) d (.fn (.func 55) [] []) [r] S1 = some (.tup [.agg [I (hullP (T.map v)).1, I (hullP (T.map v)).2], I (hullE (T.map v))], S2)) ∧
    storeA S2 2 (.box k 0) (.agg [I (hullP (T.map v)).1, I (hullP (T.map v)).2]) = some S3 ∧ loadA S3 (some 2) (.box k 0) = some (.agg [I (hullP (T.map v)).1, I (hullP (T.map v)).2]) := by
  obtain ⟨p, a', m, hall, k1, k2, k3⟩ := all_callA O hT B F v hF
  have hlen := all_len (T.map v)
  have hTl := O.lt
  rw [List.length_map] at hlen
  obtain ⟨p2, a2, hh⟩ := hull_callA (B ++ p) a' m _ k1 k2 k3 (by omega)
  obtain ⟨e1, e2⟩ := hull_all (T.map v)
  have hP : (if nonNeg (allI (T.map v)) = [] then [I 0, I 0] else [I (ends (nonNeg (allI (T.map v)))).1, I (ends (nonNeg (allI (T.map v)))).2]) = [I (hullP (T.map v)).1, I (hullP (T.map v)).2] := by
    rw [← e1]; unfold hullP; split <;> rfl
  have hE : (if nonNeg (allI (T.map v)) = [] then (4 : Int) else 0) = hullE (T.map v) := by rw [← e2]; rfl
  simp only [hP, hE] at hh
  obtain ⟨hkl, _⟩ := List.getElem?_eq_some_iff.1 hk
  obtain ⟨c1, c2⟩ := cut_boxes (stS (B ++ p) a') (stS (B ++ p ++ p2) a2) [.tup [.agg [I (hullP (T.map v)).1, I (hullP (T.map v)).2], I (hullE (T.map v))]] rfl
  have hb := c2 k (by simp [stS]; omega)
  have hb2 : (stS (B ++ p ++ p2) a2).boxes[k]? = some [I 0, I 0] := by
    simp only [stS, List.append_assoc]
    rw [List.getElem?_append_left hkl, hk]
  rw [hb2] at hb
  obtain ⟨S3, h1, h2⟩ := res2 _ k (hullP (T.map v)).1 (hullP (T.map v)).2 c1 hb
  exact ⟨_, _, _, S3, hall, fun d => (hh d).1, h1, h2⟩
def featI (x : OB) (f : Int) : Bool := lie f 0 ((x.fs.length : Int) - 1)
def pair3 (e : Int) (p : Int × Int) : AV := .tup [.agg [I p.1, I p.2], I e]
def dayR (x : OB) (f : Int) : AV := if errQ x (featI x f) = 0 then pair3 (hullE (x.bk.daysL f.toNat)) (hullP (x.bk.daysL f.toNat)) else pair3 (errQ x (featI x f)) (0, 0)
theorem rp1_ok (g : Nat) (himp : Cv.imp g = false) (l : List (List AV)) : FnOk g (l.map fun c => .rp c 0) where
  imp := himp
  pur σ n := by
    induction l with
    | nil => rfl
    | cons a l ih => simp [purAll, ih, Ai.pur]
  under a b c d n := by
    induction l with
    | nil => rfl
    | cons a l ih => simp [Ai.under] at ih ⊢
theorem fillF (g : Nat) (a cs : List AV) : fillA [(0, 1, .fn (.func g) a cs)] [.nilf] = some [.fn (.func g) a cs] := rfl
theorem Day_call (x : OB) (hx : x.Ok) (f : Int) : call Cv 23 [x.av, I f] = some (dayR x f) := by
  have p1 := hx.fr.cell
  have p2 := hx.q0.cell
  have p3 := hx.q1.cell
  have p4 := hx.nr.cell
  have r1 := hx.fr.pur
  have r2 := hx.q0.pur
  have r3 := hx.q1.pur
  have r4 := hx.nr.pur
  have hl := flen hx
  have hlf := hx.lf
  have hw : IntKind.wrap .i64 ((x.fs.length : Int) - 1) = x.fs.length - 1 := wrap_small (by omega) (by omega)
  have hlie := within_call f 0 ((x.fs.length : Int) - 1)
  have hfe : lie f 0 ((x.fs.length : Int) - 1) = featI x f := rfl
  rw [hfe] at hlie
  have hset : ∀ A : List AV, A.length = 9 → setAt [I 0, I 0, .nils, .nils, .bool false, .nils, .bool false, .nils, .nils] 0 A = A := fun A hA => by simp [setAt, hA]
  rcases asked_cases x hx (featI x f) with ⟨he, A, hA, hAc, hc⟩ | ⟨he, O, hc⟩
  · rw [dayR, if_neg he, pair3]
    have hse := hset A hA
    simp only [OB.av, OB.cells] at hc
    have hne : ((errQ x (featI x f)) == 0) = false := by rw [beq_eq_false_iff_ne]; exact he
    rw [call_run comp23 (Nat.le_of_ble_eq_true rfl)]
    simp (maxSteps := 10000000) [-List.getD_eq_getElem?_getD, code23, OB.av, OB.cells, p1, p2, p3, p4, r1, r2, r3, r4, hl, hw, hlie, hc, hA, hAc, hse, hne, he, AV.cells, fillA, retc2]
  · rw [dayR, if_pos he, pair3]
    obtain ⟨hk, hi, hT⟩ := errQ_zero he
    have f4 := O.f.bk.n4
    have hfl : x.bk.fs.length = x.fs.length := rfl
    obtain ⟨n, rfl⟩ : ∃ n : Nat, f = n := ⟨f.toNat, by have := lie_iff.1 hi; omega⟩
    have hn : n < 4 := by have := lie_iff.1 hi; omega
    obtain ⟨B, hB⟩ : ∃ B : List (List AV), B = [x.cells, [I (n : Nat)], [I 0, I 0], O.c] := ⟨_, rfl⟩
    have hF : FnAt x x.bk.tr B (.fn (.func 56) [] [.box 1 0]) (fun q => q.getD n (-1)) := fnAt_of (caps := [.rp [I (n : Nat)] 0]) (b := true) rfl (fun E m => by subst hB; simp [purAll, pur]) (fun q _ => day_fn q hn)
    obtain ⟨rr, S1, S2, S3, hall, hh, hst2, hld2⟩ := span_callA O hT B _ _ hF 2 (by subst hB; rfl)
    have hd : x.bk.daysL ((n : Int).toNat) = x.bk.tr.map fun q => q.getD n (-1) := by rw [Int.toNat_natCast]; rfl
    rw [hd]
    generalize hullP (x.bk.tr.map fun q => q.getD n (-1)) = P at *
    generalize hullE (x.bk.tr.map fun q => q.getD n (-1)) = E at *
    subst hB
    have h9 := O.load9 (B := [x.cells, [I (n : Nat)], [I 0, I 0], O.c]) (k := 3) rfl
    have hOl : O.c.length = 9 := rfl
    have hOc := O.cell
    have hse := hset O.c rfl
    simp only [OB.av, OB.cells] at hc hall h9
    have hneg : ¬ errQ x (featI x n) ≠ 0 := by simp [he]
    have hst0 : storeA { boxes := [[I x.days, I x.first, x.fr, x.q0, .bool x.g0, x.q1, .bool x.g1, x.nr], [I (n : Nat)], [I 0, I 0], [I 0, I 0, .nils, .nils, .bool false, .nils, .bool false, .nils, .nils]] } 9 (.box 3 0) (.agg O.c) = some { boxes := [[I x.days, I x.first, x.fr, x.q0, .bool x.g0, x.q1, .bool x.g1, x.nr], [I (n : Nat)], [I 0, I 0], O.c] } := by
      simp [storeA, AV.cells, hOl, hOc, hse]
    have hl0 : ∀ E, loadA { boxes := [I x.days, I x.first, x.fr, x.q0, .bool x.g0, x.q1, .bool x.g1, x.nr] :: E } (some 8) (.box 0 0) = some (.agg [I x.days, I x.first, x.fr, x.q0, .bool x.g0, x.q1, .bool x.g1, x.nr]) := fun _ => rfl
    have hl1 : ∀ E, loadA { boxes := [I x.days, I x.first, x.fr, x.q0, .bool x.g0, x.q1, .bool x.g1, x.nr] :: E } none (.box 0 2) = some x.fr := fun _ => rfl
    have hl2 : ∀ (a : List AV) E, loadA { boxes := a :: [I (n : Nat)] :: E } none (.box 1 0) = some (I (n : Nat)) := fun _ _ => rfl
    rw [call_run comp23 (Nat.le_of_ble_eq_true rfl)]
    simp (maxSteps := 10000000) [-List.getD_eq_getElem?_getD, -storeA, -loadA, code23, OB.av, OB.cells, p1, p2, p3, p4, r1, r2, r3, r4, hl, hw, hlie, hc, hst0, hl0, hl1, hl2, retc2, h9, fillF, hall, hh, hst2, hld2]
end Go.Ai

set_option maxRecDepth 100000
namespace Go.Ai
open Go.Office (Ft Rl Us Nt Bk Mt Dy DyK Dy0 Sg now0 seas vals keptN butF cnt vote allI mem_allI nonNeg mem_nonNeg ends ends_congr fallsF)
theorem spot_ok {x : OB} (f : x.Fine) {u d : Int} (h : spotB x u d = true) : ∃ n m : Nat, u = n ∧ d = m ∧ n < 2 ∧ (m : Int) < x.days := by
  have d1 : 1 ≤ x.days := f.bk.d1
  have d6 : x.days ≤ 6 := f.bk.d6
  have w1 : IntKind.wrap .i64 (x.days - 1) = x.days - 1 := wrap_small (by omega) (by omega)
  simp only [spotB, Bool.and_eq_true, lie_iff, w1] at h
  exact ⟨u.toNat, d.toNat, by omega, by omega, by omega, by omega⟩
theorem zero9_set (A : List AV) (h : A.length = 9) : setAt [I 0, I 0, .nils, .nils, .bool false, .nils, .bool false, .nils, .nils] 0 A = A := by simp [setAt, h]

theorem Chief_call (x : OB) (hx : x.Ok) (u d : Int) : ∃ r, IsRow 1 (ints (if errQ x (spotB x u d) = 0 then allI (x.bk.chiefsL u.toNat d.toNat) else [])) r ∧ call Cv 15 [x.av, I u, I d] = some (.tup [r, I (errQ x (spotB x u d))]) := by
  have p1 := hx.fr.cell
  have p2 := hx.q0.cell
  have p3 := hx.q1.cell
  have p4 := hx.nr.cell
  have r1 := hx.fr.pur
  have r2 := hx.q0.pur
  have r3 := hx.q1.pur
  have r4 := hx.nr.pur
  have hsp := isSpot_call x hx u d
  simp only [OB.av, OB.cells] at hsp
  have hl0 : ∀ E, loadA { boxes := [I x.days, I x.first, x.fr, x.q0, .bool x.g0, x.q1, .bool x.g1, x.nr] :: E } (some 8) (.box 0 0) = some (.agg [I x.days, I x.first, x.fr, x.q0, .bool x.g0, x.q1, .bool x.g1, x.nr]) := fun _ => rfl
  have hl1 : ∀ (n : Int) (a : List AV) E, loadA { boxes := a :: [I n] :: E } none (.box 1 0) = some (I n) := fun _ _ _ => rfl
  have hl2 : ∀ (n : Int) (a b : List AV) E, loadA { boxes := a :: b :: [I n] :: E } none (.box 2 0) = some (I n) := fun _ _ _ _ => rfl
  rcases asked_cases x hx (spotB x u d) with ⟨he, A, hA, hAc, hc⟩ | ⟨he, O, hc⟩
  · rw [if_neg he]
    refine ⟨.nils, .inl ⟨rfl, rfl⟩, ?_⟩
    have hse := zero9_set A hA
    simp only [OB.av, OB.cells] at hc
    have hne : ((errQ x (spotB x u d)) == 0) = false := by rw [beq_eq_false_iff_ne]; exact he
    rw [call_run comp15 (Nat.le_of_ble_eq_true rfl)]
    simp (maxSteps := 10000000) [-List.getD_eq_getElem?_getD, -loadA, code15, OB.av, OB.cells, p1, p2, p3, p4, r1, r2, r3, r4, hl0, hl1, hl2, hsp, hc, hA, hAc, hse, hne, he, AV.cells, ret2]
  · rw [if_pos he]
    obtain ⟨hk, hi, hT⟩ := errQ_zero he
    obtain ⟨n, k, rfl, rfl, hn, hkd⟩ := spot_ok O.f hi
    obtain ⟨B, hB⟩ : ∃ B : List (List AV), B = [x.cells, [I (n : Nat)], [I (k : Nat)], O.c] := ⟨_, rfl⟩
    have hF : FnAt x x.bk.tr B (.fn (.func 49) [] [.box 1 0, .box 2 0]) (fun q => (x.bk.at q n k).chief) := fnAt_of (caps := [.rp [I (n : Nat)] 0, .rp [I (k : Nat)] 0]) (b := true) rfl (fun E m => by subst hB; simp [purAll, pur]) (fun q _ => chief_fn q hn hkd)
    obtain ⟨p, a', m, hall, k1, k2, k3⟩ := all_callA O hT B _ _ hF
    have hpu := wsl_pur (B ++ p) a' m k3
    rw [k1] at hpu
    refine ⟨.sl 1 (ints (allI (x.bk.tr.map fun q => (x.bk.at q n k).chief))) .no, .inr (.inr ⟨.no, rfl, rfl⟩), ?_⟩
    generalize allI (x.bk.tr.map fun q => (x.bk.at q n k).chief) = R at *
    generalize (B ++ p).length = P0 at *
    generalize stS (B ++ p) a' = S at *
    subst hB
    have h9 := O.load9 (B := [x.cells, [I (n : Nat)], [I (k : Nat)], O.c]) (k := 3) rfl
    have hOl : O.c.length = 9 := rfl
    have hOc := O.cell
    have hse := zero9_set O.c rfl
    simp only [OB.av, OB.cells] at hc hall h9
    have hst0 : storeA { boxes := [[I x.days, I x.first, x.fr, x.q0, .bool x.g0, x.q1, .bool x.g1, x.nr], [I (n : Nat)], [I (k : Nat)], [I 0, I 0, .nils, .nils, .bool false, .nils, .bool false, .nils, .nils]] } 9 (.box 3 0) (.agg O.c) = some { boxes := [[I x.days, I x.first, x.fr, x.q0, .bool x.g0, x.q1, .bool x.g1, x.nr], [I (n : Nat)], [I (k : Nat)], O.c] } := by
      simp [storeA, AV.cells, hOl, hOc, hse]
    rw [he]
    rw [call_run comp15 (Nat.le_of_ble_eq_true rfl)]
    simp (maxSteps := 10000000) [-List.getD_eq_getElem?_getD, -storeA, -loadA, code15, OB.av, OB.cells, p1, p2, p3, p4, r1, r2, r3, r4, hl0, hl1, hl2, hsp, hc, hst0, h9, fillF, hall, hpu, ret2]

theorem Psalm_call (x : OB) (hx : x.Ok) (u d : Int) : ∃ r, IsRow 1 (ints (if errQ x (spotB x u d) = 0 then allI (x.bk.psalmsL u.toNat d.toNat) else [])) r ∧ call Cv 27 [x.av, I u, I d] = some (.tup [r, I (errQ x (spotB x u d))]) := by
  have p1 := hx.fr.cell
  have p2 := hx.q0.cell
  have p3 := hx.q1.cell
  have p4 := hx.nr.cell
  have r1 := hx.fr.pur
  have r2 := hx.q0.pur
  have r3 := hx.q1.pur
  have r4 := hx.nr.pur
  have hsp := isSpot_call x hx u d
  simp only [OB.av, OB.cells] at hsp
  have hl0 : ∀ E, loadA { boxes := [I x.days, I x.first, x.fr, x.q0, .bool x.g0, x.q1, .bool x.g1, x.nr] :: E } (some 8) (.box 0 0) = some (.agg [I x.days, I x.first, x.fr, x.q0, .bool x.g0, x.q1, .bool x.g1, x.nr]) := fun _ => rfl
  have hl1 : ∀ (n : Int) (a : List AV) E, loadA { boxes := a :: [I n] :: E } none (.box 1 0) = some (I n) := fun _ _ _ => rfl
  have hl2 : ∀ (n : Int) (a b : List AV) E, loadA { boxes := a :: b :: [I n] :: E } none (.box 2 0) = some (I n) := fun _ _ _ _ => rfl
  rcases asked_cases x hx (spotB x u d) with ⟨he, A, hA, hAc, hc⟩ | ⟨he, O, hc⟩
  · rw [if_neg he]
    refine ⟨.nils, .inl ⟨rfl, rfl⟩, ?_⟩
    have hse := zero9_set A hA
    simp only [OB.av, OB.cells] at hc
    have hne : ((errQ x (spotB x u d)) == 0) = false := by rw [beq_eq_false_iff_ne]; exact he
    rw [call_run comp27 (Nat.le_of_ble_eq_true rfl)]
    simp (maxSteps := 10000000) [-List.getD_eq_getElem?_getD, -loadA, code27, OB.av, OB.cells, p1, p2, p3, p4, r1, r2, r3, r4, hl0, hl1, hl2, hsp, hc, hA, hAc, hse, hne, he, AV.cells, ret2]
  · rw [if_pos he]
    obtain ⟨hk, hi, hT⟩ := errQ_zero he
    obtain ⟨n, k, rfl, rfl, hn, hkd⟩ := spot_ok O.f hi
    obtain ⟨B, hB⟩ : ∃ B : List (List AV), B = [x.cells, [I (n : Nat)], [I (k : Nat)], O.c] := ⟨_, rfl⟩
    have hF : FnAt x x.bk.tr B (.fn (.func 58) [] [.box 1 0, .box 2 0]) (fun q => (x.bk.at q n k).psalm) := fnAt_of (caps := [.rp [I (n : Nat)] 0, .rp [I (k : Nat)] 0]) (b := true) rfl (fun E m => by subst hB; simp [purAll, pur]) (fun q _ => psalm_fn q hn hkd)
    obtain ⟨p, a', m, hall, k1, k2, k3⟩ := all_callA O hT B _ _ hF
    have hpu := wsl_pur (B ++ p) a' m k3
    rw [k1] at hpu
    refine ⟨.sl 1 (ints (allI (x.bk.tr.map fun q => (x.bk.at q n k).psalm))) .no, .inr (.inr ⟨.no, rfl, rfl⟩), ?_⟩
    generalize allI (x.bk.tr.map fun q => (x.bk.at q n k).psalm) = R at *
    generalize (B ++ p).length = P0 at *
    generalize stS (B ++ p) a' = S at *
    subst hB
    have h9 := O.load9 (B := [x.cells, [I (n : Nat)], [I (k : Nat)], O.c]) (k := 3) rfl
    have hOl : O.c.length = 9 := rfl
    have hOc := O.cell
    have hse := zero9_set O.c rfl
    simp only [OB.av, OB.cells] at hc hall h9
    have hst0 : storeA { boxes := [[I x.days, I x.first, x.fr, x.q0, .bool x.g0, x.q1, .bool x.g1, x.nr], [I (n : Nat)], [I (k : Nat)], [I 0, I 0, .nils, .nils, .bool false, .nils, .bool false, .nils, .nils]] } 9 (.box 3 0) (.agg O.c) = some { boxes := [[I x.days, I x.first, x.fr, x.q0, .bool x.g0, x.q1, .bool x.g1, x.nr], [I (n : Nat)], [I (k : Nat)], O.c] } := by
      simp [storeA, AV.cells, hOl, hOc, hse]
    rw [he]
    rw [call_run comp27 (Nat.le_of_ble_eq_true rfl)]
    simp (maxSteps := 10000000) [-List.getD_eq_getElem?_getD, -storeA, -loadA, code27, OB.av, OB.cells, p1, p2, p3, p4, r1, r2, r3, r4, hl0, hl1, hl2, hsp, hc, hst0, h9, fillF, hall, hpu, ret2]
end Go.Ai
