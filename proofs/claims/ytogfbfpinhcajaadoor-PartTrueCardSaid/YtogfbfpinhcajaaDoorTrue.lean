/- This text shows the law. No conditions of its own. -/
import Derived.Test.YtogfbfpinhcajaaDoorTrueB
import Derived.Test.YtogfbfpinhcajaaDoorRead
set_option linter.unusedSimpArgs false
set_option linter.unusedVariables false
set_option maxRecDepth 100000
set_option linter.unusedSimpArgs false
set_option linter.unusedVariables false
namespace Go.Ai
open Go.Part (Sp Cp Bk truths cnt at' vals okAll rightK Piece tr seg worst)
theorem barF_none (T : List (List Int)) (N v : Nat) : ∀ (l : List Int) (k : Nat), (∀ j n, l[j]? = some n → 0 < cnt T (v * N + (k + j)) n) → barF T N v l k = none
  | [], _, _ => rfl
  | n :: l, k, h => by
    have h0 := h 0 n rfl
    rw [Nat.add_zero] at h0
    rw [barF, if_neg (by omega)]
    refine barF_none T N v l (k + 1) fun j m hj => ?_
    have := h (j + 1) m (by simpa using hj)
    rwa [show k + (j + 1) = k + 1 + j by omega] at this
theorem Rt.wrong {x y : PB} {l : List Int} (h : Rt x y l) : wrongL y = [] ∧ wrongE y = 0 := by
  have hky := chk_of h.hcy
  have hok : okL y [] = true := by rw [okL_nil]; simpa using h.ne
  cases hw : wrongO y with
  | none =>
    have := wrong_not h.hcy hw 0
    rw [bits_zero, hok] at this
    cases this
  | some w =>
    have := (wrong_nil h.hcy hw).2 hok
    subst this
    exact ⟨by simp [wrongL, hw], by simp [wrongE, h.hcy, hw]⟩
theorem rightly_bar {x : PB} {l : List Int} (h : Rt x (x.rightly l) l) {k : Nat} (hk : k < x.copies.length) : barR (x.rightly l) k = (0, 4) := by
  have hc := chk_of h.hc
  obtain ⟨w1, w2⟩ := h.wrong
  have hlen : (x.rightly l).copies.length = x.copies.length := by show (x.copies.map (copyW x l)).length = _; rw [List.length_map]
  have hg : (x.rightly l).copies[k]? = some (copyW x l x.copies[k]) := by
    show (x.copies.map (copyW x l))[k]? = _
    rw [List.getElem?_map, List.getElem?_eq_getElem hk]; rfl
  have hl : lie (k : Int) 0 (((x.rightly l).copies.length : Int) - 1) = true := by rw [hlen]; simp [lie]; omega
  have hco := hc.copies _ (List.getElem_mem hk)
  unfold barR
  rw [if_pos h.hcy, if_pos hl, if_pos w2, Int.toNat_natCast, hg, w1, butF_nil]
  have hb : barF (Ts (x.rightly l) noneF) (x.rightly l).N.toNat (copyW x l x.copies[k]).cp.voice.toNat (copyW x l x.copies[k]).cp.notes 0 = none := by
    refine barF_none _ _ _ _ _ fun j n hj => ?_
    rw [show (copyW x l x.copies[k]).cp.notes = lineW x.spans.length x.N.toNat l x.copies[k].cp.voice.toNat from rfl] at hj
    rw [show (copyW x l x.copies[k]).cp.voice = x.copies[k].cp.voice from rfl, show (x.rightly l).N = x.N from rfl, Nat.zero_add]
    have hjN : j < x.N.toNat := by
      have := (List.getElem?_eq_some_iff.1 hj).1
      simpa [lineW] using this
    have hn : n = at' l (j * x.spans.length + x.copies[k].cp.voice.toNat) := by
      have := lineW_get (V := x.spans.length) (v := x.copies[k].cp.voice.toNat) l hjN
      rw [← this, List.getD_eq_getElem?_getD, hj]; rfl
    rw [hn]
    exact h.pos (by omega) hjN
  simp only [hb]
def head6_2 (k : Int) : Env := mkE 205 .any [(25, I k), (10, .box 1 0)]
theorem loop6_2 (x : PB) (l : List Int) (H : Rt x (x.rightly l) l) : ∀ (m k : Nat), k + m = x.copies.length →
    ∃ L σ, run Cv 6 (.loop keep6_2 body6_2) (head6_2 k) (st6 x (x.rightly l)) = some (.ex 4, mkE 205 .any L, σ)
  | 0, k, hk => by
    have hcl := clen H.hy
    rw [show (x.rightly l).copies.length = x.copies.length from by show (x.copies.map (copyW x l)).length = _; rw [List.length_map]] at hcl
    have h1 : ¬ (k : Int) < (x.copies.length : Int) := by omega
    generalize x.rightly l = y at *
    rw [run_loop]
    simp (maxSteps := 10000000) [-List.getD_eq_getElem?_getD, body6_2, keep6_2, head6_2, st6, PB.cells, hcl, h1]
    exact ⟨_, rfl⟩
  | m + 1, k, hk => by
    have hnc := (chk_of H.hc).nc
    have hcl := clen H.hy
    rw [show (x.rightly l).copies.length = x.copies.length from by show (x.copies.map (copyW x l)).length = _; rw [List.length_map]] at hcl
    have h1 : (k : Int) < (x.copies.length : Int) := by omega
    have hw : IntKind.wrap .i64 ((k : Int) + 1) = k + 1 := wrap_small (by omega) (by omega)
    have hb := barP_call _ H.hy k
    rw [rightly_bar H (by omega)] at hb
    have hvu := H.hx.vrow.under
    have hcu := H.hx.crow.under
    have hvu2 := H.hy.vrow.under
    have hcu2 := H.hy.crow.under
    have hvp2 := H.hy.vrow.pur
    have hcp2 := H.hy.crow.pur
    have key : run Cv 6 (.loop keep6_2 body6_2) (head6_2 k) (st6 x (x.rightly l)) = run Cv 6 (.loop keep6_2 body6_2) (head6_2 (k + 1)) (st6 x (x.rightly l)) := by
      simp only [PB.av, PB.cells] at hb
      generalize x.rightly l = y at *
      rw [run_loop]
      generalize MC.loop keep6_2 body6_2 = L
      simp (maxSteps := 10000000) [-List.getD_eq_getElem?_getD, -List.all_eq_true, body6_2, keep6_2, head6_2, st6, PB.cells, hcl, h1, hw, hb, hvu, hcu, hvu2, hcu2, hvp2, hcp2]
    rw [key]
    exact loop6_2 x l H m (k + 1) (by omega)
set_option maxHeartbeats 8000000 in
theorem true_law (x : PB) (hx : x.Ok) (bits : List Int) (r0 : AV) (hb : bits.length < 2 ^ 47) (hr0 : IsRow 1 (ints bits) r0) : call Cv 6 [x.av, r0] = some (.bool true) := by
  have hsm := sound_call x hx
  have hs := noted_call
  have hvc := hx.vrow.cell
  have hcc := hx.crow.cell
  have hvp := hx.vrow.pur
  have hcp := hx.crow.pur
  have hr0p := hr0.pur
  cases hc : checkOk x with
  | false =>
    rw [hc] at hsm
    simp only [PB.av, PB.cells] at hsm
    rw [call_run comp6 (Nat.le_of_ble_eq_true rfl)]
    simp (maxSteps := 10000000) [-List.getD_eq_getElem?_getD, code6, PB.av, PB.cells, hvc, hcc, hvp, hcp, hsm, hs]
  | true =>
    rw [hc] at hsm
    have hk := chk_of hc
    have hN := hk.N
    have hV := hk.V
    obtain ⟨r, hr, hW⟩ := written_call x hx hk bits r0 hr0 hb (x.N.toNat * x.spans.length) [] (by simp) (fun n hn => absurd hn List.not_mem_nil)
    rw [show someV [] = .nils from rfl] at hr
    rcases hW with ⟨l, hl, hok, rfl⟩ | ⟨rfl, hno⟩
    · rw [List.nil_append] at hr
      have hWr : Written x l := ⟨hl, hok⟩
      have H : Rt x (x.rightly l) l := ⟨hx, hc, rightly_ok hx hk l, rightly_check hc hWr, rfl, rfl, hWr, rightly_piece hc hWr⟩
      have hri := rightly_call x hx hk l hl
      have w1 := ways_call (x.rightly l) H.hy
      rw [H.hcy] at w1
      obtain ⟨y, hy, hyc, hyp, v1⟩ := wrongP_call (x.rightly l) H.hy
      obtain ⟨hw1, hw2⟩ := H.wrong
      rw [hw1] at hy
      rw [hw2] at v1
      have hyl := row_len hy
      have f1 := firstP_call (x.rightly l) H.hy
      have he0 : ansE (x.rightly l) true = 0 := by simp [ansE, H.hcy, H.ne]
      simp only [firstR, openR, he0, if_true] at f1
      have hkn := all_known (chk_of H.hcy) H.ne
      have hte := told_e (first_spec (Ts (x.rightly l) noneF) (x.rightly l).spans.length (x.rightly l).N.toNat).toTold
      have hpos := List.length_pos_iff.2 H.ne
      have hlt1 : ¬ ((Ts (x.rightly l) noneF).length : Int) < 1 := by omega
      obtain ⟨L1, g1, g10⟩ := loop6_1 x (x.rightly l) l H x.spans.length 0 (by omega)
      obtain ⟨L2, σ2, k1⟩ := loop6_2 x l H x.copies.length 0 (by omega)
      have e5 : ((0 : Nat) : Int) = 0 := rfl
      have hin1 := fun E (hE : mask keep6_1 E = _) => run_at g1 hE
      have hin2 := fun E (hE : mask keep6_2 E = _) => run_at k1 hE
      have hsl := someV_len l
      have hsp := fun σ n => someV_pur σ n l
      have hln : ((l.length : Int) == 0) = false := by
        rw [beq_eq_false_iff_ne]
        intro hh
        have := (NV_le hk).2.1
        omega
      have hvp2 := H.hy.vrow.pur
      have hcp2 := H.hy.crow.pur
      have hvc2 := H.hy.vrow.cell
      have hcc2 := H.hy.crow.cell
      have hs6 : ∀ a b c d e f : AV, setAt [I 0, .nils, I 0, I 0, I 0, .nils] 0 [a, b, c, d, e, f] = [a, b, c, d, e, f] := fun _ _ _ _ _ _ => rfl
      simp only [st6, head6_1, head6_2, keep6_1, keep6_2, PB.cells, e5] at hin1 hin2
      simp only [PB.av, PB.cells, trip, if_true] at hsm hr hri w1 v1 f1
      generalize hyy : x.rightly l = yy at *
      generalize openS (Ts yy noneF) yy.spans.length yy.N.toNat (fun _ _ => false) = s at *
      rcases hte with ⟨h1, h1'⟩ | ⟨h1, _, _, h1'⟩
      · have hn1 : (((Ts yy noneF).length : Int) == 1) = false := by
          simp only [beq_eq_false_iff_ne, ne_eq]
          intro h
          exact h1' (hkn.2 (by omega))
        rw [h1] at f1
        generalize ((Ts yy noneF).length : Int) = n at *
        rw [call_run comp6 (Nat.le_of_ble_eq_true rfl)]
        simp (maxSteps := 10000000) [-List.getD_eq_getElem?_getD, -setAt, -List.all_eq_true, code6, PB.av, PB.cells, hvc, hcc, hvp, hcp, hsm, hs, hr0p, hr, hsl, hln, hsp, hri, hs6, hvp2, hcp2, hvc2, hcc2, w1, v1, hyp, hyl, f1, hlt1, hn1, keep6_1, keep6_2, hin1, g10, hin2]
      · have hn1 : (((Ts yy noneF).length : Int) == 1) = true := by
          have := hkn.1 h1'
          rw [this]; rfl
        rw [h1] at f1
        generalize ((Ts yy noneF).length : Int) = n at *
        rw [call_run comp6 (Nat.le_of_ble_eq_true rfl)]
        simp (maxSteps := 10000000) [-List.getD_eq_getElem?_getD, -setAt, -List.all_eq_true, code6, PB.av, PB.cells, hvc, hcc, hvp, hcp, hsm, hs, hr0p, hr, hsl, hln, hsp, hri, hs6, hvp2, hcp2, hvc2, hcc2, w1, v1, hyp, hyl, f1, hlt1, hn1, keep6_1, keep6_2, hin1, g10, hin2]
    · have hT := none_true hc hno
      obtain ⟨y, hy, hyc, hyp, v1⟩ := wrongP_call x hx
      have hwe : wrongE x = 52 := by
        have := wrong_iff hc
        rw [hT] at this
        unfold wrongE
        rw [if_pos hc, this]
        rfl
      rw [hwe] at v1
      have w1 := ways_call x hx
      rw [hc, hT] at w1
      have e5 : (([] : List (List Int)).length : Int) = 0 := rfl
      simp only [PB.av, PB.cells, if_true, e5] at hsm hr w1 v1
      rw [call_run comp6 (Nat.le_of_ble_eq_true rfl)]
      simp (maxSteps := 10000000) [-List.getD_eq_getElem?_getD, -List.all_eq_true, code6, PB.av, PB.cells, hvc, hcc, hvp, hcp, hsm, hs, hr0p, hr, v1, hyp, w1]
end Go.Ai

set_option maxRecDepth 100000
set_option linter.unusedSimpArgs false
set_option linter.unusedVariables false
namespace Go.Proofs.YtogfbfpinhcajaaDoor
open Go Go.Ai Go.ChangeShapes Go.WideShapes Go.ChangeAt Go.RowKit
set_option maxRecDepth 100000 in
theorem partTrue_lifted (os : Os) (started : os.Started) (H : Type) (enc : TypeId × Value → H) :
    ReturnsInHanded {} Tryd.checked os 6 .any (fun w args => (Rows.partTrueSpec.pre enc Tryd.prog Tryd.f6 [] false w args ∧ laidMetH Tryd.prog laid w) ∧ sizedMet enc Tryd.prog Tryd.f6 (OpenSpec.ofChange Rows.partTrueSpec) false w args)
      (Rows.partTrueSpec.post enc Tryd.prog Tryd.f6 false true false false) := by
  refine returnsInHanded_of_change_and (C := Tryd.checked) (X := fun w _ => laidMetH Tryd.prog laid w) (fun _ _ _ hh h => h.of_heap hh) own started (by kernel_rfl) Tryd.func6
    (ChangeSpec.witness_shaped (enc := enc) (C := Tryd.checked) (os := os) (X := fun w _ => laidMetH Tryd.prog laid w) false (World.doorLaid Tryd.prog 600 os) #[.agg #[.int .i64 0, .slice none 0 0, .int .i64 0, .int .i64 0, .int .i64 0, .slice none 0 0], .slice none 0 0] 8 rfl (World.shaped_of_RefB (by kernel_rfl) (by kernel_rfl)) (by kernel_rfl) (by kernel_rfl) (by kernel_rfl) (door_met os _)) ?_
  intro W base args ds gs before hval0 hW _ hwt hL _
  have hval : ∀ (j : Nat) t v, Tryd.f6.params[j]? = some t → args[j]? = some v → Value.okWide Tryd.prog W .any base t v := hval0
  have hW' := hW
  obtain ⟨p, q, hA0, hV, rfl, hfz, hnd⟩ := hW
  have hA : DataW.TrodAll enc Tryd.prog W 0 (fun _ => true) true Tryd.f6.params.toList args.toList ds p := hA0
  have hwt' : (DataW.weightsEach Tryd.prog (Tryd.f6.params.toList ++ []) (ds ++ gs)).all (· ≤ reachBytes) = true := hwt
  rw [Tryd.params6] at hA hval hwt'
  obtain ⟨v0, v1, d0, d1, p0, p1, rfl, rfl, rfl, h0, h1⟩ := trodAll_two hA
  obtain ⟨rfl, rfl⟩ := trodVars_none hV
  have hw0 : ∀ n ∈ d0.weights Tryd.prog 25, n ≤ reachBytes := fun n hn => by
    have := List.all_eq_true.1 hwt' n (by simp [DataW.weightsEach, hn])
    simpa using this
  obtain ⟨x0, hx0, hr0⟩ := book_read h0 (hval 0 25 v0 rfl rfl) hw0
  have hw1 : ∀ n ∈ d1.weights Tryd.prog 33, n ≤ reachBytes := fun n hn => by
    have := List.all_eq_true.1 hwt' n (by simp [DataW.weightsEach, hn])
    simpa using this
  obtain ⟨l1, r1, hl1, hi1, hr1⟩ := ints_read h1 (hval 1 33 v1 rfl rfl) hw1
  refine law_calls (s := Rows.partTrueSpec) Tryd.func6 (by kernel_rfl) hL (avs := [x0.av, r1]) (preps_two hr0 hr1) (true_law x0 hx0 l1 r1 hl1 hi1) hW' rfl rfl ?_
  intro t ht
  rw [Tryd.params6] at ht
  have : t = 25 ∨ t = 33 := by simpa using ht
  rcases this with rfl | rfl
  · exact ⟨by kernel_rfl, of_decide_eq_true (by kernel_rfl)⟩
  · exact ⟨by kernel_rfl, of_decide_eq_true (by kernel_rfl)⟩
theorem partTrue_said : Rows.PartTrueSaid :=
  OpenClaim.holds_of_wide 6 Tryd.f6 rfl rfl rfl rfl rfl rfl rfl ⟨rfl, rfl, rfl, rfl, rfl⟩ rfl rfl rfl rfl rfl (by kernel_rfl) Tryd.func6 (by kernel_rfl)
    (of_decide_eq_true (by kernel_rfl)) (by unfold Func.isWrapper; first | (rw [if_pos (by decide +kernel)]; kernel_rfl) | (rw [if_neg (by decide +kernel)]; exact ⟨rfl, rfl⟩))
    (fun os started H enc _ => partTrue_lifted os started H enc)
theorem partTrue_holds : Rows.PartTrueCardSaid :=
  Claim7.holds_tied_plain_at .later [] [.data, .data, .funcs] true (true, "20e993f4ee19d0eefb55b6c5dbdbd2853920bb1246738ed7e532c6c0953e187f") false
    partTrue_said (fun _ h => by cases h) (by kernel_rfl) (fun _ h => by cases h) partTrue_row_tie rfl ⟨rfl, rfl⟩ (by kernel_rfl) rfl
    (fun f fn hf hfn => by
      obtain rfl : f = 6 := Option.some.inj ((show Tryd.prog.funcNamed "decani/decanilaw05.PartTrue" = some 6 by kernel_rfl).symm.trans hf) |>.symm
      obtain rfl : fn = Tryd.f6 := (Option.some.inj (Tryd.func6.symm.trans hfn)).symm
      exact ⟨by kernel_rfl, fun j t ht => by
        rw [Tryd.params6] at ht
        have h3 : t = 25 ∨ t = 33 := by
          have := List.mem_of_getElem? (i := j) (l := [25, 33]) (by simpa using ht)
          simpa using this
        rcases h3 with rfl | rfl
        · exact (show Tryd.prog.wantsStandIn 25 = false by kernel_rfl)
        · exact (show Tryd.prog.wantsStandIn 33 = false by kernel_rfl)⟩)
    (by kernel_rfl)
#print axioms partTrue_holds
end Go.Proofs.YtogfbfpinhcajaaDoor
