/- This text shows the outright laws, in the interpreter. No conditions of its own. -/
import Derived.Test.YtcndfpjjcbjhpaaDoorPlain
import Derived.Test.YtcndfpjjcbjhpaaDoorSung
import Derived.Test.YtcndfpjjcbjhpaaDoorSteps
import Derived.Test.YtcndfpjjcbjhpaaDoorRead
import Derived.Test.YtcndfpjjcbjhpaaDoorRefC
set_option linter.unusedSimpArgs false
set_option linter.unusedVariables false
set_option maxRecDepth 100000
set_option linter.unusedSimpArgs false
set_option linter.unusedVariables false
namespace Go.Ai
/-! ## The boy, the week and the note that numbers choose -/
theorem at_of {x : Book} (hx : x.Ok) (hc : checkOk x = true) (n0 n1 : Int) : ∃ (i w : Nat) (b : Boy), At x i w b ∧ turnI n0 x.boys.length = i ∧ turnI n1 x.weeks = w := by
  have g := good_of hc
  have hb := g.bl1
  obtain ⟨h1, h2⟩ := turn_range n0 x.boys.length (by omega)
  obtain ⟨h3, h4⟩ := turn_range n1 x.weeks g.w1
  obtain ⟨i, hi⟩ := Int.eq_ofNat_of_zero_le h1
  obtain ⟨w, hw⟩ := Int.eq_ofNat_of_zero_le h3
  have hlt : i < x.boys.length := by omega
  exact ⟨i, w, x.boys[i], ⟨hx, hc, List.getElem?_eq_getElem hlt, by omega⟩, hi, hw⟩
theorem note_of (n : Int) : isNoteB (turnI n 41) = true ∧ 0 ≤ turnI n 41 ∧ turnI n 41 ≤ 40 := by
  obtain ⟨h1, h2⟩ := turn_range n 41 (by omega)
  exact ⟨by simp [isNoteB]; omega, h1, by omega⟩
theorem At.row {x i w b} (h : At x i w b) : rowV 11 (x.boys.map Boy.av) x.bnil = .sl 11 (x.boys.map Boy.av) x.bnil.cap := rowV_some fun hn => by
  have := h.lt
  rw [h.ok.boys hn] at this
  simp at this
theorem At.get {x i w b} (h : At x i w b) : ∀ h' : i < x.boys.length, x.boys[i] = b := fun _ => (List.getElem?_eq_some_iff.1 h.boy).2
theorem At.callB {x i w b} (h : At x i w b) (n0 : Int) (t0 : turnI n0 x.boys.length = i) : call Cv 42 [I n0, I x.boys.length] = some (I i) := by
  have := (good_of h.fit).bl
  rw [turn_call n0 x.boys.length (by omega), t0]
theorem At.callW {x i w b} (h : At x i w b) (n1 : Int) (t1 : turnI n1 x.weeks = w) : call Cv 42 [I n1, I x.weeks] = some (I w) := by
  have := (good_of h.fit).w6
  rw [turn_call n1 x.weeks (by omega), t1]
set_option maxHeartbeats 4000000 in
theorem tops_law (x : Book) (hx : x.Ok) (n0 n1 n2 : Int) : call Cv 7 [x.av, .agg [I n0, I n1, I n2]] = some (.bool true) := by
  have hsm := small_call x hx
  have hs := sung_call
  have ho : call Cv 47 [I 0] = some (.agg [I 0, I 0]) := only_call 0
  cases hc : checkOk x with
  | false =>
    rw [hc] at hsm
    simp only [Book.av, Book.cells] at hsm
    rw [call_run comp7 (Nat.le_of_ble_eq_true rfl)]
    simp (maxSteps := 10000000) [-List.getD, -List.replicate, -ev, -wantedA, -retsA, -retA, -mask, -List.getD_eq_getElem?_getD, -putA, -opsA_cons, -opsA_nil, -oneA, -condA, -putR, -operA, -thenA_nm, -thenA_rt, -thenA_ex, -blockA_nm, -blockA_rt, -blockA_ex, -nmA, -condC_bool, -againA, -endA, -purR, -pur, -purAll, -depth, -pureA_call, -call_none, -pureCallA, -backA, mkE_set, mkE_len, gt_hit, gt_miss, gt_none, ev_tmp, ev_cst, rets_nil, rets_val, rets_cell, mask_none, mask_some, argL, st_nil, st_op, st_gd, st_gn, pick_b, gate_t, gate_f, gate_u, gate_i, putR_s, putR_n, th_nm, th_rt, th_ex, bl_nm, bl_rt, bl_ex, nm_some, cond_bool, ag_nm, ag_rt, ag_ex, en_nm, en_rt, retA_one, retA_two, retA_three, wrap_small, purR_some, th_if, bl_if, ag_if, en_if, pr_if, dp, pa_nil, pa_cons, pu_int, pu_bool, pu_str, pu_any, pu_undef, pu_nils, pu_nilm, pu_nilp, pu_nilf, pu_sl, pu_mapv, pu_rp, pu_agg, pu_tup, pu_wsl, pu_mp, pu_fn, pu_yld, pu_box, pu_if, ca_none, pc_some, ba_f, ba_t, op_mov, op_pick, op_bld, op_bsl, op_load, op_nck, op_bin, op_beq, op_eqa, op_eqn, op_neg, op_lnot, op_conv, op_mkf, op_slc, op_arr, op_fad, op_fld, op_ixa, op_ixs, op_ixv, op_lkp, op_ext, op_len, op_lenc, op_mn, op_mx, op_alloc, op_box, op_store, op_mkm, op_mks, op_mput, op_ment, op_esto, op_app, op_call, code7, Book.av, Book.cells, hsm, hs]
  | true =>
    rw [hc] at hsm
    obtain ⟨i, w, b, h, t0, t1⟩ := at_of hx hc n0 n1
    obtain ⟨hn, hn0, hn1⟩ := note_of n2
    have c0 := h.callB n0 t0
    have c1 := h.callW n1 t1
    have c2 := turn_call n2 41 (by omega)
    generalize turnI n2 41 = n at *
    have hlen := hx.lenB
    have hrow := h.row
    have hlt := h.lt
    have hbb := h.get hlt
    simp only [Book.av, Book.cells, hrow] at hsm
    cases hf : fine x [] with
    | false =>
      have d1 := h.lowest' hf
      have d2 := h.breaks' hf
      have d3 := h.highest' hf
      have d4 := h.sings' hf n hn
      simp only [Book.av, Book.cells, hrow] at d1 d2 d3 d4
      rw [call_run comp7 (Nat.le_of_ble_eq_true rfl)]
      simp (maxSteps := 10000000) [-List.getD, -List.replicate, -ev, -wantedA, -retsA, -retA, -mask, -List.getD_eq_getElem?_getD, -putA, -opsA_cons, -opsA_nil, -oneA, -condA, -putR, -operA, -thenA_nm, -thenA_rt, -thenA_ex, -blockA_nm, -blockA_rt, -blockA_ex, -nmA, -condC_bool, -againA, -endA, -purR, -pur, -purAll, -depth, -pureA_call, -call_none, -pureCallA, -backA, mkE_set, mkE_len, gt_hit, gt_miss, gt_none, ev_tmp, ev_cst, rets_nil, rets_val, rets_cell, mask_none, mask_some, argL, st_nil, st_op, st_gd, st_gn, pick_b, gate_t, gate_f, gate_u, gate_i, putR_s, putR_n, th_nm, th_rt, th_ex, bl_nm, bl_rt, bl_ex, nm_some, cond_bool, ag_nm, ag_rt, ag_ex, en_nm, en_rt, retA_one, retA_two, retA_three, wrap_small, purR_some, th_if, bl_if, ag_if, en_if, pr_if, dp, pa_nil, pa_cons, pu_int, pu_bool, pu_str, pu_any, pu_undef, pu_nils, pu_nilm, pu_nilp, pu_nilf, pu_sl, pu_mapv, pu_rp, pu_agg, pu_tup, pu_wsl, pu_mp, pu_fn, pu_yld, pu_box, pu_if, ca_none, pc_some, ba_f, ba_t, op_mov, op_pick, op_bld, op_bsl, op_load, op_nck, op_bin, op_beq, op_eqa, op_eqn, op_neg, op_lnot, op_conv, op_mkf, op_slc, op_arr, op_fad, op_fld, op_ixa, op_ixs, op_ixv, op_lkp, op_ext, op_len, op_lenc, op_mn, op_mx, op_alloc, op_box, op_store, op_mkm, op_mks, op_mput, op_ment, op_esto, op_app, op_call, code7, Book.av, Book.cells, hsm, hs, c0, c1, c2, hrow, d1, d2, d3, d4, ho, eqCells]
    | true =>
      obtain ⟨s, d1, e1⟩ := h.lowest hf
      obtain ⟨t, d2, e2⟩ := h.breaks hf
      obtain ⟨u, e, d3, e3⟩ := h.highest hf
      obtain ⟨k, d4, ek, k2, k0⟩ := h.sings hf n hn
      have f1 := und_call s b.low
      have f2 := und_call t b.brk
      have u1 : undB s b.low = true := by
        obtain ⟨v, hv, ev⟩ := e1.least
        obtain ⟨v', hv', ev'⟩ := e1.most
        have q1 := (tru_boy h.boy hv).1.low
        have q2 := (tru_boy h.boy hv').1.low
        simp only [undB, Bool.and_eq_true, decide_eq_true_eq]
        omega
      have u2 : undB t b.brk = true := by
        obtain ⟨v, hv, ev⟩ := e2.least
        obtain ⟨v', hv', ev'⟩ := e2.most
        have q1 := (tru_boy h.boy hv).1.brk
        have q2 := (tru_boy h.boy hv').1.brk
        simp only [undB, Bool.and_eq_true, decide_eq_true_eq]
        omega
      rw [u1] at f1
      rw [u2] at f2
      have l1 := e1.le
      have l2 := e2.le
      have z1 : ¬ s.high < s.low := by omega
      have z2 : ¬ t.high < t.low := by omega
      have ly := lies_call k 0 2
      have ly2 := lies_call n s.high u.low
      have hb3 : (decide (0 ≤ k) && decide (k ≤ 2)) = true := by simp [ek]
      rw [hb3] at ly
      simp only [Book.av, Book.cells, Span.av, hrow] at d1 d2 d3 d4 f1 f2
      rcases e3 with ⟨rfl, rfl, e3⟩ | ⟨rfl, e3⟩
      · simp only [] at d3
        have z3 : t.high ≤ w := by
          obtain ⟨v, hv, ev⟩ := e2.most
          have := e3 v hv
          omega
        have z4 : k = 0 := k0.2 fun v hv hcz => by
          have := e3 v hv
          have := hcz.1
          omega
        subst z4
        rw [call_run comp7 (Nat.le_of_ble_eq_true rfl)]
        simp (maxSteps := 10000000) [-List.getD, -List.replicate, -ev, -wantedA, -retsA, -retA, -mask, -List.getD_eq_getElem?_getD, -putA, -opsA_cons, -opsA_nil, -oneA, -condA, -putR, -operA, -thenA_nm, -thenA_rt, -thenA_ex, -blockA_nm, -blockA_rt, -blockA_ex, -nmA, -condC_bool, -againA, -endA, -purR, -pur, -purAll, -depth, -pureA_call, -call_none, -pureCallA, -backA, mkE_set, mkE_len, gt_hit, gt_miss, gt_none, ev_tmp, ev_cst, rets_nil, rets_val, rets_cell, mask_none, mask_some, argL, st_nil, st_op, st_gd, st_gn, pick_b, gate_t, gate_f, gate_u, gate_i, putR_s, putR_n, th_nm, th_rt, th_ex, bl_nm, bl_rt, bl_ex, nm_some, cond_bool, ag_nm, ag_rt, ag_ex, en_nm, en_rt, retA_one, retA_two, retA_three, wrap_small, purR_some, th_if, bl_if, ag_if, en_if, pr_if, dp, pa_nil, pa_cons, pu_int, pu_bool, pu_str, pu_any, pu_undef, pu_nils, pu_nilm, pu_nilp, pu_nilf, pu_sl, pu_mapv, pu_rp, pu_agg, pu_tup, pu_wsl, pu_mp, pu_fn, pu_yld, pu_box, pu_if, ca_none, pc_some, ba_f, ba_t, op_mov, op_pick, op_bld, op_bsl, op_load, op_nck, op_bin, op_beq, op_eqa, op_eqn, op_neg, op_lnot, op_conv, op_mkf, op_slc, op_arr, op_fad, op_fld, op_ixa, op_ixs, op_ixv, op_lkp, op_ext, op_len, op_lenc, op_mn, op_mx, op_alloc, op_box, op_store, op_mkm, op_mks, op_mput, op_ment, op_esto, op_app, op_call, code7, Book.av, Book.cells, hsm, hs, c0, c1, c2, hrow, d1, d2, d3, d4, ho, eqCells, hrow, hlt, hbb, Boy.av, Boy.cells, f1, f2, z1, z2, z3, ly]
      · have z3 : ¬ t.high ≤ w := by
          obtain ⟨v, ⟨hv, hv'⟩, ev⟩ := e3.most
          have := e2.all v hv
          omega
        have l3 := e3.le
        have z4 : ¬ u.high < u.low := by omega
        have z5 : u.high < n → k = 0 := fun hlt => k0.2 fun v hv hcz => by
          have := e3.all v ⟨hv, hcz.1⟩
          have := hcz.2.2
          omega
        have z6 : n < s.low → k = 0 := fun hlt => k0.2 fun v hv hcz => by
          have := e1.all v hv
          have := hcz.2.1
          omega
        have z7 : n = u.high → s.high ≤ n → k ≠ 0 := fun hn hs hk => by
          obtain ⟨v, ⟨hv, hv'⟩, ev⟩ := e3.most
          have := e1.all v hv
          exact k0.1 hk v hv ⟨hv', by omega, by omega⟩
        have z8 : ¬ t.low ≤ w → s.high ≤ n → n ≤ u.low → k = 2 := fun ht hs hu => k2.2 fun v hv => by
          have q1 := e1.all v hv
          have q2 := e2.all v hv
          have q3 := e3.all v ⟨hv, by omega⟩
          exact ⟨by omega, by omega, by omega⟩
        obtain ⟨q1, hq1⟩ : ∃ q, decide (u.high < n) = q := ⟨_, rfl⟩
        obtain ⟨q2, hq2⟩ : ∃ q, decide (n < s.low) = q := ⟨_, rfl⟩
        obtain ⟨q3, hq3⟩ : ∃ q, (n == u.high) = q := ⟨_, rfl⟩
        obtain ⟨q4, hq4⟩ : ∃ q, decide (s.high ≤ n) = q := ⟨_, rfl⟩
        obtain ⟨q5, hq5⟩ : ∃ q, decide (n ≤ u.low) = q := ⟨_, rfl⟩
        obtain ⟨q6, hq6⟩ : ∃ q, decide (t.low ≤ w) = q := ⟨_, rfl⟩
        obtain ⟨k1, hk1⟩ : ∃ q, (k != 0) = q := ⟨_, rfl⟩
        obtain ⟨k3, hk3⟩ : ∃ q, (k == 0) = q := ⟨_, rfl⟩
        obtain ⟨k2, hk2⟩ : ∃ q, (k == 2) = q := ⟨_, rfl⟩
        rw [hq4, hq5] at ly2
        rw [call_run comp7 (Nat.le_of_ble_eq_true rfl)]
        simp +contextual (maxSteps := 10000000) [-List.getD, -List.replicate, -ev, -wantedA, -retsA, -retA, -mask, -List.getD_eq_getElem?_getD, -putA, -opsA_cons, -opsA_nil, -oneA, -condA, -putR, -operA, -thenA_nm, -thenA_rt, -thenA_ex, -blockA_nm, -blockA_rt, -blockA_ex, -nmA, -condC_bool, -againA, -endA, -purR, -pur, -purAll, -depth, -pureA_call, -call_none, -pureCallA, -backA, mkE_set, mkE_len, gt_hit, gt_miss, gt_none, ev_tmp, ev_cst, rets_nil, rets_val, rets_cell, mask_none, mask_some, argL, st_nil, st_op, st_gd, st_gn, pick_b, gate_t, gate_f, gate_u, gate_i, putR_s, putR_n, th_nm, th_rt, th_ex, bl_nm, bl_rt, bl_ex, nm_some, cond_bool, ag_nm, ag_rt, ag_ex, en_nm, en_rt, retA_one, retA_two, retA_three, wrap_small, purR_some, th_if, bl_if, ag_if, en_if, pr_if, dp, pa_nil, pa_cons, pu_int, pu_bool, pu_str, pu_any, pu_undef, pu_nils, pu_nilm, pu_nilp, pu_nilf, pu_sl, pu_mapv, pu_rp, pu_agg, pu_tup, pu_wsl, pu_mp, pu_fn, pu_yld, pu_box, pu_if, ca_none, pc_some, ba_f, ba_t, op_mov, op_pick, op_bld, op_bsl, op_load, op_nck, op_bin, op_beq, op_eqa, op_eqn, op_neg, op_lnot, op_conv, op_mkf, op_slc, op_arr, op_fad, op_fld, op_ixa, op_ixs, op_ixv, op_lkp, op_ext, op_len, op_lenc, op_mn, op_mx, op_alloc, op_box, op_store, op_mkm, op_mks, op_mput, op_ment, op_esto, op_app, op_call, code7, Book.av, Book.cells, hsm, hs, c0, c1, c2, hrow, d1, d2, d3, d4, ho, eqCells, hrow, hlt, hbb, Boy.av, Boy.cells, f1, f2, z1, z2, z3, z4, ly, ly2, hq1, hq2, hq3, hq4, hq6, hk1, hk2, hk3]
        subst hq1 hq2 hq3 hq4 hq5 hq6 hk1 hk2 hk3
        simp [if_fb]
        omega
end Go.Ai

set_option maxRecDepth 100000
set_option linter.unusedSimpArgs false
set_option linter.unusedVariables false
namespace Go.Ai
def head6 (L s m : AV) (w n k : Int) : Env := mkE 253 .any [(26, I k), (25, m), (24, s), (11, I n), (10, I w), (7, L)]
def exit6 (L s m : AV) (w n k : Int) : Env := mkE 253 .any [(222, .bool false), (221, I k), (220, s), (219, I k), (26, I k), (25, m), (24, s), (11, I n), (10, I w), (7, L)]
def tail6 (L m : AV) (w k : Int) : Env := mkE 253 .any [(27, I k), (25, m), (10, I w), (7, L)]
def exit6' (L m : AV) (w k : Int) : Env := mkE 253 .any [(239, .bool false), (238, I k), (237, m), (236, I k), (27, I k), (25, m), (10, I w), (7, L)]
theorem loop6 (ks : List Kn) (m : AV) (w : Nat) (hK : ∀ q ∈ ks, w < q.tops.length) (n : Int) (S : List Int) (r : AV) (hr : IsRow 1 (ints S) r) (hl : S.length < 2 ^ 47) (hS : ∀ a ∈ S, ∃ (j : Nat) (q : Kn), a = j ∧ ks[j]? = some q ∧ q.sings w n = true) (σ : St) (s1 : σ.ro ≤ σ.boxes.length) (s2 : σ.mro ≤ σ.maps.length) :
    ∀ (l : List Int) (k : Nat), k ≤ S.length → S.drop k = l →
    run Cv 6 (.loop keep6_0 body6_0) (head6 (.sl 3 (ks.map Kn.av) .no) r m w n k) σ = some (.ex 0, exit6 (.sl 3 (ks.map Kn.av) .no) r m w n S.length, σ)
  | [], k, hk, h => by
    have : k = S.length := Nat.le_antisymm hk (by simpa using h)
    subst this
    have h1 : lenA r = some (I S.length) := by rw [hr.len]; simp [ints]
    rw [run_loop]
    simp (maxSteps := 10000000) [-List.getD, -List.replicate, -ev, -wantedA, -retsA, -retA, -mask, -List.getD_eq_getElem?_getD, -putA, -opsA_cons, -opsA_nil, -oneA, -condA, -putR, -operA, -thenA_nm, -thenA_rt, -thenA_ex, -blockA_nm, -blockA_rt, -blockA_ex, -nmA, -condC_bool, -againA, -endA, -purR, -pur, -purAll, -depth, -pureA_call, -call_none, -pureCallA, -backA, mkE_set, mkE_len, gt_hit, gt_miss, gt_none, ev_tmp, ev_cst, rets_nil, rets_val, rets_cell, mask_none, mask_some, argL, st_nil, st_op, st_gd, st_gn, pick_b, gate_t, gate_f, gate_u, gate_i, putR_s, putR_n, th_nm, th_rt, th_ex, bl_nm, bl_rt, bl_ex, nm_some, cond_bool, ag_nm, ag_rt, ag_ex, en_nm, en_rt, retA_one, retA_two, retA_three, wrap_small, purR_some, th_if, bl_if, ag_if, en_if, pr_if, dp, pa_nil, pa_cons, pu_int, pu_bool, pu_str, pu_any, pu_undef, pu_nils, pu_nilm, pu_nilp, pu_nilf, pu_sl, pu_mapv, pu_rp, pu_agg, pu_tup, pu_wsl, pu_mp, pu_fn, pu_yld, pu_box, pu_if, ca_none, pc_some, ba_f, ba_t, op_mov, op_pick, op_bld, op_bsl, op_load, op_nck, op_bin, op_beq, op_eqa, op_eqn, op_neg, op_lnot, op_conv, op_mkf, op_slc, op_arr, op_fad, op_fld, op_ixa, op_ixs, op_ixv, op_lkp, op_ext, op_len, op_lenc, op_mn, op_mx, op_alloc, op_box, op_store, op_mkm, op_mks, op_mput, op_ment, op_esto, op_app, op_call, body6_0, keep6_0, head6, exit6, h1]
  | a :: l, k, hk, h => by
    obtain ⟨hlt, ha, hd⟩ := head_drop h
    have hw : IntKind.wrap .i64 ((k : Int) + 1) = k + 1 := wrap_small (by omega) (by omega)
    obtain ⟨c, hc, rfl⟩ := row_sl hr (by rintro rfl; simp at hlt)
    obtain ⟨j, q, rfl, hj, hq⟩ := hS a (by rw [← ha]; exact List.getElem_mem hlt)
    have hjl : j < ks.length := (List.getElem?_eq_some_iff.1 hj).1
    have hjq : ks[j] = q := (List.getElem?_eq_some_iff.1 hj).2
    have hsc := kn_sings_call q w n (by omega) (by have := hK q (List.mem_of_getElem? hj); omega)
    rw [hq] at hsc
    simp only [Kn.av, ints] at hsc
    have key : run Cv 6 (.loop keep6_0 body6_0) (head6 (.sl 3 (ks.map Kn.av) .no) (.sl 1 (ints S) c) m w n k) σ = run Cv 6 (.loop keep6_0 body6_0) (head6 (.sl 3 (ks.map Kn.av) .no) (.sl 1 (ints S) c) m w n (k + 1)) σ := by
      rw [run_loop]
      generalize MC.loop keep6_0 body6_0 = L
      simp (maxSteps := 10000000) [-List.getD, -List.replicate, -ev, -wantedA, -retsA, -retA, -mask, -List.getD_eq_getElem?_getD, -putA, -opsA_cons, -opsA_nil, -oneA, -condA, -putR, -operA, -thenA_nm, -thenA_rt, -thenA_ex, -blockA_nm, -blockA_rt, -blockA_ex, -nmA, -condC_bool, -againA, -endA, -purR, -pur, -purAll, -depth, -pureA_call, -call_none, -pureCallA, -backA, mkE_set, mkE_len, gt_hit, gt_miss, gt_none, ev_tmp, ev_cst, rets_nil, rets_val, rets_cell, mask_none, mask_some, argL, st_nil, st_op, st_gd, st_gn, pick_b, gate_t, gate_f, gate_u, gate_i, putR_s, putR_n, th_nm, th_rt, th_ex, bl_nm, bl_rt, bl_ex, nm_some, cond_bool, ag_nm, ag_rt, ag_ex, en_nm, en_rt, retA_one, retA_two, retA_three, wrap_small, purR_some, th_if, bl_if, ag_if, en_if, pr_if, dp, pa_nil, pa_cons, pu_int, pu_bool, pu_str, pu_any, pu_undef, pu_nils, pu_nilm, pu_nilp, pu_nilf, pu_sl, pu_mapv, pu_rp, pu_agg, pu_tup, pu_wsl, pu_mp, pu_fn, pu_yld, pu_box, pu_if, ca_none, pc_some, ba_f, ba_t, op_mov, op_pick, op_bld, op_bsl, op_load, op_nck, op_bin, op_beq, op_eqa, op_eqn, op_neg, op_lnot, op_conv, op_mkf, op_slc, op_arr, op_fad, op_fld, op_ixa, op_ixs, op_ixv, op_lkp, op_ext, op_len, op_lenc, op_mn, op_mx, op_alloc, op_box, op_store, op_mkm, op_mks, op_mput, op_ment, op_esto, op_app, op_call, -cut, cut_self _ _ s1 s2, body6_0, keep6_0, head6, ints, hlt, ha, hjl, hjq, Kn.av, hsc, hw]
    rw [key]
    exact loop6 ks m w hK n S _ hr hl hS σ s1 s2 l (k + 1) hlt hd
theorem loop6' (ks : List Kn) (w : Nat) (S : List Int) (r : AV) (hr : IsRow 1 (ints S) r) (hl : S.length < 2 ^ 47) (hS : ∀ a ∈ S, ∃ (j : Nat) (q : Kn), a = j ∧ ks[j]? = some q ∧ q.brk ≤ w) (σ : St) (s1 : σ.ro ≤ σ.boxes.length) (s2 : σ.mro ≤ σ.maps.length) :
    ∀ (l : List Int) (k : Nat), k ≤ S.length → S.drop k = l →
    run Cv 6 (.loop keep6_1 body6_1) (tail6 (.sl 3 (ks.map Kn.av) .no) r w k) σ = some (.ex 2, exit6' (.sl 3 (ks.map Kn.av) .no) r w S.length, σ)
  | [], k, hk, h => by
    have : k = S.length := Nat.le_antisymm hk (by simpa using h)
    subst this
    have h1 : lenA r = some (I S.length) := by rw [hr.len]; simp [ints]
    rw [run_loop]
    simp (maxSteps := 10000000) [-List.getD, -List.replicate, -ev, -wantedA, -retsA, -retA, -mask, -List.getD_eq_getElem?_getD, -putA, -opsA_cons, -opsA_nil, -oneA, -condA, -putR, -operA, -thenA_nm, -thenA_rt, -thenA_ex, -blockA_nm, -blockA_rt, -blockA_ex, -nmA, -condC_bool, -againA, -endA, -purR, -pur, -purAll, -depth, -pureA_call, -call_none, -pureCallA, -backA, mkE_set, mkE_len, gt_hit, gt_miss, gt_none, ev_tmp, ev_cst, rets_nil, rets_val, rets_cell, mask_none, mask_some, argL, st_nil, st_op, st_gd, st_gn, pick_b, gate_t, gate_f, gate_u, gate_i, putR_s, putR_n, th_nm, th_rt, th_ex, bl_nm, bl_rt, bl_ex, nm_some, cond_bool, ag_nm, ag_rt, ag_ex, en_nm, en_rt, retA_one, retA_two, retA_three, wrap_small, purR_some, th_if, bl_if, ag_if, en_if, pr_if, dp, pa_nil, pa_cons, pu_int, pu_bool, pu_str, pu_any, pu_undef, pu_nils, pu_nilm, pu_nilp, pu_nilf, pu_sl, pu_mapv, pu_rp, pu_agg, pu_tup, pu_wsl, pu_mp, pu_fn, pu_yld, pu_box, pu_if, ca_none, pc_some, ba_f, ba_t, op_mov, op_pick, op_bld, op_bsl, op_load, op_nck, op_bin, op_beq, op_eqa, op_eqn, op_neg, op_lnot, op_conv, op_mkf, op_slc, op_arr, op_fad, op_fld, op_ixa, op_ixs, op_ixv, op_lkp, op_ext, op_len, op_lenc, op_mn, op_mx, op_alloc, op_box, op_store, op_mkm, op_mks, op_mput, op_ment, op_esto, op_app, op_call, body6_1, keep6_1, tail6, exit6', h1]
  | a :: l, k, hk, h => by
    obtain ⟨hlt, ha, hd⟩ := head_drop h
    have hw : IntKind.wrap .i64 ((k : Int) + 1) = k + 1 := wrap_small (by omega) (by omega)
    obtain ⟨c, hc, rfl⟩ := row_sl hr (by rintro rfl; simp at hlt)
    obtain ⟨j, q, rfl, hj, hq⟩ := hS a (by rw [← ha]; exact List.getElem_mem hlt)
    have hjl : j < ks.length := (List.getElem?_eq_some_iff.1 hj).1
    have hjq : ks[j] = q := (List.getElem?_eq_some_iff.1 hj).2
    have hq' : ¬ (w : Int) < q.brk := by omega
    have key : run Cv 6 (.loop keep6_1 body6_1) (tail6 (.sl 3 (ks.map Kn.av) .no) (.sl 1 (ints S) c) w k) σ = run Cv 6 (.loop keep6_1 body6_1) (tail6 (.sl 3 (ks.map Kn.av) .no) (.sl 1 (ints S) c) w (k + 1)) σ := by
      rw [run_loop]
      generalize MC.loop keep6_1 body6_1 = L
      simp (maxSteps := 10000000) [-List.getD, -List.replicate, -ev, -wantedA, -retsA, -retA, -mask, -List.getD_eq_getElem?_getD, -putA, -opsA_cons, -opsA_nil, -oneA, -condA, -putR, -operA, -thenA_nm, -thenA_rt, -thenA_ex, -blockA_nm, -blockA_rt, -blockA_ex, -nmA, -condC_bool, -againA, -endA, -purR, -pur, -purAll, -depth, -pureA_call, -call_none, -pureCallA, -backA, mkE_set, mkE_len, gt_hit, gt_miss, gt_none, ev_tmp, ev_cst, rets_nil, rets_val, rets_cell, mask_none, mask_some, argL, st_nil, st_op, st_gd, st_gn, pick_b, gate_t, gate_f, gate_u, gate_i, putR_s, putR_n, th_nm, th_rt, th_ex, bl_nm, bl_rt, bl_ex, nm_some, cond_bool, ag_nm, ag_rt, ag_ex, en_nm, en_rt, retA_one, retA_two, retA_three, wrap_small, purR_some, th_if, bl_if, ag_if, en_if, pr_if, dp, pa_nil, pa_cons, pu_int, pu_bool, pu_str, pu_any, pu_undef, pu_nils, pu_nilm, pu_nilp, pu_nilf, pu_sl, pu_mapv, pu_rp, pu_agg, pu_tup, pu_wsl, pu_mp, pu_fn, pu_yld, pu_box, pu_if, ca_none, pc_some, ba_f, ba_t, op_mov, op_pick, op_bld, op_bsl, op_load, op_nck, op_bin, op_beq, op_eqa, op_eqn, op_neg, op_lnot, op_conv, op_mkf, op_slc, op_arr, op_fad, op_fld, op_ixa, op_ixs, op_ixv, op_lkp, op_ext, op_len, op_lenc, op_mn, op_mx, op_alloc, op_box, op_store, op_mkm, op_mks, op_mput, op_ment, op_esto, op_app, op_call, -cut, cut_self _ _ s1 s2, body6_1, keep6_1, tail6, ints, hlt, ha, hjl, hjq, Kn.av, hq', hw]
    rw [key]
    exact loop6' ks w S _ hr hl hS σ s1 s2 l (k + 1) hlt hd
theorem sel_mem (p : Nat → Bool) : ∀ (n k : Nat) (a : Int), a ∈ sel p k n → ∃ j : Nat, a = j ∧ k ≤ j ∧ j < k + n ∧ p j = true
  | 0, _, _, h => absurd h List.not_mem_nil
  | n + 1, k, a, h => by
    rw [sel, List.mem_append] at h
    rcases h with h | h
    · split at h
      · rename_i hp
        obtain rfl := List.mem_singleton.1 h
        exact ⟨k, rfl, Nat.le_refl _, by omega, hp⟩
      · cases h
    · obtain ⟨j, h1, h2, h3, h4⟩ := sel_mem p n (k + 1) a h
      exact ⟨j, h1, by omega, by omega, h4⟩
end Go.Ai

set_option maxRecDepth 100000
set_option linter.unusedSimpArgs false
set_option linter.unusedVariables false
namespace Go.Ai
/-- A book as a value: three cells. -/
theorem book_av (x : Book) : ∃ B T : AV, x.av = .agg [B, I x.weeks, T] ∧ B.isCell = true ∧ T.isCell = true ∧ (∀ σ n, pur σ (n + 1) B = some (B, false)) ∧ ∀ σ n, pur σ (n + 1) T = some (T, false) :=
  ⟨_, _, rfl, rowV_cell _ _ _, rowV_cell _ _ _, fun _ _ => rowV_pur _ _ _ _ _, fun _ _ => rowV_pur _ _ _ _ _⟩
set_option maxHeartbeats 4000000 in
theorem true_law (x : Book) (hx : x.Ok) (bits : List Int) (hbl : bits.length < 2 ^ 47) (r : AV) (hr : IsRow 1 (ints bits) r) (n0 n1 n2 : Int) : call Cv 6 [x.av, r, .agg [I n0, I n1, I n2]] = some (.bool true) := by
  have hsm := small_call x hx
  have hs := sung_call
  have hp := hr.pur
  cases hc : checkOk x with
  | false =>
    rw [hc] at hsm
    simp only [Book.av, Book.cells] at hsm
    rw [call_run comp6 (Nat.le_of_ble_eq_true rfl)]
    simp (maxSteps := 10000000) [-List.getD, -List.replicate, -ev, -wantedA, -retsA, -retA, -mask, -List.getD_eq_getElem?_getD, -putA, -opsA_cons, -opsA_nil, -oneA, -condA, -putR, -operA, -thenA_nm, -thenA_rt, -thenA_ex, -blockA_nm, -blockA_rt, -blockA_ex, -nmA, -condC_bool, -againA, -endA, -purR, -pur, -purAll, -depth, -pureA_call, -call_none, -pureCallA, -backA, mkE_set, mkE_len, gt_hit, gt_miss, gt_none, ev_tmp, ev_cst, rets_nil, rets_val, rets_cell, mask_none, mask_some, argL, st_nil, st_op, st_gd, st_gn, pick_b, gate_t, gate_f, gate_u, gate_i, putR_s, putR_n, th_nm, th_rt, th_ex, bl_nm, bl_rt, bl_ex, nm_some, cond_bool, ag_nm, ag_rt, ag_ex, en_nm, en_rt, retA_one, retA_two, retA_three, wrap_small, purR_some, th_if, bl_if, ag_if, en_if, pr_if, dp, pa_nil, pa_cons, pu_int, pu_bool, pu_str, pu_any, pu_undef, pu_nils, pu_nilm, pu_nilp, pu_nilf, pu_sl, pu_mapv, pu_rp, pu_agg, pu_tup, pu_wsl, pu_mp, pu_fn, pu_yld, pu_box, pu_if, ca_none, pc_some, ba_f, ba_t, op_mov, op_pick, op_bld, op_bsl, op_load, op_nck, op_bin, op_beq, op_eqa, op_eqn, op_neg, op_lnot, op_conv, op_mkf, op_slc, op_arr, op_fad, op_fld, op_ixa, op_ixs, op_ixv, op_lkp, op_ext, op_len, op_lenc, op_mn, op_mx, op_alloc, op_box, op_store, op_mkm, op_mks, op_mput, op_ment, op_esto, op_app, op_call, code6, Book.av, Book.cells, hsm, hs]
  | true =>
    rw [hc] at hsm
    have ct := truly_call x hx hc bits hbl r hr
    have hkl := trueL_len x.weeks.toNat bits x.boys 0
    have hkt := trueL_tops x.weeks.toNat bits x.boys 0
    have cr := rightly_call x hx hc _ hkl hkt
    change call Cv 41 _ = some (rightB x bits).av at cr
    have hx' : (rightB x bits).Ok := rightB_ok hx bits _ rfl
    have hc' := rightB_check hc bits
    have hf' := rightB_fine hc bits
    obtain ⟨i, w, b, h, t0, t1⟩ := at_of hx hc n0 n1
    have h' : At (rightB x bits) i w b := ⟨hx', hc', h.boy, h.week⟩
    obtain ⟨hn, hn0, hn1⟩ := note_of n2
    have c0 := h.callB n0 t0
    have c1 := h.callW n1 t1
    have c2 := turn_call n2 41 (by omega)
    have hb6 := h.w6
    have hwW : w < x.weeks.toNat := by have := h.week; omega
    have hbo := List.all_eq_true.1 (good_of hc).boys b (List.mem_of_getElem? h.boy)
    have hsing := true_sings hbo bits i x.weeks.toNat w hwW (turnI n2 41)
    have htop := true_top hbo bits i x.weeks.toNat w hwW
    have htru := rightB_tru hc bits i b h.boy
    have hqi : (trueL x.weeks.toNat bits x.boys 0)[i]? = some (trueK x.weeks.toNat b bits i) := by rw [trueL_get, h.boy]; simp
    have hS : ∀ a ∈ sel (surelyP (rightB x bits) w (turnI n2 41)) 0 x.boys.length, ∃ (j : Nat) (q : Kn), a = j ∧ (trueL x.weeks.toNat bits x.boys 0)[j]? = some q ∧ q.sings w (turnI n2 41) = true := fun a ha => by
      obtain ⟨j, rfl, _, hj, hp⟩ := sel_mem _ _ _ _ ha
      have hb' : x.boys[j]? = some x.boys[j] := List.getElem?_eq_getElem (by omega)
      have hj' : At (rightB x bits) j w x.boys[j] := ⟨hx', hc', hb', h.week⟩
      have hbo' := List.all_eq_true.1 (good_of hc).boys _ (List.mem_of_getElem? hb')
      exact ⟨j, trueK x.weeks.toNat x.boys[j] bits j, rfl, by rw [trueL_get, hb']; simp, (true_sings hbo' bits j x.weeks.toNat w hwW _).2 ((hj'.surely hf' _).1 hp _ (rightB_tru hc bits j _ hb'))⟩
    have hM : ∀ a ∈ sel (brokenP (rightB x bits) w) 0 x.boys.length, ∃ (j : Nat) (q : Kn), a = j ∧ (trueL x.weeks.toNat bits x.boys 0)[j]? = some q ∧ q.brk ≤ w := fun a ha => by
      obtain ⟨j, rfl, _, hj, hp⟩ := sel_mem _ _ _ _ ha
      have hb' : x.boys[j]? = some x.boys[j] := List.getElem?_eq_getElem (by omega)
      have hj' : At (rightB x bits) j w x.boys[j] := ⟨hx', hc', hb', h.week⟩
      exact ⟨j, trueK x.weeks.toNat x.boys[j] bits j, rfl, by rw [trueL_get, hb']; simp, hj'.broken.1 hp _ (rightB_tru hc bits j _ hb')⟩
    have d1 := Right_call (rightB x bits) hx'
    obtain ⟨y, hy, d2⟩ := Wrong_call (rightB x bits) hx'
    rw [wrongL_fine hf'] at hy
    have hyl := hy.len
    have hyp := hy.pur
    obtain ⟨s, d3, e1⟩ := h'.lowest hf'
    obtain ⟨t, d4, e2⟩ := h'.breaks hf'
    obtain ⟨u, e, d5, e3⟩ := h'.highest hf'
    obtain ⟨k, d6, ek, k2, k0⟩ := h'.sings hf' _ hn
    have d7 := h'.sure hf' _ hn
    have d8 := h'.must hf'
    rw [hc', hf'] at d1
    rw [hc'] at d2
    simp only [Bool.and_self, if_true] at d1 d2
    have hlenS := sel_len (surelyP (rightB x bits) w (turnI n2 41)) x.boys.length 0
    have hlenM := sel_len (brokenP (rightB x bits) w) x.boys.length 0
    have hbl4 := (good_of hc).bl
    have o1 := ord_call (sel (surelyP (rightB x bits) w (turnI n2 41)) 0 x.boys.length) _ (fullV_row _) (by omega) x.boys.length (by omega) (by omega)
    have o2 := ord_call (sel (brokenP (rightB x bits) w) 0 x.boys.length) _ (fullV_row _) (by omega) x.boys.length (by omega) (by omega)
    rw [ordF_sel _ _ _ _ _ (by omega) (by omega)] at o1 o2
    change call Cv 28 _ = some (.tup [fullV (sel (surelyP (rightB x bits) w (turnI n2 41)) 0 x.boys.length), I 0]) at d7
    change call Cv 31 _ = some (.tup [fullV (sel (brokenP (rightB x bits) w) 0 x.boys.length), I 0]) at d8
    have m1 := loop6 _ (fullV (sel (brokenP (rightB x bits) w) 0 x.boys.length)) w (fun q hq => by rw [hkt q hq]; exact hwW) (turnI n2 41) _ _ (fullV_row _) (by omega) hS
    have m2 := loop6' _ w _ _ (fullV_row _) (by omega) hM
    have pS := (fullV_row (sel (surelyP (rightB x bits) w (turnI n2 41)) 0 x.boys.length)).pur
    have pM := (fullV_row (sel (brokenP (rightB x bits) w) 0 x.boys.length)).pur
    have m1' : ∀ (E : Env) (σ : St), mask keep6_0 E = head6 (.sl 3 ((trueL x.weeks.toNat bits x.boys 0).map Kn.av) .no) (fullV (sel (surelyP (rightB x bits) w (turnI n2 41)) 0 x.boys.length)) (fullV (sel (brokenP (rightB x bits) w) 0 x.boys.length)) w (turnI n2 41) 0 → σ.ro ≤ σ.boxes.length → σ.mro ≤ σ.maps.length → run Cv 6 (.loop keep6_0 body6_0) E σ = some (.ex 0, exit6 (.sl 3 ((trueL x.weeks.toNat bits x.boys 0).map Kn.av) .no) (fullV (sel (surelyP (rightB x bits) w (turnI n2 41)) 0 x.boys.length)) (fullV (sel (brokenP (rightB x bits) w) 0 x.boys.length)) w (turnI n2 41) (sel (surelyP (rightB x bits) w (turnI n2 41)) 0 x.boys.length).length, σ) := fun E σ hE s1 s2 => by
      rw [run_loop_mask, hE]; exact m1 σ s1 s2 _ 0 (Nat.zero_le _) rfl
    have m2' : ∀ (E : Env) (σ : St), mask keep6_1 E = tail6 (.sl 3 ((trueL x.weeks.toNat bits x.boys 0).map Kn.av) .no) (fullV (sel (brokenP (rightB x bits) w) 0 x.boys.length)) w 0 → σ.ro ≤ σ.boxes.length → σ.mro ≤ σ.maps.length → run Cv 6 (.loop keep6_1 body6_1) E σ = some (.ex 2, exit6' (.sl 3 ((trueL x.weeks.toNat bits x.boys 0).map Kn.av) .no) (fullV (sel (brokenP (rightB x bits) w) 0 x.boys.length)) w (sel (brokenP (rightB x bits) w) 0 x.boys.length).length, σ) := fun E σ hE s1 s2 => by
      rw [run_loop_mask, hE]; exact m2 σ s1 s2 _ 0 (Nat.zero_le _) rfl
    clear m1 m2 hS hM
    simp only [keep6_0, keep6_1, head6, tail6, exit6, exit6'] at m1' m2'
    generalize fullV (sel (surelyP (rightB x bits) w (turnI n2 41)) 0 x.boys.length) = fS at *
    generalize fullV (sel (brokenP (rightB x bits) w) 0 x.boys.length) = fM at *
    generalize ((sel (surelyP (rightB x bits) w (turnI n2 41)) 0 x.boys.length).length : Int) = lS at *
    generalize ((sel (brokenP (rightB x bits) w) 0 x.boys.length).length : Int) = lM at *
    generalize turnI n2 41 = n at *
    have a1 := e1.all _ htru
    have a2 := e2.all _ htru
    have hkq : (trueK x.weeks.toNat b bits i).low = (trueV b bits i).low := rfl
    have hkb : (trueK x.weeks.toNat b bits i).brk = (trueV b bits i).brk := rfl
    have hqt : (trueK x.weeks.toNat b bits i).tops.length = x.weeks.toNat := hkt _ (List.mem_of_getElem? hqi)
    have hsg := kn_sings_call (trueK x.weeks.toNat b bits i) w n (by omega) (by omega)
    have hcu := cov_call s (trueK x.weeks.toNat b bits i).low
    have hcb := cov_call t (trueK x.weeks.toNat b bits i).brk
    have hct := cov_call u (topZ b.loss (trueV b bits i) w)
    rw [show covB s (trueK x.weeks.toNat b bits i).low = true from by simp only [covB, hkq, Bool.and_eq_true, decide_eq_true_eq]; exact a1] at hcu
    rw [show covB t (trueK x.weeks.toNat b bits i).brk = true from by simp only [covB, hkb, Bool.and_eq_true, decide_eq_true_eq]; exact a2] at hcb
    have hqtop : ∀ hlt : w < (trueK x.weeks.toNat b bits i).tops.length, (trueK x.weeks.toNat b bits i).tops[w] = topZ b.loss (trueV b bits i) w := fun hlt => by
      rw [← htop]; simp [hlt]
    have hii : i < (trueL x.weeks.toNat bits x.boys 0).length := (List.getElem?_eq_some_iff.1 hqi).1
    have hqii : (trueL x.weeks.toNat bits x.boys 0)[i] = trueK x.weeks.toNat b bits i := (List.getElem?_eq_some_iff.1 hqi).2
    have ht3 : (trueK x.weeks.toNat b bits i).brk > w → e = 0 := fun hlt => by
      rcases e3 with ⟨rfl, _, e3⟩ | ⟨rfl, e3⟩
      · have := e3 _ htru; omega
      · rfl
    have ht4 : (trueK x.weeks.toNat b bits i).brk > w → covB u (topZ b.loss (trueV b bits i) w) = true := fun hlt => by
      rcases e3 with ⟨rfl, _, e3⟩ | ⟨rfl, e3⟩
      · have := e3 _ htru; omega
      · have := e3.all _ ⟨htru, by omega⟩
        simp only [covB, Bool.and_eq_true, decide_eq_true_eq]; exact this
    have hee : e = 0 ∨ e = 4 := by rcases e3 with ⟨rfl, _⟩ | ⟨rfl, _⟩ <;> simp
    generalize trueL x.weeks.toNat bits x.boys 0 = ks at *
    have hs2 : k = 2 → (trueK x.weeks.toNat b bits i).sings w n = true := fun hk => hsing.2 (k2.1 hk _ htru)
    have hs0 : k = 0 → (trueK x.weeks.toNat b bits i).sings w n = false := fun hk => by
      cases hq : (trueK x.weeks.toNat b bits i).sings w n with
      | false => rfl
      | true => exact absurd (hsing.1 hq) (k0.1 hk _ htru)
    generalize trueK x.weeks.toNat b bits i = q at *
    generalize covB u (topZ b.loss (trueV b bits i) w) = cu at *
    generalize topZ b.loss (trueV b bits i) w = tz at *
    generalize q.sings w n = sg at *
    have ly := lies_call k 0 2
    rw [show (decide (0 ≤ k) && decide (k ≤ 2)) = true from by simp [ek]] at ly
    have hrow := h.row
    obtain ⟨B, T, hav, hB, hT, hpB, hpT⟩ := book_av (rightB x bits)
    rw [hav] at cr d1 d2 d3 d4 d5 d6 d7 d8
    generalize (rightB x bits).weeks = W' at *
    simp only [Book.av, Book.cells, Kn.av, Span.av, hrow, ints] at hsm cr ct d3 d4 d5 hsg hcu hcb hct
    have hmx : (w : Int) < max x.weeks 0 := by have := h.week; omega
    clear hx' hc' hf' h' hsing htop htru hqi hav a1 a2 k2 k0
    obtain ⟨q1, hq1⟩ : ∃ q, (k == 2) = q := ⟨_, rfl⟩
    obtain ⟨q2, hq2⟩ : ∃ q, (k == 0) = q := ⟨_, rfl⟩
    obtain ⟨q3, hq3⟩ : ∃ q', decide ((w : Int) < q.brk) = q' := ⟨_, rfl⟩
    obtain ⟨q4, hq4⟩ : ∃ q, (e != 0) = q := ⟨_, rfl⟩
    obtain ⟨q5, hq5⟩ : ∃ q, (e != 4) = q := ⟨_, rfl⟩
    rw [call_run comp6 (Nat.le_of_ble_eq_true rfl)]
    simp +contextual (maxSteps := 10000000) [-List.getD, -List.replicate, -ev, -wantedA, -retsA, -retA, -mask, -List.getD_eq_getElem?_getD, -putA, -opsA_cons, -opsA_nil, -oneA, -condA, -putR, -operA, -thenA_nm, -thenA_rt, -thenA_ex, -blockA_nm, -blockA_rt, -blockA_ex, -nmA, -condC_bool, -againA, -endA, -purR, -pur, -purAll, -depth, -pureA_call, -call_none, -pureCallA, -backA, mkE_set, mkE_len, gt_hit, gt_miss, gt_none, ev_tmp, ev_cst, rets_nil, rets_val, rets_cell, mask_none, mask_some, argL, st_nil, st_op, st_gd, st_gn, pick_b, gate_t, gate_f, gate_u, gate_i, putR_s, putR_n, th_nm, th_rt, th_ex, bl_nm, bl_rt, bl_ex, nm_some, cond_bool, ag_nm, ag_rt, ag_ex, en_nm, en_rt, retA_one, retA_two, retA_three, wrap_small, purR_some, th_if, bl_if, ag_if, en_if, pr_if, dp, pa_nil, pa_cons, pu_int, pu_bool, pu_str, pu_any, pu_undef, pu_nils, pu_nilm, pu_nilp, pu_nilf, pu_sl, pu_mapv, pu_rp, pu_agg, pu_tup, pu_wsl, pu_mp, pu_fn, pu_yld, pu_box, pu_if, ca_none, pc_some, ba_f, ba_t, op_mov, op_pick, op_bld, op_bsl, op_load, op_nck, op_bin, op_beq, op_eqa, op_eqn, op_neg, op_lnot, op_conv, op_mkf, op_slc, op_arr, op_fad, op_fld, op_ixa, op_ixs, op_ixv, op_lkp, op_ext, op_len, op_lenc, op_mn, op_mx, op_alloc, op_box, op_store, op_mkm, op_mks, op_mput, op_ment, op_esto, op_app, op_call, code6, Book.av, Book.cells, hrow, hsm, hs, hp, hB, hT, hpB, hpT, ct, cr, c0, c1, c2, d1, d2, d3, d4, d5, d6, d7, d8, hyl, hyp, o1, o2, pS, pM, m1', m2', hsg, hcu, hcb, hct, hii, hqii, Kn.av, Span.av, hqtop, hqt, hwW, hmx, ly, ints, keep6_0, keep6_1, head6, tail6, exit6, exit6', hq1, hq2, hq3, hq4, hq5]
    subst hq1 hq2 hq3 hq4 hq5
    rw [if_neg, if_neg]
    · simp only [decide_eq_true_eq, bne_iff_ne]
      rintro (⟨h1, h2 | h2⟩ | ⟨h1, h2⟩)
      · exact h2 (ht3 h1)
      · rw [ht4 h1] at h2; cases h2
      · rcases hee with he | he
        · exact h1 he
        · exact h2 he
    · simp only [beq_iff_eq]
      rintro (⟨h1, h2⟩ | ⟨h1, h2⟩)
      · rw [hs2 h1] at h2; cases h2
      · rw [hs0 h1] at h2; cases h2
end Go.Ai

namespace Go.Ai
theorem true_law' (x : Book) (hx : x.Ok) (bits : List Int) (r : AV) (hbl : bits.length < 2 ^ 47) (hr : IsRow 1 (ints bits) r) (n0 n1 n2 : Int) : call Cv 6 [x.av, r, .agg [I n0, I n1, I n2]] = some (.bool true) := true_law x hx bits hbl r hr n0 n1 n2
end Go.Ai

set_option maxRecDepth 100000
set_option linter.unusedSimpArgs false
set_option linter.unusedVariables false
namespace Go.Ai
theorem mod_nat {m : Nat} (h : m < 2 ^ 62) : m % 2 ^ IntKind.bits .i64 = m := by
  show m % 2 ^ 64 = m
  omega
theorem andNot_zero {a b : Nat} (ha : a < 2 ^ 62) (hb : b < 2 ^ 62) (h : ∀ j, j < 62 → a.testBit j = true → b.testBit j = true) : IntKind.wrap .i64 ((a &&& 2 ^ IntKind.bits .i64 - 1 - b % 2 ^ IntKind.bits .i64 : Nat) : Int) = 0 := by
  have e : a &&& 2 ^ IntKind.bits .i64 - 1 - b % 2 ^ IntKind.bits .i64 = 0 := by
    rw [mod_nat hb]
    apply Nat.eq_of_testBit_eq
    intro j
    rw [Nat.testBit_and, Nat.zero_testBit, show 2 ^ IntKind.bits .i64 - 1 - b = 2 ^ 64 - (b + 1) from by show 2 ^ 64 - 1 - b = _; omega, Nat.testBit_two_pow_sub_succ (by omega)]
    by_cases hj : j < 62
    · cases hq : a.testBit j with
      | false => rfl
      | true => rw [h j hj hq]; simp
    · rw [Nat.testBit_lt_two_pow (Nat.lt_of_lt_of_le ha (Nat.pow_le_pow_right (by decide) (by omega)))]; rfl
  rw [e]; rfl
theorem gat_sub {l m : List Int} (ha : gatN 0 l < 2 ^ 62) (hb : gatN 0 m < 2 ^ 62) (h : ∀ j : Nat, (j : Int) ∈ l → (j : Int) ∈ m) : IntKind.wrap .i64 ((gatN 0 l &&& 2 ^ IntKind.bits .i64 - 1 - gatN 0 m % 2 ^ IntKind.bits .i64 : Nat) : Int) = 0 :=
  andNot_zero ha hb fun j hj hq => by
    rw [gatN_bit _ _ _ hj] at hq ⊢
    simp only [Nat.zero_testBit, Bool.false_or, decide_eq_true_eq] at hq ⊢
    exact h j hq
theorem sel_iff (p : Nat → Bool) (n : Nat) (j : Nat) : (j : Int) ∈ sel p 0 n ↔ j < n ∧ p j = true := by
  have key : ∀ (n k : Nat), (j : Int) ∈ sel p k n ↔ k ≤ j ∧ j < k + n ∧ p j = true := by
    intro n
    induction n with
    | zero => intro k; simp [sel]; omega
    | succ n ih =>
      intro k
      rw [sel, List.mem_append, ih]
      by_cases hp : p k = true
      · rw [if_pos hp, List.mem_singleton]
        constructor
        · rintro (h | h)
          · obtain rfl : j = k := by omega
            exact ⟨Nat.le_refl _, by omega, hp⟩
          · exact ⟨by omega, by omega, h.2.2⟩
        · rintro ⟨h1, h2, h3⟩
          by_cases hk : j = k
          · left; omega
          · right; exact ⟨by omega, by omega, h3⟩
      · rw [if_neg hp]
        constructor
        · rintro (h | h)
          · cases h
          · exact ⟨by omega, by omega, h.2.2⟩
        · rintro ⟨h1, h2, h3⟩
          right
          refine ⟨?_, by omega, h3⟩
          by_cases hk : j = k
          · subst hk; exact absurd h3 hp
          · omega
  rw [key]; simp
set_option maxHeartbeats 4000000 in
theorem must_law (x : Book) (hx : x.Ok) (n0 n1 n2 : Int) : call Cv 11 [x.av, .agg [I n0, I n1, I n2]] = some (.bool true) := by
  have hsm := small_call x hx
  have hs := sung_call
  cases hc : checkOk x with
  | false =>
    rw [hc] at hsm
    simp only [Book.av, Book.cells] at hsm
    rw [call_run comp11 (Nat.le_of_ble_eq_true rfl)]
    simp (maxSteps := 10000000) [-List.getD, -List.replicate, -ev, -wantedA, -retsA, -retA, -mask, -List.getD_eq_getElem?_getD, -putA, -opsA_cons, -opsA_nil, -oneA, -condA, -putR, -operA, -thenA_nm, -thenA_rt, -thenA_ex, -blockA_nm, -blockA_rt, -blockA_ex, -nmA, -condC_bool, -againA, -endA, -purR, -pur, -purAll, -depth, -pureA_call, -call_none, -pureCallA, -backA, mkE_set, mkE_len, gt_hit, gt_miss, gt_none, ev_tmp, ev_cst, rets_nil, rets_val, rets_cell, mask_none, mask_some, argL, st_nil, st_op, st_gd, st_gn, pick_b, gate_t, gate_f, gate_u, gate_i, putR_s, putR_n, th_nm, th_rt, th_ex, bl_nm, bl_rt, bl_ex, nm_some, cond_bool, ag_nm, ag_rt, ag_ex, en_nm, en_rt, retA_one, retA_two, retA_three, wrap_small, purR_some, th_if, bl_if, ag_if, en_if, pr_if, dp, pa_nil, pa_cons, pu_int, pu_bool, pu_str, pu_any, pu_undef, pu_nils, pu_nilm, pu_nilp, pu_nilf, pu_sl, pu_mapv, pu_rp, pu_agg, pu_tup, pu_wsl, pu_mp, pu_fn, pu_yld, pu_box, pu_if, ca_none, pc_some, ba_f, ba_t, op_mov, op_pick, op_bld, op_bsl, op_load, op_nck, op_bin, op_beq, op_eqa, op_eqn, op_neg, op_lnot, op_conv, op_mkf, op_slc, op_arr, op_fad, op_fld, op_ixa, op_ixs, op_ixv, op_lkp, op_ext, op_len, op_lenc, op_mn, op_mx, op_alloc, op_box, op_store, op_mkm, op_mks, op_mput, op_ment, op_esto, op_app, op_call, code11, Book.av, Book.cells, hsm, hs]
  | true =>
    rw [hc] at hsm
    obtain ⟨i, w, b, h, t0, t1⟩ := at_of hx hc n1 n0
    obtain ⟨hn, hn0, hn1⟩ := note_of n2
    have c0 := h.callB n1 t0
    have c1 := h.callW n0 t1
    have c2 := turn_call n2 41 (by omega)
    generalize turnI n2 41 = n at *
    have hrow := h.row
    have hlt := h.lt
    have hbl4 := (good_of hc).bl
    cases hf : fine x [] with
    | false =>
      have d1 := h.must' hf
      have d2 := h.breaks' hf
      have d3 := h.sure' hf n hn
      simp only [Book.av, Book.cells, hrow] at hsm d1 d2 d3
      rw [call_run comp11 (Nat.le_of_ble_eq_true rfl)]
      simp (maxSteps := 10000000) [-List.getD, -List.replicate, -ev, -wantedA, -retsA, -retA, -mask, -List.getD_eq_getElem?_getD, -putA, -opsA_cons, -opsA_nil, -oneA, -condA, -putR, -operA, -thenA_nm, -thenA_rt, -thenA_ex, -blockA_nm, -blockA_rt, -blockA_ex, -nmA, -condC_bool, -againA, -endA, -purR, -pur, -purAll, -depth, -pureA_call, -call_none, -pureCallA, -backA, mkE_set, mkE_len, gt_hit, gt_miss, gt_none, ev_tmp, ev_cst, rets_nil, rets_val, rets_cell, mask_none, mask_some, argL, st_nil, st_op, st_gd, st_gn, pick_b, gate_t, gate_f, gate_u, gate_i, putR_s, putR_n, th_nm, th_rt, th_ex, bl_nm, bl_rt, bl_ex, nm_some, cond_bool, ag_nm, ag_rt, ag_ex, en_nm, en_rt, retA_one, retA_two, retA_three, wrap_small, purR_some, th_if, bl_if, ag_if, en_if, pr_if, dp, pa_nil, pa_cons, pu_int, pu_bool, pu_str, pu_any, pu_undef, pu_nils, pu_nilm, pu_nilp, pu_nilf, pu_sl, pu_mapv, pu_rp, pu_agg, pu_tup, pu_wsl, pu_mp, pu_fn, pu_yld, pu_box, pu_if, ca_none, pc_some, ba_f, ba_t, op_mov, op_pick, op_bld, op_bsl, op_load, op_nck, op_bin, op_beq, op_eqa, op_eqn, op_neg, op_lnot, op_conv, op_mkf, op_slc, op_arr, op_fad, op_fld, op_ixa, op_ixs, op_ixv, op_lkp, op_ext, op_len, op_lenc, op_mn, op_mx, op_alloc, op_box, op_store, op_mkm, op_mks, op_mput, op_ment, op_esto, op_app, op_call, code11, Book.av, Book.cells, hrow, hsm, hs, c0, c1, c2, d1, d2, d3]
    | true =>
      have d1 := h.must hf
      obtain ⟨s, d2, e2⟩ := h.breaks hf
      have d3 := h.sure hf n hn
      have l1 := sel_len (brokenP x w) x.boys.length 0
      have l2 := sel_len (surelyP x w n) x.boys.length 0
      have o1 := ord_call (sel (brokenP x w) 0 x.boys.length) _ (fullV_row _) (by omega) x.boys.length (by omega) (by omega)
      have o2 := ord_call (sel (surelyP x w n) 0 x.boys.length) _ (fullV_row _) (by omega) x.boys.length (by omega) (by omega)
      rw [ordF_sel _ _ _ _ _ (by omega) (by omega)] at o1 o2
      have p1 := (fullV_row (sel (brokenP x w) 0 x.boys.length)).pur
      have p2 := (fullV_row (sel (surelyP x w n) 0 x.boys.length)).pur
      have wc := where_call (sel (brokenP x w) 0 x.boys.length) _ (fullV_row _) (by omega) i
      obtain ⟨g1, g2⟩ := gather_call (sel (brokenP x w) 0 x.boys.length) _ (fullV_row _) (by omega)
      obtain ⟨g3, g4⟩ := gather_call (sel (surelyP x w n) 0 x.boys.length) _ (fullV_row _) (by omega)
      simp only [Book.av, Book.cells, hrow, Span.av] at hsm d1 d2 d3
      have hib : ((i : Int) ∈ sel (brokenP x w) 0 x.boys.length) ↔ s.high ≤ w := by
        rw [sel_iff, h.broken]
        constructor
        · rintro ⟨_, ha⟩
          obtain ⟨v, hv, ev⟩ := e2.most
          have := ha v hv
          omega
        · intro hs
          refine ⟨hlt, fun v hv => ?_⟩
          have := e2.all v hv
          omega
      have hidx := idx_nonneg (i : Int) (sel (brokenP x w) 0 x.boys.length) 0
      rw [show decide ((i : Int) ∈ sel (brokenP x w) 0 x.boys.length) = decide (s.high ≤ w) from by simp only [decide_eq_decide]; exact hib] at hidx
      have hand : gatN 0 (sel (brokenP x w) 0 x.boys.length) &&& gatN 0 (sel (surelyP x w n) 0 x.boys.length) = 0 := by
        apply Nat.eq_of_testBit_eq
        intro j
        rw [Nat.testBit_and, Nat.zero_testBit]
        by_cases hj : j < 62
        · rw [gatN_bit _ _ _ hj, gatN_bit _ _ _ hj]
          simp only [Nat.zero_testBit, Bool.false_or, ← Bool.decide_and, decide_eq_false_iff_not, sel_iff]
          rintro ⟨⟨hjl, hp⟩, _, hq⟩
          have hb' : x.boys[j]? = some x.boys[j] := List.getElem?_eq_getElem hjl
          have hj' : At x j w x.boys[j] := ⟨hx, hc, hb', h.week⟩
          obtain ⟨v, hv⟩ := (fine_iff x).1 hf j hjl
          have q1 := hj'.broken.1 hp v hv
          have q2 := ((hj'.surely hf n).1 hq v hv).1
          omega
        · rw [Nat.testBit_lt_two_pow (Nat.lt_of_lt_of_le g1 (Nat.pow_le_pow_right (by decide) (by omega)))]; rfl
      have b1 := mod_nat g1
      have b2 := mod_nat g3
      generalize fullV (sel (brokenP x w) 0 x.boys.length) = r1 at *
      generalize fullV (sel (surelyP x w n) 0 x.boys.length) = r2 at *
      obtain ⟨q, hq⟩ : ∃ q, decide (s.high ≤ (w : Int)) = q := ⟨_, rfl⟩
      rw [hq] at hidx
      have hw6 := h.w6
      have hw1 : IntKind.wrap .i64 ((w : Int) + 1) = w + 1 := wrap_small (by omega) (by omega)
      have w0 : IntKind.wrap .i64 0 = 0 := rfl
      by_cases hwk : (w : Int) + 1 = x.weeks
      · have hw1' : IntKind.wrap .i64 x.weeks = x.weeks := by rw [← hwk]; exact hw1
        rw [call_run comp11 (Nat.le_of_ble_eq_true rfl)]
        simp +contextual (maxSteps := 10000000) [-List.getD, -List.replicate, -ev, -wantedA, -retsA, -retA, -mask, -List.getD_eq_getElem?_getD, -putA, -opsA_cons, -opsA_nil, -oneA, -condA, -putR, -operA, -thenA_nm, -thenA_rt, -thenA_ex, -blockA_nm, -blockA_rt, -blockA_ex, -nmA, -condC_bool, -againA, -endA, -purR, -pur, -purAll, -depth, -pureA_call, -call_none, -pureCallA, -backA, mkE_set, mkE_len, gt_hit, gt_miss, gt_none, ev_tmp, ev_cst, rets_nil, rets_val, rets_cell, mask_none, mask_some, argL, st_nil, st_op, st_gd, st_gn, pick_b, gate_t, gate_f, gate_u, gate_i, putR_s, putR_n, th_nm, th_rt, th_ex, bl_nm, bl_rt, bl_ex, nm_some, cond_bool, ag_nm, ag_rt, ag_ex, en_nm, en_rt, retA_one, retA_two, retA_three, wrap_small, purR_some, th_if, bl_if, ag_if, en_if, pr_if, dp, pa_nil, pa_cons, pu_int, pu_bool, pu_str, pu_any, pu_undef, pu_nils, pu_nilm, pu_nilp, pu_nilf, pu_sl, pu_mapv, pu_rp, pu_agg, pu_tup, pu_wsl, pu_mp, pu_fn, pu_yld, pu_box, pu_if, ca_none, pc_some, ba_f, ba_t, op_mov, op_pick, op_bld, op_bsl, op_load, op_nck, op_bin, op_beq, op_eqa, op_eqn, op_neg, op_lnot, op_conv, op_mkf, op_slc, op_arr, op_fad, op_fld, op_ixa, op_ixs, op_ixv, op_lkp, op_ext, op_len, op_lenc, op_mn, op_mx, op_alloc, op_box, op_store, op_mkm, op_mks, op_mput, op_ment, op_esto, op_app, op_call, hq, hidx, b1, b2, hand, hw1, hw1', w0, hwk, code11, Book.av, Book.cells, hrow, hsm, hs, c0, c1, c2, d1, d2, d3, p1, p2, o1, o2, wc, g2, g4]
      · have h2 : At x i (w + 1) b := ⟨hx, hc, h.boy, by have := h.week; omega⟩
        have d4 := h2.must hf
        have l3 := sel_len (brokenP x ((w + 1 : Nat) : Int)) x.boys.length 0
        have p3 := (fullV_row (sel (brokenP x ((w + 1 : Nat) : Int)) 0 x.boys.length)).pur
        obtain ⟨g5, g6⟩ := gather_call (sel (brokenP x ((w + 1 : Nat) : Int)) 0 x.boys.length) _ (fullV_row _) (by omega)
        generalize fullV (sel (brokenP x ((w + 1 : Nat) : Int)) 0 x.boys.length) = r3 at *
        have b3 := mod_nat g5
        simp only [Book.av, Book.cells, hrow, Int.natCast_add, Int.natCast_one] at d4
        rw [call_run comp11 (Nat.le_of_ble_eq_true rfl)]
        simp +contextual (maxSteps := 10000000) [-List.getD, -List.replicate, -ev, -wantedA, -retsA, -retA, -mask, -List.getD_eq_getElem?_getD, -putA, -opsA_cons, -opsA_nil, -oneA, -condA, -putR, -operA, -thenA_nm, -thenA_rt, -thenA_ex, -blockA_nm, -blockA_rt, -blockA_ex, -nmA, -condC_bool, -againA, -endA, -purR, -pur, -purAll, -depth, -pureA_call, -call_none, -pureCallA, -backA, mkE_set, mkE_len, gt_hit, gt_miss, gt_none, ev_tmp, ev_cst, rets_nil, rets_val, rets_cell, mask_none, mask_some, argL, st_nil, st_op, st_gd, st_gn, pick_b, gate_t, gate_f, gate_u, gate_i, putR_s, putR_n, th_nm, th_rt, th_ex, bl_nm, bl_rt, bl_ex, nm_some, cond_bool, ag_nm, ag_rt, ag_ex, en_nm, en_rt, retA_one, retA_two, retA_three, wrap_small, purR_some, th_if, bl_if, ag_if, en_if, pr_if, dp, pa_nil, pa_cons, pu_int, pu_bool, pu_str, pu_any, pu_undef, pu_nils, pu_nilm, pu_nilp, pu_nilf, pu_sl, pu_mapv, pu_rp, pu_agg, pu_tup, pu_wsl, pu_mp, pu_fn, pu_yld, pu_box, pu_if, ca_none, pc_some, ba_f, ba_t, op_mov, op_pick, op_bld, op_bsl, op_load, op_nck, op_bin, op_beq, op_eqa, op_eqn, op_neg, op_lnot, op_conv, op_mkf, op_slc, op_arr, op_fad, op_fld, op_ixa, op_ixs, op_ixv, op_lkp, op_ext, op_len, op_lenc, op_mn, op_mx, op_alloc, op_box, op_store, op_mkm, op_mks, op_mput, op_ment, op_esto, op_app, op_call, hq, hidx, b1, b2, b3, hand, hw1, w0, hwk, d4, p3, g6, code11, Book.av, Book.cells, hrow, hsm, hs, c0, c1, c2, d1, d2, d3, p1, p2, o1, o2, wc, g2, g4]
        have hsub := gat_sub g1 g5 fun j hj => by
          rw [sel_iff] at hj ⊢
          have hb' : x.boys[j]? = some x.boys[j] := List.getElem?_eq_getElem hj.1
          have hj' : At x j w x.boys[j] := ⟨hx, hc, hb', h.week⟩
          have hj2 : At x j (w + 1) x.boys[j] := ⟨hx, hc, hb', h2.week⟩
          refine ⟨hj.1, hj2.broken.2 fun v hv => ?_⟩
          have := hj'.broken.1 hj.2 v hv
          omega
        exact hsub
end Go.Ai

set_option maxRecDepth 100000
set_option linter.unusedSimpArgs false
set_option linter.unusedVariables false
namespace Go.Ai
/-! ## Without some of the trials -/
theorem keep_right (loss : Int) (v : Vo) (i : Int) (but : List Int) : ∀ (l : List Trial) (k j : Nat), rightFrom loss v i [] (keepT but l k) j = rightFrom loss v i but l k
  | [], _, _ => rfl
  | t :: l, k, j => by
    rw [keepT, rightFrom]
    by_cases h : (k : Int) ∈ but
    · rw [if_pos h, List.nil_append, keep_right loss v i but l (k + 1) j]
      simp [badT, h]
    · rw [if_neg h, List.singleton_append, rightFrom, keep_right loss v i but l (k + 1) (j + 1)]
      simp [badT, h]
theorem keep_voices (x : Book) (but : List Int) (i : Nat) (b : Boy) : voicesOf (x.having (keepT but x.trials 0)) i b [] = voicesOf x i b but := by
  unfold voicesOf
  congr 1
  funext v
  exact keep_right _ _ _ _ _ _ _
theorem keep_fine (x : Book) (but : List Int) : fine (x.having (keepT but x.trials 0)) [] = fine x but := by
  have key : ∀ (l : List Boy) (k : Nat), Ts (x.having (keepT but x.trials 0)) [] l k = Ts x but l k := by
    intro l
    induction l with
    | nil => intro k; rfl
    | cons b l ih => intro k; rw [Ts, Ts, keep_voices, ih]
  rw [fine, fine, ← key]
  rfl
theorem keep_sub (but : List Int) : ∀ (l : List Trial) (k : Nat), (∀ t ∈ keepT but l k, t ∈ l) ∧ (keepT but l k).length ≤ l.length
  | [], _ => ⟨fun _ h => h, Nat.le_refl _⟩
  | t :: l, k => by
    obtain ⟨h1, h2⟩ := keep_sub but l (k + 1)
    rw [keepT]
    split
    · exact ⟨fun u hu => List.mem_cons_of_mem _ (h1 u (by simpa using hu)), by simp; omega⟩
    · refine ⟨fun u hu => ?_, by simp; omega⟩
      rcases List.mem_cons.1 (by simpa using hu) with rfl | hu
      · exact .head _
      · exact List.mem_cons_of_mem _ (h1 u hu)
theorem keep_check {x : Book} (hc : checkOk x = true) (ts : List Trial) (h1 : ∀ t ∈ ts, t ∈ x.trials) (h2 : ts.length ≤ x.trials.length) : checkOk (x.having ts) = true := by
  have g := good_of hc
  have g1 := g.tr
  have hc' : (decide (1 ≤ (x.boys.length : Int)) && decide ((x.boys.length : Int) ≤ 4)) = true ∨ True := .inr trivial
  have e : (x.having ts).trials.all (trialOk (x.having ts)) = true := by
    rw [List.all_eq_true] at g1 ⊢
    intro t ht
    exact g1 t (h1 t ht)
  simp only [checkOk, Bool.and_eq_true, decide_eq_true_eq] at hc ⊢
  refine ⟨⟨⟨hc.1.1.1, ?_⟩, hc.1.2⟩, e⟩
  have : (x.having ts).trials.length = ts.length := rfl
  omega
/-- What is told of the trials that must be false. -/
structure Told (x : Book) : Prop where
  fine : fine x (wrongL x) = true
  inc : incFrom x.trials.length 0 (wrongL x)
  len : (wrongL x).length ≤ x.trials.length
  least : ∀ s, s < 2 ^ x.trials.length → Ai.fine x (bitsL s x.trials.length) = true → shorterL (bitsL s x.trials.length) (wrongL x) = false
theorem told_of {x : Book} (hc : checkOk x = true) : Told x := by
  have g := good_of hc
  have htl := g.tl
  have hpos : 0 < 2 ^ x.trials.length := Nat.two_pow_pos _
  have hfull : ∀ k : Nat, k < x.trials.length → (k : Int) ∈ bitsL (2 ^ x.trials.length - 1) x.trials.length := by
    intro k hk
    rw [bitsL, mem_sel]
    refine ⟨k, rfl, by omega, by omega, ?_⟩
    have h62 : (k : Int) < 62 := by omega
    simp [hasB, h62, Nat.testBit_two_pow_sub_one, hk]
  obtain ⟨⟨f1, f2⟩, _, f3⟩ := fold_best x (List.range' 0 (2 ^ x.trials.length)) (bitsL (2 ^ x.trials.length - 1) x.trials.length) ⟨fine_all x g.boys _ hfull, bits_inc _ _⟩
  have e : wrongL x = (List.range' 0 (2 ^ x.trials.length)).foldl (better x) (bitsL (2 ^ x.trials.length - 1) x.trials.length) := by
    rw [wrong_eq, refWrong, if_pos hc]
  rw [← e] at f1 f2 f3
  exact ⟨f1, f2, by simpa using inc_length x.trials.length _ 0 (by omega) (by simpa using f2), fun s hs hf => f3 s (by rw [List.mem_range'_1]; omega) hf⟩
theorem inc_ord (T : Nat) : ∀ (l : List Int) (k p : Int), p < k → 0 ≤ k → incFrom T k l → ordF T p l = true
  | [], _, _, _, _, _ => rfl
  | a :: l, k, p, hp, hk, h => by
    obtain ⟨h1, h2, h3⟩ := h
    simp only [ordF, Bool.and_eq_true, decide_eq_true_eq]
    exact ⟨⟨⟨by omega, by omega⟩, by omega⟩, inc_ord T l (a + 1) a (by omega) (by omega) h3⟩
theorem wrong_nil {x : Book} (hc : checkOk x = true) : (wrongL x = []) ↔ fine x [] = true := by
  constructor
  · intro h
    have := (told_of hc).fine
    rwa [h] at this
  · exact wrongL_fine
set_option maxHeartbeats 4000000 in
theorem wrong_law (x : Book) (hx : x.Ok) (n : Int) : call Cv 13 [x.av, I n] = some (.bool true) := by
  have hsm := small_call x hx
  have hs := sung_call
  obtain ⟨y, hy, d1⟩ := Wrong_call x hx
  have hyl := hy.len
  have hyp := hy.pur
  cases hc : checkOk x with
  | false =>
    rw [hc] at hsm d1
    have hw : wrongL x = [] := by simp [wrongL, hc]
    rw [hw] at hyl
    simp only [Book.av, Book.cells] at hsm d1
    rw [call_run comp13 (Nat.le_of_ble_eq_true rfl)]
    simp (maxSteps := 10000000) [-List.getD, -List.replicate, -ev, -wantedA, -retsA, -retA, -mask, -List.getD_eq_getElem?_getD, -putA, -opsA_cons, -opsA_nil, -oneA, -condA, -putR, -operA, -thenA_nm, -thenA_rt, -thenA_ex, -blockA_nm, -blockA_rt, -blockA_ex, -nmA, -condC_bool, -againA, -endA, -purR, -pur, -purAll, -depth, -pureA_call, -call_none, -pureCallA, -backA, mkE_set, mkE_len, gt_hit, gt_miss, gt_none, ev_tmp, ev_cst, rets_nil, rets_val, rets_cell, mask_none, mask_some, argL, st_nil, st_op, st_gd, st_gn, pick_b, gate_t, gate_f, gate_u, gate_i, putR_s, putR_n, th_nm, th_rt, th_ex, bl_nm, bl_rt, bl_ex, nm_some, cond_bool, ag_nm, ag_rt, ag_ex, en_nm, en_rt, retA_one, retA_two, retA_three, wrap_small, purR_some, th_if, bl_if, ag_if, en_if, pr_if, dp, pa_nil, pa_cons, pu_int, pu_bool, pu_str, pu_any, pu_undef, pu_nils, pu_nilm, pu_nilp, pu_nilf, pu_sl, pu_mapv, pu_rp, pu_agg, pu_tup, pu_wsl, pu_mp, pu_fn, pu_yld, pu_box, pu_if, ca_none, pc_some, ba_f, ba_t, op_mov, op_pick, op_bld, op_bsl, op_load, op_nck, op_bin, op_beq, op_eqa, op_eqn, op_neg, op_lnot, op_conv, op_mkf, op_slc, op_arr, op_fad, op_fld, op_ixa, op_ixs, op_ixv, op_lkp, op_ext, op_len, op_lenc, op_mn, op_mx, op_alloc, op_box, op_store, op_mkm, op_mks, op_mput, op_ment, op_esto, op_app, op_call, code13, Book.av, Book.cells, hsm, hs, d1, hyl, hyp, ints]
  | true =>
    rw [hc] at hsm d1
    have g := good_of hc
    have tw := told_of hc
    have htl := g.tl
    have hp64 := pow_small htl
    have hpos : 0 < 2 ^ x.trials.length := Nat.two_pow_pos _
    have d2 := Right_call x hx
    rw [hc] at d2
    have hlen := hx.lenT
    have o1 := ord_call (wrongL x) y hy (by have := tw.len; omega) x.trials.length (by omega) (by omega)
    rw [inc_ord _ _ 0 _ (by omega) (Int.le_refl _) tw.inc] at o1
    have hT := turn_call n ((2 ^ x.trials.length : Nat) : Int) (by omega)
    obtain ⟨r1, r2⟩ := turn_range n ((2 ^ x.trials.length : Nat) : Int) (by omega)
    obtain ⟨s, hs'⟩ := Int.eq_ofNat_of_zero_le r1
    rw [hs'] at hT r2
    have hs2 : s < 2 ^ x.trials.length := by omega
    obtain ⟨z, hz, d3⟩ := bits_call s (by omega) x.trials.length (by omega)
    have hzp := hz.pur
    have hblen := bits_len s x.trials.length
    have d4 := without_call x hx (by omega) (wrongL x) (by have := tw.len; omega) y hy
    have d5 := without_call x hx (by omega) (bitsL s x.trials.length) (by omega) z hz
    obtain ⟨k1, k2⟩ := keep_sub (wrongL x) x.trials 0
    obtain ⟨k3, k4⟩ := keep_sub (bitsL s x.trials.length) x.trials 0
    have d6 := Right_call _ (having_ok hx (keepT (wrongL x) x.trials 0) (by omega))
    have d7 := Right_call _ (having_ok hx (keepT (bitsL s x.trials.length) x.trials 0) (by omega))
    rw [keep_check hc _ k1 k2, keep_fine, tw.fine] at d6
    rw [keep_check hc _ k3 k4, keep_fine] at d7
    have d8 := shorter_call (bitsL s x.trials.length) (wrongL x) z y hz hy (by omega) (by have := tw.len; omega)
    have hl := tw.least s hs2
    have hwn := wrong_nil hc
    have hemp : ((((wrongL x).length : Int)) == 0) = fine x [] := by
      rw [Bool.eq_iff_iff, ← hwn, ← List.length_eq_zero_iff]; simp
    obtain ⟨B1, T1, e1, hB1, hT1, hpB1, hpT1⟩ := book_av (x.having (keepT (wrongL x) x.trials 0))
    obtain ⟨B2, T2, e2, hB2, hT2, hpB2, hpT2⟩ := book_av (x.having (keepT (bitsL s x.trials.length) x.trials 0))
    rw [e1] at d4 d6
    rw [e2] at d5 d7
    generalize (x.having (keepT (wrongL x) x.trials 0)).weeks = W1 at *
    generalize (x.having (keepT (bitsL s x.trials.length) x.trials 0)).weeks = W2 at *
    clear tw k1 k2 k3 k4 e1 e2 hwn
    have hyl' : lenA y = some (I (wrongL x).length) := by rw [hyl]; simp [ints]
    generalize ((wrongL x).length : Int) = lw at *
    generalize fine x (bitsL s x.trials.length) = f2 at *
    generalize shorterL (bitsL s x.trials.length) (wrongL x) = sh at *
    generalize fine x [] = f0 at *
    simp only [Book.av, Book.cells, Bool.and_self, if_true, Bool.true_and] at hsm d1 d2 d4 d5 d6 d7
    have hsh : IntKind.wrap .i64 ((2 : Int) ^ min x.trials.length (IntKind.bits .i64)) = ((2 ^ x.trials.length : Nat) : Int) := by
      have : min x.trials.length (IntKind.bits .i64) = x.trials.length := by
        show min _ 64 = _
        omega
      rw [this, show ((2 : Int) ^ x.trials.length) = ((2 ^ x.trials.length : Nat) : Int) from by norm_cast]
      exact wrap_small (by omega) (by omega)
    generalize 2 ^ x.trials.length = P at *
    have hneg : ¬ (x.trials.length : Int) < 0 := by omega
    rw [call_run comp13 (Nat.le_of_ble_eq_true rfl)]
    simp +contextual (maxSteps := 10000000) [-List.getD, -List.replicate, -ev, -wantedA, -retsA, -retA, -mask, -List.getD_eq_getElem?_getD, -putA, -opsA_cons, -opsA_nil, -oneA, -condA, -putR, -operA, -thenA_nm, -thenA_rt, -thenA_ex, -blockA_nm, -blockA_rt, -blockA_ex, -nmA, -condC_bool, -againA, -endA, -purR, -pur, -purAll, -depth, -pureA_call, -call_none, -pureCallA, -backA, mkE_set, mkE_len, gt_hit, gt_miss, gt_none, ev_tmp, ev_cst, rets_nil, rets_val, rets_cell, mask_none, mask_some, argL, st_nil, st_op, st_gd, st_gn, pick_b, gate_t, gate_f, gate_u, gate_i, putR_s, putR_n, th_nm, th_rt, th_ex, bl_nm, bl_rt, bl_ex, nm_some, cond_bool, ag_nm, ag_rt, ag_ex, en_nm, en_rt, retA_one, retA_two, retA_three, wrap_small, purR_some, th_if, bl_if, ag_if, en_if, pr_if, dp, pa_nil, pa_cons, pu_int, pu_bool, pu_str, pu_any, pu_undef, pu_nils, pu_nilm, pu_nilp, pu_nilf, pu_sl, pu_mapv, pu_rp, pu_agg, pu_tup, pu_wsl, pu_mp, pu_fn, pu_yld, pu_box, pu_if, ca_none, pc_some, ba_f, ba_t, op_mov, op_pick, op_bld, op_bsl, op_load, op_nck, op_bin, op_beq, op_eqa, op_eqn, op_neg, op_lnot, op_conv, op_mkf, op_slc, op_arr, op_fad, op_fld, op_ixa, op_ixs, op_ixv, op_lkp, op_ext, op_len, op_lenc, op_mn, op_mx, op_alloc, op_box, op_store, op_mkm, op_mks, op_mput, op_ment, op_esto, op_app, op_call, code13, Book.av, Book.cells, hsm, hs, d1, d2, d3, d4, d5, d6, d7, d8, hyl', hyp, hzp, hlen, o1, hemp, hneg, hsh, hT, hB1, hT1, hpB1, hpT1, hB2, hT2, hpB2, hpT2]
    cases f2 <;> cases sh <;> simp_all
end Go.Ai

set_option maxRecDepth 100000
set_option linter.unusedSimpArgs false
set_option linter.unusedVariables false
namespace Go.Ai
/-! ## One trial more -/
theorem more_tru {x : Book} {t : Trial} {i : Nat} {v : Vo} (h : Tru (x.more t) i v) : Tru x i v := by
  obtain ⟨b, hb, h1, h2⟩ := h
  refine ⟨b, hb, h1, ?_⟩
  rw [right_iff] at h2 ⊢
  intro j u hu
  exact h2 j u (by
    have hlt : j < x.trials.length := (List.getElem?_eq_some_iff.1 hu).1
    show (x.trials ++ [t])[j]? = some u
    rw [List.getElem?_append_left hlt]; exact hu)
theorem more_fine {x : Book} {t : Trial} (h : fine (x.more t) [] = true) : fine x [] = true := by
  rw [fine_iff] at h ⊢
  intro i hi
  obtain ⟨v, hv⟩ := h i hi
  exact ⟨v, more_tru hv⟩
theorem more_check {x : Book} {t : Trial} (hc : checkOk x = true) (hl : x.trials.length < 6) : checkOk (x.more t) = trialOk x t := by
  have g := good_of hc
  have e : (x.more t).trials.all (trialOk (x.more t)) = trialOk x t := by
    have e1 : (x.more t).trials = x.trials ++ [t] := rfl
    have e2 : trialOk (x.more t) = trialOk x := rfl
    rw [e1, e2, List.all_append, g.tr]
    simp
  have e1 : (x.more t).trials.length = x.trials.length + 1 := by simp [Book.more]
  rw [checkOk] at hc ⊢
  rw [e, e1]
  simp only [Bool.and_eq_true, decide_eq_true_eq] at hc
  have q1 : decide (1 ≤ ((x.more t).boys.length : Int)) = true := decide_eq_true hc.1.1.1.1.1
  have q2 : decide (((x.more t).boys.length : Int) ≤ 4) = true := decide_eq_true hc.1.1.1.1.2
  have q3 : (decide (1 ≤ (x.more t).weeks) && decide ((x.more t).weeks ≤ 6)) = true := by simp only [Bool.and_eq_true, decide_eq_true_eq]; exact hc.1.1.1.2
  have q4 : decide (((x.trials.length + 1 : Nat) : Int) ≤ 6) = true := by simp; omega
  have q5 : (x.more t).boys.all boyOk = true := g.boys
  rw [q1, q2, q3, q4, q5]
  simp
set_option maxHeartbeats 4000000 in
theorem more_law (x : Book) (hx : x.Ok) (t : Trial) (n0 n1 n2 : Int) : call Cv 8 [x.av, t.av, .agg [I n0, I n1, I n2]] = some (.bool true) := by
  have hsm := small_call x hx
  have hs := sung_call
  have hlen := hx.lenT
  cases hc : checkOk x with
  | false =>
    rw [hc] at hsm
    simp only [Book.av, Book.cells] at hsm
    rw [call_run comp8 (Nat.le_of_ble_eq_true rfl)]
    simp (maxSteps := 10000000) [-List.getD, -List.replicate, -ev, -wantedA, -retsA, -retA, -mask, -List.getD_eq_getElem?_getD, -putA, -opsA_cons, -opsA_nil, -oneA, -condA, -putR, -operA, -thenA_nm, -thenA_rt, -thenA_ex, -blockA_nm, -blockA_rt, -blockA_ex, -nmA, -condC_bool, -againA, -endA, -purR, -pur, -purAll, -depth, -pureA_call, -call_none, -pureCallA, -backA, mkE_set, mkE_len, gt_hit, gt_miss, gt_none, ev_tmp, ev_cst, rets_nil, rets_val, rets_cell, mask_none, mask_some, argL, st_nil, st_op, st_gd, st_gn, pick_b, gate_t, gate_f, gate_u, gate_i, putR_s, putR_n, th_nm, th_rt, th_ex, bl_nm, bl_rt, bl_ex, nm_some, cond_bool, ag_nm, ag_rt, ag_ex, en_nm, en_rt, retA_one, retA_two, retA_three, wrap_small, purR_some, th_if, bl_if, ag_if, en_if, pr_if, dp, pa_nil, pa_cons, pu_int, pu_bool, pu_str, pu_any, pu_undef, pu_nils, pu_nilm, pu_nilp, pu_nilf, pu_sl, pu_mapv, pu_rp, pu_agg, pu_tup, pu_wsl, pu_mp, pu_fn, pu_yld, pu_box, pu_if, ca_none, pc_some, ba_f, ba_t, op_mov, op_pick, op_bld, op_bsl, op_load, op_nck, op_bin, op_beq, op_eqa, op_eqn, op_neg, op_lnot, op_conv, op_mkf, op_slc, op_arr, op_fad, op_fld, op_ixa, op_ixs, op_ixv, op_lkp, op_ext, op_len, op_lenc, op_mn, op_mx, op_alloc, op_box, op_store, op_mkm, op_mks, op_mput, op_ment, op_esto, op_app, op_call, code8, Book.av, Book.cells, Trial.av, hsm, hs]
  | true =>
    rw [hc] at hsm
    have g := good_of hc
    by_cases hl6 : x.trials.length = 6
    · have hl6' : (x.trials.length : Int) = 6 := by omega
      simp only [Book.av, Book.cells] at hsm
      rw [call_run comp8 (Nat.le_of_ble_eq_true rfl)]
      simp (maxSteps := 10000000) [-List.getD, -List.replicate, -ev, -wantedA, -retsA, -retA, -mask, -List.getD_eq_getElem?_getD, -putA, -opsA_cons, -opsA_nil, -oneA, -condA, -putR, -operA, -thenA_nm, -thenA_rt, -thenA_ex, -blockA_nm, -blockA_rt, -blockA_ex, -nmA, -condC_bool, -againA, -endA, -purR, -pur, -purAll, -depth, -pureA_call, -call_none, -pureCallA, -backA, mkE_set, mkE_len, gt_hit, gt_miss, gt_none, ev_tmp, ev_cst, rets_nil, rets_val, rets_cell, mask_none, mask_some, argL, st_nil, st_op, st_gd, st_gn, pick_b, gate_t, gate_f, gate_u, gate_i, putR_s, putR_n, th_nm, th_rt, th_ex, bl_nm, bl_rt, bl_ex, nm_some, cond_bool, ag_nm, ag_rt, ag_ex, en_nm, en_rt, retA_one, retA_two, retA_three, wrap_small, purR_some, th_if, bl_if, ag_if, en_if, pr_if, dp, pa_nil, pa_cons, pu_int, pu_bool, pu_str, pu_any, pu_undef, pu_nils, pu_nilm, pu_nilp, pu_nilf, pu_sl, pu_mapv, pu_rp, pu_agg, pu_tup, pu_wsl, pu_mp, pu_fn, pu_yld, pu_box, pu_if, ca_none, pc_some, ba_f, ba_t, op_mov, op_pick, op_bld, op_bsl, op_load, op_nck, op_bin, op_beq, op_eqa, op_eqn, op_neg, op_lnot, op_conv, op_mkf, op_slc, op_arr, op_fad, op_fld, op_ixa, op_ixs, op_ixv, op_lkp, op_ext, op_len, op_lenc, op_mn, op_mx, op_alloc, op_box, op_store, op_mkm, op_mks, op_mput, op_ment, op_esto, op_app, op_call, code8, Book.av, Book.cells, Trial.av, hsm, hs, hlen, hl6']
    · have hl6' : ¬ (x.trials.length : Int) = 6 := by omega
      have hl : x.trials.length < 6 := by have := g.tl; omega
      obtain ⟨y, y1, y2, y3, y4, y5, d1⟩ := with_call x hx t (by omega)
      have hy : y = x.more t := by cases y; cases x; simp_all [Book.more]
      subst hy
      have hm := Book.more_ok hx (by omega) t
      have d2 := Fits_call x hx t
      have d3 := Right_call (x.more t) hm
      rw [more_check hc hl] at d3
      have hb0 : (x.more t).boys = x.boys := rfl
      have hw0 : (x.more t).weeks = x.weeks := rfl
      cases ht : trialOk x t with
      | false =>
        have e1 : askE x false = 21 := by simp [askE, hc]
        have e2 : fitsB x t = false := by simp [fitsB, ht, e1]
        rw [ht, e1, e2] at d2
        rw [ht] at d3
        obtain ⟨B1, T1, ea, hB1, hT1, hpB1, hpT1⟩ := book_av (x.more t)
        rw [ea] at d1 d3
        simp only [Book.av, Book.cells, Trial.av, Bool.false_and] at hsm d1 d2 d3
        rw [call_run comp8 (Nat.le_of_ble_eq_true rfl)]
        simp (maxSteps := 10000000) [-List.getD, -List.replicate, -ev, -wantedA, -retsA, -retA, -mask, -List.getD_eq_getElem?_getD, -putA, -opsA_cons, -opsA_nil, -oneA, -condA, -putR, -operA, -thenA_nm, -thenA_rt, -thenA_ex, -blockA_nm, -blockA_rt, -blockA_ex, -nmA, -condC_bool, -againA, -endA, -purR, -pur, -purAll, -depth, -pureA_call, -call_none, -pureCallA, -backA, mkE_set, mkE_len, gt_hit, gt_miss, gt_none, ev_tmp, ev_cst, rets_nil, rets_val, rets_cell, mask_none, mask_some, argL, st_nil, st_op, st_gd, st_gn, pick_b, gate_t, gate_f, gate_u, gate_i, putR_s, putR_n, th_nm, th_rt, th_ex, bl_nm, bl_rt, bl_ex, nm_some, cond_bool, ag_nm, ag_rt, ag_ex, en_nm, en_rt, retA_one, retA_two, retA_three, wrap_small, purR_some, th_if, bl_if, ag_if, en_if, pr_if, dp, pa_nil, pa_cons, pu_int, pu_bool, pu_str, pu_any, pu_undef, pu_nils, pu_nilm, pu_nilp, pu_nilf, pu_sl, pu_mapv, pu_rp, pu_agg, pu_tup, pu_wsl, pu_mp, pu_fn, pu_yld, pu_box, pu_if, ca_none, pc_some, ba_f, ba_t, op_mov, op_pick, op_bld, op_bsl, op_load, op_nck, op_bin, op_beq, op_eqa, op_eqn, op_neg, op_lnot, op_conv, op_mkf, op_slc, op_arr, op_fad, op_fld, op_ixa, op_ixs, op_ixv, op_lkp, op_ext, op_len, op_lenc, op_mn, op_mx, op_alloc, op_box, op_store, op_mkm, op_mks, op_mput, op_ment, op_esto, op_app, op_call, code8, Book.av, Book.cells, Trial.av, hsm, hs, hlen, hl6', d1, d2, d3, hB1, hT1, hpB1, hpT1]
      | true =>
        have hcm : checkOk (x.more t) = true := by rw [more_check hc hl, ht]
        rw [ht] at d2 d3
        cases hf : fine (x.more t) [] with
        | false =>
          rw [hf] at d3
          have e3 : fitsB x t = false := by simp [fitsB, hf]
          rw [e3] at d2
          have hae : askE x true = 0 ∨ askE x true = 22 := by rw [ask_fine hc]; split <;> simp
          generalize askE x true = e at *
          obtain ⟨B1, T1, ea, hB1, hT1, hpB1, hpT1⟩ := book_av (x.more t)
          rw [ea] at d1 d3
          simp only [Book.av, Book.cells, Trial.av, Bool.and_false] at hsm d1 d2 d3
          rcases hae with rfl | rfl
          · rw [call_run comp8 (Nat.le_of_ble_eq_true rfl)]
            simp (maxSteps := 10000000) [-List.getD, -List.replicate, -ev, -wantedA, -retsA, -retA, -mask, -List.getD_eq_getElem?_getD, -putA, -opsA_cons, -opsA_nil, -oneA, -condA, -putR, -operA, -thenA_nm, -thenA_rt, -thenA_ex, -blockA_nm, -blockA_rt, -blockA_ex, -nmA, -condC_bool, -againA, -endA, -purR, -pur, -purAll, -depth, -pureA_call, -call_none, -pureCallA, -backA, mkE_set, mkE_len, gt_hit, gt_miss, gt_none, ev_tmp, ev_cst, rets_nil, rets_val, rets_cell, mask_none, mask_some, argL, st_nil, st_op, st_gd, st_gn, pick_b, gate_t, gate_f, gate_u, gate_i, putR_s, putR_n, th_nm, th_rt, th_ex, bl_nm, bl_rt, bl_ex, nm_some, cond_bool, ag_nm, ag_rt, ag_ex, en_nm, en_rt, retA_one, retA_two, retA_three, wrap_small, purR_some, th_if, bl_if, ag_if, en_if, pr_if, dp, pa_nil, pa_cons, pu_int, pu_bool, pu_str, pu_any, pu_undef, pu_nils, pu_nilm, pu_nilp, pu_nilf, pu_sl, pu_mapv, pu_rp, pu_agg, pu_tup, pu_wsl, pu_mp, pu_fn, pu_yld, pu_box, pu_if, ca_none, pc_some, ba_f, ba_t, op_mov, op_pick, op_bld, op_bsl, op_load, op_nck, op_bin, op_beq, op_eqa, op_eqn, op_neg, op_lnot, op_conv, op_mkf, op_slc, op_arr, op_fad, op_fld, op_ixa, op_ixs, op_ixv, op_lkp, op_ext, op_len, op_lenc, op_mn, op_mx, op_alloc, op_box, op_store, op_mkm, op_mks, op_mput, op_ment, op_esto, op_app, op_call, code8, Book.av, Book.cells, Trial.av, hsm, hs, hlen, hl6', d1, d2, d3, hB1, hT1, hpB1, hpT1]
          · rw [call_run comp8 (Nat.le_of_ble_eq_true rfl)]
            simp (maxSteps := 10000000) [-List.getD, -List.replicate, -ev, -wantedA, -retsA, -retA, -mask, -List.getD_eq_getElem?_getD, -putA, -opsA_cons, -opsA_nil, -oneA, -condA, -putR, -operA, -thenA_nm, -thenA_rt, -thenA_ex, -blockA_nm, -blockA_rt, -blockA_ex, -nmA, -condC_bool, -againA, -endA, -purR, -pur, -purAll, -depth, -pureA_call, -call_none, -pureCallA, -backA, mkE_set, mkE_len, gt_hit, gt_miss, gt_none, ev_tmp, ev_cst, rets_nil, rets_val, rets_cell, mask_none, mask_some, argL, st_nil, st_op, st_gd, st_gn, pick_b, gate_t, gate_f, gate_u, gate_i, putR_s, putR_n, th_nm, th_rt, th_ex, bl_nm, bl_rt, bl_ex, nm_some, cond_bool, ag_nm, ag_rt, ag_ex, en_nm, en_rt, retA_one, retA_two, retA_three, wrap_small, purR_some, th_if, bl_if, ag_if, en_if, pr_if, dp, pa_nil, pa_cons, pu_int, pu_bool, pu_str, pu_any, pu_undef, pu_nils, pu_nilm, pu_nilp, pu_nilf, pu_sl, pu_mapv, pu_rp, pu_agg, pu_tup, pu_wsl, pu_mp, pu_fn, pu_yld, pu_box, pu_if, ca_none, pc_some, ba_f, ba_t, op_mov, op_pick, op_bld, op_bsl, op_load, op_nck, op_bin, op_beq, op_eqa, op_eqn, op_neg, op_lnot, op_conv, op_mkf, op_slc, op_arr, op_fad, op_fld, op_ixa, op_ixs, op_ixv, op_lkp, op_ext, op_len, op_lenc, op_mn, op_mx, op_alloc, op_box, op_store, op_mkm, op_mks, op_mput, op_ment, op_esto, op_app, op_call, code8, Book.av, Book.cells, Trial.av, hsm, hs, hlen, hl6', d1, d2, d3, hB1, hT1, hpB1, hpT1]
        | true =>
          rw [hf] at d3
          have hfx := more_fine hf
          have e3 : askE x true = 0 := by rw [ask_fine hc, if_pos hfx]
          have e4 : fitsB x t = true := by simp [fitsB, ht, e3, hf]
          rw [e3, e4] at d2
          obtain ⟨i, w, b, h, t0, t1⟩ := at_of hx hc n0 n1
          have h' : At (x.more t) i w b := ⟨hm, hcm, h.boy, h.week⟩
          obtain ⟨hn, hn0, hn1⟩ := note_of n2
          have c0 := h.callB n0 t0
          have c1 := h.callW n1 t1
          have c2 := turn_call n2 41 (by omega)
          generalize turnI n2 41 = n at *
          have hrow := h.row
          obtain ⟨s1, l1, e1⟩ := h.lowest hfx
          obtain ⟨s2, l2, e2⟩ := h'.lowest hf
          obtain ⟨s3, l3, e5⟩ := h.breaks hfx
          obtain ⟨s4, l4, e6⟩ := h'.breaks hf
          obtain ⟨k, l5, ek, k2, k0⟩ := h.sings hfx n hn
          obtain ⟨m, l6, em, m2, m0⟩ := h'.sings hf n hn
          obtain ⟨s5, f5, l7, e7⟩ := h.highest hfx
          obtain ⟨s6, f6, l8, e8⟩ := h'.highest hf
          have l9 := h.must hfx
          have l10 := h'.must hf
          have u1 := und_call s2 s1
          have u2 := und_call s4 s3
          have u3 := und_call s6 s5
          have q1 := e2.sub e1 fun v hv => more_tru hv
          have q2 := e6.sub e5 fun v hv => more_tru hv
          rw [show undB s2 s1 = true from by simp only [undB, Bool.and_eq_true, decide_eq_true_eq]; exact q1] at u1
          rw [show undB s4 s3 = true from by simp only [undB, Bool.and_eq_true, decide_eq_true_eq]; exact q2] at u2
          have hkm : k ≠ 1 → m = k := fun hk => by
            have : k = 0 ∨ k = 2 := by omega
            rcases this with rfl | rfl
            · exact m0.2 fun v hv => k0.1 rfl v (more_tru hv)
            · exact m2.2 fun v hv => k2.1 rfl v (more_tru hv)
          have hf5 : f5 = 0 ∨ f5 = 4 := by rcases e7 with ⟨rfl, _⟩ | ⟨rfl, _⟩ <;> simp
          have hf6 : f6 = 0 ∨ f6 = 4 := by rcases e8 with ⟨rfl, _⟩ | ⟨rfl, _⟩ <;> simp
          have hf56 : f6 = 0 → f5 = 0 ∧ undB s6 s5 = true := fun h0 => by
            rcases e8 with ⟨h4, _⟩ | ⟨_, e8⟩
            · omega
            · rcases e7 with ⟨h4, _, e7⟩ | ⟨h0', e7⟩
              · obtain ⟨v, ⟨hv, hv'⟩, _⟩ := e8.least
                have := e7 v (more_tru hv)
                omega
              · refine ⟨h0', ?_⟩
                have := e8.sub e7 fun v hv => ⟨more_tru hv.1, hv.2⟩
                simp only [undB, Bool.and_eq_true, decide_eq_true_eq]; exact this
          have hbl4 := g.bl
          have z1 := sel_len (brokenP x w) x.boys.length 0
          have z2 := sel_len (brokenP (x.more t) w) x.boys.length 0
          change call Cv 31 _ = some (.tup [fullV (sel (brokenP (x.more t) w) 0 x.boys.length), I 0]) at l10
          obtain ⟨g1, g2⟩ := gather_call (sel (brokenP x w) 0 x.boys.length) _ (fullV_row _) (by omega)
          obtain ⟨g3, g4⟩ := gather_call (sel (brokenP (x.more t) w) 0 x.boys.length) _ (fullV_row _) (by omega)
          have hsub := gat_sub g1 g3 fun j hj => by
            rw [sel_iff] at hj ⊢
            have hb' : x.boys[j]? = some x.boys[j] := List.getElem?_eq_getElem hj.1
            have hj' : At x j w x.boys[j] := ⟨hx, hc, hb', h.week⟩
            have hj2 : At (x.more t) j w x.boys[j] := ⟨hm, hcm, hb', h.week⟩
            exact ⟨hj.1, hj2.broken.2 fun v hv => hj'.broken.1 hj.2 v (more_tru hv)⟩
          have b1 := mod_nat g1
          have b2 := mod_nat g3
          rw [b2] at hsub
          have p1 := (fullV_row (sel (brokenP x w) 0 x.boys.length)).pur
          have p2 := (fullV_row (sel (brokenP (x.more t) w) 0 x.boys.length)).pur
          generalize fullV (sel (brokenP x w) 0 x.boys.length) = r1 at *
          generalize fullV (sel (brokenP (x.more t) w) 0 x.boys.length) = r2 at *
          generalize gatN 0 (sel (brokenP x w) 0 x.boys.length) = G1 at *
          generalize gatN 0 (sel (brokenP (x.more t) w) 0 x.boys.length) = G2 at *
          generalize undB s6 s5 = u at *
          obtain ⟨B1, T1, ea, hB1, hT1, hpB1, hpT1⟩ := book_av (x.more t)
          rw [ea] at d1 d3 l2 l4 l6 l8 l10
          simp only [Book.av, Book.cells, Trial.av, Bool.and_self, hrow, Span.av] at hsm d1 d2 d3 l1 l2 l3 l4 l5 l6 l7 l8 l9 l10 u1 u2 u3
          clear e1 e2 e5 e6 k2 k0 m2 m0 e7 e8 z1 z2 ea h h'
          obtain ⟨a1, ha1⟩ : ∃ q, (k != 1) = q := ⟨_, rfl⟩
          obtain ⟨a2, ha2⟩ : ∃ q, (m != k) = q := ⟨_, rfl⟩
          obtain ⟨a3, ha3⟩ : ∃ q, (f6 != 0) = q := ⟨_, rfl⟩
          obtain ⟨a4, ha4⟩ : ∃ q, (f6 != 4) = q := ⟨_, rfl⟩
          obtain ⟨a5, ha5⟩ : ∃ q, (f6 == 0) = q := ⟨_, rfl⟩
          obtain ⟨a6, ha6⟩ : ∃ q, (f5 != 0) = q := ⟨_, rfl⟩
          rw [call_run comp8 (Nat.le_of_ble_eq_true rfl)]
          simp +contextual (maxSteps := 10000000) [-List.getD, -List.replicate, -ev, -wantedA, -retsA, -retA, -mask, -List.getD_eq_getElem?_getD, -putA, -opsA_cons, -opsA_nil, -oneA, -condA, -putR, -operA, -thenA_nm, -thenA_rt, -thenA_ex, -blockA_nm, -blockA_rt, -blockA_ex, -nmA, -condC_bool, -againA, -endA, -purR, -pur, -purAll, -depth, -pureA_call, -call_none, -pureCallA, -backA, mkE_set, mkE_len, gt_hit, gt_miss, gt_none, ev_tmp, ev_cst, rets_nil, rets_val, rets_cell, mask_none, mask_some, argL, st_nil, st_op, st_gd, st_gn, pick_b, gate_t, gate_f, gate_u, gate_i, putR_s, putR_n, th_nm, th_rt, th_ex, bl_nm, bl_rt, bl_ex, nm_some, cond_bool, ag_nm, ag_rt, ag_ex, en_nm, en_rt, retA_one, retA_two, retA_three, wrap_small, purR_some, th_if, bl_if, ag_if, en_if, pr_if, dp, pa_nil, pa_cons, pu_int, pu_bool, pu_str, pu_any, pu_undef, pu_nils, pu_nilm, pu_nilp, pu_nilf, pu_sl, pu_mapv, pu_rp, pu_agg, pu_tup, pu_wsl, pu_mp, pu_fn, pu_yld, pu_box, pu_if, ca_none, pc_some, ba_f, ba_t, op_mov, op_pick, op_bld, op_bsl, op_load, op_nck, op_bin, op_beq, op_eqa, op_eqn, op_neg, op_lnot, op_conv, op_mkf, op_slc, op_arr, op_fad, op_fld, op_ixa, op_ixs, op_ixv, op_lkp, op_ext, op_len, op_lenc, op_mn, op_mx, op_alloc, op_box, op_store, op_mkm, op_mks, op_mput, op_ment, op_esto, op_app, op_call, code8, Book.av, Book.cells, Trial.av, Span.av, hrow, hlen, hsm, hs, hl6', d1, d2, d3, hB1, hT1, hpB1, hpT1, c0, c1, c2, l1, l2, l3, l4, l5, l6, l7, l8, l9, l10, u1, u2, u3, g2, g4, b1, b2, hsub, p1, p2, ha1, ha2, ha3, ha4, ha5, ha6]
          subst ha1 ha2 ha3 ha4 ha5 ha6
          rw [if_neg, if_neg]
          · simp only [bne_iff_ne, beq_iff_eq]
            rintro (⟨h1, h2⟩ | ⟨h1, h2 | h2⟩)
            · rcases hf6 with h | h
              · exact h1 h
              · exact h2 h
            · exact h2 (hf56 h1).1
            · rw [(hf56 h1).2] at h2; cases h2
          · simp only [bne_iff_ne]
            rintro ⟨h1, h2⟩
            exact h2 (hkm h1)
end Go.Ai

set_option maxRecDepth 100000
set_option linter.unusedSimpArgs false
set_option linter.unusedVariables false
namespace Go.Ai
/-! ## The trials of one boy alone -/
def ownT (i : Nat) (l : List Trial) : List Trial := l.filter fun t => decide (t.boy = i)
def head9 (i w n k : Int) : Env := mkE 186 .any [(9, I k), (8, .box 2 0), (7, I n), (6, I w), (5, I i), (2, .box 0 0)]
def exit9 (x : Book) (i w n k : Int) : Env := mkE 186 .any [(46, .bool false), (45, I k), (44, rowV 4 (x.trials.map Trial.av) x.tnil), (43, .box 0 2), (42, I k), (9, I k), (8, .box 2 0), (7, I n), (6, I w), (5, I i), (2, .box 0 0)]
def st9 (x : Book) (n0 n1 n2 : Int) (ts : List Trial) : St := { boxes := [x.cells, [I n0, I n1, I n2], [x.boysV, I x.weeks, tsV ts]], chains := tsCh ts }
theorem round9 (x : Book) (hx : x.Ok) (hT : x.trials.length < 1000) (n0 n1 n2 : Int) (i : Nat) (w n : Int) (k : Nat) (t : Trial) (ht : x.trials[k]? = some t) (ts : List Trial) (hts : ts.length ≤ k) :
    run Cv 9 (.loop keep9_0 body9_0) (head9 i w n k) (st9 x n0 n1 n2 ts) = run Cv 9 (.loop keep9_0 body9_0) (head9 i w n (k + 1)) (st9 x n0 n1 n2 (ts ++ if t.boy = i then [t] else [])) := by
  have hlt : k < x.trials.length := (List.getElem?_eq_some_iff.1 ht).1
  have htt : x.trials[k] = t := (List.getElem?_eq_some_iff.1 ht).2
  have hlen := hx.lenT
  have hn : x.tnil ≠ .nil := fun hn => by rw [hx.trials hn] at hlt; simp at hlt
  have hrow : rowV 4 (x.trials.map Trial.av) x.tnil = .sl 4 (x.trials.map Trial.av) x.tnil.cap := rowV_some hn
  have hw : IntKind.wrap .i64 ((k : Int) + 1) = k + 1 := wrap_small (by omega) (by omega)
  have hby : (ts.length + 1) * 32 ≤ 140737488355328 := by omega
  rw [run_loop]
  generalize MC.loop keep9_0 body9_0 = L
  by_cases hm : t.boy = i
  · by_cases hoo : ts = []
    · simp (maxSteps := 10000000) [-List.getD, -List.replicate, -ev, -wantedA, -retsA, -retA, -mask, -List.getD_eq_getElem?_getD, -putA, -opsA_cons, -opsA_nil, -oneA, -condA, -putR, -operA, -thenA_nm, -thenA_rt, -thenA_ex, -blockA_nm, -blockA_rt, -blockA_ex, -nmA, -condC_bool, -againA, -endA, -purR, -pur, -purAll, -depth, -pureA_call, -call_none, -pureCallA, -backA, mkE_set, mkE_len, gt_hit, gt_miss, gt_none, ev_tmp, ev_cst, rets_nil, rets_val, rets_cell, mask_none, mask_some, argL, st_nil, st_op, st_gd, st_gn, all_E, pick_b, gate_t, gate_f, gate_u, gate_i, putR_s, putR_n, th_nm, th_rt, th_ex, bl_nm, bl_rt, bl_ex, nm_some, cond_bool, ag_nm, ag_rt, ag_ex, en_nm, en_rt, retA_one, retA_two, retA_three, wrap_small, purR_some, th_if, bl_if, ag_if, en_if, pr_if, dp, pa_nil, pa_cons, pu_int, pu_bool, pu_str, pu_any, pu_undef, pu_nils, pu_nilm, pu_nilp, pu_nilf, pu_sl, pu_mapv, pu_rp, pu_agg, pu_tup, pu_wsl, pu_mp, pu_fn, pu_yld, pu_box, pu_if, ca_none, pc_some, ba_f, ba_t, op_mov, op_pick, op_bld, op_bsl, op_load, op_nck, op_bin, op_beq, op_eqa, op_eqn, op_neg, op_lnot, op_conv, op_mkf, op_slc, op_arr, op_fad, op_fld, op_ixa, op_ixs, op_ixv, op_lkp, op_ext, op_len, op_lenc, op_mn, op_mx, op_alloc, op_box, op_store, op_mkm, op_mks, op_mput, op_ment, op_esto, op_app, op_call, body9_0, keep9_0, head9, st9, Book.cells, Book.boysV, hlen, hlt, htt, hrow, hm, hw, under, tsV, tsCh, hoo, Trial.av, fillE, AV.isAgg, appA, elemsA, grown]
    · simp (maxSteps := 10000000) [-List.getD, -List.replicate, -ev, -wantedA, -retsA, -retA, -mask, -List.getD_eq_getElem?_getD, -putA, -opsA_cons, -opsA_nil, -oneA, -condA, -putR, -operA, -thenA_nm, -thenA_rt, -thenA_ex, -blockA_nm, -blockA_rt, -blockA_ex, -nmA, -condC_bool, -againA, -endA, -purR, -pur, -purAll, -depth, -pureA_call, -call_none, -pureCallA, -backA, mkE_set, mkE_len, gt_hit, gt_miss, gt_none, ev_tmp, ev_cst, rets_nil, rets_val, rets_cell, mask_none, mask_some, argL, st_nil, st_op, st_gd, st_gn, all_E, pick_b, gate_t, gate_f, gate_u, gate_i, putR_s, putR_n, th_nm, th_rt, th_ex, bl_nm, bl_rt, bl_ex, nm_some, cond_bool, ag_nm, ag_rt, ag_ex, en_nm, en_rt, retA_one, retA_two, retA_three, wrap_small, purR_some, th_if, bl_if, ag_if, en_if, pr_if, dp, pa_nil, pa_cons, pu_int, pu_bool, pu_str, pu_any, pu_undef, pu_nils, pu_nilm, pu_nilp, pu_nilf, pu_sl, pu_mapv, pu_rp, pu_agg, pu_tup, pu_wsl, pu_mp, pu_fn, pu_yld, pu_box, pu_if, ca_none, pc_some, ba_f, ba_t, op_mov, op_pick, op_bld, op_bsl, op_load, op_nck, op_bin, op_beq, op_eqa, op_eqn, op_neg, op_lnot, op_conv, op_mkf, op_slc, op_arr, op_fad, op_fld, op_ixa, op_ixs, op_ixv, op_lkp, op_ext, op_len, op_lenc, op_mn, op_mx, op_alloc, op_box, op_store, op_mkm, op_mks, op_mput, op_ment, op_esto, op_app, op_call, body9_0, keep9_0, head9, st9, Book.cells, Book.boysV, hlen, hlt, htt, hrow, hm, hw, under, tsV, tsCh, hoo, Trial.av, fillE, AV.isAgg, appA, elemsA, grown, hby]
  · have hm' : (t.boy == (i : Int)) = false := by simp [hm]
    simp (maxSteps := 10000000) [-List.getD, -List.replicate, -ev, -wantedA, -retsA, -retA, -mask, -List.getD_eq_getElem?_getD, -putA, -opsA_cons, -opsA_nil, -oneA, -condA, -putR, -operA, -thenA_nm, -thenA_rt, -thenA_ex, -blockA_nm, -blockA_rt, -blockA_ex, -nmA, -condC_bool, -againA, -endA, -purR, -pur, -purAll, -depth, -pureA_call, -call_none, -pureCallA, -backA, mkE_set, mkE_len, gt_hit, gt_miss, gt_none, ev_tmp, ev_cst, rets_nil, rets_val, rets_cell, mask_none, mask_some, argL, st_nil, st_op, st_gd, st_gn, all_E, pick_b, gate_t, gate_f, gate_u, gate_i, putR_s, putR_n, th_nm, th_rt, th_ex, bl_nm, bl_rt, bl_ex, nm_some, cond_bool, ag_nm, ag_rt, ag_ex, en_nm, en_rt, retA_one, retA_two, retA_three, wrap_small, purR_some, th_if, bl_if, ag_if, en_if, pr_if, dp, pa_nil, pa_cons, pu_int, pu_bool, pu_str, pu_any, pu_undef, pu_nils, pu_nilm, pu_nilp, pu_nilf, pu_sl, pu_mapv, pu_rp, pu_agg, pu_tup, pu_wsl, pu_mp, pu_fn, pu_yld, pu_box, pu_if, ca_none, pc_some, ba_f, ba_t, op_mov, op_pick, op_bld, op_bsl, op_load, op_nck, op_bin, op_beq, op_eqa, op_eqn, op_neg, op_lnot, op_conv, op_mkf, op_slc, op_arr, op_fad, op_fld, op_ixa, op_ixs, op_ixv, op_lkp, op_ext, op_len, op_lenc, op_mn, op_mx, op_alloc, op_box, op_store, op_mkm, op_mks, op_mput, op_ment, op_esto, op_app, op_call, body9_0, keep9_0, head9, st9, Book.cells, Book.boysV, hlen, hlt, htt, hrow, hm, hm', hw, under, tsV, tsCh, Trial.av]
theorem loop9 (x : Book) (hx : x.Ok) (hT : x.trials.length < 1000) (n0 n1 n2 : Int) (i : Nat) (w n : Int) : ∀ (m : List Trial) (k : Nat) (ts : List Trial), k ≤ x.trials.length → x.trials.drop k = m → ts.length ≤ k →
    run Cv 9 (.loop keep9_0 body9_0) (head9 i w n k) (st9 x n0 n1 n2 ts) = some (.ex 0, exit9 x i w n x.trials.length, st9 x n0 n1 n2 (ts ++ ownT i m))
  | [], k, ts, hk, h, hts => by
    have : k = x.trials.length := Nat.le_antisymm hk (by simpa using h)
    subst this
    have hlen := hx.lenT
    rw [run_loop]
    simp (maxSteps := 10000000) [-List.getD, -List.replicate, -ev, -wantedA, -retsA, -retA, -mask, -List.getD_eq_getElem?_getD, -putA, -opsA_cons, -opsA_nil, -oneA, -condA, -putR, -operA, -thenA_nm, -thenA_rt, -thenA_ex, -blockA_nm, -blockA_rt, -blockA_ex, -nmA, -condC_bool, -againA, -endA, -purR, -pur, -purAll, -depth, -pureA_call, -call_none, -pureCallA, -backA, mkE_set, mkE_len, gt_hit, gt_miss, gt_none, ev_tmp, ev_cst, rets_nil, rets_val, rets_cell, mask_none, mask_some, argL, st_nil, st_op, st_gd, st_gn, all_E, pick_b, gate_t, gate_f, gate_u, gate_i, putR_s, putR_n, th_nm, th_rt, th_ex, bl_nm, bl_rt, bl_ex, nm_some, cond_bool, ag_nm, ag_rt, ag_ex, en_nm, en_rt, retA_one, retA_two, retA_three, wrap_small, purR_some, th_if, bl_if, ag_if, en_if, pr_if, dp, pa_nil, pa_cons, pu_int, pu_bool, pu_str, pu_any, pu_undef, pu_nils, pu_nilm, pu_nilp, pu_nilf, pu_sl, pu_mapv, pu_rp, pu_agg, pu_tup, pu_wsl, pu_mp, pu_fn, pu_yld, pu_box, pu_if, ca_none, pc_some, ba_f, ba_t, op_mov, op_pick, op_bld, op_bsl, op_load, op_nck, op_bin, op_beq, op_eqa, op_eqn, op_neg, op_lnot, op_conv, op_mkf, op_slc, op_arr, op_fad, op_fld, op_ixa, op_ixs, op_ixv, op_lkp, op_ext, op_len, op_lenc, op_mn, op_mx, op_alloc, op_box, op_store, op_mkm, op_mks, op_mput, op_ment, op_esto, op_app, op_call, body9_0, keep9_0, head9, exit9, st9, Book.cells, hlen, ownT]
  | t :: m, k, ts, hk, h, hts => by
    have hb' : x.trials[k]? = some t := by
      have : (x.trials.drop k)[0]? = some t := by rw [h]; rfl
      simpa using this
    have hlt : k < x.trials.length := (List.getElem?_eq_some_iff.1 hb').1
    rw [round9 x hx hT n0 n1 n2 i w n k t hb' ts hts]
    have := loop9 x hx hT n0 n1 n2 i w n m (k + 1) (ts ++ if t.boy = i then [t] else []) hlt (by rw [← List.drop_drop, h]; rfl) (by split <;> simp <;> omega)
    rw [Int.natCast_add, Int.natCast_one] at this
    rw [this, List.append_assoc]
    congr 4
    by_cases hm : t.boy = i
    · simp [ownT, hm]
    · simp [ownT, hm]
theorem own_right (loss : Int) (v : Vo) (i : Nat) : ∀ (l : List Trial) (k j : Nat), rightFrom loss v i [] (ownT i l) j = rightFrom loss v i [] l k
  | [], _, _ => rfl
  | t :: l, k, j => by
    by_cases h : t.boy = i
    · have : ownT i (t :: l) = t :: ownT i l := by simp [ownT, h]
      rw [this, rightFrom, rightFrom, own_right loss v i l (k + 1) (j + 1)]
      simp [badT]
    · have : ownT i (t :: l) = ownT i l := by simp [ownT, h]
      rw [this, rightFrom, own_right loss v i l (k + 1) j]
      simp [badT, h]
theorem own_tru {x : Book} {i : Nat} {v : Vo} : Tru (x.having (ownT i x.trials)) i v ↔ Tru x i v := by
  constructor
  · rintro ⟨b, hb, h1, h2⟩
    exact ⟨b, hb, h1, by rw [← own_right b.loss v i x.trials 0 0]; exact h2⟩
  · rintro ⟨b, hb, h1, h2⟩
    exact ⟨b, hb, h1, by rw [← own_right b.loss v i x.trials 0 0] at h2; exact h2⟩
theorem own_tru' {x : Book} {i j : Nat} (hj : j ≠ i) {v : Vo} (h : Tru x j v) : Tru (x.having (ownT i x.trials)) j v := by
  obtain ⟨b, hb, h1, h2⟩ := h
  refine ⟨b, hb, h1, ?_⟩
  rw [right_iff]
  intro q t ht hq
  have : t ∈ ownT i x.trials := List.mem_of_getElem? ht
  simp only [ownT, List.mem_filter, decide_eq_true_eq] at this
  omega
theorem own_fine {x : Book} {i : Nat} (h : fine x [] = true) : fine (x.having (ownT i x.trials)) [] = true := by
  rw [fine_iff] at h ⊢
  intro j hj
  obtain ⟨v, hv⟩ := h j hj
  by_cases hji : j = i
  · subst hji; exact ⟨v, own_tru.2 hv⟩
  · exact ⟨v, own_tru' hji hv⟩
set_option maxHeartbeats 4000000 in
theorem apart_law (x : Book) (hx : x.Ok) (n0 n1 n2 : Int) : call Cv 9 [x.av, .agg [I n0, I n1, I n2]] = some (.bool true) := by
  have hsm := small_call x hx
  have hs := sung_call
  have hlen := hx.lenT
  cases hc : checkOk x with
  | false =>
    rw [hc] at hsm
    simp only [Book.av, Book.cells] at hsm
    rw [call_run comp9 (Nat.le_of_ble_eq_true rfl)]
    simp (maxSteps := 10000000) [-List.getD, -List.replicate, -ev, -wantedA, -retsA, -retA, -mask, -List.getD_eq_getElem?_getD, -putA, -opsA_cons, -opsA_nil, -oneA, -condA, -putR, -operA, -thenA_nm, -thenA_rt, -thenA_ex, -blockA_nm, -blockA_rt, -blockA_ex, -nmA, -condC_bool, -againA, -endA, -purR, -pur, -purAll, -depth, -pureA_call, -call_none, -pureCallA, -backA, mkE_set, mkE_len, gt_hit, gt_miss, gt_none, ev_tmp, ev_cst, rets_nil, rets_val, rets_cell, mask_none, mask_some, argL, st_nil, st_op, st_gd, st_gn, all_E, pick_b, gate_t, gate_f, gate_u, gate_i, putR_s, putR_n, th_nm, th_rt, th_ex, bl_nm, bl_rt, bl_ex, nm_some, cond_bool, ag_nm, ag_rt, ag_ex, en_nm, en_rt, retA_one, retA_two, retA_three, wrap_small, purR_some, th_if, bl_if, ag_if, en_if, pr_if, dp, pa_nil, pa_cons, pu_int, pu_bool, pu_str, pu_any, pu_undef, pu_nils, pu_nilm, pu_nilp, pu_nilf, pu_sl, pu_mapv, pu_rp, pu_agg, pu_tup, pu_wsl, pu_mp, pu_fn, pu_yld, pu_box, pu_if, ca_none, pc_some, ba_f, ba_t, op_mov, op_pick, op_bld, op_bsl, op_load, op_nck, op_bin, op_beq, op_eqa, op_eqn, op_neg, op_lnot, op_conv, op_mkf, op_slc, op_arr, op_fad, op_fld, op_ixa, op_ixs, op_ixv, op_lkp, op_ext, op_len, op_lenc, op_mn, op_mx, op_alloc, op_box, op_store, op_mkm, op_mks, op_mput, op_ment, op_esto, op_app, op_call, code9, Book.av, Book.cells, hsm, hs]
  | true =>
    rw [hc] at hsm
    have g := good_of hc
    have htl := g.tl
    obtain ⟨i, w, b, h, t0, t1⟩ := at_of hx hc n0 n1
    obtain ⟨hn, hn0, hn1⟩ := note_of n2
    have c0 := h.callB n0 t0
    have c1 := h.callW n1 t1
    have c2 := turn_call n2 41 (by omega)
    generalize turnI n2 41 = n at *
    have hrow := h.row
    have hfl : (ownT i x.trials).length ≤ x.trials.length := List.length_filter_le _ _
    have hm := having_ok hx (ownT i x.trials) (by omega)
    have hcm := keep_check hc (ownT i x.trials) (fun t ht => (List.mem_filter.1 ht).1) hfl
    have d1 := Right_call x hx
    have d2 := Right_call _ hm
    rw [hc] at d1
    rw [hcm] at d2
    have lp := loop9 x hx (by omega) n0 n1 n2 i w n x.trials 0 [] (Nat.zero_le _) rfl (Nat.le_refl _)
    have lp' : ∀ E : Env, mask keep9_0 E = head9 i w n 0 → run Cv 9 (.loop keep9_0 body9_0) E (st9 x n0 n1 n2 []) = some (.ex 0, exit9 x i w n x.trials.length, st9 x n0 n1 n2 (ownT i x.trials)) := fun E hE => by
      rw [run_loop_mask, hE]; exact lp
    clear lp
    have hp := tsV_pur (ownT i x.trials)
    have hcl := tsV_cell (ownT i x.trials)
    simp only [keep9_0, head9, exit9, st9, tsV, tsCh, if_true, Book.cells, Book.boysV, hrow] at lp'
    simp only [tsV] at hp hcl
    have hmav : (x.having (ownT i x.trials)).av = .agg [rowV 11 (x.boys.map Boy.av) x.bnil, I x.weeks, rowV 4 ((ownT i x.trials).map Trial.av) (if ownT i x.trials = [] then .nil else .no)] := rfl
    cases hf : fine x [] with
    | false =>
      rw [hf] at d1
      rw [hmav] at d2
      generalize fine (x.having (ownT i x.trials)) [] = f2 at *
      simp only [Book.av, Book.cells, hrow, Bool.and_false, Bool.true_and] at hsm d1 d2
      rw [call_run comp9 (Nat.le_of_ble_eq_true rfl)]
      simp +contextual (maxSteps := 10000000) [-List.getD, -List.replicate, -ev, -wantedA, -retsA, -retA, -mask, -List.getD_eq_getElem?_getD, -putA, -opsA_cons, -opsA_nil, -oneA, -condA, -putR, -operA, -thenA_nm, -thenA_rt, -thenA_ex, -blockA_nm, -blockA_rt, -blockA_ex, -nmA, -condC_bool, -againA, -endA, -purR, -pur, -purAll, -depth, -pureA_call, -call_none, -pureCallA, -backA, mkE_set, mkE_len, gt_hit, gt_miss, gt_none, ev_tmp, ev_cst, rets_nil, rets_val, rets_cell, mask_none, mask_some, argL, st_nil, st_op, st_gd, st_gn, all_E, pick_b, gate_t, gate_f, gate_u, gate_i, putR_s, putR_n, th_nm, th_rt, th_ex, bl_nm, bl_rt, bl_ex, nm_some, cond_bool, ag_nm, ag_rt, ag_ex, en_nm, en_rt, retA_one, retA_two, retA_three, wrap_small, purR_some, th_if, bl_if, ag_if, en_if, pr_if, dp, pa_nil, pa_cons, pu_int, pu_bool, pu_str, pu_any, pu_undef, pu_nils, pu_nilm, pu_nilp, pu_nilf, pu_sl, pu_mapv, pu_rp, pu_agg, pu_tup, pu_wsl, pu_mp, pu_fn, pu_yld, pu_box, pu_if, ca_none, pc_some, ba_f, ba_t, op_mov, op_pick, op_bld, op_bsl, op_load, op_nck, op_bin, op_beq, op_eqa, op_eqn, op_neg, op_lnot, op_conv, op_mkf, op_slc, op_arr, op_fad, op_fld, op_ixa, op_ixs, op_ixv, op_lkp, op_ext, op_len, op_lenc, op_mn, op_mx, op_alloc, op_box, op_store, op_mkm, op_mks, op_mput, op_ment, op_esto, op_app, op_call, code9, keep9_0, Book.av, Book.cells, hrow, hsm, hs, c0, c1, c2, lp', hp, hcl, d1, d2]
    | true =>
      have hf' := own_fine (i := i) hf
      rw [hf] at d1
      rw [hf'] at d2
      have h' : At (x.having (ownT i x.trials)) i w b := ⟨hm, hcm, h.boy, h.week⟩
      obtain ⟨s1, l1, e1⟩ := h.lowest hf
      obtain ⟨s2, l2, e2⟩ := h'.lowest hf'
      obtain ⟨s3, l3, e3⟩ := h.breaks hf
      obtain ⟨s4, l4, e4⟩ := h'.breaks hf'
      obtain ⟨s5, f5, l5, e5⟩ := h.highest hf
      obtain ⟨s6, f6, l6, e6⟩ := h'.highest hf'
      obtain ⟨k, l7, ek, k2, k0⟩ := h.sings hf n hn
      obtain ⟨m, l8, em, m2, m0⟩ := h'.sings hf' n hn
      obtain rfl : s1 = s2 := e1.uniq (e2.congr (fun v => own_tru) fun _ _ => rfl)
      obtain rfl : s3 = s4 := e3.uniq (e4.congr (fun v => own_tru) fun _ _ => rfl)
      have hkm : k = m := by
        simp only [own_tru] at m2 m0
        rw [← k2] at m2
        rw [← k0] at m0
        omega
      subst hkm
      obtain ⟨rfl, rfl⟩ : s5 = s6 ∧ f5 = f6 := by
        rcases e5 with ⟨rfl, rfl, e5⟩ | ⟨rfl, e5⟩
        · rcases e6 with ⟨rfl, rfl, e6⟩ | ⟨rfl, e6⟩
          · exact ⟨rfl, rfl⟩
          · obtain ⟨v, ⟨hv, hv'⟩, _⟩ := e6.least
            have := e5 v (own_tru.1 hv)
            omega
        · rcases e6 with ⟨rfl, rfl, e6⟩ | ⟨rfl, e6⟩
          · obtain ⟨v, ⟨hv, hv'⟩, _⟩ := e5.least
            have := e6 v (own_tru.2 hv)
            omega
          · exact ⟨e5.uniq (e6.congr (fun v => by rw [own_tru]) fun _ _ => rfl), rfl⟩
      rw [hmav] at d2 l2 l4 l6 l8
      simp only [Book.av, Book.cells, hrow, Span.av, Bool.and_self] at hsm d1 d2 l1 l2 l3 l4 l5 l6 l7 l8
      rw [call_run comp9 (Nat.le_of_ble_eq_true rfl)]
      simp +contextual (maxSteps := 10000000) [-List.getD, -List.replicate, -ev, -wantedA, -retsA, -retA, -mask, -List.getD_eq_getElem?_getD, -putA, -opsA_cons, -opsA_nil, -oneA, -condA, -putR, -operA, -thenA_nm, -thenA_rt, -thenA_ex, -blockA_nm, -blockA_rt, -blockA_ex, -nmA, -condC_bool, -againA, -endA, -purR, -pur, -purAll, -depth, -pureA_call, -call_none, -pureCallA, -backA, mkE_set, mkE_len, gt_hit, gt_miss, gt_none, ev_tmp, ev_cst, rets_nil, rets_val, rets_cell, mask_none, mask_some, argL, st_nil, st_op, st_gd, st_gn, all_E, pick_b, gate_t, gate_f, gate_u, gate_i, putR_s, putR_n, th_nm, th_rt, th_ex, bl_nm, bl_rt, bl_ex, nm_some, cond_bool, ag_nm, ag_rt, ag_ex, en_nm, en_rt, retA_one, retA_two, retA_three, wrap_small, purR_some, th_if, bl_if, ag_if, en_if, pr_if, dp, pa_nil, pa_cons, pu_int, pu_bool, pu_str, pu_any, pu_undef, pu_nils, pu_nilm, pu_nilp, pu_nilf, pu_sl, pu_mapv, pu_rp, pu_agg, pu_tup, pu_wsl, pu_mp, pu_fn, pu_yld, pu_box, pu_if, ca_none, pc_some, ba_f, ba_t, op_mov, op_pick, op_bld, op_bsl, op_load, op_nck, op_bin, op_beq, op_eqa, op_eqn, op_neg, op_lnot, op_conv, op_mkf, op_slc, op_arr, op_fad, op_fld, op_ixa, op_ixs, op_ixv, op_lkp, op_ext, op_len, op_lenc, op_mn, op_mx, op_alloc, op_box, op_store, op_mkm, op_mks, op_mput, op_ment, op_esto, op_app, op_call, code9, keep9_0, Book.av, Book.cells, Span.av, hrow, hsm, hs, c0, c1, c2, lp', hp, hcl, d1, d2, l1, l2, l3, l4, l5, l6, l7, l8, eqCells]
end Go.Ai

set_option maxRecDepth 100000
set_option linter.unusedSimpArgs false
set_option linter.unusedVariables false
namespace Go.Ai
/-! ## Who can sing all of some notes -/
def ableN (x : Book) (w : Int) : Nat → Int → Nat → Nat
  | 0, _, a => a
  | n + 1, note, a => ableN x w n (note + 1) (a &&& gatN 0 (sel (surelyP x w note) 0 x.boys.length))
theorem ableN_lt (x : Book) (w : Int) : ∀ (n : Nat) (note : Int) (a : Nat), a < 2 ^ 62 → ableN x w n note a < 2 ^ 62
  | 0, _, _, h => h
  | n + 1, note, a, h => ableN_lt x w n _ _ (Nat.lt_of_le_of_lt Nat.and_le_left h)
theorem ableN_bit (x : Book) (w : Int) (j : Nat) (hj : j < x.boys.length) (h62 : j < 62) : ∀ (n : Nat) (note : Int) (a : Nat), (ableN x w n note a).testBit j = (a.testBit j && allNotes x w j n note)
  | 0, _, _ => by simp [ableN, allNotes]
  | n + 1, note, a => by
    rw [ableN, ableN_bit x w j hj h62 n, Nat.testBit_and, gatN_bit _ _ _ h62, allNotes, Nat.zero_testBit, Bool.false_or]
    have : decide ((j : Int) ∈ sel (surelyP x w note) 0 x.boys.length) = surelyP x w note j := by
      rw [Bool.eq_iff_iff, decide_eq_true_eq, sel_iff]
      simp [hj]
    rw [this, Bool.and_assoc]
theorem heir_sel (q p : Nat → Bool) (boy : Int) : ∀ (n k : Nat), (∀ j, k ≤ j → j < k + n → (p j = true ↔ ((j : Int) ≠ boy ∧ q j = true))) → (match heirFrom q boy k n with
    | some h => ∃ t, sel p k n = (h : Int) :: t
    | none => sel p k n = [])
  | 0, _, _ => rfl
  | n + 1, k, hp => by
    have h1 := hp k (Nat.le_refl _) (by omega)
    have ih := heir_sel q p boy n (k + 1) fun j hj hj' => hp j (by omega) (by omega)
    rw [heirFrom, sel]
    by_cases h : p k = true
    · rw [if_pos (h1.1 h), if_pos h]
      exact ⟨_, rfl⟩
    · rw [if_neg (mt h1.2 h), if_neg h]
      simpa using ih
def head10 (i w e v a k : Int) : Env := mkE 128 .any [(12, I k), (11, I a), (10, I e), (9, I v), (8, .box 2 0), (6, I w), (5, I i), (2, .box 0 0)]
def exit10 (i w e v a k h : Int) : Env := mkE 128 .any [(60, .bool false), (59, I h), (58, .box 2 1), (57, I k), (12, I k), (11, I a), (10, I e), (9, I v), (8, .box 2 0), (6, I w), (5, I i), (2, .box 0 0)]
def st10 (x : Book) (n0 n1 n2 n3 : Int) (s : Span) : St := { boxes := [x.cells, [I n0, I n1, I n2, I n3], [I s.low, I s.high]] }
theorem and_fact {a b : Nat} (ha : a < 2 ^ 62) : IntKind.wrap .i64 ((a &&& b : Nat) : Int) = ((a &&& b : Nat) : Int) := by
  have : a &&& b ≤ a := Nat.and_le_left
  exact wrap_small (by omega) (by omega)
theorem loop10 (x : Book) (hx : x.Ok) (hc : checkOk x = true) (hf : fine x [] = true) (n0 n1 n2 n3 : Int) (s : Span) (hs0 : 0 ≤ s.low) (hs : s.high ≤ 40) (i w : Nat) (b : Boy) (h : At x i w b) (e v : Int) : ∀ (n : Nat) (k : Int) (a : Nat), k + n = s.high + 1 → s.low ≤ k → a < 2 ^ 62 →
    run Cv 10 (.loop keep10_0 body10_0) (head10 i w e v a k) (st10 x n0 n1 n2 n3 s) = some (.ex 0, exit10 i w e v (ableN x w n k a) (s.high + 1) s.high, st10 x n0 n1 n2 n3 s)
  | 0, k, a, hk, hl, ha => by
    have : k = s.high + 1 := by omega
    subst this
    have h1 : ¬ s.high + 1 ≤ s.high := by omega
    rw [run_loop]
    simp (maxSteps := 10000000) [-List.getD, -List.replicate, -ev, -wantedA, -retsA, -retA, -mask, -List.getD_eq_getElem?_getD, -putA, -opsA_cons, -opsA_nil, -oneA, -condA, -putR, -operA, -thenA_nm, -thenA_rt, -thenA_ex, -blockA_nm, -blockA_rt, -blockA_ex, -nmA, -condC_bool, -againA, -endA, -purR, -pur, -purAll, -depth, -pureA_call, -call_none, -pureCallA, -backA, mkE_set, mkE_len, gt_hit, gt_miss, gt_none, ev_tmp, ev_cst, rets_nil, rets_val, rets_cell, mask_none, mask_some, argL, st_nil, st_op, st_gd, st_gn, all_E, pick_b, gate_t, gate_f, gate_u, gate_i, putR_s, putR_n, th_nm, th_rt, th_ex, bl_nm, bl_rt, bl_ex, nm_some, cond_bool, ag_nm, ag_rt, ag_ex, en_nm, en_rt, retA_one, retA_two, retA_three, wrap_small, purR_some, th_if, bl_if, ag_if, en_if, pr_if, dp, pa_nil, pa_cons, pu_int, pu_bool, pu_str, pu_any, pu_undef, pu_nils, pu_nilm, pu_nilp, pu_nilf, pu_sl, pu_mapv, pu_rp, pu_agg, pu_tup, pu_wsl, pu_mp, pu_fn, pu_yld, pu_box, pu_if, ca_none, pc_some, ba_f, ba_t, op_mov, op_pick, op_bld, op_bsl, op_load, op_nck, op_bin, op_beq, op_eqa, op_eqn, op_neg, op_lnot, op_conv, op_mkf, op_slc, op_arr, op_fad, op_fld, op_ixa, op_ixs, op_ixv, op_lkp, op_ext, op_len, op_lenc, op_mn, op_mx, op_alloc, op_box, op_store, op_mkm, op_mks, op_mput, op_ment, op_esto, op_app, op_call, body10_0, keep10_0, head10, exit10, st10, h1, ableN]
  | n + 1, k, a, hk, hl, ha => by
    have h1 : k ≤ s.high := by omega
    have hn : isNoteB k = true := by simp [isNoteB]; omega
    have hw : IntKind.wrap .i64 (k + 1) = k + 1 := wrap_small (by omega) (by omega)
    have d := h.sure hf k hn
    have hbl4 := (good_of hc).bl
    have hrow := h.row
    have l1 := sel_len (surelyP x w k) x.boys.length 0
    have o1 := ord_call (sel (surelyP x w k) 0 x.boys.length) _ (fullV_row _) (by omega) x.boys.length (by omega) (by omega)
    rw [ordF_sel _ _ _ _ _ (by omega) (by omega)] at o1
    have p1 := (fullV_row (sel (surelyP x w k) 0 x.boys.length)).pur
    obtain ⟨g1, g2⟩ := gather_call (sel (surelyP x w k) 0 x.boys.length) _ (fullV_row _) (by omega)
    have b1 := mod_nat ha
    have b2 := mod_nat g1
    have b3 := and_fact (b := gatN 0 (sel (surelyP x w k) 0 x.boys.length)) ha
    have ih := loop10 x hx hc hf n0 n1 n2 n3 s hs0 hs i w b h e v n (k + 1) (a &&& gatN 0 (sel (surelyP x w k) 0 x.boys.length)) (by omega) (by omega) (Nat.lt_of_le_of_lt Nat.and_le_left ha)
    rw [ableN]
    rw [← ih]
    clear ih
    have u1 := (fullV_row (sel (surelyP x w k) 0 x.boys.length)).under
    generalize fullV (sel (surelyP x w k) 0 x.boys.length) = r1 at *
    generalize gatN 0 (sel (surelyP x w k) 0 x.boys.length) = G1 at *
    simp only [Book.av, Book.cells, hrow] at d
    rw [run_loop]
    generalize MC.loop keep10_0 body10_0 = L
    simp (maxSteps := 10000000) [-List.getD, -List.replicate, -ev, -wantedA, -retsA, -retA, -mask, -List.getD_eq_getElem?_getD, -putA, -opsA_cons, -opsA_nil, -oneA, -condA, -putR, -operA, -thenA_nm, -thenA_rt, -thenA_ex, -blockA_nm, -blockA_rt, -blockA_ex, -nmA, -condC_bool, -againA, -endA, -purR, -pur, -purAll, -depth, -pureA_call, -call_none, -pureCallA, -backA, mkE_set, mkE_len, gt_hit, gt_miss, gt_none, ev_tmp, ev_cst, rets_nil, rets_val, rets_cell, mask_none, mask_some, argL, st_nil, st_op, st_gd, st_gn, all_E, pick_b, gate_t, gate_f, gate_u, gate_i, putR_s, putR_n, th_nm, th_rt, th_ex, bl_nm, bl_rt, bl_ex, nm_some, cond_bool, ag_nm, ag_rt, ag_ex, en_nm, en_rt, retA_one, retA_two, retA_three, wrap_small, purR_some, th_if, bl_if, ag_if, en_if, pr_if, dp, pa_nil, pa_cons, pu_int, pu_bool, pu_str, pu_any, pu_undef, pu_nils, pu_nilm, pu_nilp, pu_nilf, pu_sl, pu_mapv, pu_rp, pu_agg, pu_tup, pu_wsl, pu_mp, pu_fn, pu_yld, pu_box, pu_if, ca_none, pc_some, ba_f, ba_t, op_mov, op_pick, op_bld, op_bsl, op_load, op_nck, op_bin, op_beq, op_eqa, op_eqn, op_neg, op_lnot, op_conv, op_mkf, op_slc, op_arr, op_fad, op_fld, op_ixa, op_ixs, op_ixv, op_lkp, op_ext, op_len, op_lenc, op_mn, op_mx, op_alloc, op_box, op_store, op_mkm, op_mks, op_mput, op_ment, op_esto, op_app, op_call, body10_0, keep10_0, head10, st10, Book.cells, Book.av, hrow, h1, hw, d, o1, p1, g2, b1, b2, b3, under]
set_option maxHeartbeats 4000000 in
theorem heir_law (x : Book) (hx : x.Ok) (n0 n1 n2 n3 : Int) : call Cv 10 [x.av, .agg [I n0, I n1, I n2, I n3]] = some (.bool true) := by
  have hsm := small_call x hx
  have hs := sung_call
  cases hc : checkOk x with
  | false =>
    rw [hc] at hsm
    simp only [Book.av, Book.cells] at hsm
    rw [call_run comp10 (Nat.le_of_ble_eq_true rfl)]
    simp (maxSteps := 10000000) [-List.getD, -List.replicate, -ev, -wantedA, -retsA, -retA, -mask, -List.getD_eq_getElem?_getD, -putA, -opsA_cons, -opsA_nil, -oneA, -condA, -putR, -operA, -thenA_nm, -thenA_rt, -thenA_ex, -blockA_nm, -blockA_rt, -blockA_ex, -nmA, -condC_bool, -againA, -endA, -purR, -pur, -purAll, -depth, -pureA_call, -call_none, -pureCallA, -backA, mkE_set, mkE_len, gt_hit, gt_miss, gt_none, ev_tmp, ev_cst, rets_nil, rets_val, rets_cell, mask_none, mask_some, argL, st_nil, st_op, st_gd, st_gn, all_E, pick_b, gate_t, gate_f, gate_u, gate_i, putR_s, putR_n, th_nm, th_rt, th_ex, bl_nm, bl_rt, bl_ex, nm_some, cond_bool, ag_nm, ag_rt, ag_ex, en_nm, en_rt, retA_one, retA_two, retA_three, wrap_small, purR_some, th_if, bl_if, ag_if, en_if, pr_if, dp, pa_nil, pa_cons, pu_int, pu_bool, pu_str, pu_any, pu_undef, pu_nils, pu_nilm, pu_nilp, pu_nilf, pu_sl, pu_mapv, pu_rp, pu_agg, pu_tup, pu_wsl, pu_mp, pu_fn, pu_yld, pu_box, pu_if, ca_none, pc_some, ba_f, ba_t, op_mov, op_pick, op_bld, op_bsl, op_load, op_nck, op_bin, op_beq, op_eqa, op_eqn, op_neg, op_lnot, op_conv, op_mkf, op_slc, op_arr, op_fad, op_fld, op_ixa, op_ixs, op_ixv, op_lkp, op_ext, op_len, op_lenc, op_mn, op_mx, op_alloc, op_box, op_store, op_mkm, op_mks, op_mput, op_ment, op_esto, op_app, op_call, code10, Book.av, Book.cells, hsm, hs]
  | true =>
    rw [hc] at hsm
    have g := good_of hc
    have hbl4 := g.bl
    obtain ⟨i, w, b, h, t0, t1⟩ := at_of hx hc n0 n1
    obtain ⟨hn, hn0, hn1⟩ := note_of n2
    have c0 := h.callB n0 t0
    have c1 := h.callW n1 t1
    have c2 := turn_call n2 41 (by omega)
    have c3 := turn_call n3 8 (by omega)
    obtain ⟨r1, r2⟩ := turn_range n3 8 (by omega)
    generalize turnI n2 41 = n at *
    generalize turnI n3 8 = q at *
    have hrow := h.row
    obtain ⟨top, htop⟩ : ∃ t, (if n + q < 40 then n + q else 40) = t := ⟨_, rfl⟩
    have htop1 : n ≤ top ∧ top ≤ 40 := by rw [← htop]; split <;> omega
    have w1 : IntKind.wrap .i64 (n + q) = n + q := wrap_small (by omega) (by omega)
    have hbd : call Cv 51 [I n, I top] = some (.agg [I n, I top]) := bounds_call n top
    have d1 := Heir_call x hx i w ⟨n, top⟩
    have hsp : spanOk ⟨n, top⟩ 40 40 = true := by
      have : IntKind.wrap .i64 (top - n) = top - n := wrap_small (by omega) (by omega)
      simp only [spanOk, this, Bool.and_eq_true, decide_eq_true_eq]
      omega
    have hq : (isBoyB x i && isWeekB x w && spanOk ⟨n, top⟩ 40 40) = true := by rw [h.isB, h.isW, hsp]; rfl
    obtain ⟨P, hP⟩ : ∃ P, 2 ^ x.boys.length = P := ⟨_, rfl⟩
    have hP1 : 1 ≤ P ∧ P ≤ 16 := by
      rw [← hP]
      exact ⟨Nat.one_le_two_pow, Nat.pow_le_pow_right (by decide) hbl4⟩
    have hsh : IntKind.wrap .i64 ((2 : Int) ^ min x.boys.length (IntKind.bits .i64)) = (P : Int) := by
      have : min x.boys.length (IntKind.bits .i64) = x.boys.length := by
        show min _ 64 = _
        omega
      rw [this, ← hP, show ((2 : Int) ^ x.boys.length) = ((2 ^ x.boys.length : Nat) : Int) from by norm_cast]
      exact wrap_small (by omega) (by omega)
    have hA : IntKind.wrap .i64 ((P : Int) - 1) = ((P - 1 : Nat) : Int) := by rw [wrap_small (by omega) (by omega)]; omega
    have hneg : ¬ (x.boys.length : Int) < 0 := by omega
    have hmn : min2 (I 40) (I (n + q)) = some (I top) := by simp only [min2, htop]
    have hil := h.lt
    cases hf : fine x [] with
    | false =>
      have d2 := h.sure' hf n hn
      have e1 : heirE x i w ⟨n, top⟩ = 22 := by simp only [heirE, hq, ask_fine hc, hf]; rfl
      have e2 : heirV x i w ⟨n, top⟩ = 0 := by simp only [heirV, hq, ask_fine hc, hf]; rfl
      rw [e1, e2] at d1
      simp only [Book.av, Book.cells, hrow, Span.av] at hsm d1 d2
      have lp : ∀ E : Env, mask keep10_0 E = head10 i w 22 0 ((P - 1 : Nat) : Int) n → ∃ e, run Cv 10 (.loop keep10_0 body10_0) E (st10 x n0 n1 n2 n3 ⟨n, top⟩) = some (.rt, e, st10 x n0 n1 n2 n3 ⟨n, top⟩) ∧ gt e 4 = .bool true := fun E hE => by
        rw [run_loop_mask, hE, run_loop]
        simp (maxSteps := 10000000) [-List.getD, -List.replicate, -ev, -wantedA, -retsA, -retA, -mask, -List.getD_eq_getElem?_getD, -putA, -opsA_cons, -opsA_nil, -oneA, -condA, -putR, -operA, -thenA_nm, -thenA_rt, -thenA_ex, -blockA_nm, -blockA_rt, -blockA_ex, -nmA, -condC_bool, -againA, -endA, -purR, -pur, -purAll, -depth, -pureA_call, -call_none, -pureCallA, -backA, mkE_set, mkE_len, gt_hit, gt_miss, gt_none, ev_tmp, ev_cst, rets_nil, rets_val, rets_cell, mask_none, mask_some, argL, st_nil, st_op, st_gd, st_gn, all_E, pick_b, gate_t, gate_f, gate_u, gate_i, putR_s, putR_n, th_nm, th_rt, th_ex, bl_nm, bl_rt, bl_ex, nm_some, cond_bool, ag_nm, ag_rt, ag_ex, en_nm, en_rt, retA_one, retA_two, retA_three, wrap_small, purR_some, th_if, bl_if, ag_if, en_if, pr_if, dp, pa_nil, pa_cons, pu_int, pu_bool, pu_str, pu_any, pu_undef, pu_nils, pu_nilm, pu_nilp, pu_nilf, pu_sl, pu_mapv, pu_rp, pu_agg, pu_tup, pu_wsl, pu_mp, pu_fn, pu_yld, pu_box, pu_if, ca_none, pc_some, ba_f, ba_t, op_mov, op_pick, op_bld, op_bsl, op_load, op_nck, op_bin, op_beq, op_eqa, op_eqn, op_neg, op_lnot, op_conv, op_mkf, op_slc, op_arr, op_fad, op_fld, op_ixa, op_ixs, op_ixv, op_lkp, op_ext, op_len, op_lenc, op_mn, op_mx, op_alloc, op_box, op_store, op_mkm, op_mks, op_mput, op_ment, op_esto, op_app, op_call, body10_0, keep10_0, head10, st10, Book.cells, Book.av, hrow, htop1, d2, hs]
      obtain ⟨E', hE', hE2⟩ := lp (head10 i w 22 0 ((P - 1 : Nat) : Int) n) (by simp (maxSteps := 10000000) [-List.getD, -List.replicate, -ev, -wantedA, -retsA, -retA, -mask, -List.getD_eq_getElem?_getD, -putA, -opsA_cons, -opsA_nil, -oneA, -condA, -putR, -operA, -thenA_nm, -thenA_rt, -thenA_ex, -blockA_nm, -blockA_rt, -blockA_ex, -nmA, -condC_bool, -againA, -endA, -purR, -pur, -purAll, -depth, -pureA_call, -call_none, -pureCallA, -backA, mkE_set, mkE_len, gt_hit, gt_miss, gt_none, ev_tmp, ev_cst, rets_nil, rets_val, rets_cell, mask_none, mask_some, argL, st_nil, st_op, st_gd, st_gn, all_E, pick_b, gate_t, gate_f, gate_u, gate_i, putR_s, putR_n, th_nm, th_rt, th_ex, bl_nm, bl_rt, bl_ex, nm_some, cond_bool, ag_nm, ag_rt, ag_ex, en_nm, en_rt, retA_one, retA_two, retA_three, wrap_small, purR_some, th_if, bl_if, ag_if, en_if, pr_if, dp, pa_nil, pa_cons, pu_int, pu_bool, pu_str, pu_any, pu_undef, pu_nils, pu_nilm, pu_nilp, pu_nilf, pu_sl, pu_mapv, pu_rp, pu_agg, pu_tup, pu_wsl, pu_mp, pu_fn, pu_yld, pu_box, pu_if, ca_none, pc_some, ba_f, ba_t, op_mov, op_pick, op_bld, op_bsl, op_load, op_nck, op_bin, op_beq, op_eqa, op_eqn, op_neg, op_lnot, op_conv, op_mkf, op_slc, op_arr, op_fad, op_fld, op_ixa, op_ixs, op_ixv, op_lkp, op_ext, op_len, op_lenc, op_mn, op_mx, op_alloc, op_box, op_store, op_mkm, op_mks, op_mput, op_ment, op_esto, op_app, op_call, keep10_0, head10])
      have lp' : ∀ E : Env, mask keep10_0 E = head10 i w 22 0 ((P - 1 : Nat) : Int) n → run Cv 10 (.loop keep10_0 body10_0) E (st10 x n0 n1 n2 n3 ⟨n, top⟩) = some (.rt, E', st10 x n0 n1 n2 n3 ⟨n, top⟩) := fun E hE => by
        rw [run_loop_mask, hE]; exact hE'
      clear hE' lp
      simp only [keep10_0, head10, st10, Book.cells, hrow] at lp'
      rw [call_run comp10 (Nat.le_of_ble_eq_true rfl)]
      simp (maxSteps := 10000000) [-List.getD, -List.replicate, -ev, -wantedA, -retsA, -retA, -mask, -List.getD_eq_getElem?_getD, -putA, -opsA_cons, -opsA_nil, -oneA, -condA, -putR, -operA, -thenA_nm, -thenA_rt, -thenA_ex, -blockA_nm, -blockA_rt, -blockA_ex, -nmA, -condC_bool, -againA, -endA, -purR, -pur, -purAll, -depth, -pureA_call, -call_none, -pureCallA, -backA, mkE_set, mkE_len, gt_hit, gt_miss, gt_none, ev_tmp, ev_cst, rets_nil, rets_val, rets_cell, mask_none, mask_some, argL, st_nil, st_op, st_gd, st_gn, all_E, pick_b, gate_t, gate_f, gate_u, gate_i, putR_s, putR_n, th_nm, th_rt, th_ex, bl_nm, bl_rt, bl_ex, nm_some, cond_bool, ag_nm, ag_rt, ag_ex, en_nm, en_rt, retA_one, retA_two, retA_three, wrap_small, purR_some, th_if, bl_if, ag_if, en_if, pr_if, dp, pa_nil, pa_cons, pu_int, pu_bool, pu_str, pu_any, pu_undef, pu_nils, pu_nilm, pu_nilp, pu_nilf, pu_sl, pu_mapv, pu_rp, pu_agg, pu_tup, pu_wsl, pu_mp, pu_fn, pu_yld, pu_box, pu_if, ca_none, pc_some, ba_f, ba_t, op_mov, op_pick, op_bld, op_bsl, op_load, op_nck, op_bin, op_beq, op_eqa, op_eqn, op_neg, op_lnot, op_conv, op_mkf, op_slc, op_arr, op_fad, op_fld, op_ixa, op_ixs, op_ixv, op_lkp, op_ext, op_len, op_lenc, op_mn, op_mx, op_alloc, op_box, op_store, op_mkm, op_mks, op_mput, op_ment, op_esto, op_app, op_call, code10, keep10_0, Book.av, Book.cells, hrow, hsm, hs, c0, c1, c2, c3, w1, foldA, hmn, hbd, d1, hsh, hA, hneg, lp', hE2]
    | true =>
      have lp := loop10 x hx hc hf n0 n1 n2 n3 ⟨n, top⟩ hn0 htop1.2 i w b h (heirE x i w ⟨n, top⟩) (heirV x i w ⟨n, top⟩) (top + 1 - n).toNat n (P - 1) (by show n + ((top + 1 - n).toNat : Int) = top + 1; omega) (Int.le_refl _) (by omega)
      have lp' : ∀ E : Env, mask keep10_0 E = head10 i w (heirE x i w ⟨n, top⟩) (heirV x i w ⟨n, top⟩) ((P - 1 : Nat) : Int) n → run Cv 10 (.loop keep10_0 body10_0) E (st10 x n0 n1 n2 n3 ⟨n, top⟩) = some (.ex 0, exit10 i w (heirE x i w ⟨n, top⟩) (heirV x i w ⟨n, top⟩) (ableN x w (top + 1 - n).toNat n (P - 1)) (top + 1) top, st10 x n0 n1 n2 n3 ⟨n, top⟩) := fun E hE => by
        rw [run_loop_mask, hE]; exact lp
      clear lp
      have ha := ableN_lt x w (top + 1 - n).toNat n (P - 1) (by omega)
      have hbit := fun j hj => ableN_bit x w j hj (by omega : j < 62) (top + 1 - n).toNat n (P - 1)
      have e1 : heirE x i w ⟨n, top⟩ = (match heirFrom (fun k => allNotes x w k (top + 1 - n).toNat n) i 0 x.boys.length with | some _ => 0 | none => 4) := by simp only [heirE, hq, ask_fine hc, hf, if_true]; cases heirFrom (fun k => allNotes x w k (top + 1 - n).toNat n) i 0 x.boys.length <;> rfl
      have e2 : heirV x i w ⟨n, top⟩ = (match heirFrom (fun k => allNotes x w k (top + 1 - n).toNat n) i 0 x.boys.length with | some h => (h : Int) | none => 0) := by simp only [heirV, hq, ask_fine hc, hf, if_true]; cases heirFrom (fun k => allNotes x w k (top + 1 - n).toNat n) i 0 x.boys.length <;> rfl
      rw [e1, e2] at lp' d1
      clear e1 e2
      generalize ableN x w (top + 1 - n).toNat n (P - 1) = A at *
      obtain ⟨Q, hQ⟩ : ∃ Q, 2 ^ i = Q := ⟨_, rfl⟩
      have hQ1 : 1 ≤ Q ∧ Q ≤ 8 := by
        rw [← hQ]
        have h3 : 2 ^ i ≤ 2 ^ 3 := Nat.pow_le_pow_right (by decide) (by omega)
        exact ⟨Nat.one_le_two_pow, h3⟩
      have hshQ : IntKind.wrap .i64 ((2 : Int) ^ min i (IntKind.bits .i64)) = (Q : Int) := by
        have : min i (IntKind.bits .i64) = i := by
          show min _ 64 = _
          omega
        rw [this, ← hQ, show ((2 : Int) ^ i) = ((2 ^ i : Nat) : Int) from by norm_cast]
        exact wrap_small (by omega) (by omega)
      have hnegQ : ¬ (i : Int) < 0 := by omega
      have b1 := mod_nat ha
      have b2 := mod_nat (m := Q) (by omega)
      obtain ⟨Z, hZ⟩ : ∃ Z, (A &&& 2 ^ IntKind.bits .i64 - 1 - Q) = Z := ⟨_, rfl⟩
      have hZ1 : Z ≤ A := by rw [← hZ]; exact Nat.and_le_left
      have w2 : IntKind.wrap .i64 (Z : Int) = Z := wrap_small (by omega) (by omega)
      obtain ⟨y, hy, d3⟩ := bits_call Z (by omega) x.boys.length (by omega)
      have hyp := hy.pur
      have hbits : ∀ j, 0 ≤ j → j < 0 + x.boys.length → ((fun j : Nat => hasB (Z : Int) (j : Int)) j = true ↔ ((j : Int) ≠ (i : Int) ∧ allNotes x w j (top + 1 - n).toNat n = true)) := fun j _ hj => by
        have h62 : (j : Int) < 62 := by omega
        have hZb : Z.testBit j = (A.testBit j && !decide (i = j)) := by
          rw [← hZ, Nat.testBit_and, show 2 ^ IntKind.bits .i64 - 1 - Q = 2 ^ 64 - (Q + 1) from by show 2 ^ 64 - 1 - Q = _; omega, Nat.testBit_two_pow_sub_succ (by omega), ← hQ, Nat.testBit_two_pow]
          have : j < 64 := by omega
          simp [this]
        have hP' : (P - 1).testBit j = true := by
          rw [← hP, Nat.testBit_two_pow_sub_one]; simp; omega
        simp only [hasB, Int.toNat_natCast, hZb, hbit j (by omega), hP', Bool.true_and, Bool.and_eq_true, decide_eq_true_eq, Bool.not_eq_true', decide_eq_false_iff_not]
        exact ⟨fun ⟨_, ha, hne⟩ => ⟨by omega, ha⟩, fun ⟨hne, ha⟩ => ⟨⟨by omega, h62⟩, ha, by omega⟩⟩
      have hsel := heir_sel (fun k => allNotes x w k (top + 1 - n).toNat n) (fun j : Nat => hasB (Z : Int) (j : Int)) i x.boys.length 0 hbits
      change match heirFrom _ _ _ _ with | some h => ∃ t, bitsL Z x.boys.length = (h : Int) :: t | none => bitsL Z x.boys.length = [] at hsel
      have hyl := hy.len
      simp only [Book.av, Book.cells, hrow, Span.av] at hsm d1
      cases hh : heirFrom (fun k => allNotes x w k (top + 1 - n).toNat n) i 0 x.boys.length with
      | none =>
        rw [hh] at hsel lp' d1
        simp only [] at hsel lp' d1
        rw [hsel] at hyl
        simp only [keep10_0, head10, exit10, st10, Book.cells, hrow] at lp'
        rw [call_run comp10 (Nat.le_of_ble_eq_true rfl)]
        simp (maxSteps := 10000000) [-List.getD, -List.replicate, -ev, -wantedA, -retsA, -retA, -mask, -List.getD_eq_getElem?_getD, -putA, -opsA_cons, -opsA_nil, -oneA, -condA, -putR, -operA, -thenA_nm, -thenA_rt, -thenA_ex, -blockA_nm, -blockA_rt, -blockA_ex, -nmA, -condC_bool, -againA, -endA, -purR, -pur, -purAll, -depth, -pureA_call, -call_none, -pureCallA, -backA, mkE_set, mkE_len, gt_hit, gt_miss, gt_none, ev_tmp, ev_cst, rets_nil, rets_val, rets_cell, mask_none, mask_some, argL, st_nil, st_op, st_gd, st_gn, all_E, pick_b, gate_t, gate_f, gate_u, gate_i, putR_s, putR_n, th_nm, th_rt, th_ex, bl_nm, bl_rt, bl_ex, nm_some, cond_bool, ag_nm, ag_rt, ag_ex, en_nm, en_rt, retA_one, retA_two, retA_three, wrap_small, purR_some, th_if, bl_if, ag_if, en_if, pr_if, dp, pa_nil, pa_cons, pu_int, pu_bool, pu_str, pu_any, pu_undef, pu_nils, pu_nilm, pu_nilp, pu_nilf, pu_sl, pu_mapv, pu_rp, pu_agg, pu_tup, pu_wsl, pu_mp, pu_fn, pu_yld, pu_box, pu_if, ca_none, pc_some, ba_f, ba_t, op_mov, op_pick, op_bld, op_bsl, op_load, op_nck, op_bin, op_beq, op_eqa, op_eqn, op_neg, op_lnot, op_conv, op_mkf, op_slc, op_arr, op_fad, op_fld, op_ixa, op_ixs, op_ixv, op_lkp, op_ext, op_len, op_lenc, op_mn, op_mx, op_alloc, op_box, op_store, op_mkm, op_mks, op_mput, op_ment, op_esto, op_app, op_call, code10, keep10_0, Book.av, Book.cells, hrow, hsm, hs, c0, c1, c2, c3, w1, foldA, hmn, hbd, d1, hsh, hA, hneg, lp', b1, b2, hshQ, hnegQ, hZ, w2, d3, hyp, hyl, ints]
      | some hb =>
        rw [hh] at hsel lp' d1
        simp only [] at hsel lp' d1
        obtain ⟨tl, htl⟩ := hsel
        rw [htl] at hyl hy
        obtain ⟨c, hcc, rfl⟩ := row_sl hy (by simp)
        have hne : ¬ ((tl.length : Int) + 1 = 0) := by omega
        simp only [keep10_0, head10, exit10, st10, Book.cells, hrow] at lp'
        rw [call_run comp10 (Nat.le_of_ble_eq_true rfl)]
        simp (maxSteps := 10000000) [-List.getD, -List.replicate, -ev, -wantedA, -retsA, -retA, -mask, -List.getD_eq_getElem?_getD, -putA, -opsA_cons, -opsA_nil, -oneA, -condA, -putR, -operA, -thenA_nm, -thenA_rt, -thenA_ex, -blockA_nm, -blockA_rt, -blockA_ex, -nmA, -condC_bool, -againA, -endA, -purR, -pur, -purAll, -depth, -pureA_call, -call_none, -pureCallA, -backA, mkE_set, mkE_len, gt_hit, gt_miss, gt_none, ev_tmp, ev_cst, rets_nil, rets_val, rets_cell, mask_none, mask_some, argL, st_nil, st_op, st_gd, st_gn, all_E, pick_b, gate_t, gate_f, gate_u, gate_i, putR_s, putR_n, th_nm, th_rt, th_ex, bl_nm, bl_rt, bl_ex, nm_some, cond_bool, ag_nm, ag_rt, ag_ex, en_nm, en_rt, retA_one, retA_two, retA_three, wrap_small, purR_some, th_if, bl_if, ag_if, en_if, pr_if, dp, pa_nil, pa_cons, pu_int, pu_bool, pu_str, pu_any, pu_undef, pu_nils, pu_nilm, pu_nilp, pu_nilf, pu_sl, pu_mapv, pu_rp, pu_agg, pu_tup, pu_wsl, pu_mp, pu_fn, pu_yld, pu_box, pu_if, ca_none, pc_some, ba_f, ba_t, op_mov, op_pick, op_bld, op_bsl, op_load, op_nck, op_bin, op_beq, op_eqa, op_eqn, op_neg, op_lnot, op_conv, op_mkf, op_slc, op_arr, op_fad, op_fld, op_ixa, op_ixs, op_ixv, op_lkp, op_ext, op_len, op_lenc, op_mn, op_mx, op_alloc, op_box, op_store, op_mkm, op_mks, op_mput, op_ment, op_esto, op_app, op_call, code10, keep10_0, Book.av, Book.cells, hrow, hsm, hs, c0, c1, c2, c3, w1, foldA, hmn, hbd, d1, hsh, hA, hneg, lp', b1, b2, hshQ, hnegQ, hZ, w2, d3, hyp, ints, hcc, hne]
end Go.Ai

set_option maxRecDepth 100000
set_option linter.unusedSimpArgs false
set_option linter.unusedVariables false
namespace Go.Ai
/-! ## Rows whose elements are written -/
section
variable {α : Type} {c : α → List AV} {sz : Nat}
theorem flatC_len (hc : ∀ a, (c a).length = sz) : ∀ l : List α, (l.flatMap c).length = l.length * sz
  | [] => by simp
  | a :: l => by rw [List.flatMap_cons, List.length_append, hc, flatC_len hc l, List.length_cons]; simp [Nat.add_mul, Nat.add_comm]
theorem flatC_get (hc : ∀ a, (c a).length = sz) {a : α} {j : Nat} (hj : j < sz) : ∀ (l : List α) (i : Nat), l[i]? = some a → (l.flatMap c)[i * sz + j]? = (c a)[j]?
  | [], _, h => by cases h
  | b :: l, 0, h => by
    simp only [List.getElem?_cons_zero, Option.some.injEq] at h
    subst h
    rw [List.flatMap_cons, Nat.zero_mul, Nat.zero_add, List.getElem?_append_left (by rw [hc]; exact hj)]
  | b :: l, i + 1, h => by
    rw [List.flatMap_cons, List.getElem?_append_right (by rw [hc, Nat.add_mul]; omega), hc, show (i + 1) * sz + j - sz = i * sz + j from by rw [Nat.add_mul]; omega]
    exact flatC_get hc hj l i (by simpa using h)
theorem flatC_set (hc : ∀ a, (c a).length = sz) {a b : α} {j : Nat} (hj : j < sz) {v : AV} (hb : c b = (c a).set j v) : ∀ (l : List α) (i : Nat), l[i]? = some a → setAt (l.flatMap c) (i * sz + j) [v] = (l.set i b).flatMap c
  | [], _, h => by cases h
  | d :: l, 0, h => by
    simp only [List.getElem?_cons_zero, Option.some.injEq] at h
    subst h
    have hl : j < (c d).length := by rw [hc]; exact hj
    rw [List.flatMap_cons, Nat.zero_mul, Nat.zero_add, List.set_cons_zero, List.flatMap_cons, hb, setAt]
    simp only [List.length_singleton, List.length_cons, List.length_nil]
    rw [List.take_append_of_le_length (by omega), List.drop_append_of_le_length (by omega), List.set_eq_take_append_cons_drop, if_pos hl]
    simp
  | d :: l, i + 1, h => by
    have ih := flatC_set hc hj hb l i (by simpa using h)
    have hge : (i + 1) * sz + j = (c d).length + (i * sz + j) := by rw [hc, Nat.add_mul]; omega
    rw [List.flatMap_cons, List.set_cons_succ, List.flatMap_cons, ← ih, setAt, setAt, hge, List.take_length_add_append, Nat.add_assoc, List.drop_length_add_append]
    simp
theorem flatC_chunk (hc : ∀ a, (c a).length = sz) : ∀ l : List α, chunk sz true l.length (l.flatMap c) = l.map fun a => .agg (c a)
  | [] => rfl
  | a :: l => by
    rw [List.flatMap_cons, List.length_cons, chunk, List.map_cons, if_pos rfl, List.take_append_of_le_length (by rw [hc]; exact Nat.le_refl _), List.drop_append_of_le_length (by rw [hc]; exact Nat.le_refl _), List.take_of_length_le (by rw [hc]; exact Nat.le_refl _), List.drop_eq_nil_of_le (by rw [hc]; exact Nat.le_refl _), List.nil_append, flatC_chunk hc l]
theorem flatC_pur {σ : St} {n : Nat} (hp : ∀ a, purAll (pur σ n) (c a) = some (c a, false)) : ∀ l : List α, purAll (pur σ n) (l.flatMap c) = some (l.flatMap c, false)
  | [] => rfl
  | a :: l => by
    have key : ∀ (xs ys : List AV), purAll (pur σ n) xs = some (xs, false) → purAll (pur σ n) ys = some (ys, false) → purAll (pur σ n) (xs ++ ys) = some (xs ++ ys, false) := by
      intro xs
      induction xs with
      | nil => intro ys _ h; exact h
      | cons v vs ih =>
        intro ys h1 h2
        rw [purAll, Option.bind_eq_some_iff] at h1
        obtain ⟨r, hr, h1⟩ := h1
        rw [Option.bind_eq_some_iff] at h1
        obtain ⟨s, hs, h1⟩ := h1
        simp only [Option.some.injEq, Prod.mk.injEq, List.cons.injEq, Bool.or_eq_false_iff] at h1
        obtain ⟨⟨e1, e2⟩, e3, e4⟩ := h1
        have hs' : purAll (pur σ n) vs = some (vs, false) := by rw [hs]; cases s; simp_all
        rw [List.cons_append, purAll, hr, Option.bind_some, ih ys hs' h2, Option.bind_some]
        simp [e1, e3]
    rw [List.flatMap_cons]
    exact key _ _ (hp a) (flatC_pur hp l)
end
/-! ## A boy who gains more -/
def bookN (x : Book) : Book := { x with trials := [], tnil := .nil }
def bookG (x : Book) (i : Nat) (b : Boy) : Book := { x with boys := x.boys.set i b, bnil := .no, trials := [], tnil := .nil }
theorem tru_none {x : Book} (hx : x.trials = []) {i : Nat} {b : Boy} (hb : x.boys[i]? = some b) (v : Vo) : Tru x i v ↔ InS b v := by
  constructor
  · intro h; exact (tru_boy hb h).1
  · intro h; exact ⟨b, hb, h, by rw [hx]; rfl⟩
theorem in_some {b : Boy} (hb : boyOk b = true) : InS b ⟨b.low.low, b.high.low, b.gain.low, b.turn.low, b.brk.low⟩ := by
  simp only [boyOk, spanOk, Bool.and_eq_true, decide_eq_true_eq] at hb
  exact ⟨⟨Int.le_refl _, by show b.low.low ≤ b.low.high; omega⟩, ⟨Int.le_refl _, by show b.high.low ≤ b.high.high; omega⟩, ⟨Int.le_refl _, by show b.gain.low ≤ b.gain.high; omega⟩, ⟨Int.le_refl _, by show b.turn.low ≤ b.turn.high; omega⟩, ⟨Int.le_refl _, by show b.brk.low ≤ b.brk.high; omega⟩⟩
theorem fine_none {x : Book} (hx : x.trials = []) (hb : x.boys.all boyOk = true) : fine x [] = true := by
  rw [fine_iff]
  intro i hi
  have h := List.getElem?_eq_getElem hi
  exact ⟨_, (tru_none hx h _).2 (in_some (List.all_eq_true.1 hb _ (List.mem_of_getElem? h)))⟩
/-- One boy is better than another one. -/
structure Better (b b' : Boy) : Prop where
  low : b'.low = b.low
  brk : b'.brk = b.brk
  down : ∀ v', InS b' v' → ∃ v, InS b v ∧ v.brk = v'.brk ∧ v.low = v'.low ∧ ∀ w : Int, 0 ≤ w → topZ b.loss v w ≤ topZ b'.loss v' w
  up : ∀ v, InS b v → ∃ v', InS b' v' ∧ v'.brk = v.brk ∧ v'.low = v.low ∧ ∀ w : Int, 0 ≤ w → topZ b.loss v w ≤ topZ b'.loss v' w
def moreGain (b : Boy) : Boy := { b with gain := ⟨min (min 2 (b.gain.high + 1)) (b.gain.low + 1), min 2 (b.gain.high + 1)⟩ }
def lessLoss (b : Boy) : Boy := { b with loss := max 0 (b.loss - 1) }
def moreHigh (b : Boy) : Boy := { b with high := ⟨min (min 40 (b.high.high + 1)) (b.high.low + 1), min 40 (b.high.high + 1)⟩ }
theorem up_nonneg {v : Vo} {w : Int} (h : 0 ≤ v.turn) (hw : 0 ≤ w) : 0 ≤ (if v.turn < w then v.turn else w) := by split <;> omega
theorem gain_better {b : Boy} (hb : boyOk b = true) : boyOk (moreGain b) = true ∧ Better b (moreGain b) := by
  simp only [boyOk, spanOk, Bool.and_eq_true, decide_eq_true_eq] at hb
  have hwg : IntKind.wrap .i64 (b.gain.high - b.gain.low) = b.gain.high - b.gain.low := wrap_small (by omega) (by omega)
  rw [hwg] at hb
  have h4 : b.gain.low ≤ b.gain.high := by omega
  refine ⟨?_, rfl, rfl, fun v' hv' => ⟨{ v' with gain := b.gain.low }, ⟨hv'.low, hv'.high, ⟨Int.le_refl _, h4⟩, hv'.turn, hv'.brk⟩, rfl, rfl, fun w hw => ?_⟩, fun v hv => ⟨{ v with gain := min 2 (b.gain.high + 1) }, ⟨hv.low, hv.high, ⟨Int.min_le_left _ _, Int.le_refl _⟩, hv.turn, hv.brk⟩, rfl, rfl, fun w hw => ?_⟩⟩
  · have hw : IntKind.wrap .i64 (min 2 (b.gain.high + 1) - min (min 2 (b.gain.high + 1)) (b.gain.low + 1)) = min 2 (b.gain.high + 1) - min (min 2 (b.gain.high + 1)) (b.gain.low + 1) := wrap_small (by omega) (by omega)
    simp only [boyOk, spanOk, Bool.and_eq_true, decide_eq_true_eq]
    simp only [moreGain, hw]
    omega
  · have h := hv'.gain
    have ht := hv'.turn
    have := Int.mul_le_mul_of_nonneg_left (show b.gain.low ≤ v'.gain from by simp only [moreGain] at h; omega) (up_nonneg (v := v') (w := w) (by simp only [moreGain] at ht; omega) hw)
    simp only [topZ, moreGain]
    omega
  · have h := hv.gain
    have ht := hv.turn
    have := Int.mul_le_mul_of_nonneg_left (show v.gain ≤ min 2 (b.gain.high + 1) from by omega) (up_nonneg (v := v) (w := w) (by omega) hw)
    simp only [topZ, moreGain]
    omega
theorem loss_better {b : Boy} (hb : boyOk b = true) : boyOk (lessLoss b) = true ∧ Better b (lessLoss b) := by
  simp only [boyOk, spanOk, Bool.and_eq_true, decide_eq_true_eq] at hb
  have key : ∀ (v : Vo) (w : Int), 0 ≤ v.turn → 0 ≤ w → topZ b.loss v w ≤ topZ (lessLoss b).loss v w := fun v w ht hw => by
    have h := up_nonneg ht hw
    have h2 : 0 ≤ w - (if v.turn < w then v.turn else w) := by split <;> omega
    have := Int.mul_le_mul_of_nonneg_left (show max 0 (b.loss - 1) ≤ b.loss from by omega) h2
    simp only [topZ, lessLoss]
    omega
  refine ⟨?_, rfl, rfl, fun v' hv' => ⟨v', ⟨hv'.low, hv'.high, hv'.gain, hv'.turn, hv'.brk⟩, rfl, rfl, fun w hw => key v' w (by have := hv'.turn; simp only [lessLoss] at this; omega) hw⟩, fun v hv => ⟨v, ⟨hv.low, hv.high, hv.gain, hv.turn, hv.brk⟩, rfl, rfl, fun w hw => key v w (by have := hv.turn; omega) hw⟩⟩
  simp only [boyOk, spanOk, Bool.and_eq_true, decide_eq_true_eq]
  simp only [lessLoss]
  omega
theorem high_better {b : Boy} (hb : boyOk b = true) : boyOk (moreHigh b) = true ∧ Better b (moreHigh b) := by
  simp only [boyOk, spanOk, Bool.and_eq_true, decide_eq_true_eq] at hb
  have hwg : IntKind.wrap .i64 (b.high.high - b.high.low) = b.high.high - b.high.low := wrap_small (by omega) (by omega)
  rw [hwg] at hb
  have h4 : b.high.low ≤ b.high.high := by omega
  refine ⟨?_, rfl, rfl, fun v' hv' => ⟨{ v' with high := b.high.low }, ⟨hv'.low, ⟨Int.le_refl _, h4⟩, hv'.gain, hv'.turn, hv'.brk⟩, rfl, rfl, fun w hw => ?_⟩, fun v hv => ⟨{ v with high := min 40 (b.high.high + 1) }, ⟨hv.low, ⟨Int.min_le_left _ _, Int.le_refl _⟩, hv.gain, hv.turn, hv.brk⟩, rfl, rfl, fun w hw => ?_⟩⟩
  · have hw : IntKind.wrap .i64 (min 40 (b.high.high + 1) - min (min 40 (b.high.high + 1)) (b.high.low + 1)) = min 40 (b.high.high + 1) - min (min 40 (b.high.high + 1)) (b.high.low + 1) := wrap_small (by omega) (by omega)
    simp only [boyOk, spanOk, Bool.and_eq_true, decide_eq_true_eq]
    simp only [moreHigh, hw]
    omega
  · have h := hv'.high
    simp only [moreHigh] at h
    simp only [topZ, moreHigh]
    omega
  · have h := hv.high
    simp only [topZ, moreHigh]
    omega
theorem bookN_ok {x : Book} (hx : x.Ok) : (bookN x).Ok := ⟨hx.boys, fun _ => rfl, hx.blen, by simp [bookN]⟩
theorem bookG_ok {x : Book} (hx : x.Ok) (i : Nat) (b : Boy) : (bookG x i b).Ok := ⟨(fun h => by cases h), fun _ => rfl, by simp [bookG]; exact hx.blen, by simp [bookG]⟩
theorem bookN_check {x : Book} (hc : checkOk x = true) : checkOk (bookN x) = true := by
  simp only [checkOk, Bool.and_eq_true, decide_eq_true_eq] at hc ⊢
  exact ⟨⟨⟨hc.1.1.1, by simp [bookN]⟩, hc.1.2⟩, rfl⟩
theorem bookG_check {x : Book} (hc : checkOk x = true) (i : Nat) {b : Boy} (hb : boyOk b = true) : checkOk (bookG x i b) = true := by
  have g := good_of hc
  simp only [checkOk, Bool.and_eq_true, decide_eq_true_eq] at hc ⊢
  have hl : (bookG x i b).boys.length = x.boys.length := by simp [bookG]
  refine ⟨⟨⟨by rw [hl]; exact hc.1.1.1, by simp [bookG]⟩, ?_⟩, rfl⟩
  rw [List.all_eq_true]
  intro y hy
  rcases List.mem_or_eq_of_mem_set hy with hy | rfl
  · exact List.all_eq_true.1 g.boys y hy
  · exact hb
/-- What the law asks of two books, of which one has a better boy. -/
structure Gain (x y : Book) (i w : Nat) (n : Int) : Prop where
  high : ∃ (s t : Span) (e : Int), call Cv 23 [x.av, I i, I w] = some (.tup [s.av, I e]) ∧ call Cv 23 [y.av, I i, I w] = some (.tup [t.av, I e]) ∧ (e = 0 ∨ e = 4) ∧ s.low ≤ t.low ∧ s.high ≤ t.high
  sings : ∃ k m : Int, call Cv 26 [x.av, I i, I w, I n] = some (.tup [I k, I 0]) ∧ call Cv 26 [y.av, I i, I w, I n] = some (.tup [I m, I 0]) ∧ (k < 2 ∨ m = 2) ∧ (k = 0 ∨ 0 < m)
theorem gain_of {x : Book} {i w : Nat} {b b' : Boy} (h : At x i w b) (hb : boyOk b' = true) (hB : Better b b') (n : Int) (hn : isNoteB n = true) : Gain (bookN x) (bookG x i b') i w n := by
  have g := good_of h.fit
  have hlt := h.lt
  have h1 : At (bookN x) i w b := ⟨bookN_ok h.ok, bookN_check h.fit, h.boy, h.week⟩
  have hy : (bookG x i b').boys[i]? = some b' := by simp [bookG, hlt]
  have h2 : At (bookG x i b') i w b' := ⟨bookG_ok h.ok i b', bookG_check h.fit i hb, hy, h.week⟩
  have f1 := fine_none (x := bookN x) rfl (good_of h1.fit).boys
  have f2 := fine_none (x := bookG x i b') rfl (good_of h2.fit).boys
  have t1 : ∀ v, Tru (bookN x) i v ↔ InS b v := tru_none rfl h.boy
  have t2 : ∀ v, Tru (bookG x i b') i v ↔ InS b' v := tru_none rfl hy
  have hw0 := h.w6.1
  obtain ⟨s, e, d1, e1⟩ := h1.highest f1
  obtain ⟨t, e', d2, e2⟩ := h2.highest f2
  obtain ⟨k, d3, ek, k2, k0⟩ := h1.sings f1 n hn
  obtain ⟨m, d4, em, m2, m0⟩ := h2.sings f2 n hn
  simp only [t1] at e1 k2 k0
  simp only [t2] at e2 m2 m0
  refine ⟨?_, k, m, d3, d4, ?_, ?_⟩
  · rcases e1 with ⟨rfl, rfl, e1⟩ | ⟨rfl, e1⟩
    · rcases e2 with ⟨rfl, rfl, e2⟩ | ⟨rfl, e2⟩
      · exact ⟨_, _, _, d1, d2, .inr rfl, Int.le_refl _, Int.le_refl _⟩
      · obtain ⟨v, ⟨hv, hv'⟩, _⟩ := e2.least
        obtain ⟨u, hu, q1, q2, q3⟩ := hB.down v hv
        have := e1 u hu
        omega
    · rcases e2 with ⟨rfl, rfl, e2⟩ | ⟨rfl, e2⟩
      · obtain ⟨v, ⟨hv, hv'⟩, _⟩ := e1.least
        obtain ⟨u, hu, q1, q2, q3⟩ := hB.up v hv
        have := e2 u hu
        omega
      · refine ⟨_, _, _, d1, d2, .inl rfl, ?_, ?_⟩
        · obtain ⟨v, ⟨hv, hv'⟩, q⟩ := e2.least
          obtain ⟨u, hu, q1, q2, q3⟩ := hB.down v hv
          have := e1.all u ⟨hu, by omega⟩
          have := q3 w hw0
          omega
        · obtain ⟨v, ⟨hv, hv'⟩, q⟩ := e1.most
          obtain ⟨u, hu, q1, q2, q3⟩ := hB.up v hv
          have := e2.all u ⟨hu, by omega⟩
          have := q3 w hw0
          omega
  · by_cases hk : k = 2
    · right
      refine m2.2 fun v hv => ?_
      obtain ⟨u, hu, q1, q2, q3⟩ := hB.down v hv
      obtain ⟨r1, r2, r3⟩ := k2.1 hk u hu
      have := q3 w hw0
      exact ⟨by omega, by omega, by omega⟩
    · left; omega
  · by_cases hk : k = 0
    · exact .inl hk
    · right
      have : ¬ m = 0 := fun hm => hk (k0.2 fun v hv hcz => by
        obtain ⟨u, hu, q1, q2, q3⟩ := hB.up v hv
        obtain ⟨r1, r2, r3⟩ := hcz
        have := q3 w hw0
        exact m0.1 hm u hu ⟨by omega, by omega, by omega⟩)
      omega
end Go.Ai

set_option maxRecDepth 100000
set_option linter.unusedSimpArgs false
set_option linter.unusedVariables false
namespace Go.Ai
theorem setAt_cons (a : AV) (l : List AV) (off : Nat) (vs : List AV) : setAt (a :: l) off vs = (a :: l).take off ++ vs ++ (a :: l).drop (off + vs.length) := rfl
theorem boy_len (b : Boy) : b.cells.length = 11 := rfl
set_option maxHeartbeats 4000000 in
theorem gains_law (x : Book) (hx : x.Ok) (n0 n1 n2 n3 : Int) : call Cv 12 [x.av, .agg [I n0, I n1, I n2, I n3]] = some (.bool true) := by
  have hsm := small_call x hx
  have hs := sung_call
  cases hc : checkOk x with
  | false =>
    rw [hc] at hsm
    simp only [Book.av, Book.cells] at hsm
    rw [call_run comp12 (Nat.le_of_ble_eq_true rfl)]
    simp (maxSteps := 10000000) [-List.getD, -List.replicate, -ev, -wantedA, -retsA, -retA, -mask, -List.getD_eq_getElem?_getD, -putA, -opsA_cons, -opsA_nil, -oneA, -condA, -putR, -operA, -thenA_nm, -thenA_rt, -thenA_ex, -blockA_nm, -blockA_rt, -blockA_ex, -nmA, -condC_bool, -againA, -endA, -purR, -pur, -purAll, -depth, -pureA_call, -call_none, -pureCallA, -backA, mkE_set, mkE_len, gt_hit, gt_miss, gt_none, ev_tmp, ev_cst, rets_nil, rets_val, rets_cell, mask_none, mask_some, argL, st_nil, st_op, st_gd, st_gn, all_E, pick_b, gate_t, gate_f, gate_u, gate_i, putR_s, putR_n, th_nm, th_rt, th_ex, bl_nm, bl_rt, bl_ex, nm_some, cond_bool, ag_nm, ag_rt, ag_ex, en_nm, en_rt, retA_one, retA_two, retA_three, wrap_small, purR_some, th_if, bl_if, ag_if, en_if, pr_if, dp, pa_nil, pa_cons, pu_int, pu_bool, pu_str, pu_any, pu_undef, pu_nils, pu_nilm, pu_nilp, pu_nilf, pu_sl, pu_mapv, pu_rp, pu_agg, pu_tup, pu_wsl, pu_mp, pu_fn, pu_yld, pu_box, pu_if, ca_none, pc_some, ba_f, ba_t, op_mov, op_pick, op_bld, op_bsl, op_load, op_nck, op_bin, op_beq, op_eqa, op_eqn, op_neg, op_lnot, op_conv, op_mkf, op_slc, op_arr, op_fad, op_fld, op_ixa, op_ixs, op_ixv, op_lkp, op_ext, op_len, op_lenc, op_mn, op_mx, op_alloc, op_box, op_store, op_mkm, op_mks, op_mput, op_ment, op_esto, op_app, op_call, code12, Book.av, Book.cells, hsm, hs]
  | true =>
    rw [hc] at hsm
    have g := good_of hc
    have hbl4 := g.bl
    obtain ⟨i, w, b, h, t0, t1⟩ := at_of hx hc n1 n2
    obtain ⟨hn, hn0, hn1⟩ := note_of n3
    have c0 := h.callB n1 t0
    have c1 := h.callW n2 t1
    have c2 := turn_call n3 41 (by omega)
    have c3 := turn_call n0 3 (by omega)
    obtain ⟨r1, r2⟩ := turn_range n0 3 (by omega)
    generalize turnI n3 41 = n at *
    generalize turnI n0 3 = q at *
    have hrow := h.row
    have hlt := h.lt
    have hbb := h.get hlt
    have hbo := List.all_eq_true.1 g.boys b (List.mem_of_getElem? h.boy)
    have hne : x.boys ≠ [] := fun hn => by rw [hn] at hlt; simp at hlt
    simp only [Book.av, Book.cells, hrow] at hsm
    have hby : x.boys.length * 88 ≤ 140737488355328 := by omega
    have hcb : ∀ (a : Boy), a ∈ x.boys → ∀ (v : AV), v ∈ a.av.cells → v.isCell = true := fun a _ v hv => by
      simp only [Boy.av, AV.cells, Boy.cells, List.mem_cons, List.not_mem_nil, or_false] at hv
      rcases hv with rfl | rfl | rfl | rfl | rfl | rfl | rfl | rfl | rfl | rfl | rfl <;> rfl
    have hfl : List.flatMap AV.cells (List.map Boy.av x.boys) = x.boys.flatMap Boy.cells := by rw [List.flatMap_map]; rfl
    have hcb1 : (x.boys.flatMap Boy.cells).all AV.isCell = true := by
      rw [← hfl, List.all_eq_true]
      intro v hv
      rw [List.mem_flatMap] at hv
      obtain ⟨u, hu, hv⟩ := hv
      obtain ⟨a, ha, rfl⟩ := List.mem_map.1 hu
      exact hcb a ha v hv
    have hlen := fun l : List Boy => flatC_len (sz := 11) boy_len l
    have hpur : ∀ (σ : St) (n : Nat) (l : List Boy), purAll (pur σ (n + 1)) (l.flatMap Boy.cells) = some (l.flatMap Boy.cells, false) := fun σ n l => flatC_pur (fun a => by simp [Boy.cells]) l
    have hch : ∀ b' : Boy, chunk 11 true x.boys.length ((x.boys.set i b').flatMap Boy.cells) = (x.boys.set i b').map Boy.av := fun b' => by
      have := flatC_chunk (sz := 11) boy_len (x.boys.set i b')
      rw [List.length_set] at this
      exact this
    have hav1 : (bookN x).av = .agg [.sl 11 (x.boys.map Boy.av) x.bnil.cap, I x.weeks, .nils] := by rw [← hrow]; rfl
    have hav2 : ∀ b', (bookG x i b').av = .agg [.sl 11 ((x.boys.set i b').map Boy.av) .no, I x.weeks, .nils] := fun _ => rfl
    have hget := fun (l : List Boy) (a : Boy) (hl : l[i]? = some a) (j : Nat) (hj : j < 11) => flatC_get boy_len hj l i hl
    have hset := fun (l : List Boy) (a b' : Boy) (hl : l[i]? = some a) (j : Nat) (hj : j < 11) (v : AV) (hv : b'.cells = a.cells.set j v) => flatC_set boy_len hj hv l i hl
    have hgs : ∀ a : Boy, (x.boys.set i a)[i]? = some a := fun a => by simp [hlt]
    have hss : ∀ a b' : Boy, (x.boys.set i a).set i b' = x.boys.set i b' := fun a b' => by simp
    have l2 : i * 11 + 2 < x.boys.length * 11 := by omega
    have a2 : i * 11 + 2 + 1 ≤ x.boys.length * 11 := by omega
    have a3 : i * 11 + 2 + 1 + 1 ≤ x.boys.length * 11 := by omega
    have a4 : i * 11 + 4 + 1 ≤ x.boys.length * 11 := by omega
    have a5 : i * 11 + 4 + 1 + 1 ≤ x.boys.length * 11 := by omega
    have a8 : i * 11 + 8 + 1 ≤ x.boys.length * 11 := by omega
    have l3' : i * 11 + 2 + 1 < x.boys.length * 11 := by omega
    have l5' : i * 11 + 4 + 1 < x.boys.length * 11 := by omega
    have l3 : i * 11 + 3 < x.boys.length * 11 := by omega
    have l4 : i * 11 + 4 < x.boys.length * 11 := by omega
    have l5 : i * 11 + 5 < x.boys.length * 11 := by omega
    have l8 : i * 11 + 8 < x.boys.length * 11 := by omega
    have m2 : ∀ a c : Int, min2 (I a) (I c) = some (I (min a c)) := fun a c => by
      simp only [min2]
      congr 2
      split <;> omega
    have m3 : ∀ a c : Int, max2 (I a) (I c) = some (I (max a c)) := fun a c => by
      simp only [max2]
      congr 2
      split <;> omega
    have hbo' := hbo
    simp only [boyOk, spanOk, Bool.and_eq_true, decide_eq_true_eq] at hbo'
    have hq : q = 0 ∨ q = 1 ∨ q = 2 := by omega
    rcases hq with rfl | rfl | rfl
    · obtain ⟨h1, h2⟩ := gain_better hbo
      obtain ⟨⟨s, t, e, d1, d2, he, hst1, hst2⟩, k, m, d3, d4, hk1, hk2⟩ := gain_of h h1 h2 n hn
      rw [hav1] at d1 d3
      rw [hav2] at d2 d4
      have w1 : IntKind.wrap .i64 (b.gain.high + 1) = b.gain.high + 1 := wrap_small (by omega) (by omega)
      have w2 : IntKind.wrap .i64 (b.gain.low + 1) = b.gain.low + 1 := wrap_small (by omega) (by omega)
      obtain ⟨u, hu⟩ : ∃ u, min 2 (b.gain.high + 1) = u := ⟨_, rfl⟩
      obtain ⟨z, hz⟩ : ∃ z, min u (b.gain.low + 1) = z := ⟨_, rfl⟩
      have f1 := m2 2 (b.gain.high + 1)
      have f2 := m2 u (b.gain.low + 1)
      rw [hu] at f1
      rw [hz] at f2
      have g1 := hget x.boys b h.boy 5 (by decide)
      have s1 := hset x.boys b { b with gain := ⟨b.gain.low, u⟩ } h.boy 5 (by decide) (I u) rfl
      have g2 := hget _ _ (hgs { b with gain := ⟨b.gain.low, u⟩ }) 5 (by decide)
      have g3 := hget _ _ (hgs { b with gain := ⟨b.gain.low, u⟩ }) 4 (by decide)
      have s2 := hset _ _ (moreGain b) (hgs { b with gain := ⟨b.gain.low, u⟩ }) 4 (by decide) (I z) (by subst hz hu; rfl)
      rw [hss] at s2
      simp only [Boy.cells, List.getElem?_cons_succ, List.getElem?_cons_zero] at g1 g2 g3
      have g1' := get_some (i := i * 11 + 4 + 1) g1
      have g2' := get_some (i := i * 11 + 4 + 1) g2
      have g3' := get_some g3
      rw [show i * 11 + 5 = i * 11 + 4 + 1 from rfl] at g1 g2 s1
      generalize moreGain b = b2 at *
      generalize ({ b with gain := ⟨b.gain.low, u⟩ } : Boy) = b1 at *
      simp only [Span.av] at d1 d2
      have hst1' := decide_eq_true hst1
      have hst2' := decide_eq_true hst2
      rw [call_run comp12 (Nat.le_of_ble_eq_true rfl)]
      rcases he with rfl | rfl
      · simp +contextual (maxSteps := 10000000) [-List.getD, -List.replicate, -ev, -wantedA, -retsA, -retA, -mask, -List.getD_eq_getElem?_getD, -putA, -opsA_cons, -opsA_nil, -oneA, -condA, -putR, -operA, -thenA_nm, -thenA_rt, -thenA_ex, -blockA_nm, -blockA_rt, -blockA_ex, -nmA, -condC_bool, -againA, -endA, -purR, -pur, -purAll, -depth, -pureA_call, -call_none, -pureCallA, -backA, mkE_set, mkE_len, gt_hit, gt_miss, gt_none, ev_tmp, ev_cst, rets_nil, rets_val, rets_cell, mask_none, mask_some, argL, st_nil, st_op, st_gd, st_gn, all_E, pick_b, gate_t, gate_f, gate_u, gate_i, putR_s, putR_n, th_nm, th_rt, th_ex, bl_nm, bl_rt, bl_ex, nm_some, cond_bool, ag_nm, ag_rt, ag_ex, en_nm, en_rt, retA_one, retA_two, retA_three, wrap_small, purR_some, th_if, bl_if, ag_if, en_if, pr_if, dp, pa_nil, pa_cons, pu_int, pu_bool, pu_str, pu_any, pu_undef, pu_nils, pu_nilm, pu_nilp, pu_nilf, pu_sl, pu_mapv, pu_rp, pu_agg, pu_tup, pu_wsl, pu_mp, pu_fn, pu_yld, pu_box, pu_if, ca_none, pc_some, ba_f, ba_t, op_mov, op_pick, op_bld, op_bsl, op_load, op_nck, op_bin, op_beq, op_eqa, op_eqn, op_neg, op_lnot, op_conv, op_mkf, op_slc, op_arr, op_fad, op_fld, op_ixa, op_ixs, op_ixv, op_lkp, op_ext, op_len, op_lenc, op_mn, op_mx, op_alloc, op_box, op_store, op_mkm, op_mks, op_mput, op_ment, op_esto, op_app, op_call, -setAt, setAt_cons, hlt, code12, Book.av, Book.cells, hrow, hsm, hs, c0, c1, c2, c3, appA, elemsA, grown, fillE, AV.isAgg, hne, hby, hcb1, hfl, -List.all_flatMap, -List.all_eq_true, -List.map_set, hlen, hpur, hch, foldA, f1, f2, w1, w2, g1, g2, g3, g1', g2', g3', s1, s2, d1, d2, d3, d4, l2, l3, l4, l5, l8, l3', l5', a2, a3, a4, a5, a8, fo, hst1, hst2]
        exact ⟨hk1, hk2⟩
      · simp +contextual (maxSteps := 10000000) [-List.getD, -List.replicate, -ev, -wantedA, -retsA, -retA, -mask, -List.getD_eq_getElem?_getD, -putA, -opsA_cons, -opsA_nil, -oneA, -condA, -putR, -operA, -thenA_nm, -thenA_rt, -thenA_ex, -blockA_nm, -blockA_rt, -blockA_ex, -nmA, -condC_bool, -againA, -endA, -purR, -pur, -purAll, -depth, -pureA_call, -call_none, -pureCallA, -backA, mkE_set, mkE_len, gt_hit, gt_miss, gt_none, ev_tmp, ev_cst, rets_nil, rets_val, rets_cell, mask_none, mask_some, argL, st_nil, st_op, st_gd, st_gn, all_E, pick_b, gate_t, gate_f, gate_u, gate_i, putR_s, putR_n, th_nm, th_rt, th_ex, bl_nm, bl_rt, bl_ex, nm_some, cond_bool, ag_nm, ag_rt, ag_ex, en_nm, en_rt, retA_one, retA_two, retA_three, wrap_small, purR_some, th_if, bl_if, ag_if, en_if, pr_if, dp, pa_nil, pa_cons, pu_int, pu_bool, pu_str, pu_any, pu_undef, pu_nils, pu_nilm, pu_nilp, pu_nilf, pu_sl, pu_mapv, pu_rp, pu_agg, pu_tup, pu_wsl, pu_mp, pu_fn, pu_yld, pu_box, pu_if, ca_none, pc_some, ba_f, ba_t, op_mov, op_pick, op_bld, op_bsl, op_load, op_nck, op_bin, op_beq, op_eqa, op_eqn, op_neg, op_lnot, op_conv, op_mkf, op_slc, op_arr, op_fad, op_fld, op_ixa, op_ixs, op_ixv, op_lkp, op_ext, op_len, op_lenc, op_mn, op_mx, op_alloc, op_box, op_store, op_mkm, op_mks, op_mput, op_ment, op_esto, op_app, op_call, -setAt, setAt_cons, hlt, code12, Book.av, Book.cells, hrow, hsm, hs, c0, c1, c2, c3, appA, elemsA, grown, fillE, AV.isAgg, hne, hby, hcb1, hfl, -List.all_flatMap, -List.all_eq_true, -List.map_set, hlen, hpur, hch, foldA, f1, f2, w1, w2, g1, g2, g3, g1', g2', g3', s1, s2, d1, d2, d3, d4, l2, l3, l4, l5, l8, l3', l5', a2, a3, a4, a5, a8, fo, hst1, hst2]
        exact ⟨hk1, hk2⟩
    · obtain ⟨h1, h2⟩ := loss_better hbo
      obtain ⟨⟨s, t, e, d1, d2, he, hst1, hst2⟩, k, m, d3, d4, hk1, hk2⟩ := gain_of h h1 h2 n hn
      rw [hav1] at d1 d3
      rw [hav2] at d2 d4
      have w1 : IntKind.wrap .i64 (b.loss - 1) = b.loss - 1 := wrap_small (by omega) (by omega)
      obtain ⟨u, hu⟩ : ∃ u, max 0 (b.loss - 1) = u := ⟨_, rfl⟩
      have f1 := m3 0 (b.loss - 1)
      rw [hu] at f1
      have g1 := hget x.boys b h.boy 8 (by decide)
      have s1 := hset x.boys b (lessLoss b) h.boy 8 (by decide) (I u) (by subst hu; rfl)
      simp only [Boy.cells, List.getElem?_cons_succ, List.getElem?_cons_zero] at g1
      have g1' := get_some g1
      generalize lessLoss b = b2 at *
      simp only [Span.av] at d1 d2
      rw [call_run comp12 (Nat.le_of_ble_eq_true rfl)]
      rcases he with rfl | rfl
      · simp +contextual (maxSteps := 10000000) [-List.getD, -List.replicate, -ev, -wantedA, -retsA, -retA, -mask, -List.getD_eq_getElem?_getD, -putA, -opsA_cons, -opsA_nil, -oneA, -condA, -putR, -operA, -thenA_nm, -thenA_rt, -thenA_ex, -blockA_nm, -blockA_rt, -blockA_ex, -nmA, -condC_bool, -againA, -endA, -purR, -pur, -purAll, -depth, -pureA_call, -call_none, -pureCallA, -backA, mkE_set, mkE_len, gt_hit, gt_miss, gt_none, ev_tmp, ev_cst, rets_nil, rets_val, rets_cell, mask_none, mask_some, argL, st_nil, st_op, st_gd, st_gn, all_E, pick_b, gate_t, gate_f, gate_u, gate_i, putR_s, putR_n, th_nm, th_rt, th_ex, bl_nm, bl_rt, bl_ex, nm_some, cond_bool, ag_nm, ag_rt, ag_ex, en_nm, en_rt, retA_one, retA_two, retA_three, wrap_small, purR_some, th_if, bl_if, ag_if, en_if, pr_if, dp, pa_nil, pa_cons, pu_int, pu_bool, pu_str, pu_any, pu_undef, pu_nils, pu_nilm, pu_nilp, pu_nilf, pu_sl, pu_mapv, pu_rp, pu_agg, pu_tup, pu_wsl, pu_mp, pu_fn, pu_yld, pu_box, pu_if, ca_none, pc_some, ba_f, ba_t, op_mov, op_pick, op_bld, op_bsl, op_load, op_nck, op_bin, op_beq, op_eqa, op_eqn, op_neg, op_lnot, op_conv, op_mkf, op_slc, op_arr, op_fad, op_fld, op_ixa, op_ixs, op_ixv, op_lkp, op_ext, op_len, op_lenc, op_mn, op_mx, op_alloc, op_box, op_store, op_mkm, op_mks, op_mput, op_ment, op_esto, op_app, op_call, -setAt, setAt_cons, hlt, code12, Book.av, Book.cells, hrow, hsm, hs, c0, c1, c2, c3, appA, elemsA, grown, fillE, AV.isAgg, hne, hby, hcb1, hfl, -List.all_flatMap, -List.all_eq_true, -List.map_set, hlen, hpur, hch, foldA, f1, w1, g1, g1', s1, d1, d2, d3, d4, l2, l3, l4, l5, l8, l3', l5', a2, a3, a4, a5, a8, fo, hst1, hst2]
        exact ⟨hk1, hk2⟩
      · simp +contextual (maxSteps := 10000000) [-List.getD, -List.replicate, -ev, -wantedA, -retsA, -retA, -mask, -List.getD_eq_getElem?_getD, -putA, -opsA_cons, -opsA_nil, -oneA, -condA, -putR, -operA, -thenA_nm, -thenA_rt, -thenA_ex, -blockA_nm, -blockA_rt, -blockA_ex, -nmA, -condC_bool, -againA, -endA, -purR, -pur, -purAll, -depth, -pureA_call, -call_none, -pureCallA, -backA, mkE_set, mkE_len, gt_hit, gt_miss, gt_none, ev_tmp, ev_cst, rets_nil, rets_val, rets_cell, mask_none, mask_some, argL, st_nil, st_op, st_gd, st_gn, all_E, pick_b, gate_t, gate_f, gate_u, gate_i, putR_s, putR_n, th_nm, th_rt, th_ex, bl_nm, bl_rt, bl_ex, nm_some, cond_bool, ag_nm, ag_rt, ag_ex, en_nm, en_rt, retA_one, retA_two, retA_three, wrap_small, purR_some, th_if, bl_if, ag_if, en_if, pr_if, dp, pa_nil, pa_cons, pu_int, pu_bool, pu_str, pu_any, pu_undef, pu_nils, pu_nilm, pu_nilp, pu_nilf, pu_sl, pu_mapv, pu_rp, pu_agg, pu_tup, pu_wsl, pu_mp, pu_fn, pu_yld, pu_box, pu_if, ca_none, pc_some, ba_f, ba_t, op_mov, op_pick, op_bld, op_bsl, op_load, op_nck, op_bin, op_beq, op_eqa, op_eqn, op_neg, op_lnot, op_conv, op_mkf, op_slc, op_arr, op_fad, op_fld, op_ixa, op_ixs, op_ixv, op_lkp, op_ext, op_len, op_lenc, op_mn, op_mx, op_alloc, op_box, op_store, op_mkm, op_mks, op_mput, op_ment, op_esto, op_app, op_call, -setAt, setAt_cons, hlt, code12, Book.av, Book.cells, hrow, hsm, hs, c0, c1, c2, c3, appA, elemsA, grown, fillE, AV.isAgg, hne, hby, hcb1, hfl, -List.all_flatMap, -List.all_eq_true, -List.map_set, hlen, hpur, hch, foldA, f1, w1, g1, g1', s1, d1, d2, d3, d4, l2, l3, l4, l5, l8, l3', l5', a2, a3, a4, a5, a8, fo, hst1, hst2]
        exact ⟨hk1, hk2⟩
    · obtain ⟨h1, h2⟩ := high_better hbo
      obtain ⟨⟨s, t, e, d1, d2, he, hst1, hst2⟩, k, m, d3, d4, hk1, hk2⟩ := gain_of h h1 h2 n hn
      rw [hav1] at d1 d3
      rw [hav2] at d2 d4
      have w1 : IntKind.wrap .i64 (b.high.high + 1) = b.high.high + 1 := wrap_small (by omega) (by omega)
      have w2 : IntKind.wrap .i64 (b.high.low + 1) = b.high.low + 1 := wrap_small (by omega) (by omega)
      obtain ⟨u, hu⟩ : ∃ u, min 40 (b.high.high + 1) = u := ⟨_, rfl⟩
      obtain ⟨z, hz⟩ : ∃ z, min u (b.high.low + 1) = z := ⟨_, rfl⟩
      have f1 := m2 40 (b.high.high + 1)
      have f2 := m2 u (b.high.low + 1)
      rw [hu] at f1
      rw [hz] at f2
      have g1 := hget x.boys b h.boy 3 (by decide)
      have s1 := hset x.boys b { b with high := ⟨b.high.low, u⟩ } h.boy 3 (by decide) (I u) rfl
      have g2 := hget _ _ (hgs { b with high := ⟨b.high.low, u⟩ }) 3 (by decide)
      have g3 := hget _ _ (hgs { b with high := ⟨b.high.low, u⟩ }) 2 (by decide)
      have s2 := hset _ _ (moreHigh b) (hgs { b with high := ⟨b.high.low, u⟩ }) 2 (by decide) (I z) (by subst hz hu; rfl)
      rw [hss] at s2
      simp only [Boy.cells, List.getElem?_cons_succ, List.getElem?_cons_zero] at g1 g2 g3
      have g1' := get_some (i := i * 11 + 2 + 1) g1
      have g2' := get_some (i := i * 11 + 2 + 1) g2
      have g3' := get_some g3
      rw [show i * 11 + 3 = i * 11 + 2 + 1 from rfl] at g1 g2 s1
      generalize moreHigh b = b2 at *
      generalize ({ b with high := ⟨b.high.low, u⟩ } : Boy) = b1 at *
      simp only [Span.av] at d1 d2
      have hst1' := decide_eq_true hst1
      have hst2' := decide_eq_true hst2
      rw [call_run comp12 (Nat.le_of_ble_eq_true rfl)]
      rcases he with rfl | rfl
      · simp +contextual (maxSteps := 10000000) [-List.getD, -List.replicate, -ev, -wantedA, -retsA, -retA, -mask, -List.getD_eq_getElem?_getD, -putA, -opsA_cons, -opsA_nil, -oneA, -condA, -putR, -operA, -thenA_nm, -thenA_rt, -thenA_ex, -blockA_nm, -blockA_rt, -blockA_ex, -nmA, -condC_bool, -againA, -endA, -purR, -pur, -purAll, -depth, -pureA_call, -call_none, -pureCallA, -backA, mkE_set, mkE_len, gt_hit, gt_miss, gt_none, ev_tmp, ev_cst, rets_nil, rets_val, rets_cell, mask_none, mask_some, argL, st_nil, st_op, st_gd, st_gn, all_E, pick_b, gate_t, gate_f, gate_u, gate_i, putR_s, putR_n, th_nm, th_rt, th_ex, bl_nm, bl_rt, bl_ex, nm_some, cond_bool, ag_nm, ag_rt, ag_ex, en_nm, en_rt, retA_one, retA_two, retA_three, wrap_small, purR_some, th_if, bl_if, ag_if, en_if, pr_if, dp, pa_nil, pa_cons, pu_int, pu_bool, pu_str, pu_any, pu_undef, pu_nils, pu_nilm, pu_nilp, pu_nilf, pu_sl, pu_mapv, pu_rp, pu_agg, pu_tup, pu_wsl, pu_mp, pu_fn, pu_yld, pu_box, pu_if, ca_none, pc_some, ba_f, ba_t, op_mov, op_pick, op_bld, op_bsl, op_load, op_nck, op_bin, op_beq, op_eqa, op_eqn, op_neg, op_lnot, op_conv, op_mkf, op_slc, op_arr, op_fad, op_fld, op_ixa, op_ixs, op_ixv, op_lkp, op_ext, op_len, op_lenc, op_mn, op_mx, op_alloc, op_box, op_store, op_mkm, op_mks, op_mput, op_ment, op_esto, op_app, op_call, -setAt, setAt_cons, hlt, code12, Book.av, Book.cells, hrow, hsm, hs, c0, c1, c2, c3, appA, elemsA, grown, fillE, AV.isAgg, hne, hby, hcb1, hfl, -List.all_flatMap, -List.all_eq_true, -List.map_set, hlen, hpur, hch, foldA, f1, f2, w1, w2, g1, g2, g3, g1', g2', g3', s1, s2, d1, d2, d3, d4, l2, l3, l4, l5, l8, l3', l5', a2, a3, a4, a5, a8, fo, hst1, hst2]
        exact ⟨hk1, hk2⟩
      · simp +contextual (maxSteps := 10000000) [-List.getD, -List.replicate, -ev, -wantedA, -retsA, -retA, -mask, -List.getD_eq_getElem?_getD, -putA, -opsA_cons, -opsA_nil, -oneA, -condA, -putR, -operA, -thenA_nm, -thenA_rt, -thenA_ex, -blockA_nm, -blockA_rt, -blockA_ex, -nmA, -condC_bool, -againA, -endA, -purR, -pur, -purAll, -depth, -pureA_call, -call_none, -pureCallA, -backA, mkE_set, mkE_len, gt_hit, gt_miss, gt_none, ev_tmp, ev_cst, rets_nil, rets_val, rets_cell, mask_none, mask_some, argL, st_nil, st_op, st_gd, st_gn, all_E, pick_b, gate_t, gate_f, gate_u, gate_i, putR_s, putR_n, th_nm, th_rt, th_ex, bl_nm, bl_rt, bl_ex, nm_some, cond_bool, ag_nm, ag_rt, ag_ex, en_nm, en_rt, retA_one, retA_two, retA_three, wrap_small, purR_some, th_if, bl_if, ag_if, en_if, pr_if, dp, pa_nil, pa_cons, pu_int, pu_bool, pu_str, pu_any, pu_undef, pu_nils, pu_nilm, pu_nilp, pu_nilf, pu_sl, pu_mapv, pu_rp, pu_agg, pu_tup, pu_wsl, pu_mp, pu_fn, pu_yld, pu_box, pu_if, ca_none, pc_some, ba_f, ba_t, op_mov, op_pick, op_bld, op_bsl, op_load, op_nck, op_bin, op_beq, op_eqa, op_eqn, op_neg, op_lnot, op_conv, op_mkf, op_slc, op_arr, op_fad, op_fld, op_ixa, op_ixs, op_ixv, op_lkp, op_ext, op_len, op_lenc, op_mn, op_mx, op_alloc, op_box, op_store, op_mkm, op_mks, op_mput, op_ment, op_esto, op_app, op_call, -setAt, setAt_cons, hlt, code12, Book.av, Book.cells, hrow, hsm, hs, c0, c1, c2, c3, appA, elemsA, grown, fillE, AV.isAgg, hne, hby, hcb1, hfl, -List.all_flatMap, -List.all_eq_true, -List.map_set, hlen, hpur, hch, foldA, f1, f2, w1, w2, g1, g2, g3, g1', g2', g3', s1, s2, d1, d2, d3, d4, l2, l3, l4, l5, l8, l3', l5', a2, a3, a4, a5, a8, fo, hst1, hst2]
        exact ⟨hk1, hk2⟩
end Go.Ai
