/- This text shows what is true, and a book whose hearings are right. No conditions of its own. -/
import Derived.Test.YtknklhodhkohlaaDoorHelpG
import Derived.Test.YtknklhodhkohlaaDoorHelpB
set_option linter.unusedSimpArgs false
set_option linter.unusedVariables false
set_option maxRecDepth 100000
namespace Go.Ai
open Go.Cold (Mv Hd Bk Tr awayL lineF coughsT)
open Go.Least (bitsL)
def knC (t : Tr) (r : AV) : List AV := [I t.bed, I t.out, I t.goes, r]
def knA (t : Tr) (r : AV) : AV := .agg (knC t r)
theorem row_ix {B : Nat} {F : Nat → Int} {r : AV} (hr : IsRow 1 (ints (rowOf B F)) r) {i : Nat} (h : i < B) : ixsA 1 r (I i) = some (.rp [I (F i)] 0) := by
  obtain ⟨c, hc, rfl⟩ := row_sl hr (by intro e; have := congrArg List.length e; rw [rowOf_len] at this; simp at this; omega)
  have hg : (rowOf B F)[i]? = some (F i) := by simp [rowOf, h]
  have hlen : (ints (rowOf B F)).length = B := by simp [ints, rowOf_len]
  have hlt : (i : Int) < (B : Int) := by omega
  simp [ixsA, hlen, h]
  simp [ints, hg, AV.cells]
  simp [rowOf]
theorem hoarse_call (t : Tr) {B : Nat} {F : Nat → Int} {r : AV} (hr : IsRow 1 (ints (rowOf B F)) r) {i : Nat} (h : i < B) (d : Int) (ho : 0 ≤ t.out ∧ t.out ≤ 100) (hF : F i ≤ 100 ∧ -1 ≤ F i) : call Cv 30 [knA t r, I i, I d] = some (.bool (coughsT (F i) t.out d)) := by
  have hix := row_ix hr h
  have hc := hr.cell
  have hbox : boxA {} (knA t r) = some (.box 0 0, { boxes := [knC t r] }) := by
    simp [boxA, knA, knC, AV.cells, hc]
  have hcells : ∀ a b c d : AV, ∀ i, partA none [a, b, c, d] i = [a, b, c, d][i]? := fun _ _ _ _ _ => rfl
  have hp1 : partA none [I (F i)] 0 = some (I (F i)) := rfl
  have hw : IntKind.wrap .i64 (F i + t.out) = F i + t.out := wrap_small (by omega) (by omega)
  unfold coughsT
  obtain ⟨q, hq⟩ : ∃ q, decide (0 ≤ F i) = q := ⟨_, rfl⟩
  rw [hq]
  rw [call_run comp30 (Nat.le_of_ble_eq_true rfl)]
  cases q
  · have h0 : ¬ 0 ≤ F i := by simpa using hq
    simp (maxSteps := 10000000) [-List.getD_eq_getElem?_getD, -boxA, -ixsA, -partA, code30, hbox, knC, hcells, hp1, hix, hw, h0]
  · have h0 : 0 ≤ F i := by simpa using hq
    simp (maxSteps := 10000000) [-List.getD_eq_getElem?_getD, -boxA, -ixsA, -partA, code30, hbox, knC, hcells, hp1, hix, hw, h0]
theorem covers_call (a b n : Int) : call Cv 24 [.agg [I a, I b], I n] = some (.bool (lie n a b)) := by
  have h := lies_c n a b
  rw [call_run comp24 (Nat.le_of_ble_eq_true rfl)]
  simp (maxSteps := 10000000) [-List.getD_eq_getElem?_getD, code24, h]
theorem nth_mem {l : List Int} (h : l ≠ []) (n : Int) : nthI l n ∈ l := by
  have hpos : 0 < l.length := List.length_pos_iff.2 h
  have hg := turn_range n l.length (by omega)
  have hlt : (turnI n l.length).toNat < l.length := by omega
  unfold nthI
  rw [List.getD_eq_getElem?_getD, List.getElem?_eq_getElem hlt, Option.getD_some]
  exact List.getElem_mem _
theorem truly_call (x : CB) (hx : x.Ok) (hk : checkB x = true) (l0 : List Int) (r0 : AV) (h0 : IsRow 1 (ints l0) r0) (hl : l0.length < 2 ^ 47) :
    ∃ (t : Tr) (r : AV), IsRow 1 (ints (rowOf x.bk.B (x.bk.at t))) r ∧ call Cv 15 [x.av, r0] = some (knA t r) ∧ (t.bed < x.bk.B ∧ 0 ≤ t.day ∧ t.day ≤ x.bk.u ∧ x.bk.oL ≤ t.out ∧ t.out ≤ x.bk.oH ∧ x.bk.gL ≤ t.goes ∧ t.goes ≤ x.bk.gH) ∧ x.bk.begins t.bed = true ∧ awayL x.bk.ms t.bed t.day = false := by
  have f := check_fine hk
  have b1 := f.b1; have b5 := f.b5; have d1 := f.d1; have d6 := f.d6; have u0 := f.u0; have u1 := f.u1; have o1 := f.o1; have o2 := f.o2; have o3 := f.o3; have g1 := f.g1; have g2 := f.g2; have g3 := f.g3; have n1 := f.n1; have n2 := f.n2
  have hB := bedsN f
  have hp := pow_small (n := x.beds.toNat) (by omega)
  have hbe : ((x.begins.toNat : Nat) : Int) = x.begins := by omega
  obtain ⟨y, hy, c1⟩ := bits_call x.begins.toNat (by omega) x.beds.toNat (by omega)
  rw [hbe, hB] at c1
  have hyp := hy.pur
  have hyl := Go.Least.bits_len x.begins.toNat x.beds.toNat
  have c2 := fun n => nth_call l0 r0 h0 hl n
  have hrp := h0.pur
  have hne : bitsL x.begins.toNat x.beds.toNat ≠ [] := by
    obtain ⟨i, hi, hb⟩ := f.bk.some_
    have : ((i : Int)) ∈ bitsL x.begins.toNat x.beds.toNat := by
      have hi5 : i < x.beds.toNat := hi
      rw [bitsL, Go.Least.mem_sel]
      refine ⟨i, rfl, Nat.zero_le _, by omega, ?_⟩
      have e1 : (0 : Int) ≤ (i : Int) := by omega
      have e2 : (i : Int) < 62 := by omega
      simp only [Go.Least.hasB, e1, e2, decide_true, Bool.true_and, Int.toNat_natCast]
      exact hb
    exact List.ne_nil_of_mem this
  have c3 := nth_call _ y hy (by omega) (nthI l0 0)
  have hm := nth_mem hne (nthI l0 0)
  generalize nthI (bitsL x.begins.toNat x.beds.toNat) (nthI l0 0) = bedI at *
  rw [bitsL, Go.Least.mem_sel] at hm
  obtain ⟨bed, rfl, _, hbl, hbb⟩ := hm
  have hbl' : bed < x.beds.toNat := by omega
  have hbeg : x.bk.begins bed = true := by
    have e1 : (0 : Int) ≤ (bed : Int) := by omega
    have e2 : (bed : Int) < 62 := by omega
    simp only [Go.Least.hasB, e1, e2, decide_true, Bool.true_and, Int.toNat_natCast] at hbb
    exact hbb
  have c4 := draw_call x.oL x.oH (nthI l0 2) (by omega) o2 (by omega)
  have c5 := draw_call x.gL x.gH (nthI l0 3) (by omega) g2 (by omega)
  have r4 := draw_range x.oL x.oH (nthI l0 2) o2
  have r5 := draw_range x.gL x.gH (nthI l0 3) g2
  generalize drawI x.oL x.oH (nthI l0 2) = out at *
  generalize drawI x.gL x.gH (nthI l0 3) = goes at *
  have c6 := turn_call (nthI l0 1) (x.until_ + 1) (by omega)
  have r6 := turn_range (nthI l0 1) (x.until_ + 1) (by omega)
  generalize turnI (nthI l0 1) (x.until_ + 1) = day at *
  have w1 : IntKind.wrap .i64 (x.until_ + 1) = x.until_ + 1 := wrap_small (by omega) (by omega)
  have c7 := gone_call x hx bed
  have hav := gone_away (x := x) (bed := bed) (d := day) (by omega)
  have hbox := x_box x hx
  have hpx := part_x x
  have hp := av_pur x hx
  have hpn : ∀ i, partA none x.cells i = x.cells[i]? := fun _ => rfl
  have hp2o : partA (some 2) x.cells 4 = some (.agg [I x.oL, I x.oH]) := rfl
  have hp2g : partA (some 2) x.cells 6 = some (.agg [I x.gL, I x.gH]) := rfl
  have x0 : x.cells[0]? = some (I x.beds) := rfl
  have x2 : x.cells[2]? = some (I x.begins) := rfl
  have x3 : x.cells[3]? = some (I x.until_) := rfl
  have hk4 : ∀ (a b c d : AV) i, partA none [a, b, c, d] i = [a, b, c, d][i]? := fun _ _ _ _ _ => rfl
  have hk44 : ∀ (a b c d : AV), partA (some 4) [a, b, c, d] 0 = some (.agg [a, b, c, d]) := fun _ _ _ _ => rfl
  have hs44 : ∀ (a b c d : AV), setAt [I 0, I 0, I 0, .nils] 0 [a, b, c, d] = [a, b, c, d] := fun _ _ _ _ => rfl
  have hfa : ∀ a b c : Int, fillA [(0, 1, I a), (1, 1, I b), (2, 1, I c)] [I 0, I 0, I 0, .nils] = some [I a, I b, I c, .nils] := fun _ _ _ => rfl
  have hs43 : ∀ (a b c d e : AV), setAt [a, b, c, d] 3 [e] = [a, b, c, e] := fun _ _ _ _ _ => rfl
  have key : ∀ dd : Int, 0 ≤ dd → dd ≤ x.until_ → awayL x.ms bed dd = false → (∃ r, IsRow 1 (ints (rowOf x.bk.B (x.bk.at ⟨bed, dd, out, goes⟩))) r ∧ call Cv 56 [x.av, I bed, I dd, I goes] = some r) ∧ ((⟨bed, dd, out, goes⟩ : Tr).bed < x.bk.B ∧ 0 ≤ dd ∧ dd ≤ x.bk.u ∧ x.bk.oL ≤ out ∧ out ≤ x.bk.oH ∧ x.bk.gL ≤ goes ∧ goes ≤ x.bk.gH) ∧ x.bk.begins bed = true ∧ awayL x.bk.ms bed dd = false := fun dd k1 k2 k3 =>
    ⟨spreads_call x hx f.sz bed hbl' dd goes k1 (by omega) (by omega) (by omega), ⟨hbl', k1, k2, r4.1, r4.2, r5.1, r5.2⟩, hbeg, k3⟩
  by_cases hg : x.gone bed ≤ day
  · obtain ⟨⟨r, hr, c8⟩, hT⟩ := key 0 (Int.le_refl _) u0 (Go.Cold.first_day f.bk bed)
    refine ⟨⟨bed, 0, out, goes⟩, r, hr, ?_, hT⟩
    have hrp2 := hr.pur
    have hrc := hr.cell
    have hrcs := hr.cells
    rw [call_run comp15 (Nat.le_of_ble_eq_true rfl)]
    simp (maxSteps := 10000000) [-List.getD_eq_getElem?_getD, -boxA, -partA, -setAt, code15, hbox, hpx, hpn, hp2o, hp2g, hp, x0, x2, x3, c1, c2, c3, c4, c5, c6, c7, w1, hyp, hrp, hk4, hk44, hs44, hs43, hfa, hg, c8, hrp2, hrc, hrcs, knA, knC]
  · have hna : awayL x.ms bed day = false := by
      cases h : awayL x.ms bed day with
      | false => rfl
      | true => exact absurd (hav.2 h) hg
    obtain ⟨⟨r, hr, c8⟩, hT⟩ := key day r6.1 (by omega) hna
    refine ⟨⟨bed, day, out, goes⟩, r, hr, ?_, hT⟩
    have hrp2 := hr.pur
    have hrc := hr.cell
    have hrcs := hr.cells
    rw [call_run comp15 (Nat.le_of_ble_eq_true rfl)]
    simp (maxSteps := 10000000) [-List.getD_eq_getElem?_getD, -boxA, -partA, -setAt, code15, hbox, hpx, hpn, hp2o, hp2g, hp, x0, x2, x3, c1, c2, c3, c4, c5, c6, c7, w1, hyp, hrp, hk4, hk44, hs44, hs43, hfa, hg, c8, hrp2, hrc, hrcs, knA, knC]
end Go.Ai

set_option maxRecDepth 100000
namespace Go.Ai
open Go.Cold (Mv Hd Bk Tr awayL lineF coughsT)
def rhH (x : CB) (t : Tr) (h : Hd) : Hd := ⟨h.bed, h.day, coughsT (x.bk.at t h.bed.toNat) t.out h.day⟩
def CB.rightly (x : CB) (t : Tr) : CB := x.hear (x.hs.map (rhH x t)) (growP 3 ((x.hs.map (rhH x t)).map hdA))
theorem rightly_bk (x : CB) (t : Tr) : (x.rightly t).bk = Go.Cold.rightly x.bk t := rfl
theorem rightly_okc {x : CB} (hx : x.Ok) (t : Tr) : (x.rightly t).Ok := hear_ok hx (growP_row _ _) (by rw [List.length_map]; exact hx.lh)
theorem rightly_check {x : CB} (hk : checkB x = true) (t : Tr) : checkB (x.rightly t) = true := hear_check hk _ (by rw [List.length_map]; exact (check_fine hk).lh) fun y hy => by
  obtain ⟨h, hh, rfl⟩ := List.mem_map.1 hy
  exact check_spots hk h hh
def F17 (x : CB) (kc : List AV) (g : AV) : List (List AV) := [x.cells, kc, [I 0, I 0, I 0, I 0, I 0, I 0, I 0, I 0, .nils, I 0, .nils], [I x.beds, I x.days, I x.begins, I x.until_, I x.oL, I x.oH, I x.gL, I x.gH, x.mr, I x.rooms, g]]
theorem F17_under (x : CB) (hx : x.Ok) (kc : List AV) (hkc : ∀ nc, kc.all (under 4 nc 0 0 6) = true) (g : AV) (nc : Nat) : (F17 x kc g).all (fun cs => cs.all (under 4 nc 0 0 6)) = under 4 nc 0 0 6 g := by
  have u1 := hx.mrow.under 4 nc 0 0 5
  have u2 := hx.hrow.under 4 nc 0 0 5
  have u3 := hkc nc
  have u0 : under 4 nc 0 0 6 AV.nils = true := rfl
  simp only [F17, CB.cells, List.all_cons, List.all_nil, u1, u2, u3, u0, un_int, Bool.and_self, Bool.true_and, Bool.and_true]
def st17 (x : CB) (kc : List AV) (es : List AV) (E : List (List AV)) : St := { boxes := F17 x kc (growV 0 3 es) ++ E, chains := [] ++ growC 3 es }
theorem cut17 (x : CB) (hx : x.Ok) (kc : List AV) (hkc : ∀ nc, kc.all (under 4 nc 0 0 6) = true) (es es' : List AV) (hes : es' = es ∨ es' ≠ []) (E : List (List AV)) (e : Env) (hE : ∀ nc, e.all (under 4 nc 0 0 6) = true) : cut (st17 x kc es []) (st17 x kc es' E) e = st17 x kc es' [] := by
  have := cut_grow (sz := 3) (F17 x kc) (fun _ => rfl) [] (fun g nc _ => F17_under x hx kc hkc g nc) es es' hes E e (fun nc _ => hE nc)
  unfold st17
  rw [List.append_nil]
  rw [List.length_nil] at this
  rw [this, List.append_nil]
theorem app17 (x : CB) (kc : List AV) (es : List AV) (v : AV) (hl : es.length < 10000) (E : List (List AV)) : appA (st17 x kc es E) false 3 24 true (growV 0 3 es) (.sl 3 [v] .full) = some (growV 0 3 (es ++ [v]), { boxes := F17 x kc (growV 0 3 es) ++ E, chains := [] ++ growC 3 (es ++ [v]) }) := growV_app (ch0 := []) (by omega) (by omega)
theorem sto17 (x : CB) (kc : List AV) (es : List AV) (v : AV) (E : List (List AV)) : storeA { boxes := F17 x kc (growV 0 3 es) ++ E, chains := [] ++ growC 3 (es ++ [v]) } 1 (.box 3 10) (growV 0 3 (es ++ [v])) = some (st17 x kc (es ++ [v]) E) := by
  have g1 := growV_cell 0 3 (es ++ [v])
  have g2 := growV_cells 0 3 (es ++ [v])
  simp [storeA, g1, g2, st17, F17, setAt]
def head17 (k : Int) : Env := mkE 39 .any [(6, I k), (5, .box 3 0), (4, .box 2 0), (3, .box 1 0), (2, .box 0 0)]
theorem knC_under (t : Tr) {l : List Int} {r : AV} (hr : IsRow 1 (ints l) r) (nc : Nat) : (knC t r).all (under 4 nc 0 0 6) = true := by
  have u := hr.under 4 nc 0 0 5
  simp only [knC, List.all_cons, List.all_nil, u, un_int, Bool.and_self]
theorem loop17 (x : CB) (hx : x.Ok) (f : x.Fine) (t : Tr) (ho : 0 ≤ t.out ∧ t.out ≤ 100) (hF : ∀ i, i < x.bk.B → x.bk.at t i ≤ 100 ∧ -1 ≤ x.bk.at t i) (r : AV) (hr : IsRow 1 (ints (rowOf x.bk.B (x.bk.at t))) r) : ∀ (l : List Hd) (k : Nat) (es : List Hd), k ≤ x.hs.length → x.hs.drop k = l → es.length ≤ k →
    ∃ L, run Cv 17 (.loop keep17_0 body17_0) (head17 k) (st17 x (knC t r) (es.map hdA) []) = some (.ex 0, mkE 39 .any L, st17 x (knC t r) ((es ++ l.map (rhH x t)).map hdA) []) ∧ gt (mkE 39 .any L) 5 = .box 3 0 ∧ gt (mkE 39 .any L) 4 = .box 2 0
  | [], k, es, hk, h, he => by
    obtain rfl := drop_nil hk h
    have hlen := hlen hx
    have hld : ∀ es E off, loadA (st17 x (knC t r) es E) none (.box 0 off) = x.cells[off]? := fun _ _ _ => rfl
    have hx1 : x.cells[10]? = some x.hr := rfl
    rw [run_loop, List.map_nil, List.append_nil]
    simp (maxSteps := 10000000) [-List.getD_eq_getElem?_getD, -loadA, body17_0, keep17_0, head17, hld, hx1, hlen]
    exact ⟨_, rfl, by simp (maxSteps := 10000000) [-List.getD_eq_getElem?_getD, ], by simp (maxSteps := 10000000) [-List.getD_eq_getElem?_getD, ]⟩
  | b :: l, k, es, hk, h, he => by
    obtain ⟨hlt, ha, hd⟩ := head_drop h
    have hlh := f.lh
    have hin := f.hs b (by rw [← ha]; exact List.getElem_mem _)
    have hw := wrap_succ hlt hx.lh
    have hlt' : (k : Int) < (x.hs.length : Int) := by omega
    have hlen := hlen hx
    have hix := h_ix hx hlt
    rw [ha] at hix
    have hbn : b.bed.toNat < x.bk.B := by show b.bed.toNat < x.beds.toNat; omega
    have hc1 := hoarse_call t hr hbn b.day ho (hF _ hbn)
    rw [show ((b.bed.toNat : Nat) : Int) = b.bed by omega] at hc1
    have hc2 := hearing_call b.bed b.day (coughsT (x.bk.at t b.bed.toNat) t.out b.day)
    have hkp : ∀ σ n, pur σ (n + 2) (knA t r) = some (knA t r, false) := fun σ n => by
      have q := hr.pur
      simp [knA, knC, pur, purAll, q]
    have hld : ∀ es E off, loadA (st17 x (knC t r) es E) none (.box 0 off) = x.cells[off]? := fun _ _ _ => rfl
    have hldk : ∀ es E, loadA (st17 x (knC t r) es E) (some 4) (.box 1 0) = some (knA t r) := fun _ _ => rfl
    have hx1 : x.cells[10]? = some x.hr := rfl
    have hlr : ∀ σ, loadA σ (some 3) (.rp (hdC b) 0) = some (.agg [I b.bed, I b.day, .bool b.cough]) := fun _ => rfl
    have hal : ∀ (C : Cfg) (R : Rec) (d : Bool) (e : Env) (es : List AV) (z : List AV), operA C R d e (st17 x (knC t r) es []) (.alloc z) = some (.box 4 0, st17 x (knC t r) es [z]) := fun C R d e es z => by
      simp [operA, st17, F17]
    have hs3 : ∀ es u v w, storeA (st17 x (knC t r) es [[I 0, I 0, .bool false]]) 3 (.box 4 0) (.agg [I u, I v, .bool w]) = some (st17 x (knC t r) es [[I u, I v, .bool w]]) := fun es u v w => by
      simp [storeA, st17, F17, setAt, AV.cells]
    have hl40 : ∀ es u v w, loadA (st17 x (knC t r) es [[u, v, w]]) none (.box 4 0) = some u := fun _ _ _ _ => rfl
    have hl41 : ∀ es u v w, loadA (st17 x (knC t r) es [[u, v, w]]) none (.box 4 1) = some v := fun _ _ _ _ => rfl
    have hl5 : ∀ es E, loadA (st17 x (knC t r) es E) none (.box 3 10) = some (growV 0 3 es) := fun _ _ => rfl
    generalize hcc : coughsT (x.bk.at t b.bed.toNat) t.out b.day = cc at *
    have hfe : ∀ z, fillE 3 true [(0, .agg (hdC ⟨b.bed, b.day, cc⟩))] [z] = some [.agg (hdC ⟨b.bed, b.day, cc⟩)] := fun _ => rfl
    have hr1 : ∀ z : AV, List.replicate 1 z = [z] := fun _ => rfl
    have happ := app17 x (knC t r) (es.map hdA) (.agg (hdC ⟨b.bed, b.day, cc⟩)) (by simp; omega)
    have hst := sto17 x (knC t r) (es.map hdA) (.agg (hdC ⟨b.bed, b.day, cc⟩))
    rw [show ([] : List (Nat × Nat)) ++ growC 3 (es.map hdA ++ [.agg (hdC ⟨b.bed, b.day, cc⟩)]) = growC 3 (es.map hdA ++ [.agg (hdC ⟨b.bed, b.day, cc⟩)]) from rfl] at happ hst
    have hfo : fo 12 (.agg (hdC ⟨b.bed, b.day, cc⟩)) = true := rfl
    have hpd : ∀ σ n, pur σ (n + 2) (.agg (hdC ⟨b.bed, b.day, cc⟩)) = some (.agg (hdC ⟨b.bed, b.day, cc⟩), false) := fun _ _ => rfl
    have hc3 := cut17 x hx (knC t r) (knC_under t hr) (es.map hdA) (es.map hdA ++ [.agg (hdC ⟨b.bed, b.day, cc⟩)]) (.inr (by simp))
    have hrh : rhH x t b = ⟨b.bed, b.day, cc⟩ := by rw [rhH, hcc]
    have step : run Cv 17 (.loop keep17_0 body17_0) (head17 k) (st17 x (knC t r) (es.map hdA) []) = run Cv 17 (.loop keep17_0 body17_0) (head17 (k + 1)) (st17 x (knC t r) (es.map hdA ++ [.agg (hdC ⟨b.bed, b.day, cc⟩)]) []) := by
      rw [run_loop]
      generalize MC.loop keep17_0 body17_0 = L
      generalize hH : AV.agg (hdC ⟨b.bed, b.day, cc⟩) = H at *
      simp (maxSteps := 10000000) [-List.getD_eq_getElem?_getD, -loadA, -storeA, -cut, -ixsA, -op_alloc, hal, hs3, hl40, hl41, body17_0, keep17_0, head17, hlen, hlt', hw, hld, hldk, hx1, hix, hlr, hc1, hc2, hkp, hl5, hfe, hr1, happ, hst, hfo, hpd]
      rw [hc3]
      intro nc
      simp (maxSteps := 10000000) [-List.getD_eq_getElem?_getD, ]
    rw [step]
    have := loop17 x hx f t ho hF r hr l (k + 1) (es ++ [rhH x t b]) hlt hd (by simp; omega)
    rw [hrh] at this
    simpa [List.append_assoc, hdA, hrh] using this
theorem at_range {x : CB} (f : x.Fine) {t : Tr} (h : t.bed < x.bk.B ∧ 0 ≤ t.day ∧ t.day ≤ x.bk.u ∧ x.bk.oL ≤ t.out ∧ t.out ≤ x.bk.oH ∧ x.bk.gL ≤ t.goes ∧ t.goes ≤ x.bk.gH) {i : Nat} (hi : i < x.bk.B) : x.bk.at t i ≤ 100 ∧ -1 ≤ x.bk.at t i := by
  have d6 := f.bk.d6
  have u1 := f.bk.u1
  have g1 := f.bk.g1
  have hlt : x.bk.at t i < x.bk.D := Go.Cold.line_lt (by omega) h.1 hi (by omega)
  refine ⟨by omega, ?_⟩
  by_cases he : i = t.bed
  · subst he
    have : x.bk.at t t.bed = t.day := Go.Cold.line_first
    omega
  · have : x.bk.at t i = -1 ∨ t.day < x.bk.at t i := Go.Cold.line_pos h.2.1 (show 0 < t.goes by omega) h.1 hi he
    omega
theorem rightly_call (x : CB) (hx : x.Ok) (f : x.Fine) (t : Tr) (h : t.bed < x.bk.B ∧ 0 ≤ t.day ∧ t.day ≤ x.bk.u ∧ x.bk.oL ≤ t.out ∧ t.out ≤ x.bk.oH ∧ x.bk.gL ≤ t.goes ∧ t.goes ≤ x.bk.gH) (r : AV) (hr : IsRow 1 (ints (rowOf x.bk.B (x.bk.at t))) r) : call Cv 17 [x.av, knA t r] = some (x.rightly t).av := by
  have hcl := x_cell x hx
  have hav : x.av.cells = x.cells := rfl
  have hxl : x.cells.length = 11 := rfl
  have hbox := x_box x hx
  have hrc := hr.cell
  have hbox2 : boxA { boxes := [x.cells] } (knA t r) = some (.box 1 0, { boxes := [x.cells, knC t r] }) := by
    simp [boxA, knA, knC, AV.cells, hrc]
  have o1 := f.bk.o1
  have o3 := f.bk.o3
  obtain ⟨L, l0, g5, g4⟩ := loop17 x hx f t (by omega) (fun i hi => at_range f h hi) r hr x.hs 0 [] (Nat.zero_le _) rfl (Nat.le_refl _)
  have l0' := fun E (hE : mask keep17_0 E = _) => run_at l0 hE
  have e5 : ((0 : Nat) : Int) = 0 := rfl
  simp only [keep17_0, head17, e5, List.nil_append, List.map_nil] at l0'
  have hz := z11 x
  have hs1 : setAt x.cells 10 [.nils] = [I x.beds, I x.days, I x.begins, I x.until_, I x.oL, I x.oH, I x.gL, I x.gH, x.mr, I x.rooms, .nils] := rfl
  have hst0 : st17 x (knC t r) [] [] = { boxes := [x.cells, knC t r, [I 0, I 0, I 0, I 0, I 0, I 0, I 0, I 0, .nils, I 0, .nils], [I x.beds, I x.days, I x.begins, I x.until_, I x.oL, I x.oH, I x.gL, I x.gH, x.mr, I x.rooms, .nils]] } := rfl
  rw [hst0] at l0'
  have hm : (x.rightly t).av = .agg [I x.beds, I x.days, I x.begins, I x.until_, I x.oL, I x.oH, I x.gL, I x.gH, x.mr, I x.rooms, growP 3 ((x.hs.map (rhH x t)).map hdA)] := rfl
  rw [hm]
  generalize (x.hs.map (rhH x t)).map hdA = E1 at *
  have hstd : st17 x (knC t r) E1 [] = { boxes := [x.cells, knC t r, [I 0, I 0, I 0, I 0, I 0, I 0, I 0, I 0, .nils, I 0, .nils], [I x.beds, I x.days, I x.begins, I x.until_, I x.oL, I x.oH, I x.gL, I x.gH, x.mr, I x.rooms, growV 0 3 E1]], chains := growC 3 E1 } := rfl
  rw [hstd] at l0'
  have hp11 : ∀ a b c d e f g h i j k : AV, partA (some 11) [a, b, c, d, e, f, g, h, i, j, k] 0 = some (.agg [a, b, c, d, e, f, g, h, i, j, k]) := fun _ _ _ _ _ _ _ _ _ _ _ => rfl
  have hs11 : ∀ a b c d e f g h i j k : AV, setAt [I 0, I 0, I 0, I 0, I 0, I 0, I 0, I 0, .nils, I 0, .nils] 0 [a, b, c, d, e, f, g, h, i, j, k] = [a, b, c, d, e, f, g, h, i, j, k] := fun _ _ _ _ _ _ _ _ _ _ _ => rfl
  have hpx := part_x x
  have c1 := hx.mrow.cell
  have q1 := hx.mrow.pur
  have gc := growV_cell 0 3 E1
  have gp := growV_puri 0 3 E1
  rw [call_run comp17 (Nat.le_of_ble_eq_true rfl)]
  simp (maxSteps := 10000000) [-List.getD_eq_getElem?_getD, -boxA, -partA, -setAt, -List.all_eq_true, code17, hbox, hbox2, hav, hcl, hxl, hz, hs1, keep17_0, l0', g5, g4, hp11, hs11, hpx, c1, q1, gc, gp]
end Go.Ai
