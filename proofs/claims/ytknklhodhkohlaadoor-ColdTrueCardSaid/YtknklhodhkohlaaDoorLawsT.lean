/- This text shows the theorem of the cold, in the interpreter. No conditions of its own. -/
import Derived.Test.YtknklhodhkohlaaDoorTrueA
import Derived.Test.YtknklhodhkohlaaDoorCodesL3
set_option linter.unusedSimpArgs false
set_option linter.unusedVariables false
set_option maxRecDepth 100000
namespace Go.Ai
open Go.Cold (Mv Hd Bk Tr awayL lineF coughsT illT ends)
theorem cut_add (B E : List (List AV)) (e : Env) (hB : B.all (fun cs => cs.all (under B.length 0 0 0 6)) = true) (he : e.all (under B.length 0 0 0 6) = true) : cut { boxes := B } { boxes := B ++ E } e = { boxes := B } := by
  have ht : (B ++ E).take B.length = B := List.take_left' rfl
  have hd : dryAt 0 { boxes := B } { boxes := B ++ E } e = true := by
    simp only [dryAt, List.length_nil, ht, he, hB, List.take_nil, List.all_nil, Bool.and_self]
  unfold cut
  rw [if_pos (show dryAt ({ boxes := B } : St).chains.length { boxes := B } { boxes := B ++ E } e = true from hd)]
  simp [cutAt, ht]
def B3 (x Y : CB) (t : Tr) (r : AV) (a b c d : Int) : List (List AV) := [x.cells, knC t r, Y.cells, [I a, I b], [I c, I d]]
def st3 (x Y : CB) (t : Tr) (r : AV) (a b c d : Int) (E : List (List AV)) : St := { boxes := B3 x Y t r a b c d ++ E }
theorem cells_under {x : CB} (hx : x.Ok) (a b c d : Nat) : x.cells.all (under a b c d 6) = true := by
  have u1 := hx.mrow.under a b c d 5
  have u2 := hx.hrow.under a b c d 5
  simp only [CB.cells, List.all_cons, List.all_nil, u1, u2, un_int, Bool.and_self]
theorem cut3 {x Y : CB} (hx : x.Ok) (hy : Y.Ok) (t : Tr) {l : List Int} {r : AV} (hr : IsRow 1 (ints l) r) (a b c d : Int) (E : List (List AV)) (e : Env) (he : e.all (under 5 0 0 0 6) = true) : cut (st3 x Y t r a b c d []) (st3 x Y t r a b c d E) e = st3 x Y t r a b c d [] := by
  have := cut_add (B3 x Y t r a b c d) E e (by
    have u1 := cells_under hx 5 0 0 0
    have u2 := cells_under hy 5 0 0 0
    have u3 := hr.under 5 0 0 0 5
    show List.all (B3 x Y t r a b c d) (fun cs => cs.all (under 5 0 0 0 6)) = true
    simp only [B3, knC, List.all_cons, List.all_nil, u1, u2, u3, un_int, Bool.and_self]) he
  unfold st3
  rw [List.append_nil]
  exact this
def head3 (d : Int) (rc : AV) (k : Int) : Env := mkE 246 .any [(22, I k), (20, rc), (9, .box 2 0), (8, I d), (7, .box 1 0), (3, .box 0 0)]
set_option maxHeartbeats 8000000 in
theorem round3a (x Y : CB) (hx : x.Ok) (hy : Y.Ok) (t : Tr) {l : List Int} {r : AV} (hr : IsRow 1 (ints l) r) {lc : List Int} (rc : AV) (hrc : IsRow 1 (ints lc) rc) (a b c e d : Int) (k : Nat) (h1 : (k : Int) < x.beds) (hw : IntKind.wrap .i64 ((k : Int) + 1) = k + 1) (iv cv at_ ix : Int) (has hears : Bool)
    (hix : ixsA 1 r (I k) = some (.rp [I at_] 0)) (c1 : call Cv 27 [Y.av, I k, I d] = some (.tup [I iv, I 0])) (c2 : call Cv 28 [Y.av, I k, I d] = some (.tup [I cv, I 0])) (c3 : call Cv 30 [knA t r, I k, I d] = some (.bool hears)) (c4 : call Cv 29 [I at_, I 0, I d] = some (.bool has)) (c5 : call Cv 29 [I iv, I 0, I 2] = some (.bool true)) (c6 : call Cv 29 [I cv, I 0, I 2] = some (.bool true)) (c7 : call Cv 23 [rc, I k] = some (I ix))
    (hiv : (iv = 0 ∧ has = false) ∨ iv = 1 ∨ (iv = 2 ∧ has = true)) (hcv : (cv = 0 ∧ hears = false) ∨ cv = 1 ∨ (cv = 2 ∧ hears = true)) (hpos : 0 ≤ at_) (c8 : ¬ 0 ≤ ix) (lo hi : Int) (y1 : call Cv 26 [Y.av, I k] = some (.tup [.agg [I lo, I hi], I 0])) (y3 : call Cv 24 [.agg [I lo, I hi], I at_] = some (.bool true)) :
    run Cv 3 (.loop keep3_0 body3_0) (head3 d rc k) (st3 x Y t r a b c e []) = run Cv 3 (.loop keep3_0 body3_0) (head3 d rc ((k : Int) + 1)) (st3 x Y t r a b c e []) := by
  have hld : ∀ E off, loadA (st3 x Y t r a b c e E) none (.box 0 off) = x.cells[off]? := fun _ _ => rfl
  have x0 : x.cells[0]? = some (I x.beds) := rfl
  have hld2 : ∀ E, loadA (st3 x Y t r a b c e E) (some 11) (.box 2 0) = some Y.av := fun _ => rfl
  have hld1 : ∀ E, loadA (st3 x Y t r a b c e E) (some 4) (.box 1 0) = some (knA t r) := fun _ => rfl
  have hld13 : ∀ E, loadA (st3 x Y t r a b c e E) none (.box 1 3) = some r := fun _ => rfl
  have hal : ∀ (C : Cfg) (R : Rec) (q : Bool) (en : Env) (z : List AV), operA C R q en (st3 x Y t r a b c e []) (.alloc z) = some (.box 5 0, st3 x Y t r a b c e [z]) := fun C R q en z => by
    simp [operA, st3, B3]
  have hs5 : ∀ u v, storeA (st3 x Y t r a b c e [[I 0, I 0]]) 2 (.box 5 0) (.agg [I u, I v]) = some (st3 x Y t r a b c e [[I u, I v]]) := fun u v => by
    simp [storeA, st3, B3, setAt, AV.cells]
  have hl5 : ∀ u v, loadA (st3 x Y t r a b c e [[u, v]]) (some 2) (.box 5 0) = some (.agg [u, v]) := fun _ _ => rfl
  have yp := av_pur Y hy
  have hkp : ∀ σ n, pur σ (n + 2) (knA t r) = some (knA t r, false) := fun σ n => by
    have q := hr.pur
    simp [knA, knC, pur, purAll, q]
  have hrcp := hrc.pur
  have hrcu := hrc.under
  have hlv : ∀ σ v, loadA σ none (.rp [I v] 0) = some (I v) := fun _ _ => rfl
  have hcut := cut3 hx hy t hr a b c e
  rw [run_loop]
  generalize MC.loop keep3_0 body3_0 = L
  simp (maxSteps := 10000000) [-List.getD_eq_getElem?_getD, -loadA, -storeA, -cut, -ixsA, -op_alloc, hal, hs5, hl5, body3_0, keep3_0, head3, hld, x0, hld1, hld2, hld13, h1, hw, yp, hkp, hrcp, hix, hlv, c1, c2, c3, c4, c5, c6, c7, c8, y1, y3, hpos]
  rcases hiv with ⟨rfl, rfl⟩ | rfl | ⟨rfl, rfl⟩
  all_goals simp (maxSteps := 10000000) [-List.getD_eq_getElem?_getD, -loadA, -storeA, -cut, c5, c6, hw]
  all_goals rcases hcv with ⟨rfl, rfl⟩ | rfl | ⟨rfl, rfl⟩
  all_goals simp (maxSteps := 10000000) [-List.getD_eq_getElem?_getD, -loadA, -storeA, -cut, c5, c6, hw]
  all_goals rw [hcut]
  all_goals simp (maxSteps := 10000000) [-List.getD_eq_getElem?_getD, hrcu]
set_option maxHeartbeats 8000000 in
theorem round3b (x Y : CB) (hx : x.Ok) (hy : Y.Ok) (t : Tr) {l : List Int} {r : AV} (hr : IsRow 1 (ints l) r) {lc : List Int} (rc : AV) (hrc : IsRow 1 (ints lc) rc) (a b c e d : Int) (k : Nat) (h1 : (k : Int) < x.beds) (hw : IntKind.wrap .i64 ((k : Int) + 1) = k + 1) (iv cv at_ ix : Int) (has hears : Bool)
    (hix : ixsA 1 r (I k) = some (.rp [I at_] 0)) (c1 : call Cv 27 [Y.av, I k, I d] = some (.tup [I iv, I 0])) (c2 : call Cv 28 [Y.av, I k, I d] = some (.tup [I cv, I 0])) (c3 : call Cv 30 [knA t r, I k, I d] = some (.bool hears)) (c4 : call Cv 29 [I at_, I 0, I d] = some (.bool has)) (c5 : call Cv 29 [I iv, I 0, I 2] = some (.bool true)) (c6 : call Cv 29 [I cv, I 0, I 2] = some (.bool true)) (c7 : call Cv 23 [rc, I k] = some (I ix))
    (hiv : (iv = 0 ∧ has = false) ∨ iv = 1 ∨ (iv = 2 ∧ has = true)) (hcv : (cv = 0 ∧ hears = false) ∨ cv = 1 ∨ (cv = 2 ∧ hears = true)) (hpos : ¬ 0 ≤ at_) (lo hi : Int) (y1 : call Cv 26 [Y.av, I k] = some (.tup [.agg [I lo, I hi], I 0])) :
    run Cv 3 (.loop keep3_0 body3_0) (head3 d rc k) (st3 x Y t r a b c e []) = run Cv 3 (.loop keep3_0 body3_0) (head3 d rc ((k : Int) + 1)) (st3 x Y t r a b c e []) := by
  have hld : ∀ E off, loadA (st3 x Y t r a b c e E) none (.box 0 off) = x.cells[off]? := fun _ _ => rfl
  have x0 : x.cells[0]? = some (I x.beds) := rfl
  have hld2 : ∀ E, loadA (st3 x Y t r a b c e E) (some 11) (.box 2 0) = some Y.av := fun _ => rfl
  have hld1 : ∀ E, loadA (st3 x Y t r a b c e E) (some 4) (.box 1 0) = some (knA t r) := fun _ => rfl
  have hld13 : ∀ E, loadA (st3 x Y t r a b c e E) none (.box 1 3) = some r := fun _ => rfl
  have hal : ∀ (C : Cfg) (R : Rec) (q : Bool) (en : Env) (z : List AV), operA C R q en (st3 x Y t r a b c e []) (.alloc z) = some (.box 5 0, st3 x Y t r a b c e [z]) := fun C R q en z => by
    simp [operA, st3, B3]
  have hs5 : ∀ u v, storeA (st3 x Y t r a b c e [[I 0, I 0]]) 2 (.box 5 0) (.agg [I u, I v]) = some (st3 x Y t r a b c e [[I u, I v]]) := fun u v => by
    simp [storeA, st3, B3, setAt, AV.cells]
  have hl5 : ∀ u v, loadA (st3 x Y t r a b c e [[u, v]]) (some 2) (.box 5 0) = some (.agg [u, v]) := fun _ _ => rfl
  have yp := av_pur Y hy
  have hkp : ∀ σ n, pur σ (n + 2) (knA t r) = some (knA t r, false) := fun σ n => by
    have q := hr.pur
    simp [knA, knC, pur, purAll, q]
  have hrcp := hrc.pur
  have hrcu := hrc.under
  have hlv : ∀ σ v, loadA σ none (.rp [I v] 0) = some (I v) := fun _ _ => rfl
  have hcut := cut3 hx hy t hr a b c e
  rw [run_loop]
  generalize MC.loop keep3_0 body3_0 = L
  simp (maxSteps := 10000000) [-List.getD_eq_getElem?_getD, -loadA, -storeA, -cut, -ixsA, -op_alloc, hal, hs5, hl5, body3_0, keep3_0, head3, hld, x0, hld1, hld2, hld13, h1, hw, yp, hkp, hrcp, hix, hlv, c1, c2, c3, c4, c5, c6, c7, y1, hpos]
  rcases hiv with ⟨rfl, rfl⟩ | rfl | ⟨rfl, rfl⟩
  all_goals simp (maxSteps := 10000000) [-List.getD_eq_getElem?_getD, -loadA, -storeA, -cut, c5, c6, hw]
  all_goals rcases hcv with ⟨rfl, rfl⟩ | rfl | ⟨rfl, rfl⟩
  all_goals simp (maxSteps := 10000000) [-List.getD_eq_getElem?_getD, -loadA, -storeA, -cut, c5, c6, hw]
  all_goals rw [hcut]
  all_goals simp (maxSteps := 10000000) [-List.getD_eq_getElem?_getD, hrcu]
set_option maxHeartbeats 8000000 in
theorem round3c (x Y : CB) (hx : x.Ok) (hy : Y.Ok) (t : Tr) {l : List Int} {r : AV} (hr : IsRow 1 (ints l) r) {lc : List Int} (rc : AV) (hrc : IsRow 1 (ints lc) rc) (a b c e d : Int) (k : Nat) (h1 : (k : Int) < x.beds) (hw : IntKind.wrap .i64 ((k : Int) + 1) = k + 1) (iv cv at_ ix : Int) (has hears : Bool)
    (hix : ixsA 1 r (I k) = some (.rp [I at_] 0)) (c1 : call Cv 27 [Y.av, I k, I d] = some (.tup [I iv, I 0])) (c2 : call Cv 28 [Y.av, I k, I d] = some (.tup [I cv, I 0])) (c3 : call Cv 30 [knA t r, I k, I d] = some (.bool hears)) (c4 : call Cv 29 [I at_, I 0, I d] = some (.bool has)) (c5 : call Cv 29 [I iv, I 0, I 2] = some (.bool true)) (c6 : call Cv 29 [I cv, I 0, I 2] = some (.bool true)) (c7 : call Cv 23 [rc, I k] = some (I ix))
    (hiv : (iv = 0 ∧ has = false) ∨ iv = 1 ∨ (iv = 2 ∧ has = true)) (hcv : (cv = 0 ∧ hears = false) ∨ cv = 1 ∨ (cv = 2 ∧ hears = true)) (hpos : ¬ 0 ≤ at_) (y1 : call Cv 26 [Y.av, I k] = some (.tup [.agg [I 0, I 0], I 4])) :
    run Cv 3 (.loop keep3_0 body3_0) (head3 d rc k) (st3 x Y t r a b c e []) = run Cv 3 (.loop keep3_0 body3_0) (head3 d rc ((k : Int) + 1)) (st3 x Y t r a b c e []) := by
  have hld : ∀ E off, loadA (st3 x Y t r a b c e E) none (.box 0 off) = x.cells[off]? := fun _ _ => rfl
  have x0 : x.cells[0]? = some (I x.beds) := rfl
  have hld2 : ∀ E, loadA (st3 x Y t r a b c e E) (some 11) (.box 2 0) = some Y.av := fun _ => rfl
  have hld1 : ∀ E, loadA (st3 x Y t r a b c e E) (some 4) (.box 1 0) = some (knA t r) := fun _ => rfl
  have hld13 : ∀ E, loadA (st3 x Y t r a b c e E) none (.box 1 3) = some r := fun _ => rfl
  have hal : ∀ (C : Cfg) (R : Rec) (q : Bool) (en : Env) (z : List AV), operA C R q en (st3 x Y t r a b c e []) (.alloc z) = some (.box 5 0, st3 x Y t r a b c e [z]) := fun C R q en z => by
    simp [operA, st3, B3]
  have hs5 : ∀ u v, storeA (st3 x Y t r a b c e [[I 0, I 0]]) 2 (.box 5 0) (.agg [I u, I v]) = some (st3 x Y t r a b c e [[I u, I v]]) := fun u v => by
    simp [storeA, st3, B3, setAt, AV.cells]
  have hl5 : ∀ u v, loadA (st3 x Y t r a b c e [[u, v]]) (some 2) (.box 5 0) = some (.agg [u, v]) := fun _ _ => rfl
  have yp := av_pur Y hy
  have hkp : ∀ σ n, pur σ (n + 2) (knA t r) = some (knA t r, false) := fun σ n => by
    have q := hr.pur
    simp [knA, knC, pur, purAll, q]
  have hrcp := hrc.pur
  have hrcu := hrc.under
  have hlv : ∀ σ v, loadA σ none (.rp [I v] 0) = some (I v) := fun _ _ => rfl
  have hcut := cut3 hx hy t hr a b c e
  rw [run_loop]
  generalize MC.loop keep3_0 body3_0 = L
  simp (maxSteps := 10000000) [-List.getD_eq_getElem?_getD, -loadA, -storeA, -cut, -ixsA, -op_alloc, hal, hs5, hl5, body3_0, keep3_0, head3, hld, x0, hld1, hld2, hld13, h1, hw, yp, hkp, hrcp, hix, hlv, c1, c2, c3, c4, c5, c6, c7, y1, hpos]
  rcases hiv with ⟨rfl, rfl⟩ | rfl | ⟨rfl, rfl⟩
  all_goals simp (maxSteps := 10000000) [-List.getD_eq_getElem?_getD, -loadA, -storeA, -cut, c5, c6, hw]
  all_goals rcases hcv with ⟨rfl, rfl⟩ | rfl | ⟨rfl, rfl⟩
  all_goals simp (maxSteps := 10000000) [-List.getD_eq_getElem?_getD, -loadA, -storeA, -cut, c5, c6, hw]
  all_goals rw [hcut]
  all_goals simp (maxSteps := 10000000) [-List.getD_eq_getElem?_getD, hrcu]
theorem loop3 (x Y : CB) (hx : x.Ok) (f : x.Fine) (hy : Y.Ok) (yk : checkB Y = true) (hb : Y.beds = x.beds) (hD : Y.days = x.days) (t : Tr) (ht : t ∈ Y.bk.tr) (hat : ∀ i, Y.bk.at t i = x.bk.at t i) (hto : 0 ≤ t.out ∧ t.out ≤ 100) (hF : ∀ i, i < x.bk.B → x.bk.at t i ≤ 100 ∧ -1 ≤ x.bk.at t i) (r : AV) (hr : IsRow 1 (ints (rowOf x.bk.B (x.bk.at t))) r) (rc : AV) (hrc : IsRow 1 (ints Y.bk.cleanL) rc) (a b c e d : Int) (d0 : 0 ≤ d) (d1 : d < x.days) : ∀ (n k : Nat), k + n = x.beds.toNat →
    ∃ L, run Cv 3 (.loop keep3_0 body3_0) (head3 d rc k) (st3 x Y t r a b c e []) = some (.ex 0, mkE 246 .any L, st3 x Y t r a b c e [])
  | 0, k, hk => by
    have hB := bedsN f
    have h1 : ¬ (k : Int) < x.beds := by omega
    have hld : ∀ E off, loadA (st3 x Y t r a b c e E) none (.box 0 off) = x.cells[off]? := fun _ _ => rfl
    have x0 : x.cells[0]? = some (I x.beds) := rfl
    rw [run_loop]
    simp (maxSteps := 10000000) [-List.getD_eq_getElem?_getD, -loadA, body3_0, keep3_0, head3, hld, x0, h1]
    exact ⟨_, rfl⟩
  | n + 1, k, hk => by
    have hB := bedsN f
    have b5 := f.b5
    have fy := check_fine yk
    have hkB : k < x.bk.B := by show k < x.beds.toNat; omega
    have h1 : (k : Int) < x.beds := by omega
    have hny : Y.bk.tr ≠ [] := List.ne_nil_of_mem ht
    have hw : IntKind.wrap .i64 ((k : Int) + 1) = k + 1 := wrap_small (by omega) (by omega)
    have hix := row_ix hr hkB
    have c1 := Ill_1 hy yk hny (bed := k) (day := d) (by omega) (by omega) d0 (by omega)
    have c2 := Coughs_1 hy yk hny (bed := k) (day := d) (by omega) (by omega) d0 (by omega)
    rw [Int.toNat_natCast] at c1 c2
    have c3 := hoarse_call t hr hkB d hto (hF k hkB)
    have c4 := lies_c (x.bk.at t k) 0 d
    have c5 := lies_c (Y.bk.illV k d) 0 2
    have c6 := lies_c (Y.bk.coughV k d) 0 2
    have r1 := ill_range Y.bk k d
    have r2 := cough_range Y.bk k d
    have l5 : lie (Y.bk.illV k d) 0 2 = true := by simp only [lie, Bool.and_eq_true, decide_eq_true_eq]; omega
    have l6 : lie (Y.bk.coughV k d) 0 2 = true := by simp only [lie, Bool.and_eq_true, decide_eq_true_eq]; omega
    rw [l5] at c5
    rw [l6] at c6
    have i0 := fun h => (Go.Cold.ill_none hny (bed := k) (d := d)).1 h t ht
    have i2 := fun h => (Go.Cold.ill_each hny (bed := k) (d := d)).1 h t ht
    have j0 := fun h => (Go.Cold.cough_none hny (bed := k) (d := d)).1 h t ht
    have j2 := fun h => (Go.Cold.cough_each hny (bed := k) (d := d)).1 h t ht
    rw [hat] at i0 i2 j0 j2
    have hlie : lie (x.bk.at t k) 0 d = illT (x.bk.at t k) d := rfl
    rw [hlie] at c4
    have hclean : (k : Int) ∈ Y.bk.cleanL → x.bk.at t k < 0 := fun h => by
      rw [Go.Cold.Bk.cleanL, Go.Least.mem_sel] at h
      obtain ⟨j, h1, _, _, h2⟩ := h
      obtain rfl : k = j := by omega
      have := List.all_eq_true.1 h2 t ht
      rw [decide_eq_true_eq, hat] at this
      exact this
    have c7 := where_call _ rc hrc (by have := (clean_small fy).1; omega) k
    have c8 := idx_nonneg k Y.bk.cleanL 0
    have hcov : 0 ≤ x.bk.at t k → x.bk.at t k ∈ Y.bk.caughtL k := fun h => Go.Cold.mem_days.2 ⟨h, t, ht, hat k⟩
    have hiv : (Y.bk.illV k d = 0 ∧ illT (x.bk.at t k) d = false) ∨ Y.bk.illV k d = 1 ∨ (Y.bk.illV k d = 2 ∧ illT (x.bk.at t k) d = true) := by
      have : Y.bk.illV k d = 0 ∨ Y.bk.illV k d = 1 ∨ Y.bk.illV k d = 2 := by omega
      rcases this with h | h | h
      · exact .inl ⟨h, i0 h⟩
      · exact .inr (.inl h)
      · exact .inr (.inr ⟨h, i2 h⟩)
    have hcv : (Y.bk.coughV k d = 0 ∧ coughsT (x.bk.at t k) t.out d = false) ∨ Y.bk.coughV k d = 1 ∨ (Y.bk.coughV k d = 2 ∧ coughsT (x.bk.at t k) t.out d = true) := by
      have : Y.bk.coughV k d = 0 ∨ Y.bk.coughV k d = 1 ∨ Y.bk.coughV k d = 2 := by omega
      rcases this with h | h | h
      · exact .inl ⟨h, j0 h⟩
      · exact .inr (.inl h)
      · exact .inr (.inr ⟨h, j2 h⟩)
    obtain ⟨L, ih⟩ := loop3 x Y hx f hy yk hb hD t ht hat hto hF r hr rc hrc a b c e d d0 d1 n (k + 1) (by omega)
    refine ⟨L, ?_⟩
    rw [← ih]
    by_cases hpos : 0 ≤ x.bk.at t k
    · have hm := hcov hpos
      have hc : Y.bk.caughtL k ≠ [] := List.ne_nil_of_mem hm
      have y1 := Caught_1 hy yk hny (bed := k) (by omega) (by omega) (by rwa [Int.toNat_natCast])
      rw [Int.toNat_natCast] at y1
      have y2 := Go.Cold.ends_covers hm
      have y3 := covers_call (ends (Y.bk.caughtL k)).1 (ends (Y.bk.caughtL k)).2 (x.bk.at t k)
      have y4 : lie (x.bk.at t k) (ends (Y.bk.caughtL k)).1 (ends (Y.bk.caughtL k)).2 = true := by simp only [lie, Bool.and_eq_true, decide_eq_true_eq]; omega
      rw [y4] at y3
      have hn : ¬ ((k : Int) ∈ Y.bk.cleanL) := fun h => by have := hclean h; omega
      rw [decide_eq_false hn, decide_eq_false_iff_not] at c8
      exact round3a x Y hx hy t hr rc hrc a b c e d k h1 hw _ _ _ _ _ _ hix c1 c2 c3 c4 c5 c6 c7 hiv hcv hpos c8 _ _ y1 y3
    · by_cases hc : Y.bk.caughtL k = []
      · have y1 := Caught_none hy yk hny (bed := k) (by omega) (by omega) (by rwa [Int.toNat_natCast])
        exact round3c x Y hx hy t hr rc hrc a b c e d k h1 hw _ _ _ _ _ _ hix c1 c2 c3 c4 c5 c6 c7 hiv hcv hpos y1
      · have y1 := Caught_1 hy yk hny (bed := k) (by omega) (by omega) (by rwa [Int.toNat_natCast])
        exact round3b x Y hx hy t hr rc hrc a b c e d k h1 hw _ _ _ _ _ _ hix c1 c2 c3 c4 c5 c6 c7 hiv hcv hpos _ _ y1
end Go.Ai

set_option maxRecDepth 100000
namespace Go.Ai
open Go.Cold (Mv Hd Bk Tr awayL lineF coughsT illT ends)
set_option maxHeartbeats 8000000 in
theorem true_law (x : CB) (hx : x.Ok) (l0 : List Int) (r0 : AV) (hl0 : l0.length < 2 ^ 47) (h0 : IsRow 1 (ints l0) r0) (b : Int) : call Cv 3 [x.av, r0, I b] = some (.bool true) := by
  have hsm := sound_call x hx
  have hs := sneezed_call
  have hp := av_pur x hx
  have hbox := x_box x hx
  have x0 : x.cells[0]? = some (I x.beds) := rfl
  have x1 : x.cells[1]? = some (I x.days) := rfl
  have hpx := part_x x
  have hpn : ∀ i, partA none x.cells i = x.cells[i]? := fun _ => rfl
  have h0p := h0.pur
  cases hk : checkB x with
  | false =>
    rw [hk] at hsm
    rw [call_run comp3 (Nat.le_of_ble_eq_true rfl)]
    simp (maxSteps := 10000000) [-List.getD_eq_getElem?_getD, -boxA, -partA, code3, hbox, hpx, hpn, hp, hsm, hs, h0p]
  | true =>
    rw [hk] at hsm
    have f := check_fine hk
    have b1 := f.b1; have b5 := f.b5; have d1 := f.d1; have d6 := f.d6; have hlh := f.lh
    have hB := bedsN f
    obtain ⟨d, d2, d3, t2⟩ := turn_day f b
    obtain ⟨t, r, hr, tc, hT, hbeg, haw⟩ := truly_call x hx hk l0 r0 h0 hl0
    have rcl := rightly_call x hx f t hT r hr
    have o1 := f.bk.o1
    have o3 := f.bk.o3
    have g1 := f.bk.g1
    have g3 := f.bk.g3
    have ho : 0 ≤ t.out ∧ t.out ≤ 100 := by omega
    have hF := fun i hi => at_range f hT (i := i) hi
    have yok := rightly_okc hx t
    have yk := rightly_check hk t
    have ybk := rightly_bk x t
    have hmem : t ∈ (x.rightly t).bk.tr := by rw [ybk]; exact Go.Cold.rightly_mem f.bk hT hbeg haw
    have hat : ∀ i, (x.rightly t).bk.at t i = x.bk.at t i := fun _ => rfl
    have yd : (x.rightly t).days = x.days := rfl
    have yb : (x.rightly t).beds = x.beds := rfl
    generalize x.rightly t = Y at *
    have fy := check_fine yk
    have hyB : Y.bk.B = x.bk.B := by rw [ybk]; rfl
    have hny : Y.bk.tr ≠ [] := List.ne_nil_of_mem hmem
    have c1 := Right_1 yok yk
    have hne : (!Y.bk.tr.isEmpty) = true := by
      cases h : Y.bk.tr with
      | nil => exact absurd h hny
      | cons a l => rfl
    rw [hne] at c1
    obtain ⟨v, gv, c2⟩ := Wrong_1 yok yk
    have hw := (Go.Cold.wrong_nil fy.bk (by have := fy.lh; show Y.hs.length ≤ 62; omega)).2 hny
    rw [hw] at gv
    have lv := row_len gv
    have pv := gv.pur
    obtain ⟨rf, gf, c3⟩ := From_1 yok yk hny
    have pf := gf.pur
    have sm := clean_small fy
    have cf := where_call _ rf gf (by omega) (t.bed : Int)
    have hin : ((t.bed : Nat) : Int) ∈ Y.bk.fromL := by
      rw [Go.Cold.Bk.fromL, Go.Least.mem_sel]
      refine ⟨t.bed, rfl, Nat.zero_le _, by omega, ?_⟩
      exact decide_eq_true (List.mem_map.2 ⟨t, hmem, rfl⟩)
    have hidx := idx_nonneg (t.bed : Int) Y.bk.fromL 0
    rw [decide_eq_true hin, decide_eq_true_iff] at hidx
    have hidx' : ¬ idx (t.bed : Int) Y.bk.fromL 0 < 0 := by omega
    have c4 := Takes_1 yok yk hny (kind := 0) (.inl rfl)
    have c5 := Takes_1 yok yk hny (kind := 1) (.inr rfl)
    have m4 : t.out ∈ Y.bk.takesL 0 := List.mem_map.2 ⟨t, hmem, by simp⟩
    have m5 : t.goes ∈ Y.bk.takesL 1 := List.mem_map.2 ⟨t, hmem, by simp⟩
    have e4 := Go.Cold.ends_covers m4
    have e5 := Go.Cold.ends_covers m5
    have k4 := covers_call (ends (Y.bk.takesL 0)).1 (ends (Y.bk.takesL 0)).2 t.out
    have k5 := covers_call (ends (Y.bk.takesL 1)).1 (ends (Y.bk.takesL 1)).2 t.goes
    have l4 : lie t.out (ends (Y.bk.takesL 0)).1 (ends (Y.bk.takesL 0)).2 = true := by simp only [lie, Bool.and_eq_true, decide_eq_true_eq]; omega
    have l5 : lie t.goes (ends (Y.bk.takesL 1)).1 (ends (Y.bk.takesL 1)).2 = true := by simp only [lie, Bool.and_eq_true, decide_eq_true_eq]; omega
    rw [l4] at k4
    rw [l5] at k5
    obtain ⟨rc, gc, c6⟩ := Clean_1 yok yk hny
    have pc := gc.pur
    have oc := ord_call _ rc gc (by omega) x.beds (by omega) (by omega)
    have hinc : Go.Least.incFrom x.bk.B 0 Y.bk.cleanL := by
      rw [← hyB]
      exact Go.Least.sel_inc _ Y.bk.B Y.bk.B 0 (by omega) 0 (by omega)
    have hio := inc_ord x.bk.B Y.bk.cleanL 0 (-1) (by omega) (Int.le_refl _) hinc
    rw [show ((x.bk.B : Nat) : Int) = x.beds from hB] at hio
    rw [hio] at oc
    obtain ⟨L, lp⟩ := loop3 x Y hx f yok yk yb yd t hmem hat ho hF r hr rc gc (ends (Y.bk.takesL 0)).1 (ends (Y.bk.takesL 0)).2 (ends (Y.bk.takesL 1)).1 (ends (Y.bk.takesL 1)).2 d d2 d3 x.beds.toNat 0 (by omega)
    have e0 : ((0 : Nat) : Int) = 0 := rfl
    rw [e0] at lp
    have lp' := fun E (hE : mask keep3_0 E = _) => run_at lp hE
    simp only [keep3_0, head3, st3, B3, List.append_nil] at lp'
    have ycl := x_cell Y yok
    have yz := z11 Y
    have ypx := part_x Y
    have ylen : Y.cells.length = 11 := rfl
    have yav : Y.av.cells = Y.cells := rfl
    have yp := av_pur Y yok
    have hst2 : ∀ u v : AV, setAt [I 0, I 0] 0 [u, v] = [u, v] := fun _ _ => rfl
    have hcl2 : ∀ u v : AV, (AV.agg [u, v]).cells = [u, v] := fun _ _ => rfl
    have hp22 : ∀ (u v : AV), partA (some 2) [u, v] 0 = some (.agg [u, v]) := fun _ _ => rfl
    have hrc := hr.cell
    have hkc : (knA t r).cells = knC t r := rfl
    have hkl : (knC t r).length = 4 := rfl
    have hkall : (knC t r).all AV.isCell = true := by
      have hi : ∀ n, AV.isCell (I n) = true := fun _ => rfl
      simp [knC, hrc, hi]
    have hkz : setAt [I 0, I 0, I 0, .nils] 0 (knC t r) = knC t r := rfl
    have hk4 : partA (some 4) (knC t r) 0 = some (knA t r) := rfl
    have hk0 : partA none (knC t r) 0 = some (I t.bed) := rfl
    have hk1 : partA none (knC t r) 1 = some (I t.out) := rfl
    have hk2 : partA none (knC t r) 2 = some (I t.goes) := rfl
    have hkp : ∀ σ n, pur σ (n + 2) (knA t r) = some (knA t r, false) := fun σ n => by
      have q := hr.pur
      simp [knA, knC, pur, purAll, q]
    have en0 : ((([] : List Int).length : Nat) : Int) = 0 := rfl
    rw [en0] at lv
    generalize idx (t.bed : Int) Y.bk.fromL 0 = ix at *
    generalize ends (Y.bk.takesL 0) = en4 at *
    generalize ends (Y.bk.takesL 1) = en5 at *
    rw [call_run comp3 (Nat.le_of_ble_eq_true rfl)]
    simp (maxSteps := 10000000) [-List.getD_eq_getElem?_getD, -boxA, -partA, -setAt, -List.all_eq_true, code3, hbox, hpx, hpn, hp, hsm, hs, h0p, x0, x1, t2, tc, rcl, ycl, yz, ypx, ylen, yav, yp, hst2, hcl2, hp22, hkc, hkl, hkall, hkz, hk4, hk0, hk1, hk2, hkp, c1, c2, lv, pv, c3, pf, cf, hidx', c4, c5, k4, k5, c6, pc, oc, keep3_0, lp']
end Go.Ai
