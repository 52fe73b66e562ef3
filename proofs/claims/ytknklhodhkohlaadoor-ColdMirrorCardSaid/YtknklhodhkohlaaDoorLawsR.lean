/- This text shows the law of the other end, in the interpreter. No conditions of its own. -/
import Derived.Test.YtknklhodhkohlaaDoorHelpF
import Derived.Test.YtknklhodhkohlaaDoorCodesL10
set_option linter.unusedSimpArgs false
set_option linter.unusedVariables false
set_option maxRecDepth 100000
namespace Go.Ai
open Go.Cold (Mv Hd Bk Tr ends)
set_option maxHeartbeats 8000000 in
theorem mirror_law (x : CB) (hx : x.Ok) (a b : Int) : call Cv 10 [x.av, .agg [I a, I b]] = some (.bool true) := by
  have hsm := sound_call x hx
  have hs := sneezed_call
  have hp := av_pur x hx
  have hbox := x_box x hx
  have hbox2 : boxA { boxes := [x.cells] } (.agg [I a, I b]) = some (.box 1 0, { boxes := [x.cells, [I a, I b]] }) := rfl
  have x0 : x.cells[0]? = some (I x.beds) := rfl
  have x1 : x.cells[1]? = some (I x.days) := rfl
  have hpx := part_x x
  have hpn : ∀ i, partA none x.cells i = x.cells[i]? := fun _ => rfl
  have hpn2 : ∀ (u v : AV) i, partA none [u, v] i = [u, v][i]? := fun _ _ _ => rfl
  have hp22 : ∀ (u v : AV), partA (some 2) [u, v] 0 = some (.agg [u, v]) := fun _ _ => rfl
  cases hk : checkB x with
  | false =>
    rw [hk] at hsm
    rw [call_run comp10 (Nat.le_of_ble_eq_true rfl)]
    simp (maxSteps := 10000000) [-List.getD_eq_getElem?_getD, -boxA, -partA, code10, hbox, hbox2, hpx, hpn, hp, hsm, hs]
  | true =>
    rw [hk] at hsm
    have f := check_fine hk
    have b1 := f.b1; have b5 := f.b5; have d1 := f.d1; have d6 := f.d6; have hlh := f.lh
    have hB := bedsN f
    obtain ⟨m, m1, m2, t1⟩ := turn_bed f a
    obtain ⟨d, d2, d3, t2⟩ := turn_day f b
    have mc := mirrored_call x hx f
    have yok := mir_okc hx
    have yk := mir_check hk
    have ybk := mir_bk (x := x)
    have yd : x.mir.days = x.days := rfl
    have yb : x.mir.beds = x.beds := rfl
    have yr : x.mir.rooms = x.rooms := rfl
    generalize x.mir = Y at *
    have yp := av_pur Y yok
    have ycl := x_cell Y yok
    have yz := z11 Y
    have ypx := part_x Y
    have ylen : Y.cells.length = 11 := rfl
    have yav : Y.av.cells = Y.cells := rfl
    have m2' : m < x.beds.toNat := m2
    have w1 : IntKind.wrap .i64 (x.beds - 1) = x.beds - 1 := wrap_small (by omega) (by omega)
    have w2 : IntKind.wrap .i64 (x.beds - 1 - m) = ((x.beds.toNat - 1 - m : Nat) : Int) := by rw [wrap_small (by omega) (by omega)]; omega
    obtain ⟨v1, g1, k1⟩ := Wrong_1 hx hk
    obtain ⟨v2, g2, k2⟩ := Wrong_1 yok yk
    rw [ybk, Go.Cold.mir_wrong f.bk] at g2
    have u1 := g1.pur
    have u2 := g2.pur
    obtain ⟨_, tw⟩ := Go.Cold.wrong_told f.bk (show x.hs.length ≤ 62 by omega)
    have twl := tw.len
    have twl' : x.bk.wrongL.length ≤ x.hs.length := twl
    have eq1 := equal_call x.bk.wrongL x.bk.wrongL v1 v2 g1 g2 (by omega) (by omega)
    have a1 := Apart_call x hx d
    have a2 := Apart_call Y yok d
    have hdb : dayB Y d = dayB x d := by unfold dayB; rw [yd]
    have hne : Y.bk.tr = [] ↔ x.bk.tr = [] := by
      have := Go.Cold.mir_ne f.bk
      rw [ybk]
      constructor
      · intro h
        cases hx2 : x.bk.tr with
        | nil => rfl
        | cons t l => exact absurd h (this.2 (by rw [hx2]; simp))
      · intro h
        cases hx2 : x.bk.mir.tr with
        | nil => rfl
        | cons t l => exact absurd h (this.1 (by rw [hx2]; simp))
    have herr : ∀ is, errQ Y is = errQ x is := fun is => by
      unfold errQ errOf
      rw [hk, yk]
      by_cases h : x.bk.tr = []
      · rw [if_pos h, if_pos (hne.2 h)]
      · rw [if_neg h, if_neg fun h' => h (hne.1 h')]
    have hap := Go.Cold.mir_apart f.bk d x.rooms.toNat
    have hE : apartE Y d = apartE x d := by
      unfold apartE
      rw [herr, hdb, ybk, yr, hap.1]
    have hV : (apartV Y d).length = (apartV x d).length := by
      unfold apartV apartW
      rw [herr, hdb, ybk, yr]
      split
      · exact hap.2
      · rfl
    rw [hE] at a2
    obtain ⟨r1, h1, a1⟩ := a1
    obtain ⟨r2, h2, a2⟩ := a2
    have l1 := row_len h1
    have l2 := row_len h2
    rw [hV] at l2
    have u3 := h1.pur
    have u4 := h2.pur
    generalize apartE x d = ae at *
    generalize ((apartV x d).length : Int) = al at *
    have hst2 : ∀ u v : AV, setAt [I 0, I 0] 0 [u, v] = [u, v] := fun _ _ => rfl
    have hcl2 : ∀ u v : AV, (AV.agg [u, v]).cells = [u, v] := fun _ _ => rfl
    have ee : ∀ a b, eqCells [I a, I b] [I a, I b] = some true := fun a b => by simp [eqCells]
    have hmm : ((x.beds.toNat - 1 - m : Nat) : Int) < Y.beds := by omega
    by_cases hn : x.bk.tr = []
    · have hny := hne.2 hn
      have c1 := Ill_0 hx hk hn (bed := m) (day := d) (by omega) m1 d2 d3
      have c2 := Ill_0 yok yk hny (bed := ((x.beds.toNat - 1 - m : Nat) : Int)) (day := d) (by omega) hmm d2 (by omega)
      have c3 := Coughs_0 hx hk hn (bed := m) (day := d) (by omega) m1 d2 d3
      have c4 := Coughs_0 yok yk hny (bed := ((x.beds.toNat - 1 - m : Nat) : Int)) (day := d) (by omega) hmm d2 (by omega)
      have c5 := Caught_0 hx hk hn (bed := m) (by omega) m1
      have c6 := Caught_0 yok yk hny (bed := ((x.beds.toNat - 1 - m : Nat) : Int)) (by omega) hmm
      generalize x.beds.toNat - 1 - m = m' at *
      rw [call_run comp10 (Nat.le_of_ble_eq_true rfl)]
      simp (maxSteps := 10000000) [-List.getD_eq_getElem?_getD, -boxA, -partA, -setAt, code10, hbox, hbox2, hpx, hpn, hpn2, hp22, hp, hsm, hs, x0, x1, t1, t2, mc, yp, ycl, yz, ypx, ylen, yav, w1, w2, k1, k2, u1, u2, eq1, c1, c2, c3, c4, c5, c6, a1, a2, l1, l2, u3, u4, hst2, hcl2, ee]
    · have hny : Y.bk.tr ≠ [] := fun h => hn (hne.1 h)
      have i1 := Go.Cold.mir_ill f.bk hn m2 d
      have i2 := Go.Cold.mir_cough f.bk hn m2 d
      have i3 := Go.Cold.mir_caught f.bk m2
      have hxb : x.bk.B = x.beds.toNat := rfl
      rw [← ybk, hxb] at i1 i2 i3
      have c1 := Ill_1 hx hk hn (bed := m) (day := d) (by omega) m1 d2 d3
      have c2 := Ill_1 yok yk hny (bed := ((x.beds.toNat - 1 - m : Nat) : Int)) (day := d) (by omega) hmm d2 (by omega)
      have c3 := Coughs_1 hx hk hn (bed := m) (day := d) (by omega) m1 d2 d3
      have c4 := Coughs_1 yok yk hny (bed := ((x.beds.toNat - 1 - m : Nat) : Int)) (day := d) (by omega) hmm d2 (by omega)
      rw [Int.toNat_natCast] at c1 c2 c3 c4
      rw [i1] at c2
      rw [i2] at c4
      have hend := Go.Cold.ends_eq i3
      by_cases hc : x.bk.caughtL m = []
      · have hcy : Y.bk.caughtL (x.beds.toNat - 1 - m) = [] := List.eq_nil_iff_forall_not_mem.2 fun n hh => by
          have := (i3 n).1 hh
          rw [hc] at this
          cases this
        have c5 := Caught_none hx hk hn (bed := m) (by omega) m1 (by rwa [Int.toNat_natCast])
        have c6 := Caught_none yok yk hny (bed := ((x.beds.toNat - 1 - m : Nat) : Int)) (by omega) hmm (by rwa [Int.toNat_natCast])
        generalize x.beds.toNat - 1 - m = m' at *
        generalize x.bk.illV m d = iv at *
        generalize x.bk.coughV m d = cv at *
        rw [call_run comp10 (Nat.le_of_ble_eq_true rfl)]
        simp (maxSteps := 10000000) [-List.getD_eq_getElem?_getD, -boxA, -partA, -setAt, code10, hbox, hbox2, hpx, hpn, hpn2, hp22, hp, hsm, hs, x0, x1, t1, t2, mc, yp, ycl, yz, ypx, ylen, yav, w1, w2, k1, k2, u1, u2, eq1, c1, c2, c3, c4, c5, c6, a1, a2, l1, l2, u3, u4, hst2, hcl2, ee]
      · have hcy : Y.bk.caughtL (x.beds.toNat - 1 - m) ≠ [] := fun h => hc (List.eq_nil_iff_forall_not_mem.2 fun n hh => by
          have := (i3 n).2 hh
          rw [h] at this
          cases this)
        have c5 := Caught_1 hx hk hn (bed := m) (by omega) m1 (by rwa [Int.toNat_natCast])
        have c6 := Caught_1 yok yk hny (bed := ((x.beds.toNat - 1 - m : Nat) : Int)) (by omega) hmm (by rwa [Int.toNat_natCast])
        rw [Int.toNat_natCast] at c5 c6
        rw [hend] at c6
        generalize x.beds.toNat - 1 - m = m' at *
        generalize x.bk.illV m d = iv at *
        generalize x.bk.coughV m d = cv at *
        generalize ends (x.bk.caughtL m) = en at *
        rw [call_run comp10 (Nat.le_of_ble_eq_true rfl)]
        simp (maxSteps := 10000000) [-List.getD_eq_getElem?_getD, -boxA, -partA, -setAt, code10, hbox, hbox2, hpx, hpn, hpn2, hp22, hp, hsm, hs, x0, x1, t1, t2, mc, yp, ycl, yz, ypx, ylen, yav, w1, w2, k1, k2, u1, u2, eq1, c1, c2, c3, c4, c5, c6, a1, a2, l1, l2, u3, u4, hst2, hcl2, ee]
end Go.Ai
