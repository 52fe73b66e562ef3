/- This text shows the law of the hearings that must be wrong, in the interpreter. No conditions of its own. -/
import Derived.Test.YtknklhodhkohlaaDoorHelpD
import Derived.Test.YtknklhodhkohlaaDoorHelpB
import Derived.Test.YtknklhodhkohlaaDoorCodesL11
set_option linter.unusedSimpArgs false
set_option linter.unusedVariables false
set_option maxRecDepth 100000
namespace Go.Ai
open Go.Cold (Mv Hd Bk Tr)
open Go.Least (bitsL shorterL)
theorem nil_true {x : CB} : (!x.bk.tr.isEmpty) = x.bk.okW [] := by
  unfold Go.Cold.Bk.okW
  rw [Go.Cold.left_nil]
set_option maxHeartbeats 4000000 in
theorem wrong_law (x : CB) (hx : x.Ok) (n : Int) : call Cv 11 [x.av, I n] = some (.bool true) := by
  have hsm := sound_call x hx
  have hs := sneezed_call
  have hp := av_pur x hx
  have hbox := x_box x hx
  have hpx := part_x x
  have hpn : ∀ i, partA none x.cells i = x.cells[i]? := fun _ => rfl
  have x1 : x.cells[10]? = some x.hr := rfl
  obtain ⟨y, hy, d1⟩ := Wrong_call x hx
  have hyp := hy.pur
  have hyl := row_len hy
  have hlen := hlen hx
  cases hk : checkB x with
  | false =>
    have hw : wrongA x = [] := by rw [wrongA, hk]; rfl
    rw [hw] at hyl
    have e0 : (([] : List Int).length : Int) = 0 := rfl
    rw [e0] at hyl
    rw [hk] at hsm d1
    rw [call_run comp11 (Nat.le_of_ble_eq_true rfl)]
    simp (maxSteps := 10000000) [-List.getD_eq_getElem?_getD, -boxA, -partA, code11, hbox, hpx, hpn, hp, hsm, hs, d1, hyl, hyp]
  | true =>
    have f := check_fine hk
    have hl4 := f.lh
    have hw : wrongA x = x.bk.wrongL := by rw [wrongA, hk]; rfl
    rw [hw] at hy hyl
    rw [hk] at hsm d1
    have d2 := Right_1 hx hk
    rw [nil_true] at d2
    have h62 : x.bk.hs.length ≤ 62 := by show x.hs.length ≤ 62; omega
    have hwn := Go.Cold.wrong_nil f.bk h62
    obtain ⟨_, tw⟩ := Go.Cold.wrong_told f.bk h62
    have hT : x.bk.hs.length = x.hs.length := rfl
    rw [hT] at tw
    have hp64 : 2 ^ x.hs.length ≤ 16 := Nat.pow_le_pow_right (by decide) hl4
    have hpos : 0 < 2 ^ x.hs.length := Nat.two_pow_pos _
    have hTn := turn_call n ((2 ^ x.hs.length : Nat) : Int) (by omega)
    obtain ⟨r1, r2⟩ := turn_range n ((2 ^ x.hs.length : Nat) : Int) (by omega)
    obtain ⟨s, hs'⟩ := Int.eq_ofNat_of_zero_le r1
    rw [hs'] at hTn r2
    have hs2 : s < 2 ^ x.hs.length := by omega
    obtain ⟨z, hz', d4⟩ := bits_call s (by omega) x.hs.length (by omega)
    have hzp := hz'.pur
    have hblen := Go.Least.bits_len s x.hs.length
    have hwl := tw.len
    have d5 := without_call x hx (by omega) (bitsL s x.hs.length) z hz' (by omega)
    have d6 := without_call x hx (by omega) x.bk.wrongL y hy (by omega)
    have o5 := left_ok hx (bitsL s x.hs.length)
    have o6 := left_ok hx x.bk.wrongL
    have d7 := Right_1 o5 (left_check hk _)
    have d8 := Right_1 o6 (left_check hk _)
    rw [left_bk] at d7 d8
    rw [show (!(x.bk.left (bitsL s x.hs.length)).tr.isEmpty) = x.bk.okW (bitsL s x.hs.length) from rfl] at d7
    rw [show (!(x.bk.left x.bk.wrongL).tr.isEmpty) = x.bk.okW x.bk.wrongL from rfl, tw.fine] at d8
    have p5 := av_pur _ o5
    have p6 := av_pur _ o6
    have o1 := ord_call x.bk.wrongL y hy (by omega) x.hs.length (by omega) (by omega)
    rw [inc_ord _ _ 0 _ (by omega) (Int.le_refl _) tw.inc] at o1
    have d9 := shorter_call (bitsL s x.hs.length) x.bk.wrongL z y hz' hy (by omega) (by omega)
    have hl := tw.least s hs2
    have hemp : ((x.bk.wrongL.length : Int) == 0) = x.bk.okW [] := by
      rw [Bool.eq_iff_iff, Go.Cold.okW_iff, Go.Cold.left_nil, ← hwn, ← List.length_eq_zero_iff]; simp
    have hsh : IntKind.wrap .i64 ((2 : Int) ^ min x.hs.length (IntKind.bits .i64)) = ((2 ^ x.hs.length : Nat) : Int) := by
      have : min x.hs.length (IntKind.bits .i64) = x.hs.length := by
        show min _ 64 = _
        omega
      rw [this, show ((2 : Int) ^ x.hs.length) = ((2 ^ x.hs.length : Nat) : Int) from by norm_cast]
      exact wrap_small (by omega) (by omega)
    have hneg : ¬ (x.hs.length : Int) < 0 := by omega
    generalize x.bk.okW (bitsL s x.hs.length) = f2 at *
    generalize shorterL (bitsL s x.hs.length) x.bk.wrongL = sh at *
    generalize x.bk.okW [] = f0 at *
    generalize (x.left x.bk.wrongL).av = A1 at *
    generalize (x.left (bitsL s x.hs.length)).av = A2 at *
    generalize 2 ^ x.hs.length = P at *
    rw [call_run comp11 (Nat.le_of_ble_eq_true rfl)]
    cases f2 <;> cases sh <;> cases f0 <;> first | (simp at hl; done) | simp (maxSteps := 10000000) [-List.getD_eq_getElem?_getD, -boxA, -partA, -setAt, -List.all_eq_true, code11, hbox, hpx, hpn, hp, hsm, hs, x1, d1, d2, d4, d5, d6, d7, d8, d9, hyl, hyp, hzp, hlen, hneg, hsh, hTn, p5, p6, o1, hemp]
end Go.Ai
