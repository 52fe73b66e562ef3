/- This text shows the law of the notes that must be wrong, in the interpreter. No conditions of its own. -/
import Derived.Test.YtckbmdbebmkbaaaDoorHelpD
import Derived.Test.YtckbmdbebmkbaaaDoorHelpB
import Derived.Test.YtckbmdbebmkbaaaDoorCodesL10
import Derived.Test.YtckbmdbebmkbaaaDoorPlainB
set_option linter.unusedSimpArgs false
set_option linter.unusedVariables false
set_option maxRecDepth 100000
namespace Go.Ai
open Go.Office (Bk)
open Go.Least (bitsL shorterL)
theorem nil_true {x : OB} : (!x.bk.tr.isEmpty) = x.bk.okW [] := by
  unfold Go.Office.Bk.okW
  rw [Go.Office.left_nil]
theorem wrong_law (x : OB) (hx : x.Ok) (n : Int) : call Cv 10 [x.av, I n] = some (.bool true) := by
  have hsm := sound_call x hx
  have hs := chanted_call
  have hp := av_pur hx
  have hbox := x_box hx
  have l0 := x_load8 (x := x)
  have l7 := x_nr (x := x)
  obtain ⟨y, hy, d1⟩ := Wrong_call x hx
  have hyp := hy.pur
  have hyl := row_len hy
  have hlen := nlen hx
  cases hk : checkB x with
  | false =>
    have hw : wrongA x = [] := by rw [wrongA, hk]; rfl
    rw [hw] at hyl
    have e0 : (([] : List Int).length : Int) = 0 := rfl
    rw [e0] at hyl
    rw [hk] at hsm d1
    rw [call_run comp10 (Nat.le_of_ble_eq_true rfl)]
    simp (maxSteps := 10000000) [-List.getD_eq_getElem?_getD, -boxA, -loadA, code10, hbox, l0, l7, hp, hsm, hs, d1, hyl, hyp]
  | true =>
    have f := check_fine hk
    have hl4 := f.n4
    have hw : wrongA x = x.bk.wrongL := by rw [wrongA, hk]; rfl
    rw [hw] at hy hyl
    rw [hk] at hsm d1
    have d2 := Right_1 hx hk
    rw [nil_true] at d2
    have h62 : x.bk.ns.length ≤ 62 := by show x.ns.length ≤ 62; omega
    have hwn := Go.Office.wrong_nil f.bk h62
    obtain ⟨_, tw⟩ := Go.Office.wrong_told f.bk h62
    have hT : x.bk.ns.length = x.ns.length := rfl
    rw [hT] at tw
    have hp64 : 2 ^ x.ns.length ≤ 16 := Nat.pow_le_pow_right (by decide) hl4
    have hpos : 0 < 2 ^ x.ns.length := Nat.two_pow_pos _
    have hTn := turn_call n ((2 ^ x.ns.length : Nat) : Int) (by omega)
    obtain ⟨r1, r2⟩ := turn_range n ((2 ^ x.ns.length : Nat) : Int) (by omega)
    obtain ⟨s, hs'⟩ := Int.eq_ofNat_of_zero_le r1
    rw [hs'] at hTn r2
    have hs2 : s < 2 ^ x.ns.length := by omega
    obtain ⟨z, hz', d4⟩ := bits_call s (by omega) x.ns.length (by omega)
    have hzp := hz'.pur
    have hblen := Go.Least.bits_len s x.ns.length
    have hwl := tw.len
    have d5 := without_call x hx (by omega) (bitsL s x.ns.length) z hz' (by omega)
    have d6 := without_call x hx (by omega) x.bk.wrongL y hy (by omega)
    have o5 := left_ok hx (bitsL s x.ns.length)
    have o6 := left_ok hx x.bk.wrongL
    have d7 := Right_1 o5 (left_check hk _)
    have d8 := Right_1 o6 (left_check hk _)
    rw [left_bk] at d7 d8
    rw [show (!(x.bk.left (bitsL s x.ns.length)).tr.isEmpty) = x.bk.okW (bitsL s x.ns.length) from rfl] at d7
    rw [show (!(x.bk.left x.bk.wrongL).tr.isEmpty) = x.bk.okW x.bk.wrongL from rfl, tw.fine] at d8
    have p5 := av_pur o5
    have p6 := av_pur o6
    have o1 := ord_call x.bk.wrongL y hy (by omega) x.ns.length (by omega) (by omega)
    rw [inc_ord _ _ 0 _ (by omega) (Int.le_refl _) tw.inc] at o1
    have d9 := shorter_call (bitsL s x.ns.length) x.bk.wrongL z y hz' hy (by omega) (by omega)
    have hl := tw.least s hs2
    have hemp : ((x.bk.wrongL.length : Int) == 0) = x.bk.okW [] := by
      rw [Bool.eq_iff_iff, Go.Office.okW_iff, Go.Office.left_nil, ← hwn, ← List.length_eq_zero_iff]; simp
    have hsh : IntKind.wrap .i64 ((2 : Int) ^ min x.ns.length (IntKind.bits .i64)) = ((2 ^ x.ns.length : Nat) : Int) := by
      have : min x.ns.length (IntKind.bits .i64) = x.ns.length := by
        show min _ 64 = _
        omega
      rw [this, show ((2 : Int) ^ x.ns.length) = ((2 ^ x.ns.length : Nat) : Int) from by norm_cast]
      exact wrap_small (by omega) (by omega)
    have hneg : ¬ (x.ns.length : Int) < 0 := by omega
    generalize x.bk.okW (bitsL s x.ns.length) = f2 at *
    generalize shorterL (bitsL s x.ns.length) x.bk.wrongL = sh at *
    generalize x.bk.okW [] = f0 at *
    generalize (x.left x.bk.wrongL).av = A1 at *
    generalize (x.left (bitsL s x.ns.length)).av = A2 at *
    generalize 2 ^ x.ns.length = P at *
    rw [call_run comp10 (Nat.le_of_ble_eq_true rfl)]
    cases f2 <;> cases sh <;> cases f0 <;> first | (simp at hl; done) | simp (maxSteps := 10000000) [-List.getD_eq_getElem?_getD, -boxA, -loadA, -setAt, -List.all_eq_true, code10, hbox, l0, l7, hp, hsm, hs, d1, d2, d4, d5, d6, d7, d8, d9, hyl, hyp, hzp, hlen, hneg, hsh, hTn, p5, p6, o1, hemp]
end Go.Ai
