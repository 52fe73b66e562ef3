/- This text shows what the reference answers: Fits, Wrong, Bar. No conditions of its own. -/
import Derived.Test.YtogfbfpinhcajaaDoorRefB
import Derived.Test.YtogfbfpinhcajaaDoorLawsD
set_option linter.unusedSimpArgs false
set_option linter.unusedVariables false
set_option maxRecDepth 100000
set_option linter.unusedSimpArgs false
set_option linter.unusedVariables false
/-! The reference's Fits. -/
namespace Go.Ai
open Go.Part (Sp Cp Bk truths cnt at' vals)
theorem rWith_call (x : PB) (hx : x.Ok) (hl : x.copies.length < 1000) (c : CpV) (hc : c.Ok) : call Cv 79 [x.av, c.av] = some (x.having (x.copies ++ [c])).av := by
  have hvc := hx.vrow.cell
  have hvp := hx.vrow.pur
  have hrc := hc.row.cell
  have hrp := hc.row.pur
  have hcv : AV.cells x.vr = [x.vr] := by
    rcases hx.vrow with ⟨h, _⟩ | ⟨h, _⟩ | ⟨_, _, h⟩ <;> rw [h] <;> rfl
  have hn : x.copies ++ [c] ≠ [] := by simp
  have hb : x.copies.length * 32 ≤ 140737488355328 := by omega
  have hb2 : (x.copies.length + 1) * 32 ≤ 140737488355328 := by omega
  rw [call_run comp79 (Nat.le_of_ble_eq_true rfl)]
  rcases hx.crow with ⟨hr, he⟩ | ⟨hr, he⟩ | ⟨cc, hcc, hr⟩
  · have he' : x.copies = [] := by simpa using he
    simp (maxSteps := 10000000) [-List.getD_eq_getElem?_getD, code79, PB.av, PB.cells, CpV.av, PB.having, rowK, hn, he', hr, hvc, hvp, hrc, hrp, fillE, AV.isAgg, appA, elemsA, isSl, grown]
  · have he' : x.copies = [] := by simpa using he
    simp (maxSteps := 10000000) [-List.getD_eq_getElem?_getD, code79, PB.av, PB.cells, CpV.av, PB.having, rowK, hn, he', hr, hvc, hvp, hrc, hrp, fillE, AV.isAgg, appA, elemsA, isSl, grown]
  · by_cases he' : x.copies = []
    · simp (maxSteps := 10000000) [-List.getD_eq_getElem?_getD, code79, PB.av, PB.cells, CpV.av, PB.having, rowK, hn, he', hr, hvc, hvp, hrc, hrp, fillE, AV.isAgg, appA, elemsA, isSl, grown]
    · simp (maxSteps := 10000000) [-List.getD_eq_getElem?_getD, code79, PB.av, PB.cells, CpV.av, PB.having, rowK, hn, he', hr, hvc, hvp, hrc, hrp, fillE, AV.isAgg, appA, elemsA, isSl, grown, hb, hb2]
theorem more_R {x : PB} (hc : checkOk x = true) {c : CpV} (hq : copyOk x c = true) : ChkR (x.more c) := by
  have h := (chk_of hc).toR
  have hco := copyOk_iff hq
  refine ⟨h.N, h.V, h.step, h.ch, h.pf, h.spans, h.wide, fun d hd => ?_⟩
  rcases List.mem_append.1 (show d ∈ x.copies ++ [c] from hd) with hd | hd
  · exact h.copies d hd
  · rw [List.mem_singleton.1 hd]; exact hco
theorem rFits_call (x : PB) (hx : x.Ok) (c : CpV) (hcx : c.Ok) : call Cv 32 [x.av, c.av] = some (.tup [.bool (fitsP x c), I (ansE x (copyOk x c))]) := by
  obtain ⟨r0, hr0, h1, hrp⟩ := asked_call_ref x hx (copyOk x c)
  have w1 := rCopy_call x hx c hcx
  have hvc := hx.vrow.cell
  have hcc := hx.crow.cell
  have hvp := hx.vrow.pur
  have hcp := hx.crow.pur
  have hrc := hcx.row.cell
  have hrq := hcx.row.pur
  by_cases he : ansE x (copyOk x c) = 0
  · obtain ⟨hc, hq, hT⟩ := ansE_zero he
    have hk := chk_of hc
    have hnc := hk.nc
    have hw := rWith_call x hx (by omega) c hcx
    rw [show x.having (x.copies ++ [c]) = x.more c from rfl] at hw
    have ho := more_ok hx (by omega) hcx
    have hR := more_R hc hq
    obtain ⟨r, hr, hp⟩ := pieces_call (x.more c) ho hR 0 (by decide)
    have hl := rowG_len hr
    rw [List.length_map, Pp_len hR 0, outB_zero] at hl
    rw [fitsP_iff hc hq]
    rw [he] at h1 ⊢
    rw [hq] at h1 w1
    have hvp2 := ho.vrow.pur
    have hcp2 := ho.crow.pur
    have hvc2 := ho.vrow.cell
    have hcc2 := ho.crow.cell
    have e5 : ((0 : Nat) : Int) = 0 := rfl
    have hg : decide (((Ts (x.more c) noneF).length : Int) > 0) = decide (Ts (x.more c) noneF ≠ []) := by
      rw [decide_eq_decide, ← List.length_pos_iff]; omega
    rw [← hg]
    simp only [PB.av, PB.cells, CpV.av, e5] at h1 w1 hw hp
    by_cases hm : ((Ts (x.more c) noneF).length : Int) > 0
    · rw [decide_eq_true hm]
      generalize ((Ts (x.more c) noneF).length : Int) = lT at *
      generalize x.more c = u at *
      have hm' : 0 < lT := hm
      rw [call_run comp32 (Nat.le_of_ble_eq_true rfl)]
      simp (maxSteps := 10000000) [-List.getD_eq_getElem?_getD, ret2, ret3, retc2, -List.all_eq_true, code32, PB.av, PB.cells, CpV.av, hvc, hcc, hvp, hcp, hrc, hrq, w1, h1, hrp, hw, hp, hl, hvp2, hcp2, hvc2, hcc2, hm, hm']
    · rw [decide_eq_false hm]
      generalize ((Ts (x.more c) noneF).length : Int) = lT at *
      generalize x.more c = u at *
      have hm' : ¬ 0 < lT := hm
      rw [call_run comp32 (Nat.le_of_ble_eq_true rfl)]
      simp (maxSteps := 10000000) [-List.getD_eq_getElem?_getD, ret2, ret3, retc2, -List.all_eq_true, code32, PB.av, PB.cells, CpV.av, hvc, hcc, hvp, hcp, hrc, hrq, w1, h1, hrp, hw, hp, hl, hvp2, hcp2, hvc2, hcc2, hm, hm']
  · have hf : fitsP x c = false := by simp [fitsP, he]
    rw [hf]
    have hne : (ansE x (copyOk x c) != 0) = true := by simpa using he
    simp only [PB.av, PB.cells, CpV.av] at h1 w1
    generalize ansE x (copyOk x c) = W at *
    generalize copyOk x c = b1 at *
    rw [call_run comp32 (Nat.le_of_ble_eq_true rfl)]
    simp (maxSteps := 10000000) [-List.getD_eq_getElem?_getD, ret2, ret3, retc2, -List.all_eq_true, code32, PB.av, PB.cells, CpV.av, hvc, hcc, hvp, hcp, hrc, hrq, w1, h1, hrp, hne]
end Go.Ai

set_option maxRecDepth 100000
set_option linter.unusedSimpArgs false
set_option linter.unusedVariables false
/-! The reference's Wrong. -/
namespace Go.Ai
open Go.Part (Sp Cp Bk truths cnt at' vals rightK)
open Go.Least (hasB bitsL betterG refG beats shorterL)
theorem shl4 {T : Nat} (h : T ≤ 4) : binA .shl (I 1) (I (T : Int)) = some (I ((2 ^ T : Nat) : Int)) := by
  match T, h with
  | 0, _ => rfl
  | 1, _ => rfl
  | 2, _ => rfl
  | 3, _ => rfl
  | 4, _ => rfl
theorem mem_bits {set T k : Nat} (hk : k < T) : ((k : Int) ∈ bitsL set T) ↔ hasB set k = true := by
  rw [bitsL, Least.mem_sel]
  constructor
  · rintro ⟨j, h1, h2, h3, h4⟩
    have : j = k := by omega
    rw [← this]; exact h4
  · intro h
    exact ⟨k, rfl, by omega, by omega, h⟩
theorem Ts_out {x : PB} (h : Chk x) {out out' : Nat → Bool} (ho : ∀ k, k < x.copies.length → out k = out' k) : (Ts x out ≠ []) ↔ (Ts x out' ≠ []) := by
  have hr : ∀ v i n, rightK out v i n (x.copies.map CpV.cp) 0 = rightK out' v i n (x.copies.map CpV.cp) 0 := fun v i n => right_congr _ _ v i n _ 0 fun j _ hj => ho j (by rw [List.length_map] at hj; omega)
  constructor
  · exact ne_of_sub (Ts_sub h (x' := x) (out' := out') rfl rfl rfl rfl rfl fun v i n hh => by rw [← hr]; exact hh)
  · exact ne_of_sub (Ts_sub h (x' := x) (out' := out) rfl rfl rfl rfl rfl fun v i n hh => by rw [hr]; exact hh)
theorem ok_bits {x : PB} (h : Chk x) (set : Nat) : okL x (bitsL set x.copies.length) = decide (Ts x (outB set) ≠ []) := by
  rw [okL, decide_eq_decide]
  refine Ts_out h fun k hk => ?_
  rw [butF, outB]
  have := mem_bits (set := set) (T := x.copies.length) hk
  by_cases hh : hasB set k = true
  · rw [hh, decide_eq_true (this.2 hh)]
  · rw [Bool.not_eq_true] at hh
    rw [hh, decide_eq_false]
    intro hm
    rw [this.1 hm] at hh
    cases hh
def head34 (r : AV) (best : Option (List Int)) (T : Nat) (k : Int) : Env := mkE 45 .any [(8, I k), (7, .bool best.isSome), (6, r), (5, I T), (1, .box 0 0)]
theorem bits_len (set T : Nat) : (bitsL set T).length ≤ T := Least.sel_len _ T 0
theorem loop34 (x : PB) (hx : x.Ok) (h : Chk x) : ∀ (m k : Nat) (best : Option (List Int)) (r : AV), k + m = 2 ^ x.copies.length → IsRow 1 (ints (best.getD [])) r → (best.getD []).length ≤ 4 →
    ∃ L r', run Cv 34 (.loop keep34_0 body34_0) (head34 r best x.copies.length k) (stX x) = some (.ex 0, mkE 45 .any L, stX x) ∧ gt (mkE 45 .any L) 6 = r' ∧ gt (mkE 45 .any L) 7 = .bool ((List.range' k m).foldl (betterG (okL x) x.copies.length) best).isSome ∧ IsRow 1 (ints (((List.range' k m).foldl (betterG (okL x) x.copies.length) best).getD [])) r'
  | 0, k, best, r, hk, hr, hl => by
    have hnc := h.nc
    have h1 : ¬ (k : Int) < ((2 ^ x.copies.length : Nat) : Int) := by omega
    have hsh := shl4 hnc
    have e : (List.range' k 0).foldl (betterG (okL x) x.copies.length) best = best := rfl
    rw [e]
    have key : ∃ L, run Cv 34 (.loop keep34_0 body34_0) (head34 r best x.copies.length k) (stX x) = some (.ex 0, mkE 45 .any L, stX x) ∧ gt (mkE 45 .any L) 6 = r ∧ gt (mkE 45 .any L) 7 = .bool best.isSome := by
      generalize ((2 ^ x.copies.length : Nat) : Int) = P at *
      rw [run_loop]
      simp (maxSteps := 10000000) [-List.getD_eq_getElem?_getD, -binA, -binI, bi_lss, body34_0, keep34_0, head34, stX, hsh, h1]
      exact ⟨_, rfl, by simp (maxSteps := 10000000) [-List.getD_eq_getElem?_getD, ], by simp (maxSteps := 10000000) [-List.getD_eq_getElem?_getD, ]⟩
    obtain ⟨L, g1, g2, g3⟩ := key
    exact ⟨L, r, g1, g2, g3, hr⟩
  | m + 1, k, best, r, hk, hr, hl => by
    have hnc := h.nc
    have h16 : 2 ^ x.copies.length ≤ 16 := by
      calc 2 ^ x.copies.length ≤ 2 ^ 4 := Nat.pow_le_pow_right (by omega) hnc
        _ = 16 := by decide
    have h1 : (k : Int) < ((2 ^ x.copies.length : Nat) : Int) := by omega
    have hsh := shl4 hnc
    have hw : IntKind.wrap .i64 ((k : Int) + 1) = k + 1 := wrap_small (by omega) (by omega)
    obtain ⟨y, hy, hbit⟩ := bits_call k (by omega) x.copies.length (by omega)
    have hbl := bits_len k x.copies.length
    obtain ⟨rp, hrp, hpc⟩ := pieces_call x hx h.toR k (by omega)
    have hpl := rowG_len hrp
    rw [List.length_map, Pp_len h.toR k] at hpl
    have hok := ok_bits h k
    have hyp := hy.pur
    have hyu := hy.under
    have hrr := hr.pur
    have hru := hr.under
    have hvp := hx.vrow.pur
    have hcp := hx.crow.pur
    have hvu := hx.vrow.under
    have hcu := hx.crow.under
    have hrl : (List.range' k (m + 1)).foldl (betterG (okL x) x.copies.length) best = (List.range' (k + 1) m).foldl (betterG (okL x) x.copies.length) (betterG (okL x) x.copies.length best k) := by
      rw [List.range'_succ, List.foldl_cons]
    rw [hrl]
    have hg : decide (((Ts x (outB k)).length : Int) > 0) = okL x (bitsL k x.copies.length) := by
      rw [hok, decide_eq_decide, ← List.length_pos_iff]; omega
    have hg' : decide (0 < (Ts x (outB k)).length) = okL x (bitsL k x.copies.length) := by
      rw [hok, decide_eq_decide, ← List.length_pos_iff]
    simp only [PB.av, PB.cells] at hpc
    have hbet : betterG (okL x) x.copies.length best k = if beats best (bitsL k x.copies.length) && okL x (bitsL k x.copies.length) then some (bitsL k x.copies.length) else best := rfl
    have hbs : ∀ b, best = some b → call Cv 54 [y, r] = some (.bool (shorterL (bitsL k x.copies.length) b)) := fun b hb => by
      subst hb
      exact shorter_call _ _ y r hy hr (by omega) (by simp only [Option.getD_some] at hl; omega)
    by_cases hgo : (beats best (bitsL k x.copies.length) && okL x (bitsL k x.copies.length)) = true
    · rw [if_pos hgo] at hbet
      rw [hbet]
      obtain ⟨hb1, hb2⟩ := Bool.and_eq_true_iff.1 hgo
      rw [hb2] at hg hg'
      have key : run Cv 34 (.loop keep34_0 body34_0) (head34 r best x.copies.length k) (stX x) = run Cv 34 (.loop keep34_0 body34_0) (head34 y (some (bitsL k x.copies.length)) x.copies.length (k + 1)) (stX x) := by
        generalize (Ts x (outB k)).length = lT at *
        generalize ((2 ^ x.copies.length : Nat) : Int) = P at *
        cases best with
        | none =>
          rw [run_loop]
          generalize MC.loop keep34_0 body34_0 = L
          simp (maxSteps := 10000000) [-List.getD_eq_getElem?_getD, -binA, -binI, bi_lss, bi_gtr, bi_add, -List.all_eq_true, body34_0, keep34_0, head34, stX, PB.cells, hsh, h1, hw, hbit, hpc, hpl, hg, hg', hyp, hyu, hrr, hru, hvp, hcp, hvu, hcu]
        | some b =>
          have hsc := hbs b rfl
          rw [show shorterL (bitsL k x.copies.length) b = true from hb1] at hsc
          rw [run_loop]
          generalize MC.loop keep34_0 body34_0 = L
          simp (maxSteps := 10000000) [-List.getD_eq_getElem?_getD, -binA, -binI, bi_lss, bi_gtr, bi_add, -List.all_eq_true, body34_0, keep34_0, head34, stX, PB.cells, hsh, h1, hw, hbit, hpc, hpl, hg, hg', hyp, hyu, hrr, hru, hvp, hcp, hvu, hcu, hsc]
      rw [key]
      exact loop34 x hx h m (k + 1) (some (bitsL k x.copies.length)) y (by omega) hy (by simp only [Option.getD_some]; omega)
    · rw [if_neg hgo] at hbet
      rw [hbet]
      rw [Bool.not_eq_true] at hgo
      have key : run Cv 34 (.loop keep34_0 body34_0) (head34 r best x.copies.length k) (stX x) = run Cv 34 (.loop keep34_0 body34_0) (head34 r best x.copies.length (k + 1)) (stX x) := by
        generalize (Ts x (outB k)).length = lT at *
        generalize ((2 ^ x.copies.length : Nat) : Int) = P at *
        cases best with
        | none =>
          rw [show beats none (bitsL k x.copies.length) = true from rfl, Bool.true_and] at hgo
          rw [hgo] at hg hg'
          rw [run_loop]
          generalize MC.loop keep34_0 body34_0 = L
          simp (maxSteps := 10000000) [-List.getD_eq_getElem?_getD, -binA, -binI, bi_lss, bi_gtr, bi_add, -List.all_eq_true, body34_0, keep34_0, head34, stX, PB.cells, hsh, h1, hw, hbit, hpc, hpl, hg, hg', hyp, hyu, hrr, hru, hvp, hcp, hvu, hcu]
        | some b =>
          have hsc := hbs b rfl
          rw [show beats (some b) (bitsL k x.copies.length) = shorterL (bitsL k x.copies.length) b from rfl] at hgo
          cases hs1 : shorterL (bitsL k x.copies.length) b with
          | true =>
            rw [hs1] at hsc hgo
            rw [Bool.true_and] at hgo
            rw [hgo] at hg hg'
            rw [run_loop]
            generalize MC.loop keep34_0 body34_0 = L
            simp (maxSteps := 10000000) [-List.getD_eq_getElem?_getD, -binA, -binI, bi_lss, bi_gtr, bi_add, -List.all_eq_true, body34_0, keep34_0, head34, stX, PB.cells, hsh, h1, hw, hbit, hpc, hpl, hg, hg', hyp, hyu, hrr, hru, hvp, hcp, hvu, hcu, hsc]
          | false =>
            rw [hs1] at hsc
            rw [run_loop]
            generalize MC.loop keep34_0 body34_0 = L
            simp (maxSteps := 10000000) [-List.getD_eq_getElem?_getD, -binA, -binI, bi_lss, bi_gtr, bi_add, -List.all_eq_true, body34_0, keep34_0, head34, stX, PB.cells, hsh, h1, hw, hbit, hpc, hpl, hyp, hyu, hrr, hru, hvp, hcp, hvu, hcu, hsc]
      rw [key]
      exact loop34 x hx h m (k + 1) best r (by omega) hr hl
theorem rWrong_call (x : PB) (hx : x.Ok) : ∃ y, IsRow 1 (ints (wrongL x)) y ∧ call Cv 34 [x.av] = some (.tup [y, I (wrongE x)]) := by
  have hchk := rCheck_call x hx
  have hvc := hx.vrow.cell
  have hcc := hx.crow.cell
  have hvp := hx.vrow.pur
  have hcp := hx.crow.pur
  have hlen := clen hx
  simp only [PB.av, PB.cells] at hchk
  cases hc : checkOk x with
  | false =>
    rw [hc] at hchk
    simp only [Bool.false_eq_true, if_false] at hchk
    have hw : wrongL x = [] := by simp [wrongL, wrongO, hc]
    have he : wrongE x = 50 := by simp [wrongE, hc]
    rw [hw, he]
    refine ⟨.nils, nils_row, ?_⟩
    rw [call_run comp34 (Nat.le_of_ble_eq_true rfl)]
    simp (maxSteps := 10000000) [-List.getD_eq_getElem?_getD, ret2, ret3, retc2, code34, PB.av, PB.cells, hvc, hcc, hvp, hcp, hchk]
  | true =>
    rw [hc] at hchk
    simp only [if_true] at hchk
    have h := chk_of hc
    have hnc := h.nc
    obtain ⟨L, r', g1, g6, g7, hr⟩ := loop34 x hx h (2 ^ x.copies.length) 0 none .nils (by omega) nils_row (by simp)
    have hO : (List.range' 0 (2 ^ x.copies.length)).foldl (betterG (okL x) x.copies.length) none = wrongO x := by
      have : wrongO x = refG (okL x) x.copies.length := by
        rw [← Least.wrong_eq (okL x) (by omega)]
        simp [wrongO, hc]
      rw [this]; rfl
    rw [hO] at g7 hr
    have hrp := hr.pur
    have e5 : ((0 : Nat) : Int) = 0 := rfl
    have hin := fun E (hE : mask keep34_0 E = _) => run_at g1 hE
    simp only [stX, head34, keep34_0, PB.cells, e5, Option.isSome_none] at hin
    have he : wrongE x = if (wrongO x).isSome then 0 else 52 := by simp [wrongE, hc]
    rw [he]
    cases hw : wrongO x with
    | none =>
      rw [hw] at g7
      simp only [Option.isSome_none] at g7
      have hL : wrongL x = [] := by simp [wrongL, hw]
      rw [hL]
      refine ⟨.nils, nils_row, ?_⟩
      rw [call_run comp34 (Nat.le_of_ble_eq_true rfl)]
      simp (maxSteps := 10000000) [-List.getD_eq_getElem?_getD, ret2, ret3, retc2, -List.all_eq_true, code34, PB.av, PB.cells, hvc, hcc, hvp, hcp, hchk, hlen, keep34_0, hin, g6, g7]
    | some w =>
      rw [hw] at g7
      simp only [Option.isSome_some] at g7
      refine ⟨r', hr, ?_⟩
      rw [call_run comp34 (Nat.le_of_ble_eq_true rfl)]
      simp (maxSteps := 10000000) [-List.getD_eq_getElem?_getD, ret2, ret3, retc2, -List.all_eq_true, code34, PB.av, PB.cells, hvc, hcc, hvp, hcp, hchk, hlen, keep34_0, hin, g6, g7, hrp]
end Go.Ai

set_option maxRecDepth 100000
set_option linter.unusedSimpArgs false
set_option linter.unusedVariables false
/-! The reference's Bar. -/
namespace Go.Ai
open Go.Part (Sp Cp Bk truths cnt at' vals rightK okP)
open Go.Least (hasB)
theorem Ts_eq {x : PB} {out out' : Nat → Bool} (ho : ∀ k, k < x.copies.length → out k = out' k) : Ts x out = Ts x out' := by
  unfold Ts truths
  congr 1
  funext q n
  unfold okP
  rw [right_congr out out' _ _ n (bkOf x).copies 0 fun j _ hj => ho j (by
    have e : (bkOf x).copies.length = x.copies.length := by show (x.copies.map CpV.cp).length = _; rw [List.length_map]
    omega)]
theorem gat_out (l : List Int) {k : Nat} (hk : k < 62) : hasB (gatN 0 l) k = butF l k := by
  have := gatN_bit l 0 k hk
  simp only [Nat.zero_testBit, Bool.false_or] at this
  have h62 : ((k : Nat) : Int) < 62 := by omega
  simp only [hasB, butF, Int.toNat_natCast, this, h62, decide_true, Bool.and_true]
  simp
def st36 (x : PB) (c : CpV) : St := { boxes := [x.cells, [I c.cp.voice, c.row]] }
def head36 (r : AV) (k : Int) : Env := mkE 59 .any [(11, I k), (10, .box 1 0), (9, r), (2, .box 0 0)]
theorem loop36 (x : PB) (hx : x.Ok) (h : Chk x) (set : Nat) (r : AV) (hr : IsRow 1 ((Pp x set).map pieceV) r) (c : CpV) (hc : c.Ok) (v : Nat) (hv : c.cp.voice = v) (hvl : v < x.spans.length) (hcl : c.cp.notes.length = x.N.toNat) : ∀ (l : List Int) (k : Nat), k ≤ c.cp.notes.length → c.cp.notes.drop k = l →
    match barF (Ts x (outB set)) x.N.toNat v l k with
    | none => ∃ L σ, run Cv 36 (.loop keep36_0 body36_0) (head36 r k) (st36 x c) = some (.ex 0, mkE 59 .any L, σ)
    | some j => ∃ L σ, run Cv 36 (.loop keep36_0 body36_0) (head36 r k) (st36 x c) = some (.rt, mkE 59 .any ((5, I 0) :: (4, I j) :: L), σ)
  | [], k, hk, hd => by
    obtain rfl := drop_nil hk hd
    have hN := h.N
    have h1 : ¬ ((c.cp.notes.length : Nat) : Int) < x.N := by omega
    simp only [barF]
    rw [run_loop]
    simp (maxSteps := 10000000) [-List.getD_eq_getElem?_getD, body36_0, keep36_0, head36, st36, PB.cells, h1]
    exact ⟨_, rfl⟩
  | n :: l, k, hk, hd => by
    obtain ⟨hlt, ha, hd'⟩ := head_drop hd
    have hN := h.N
    have h1 : ((k : Nat) : Int) < x.N := by omega
    have hw := wrap_succ hlt (by omega)
    have hix : ixsA 1 c.row (I k) = some (.rp [I n] 0) := by
      obtain ⟨cc, hcc, hr⟩ := hc.row.sl (by intro hn; simp [ints] at hn; rw [hn] at hlt; simp at hlt)
      rw [hr]
      simp [ixsA, ints, hlt, ha, AV.cells]
    have hkN : k < x.N.toNat := by omega
    have hm := many_call (Pp x set) (by have := Pp_short h.toR set; omega) r hr v k (Pp_place h.toR hvl hkN) n
    rw [cntP_cnt h.toR hvl hkN] at hm
    have hvu := hx.vrow.under
    have hcu := hx.crow.under
    have hru := hr.under
    have hrp := hr.pur
    have hcru := hc.row.under
    have hcrp := hc.row.pur
    simp only [barF]
    generalize hc0 : cnt (Ts x (outB set)) (v * x.N.toNat + k) n = c0 at *
    by_cases hz : c0 = 0
    · rw [if_pos hz]
      simp only
      have hz' : ((c0 : Int) == 0) = true := by simp [hz]
      rw [run_loop]
      simp (maxSteps := 10000000) [-List.getD_eq_getElem?_getD, -List.all_eq_true, -ixsA, body36_0, keep36_0, head36, st36, PB.cells, hv, h1, hix, hm, hz', hrp, hcrp]
      exact ⟨_, rfl⟩
    · rw [if_neg hz]
      have hz' : ((c0 : Int) == 0) = false := by simpa using hz
      have key : run Cv 36 (.loop keep36_0 body36_0) (head36 r k) (st36 x c) = run Cv 36 (.loop keep36_0 body36_0) (head36 r (k + 1)) (st36 x c) := by
        rw [run_loop]
        generalize MC.loop keep36_0 body36_0 = L
        simp (maxSteps := 10000000) [-List.getD_eq_getElem?_getD, -List.all_eq_true, -ixsA, body36_0, keep36_0, head36, st36, PB.cells, hv, h1, hix, hm, hz', hrp, hcrp, hw, hvu, hcu, hru, hcru]
      rw [key]
      exact loop36 x hx h set r hr c hc v hv hvl hcl l (k + 1) hlt hd'
end Go.Ai
