/- This text shows what the questions answer. No conditions of its own. -/
import Derived.Test.YtogfbfpinhcajaaDoorFnC
set_option linter.unusedSimpArgs false
set_option linter.unusedVariables false
set_option maxRecDepth 100000
set_option linter.unusedSimpArgs false
set_option linter.unusedVariables false
/-! In how many truths each note is at a place. -/
namespace Go.Ai
open Go.Part (Sp Cp Bk at' okP rightK stepOk moveOk dfs places vals truths cnt worst maxTo)
def openV (x : PB) (m : AV) (P : List (List Int)) : AV := .agg (x.cells ++ [m, tP P])
structure MOk (m : AV) : Prop where
  cell : m.isCell = true
  pur : ∀ σ n, pur σ (n + 1) m = some (m, false)
  under : ∀ a b c d n, under a b c d (n + 1) m = true
  cells : m.cells = [m]
theorem mapv_ok (ks vs : List AV) : MOk (.mapv ks vs) := ⟨rfl, fun _ _ => rfl, fun _ _ _ _ _ => rfl, rfl⟩
theorem tP_cell (T : List (List Int)) : (tP T).isCell = true := by unfold tP; split <;> rfl
theorem tP_cells (T : List (List Int)) : (tP T).cells = [tP T] := by unfold tP; split <;> rfl
theorem tP_under (T : List (List Int)) (a b c d n : Nat) : under a b c d (n + 1) (tP T) = true := by unfold tP; split <;> rfl
theorem tP_pur (σ : St) (n : Nat) (T : List (List Int)) : pur σ (n + 1) (tP T) = some (tP T, false) := by unfold tP; split <;> rfl
theorem tP_len (T : List (List Int)) : lenA (tP T) = some (I T.length) := by
  unfold tP
  by_cases h : T = []
  · subst h; rfl
  · rw [if_neg h]; simp
theorem ixa_int {b off len sz : Nat} {n : Int} (h0 : 0 ≤ n) (h1 : n < len) : ixaA len sz (.box b off) (I n) = some (.box b (off + n.toNat * sz)) := by
  simp only [ixaA, h0, h1, and_self, if_true, ptrAdd]
def incL (cs : List Int) (n : Int) : List Int := cs.set n.toNat (cs.getD n.toNat 0 + 1)
def st69 (x : PB) (m : AV) (P : List (List Int)) (v i : Nat) (cs : List Int) : St := { boxes := [x.cells ++ [m, tP P], [I v, I i], [I 0, I 0, I 0, I 0, I 0, I 0, I 0, I 0, I 0, I 0, I 0, I 0, I 0], ints cs] }
def head69 (P : List (List Int)) (k : Int) : Env := mkE 28 .any [(11, I k), (10, I P.length), (9, tP P), (5, .box 3 0), (4, .box 2 0), (3, .box 1 0)]
theorem loop69 (x : PB) (hx : x.Ok) (m : AV) (hm : MOk m) (P : List (List Int)) (hP : P.length < 2 ^ 47) (hr : ∀ p ∈ P, p.length = 9) (v i : Nat) (hv : v < 3) (hi : i < 3) (hn : ∀ p ∈ P, 0 ≤ at' p (i * 3 + v) ∧ at' p (i * 3 + v) ≤ 12) :
    ∀ (l : List (List Int)) (k : Nat) (cs : List Int), k ≤ P.length → P.drop k = l → cs.length = 13 → (∀ c ∈ cs, 0 ≤ c ∧ c ≤ k) →
      run Cv 69 (.loop keep69_0 body69_0) (head69 P k) (st69 x m P v i cs) = some (.ex 0, mkE 28 .any [(12, .bool false), (11, I P.length), (10, I P.length), (9, tP P), (5, .box 3 0), (4, .box 2 0), (3, .box 1 0)], st69 x m P v i (l.foldl (fun cs p => incL cs (at' p (i * 3 + v))) cs))
  | [], k, cs, hk, h, hl, hc => by
    obtain rfl := drop_nil hk h
    rw [run_loop]
    simp (maxSteps := 10000000) [-List.getD_eq_getElem?_getD, body69_0, keep69_0, head69, st69]
  | p :: l, k, cs, hk, h, hl, hc => by
    obtain ⟨hlt, ha, hd⟩ := head_drop h
    have hpm : p ∈ P := ha ▸ List.getElem_mem _
    have h9 := hr p hpm
    have hn' := hn p hpm
    have hne : P ≠ [] := by rintro rfl; simp at hlt
    have htP : tP P = .sl 9 (P.map fun p => .agg (ints p)) .no := by unfold tP; rw [if_neg hne]
    have hix : ixsA 9 (tP P) (I k) = some (.rp (ints p) 0) := by
      have e1 : ((k : Nat) : Int) < ((P.map fun p => AV.agg (ints p)).length : Int) := by rw [List.length_map]; omega
      have e2 : (P.map fun p => AV.agg (ints p))[k]? = some (.agg (ints p)) := by
        rw [List.getElem?_map, List.getElem?_eq_getElem hlt, ha]; rfl
      rw [htP]
      simp [ixsA, hlt, ha, AV.cells]
    have hw := wrap_succ hlt (by omega)
    have hI9 : (ints p).length = 9 := by simp [ints, h9]
    have hIc := List.all_eq_true.1 (ints_cell p)
    have ht9 : List.take 9 (ints p) = ints p := List.take_of_length_le (by omega)
    have hs9 : setAt [I 0, I 0, I 0, I 0, I 0, I 0, I 0, I 0, I 0] 0 (ints p) = ints p := by
      simp [setAt, hI9]
    have hld : (ints p)[i * 3 + v]? = some (I (at' p (i * 3 + v))) := by
      have : i * 3 + v < p.length := by omega
      simp [ints, at', this]
    generalize hnn : at' p (i * 3 + v) = n at *
    have hcl : n.toNat < cs.length := by omega
    have hcm : cs.getD n.toNat 0 ∈ cs := by
      rw [List.getD_eq_getElem?_getD, List.getElem?_eq_getElem hcl]; exact List.getElem_mem _
    have hcb := hc _ hcm
    have hI13 : n.toNat + 1 ≤ (ints cs).length := by simp [ints]; omega
    have hlc : (ints cs)[n.toNat]? = some (I (cs.getD n.toNat 0)) := by
      simp [ints, hcl]
    have hsc := set_ints cs n.toNat (cs.getD n.toNat 0 + 1) hcl
    have wc : IntKind.wrap .i64 (cs.getD n.toNat 0 + 1) = cs.getD n.toNat 0 + 1 := wrap_small (by omega) (by omega)
    have hinc : cs.set n.toNat (cs.getD n.toNat 0 + 1) = incL cs n := rfl
    have hvu := hx.vrow.under
    have hcu := hx.crow.under
    have hmu := hm.under
    have htu := tP_under P
    have x1 := fun q off => ixa_lit (p := q) (off := off) hi 3
    have x2 := fun q off => ixa_lit (p := q) (off := off) hv 1
    have x3 := fun q off => ixa_int (b := q) (off := off) (sz := 1) (len := 13) hn'.1 (by omega)
    have e0 : 0 + i * 3 + v * 1 = i * 3 + v := by omega
    have e1 : i * 3 + v * 1 = i * 3 + v := by omega
    have iu := fun a b c d n p => ints_under a b c d n p
    generalize hc0 : cs.getD n.toNat 0 = c0 at *
    have key : run Cv 69 (.loop keep69_0 body69_0) (head69 P k) (st69 x m P v i cs) = run Cv 69 (.loop keep69_0 body69_0) (head69 P (k + 1)) (st69 x m P v i (incL cs n)) := by
      rw [run_loop]
      generalize MC.loop keep69_0 body69_0 = L
      simp (maxSteps := 10000000) [-List.getD_eq_getElem?_getD, -ixsA, -ixaA, -setAt, -List.all_eq_true, body69_0, keep69_0, head69, st69, PB.cells, hlt, hix, hw, hI9, ht9, hs9, hld, hI13, hlc, hsc, wc, hinc, hvu, hcu, hmu, htu, x1, x2, x3, e0, e1, iu, ints_cell]
    rw [key, List.foldl_cons, hnn]
    refine loop69 x hx m hm P hP hr v i hv hi hn l (k + 1) (incL cs n) hlt hd (by simp [incL, hl]) ?_
    intro c hcc
    rcases List.mem_or_eq_of_mem_set hcc with h | h
    · have := hc c h; omega
    · omega
theorem foldl_append' {α β : Type} (f : α → β → α) (a : α) (l : List β) (b : β) : (l ++ [b]).foldl f a = f (l.foldl f a) b := by simp
theorem count_fold (c : Nat) : ∀ P : List (List Int), (∀ p ∈ P, 0 ≤ at' p c ∧ at' p c ≤ 12) → P.foldl (fun cs p => incL cs (at' p c)) (List.replicate 13 0) = (List.range 13).map fun n => ((cnt P c (n : Nat) : Nat) : Int) := by
  intro P
  have key : ∀ (P : List (List Int)) (f : Nat → Nat), (∀ p ∈ P, 0 ≤ at' p c ∧ at' p c ≤ 12) → P.foldl (fun cs p => incL cs (at' p c)) ((List.range 13).map fun n => ((f n : Nat) : Int)) = (List.range 13).map fun n => ((f n + cnt P c (n : Nat) : Nat) : Int) := by
    intro P
    induction P with
    | nil => intro f _; simp [cnt]
    | cons p P ih =>
      intro f h
      have hp := h p (.head _)
      have hi : incL ((List.range 13).map fun n => ((f n : Nat) : Int)) (at' p c) = (List.range 13).map fun n => (((if at' p c = (n : Nat) then 1 else 0) + f n : Nat) : Int) := by
        obtain ⟨k, hk⟩ := Int.eq_ofNat_of_zero_le hp.1
        rw [hk]
        refine List.ext_getElem? fun j => ?_
        have hk13 : k < 13 := by omega
        by_cases hj : j < 13
        · simp only [incL, Int.toNat_natCast, List.getElem?_set, List.length_map, List.length_range, hk13, if_true, List.getElem?_map, List.getElem?_range hj, Option.map_some, List.getD_eq_getElem?_getD, List.getElem?_range hk13, Option.getD_some]
          by_cases hkj : k = j
          · subst hkj
            simp; omega
          · have : ¬ ((k : Int) = (j : Int)) := by omega
            simp [hkj, this]
        · rw [List.getElem?_eq_none (by simp [incL]; omega), List.getElem?_eq_none (by simp; omega)]
      rw [List.foldl_cons, hi, ih _ fun q hq => h q (.tail _ hq)]
      refine List.map_congr_left fun n _ => ?_
      rw [Part.cnt_cons]
      congr 1
      omega
  intro h
  have := key P (fun _ => 0) h
  simp only [Nat.zero_add] at this
  rw [← this]
  rfl
def cntsL (P : List (List Int)) (c : Nat) : List Int := (List.range 13).map fun n => ((cnt P c (n : Nat) : Nat) : Int)
theorem notes_call (x : PB) (hx : x.Ok) (m : AV) (hm : MOk m) (P : List (List Int)) (hP : P.length < 2 ^ 47) (hr : ∀ p ∈ P, p.length = 9) (v i : Nat) (hv : v < 3) (hi : i < 3) (hn : ∀ p ∈ P, 0 ≤ at' p (i * 3 + v) ∧ at' p (i * 3 + v) ≤ 12) :
    call Cv 69 [openV x m P, .agg [I v, I i]] = some (.agg (ints (cntsL P (i * 3 + v)))) := by
  have h := fun E (hE : mask keep69_0 E = _) => run_at (loop69 x hx m hm P hP hr v i hv hi hn P 0 (List.replicate 13 0) (Nat.zero_le _) rfl (by simp) (by simp)) hE
  rw [count_fold _ _ hn] at h
  have e5 : ((0 : Nat) : Int) = 0 := rfl
  have ez : ints (List.replicate 13 0) = [I 0, I 0, I 0, I 0, I 0, I 0, I 0, I 0, I 0, I 0, I 0, I 0, I 0] := rfl
  simp only [st69, head69, keep69_0, e5, ez, PB.cells, List.cons_append, List.nil_append] at h
  have hl := tP_len P
  have hvc := hx.vrow.cell
  have hcc := hx.crow.cell
  have htc := tP_cell P
  have hmc := hm.cell
  have hI : (ints (cntsL P (i * 3 + v))).length = 13 := by simp [ints, cntsL]
  have hI2 : List.take 13 (ints (cntsL P (i * 3 + v))) = ints (cntsL P (i * 3 + v)) := List.take_of_length_le (by omega)
  have hs : setAt [I 0, I 0, I 0, I 0, I 0, I 0, I 0, I 0, I 0, I 0, I 0, I 0, I 0] 0 (ints (cntsL P (i * 3 + v))) = ints (cntsL P (i * 3 + v)) := by simp [setAt, hI]
  have hp := fun (σ : St) n => ints_pur σ n (cntsL P (i * 3 + v))
  have hcu := ints_cell (cntsL P (i * 3 + v))
  rw [show ((List.range 13).map fun n => ((cnt P (i * 3 + v) (n : Nat) : Nat) : Int)) = cntsL P (i * 3 + v) from rfl] at h
  generalize cntsL P (i * 3 + v) = C at *
  rw [call_run comp69 (Nat.le_of_ble_eq_true rfl)]
  simp (maxSteps := 10000000) [-List.getD_eq_getElem?_getD, -setAt, -List.all_eq_true, code69, openV, PB.cells, hvc, hcc, htc, hmc, hl, keep69_0, h, hI, hI2, hs, hp, hcu]
end Go.Ai

set_option maxRecDepth 100000
set_option linter.unusedSimpArgs false
set_option linter.unusedVariables false
/-! The greatest; the worst; what is asked; ways. -/
namespace Go.Ai
open Go.Part (Sp Cp Bk at' okP rightK stepOk moveOk dfs places vals truths cnt worst maxTo)
theorem ret2 {e : Env} {σ : St} {a b : Tmp} : retA [(a, none), (b, none)] e σ = some (.tup [gt e a, gt e b]) := rfl
theorem ret3 {e : Env} {σ : St} {a b c : Tmp} : retA [(a, none), (b, none), (c, none)] e σ = some (.tup [gt e a, gt e b, gt e c]) := rfl
theorem retc2 {e : Env} {σ : St} {a b : Tmp} {n : Option Nat} : retA [(a, some n), (b, none)] e σ = (loadA σ n (gt e a)).map fun v => .tup [v, gt e b] := by
  unfold retA
  rw [rets_cell, rets_val, rets_nil]
  cases loadA σ n (gt e a) <;> rfl
def maxL (l : List Int) (a : Int) : Int := l.foldl (fun a n => if a < n then n else a) a
def head104 (l0 : List Int) (a n k : Int) : Env := mkE 18 .any [(9, I k), (8, I n), (7, .sl 1 (ints l0) .no), (0, I a)]
theorem loop104 (l0 : List Int) (hl : l0.length < 2 ^ 47) : ∀ (l : List Int) (k : Nat) (a : Int), k ≤ l0.length → l0.drop k = l →
    run Cv 104 (.loop keep104_0 body104_0) (head104 l0 a l0.length k) {} = some (.ex 0, mkE 18 .any [(10, .bool false), (9, I l0.length), (8, I l0.length), (7, .sl 1 (ints l0) .no), (0, I (maxL l a))], {})
  | [], k, a, hk, h => by
    obtain rfl := drop_nil hk h
    rw [run_loop]
    simp (maxSteps := 10000000) [-List.getD_eq_getElem?_getD, body104_0, keep104_0, head104, maxL]
  | n :: l, k, a, hk, h => by
    obtain ⟨hlt, ha, hd⟩ := head_drop h
    have hw := wrap_succ hlt (by omega)
    have key : run Cv 104 (.loop keep104_0 body104_0) (head104 l0 a l0.length k) {} = run Cv 104 (.loop keep104_0 body104_0) (head104 l0 (if a < n then n else a) l0.length (k + 1)) {} := by
      rw [run_loop]
      generalize MC.loop keep104_0 body104_0 = L
      simp (maxSteps := 10000000) [-List.getD_eq_getElem?_getD, body104_0, keep104_0, head104, ints, hlt, ha, hw, foldA, max2]
    rw [key]
    exact loop104 l0 hl l (k + 1) _ hlt hd
theorem greatest_call (l : List Int) (hl : l.length < 2 ^ 47) : call Cv 104 [I 0, .sl 1 (ints l) .no] = some (I (maxL l 0)) := by
  have h := fun E (hE : mask keep104_0 E = _) => run_at (loop104 l hl l 0 0 (Nat.zero_le _) rfl) hE
  have e5 : ((0 : Nat) : Int) = 0 := rfl
  have hil : (ints l).length = l.length := by simp [ints]
  simp only [head104, keep104_0, e5] at h
  rw [call_run comp104 (Nat.le_of_ble_eq_true rfl)]
  simp (maxSteps := 10000000) [-List.getD_eq_getElem?_getD, code104, keep104_0, h, hil]
theorem maxL_app (l m : List Int) (a : Int) : maxL (l ++ m) a = maxL m (maxL l a) := by simp [maxL]
theorem max_cnts (f : Nat → Nat) : ∀ n, maxL ((List.range n).map fun k => ((f k : Nat) : Int)) 0 = ((maxTo f n : Nat) : Int)
  | 0 => rfl
  | n + 1 => by
    rw [List.range_succ, List.map_append, maxL_app, max_cnts f n, maxTo]
    simp only [List.map_cons, List.map_nil, maxL, List.foldl_cons, List.foldl_nil]
    split <;> omega
theorem chunk_ints : ∀ l : List Int, chunk 1 false l.length (ints l) = ints l
  | [] => rfl
  | n :: l => by
    have := chunk_ints l
    simp only [ints] at this ⊢
    simp [chunk, cellV, this]
theorem worst_call (x : PB) (hx : x.Ok) (m : AV) (hm : MOk m) (P : List (List Int)) (hP : P.length < 2 ^ 47) (hr : ∀ p ∈ P, p.length = 9) (v i : Nat) (hv : v < 3) (hi : i < 3) (hn : ∀ p ∈ P, 0 ≤ at' p (i * 3 + v) ∧ at' p (i * 3 + v) ≤ 12) :
    call Cv 95 [openV x m P, .agg [I v, I i]] = some (I (worst P (i * 3 + v))) := by
  have h1 := notes_call x hx m hm P hP hr v i hv hi hn
  have h2 := greatest_call (cntsL P (i * 3 + v)) (by simp [cntsL])
  have h3 := max_cnts (fun n => cnt P (i * 3 + v) (n : Nat)) 13
  rw [show ((List.range 13).map fun n => ((cnt P (i * 3 + v) (n : Nat) : Nat) : Int)) = cntsL P (i * 3 + v) from rfl] at h3
  rw [h3] at h2
  have hw : ((worst P (i * 3 + v) : Nat) : Int) = ((maxTo (fun n => cnt P (i * 3 + v) (n : Nat)) 13 : Nat) : Int) := rfl
  rw [← hw] at h2
  have hcl : (cntsL P (i * 3 + v)).length = 13 := by simp [cntsL]
  have hch := chunk_ints (cntsL P (i * 3 + v))
  rw [hcl] at hch
  have hvc := hx.vrow.cell
  have hcc := hx.crow.cell
  have htc := tP_cell P
  have hmc := hm.cell
  have hvp := hx.vrow.pur
  have hcp := hx.crow.pur
  have htp := fun σ n => tP_pur σ n P
  have hmp := hm.pur
  have hI : (ints (cntsL P (i * 3 + v))).length = 13 := by simp [ints, cntsL]
  have hs : setAt [I 0, I 0, I 0, I 0, I 0, I 0, I 0, I 0, I 0, I 0, I 0, I 0, I 0] 0 (ints (cntsL P (i * 3 + v))) = ints (cntsL P (i * 3 + v)) := by simp [setAt, hI]
  have hp := fun (σ : St) n => ints_pur σ n (cntsL P (i * 3 + v))
  have hcu := ints_cell (cntsL P (i * 3 + v))
  simp only [openV, PB.cells, List.cons_append, List.nil_append] at h1
  generalize cntsL P (i * 3 + v) = C at *
  rw [call_run comp95 (Nat.le_of_ble_eq_true rfl)]
  simp (maxSteps := 10000000) [-List.getD_eq_getElem?_getD, -setAt, -List.all_eq_true, code95, openV, PB.cells, hvc, hcc, htc, hmc, hvp, hcp, htp, hmp, h1, h2, hI, hs, hp, hcu, hch, arrA]
theorem none_call : call Cv 66 [] = some (.agg [.fn (.func 91) [] []]) := by
  rw [call_run comp66 (Nat.le_of_ble_eq_true rfl)]
  simp (maxSteps := 10000000) [-List.getD_eq_getElem?_getD, code66, fillA, setAt]
def noneF : Nat → Bool := fun _ => false
theorem none_lf (m : Nat) : Lf (.fn (.func 91) [] []) noneF m where
  cell := rfl
  cells := rfl
  under _ _ _ _ _ := rfl
  call k σ _ := by
    have h : call Cv 91 [I k] = some (.bool false) := by
      rw [call_run comp91 (Nat.le_of_ble_eq_true rfl)]
      simp (maxSteps := 10000000) [-List.getD_eq_getElem?_getD, code91]
    simp (maxSteps := 10000000) [-List.getD_eq_getElem?_getD, h, noneF]
def mapOf (x : PB) (out : Nat → Bool) : AV := .mapv (builtM out (x.copies.map CpV.cp) 0 map0).ks (builtM out (x.copies.map CpV.cp) 0 map0).vs
def Ts (x : PB) (out : Nat → Bool) : List (List Int) := truths (bkOf x) out
def Ps (x : PB) (out : Nat → Bool) : List (List Int) := (Ts x out).map (pc x.N.toNat)
theorem opened_none (x : PB) (hx : x.Ok) (h : Chk x) : call Cv 65 [x.av, .agg [.fn (.func 91) [] []]] = some (openV x (mapOf x noneF) (Ps x noneF)) := opened_call x hx h _ _ (none_lf _)
theorem mapOf_ok (x : PB) (out : Nat → Bool) : MOk (mapOf x out) := mapv_ok _ _
theorem asked_bad (x : PB) (hx : x.Ok) (h : checkOk x = false) (is : Bool) : call Cv 68 [x.av, .bool is] = some (.tup [.agg zero8, I 50]) := by
  have h1 := check_call x hx
  have hvc := hx.vrow.cell
  have hcc := hx.crow.cell
  have hvp := hx.vrow.pur
  have hcp := hx.crow.pur
  simp only [h, PB.av, PB.cells, Bool.false_eq_true, if_false] at h1
  rw [call_run comp68 (Nat.le_of_ble_eq_true rfl)]
  simp (maxSteps := 10000000) [-List.getD_eq_getElem?_getD, ret2, ret3, retc2, code68, PB.av, PB.cells, hvc, hcc, hvp, hcp, h1, fillA, setAt, zero8]
theorem asked_no (x : PB) (hx : x.Ok) (h : checkOk x = true) : call Cv 68 [x.av, .bool false] = some (.tup [.agg zero8, I 51]) := by
  have h1 := check_call x hx
  have hvc := hx.vrow.cell
  have hcc := hx.crow.cell
  have hvp := hx.vrow.pur
  have hcp := hx.crow.pur
  simp only [h, PB.av, PB.cells, if_true] at h1
  rw [call_run comp68 (Nat.le_of_ble_eq_true rfl)]
  simp (maxSteps := 10000000) [-List.getD_eq_getElem?_getD, ret2, ret3, retc2, code68, PB.av, PB.cells, hvc, hcc, hvp, hcp, h1, fillA, setAt, zero8]
theorem Ps_nil (x : PB) (out : Nat → Bool) : Ps x out = [] ↔ Ts x out = [] := by simp [Ps]
theorem asked_yes (x : PB) (hx : x.Ok) (h : checkOk x = true) : call Cv 68 [x.av, .bool true] = some (.tup [openV x (mapOf x noneF) (Ps x noneF), I (if Ts x noneF = [] then 52 else 0)]) := by
  have h1 := check_call x hx
  have h2 := opened_none x hx (chk_of h)
  have hvc := hx.vrow.cell
  have hcc := hx.crow.cell
  have hvp := hx.vrow.pur
  have hcp := hx.crow.pur
  have htc := tP_cell (Ps x noneF)
  have hmc := (mapOf_ok x noneF).cell
  have htp := fun σ n => tP_pur σ n (Ps x noneF)
  have hmp := (mapOf_ok x noneF).pur
  have hl := tP_len (Ps x noneF)
  simp only [h, PB.av, PB.cells, if_true] at h1
  simp only [openV, PB.av, PB.cells, List.cons_append, List.nil_append] at h2
  rw [call_run comp68 (Nat.le_of_ble_eq_true rfl)]
  by_cases hT : Ts x noneF = []
  · rw [(Ps_nil x noneF).2 hT] at *
    have e : ((([] : List (List Int)).length : Int) == 0) = true := rfl
    simp (maxSteps := 10000000) [-List.getD_eq_getElem?_getD, ret2, ret3, retc2, code68, openV, PB.av, PB.cells, hvc, hcc, hvp, hcp, htc, hmc, htp, hmp, h1, h2, hl, fillA, setAt, zero8, none_call, hT]
  · have e : (((Ps x noneF).length : Int) == 0) = false := by
      have : Ps x noneF ≠ [] := fun h => hT ((Ps_nil x noneF).1 h)
      have := List.length_pos_iff.2 this
      simp; exact fun h => hT ((Ps_nil x noneF).1 h)
    simp (maxSteps := 10000000) [-List.getD_eq_getElem?_getD, ret2, ret3, retc2, code68, openV, PB.av, PB.cells, hvc, hcc, hvp, hcp, htc, hmc, htp, hmp, h1, h2, hl, fillA, setAt, zero8, none_call, hT, e]
theorem ways_call (x : PB) (hx : x.Ok) : call Cv 19 [x.av] = some (.tup [I (if checkOk x then ((Ts x noneF).length : Int) else 0), I (if checkOk x then 0 else 50)]) := by
  have h1 := check_call x hx
  have hvc := hx.vrow.cell
  have hcc := hx.crow.cell
  have hvp := hx.vrow.pur
  have hcp := hx.crow.pur
  cases h : checkOk x with
  | false =>
    simp only [h, PB.av, PB.cells, Bool.false_eq_true, if_false] at h1
    rw [call_run comp19 (Nat.le_of_ble_eq_true rfl)]
    simp (maxSteps := 10000000) [-List.getD_eq_getElem?_getD, ret2, ret3, retc2, code19, PB.av, PB.cells, hvc, hcc, hvp, hcp, h1]
  | true =>
    have h2 := opened_none x hx (chk_of h)
    have hl := tP_len (Ps x noneF)
    have hl2 : (Ps x noneF).length = (Ts x noneF).length := by simp [Ps]
    simp only [h, PB.av, PB.cells, if_true] at h1
    simp only [openV, PB.av, PB.cells, List.cons_append, List.nil_append] at h2
    rw [call_run comp19 (Nat.le_of_ble_eq_true rfl)]
    simp (maxSteps := 10000000) [-List.getD_eq_getElem?_getD, ret2, ret3, retc2, code19, openV, PB.av, PB.cells, hvc, hcc, hvp, hcp, h1, h2, hl, hl2, none_call]
theorem rightP_call (x : PB) (hx : x.Ok) : call Cv 15 [x.av] = some (.tup [.bool (checkOk x && decide (Ts x noneF ≠ [])), I (if checkOk x then 0 else 50)]) := by
  have h1 := ways_call x hx
  have hvc := hx.vrow.cell
  have hcc := hx.crow.cell
  have hvp := hx.vrow.pur
  have hcp := hx.crow.pur
  simp only [PB.av, PB.cells] at h1
  have e : decide ((if checkOk x then ((Ts x noneF).length : Int) else 0) > 0) = (checkOk x && decide (Ts x noneF ≠ [])) := by
    cases h : checkOk x with
    | false => simp
    | true =>
      simp only [if_true, Bool.true_and, decide_eq_decide]
      rw [← List.length_pos_iff]; omega
  rw [call_run comp15 (Nat.le_of_ble_eq_true rfl)]
  rw [← e]
  generalize (if checkOk x then ((Ts x noneF).length : Int) else 0) = W at *
  generalize (if checkOk x then (0 : Int) else 50) = W2 at *
  simp (maxSteps := 10000000) [-List.getD_eq_getElem?_getD, ret2, ret3, retc2, code15, PB.av, PB.cells, hvc, hcc, hvp, hcp, h1]
end Go.Ai

set_option maxRecDepth 100000
set_option linter.unusedSimpArgs false
set_option linter.unusedVariables false
/-! Notes and Line. -/
namespace Go.Ai
open Go.Part (Sp Cp Bk at' okP rightK stepOk moveOk dfs places vals truths cnt worst maxTo)
def accV (l : List Int) : AV := if l = [] then .nils else .sl 1 (ints l) (.chain 0)
def chI (l : List Int) : List (Nat × Nat) := if l = [] then [] else [(l.length, 1)]
def rowF (l : List Int) : AV := if l = [] then .nils else .sl 1 (ints l) .full
theorem rowF_row (l : List Int) : IsRow 1 (ints l) (rowF l) := by
  unfold rowF
  by_cases h : l = []
  · subst h; exact nils_row
  · rw [if_neg h]; exact .inr (.inr ⟨.full, rfl, rfl⟩)
theorem rowF_pur (σ : St) (n : Nat) (l : List Int) : pur σ (n + 1) (rowF l) = some (rowF l, false) := by unfold rowF; split <;> rfl
theorem accV_len (l : List Int) : lenA (accV l) = some (I l.length) := by
  unfold accV
  by_cases h : l = []
  · subst h; rfl
  · rw [if_neg h]; simp [ints]
theorem slc_acc (l : List Int) : slcA 1 (accV l) none (some (I l.length)) (some (I l.length)) = some (rowF l) := by
  unfold accV rowF
  by_cases h : l = []
  · subst h; rfl
  · rw [if_neg h, if_neg h]
    simp [slcA, boundA, ints]
    rw [List.take_of_length_le (by simp)]
theorem app_acc (bx : List (List AV)) (l : List Int) (n : Int) (hl : l.length < 100000) : appA { boxes := bx, chains := chI l } false 1 8 false (accV l) (.sl 1 [I n] .full) = some (accV (l ++ [n]), { boxes := bx, chains := chI (l ++ [n]) }) := by
  have hn : l ++ [n] ≠ [] := by simp
  have c1 : chI (l ++ [n]) = [(l.length + 1, 1)] := by unfold chI; rw [if_neg hn, List.length_append]; rfl
  have c2 : accV (l ++ [n]) = .sl 1 (ints l ++ [I n]) (.chain 0) := by unfold accV; rw [if_neg hn]; simp [ints]
  rw [c1, c2]
  by_cases h : l = []
  · subst h
    simp [appA, elemsA, accV, grown, chI, ints]
  · have c3 : accV l = .sl 1 (ints l) (.chain 0) := by unfold accV; rw [if_neg h]
    have c4 : chI l = [(l.length, 1)] := by unfold chI; rw [if_neg h]
    have hb : (l.length + 1) * 8 ≤ 140737488355328 := by omega
    simp [appA, elemsA, c3, c4, hb, ints]
theorem accV_under (l : List Int) (a b c d n : Nat) : under a b c d (n + 1) (accV l) = decide (l = [] ∨ 0 < b) := by
  unfold accV
  by_cases h : l = [] <;> simp [h, under]
theorem chI_len (l : List Int) : (chI l).length = if l = [] then 0 else 1 := by unfold chI; split <;> rfl
theorem accV_nil : accV [] = .nils := rfl
theorem chI_nil : chI [] = [] := rfl
/-! ### Notes -/
def posL (C : List Int) : Nat → List Int → List Int
  | _, [] => []
  | k, c :: l => (if 0 < c then [(k : Int)] else []) ++ posL C (k + 1) l
def bk21 (x : PB) (B : List AV) : List (List AV) := [x.cells, B]
def head21 (C acc : List Int) (k : Int) : Env := mkE 56 .any [(39, I k), (38, .agg (ints C)), (10, accV acc)]
def st21 (x : PB) (B : List AV) (acc : List Int) : St := { boxes := bk21 x B, chains := chI acc }
theorem loop21 (x : PB) (hx : x.Ok) (B : List AV) (hB : ∀ a b c d, B.all (under a b c d 6) = true) (C : List Int) (hC : C.length = 13) : ∀ (l : List Int) (k : Nat) (acc : List Int), k ≤ C.length → C.drop k = l → acc.length ≤ k →
    ∃ L, run Cv 21 (.loop keep21_0 body21_0) (head21 C acc k) (st21 x B acc) = some (.ex 0, mkE 56 .any L, st21 x B (acc ++ posL C k l)) ∧ gt (mkE 56 .any L) 10 = accV (acc ++ posL C k l)
  | [], k, acc, hk, h, ha => by
    obtain rfl := drop_nil hk h
    have hlt : ¬ ((C.length : Nat) : Int) < 13 := by omega
    rw [run_loop]
    simp (maxSteps := 10000000) [-List.getD_eq_getElem?_getD, body21_0, keep21_0, head21, st21, bk21, posL, hlt]
    exact ⟨_, rfl, by simp (maxSteps := 10000000) [-List.getD_eq_getElem?_getD, ]⟩
  | c :: l, k, acc, hk, h, hacc => by
    obtain ⟨hlt, ha, hd⟩ := head_drop h
    have hw := wrap_succ hlt (by omega)
    have hlt' : ((k : Nat) : Int) < 13 := by omega
    have hbytes : (acc.length + 1) * 8 ≤ 140737488355328 := by omega
    have hCk : C[k]? = some c := by rw [List.getElem?_eq_getElem hlt, ha]
    have hg : (ints C)[k]? = some (I c) := by
      simp only [ints, List.getElem?_map, hCk]; rfl
    have iv : ∀ (a b c d n : Nat) (p : List Int), (p.map fun n => I n).all (under a b c d (n + 1)) = true := fun a b c d n p => ints_under a b c d n p
    have hvu := hx.vrow.under
    have hcu := hx.crow.under
    have iu := fun a b c d n p => ints_under a b c d n p
    have key : run Cv 21 (.loop keep21_0 body21_0) (head21 C acc k) (st21 x B acc) = run Cv 21 (.loop keep21_0 body21_0) (head21 C (acc ++ if 0 < c then [(k : Int)] else []) (k + 1)) (st21 x B (acc ++ if 0 < c then [(k : Int)] else [])) := by
      rw [run_loop]
      generalize MC.loop keep21_0 body21_0 = L
      by_cases hp : 0 < c
      · by_cases ho' : acc = []
        · simp (maxSteps := 10000000) [-List.getD_eq_getElem?_getD, -List.all_eq_true, body21_0, keep21_0, head21, st21, bk21, PB.cells, hB, accV, chI, hlt', hg, ixvA, hp, hw, ho', hvu, hcu, iu, iv, hCk, fillE, AV.isAgg, appA, elemsA, grown, ints, @all_f 56 .any _ _ 10]
        · simp (maxSteps := 10000000) [-List.getD_eq_getElem?_getD, -List.all_eq_true, body21_0, keep21_0, head21, st21, bk21, PB.cells, hB, accV, chI, hlt', hg, ixvA, hp, hw, ho', hvu, hcu, iu, iv, hCk, fillE, AV.isAgg, appA, elemsA, grown, ints, hbytes]
      · by_cases ho' : acc = []
        · simp (maxSteps := 10000000) [-List.getD_eq_getElem?_getD, -List.all_eq_true, body21_0, keep21_0, head21, st21, bk21, PB.cells, hB, accV, chI, hlt', hg, ixvA, hp, hw, ho', hvu, hcu, iu]
        · simp (maxSteps := 10000000) [-List.getD_eq_getElem?_getD, -List.all_eq_true, body21_0, keep21_0, head21, st21, bk21, PB.cells, hB, accV, chI, hlt', hg, ixvA, hp, hw, ho', hvu, hcu, iu]
    rw [key]
    have := loop21 x hx B hB C hC l (k + 1) (acc ++ if 0 < c then [(k : Int)] else []) hlt hd (by split <;> simp <;> omega)
    simpa [posL, List.append_assoc] using this
end Go.Ai

set_option maxRecDepth 100000
set_option linter.unusedSimpArgs false
set_option linter.unusedVariables false
/-! Notes. -/
namespace Go.Ai
open Go.Part (Sp Cp Bk at' okP rightK stepOk moveOk dfs places vals truths cnt worst maxTo)
def ansE (x : PB) (is : Bool) : Int := if checkOk x then (if is then (if Ts x noneF = [] then 52 else 0) else 51) else 50
def askB (x : PB) (is : Bool) : AV := if checkOk x && is then openV x (mapOf x noneF) (Ps x noneF) else .agg zero8
theorem asked_call (x : PB) (hx : x.Ok) (is : Bool) : call Cv 68 [x.av, .bool is] = some (.tup [askB x is, I (ansE x is)]) := by
  unfold ansE askB
  cases h : checkOk x with
  | false => simpa using asked_bad x hx h is
  | true =>
    cases is with
    | false => simpa using asked_no x hx h
    | true => simpa using asked_yes x hx h
theorem askB_bad {x : PB} {is : Bool} (h : ansE x is ≠ 0) (h2 : ansE x is ≠ 52) : askB x is = .agg zero8 := by
  unfold ansE at h h2
  unfold askB
  cases hc : checkOk x <;> cases is <;> simp_all
theorem ansE_zero {x : PB} {is : Bool} (h : ansE x is = 0) : checkOk x = true ∧ is = true ∧ Ts x noneF ≠ [] := by
  unfold ansE at h
  cases hc : checkOk x <;> cases is <;> simp_all
theorem askB_good {x : PB} {is : Bool} (h : ansE x is = 0) : askB x is = openV x (mapOf x noneF) (Ps x noneF) := by
  obtain ⟨h1, h2, _⟩ := ansE_zero h
  simp [askB, h1, h2]
/-- Eight cells, whatever is answered. -/
theorem askB_cells (x : PB) (hx : x.Ok) (is : Bool) : ∃ B : List AV, askB x is = .agg B ∧ B.length = 8 ∧ B.all AV.isCell = true ∧ (∀ σ n, purAll (pur σ (n + 1)) B = some (B, false)) ∧ ∀ a b c d n, B.all (under a b c d (n + 1)) = true := by
  unfold askB
  split
  · refine ⟨_, rfl, rfl, ?_, fun σ n => ?_, fun a b c d n => ?_⟩
    · simp [PB.cells, hx.vrow.cell, hx.crow.cell, (mapOf_ok x noneF).cell, tP_cell]
    · simp [PB.cells, purAll, pur, hx.vrow.pur, hx.crow.pur, (mapOf_ok x noneF).pur, tP_pur]
    · have h1 := hx.vrow.under a b c d n
      have h2 := hx.crow.under a b c d n
      simp [PB.cells, under, h1, h2, (mapOf_ok x noneF).under, tP_under]
  · exact ⟨_, rfl, rfl, rfl, fun _ _ => rfl, fun _ _ _ _ _ => rfl⟩
def isPlace (x : PB) (v i : Int) : Bool := lie v 0 ((x.spans.length : Int) - 1) && lie i 0 (IntKind.wrap .i64 (x.N - 1))
def posOf (T : List (List Int)) (j : Nat) : List Int := posL (cntsL T j) 0 (cntsL T j)
theorem cnt_map {N : Nat} {T : List (List Int)} {V : Nat} (hT : ∀ q ∈ T, q.length = V * N) {v i : Nat} (hv : v < V) (hV : V ≤ 3) (hi : i < N) (hN : N ≤ 3) (n : Int) : cnt (T.map (pc N)) (i * 3 + v) n = cnt T (v * N + i) n := by
  have h1 : ∀ q ∈ T, at' (pc N q) (i * 3 + v) = at' q (v * N + i) := fun q hq => by
    have := pc_get (N := N) q (v := v) (i := i) (by omega) (by omega) hi
    rw [if_pos (by
      rw [hT q hq]
      calc v * N + i < v * N + N := by omega
        _ = (v + 1) * N := by rw [Nat.add_mul, Nat.one_mul]
        _ ≤ V * N := Nat.mul_le_mul_right _ hv)] at this
    exact this
  simp only [cnt, List.filter_map, List.length_map]
  congr 1
  refine List.filter_congr fun q hq => ?_
  simp only [Function.comp, h1 q hq]
theorem cnts_map {N : Nat} {T : List (List Int)} {V : Nat} (hT : ∀ q ∈ T, q.length = V * N) {v i : Nat} (hv : v < V) (hV : V ≤ 3) (hi : i < N) (hN : N ≤ 3) : cntsL (T.map (pc N)) (i * 3 + v) = cntsL T (v * N + i) := by
  simp only [cntsL, cnt_map hT hv hV hi hN]
theorem worst_map {N : Nat} {T : List (List Int)} {V : Nat} (hT : ∀ q ∈ T, q.length = V * N) {v i : Nat} (hv : v < V) (hV : V ≤ 3) (hi : i < N) (hN : N ≤ 3) : worst (T.map (pc N)) (i * 3 + v) = worst T (v * N + i) := by
  unfold worst
  congr 1
  funext n
  exact cnt_map hT hv hV hi hN _
theorem Ts_mem {x : PB} (h : Chk x) {out : Nat → Bool} {q : List Int} (hq : q ∈ Ts x out) : Part.Piece (bkOf x) out q := (Part.truths_mem (by have := h.N; show 0 < x.N.toNat; omega) q).1 hq
theorem Ts_len {x : PB} (h : Chk x) {out : Nat → Bool} : ∀ q ∈ Ts x out, q.length = x.spans.length * x.N.toNat := fun q hq => (Ts_mem h hq).len
theorem Ts_note {x : PB} (h : Chk x) {out : Nat → Bool} {q : List Int} (hq : q ∈ Ts x out) {v i : Nat} (hv : v < x.spans.length) (hi : i < x.N.toNat) : 0 ≤ at' q (v * x.N.toNat + i) ∧ at' q (v * x.N.toNat + i) ≤ 12 := by
  have hs : (bkOf x).spans[v]? = some x.spans[v] := List.getElem?_eq_getElem hv
  have h1 := (Ts_mem h hq).span v i _ hs hi
  have h2 := h.spans _ (List.getElem_mem hv)
  have e : (bkOf x).N = x.N.toNat := rfl
  rw [e] at h1
  omega
theorem Ps_note {x : PB} (h : Chk x) {out : Nat → Bool} {v i : Nat} (hv : v < x.spans.length) (hi : i < x.N.toNat) : ∀ p ∈ Ps x out, 0 ≤ at' p (i * 3 + v) ∧ at' p (i * 3 + v) ≤ 12 := by
  intro p hp
  obtain ⟨q, hq, rfl⟩ := List.mem_map.1 hp
  have h1 := h.V; have h2 := h.N
  have h3 := Ts_len h q hq
  have := pc_get (N := x.N.toNat) q (v := v) (i := i) (by omega) (by omega) hi
  rw [if_pos (by
      rw [h3]
      calc v * x.N.toNat + i < v * x.N.toNat + x.N.toNat := by omega
        _ = (v + 1) * x.N.toNat := by rw [Nat.add_mul, Nat.one_mul]
        _ ≤ x.spans.length * x.N.toNat := Nat.mul_le_mul_right _ hv)] at this
  rw [show at' (pc x.N.toNat q) (i * 3 + v) = _ from this]
  exact Ts_note h hq hv hi
theorem Ps_nine (x : PB) (out : Nat → Bool) : ∀ p ∈ Ps x out, p.length = 9 := fun p hp => by
  obtain ⟨q, _, rfl⟩ := List.mem_map.1 hp
  exact pc_len _ _
theorem Ps_short {x : PB} (h : Chk x) (out : Nat → Bool) : (Ps x out).length < 2 ^ 47 := by
  have := truths_short h out
  have e : (Ps x out).length = (truths (bkOf x) out).length := by simp [Ps, Ts]
  omega
/-- How often each note is at a place of a book. -/
theorem notes_of (x : PB) (hx : x.Ok) (h : Chk x) (out : Nat → Bool) {v i : Nat} (hv : v < x.spans.length) (hi : i < x.N.toNat) : call Cv 69 [openV x (mapOf x out) (Ps x out), .agg [I v, I i]] = some (.agg (ints (cntsL (Ts x out) (v * x.N.toNat + i)))) := by
  have h1 := h.V; have h2 := h.N
  rw [notes_call x hx _ (mapOf_ok x out) _ (Ps_short h out) (Ps_nine x out) v i (by omega) (by omega) (Ps_note h hv hi)]
  rw [Ps, cnts_map (Ts_len h) hv h1.2 hi (by omega)]
theorem worst_of (x : PB) (hx : x.Ok) (h : Chk x) (out : Nat → Bool) {v i : Nat} (hv : v < x.spans.length) (hi : i < x.N.toNat) : call Cv 95 [openV x (mapOf x out) (Ps x out), .agg [I v, I i]] = some (I (worst (Ts x out) (v * x.N.toNat + i))) := by
  have h1 := h.V; have h2 := h.N
  rw [worst_call x hx _ (mapOf_ok x out) _ (Ps_short h out) (Ps_nine x out) v i (by omega) (by omega) (Ps_note h hv hi)]
  rw [Ps, worst_map (Ts_len h) hv h1.2 hi (by omega)]
theorem set20 (z a : AV) : setAt [z, z] 0 [a] = [a, z] := rfl
theorem set21 (a z b : AV) : setAt [a, z] 1 [b] = [a, b] := rfl
theorem notesP_call (x : PB) (hx : x.Ok) (v i : Int) : call Cv 21 [x.av, I v, I i] = some (.tup [rowF (if ansE x (isPlace x v i) = 0 then posOf (Ts x noneF) (v.toNat * x.N.toNat + i.toNat) else []), I (ansE x (isPlace x v i))]) := by
  have h1 := asked_call x hx (isPlace x v i)
  obtain ⟨B, hB, hl, hBc, hBp, hBu⟩ := askB_cells x hx (isPlace x v i)
  have w1 := within_call v 0 ((x.spans.length : Int) - 1)
  have w2 := within_call i 0 (IntKind.wrap .i64 (x.N - 1))
  have h4 := less_one hx.lv
  have hvl := vlen hx
  have hvc := hx.vrow.cell
  have hcc := hx.crow.cell
  have hvp := hx.vrow.pur
  have hcp := hx.crow.pur
  have hs : setAt [I 0, .nils, I 0, I 0, I 0, .nils, .nilm, .nils] 0 B = B := by simp [setAt, hl]
  have ht8 : List.take 8 B = B := List.take_of_length_le (by omega)
  have hpl : isPlace x v i = (lie v 0 ((x.spans.length : Int) - 1) && lie i 0 (IntKind.wrap .i64 (x.N - 1))) := rfl
  rw [hB] at h1
  simp only [PB.av, PB.cells] at h1
  by_cases he : ansE x (isPlace x v i) = 0
  · obtain ⟨hc, his, hT⟩ := ansE_zero he
    have hk := chk_of hc
    have hN := hk.N
    have hBe := askB_good he
    rw [hB] at hBe
    rw [hpl, Bool.and_eq_true] at his
    have hq1 := his.1
    have hq2 := his.2
    have hq1' := his.1
    have hq2' := his.2
    simp only [lie, Bool.and_eq_true, decide_eq_true_eq] at hq1 hq2
    rw [wrap_small (by omega) (by omega)] at hq2
    obtain ⟨v', rfl⟩ := Int.eq_ofNat_of_zero_le hq1.1
    obtain ⟨i', rfl⟩ := Int.eq_ofNat_of_zero_le hq2.1
    have h69 := notes_of x hx hk noneF (v := v') (i := i') (by omega) (by omega)
    rw [← hBe] at h69
    obtain ⟨L, hloop, hL⟩ := loop21 x hx B (fun a b c d => hBu a b c d 5) (cntsL (Ts x noneF) (v' * x.N.toNat + i')) (by simp [cntsL]) _ 0 [] (Nat.zero_le _) rfl (by simp)
    have hloop' := fun E (hE : mask keep21_0 E = _) => run_at hloop hE
    have e5 : ((0 : Nat) : Int) = 0 := rfl
    simp only [head21, st21, bk21, accV_nil, chI_nil, keep21_0, e5, PB.cells, List.nil_append] at hloop'
    rw [List.nil_append] at hL
    have hsl := slc_acc (posL (cntsL (Ts x noneF) (v' * x.N.toNat + i')) 0 (cntsL (Ts x noneF) (v' * x.N.toNat + i')))
    have hal := accV_len (posL (cntsL (Ts x noneF) (v' * x.N.toNat + i')) 0 (cntsL (Ts x noneF) (v' * x.N.toNat + i')))
    have hrp := fun σ n => rowF_pur σ n (posOf (Ts x noneF) (v' * x.N.toNat + i'))
    rw [if_pos he]
    simp only [posOf, Int.toNat_natCast] at hrp ⊢
    generalize cntsL (Ts x noneF) (v' * x.N.toNat + i') = C at *
    rw [hq1'] at w1
    rw [hq2'] at w2
    rw [hpl, hq1', hq2'] at h1
    simp only [Bool.and_self] at h1
    rw [hpl, hq1', hq2'] at he
    simp only [Bool.and_self] at he
    rw [he] at h1
    rw [hpl, hq1', hq2']
    simp only [Bool.and_self, he]
    rw [call_run comp21 (Nat.le_of_ble_eq_true rfl)]
    simp (maxSteps := 10000000) [-List.getD_eq_getElem?_getD, ret2, ret3, retc2, -setAt, -List.all_eq_true, code21, PB.av, PB.cells, hvc, hcc, hvp, hcp, h1, hl, hBc, hBp, hs, ht8, w1, w2, h4, hvl, h69, fillA, set20, set21, keep21_0, hloop', hL, hsl, hal, hrp]
  · rw [if_neg he]
    have hne : (ansE x (isPlace x v i) != 0) = true := by simpa using he
    rw [hpl] at h1 hne ⊢
    generalize ansE x (lie v 0 ((x.spans.length : Int) - 1) && lie i 0 (IntKind.wrap .i64 (x.N - 1))) = W at *
    rw [call_run comp21 (Nat.le_of_ble_eq_true rfl)]
    cases hq1 : lie v 0 ((x.spans.length : Int) - 1) with
    | false =>
      rw [hq1] at w1 h1
      simp only [Bool.false_and] at h1
      simp (maxSteps := 10000000) [-List.getD_eq_getElem?_getD, ret2, ret3, retc2, -setAt, -List.all_eq_true, code21, PB.av, PB.cells, hvc, hcc, hvp, hcp, h1, hl, hBc, hBp, hs, w1, h4, hvl, he, hne, rowF]
    | true =>
      rw [hq1] at w1 h1
      simp only [Bool.true_and] at h1
      cases hq2 : lie i 0 (IntKind.wrap .i64 (x.N - 1)) <;> rw [hq2] at w2 h1 <;>
        simp (maxSteps := 10000000) [-List.getD_eq_getElem?_getD, ret2, ret3, retc2, -setAt, -List.all_eq_true, code21, PB.av, PB.cells, hvc, hcc, hvp, hcp, h1, hl, hBc, hBp, hs, w1, w2, h4, hvl, he, hne, rowF]
end Go.Ai

set_option maxRecDepth 100000
set_option linter.unusedSimpArgs false
set_option linter.unusedVariables false
/-! Line. -/
namespace Go.Ai
open Go.Part (Sp Cp Bk at' okP rightK stepOk moveOk dfs places vals truths cnt worst maxTo)
theorem ints_app (a b : List Int) : ints (a ++ b) = ints a ++ ints b := by simp [ints]
theorem ints_one (n : Int) : ints [n] = [I n] := rfl
theorem ints_len (l : List Int) : (ints l).length = l.length := by simp [ints]
theorem ints_nil : ints [] = [] := rfl
theorem ints_emp {l : List Int} : ints l = [] ↔ l = [] := by simp [ints]
theorem ixa_rp {cs : List AV} {off len sz v : Nat} (h : v < len) : ixaA len sz (.rp cs off) (I v) = some (.rp cs (off + v * sz)) := by
  have h1 : (0 : Int) ≤ v := by omega
  have h2 : (v : Int) < (len : Int) := by omega
  simp only [ixaA, h1, h2, and_self, if_true, ptrAdd, Int.toNat_natCast]
def st24 (x : PB) (P : List (List Int)) (acc : List Int) : St := { boxes := [x.cells, x.cells ++ [mapOf x noneF, tP P]], chains := chI acc }
def head24 (x : PB) (v : Nat) (acc : List Int) (k : Int) : Env := mkE 60 .any [(27, I k), (26, I x.N), (8, accV acc), (6, .box 1 0), (1, I v)]
/-- Does the first truth's note stand at a place in all of them? -/
def knownB (T : List (List Int)) (q : List Int) (j : Nat) : Bool := decide (T.length ≤ cnt T j (at' q j))
theorem loop24 (x : PB) (hx : x.Ok) (h : Chk x) (q : List Int) (U : List (List Int)) (hT : Ts x noneF = q :: U) (v : Nat) (hv : v < x.spans.length) : ∀ (m k : Nat) (acc : List Int), k + m = x.N.toNat → acc.length ≤ k →
    ((∀ j, k ≤ j → j < x.N.toNat → knownB (Ts x noneF) q (v * x.N.toNat + j) = true) → ∃ L, run Cv 24 (.loop keep24_0 body24_0) (head24 x v acc k) (st24 x (Ps x noneF) acc) = some (.ex 0, mkE 60 .any L, st24 x (Ps x noneF) (acc ++ (List.range' k m).map fun j => at' q (v * x.N.toNat + j))) ∧ gt (mkE 60 .any L) 8 = accV (acc ++ (List.range' k m).map fun j => at' q (v * x.N.toNat + j))) ∧
    ((∃ j, k ≤ j ∧ j < x.N.toNat ∧ knownB (Ts x noneF) q (v * x.N.toNat + j) = false) → ∃ L σ, run Cv 24 (.loop keep24_0 body24_0) (head24 x v acc k) (st24 x (Ps x noneF) acc) = some (.rt, mkE 60 .any L, σ) ∧ gt (mkE 60 .any L) 4 = .nils ∧ gt (mkE 60 .any L) 5 = I 4)
  | 0, k, acc, hk, ha => by
    have hN := h.N
    refine ⟨fun _ => ?_, fun ⟨j, h1, h2, _⟩ => by omega⟩
    have hlt : ¬ ((k : Nat) : Int) < x.N := by omega
    rw [run_loop]
    simp (maxSteps := 10000000) [-List.getD_eq_getElem?_getD, body24_0, keep24_0, head24, st24, hlt]
    exact ⟨_, rfl, by simp (maxSteps := 10000000) [-List.getD_eq_getElem?_getD, ]⟩
  | m + 1, k, acc, hk, hacc => by
    have hN := h.N
    have hV := h.V
    have hkN : k < x.N.toNat := by omega
    have hlt : ((k : Nat) : Int) < x.N := by omega
    have hw : IntKind.wrap .i64 ((k : Int) + 1) = k + 1 := wrap_small (by omega) (by omega)
    have h69 := notes_of x hx h noneF hv hkN
    have hqm : q ∈ Ts x noneF := by rw [hT]; exact .head _
    have hn := Ts_note h hqm hv hkN
    have hPe : Ps x noneF = pc x.N.toNat q :: U.map (pc x.N.toNat) := by rw [Ps, hT]; rfl
    have hPn : Ps x noneF ≠ [] := by rw [hPe]; simp
    have htP : tP (Ps x noneF) = .sl 9 ((Ps x noneF).map fun p => .agg (ints p)) .no := by unfold tP; rw [if_neg hPn]
    have hix : ixsA 9 (tP (Ps x noneF)) (I 0) = some (.rp (ints (pc x.N.toNat q)) 0) := by
      rw [htP, hPe]
      simp [ixsA, AV.cells]
    have hql := Ts_len h q hqm
    have hld : (ints (pc x.N.toNat q))[k * 3 + v]? = some (I (at' q (v * x.N.toNat + k))) := by
      have := pc_get (N := x.N.toNat) q (v := v) (i := k) (by omega) (by omega) hkN
      rw [if_pos (by
        rw [hql]
        calc v * x.N.toNat + k < v * x.N.toNat + x.N.toNat := by omega
          _ = (v + 1) * x.N.toNat := by rw [Nat.add_mul, Nat.one_mul]
          _ ≤ x.spans.length * x.N.toNat := Nat.mul_le_mul_right _ hv)] at this
      have h9 : k * 3 + v < (pc x.N.toNat q).length := by rw [pc_len]; omega
      rw [List.getD_eq_getElem?_getD, List.getElem?_eq_getElem h9] at this
      simp only [ints, List.getElem?_map, List.getElem?_eq_getElem h9]
      simp at this
      rw [← this]; rfl
    have hcn : ∀ n : Int, 0 ≤ n → n ≤ 12 → ixvA 13 1 none (.agg (ints (cntsL (Ts x noneF) (v * x.N.toNat + k)))) (I n) = some (I (cnt (Ts x noneF) (v * x.N.toNat + k) n)) := fun n h0 h12 => by
      obtain ⟨n', rfl⟩ := Int.eq_ofNat_of_zero_le h0
      have h13 : n' < 13 := by omega
      have e1 : ((n' : Nat) : Int) < ((13 : Nat) : Int) := by omega
      simp only [ixvA, h0, e1, and_self, if_true, partA, Int.toNat_natCast, Nat.mul_one, ints, cntsL, List.getElem?_map, List.getElem?_range h13, Option.map_some]
    have hcn' := hcn _ hn.1 hn.2
    have hlT := tP_len (Ps x noneF)
    have hlP : (Ps x noneF).length = (Ts x noneF).length := by simp [Ps]
    rw [hlP] at hlT
    have hld' : loadA (st24 x (Ps x noneF) acc) none (.rp (ints (pc x.N.toNat q)) (k * 3 + v)) = some (I (at' q (v * x.N.toNat + k))) := hld
    have x1 := fun cs off => ixa_rp (cs := cs) (off := off) (len := 3) (sz := 3) (show k < 3 by omega)
    have x2 := fun cs off => ixa_rp (cs := cs) (off := off) (len := 3) (sz := 1) (show v < 3 by omega)
    have e0 : 0 + k * 3 + v * 1 = k * 3 + v := by omega
    have e1 : k * 3 + v * 1 = k * 3 + v := by omega
    have hvc := hx.vrow.cell
    have hcc := hx.crow.cell
    have hvp := hx.vrow.pur
    have hcp := hx.crow.pur
    have hvu := hx.vrow.under
    have hcu := hx.crow.under
    have hmp := (mapOf_ok x noneF).pur
    have hmu := (mapOf_ok x noneF).under
    have htp := fun σ n => tP_pur σ n (Ps x noneF)
    have htu := tP_under (Ps x noneF)
    have hbytes : (acc.length + 1) * 8 ≤ 140737488355328 := by omega
    have iv := fun a b c d n p => ints_under a b c d n p
    simp only [openV, PB.cells, List.cons_append, List.nil_append] at h69
    have hkn : knownB (Ts x noneF) q (v * x.N.toNat + k) = decide ((Ts x noneF).length ≤ cnt (Ts x noneF) (v * x.N.toNat + k) (at' q (v * x.N.toNat + k))) := rfl
    generalize hc0 : cnt (Ts x noneF) (v * x.N.toNat + k) (at' q (v * x.N.toNat + k)) = c0 at *
    generalize hq0 : at' q (v * x.N.toNat + k) = n at *
    generalize cntsL (Ts x noneF) (v * x.N.toNat + k) = C at *
    generalize hIp : ints (pc x.N.toNat q) = ip at *
    by_cases hkb : (Ts x noneF).length ≤ c0
    · have hlt2 : ¬ (c0 : Int) < ((Ts x noneF).length : Int) := by omega
      have key : run Cv 24 (.loop keep24_0 body24_0) (head24 x v acc k) (st24 x (Ps x noneF) acc) = run Cv 24 (.loop keep24_0 body24_0) (head24 x v (acc ++ [n]) (k + 1)) (st24 x (Ps x noneF) (acc ++ [n])) := by
        rw [run_loop]
        generalize MC.loop keep24_0 body24_0 = L
        by_cases ho' : acc = []
        · simp (maxSteps := 10000000) [-List.getD_eq_getElem?_getD, -List.all_eq_true, -ixsA, -ixaA, -setAt, body24_0, keep24_0, head24, st24, PB.cells, accV, chI, hlt, hix, x1, x2, e0, e1, hld, hvp, hcp, hmp, htp, h69, hcn', hlT, hlt2, fillA, set20, set21, hw, ho', hvu, hcu, hmu, htu, iv, fillE, AV.isAgg, appA, elemsA, grown, ints_app, ints_one, ints_len, ints_emp, @all_f 60 .any _ _ 8]
        · simp (maxSteps := 10000000) [-List.getD_eq_getElem?_getD, -List.all_eq_true, -ixsA, -ixaA, -setAt, body24_0, keep24_0, head24, st24, PB.cells, accV, chI, hlt, hix, x1, x2, e0, e1, hld, hvp, hcp, hmp, htp, h69, hcn', hlT, hlt2, fillA, set20, set21, hw, ho', hvu, hcu, hmu, htu, iv, fillE, AV.isAgg, appA, elemsA, grown, ints_app, ints_one, ints_len, ints_emp, hbytes]
      obtain ⟨i1, i2⟩ := loop24 x hx h q U hT v hv m (k + 1) (acc ++ [n]) (by omega) (by simp; omega)
      have e9 : (((k + 1 : Nat)) : Int) = (k : Int) + 1 := rfl
      rw [e9] at i1 i2
      refine ⟨fun hall => ?_, fun ⟨j, h1, h2, h3⟩ => ?_⟩
      · obtain ⟨L, g1, g2⟩ := i1 fun j h1 h2 => hall j (by omega) h2
        have er : (List.range' k (m + 1)).map (fun j => at' q (v * x.N.toNat + j)) = n :: (List.range' (k + 1) m).map fun j => at' q (v * x.N.toNat + j) := by
          rw [List.range'_succ, List.map_cons, hq0]
        rw [er, key]
        rw [List.append_assoc] at g1 g2
        exact ⟨L, g1, g2⟩
      · have hjk : j ≠ k := by
          rintro rfl
          rw [hkn, decide_eq_false_iff_not] at h3
          exact h3 hkb
        rw [key]
        exact i2 ⟨j, by omega, h2, h3⟩
    · have hlt2 : (c0 : Int) < ((Ts x noneF).length : Int) := by omega
      refine ⟨fun hall => ?_, fun _ => ?_⟩
      · have := hall k (Nat.le_refl _) hkN
        rw [hkn, decide_eq_true_eq] at this
        exact absurd this hkb
      · rw [run_loop]
        simp (maxSteps := 10000000) [-List.getD_eq_getElem?_getD, -List.all_eq_true, -ixsA, -ixaA, -setAt, body24_0, keep24_0, head24, st24, PB.cells, hlt, hix, x1, x2, e0, e1, hld, hvp, hcp, hmp, htp, h69, hcn', hlT, hlt2, fillA, set20, set21]
        exact ⟨_, rfl, by simp (maxSteps := 10000000) [-List.getD_eq_getElem?_getD, ], by simp (maxSteps := 10000000) [-List.getD_eq_getElem?_getD, ]⟩
def lineOf (T : List (List Int)) (N v : Nat) : Option (List Int) := match T with
  | [] => none
  | q :: _ => if (List.range N).all (fun j => knownB T q (v * N + j)) then some ((List.range' 0 N).map fun j => at' q (v * N + j)) else none
def isVoice (x : PB) (v : Int) : Bool := lie v 0 ((x.spans.length : Int) - 1)
def lineR (x : PB) (v : Int) : List Int × Int := if ansE x (isVoice x v) = 0 then (match lineOf (Ts x noneF) x.N.toNat v.toNat with
  | some l => (l, 0)
  | none => ([], 4)) else ([], ansE x (isVoice x v))
theorem lineP_call (x : PB) (hx : x.Ok) (v : Int) : call Cv 24 [x.av, I v] = some (.tup [rowF (lineR x v).1, I (lineR x v).2]) := by
  have h1 := asked_call x hx (isVoice x v)
  obtain ⟨B, hB, hl, hBc, hBp, hBu⟩ := askB_cells x hx (isVoice x v)
  have w1 := within_call v 0 ((x.spans.length : Int) - 1)
  have h4 := less_one hx.lv
  have hvl := vlen hx
  have hvc := hx.vrow.cell
  have hcc := hx.crow.cell
  have hvp := hx.vrow.pur
  have hcp := hx.crow.pur
  have hs : setAt [I 0, .nils, I 0, I 0, I 0, .nils, .nilm, .nils] 0 B = B := by simp [setAt, hl]
  have hpl : isVoice x v = lie v 0 ((x.spans.length : Int) - 1) := rfl
  rw [hB] at h1
  simp only [PB.av, PB.cells] at h1
  unfold lineR
  by_cases he : ansE x (isVoice x v) = 0
  · obtain ⟨hc, his, hT⟩ := ansE_zero he
    have hk := chk_of hc
    have hN := hk.N
    have hBe := askB_good he
    rw [hB] at hBe
    rw [hpl] at his
    have hq1 := his
    simp only [lie, Bool.and_eq_true, decide_eq_true_eq] at hq1
    obtain ⟨v', rfl⟩ := Int.eq_ofNat_of_zero_le hq1.1
    rw [if_pos he]
    simp only [openV, AV.agg.injEq] at hBe
    rw [he, hpl] at h1
    rw [his] at h1 w1
    obtain ⟨q, U, hqU⟩ : ∃ q U, Ts x noneF = q :: U := by
      cases hm : Ts x noneF with
      | nil => exact absurd hm hT
      | cons q U => exact ⟨q, U, rfl⟩
    obtain ⟨i1, i2⟩ := loop24 x hx hk q U hqU v' (by omega) x.N.toNat 0 [] (by omega) (by simp)
    have e5 : ((0 : Nat) : Int) = 0 := rfl
    rw [e5] at i1 i2
    by_cases hall : (List.range x.N.toNat).all (fun j => knownB (Ts x noneF) q (v' * x.N.toNat + j)) = true
    · obtain ⟨L, hloop, hL⟩ := i1 fun j _ hj => List.all_eq_true.1 hall j (List.mem_range.2 hj)
      have hlo : lineOf (Ts x noneF) x.N.toNat v' = some ((List.range' 0 x.N.toNat).map fun j => at' q (v' * x.N.toNat + j)) := by
        rw [hqU] at hall ⊢
        simp only [lineOf, hall, if_true]
      simp only [Int.toNat_natCast, hlo]
      rw [List.nil_append] at hloop hL
      generalize (List.range' 0 x.N.toNat).map (fun j => at' q (v' * x.N.toNat + j)) = F at *
      have hloop' := fun E (hE : mask keep24_0 E = _) => run_at hloop hE
      simp only [head24, st24, accV_nil, chI_nil, keep24_0, ← hBe] at hloop'
      simp only [PB.cells] at hloop'
      have hsl := slc_acc F
      have hal := accV_len F
      have hrp := fun σ n => rowF_pur σ n F
      rw [call_run comp24 (Nat.le_of_ble_eq_true rfl)]
      simp (maxSteps := 10000000) [-List.getD_eq_getElem?_getD, ret2, ret3, retc2, -setAt, -List.all_eq_true, code24, PB.av, PB.cells, hvc, hcc, hvp, hcp, h1, hl, hBc, hBp, hs, w1, h4, hvl, keep24_0, hloop', hL, hsl, hal, hrp]
    · obtain ⟨L, σ, hloop, hL4, hL5⟩ := i2 (by
        rw [Bool.not_eq_true, List.all_eq_false] at hall
        obtain ⟨j, hj, hjk⟩ := hall
        exact ⟨j, Nat.zero_le _, List.mem_range.1 hj, by simpa using hjk⟩)
      have hlo : lineOf (Ts x noneF) x.N.toNat v' = none := by
        rw [hqU] at hall ⊢
        rw [Bool.not_eq_true] at hall
        simp only [lineOf, hall]
        rfl
      simp only [Int.toNat_natCast, hlo]
      have hloop' := fun E (hE : mask keep24_0 E = _) => run_at hloop hE
      simp only [head24, st24, accV_nil, chI_nil, keep24_0, ← hBe] at hloop'
      simp only [PB.cells] at hloop'
      rw [call_run comp24 (Nat.le_of_ble_eq_true rfl)]
      simp (maxSteps := 10000000) [-List.getD_eq_getElem?_getD, ret2, ret3, retc2, -setAt, -List.all_eq_true, code24, PB.av, PB.cells, hvc, hcc, hvp, hcp, h1, hl, hBc, hBp, hs, w1, h4, hvl, keep24_0, hloop', hL4, hL5, rowF]
  · rw [if_neg he]
    have hne : (ansE x (isVoice x v) != 0) = true := by simpa using he
    rw [hpl] at h1 hne ⊢
    generalize ansE x (lie v 0 ((x.spans.length : Int) - 1)) = W at *
    rw [call_run comp24 (Nat.le_of_ble_eq_true rfl)]
    cases hq1 : lie v 0 ((x.spans.length : Int) - 1) <;> rw [hq1] at w1 h1 <;>
      simp (maxSteps := 10000000) [-List.getD_eq_getElem?_getD, ret2, ret3, retc2, -setAt, -List.all_eq_true, code24, PB.av, PB.cells, hvc, hcc, hvp, hcp, h1, hl, hBc, hBp, hs, w1, h4, hvl, he, hne, rowF]
end Go.Ai

set_option maxRecDepth 100000
set_option linter.unusedSimpArgs false
set_option linter.unusedVariables false
/-! First and Ask. -/
namespace Go.Ai
open Go.Part (Sp Cp Bk at' okP rightK stepOk moveOk dfs places vals truths cnt worst maxTo)
structure Op where
  v : Int
  i : Int
  least : Int
  e : Int
def opStep (T : List (List Int)) (N : Nat) (bet : Int → Int → Bool) (s : Op) (v i : Nat) : Op :=
  if (decide (worst T (v * N + i) < T.length) && ((s.e != 0) || bet (worst T (v * N + i)) s.least)) = true then ⟨v, i, worst T (v * N + i), 0⟩ else s
structure Bt (bf : AV) (bet : Int → Int → Bool) : Prop where
  call : ∀ (a b : Int) (σ : St), callA Cv (run Cv) false bf [I a, I b] σ = some (.bool (bet a b), σ)
  under : ∀ a b c d n, under a b c d (n + 2) bf = true
def st74 (x : PB) : St := { boxes := [x.cells ++ [mapOf x noneF, tP (Ps x noneF)]] }
def head74_0 (x : PB) (bf : AV) (s : Op) (v : Nat) (i : Int) : Env := mkE 52 .any [(21, I i), (20, I x.N), (15, I v), (14, I x.spans.length), (8, I v), (7, I s.least), (6, I s.e), (5, I s.i), (4, I s.v), (2, .box 0 0), (1, bf)]
theorem loop74_0 (x : PB) (hx : x.Ok) (h : Chk x) (bf : AV) (bet : Int → Int → Bool) (hb : Bt bf bet) (v : Nat) (hv : v < x.spans.length) : ∀ (m i : Nat) (s : Op), i + m = x.N.toNat →
    run Cv 74 (.loop keep74_0 body74_0) (head74_0 x bf s v i) (st74 x) = some (.ex 2, mkE 52 .any ((22, .bool false) :: [(21, I x.N), (20, I x.N), (15, I v), (14, I x.spans.length), (8, I v), (7, I ((List.range' i m).foldl (fun s i => opStep (Ts x noneF) x.N.toNat bet s v i) s).least), (6, I ((List.range' i m).foldl (fun s i => opStep (Ts x noneF) x.N.toNat bet s v i) s).e), (5, I ((List.range' i m).foldl (fun s i => opStep (Ts x noneF) x.N.toNat bet s v i) s).i), (4, I ((List.range' i m).foldl (fun s i => opStep (Ts x noneF) x.N.toNat bet s v i) s).v), (2, .box 0 0), (1, bf)]), st74 x)
  | 0, i, s, hi => by
    have hN := h.N
    have e1 : ((i : Nat) : Int) = x.N := by omega
    rw [e1, run_loop]
    simp (maxSteps := 10000000) [-List.getD_eq_getElem?_getD, body74_0, keep74_0, head74_0, st74]
  | m + 1, i, s, hi => by
    have hN := h.N
    have hlt : ((i : Nat) : Int) < x.N := by omega
    have hw : IntKind.wrap .i64 ((i : Int) + 1) = i + 1 := wrap_small (by omega) (by omega)
    have hwc := worst_of x hx h noneF hv (show i < x.N.toNat by omega)
    have hlT := tP_len (Ps x noneF)
    have hlP : (Ps x noneF).length = (Ts x noneF).length := by simp [Ps]
    rw [hlP] at hlT
    have hvp := hx.vrow.pur
    have hcp := hx.crow.pur
    have hvu := hx.vrow.under
    have hcu := hx.crow.under
    have hmp := (mapOf_ok x noneF).pur
    have hmu := (mapOf_ok x noneF).under
    have htp := fun σ n => tP_pur σ n (Ps x noneF)
    have htu := tP_under (Ps x noneF)
    have hbu := hb.under
    have hbc := hb.call (worst (Ts x noneF) (v * x.N.toNat + i)) s.least
    simp only [openV, PB.cells, List.cons_append, List.nil_append] at hwc
    have key : run Cv 74 (.loop keep74_0 body74_0) (head74_0 x bf s v i) (st74 x) = run Cv 74 (.loop keep74_0 body74_0) (head74_0 x bf (opStep (Ts x noneF) x.N.toNat bet s v i) v (i + 1)) (st74 x) := by
      unfold opStep
      generalize worst (Ts x noneF) (v * x.N.toNat + i) = W at *
      have eq1 : decide ((W : Int) < ((Ts x noneF).length : Int)) = decide (W < (Ts x noneF).length) := by rw [decide_eq_decide]; omega
      rw [run_loop]
      generalize MC.loop keep74_0 body74_0 = L
      by_cases q1 : W < (Ts x noneF).length
      · have q1' : (W : Int) < ((Ts x noneF).length : Int) := by omega
        cases q2 : (s.e != 0) with
        | true =>
          simp (maxSteps := 10000000) [-List.getD_eq_getElem?_getD, -List.all_eq_true, -setAt, body74_0, keep74_0, head74_0, st74, PB.cells, hlt, hw, hwc, hlT, hvp, hcp, hvu, hcu, hmp, hmu, htp, htu, hbu, fillA, set20, set21, q1, q1', q2]
        | false =>
          cases q3 : bet W s.least <;> rw [q3] at hbc <;>
            simp (maxSteps := 10000000) [-List.getD_eq_getElem?_getD, -List.all_eq_true, -setAt, body74_0, keep74_0, head74_0, st74, PB.cells, hlt, hw, hwc, hlT, hvp, hcp, hvu, hcu, hmp, hmu, htp, htu, hbu, fillA, set20, set21, q1, q1', q2, q3, hbc]
      · have q1' : ¬ (W : Int) < ((Ts x noneF).length : Int) := by omega
        simp (maxSteps := 10000000) [-List.getD_eq_getElem?_getD, -List.all_eq_true, -setAt, body74_0, keep74_0, head74_0, st74, PB.cells, hlt, hw, hwc, hlT, hvp, hcp, hvu, hcu, hmp, hmu, htp, htu, hbu, fillA, set20, set21, q1, q1']
    rw [key]
    have := loop74_0 x hx h bf bet hb v hv m (i + 1) (opStep (Ts x noneF) x.N.toNat bet s v i) (by omega)
    rw [List.range'_succ, List.foldl_cons]
    exact this
def head74_1 (x : PB) (bf : AV) (s : Op) (v : Int) : Env := mkE 52 .any [(15, I v), (14, I x.spans.length), (7, I s.least), (6, I s.e), (5, I s.i), (4, I s.v), (2, .box 0 0), (1, bf)]
def rowStep (T : List (List Int)) (N : Nat) (bet : Int → Int → Bool) (s : Op) (v : Nat) : Op := (List.range' 0 N).foldl (fun s i => opStep T N bet s v i) s
theorem loop74_1 (x : PB) (hx : x.Ok) (h : Chk x) (bf : AV) (bet : Int → Int → Bool) (hb : Bt bf bet) : ∀ (m v : Nat) (s : Op), v + m = x.spans.length →
    run Cv 74 (.loop keep74_1 body74_1) (head74_1 x bf s v) (st74 x) = some (.ex 0, mkE 52 .any ((16, .bool false) :: [(15, I x.spans.length), (14, I x.spans.length), (7, I ((List.range' v m).foldl (rowStep (Ts x noneF) x.N.toNat bet) s).least), (6, I ((List.range' v m).foldl (rowStep (Ts x noneF) x.N.toNat bet) s).e), (5, I ((List.range' v m).foldl (rowStep (Ts x noneF) x.N.toNat bet) s).i), (4, I ((List.range' v m).foldl (rowStep (Ts x noneF) x.N.toNat bet) s).v), (2, .box 0 0), (1, bf)]), st74 x)
  | 0, v, s, hv => by
    have e1 : v = x.spans.length := by omega
    rw [e1, run_loop]
    simp (maxSteps := 10000000) [-List.getD_eq_getElem?_getD, body74_1, keep74_1, head74_1, st74]
  | m + 1, v, s, hv => by
    have hV := h.V
    have hlt : ((v : Nat) : Int) < (x.spans.length : Int) := by omega
    have hw : IntKind.wrap .i64 ((v : Int) + 1) = v + 1 := wrap_small (by omega) (by omega)
    have hin := fun E (hE : mask keep74_0 E = _) => run_at (loop74_0 x hx h bf bet hb v (by omega) x.N.toNat 0 s (by omega)) hE
    have e5 : ((0 : Nat) : Int) = 0 := rfl
    have hvu := hx.vrow.under
    have hcu := hx.crow.under
    have hmu := (mapOf_ok x noneF).under
    have htu := tP_under (Ps x noneF)
    have hbu := hb.under
    have hrs : ∀ s, (List.range' 0 x.N.toNat).foldl (fun s i => opStep (Ts x noneF) x.N.toNat bet s v i) s = rowStep (Ts x noneF) x.N.toNat bet s v := fun _ => rfl
    simp only [st74, head74_0, keep74_0, PB.cells, List.cons_append, List.nil_append, e5, hrs] at hin
    have key : run Cv 74 (.loop keep74_1 body74_1) (head74_1 x bf s v) (st74 x) = run Cv 74 (.loop keep74_1 body74_1) (head74_1 x bf (rowStep (Ts x noneF) x.N.toNat bet s v) (v + 1)) (st74 x) := by
      rw [run_loop]
      generalize MC.loop keep74_1 body74_1 = L
      simp (maxSteps := 10000000) [-List.getD_eq_getElem?_getD, -List.all_eq_true, body74_1, keep74_1, head74_1, st74, PB.cells, hlt, hw, keep74_0, hin, hvu, hcu, hmu, htu, hbu]
    rw [key]
    have := loop74_1 x hx h bf bet hb m (v + 1) (rowStep (Ts x noneF) x.N.toNat bet s v) (by omega)
    rw [List.range'_succ, List.foldl_cons]
    exact this
def openS (T : List (List Int)) (V N : Nat) (bet : Int → Int → Bool) : Op := (List.range' 0 V).foldl (rowStep T N bet) ⟨0, 0, 0, 4⟩
theorem open_call (x : PB) (hx : x.Ok) (h : Chk x) (bf : AV) (bet : Int → Int → Bool) (hb : Bt bf bet) : call Cv 74 [openV x (mapOf x noneF) (Ps x noneF), bf] = some (.tup [I (openS (Ts x noneF) x.spans.length x.N.toNat bet).v, I (openS (Ts x noneF) x.spans.length x.N.toNat bet).i, I (openS (Ts x noneF) x.spans.length x.N.toNat bet).e]) := by
  have hl := fun E (hE : mask keep74_1 E = _) => run_at (loop74_1 x hx h bf bet hb x.spans.length 0 ⟨0, 0, 0, 4⟩ (by omega)) hE
  have e5 : ((0 : Nat) : Int) = 0 := rfl
  have hrs : (List.range' 0 x.spans.length).foldl (rowStep (Ts x noneF) x.N.toNat bet) ⟨0, 0, 0, 4⟩ = openS (Ts x noneF) x.spans.length x.N.toNat bet := rfl
  simp only [st74, head74_1, keep74_1, PB.cells, List.cons_append, List.nil_append, e5, hrs] at hl
  have hvl := vlen hx
  have hvc := hx.vrow.cell
  have hcc := hx.crow.cell
  have hmc := (mapOf_ok x noneF).cell
  have htc := tP_cell (Ps x noneF)
  rw [call_run comp74 (Nat.le_of_ble_eq_true rfl)]
  simp (maxSteps := 10000000) [-List.getD_eq_getElem?_getD, ret2, ret3, retc2, -List.all_eq_true, code74, openV, PB.cells, hvc, hcc, hmc, htc, hvl, keep74_1, hl]
theorem bt75 : Bt (.fn (.func 75) [] []) (fun _ _ => false) where
  under _ _ _ _ _ := rfl
  call a b σ := by
    have h : call Cv 75 [I a, I b] = some (.bool false) := by
      rw [call_run comp75 (Nat.le_of_ble_eq_true rfl)]
      simp (maxSteps := 10000000) [-List.getD_eq_getElem?_getD, code75]
    simp (maxSteps := 10000000) [-List.getD_eq_getElem?_getD, h]
theorem bt76 : Bt (.fn (.func 76) [] []) (fun a b => decide (a < b)) where
  under _ _ _ _ _ := rfl
  call a b σ := by
    have h : call Cv 76 [I a, I b] = some (.bool (decide (a < b))) := by
      rw [call_run comp76 (Nat.le_of_ble_eq_true rfl)]
      simp (maxSteps := 10000000) [-List.getD_eq_getElem?_getD, code76]
    simp (maxSteps := 10000000) [-List.getD_eq_getElem?_getD, h]
def openR (x : PB) (bet : Int → Int → Bool) : Int × Int × Int := if ansE x true = 0 then ((openS (Ts x noneF) x.spans.length x.N.toNat bet).v, (openS (Ts x noneF) x.spans.length x.N.toNat bet).i, (openS (Ts x noneF) x.spans.length x.N.toNat bet).e) else (0, 0, ansE x true)
def firstR (x : PB) : Int × Int × Int := openR x fun _ _ => false
def askR (x : PB) : Int × Int × Int := openR x fun a b => decide (a < b)
def trip (t : Int × Int × Int) : AV := .tup [I t.1, I t.2.1, I t.2.2]
theorem firstP_call (x : PB) (hx : x.Ok) : call Cv 27 [x.av] = some (trip (firstR x)) := by
  have h1 := asked_call x hx true
  obtain ⟨B, hB, hl, hBc, hBp, hBu⟩ := askB_cells x hx true
  have hvc := hx.vrow.cell
  have hcc := hx.crow.cell
  have hvp := hx.vrow.pur
  have hcp := hx.crow.pur
  have hs : setAt [I 0, .nils, I 0, I 0, I 0, .nils, .nilm, .nils] 0 B = B := by simp [setAt, hl]
  have ht8 : List.take 8 B = B := List.take_of_length_le (by omega)
  rw [hB] at h1
  simp only [PB.av, PB.cells] at h1
  unfold firstR openR
  by_cases he : ansE x true = 0
  · rw [if_pos he]
    have h2 := open_call x hx (chk_of (ansE_zero he).1) _ _ bt75
    rw [← askB_good he, hB] at h2
    rw [he] at h1
    rw [call_run comp27 (Nat.le_of_ble_eq_true rfl)]
    simp (maxSteps := 10000000) [-List.getD_eq_getElem?_getD, ret2, ret3, retc2, -setAt, -List.all_eq_true, code27, PB.av, PB.cells, hvc, hcc, hvp, hcp, h1, hl, hBc, hBp, hs, ht8, h2, trip]
  · rw [if_neg he]
    have hne : (ansE x true != 0) = true := by simpa using he
    generalize ansE x true = W at *
    rw [call_run comp27 (Nat.le_of_ble_eq_true rfl)]
    simp (maxSteps := 10000000) [-List.getD_eq_getElem?_getD, ret2, ret3, retc2, -setAt, -List.all_eq_true, code27, PB.av, PB.cells, hvc, hcc, hvp, hcp, h1, hl, hBc, hBp, hs, hne, trip]
theorem askP_call (x : PB) (hx : x.Ok) : call Cv 29 [x.av] = some (trip (askR x)) := by
  have h1 := asked_call x hx true
  obtain ⟨B, hB, hl, hBc, hBp, hBu⟩ := askB_cells x hx true
  have hvc := hx.vrow.cell
  have hcc := hx.crow.cell
  have hvp := hx.vrow.pur
  have hcp := hx.crow.pur
  have hs : setAt [I 0, .nils, I 0, I 0, I 0, .nils, .nilm, .nils] 0 B = B := by simp [setAt, hl]
  have ht8 : List.take 8 B = B := List.take_of_length_le (by omega)
  rw [hB] at h1
  simp only [PB.av, PB.cells] at h1
  unfold askR openR
  by_cases he : ansE x true = 0
  · rw [if_pos he]
    have h2 := open_call x hx (chk_of (ansE_zero he).1) _ _ bt76
    rw [← askB_good he, hB] at h2
    rw [he] at h1
    rw [call_run comp29 (Nat.le_of_ble_eq_true rfl)]
    simp (maxSteps := 10000000) [-List.getD_eq_getElem?_getD, ret2, ret3, retc2, -setAt, -List.all_eq_true, code29, PB.av, PB.cells, hvc, hcc, hvp, hcp, h1, hl, hBc, hBp, hs, ht8, h2, trip]
  · rw [if_neg he]
    have hne : (ansE x true != 0) = true := by simpa using he
    generalize ansE x true = W at *
    rw [call_run comp29 (Nat.le_of_ble_eq_true rfl)]
    simp (maxSteps := 10000000) [-List.getD_eq_getElem?_getD, ret2, ret3, retc2, -setAt, -List.all_eq_true, code29, PB.av, PB.cells, hvc, hcc, hvp, hcp, h1, hl, hBc, hBp, hs, hne, trip]
end Go.Ai

set_option maxRecDepth 100000
set_option linter.unusedSimpArgs false
set_option linter.unusedVariables false
/-! Fits. -/
namespace Go.Ai
open Go.Part (Sp Cp Bk at' okP rightK stepOk moveOk dfs places vals truths cnt worst maxTo)
def fitFrom (v : Nat) (p : List Int) : List Int → Nat → Bool
  | [], _ => true
  | n :: l, k => decide (at' p (k * 3 + v) = n) && fitFrom v p l (k + 1)
def st78 (p : List Int) : St := { boxes := [ints p] }
def head78 (c : CpV) (k : Int) : Env := mkE 23 .any [(9, I k), (8, I c.cp.notes.length), (7, c.row), (2, .box 0 0), (1, .rp [I c.cp.voice, c.row] 0)]
theorem loop78 (c : CpV) (hc : c.Ok) (v : Nat) (hv : c.cp.voice = v) (hv3 : v < 3) (hl3 : c.cp.notes.length ≤ 3) (p : List Int) (h9 : p.length = 9) : ∀ (l : List Int) (k : Nat), k ≤ c.cp.notes.length → c.cp.notes.drop k = l →
    ∃ L σ, (run Cv 78 (.loop keep78_0 body78_0) (head78 c k) (st78 p) = some (.ex 0, mkE 23 .any L, σ) ∧ fitFrom v p l k = true) ∨
      (run Cv 78 (.loop keep78_0 body78_0) (head78 c k) (st78 p) = some (.rt, mkE 23 .any ((3, .bool false) :: L), σ) ∧ fitFrom v p l k = false)
  | [], k, hk, h => by
    obtain rfl := drop_nil hk h
    have key : ∃ L σ, run Cv 78 (.loop keep78_0 body78_0) (head78 c c.cp.notes.length) (st78 p) = some (.ex 0, mkE 23 .any L, σ) := by
      rw [run_loop]
      simp (maxSteps := 10000000) [-List.getD_eq_getElem?_getD, body78_0, keep78_0, head78, st78]
      exact ⟨_, rfl⟩
    obtain ⟨L, σ, h⟩ := key
    exact ⟨L, σ, .inl ⟨h, rfl⟩⟩
  | n :: l, k, hk, h => by
    obtain ⟨hlt, ha, hd⟩ := head_drop h
    have hw := wrap_succ hlt (by omega)
    have hu := hc.row.under
    have hix : ixsA 1 c.row (I k) = some (.rp [I n] 0) := by
      obtain ⟨cc, hcc, hr⟩ := hc.row.sl (by intro hn; simp [ints] at hn; rw [hn] at hlt; simp at hlt)
      rw [hr]
      simp [ixsA, ints, hlt, ha, AV.cells]
    have x1 := fun q off => ixa_lit (p := q) (off := off) (show k < 3 by omega) 3
    have x2 := fun q off => ixa_lit (p := q) (off := off) hv3 1
    have e0 : 0 + k * 3 + v * 1 = k * 3 + v := by omega
    have e1 : k * 3 + v * 1 = k * 3 + v := by omega
    have hld : (ints p)[k * 3 + v]? = some (I (at' p (k * 3 + v))) := by
      have : k * 3 + v < p.length := by omega
      simp [ints, at', this]
    have iv := fun a b c d n p => ints_under a b c d n p
    have hrp : ∀ n, loadA (st78 p) n (.rp [I (v : Int), c.row] 0) = partA n [I (v : Int), c.row] 0 := fun _ => rfl
    generalize hip : ints p = ip at *
    generalize hm : at' p (k * 3 + v) = m at *
    have hip' : ∀ a b c d n, ip.all (under a b c d (n + 1)) = true := fun a b c d n => by rw [← hip]; exact iv a b c d n p
    by_cases hp : m = n
    · have key : run Cv 78 (.loop keep78_0 body78_0) (head78 c k) (st78 p) = run Cv 78 (.loop keep78_0 body78_0) (head78 c (k + 1)) (st78 p) := by
        rw [run_loop]
        generalize MC.loop keep78_0 body78_0 = L
        simp (maxSteps := 10000000) [-List.getD_eq_getElem?_getD, -List.all_eq_true, -ixaA, -ixsA, body78_0, keep78_0, head78, st78, hip, hv, hix, hlt, hw, hu, x1, x2, e0, e1, hld, hp, hip']
      rw [key]
      have := loop78 c hc v hv hv3 hl3 p h9 l (k + 1) hlt hd
      simp only [fitFrom, hm, hp, decide_true, Bool.true_and]
      exact this
    · have hp' : (m != n) = true := by simpa using hp
      have key : ∃ L σ, run Cv 78 (.loop keep78_0 body78_0) (head78 c k) (st78 p) = some (.rt, mkE 23 .any ((3, .bool false) :: L), σ) := by
        rw [run_loop]
        simp (maxSteps := 10000000) [-List.getD_eq_getElem?_getD, -List.all_eq_true, -ixaA, -ixsA, body78_0, keep78_0, head78, st78, hip, hv, hix, hlt, x1, x2, e0, e1, hld, hp']
        exact ⟨_, rfl⟩
      obtain ⟨L, σ, h⟩ := key
      exact ⟨L, σ, .inr ⟨h, by simp [fitFrom, hm, hp]⟩⟩
theorem fit_call (c : CpV) (hc : c.Ok) (v : Nat) (hv : c.cp.voice = v) (hv3 : v < 3) (hl3 : c.cp.notes.length ≤ 3) (p : List Int) (h9 : p.length = 9) : call Cv 78 [.agg (ints p), .rp [I c.cp.voice, c.row] 0] = some (.bool (fitFrom v p c.cp.notes 0)) := by
  obtain ⟨L, σ, h⟩ := loop78 c hc v hv hv3 hl3 p h9 c.cp.notes 0 (Nat.zero_le _) rfl
  have e5 : ((0 : Nat) : Int) = 0 := rfl
  have hrl := row_len hc.row
  have hic := ints_cell p
  rcases h with ⟨h, hi⟩ | ⟨h, hi⟩
  · have h' := fun E (hE : mask keep78_0 E = _) => run_at h hE
    simp only [keep78_0, head78, st78, e5] at h'
    rw [call_run comp78 (Nat.le_of_ble_eq_true rfl), hi]
    simp (maxSteps := 10000000) [-List.getD_eq_getElem?_getD, -List.all_eq_true, code78, keep78_0, h', hrl, hic]
  · have h' := fun E (hE : mask keep78_0 E = _) => run_at h hE
    simp only [keep78_0, head78, st78, e5] at h'
    rw [call_run comp78 (Nat.le_of_ble_eq_true rfl), hi]
    simp (maxSteps := 10000000) [-List.getD_eq_getElem?_getD, -List.all_eq_true, code78, keep78_0, h', hrl, hic]
def fnC (c : CpV) : AV := .fn (.func 78) [] [.rp [I c.cp.voice, c.row] 0]
def head96 (c : CpV) (P : List (List Int)) (k : Int) : Env := mkE 19 .any [(8, I k), (7, I P.length), (1, fnC c), (0, tP P)]
theorem loop96 (c : CpV) (hc : c.Ok) (v : Nat) (hv : c.cp.voice = v) (hv3 : v < 3) (hl3 : c.cp.notes.length ≤ 3) (P : List (List Int)) (hP : P.length < 2 ^ 47) (hr9 : ∀ p ∈ P, p.length = 9) : ∀ (l : List (List Int)) (k : Nat), k ≤ P.length → P.drop k = l →
    ∃ L, (run Cv 96 (.loop keep96_0 body96_0) (head96 c P k) {} = some (.ex 0, mkE 19 .any L, {}) ∧ l.any (fun p => fitFrom v p c.cp.notes 0) = false) ∨
      (∃ j : Nat, run Cv 96 (.loop keep96_0 body96_0) (head96 c P k) {} = some (.rt, mkE 19 .any ((4, I j) :: L), {}) ∧ l.any (fun p => fitFrom v p c.cp.notes 0) = true)
  | [], k, hk, h => by
    obtain rfl := drop_nil hk h
    have key : ∃ L, run Cv 96 (.loop keep96_0 body96_0) (head96 c P P.length) {} = some (.ex 0, mkE 19 .any L, {}) := by
      rw [run_loop]
      simp (maxSteps := 10000000) [-List.getD_eq_getElem?_getD, body96_0, keep96_0, head96]
      exact ⟨_, rfl⟩
    obtain ⟨L, h⟩ := key
    exact ⟨L, .inl ⟨h, rfl⟩⟩
  | p :: l, k, hk, h => by
    obtain ⟨hlt, ha, hd⟩ := head_drop h
    have hpm : p ∈ P := ha ▸ List.getElem_mem _
    have hw := wrap_succ hlt (by omega)
    have hne : P ≠ [] := by rintro rfl; simp at hlt
    have htP : tP P = .sl 9 (P.map fun p => .agg (ints p)) .no := by unfold tP; rw [if_neg hne]
    have hix : ixsA 9 (tP P) (I k) = some (.rp (ints p) 0) := by
      rw [htP]
      simp [ixsA, hlt, ha, AV.cells]
    have h78 := fit_call c hc v hv hv3 hl3 p (hr9 p hpm)
    have hI9 : (ints p).length = 9 := by simp [ints, hr9 p hpm]
    have ht9 : List.take 9 (ints p) = ints p := List.take_of_length_le (by omega)
    have hip := fun σ n => ints_pur σ n p
    have hrp := hc.row.pur
    have htu := tP_under P
    have hcu := hc.row.under
    cases hq : fitFrom v p c.cp.notes 0 with
    | false =>
      rw [hq] at h78
      have key : run Cv 96 (.loop keep96_0 body96_0) (head96 c P k) {} = run Cv 96 (.loop keep96_0 body96_0) (head96 c P (k + 1)) {} := by
        rw [run_loop]
        generalize MC.loop keep96_0 body96_0 = L
        simp (maxSteps := 10000000) [-List.getD_eq_getElem?_getD, -List.all_eq_true, -ixsA, body96_0, keep96_0, head96, fnC, hlt, hix, hw, h78, hI9, ht9, hip, hrp, htu]
      rw [key]
      have := loop96 c hc v hv hv3 hl3 P hP hr9 l (k + 1) hlt hd
      simp only [List.any_cons, hq, Bool.false_or]
      exact this
    | true =>
      rw [hq] at h78
      have key : ∃ L, run Cv 96 (.loop keep96_0 body96_0) (head96 c P k) {} = some (.rt, mkE 19 .any ((4, I k) :: L), {}) := by
        rw [run_loop]
        simp (maxSteps := 10000000) [-List.getD_eq_getElem?_getD, -List.all_eq_true, -ixsA, body96_0, keep96_0, head96, fnC, hlt, hix, hw, h78, hI9, ht9, hip, hrp, htu]
        exact ⟨_, rfl⟩
      obtain ⟨L, h⟩ := key
      exact ⟨L, .inr ⟨k, h, by simp [hq]⟩⟩
theorem any_call (c : CpV) (hc : c.Ok) (v : Nat) (hv : c.cp.voice = v) (hv3 : v < 3) (hl3 : c.cp.notes.length ≤ 3) (P : List (List Int)) (hP : P.length < 2 ^ 47) (hr9 : ∀ p ∈ P, p.length = 9) :
    call Cv 77 [tP P, fnC c] = some (.bool (P.any fun p => fitFrom v p c.cp.notes 0)) := by
  have hl := tP_len P
  have htp := fun σ n => tP_pur σ n P
  have hrp := hc.row.pur
  have e5 : ((0 : Nat) : Int) = 0 := rfl
  have h96 : ∃ j : Int, call Cv 96 [tP P, fnC c] = some (I j) ∧ decide (j ≥ 0) = P.any fun p => fitFrom v p c.cp.notes 0 := by
    obtain ⟨L, h⟩ := loop96 c hc v hv hv3 hl3 P hP hr9 P 0 (Nat.zero_le _) rfl
    rcases h with ⟨h, hi⟩ | ⟨j, h, hi⟩
    · refine ⟨-1, ?_, by rw [hi]; rfl⟩
      have h' := fun E (hE : mask keep96_0 E = _) => run_at h hE
      simp only [keep96_0, head96, e5] at h'
      rw [call_run comp96 (Nat.le_of_ble_eq_true rfl)]
      simp (maxSteps := 10000000) [-List.getD_eq_getElem?_getD, -List.all_eq_true, code96, keep96_0, h', hl]
    · refine ⟨j, ?_, by rw [hi]; simp⟩
      have h' := fun E (hE : mask keep96_0 E = _) => run_at h hE
      simp only [keep96_0, head96, e5] at h'
      rw [call_run comp96 (Nat.le_of_ble_eq_true rfl)]
      simp (maxSteps := 10000000) [-List.getD_eq_getElem?_getD, -List.all_eq_true, code96, keep96_0, h', hl]
  obtain ⟨j, h, hj⟩ := h96
  rw [fnC] at h ⊢
  rw [call_run comp77 (Nat.le_of_ble_eq_true rfl)]
  simp (maxSteps := 10000000) [-List.getD_eq_getElem?_getD, code77, h, htp, hrp, ← hj]
def fitsP (x : PB) (c : CpV) : Bool := decide (ansE x (copyOk x c) = 0) && (Ps x noneF).any fun p => fitFrom c.cp.voice.toNat p c.cp.notes 0
theorem fitsP_call (x : PB) (hx : x.Ok) (c : CpV) (hc : c.Ok) : call Cv 31 [x.av, c.av] = some (.tup [.bool (fitsP x c), I (ansE x (copyOk x c))]) := by
  have h1 := asked_call x hx (copyOk x c)
  have h2 := isCopy_call x hx c hc
  obtain ⟨B, hB, hl, hBc, hBp, hBu⟩ := askB_cells x hx (copyOk x c)
  have hvc := hx.vrow.cell
  have hcc := hx.crow.cell
  have hvp := hx.vrow.pur
  have hcp := hx.crow.pur
  have hrc := hc.row.cell
  have hrp := hc.row.pur
  have hs : setAt [I 0, .nils, I 0, I 0, I 0, .nils, .nilm, .nils] 0 B = B := by simp [setAt, hl]
  have hBe := hB
  rw [hB] at h1
  simp only [PB.av, PB.cells, CpV.av] at h1 h2
  unfold fitsP
  by_cases he : ansE x (copyOk x c) = 0
  · obtain ⟨hch, his, hT⟩ := ansE_zero he
    have hk := chk_of hch
    have hN := hk.N
    have hV := hk.V
    have hco := copyOk_iff his
    have h77 := any_call c hc c.cp.voice.toNat (by omega) (by omega) (by omega) (Ps x noneF) (Ps_short hk noneF) (Ps_nine x noneF)
    rw [askB_good he] at hBe
    have hB7 : B[7]? = some (tP (Ps x noneF)) := by
      simp only [openV, AV.agg.injEq] at hBe
      rw [← hBe]; rfl
    have hB7' : ∀ h : 7 < B.length, B[7]'h = tP (Ps x noneF) := fun h => by
      rw [List.getElem?_eq_getElem h] at hB7; exact Option.some.inj hB7
    have htp := fun σ n => tP_pur σ n (Ps x noneF)
    rw [he] at h1 ⊢
    simp only [decide_true, Bool.true_and]
    rw [fnC] at h77
    generalize (Ps x noneF).any (fun p => fitFrom c.cp.voice.toNat p c.cp.notes 0) = F at *
    generalize copyOk x c = is at *
    rw [call_run comp31 (Nat.le_of_ble_eq_true rfl)]
    simp (maxSteps := 10000000) [-List.getD_eq_getElem?_getD, ret2, ret3, retc2, -setAt, -List.all_eq_true, code31, PB.av, PB.cells, CpV.av, hvc, hcc, hvp, hcp, hrc, hrp, h1, h2, hl, hBc, hBp, hs, hB7', htp, h77]
  · have hne : (ansE x (copyOk x c) != 0) = true := by simpa using he
    simp only [he, decide_false, Bool.false_and]
    generalize ansE x (copyOk x c) = W at *
    generalize copyOk x c = is at *
    rw [call_run comp31 (Nat.le_of_ble_eq_true rfl)]
    simp (maxSteps := 10000000) [-List.getD_eq_getElem?_getD, ret2, ret3, retc2, -setAt, -List.all_eq_true, code31, PB.av, PB.cells, CpV.av, hvc, hcc, hvp, hcp, hrc, hrp, h1, h2, hl, hBc, hBp, hs, hne]
end Go.Ai
