/- This text shows how arguments and the laid variables are read. No conditions of its own. -/
import Derived.Test.YtogfbfpinhcajaaDoorOwn
import Derived.Test.YtogfbfpinhcajaaDoorFnD
import Derived.Test.YtogfbfpinhcajaaDoorTie
import Derived.Test.YtogfbfpinhcajaaDoorCards
import Derived.Handed
import Derived.OpenShut
import Derived.LaidMore
import Derived.Stop.Joined
import Derived.KernelRfl
set_option linter.unusedSimpArgs false
set_option linter.unusedVariables false
set_option maxRecDepth 100000
set_option linter.unusedSimpArgs false
set_option linter.unusedVariables false
/-! The laid variables. -/
namespace Go.Ai
open Go.Proofs Go.Proofs.YtogfbfpinhcajaaDoor Go.ChangeShapes Go.WideShapes Go.ChangeAt Go.RowKit
abbrev laid : List (String × DataW Unit) := [("decani/part.silence", Rows.laid_decani_part_silence), ("decani/part.nowhere", Rows.laid_decani_part_nowhere), ("decani/part.measures", Rows.laid_decani_part_measures)]
theorem gU : Tryd.prog.globalNamed "decani/part.silence" = some 1 := by kernel_rfl
theorem gN : Tryd.prog.globalNamed "decani/part.nowhere" = some 0 := by kernel_rfl
theorem gK : Tryd.prog.globalNamed "decani/part.measures" = some 2 := by kernel_rfl
theorem tU : (Tryd.prog.globals[1]?).map (·.type) = some 99 := by kernel_rfl
theorem tN : (Tryd.prog.globals[0]?).map (·.type) = some 94 := by kernel_rfl
theorem tK : (Tryd.prog.globals[2]?).map (·.type) = some 130 := by kernel_rfl
theorem c3 : Tryd.prog.cellsOf 3 = 1 := by kernel_rfl
theorem c99 : Tryd.prog.cellsOf 99 = 3 := by kernel_rfl
theorem c94 : Tryd.prog.cellsOf 94 = 2 := by kernel_rfl
theorem c130 : Tryd.prog.cellsOf 130 = 2 := by kernel_rfl
theorem c129 : Tryd.prog.cellsOf 129 = 1 := by kernel_rfl
section
variable {H : Type} {enc : TypeId × Value → H} {P : Program} {w : World} {base : Nat} {spare : Nat → Bool} {held : Bool}
/-- An array of cells, each read by itself. -/
theorem array_cells {t e : TypeId} {m : Nat} {fuel : Nat} {cs : List Value} {ds : List (DataW H)} {p : List MemPlace} (ht : P.underlying t = some (.array m e)) (hc : P.cellsOf e = 1) (h : DataW.trod enc P w base spare held fuel t cs = some (.agg ds, p)) :
    cs.length = P.cellsOf t ∧ ∀ (i : Nat) (d : DataW H), i < m → ds[i]? = some d → ∀ c, cs[i]? = some c → ∃ n q, DataW.trod enc P w base spare held n e [c] = some (d, q) := by
  obtain ⟨xs, n, _, hx, hl, hlen, hf⟩ := DataW.trod_array ht h
  refine ⟨hl, fun i d hi hd c hcc => ?_⟩
  have := hf i hi
  have hds : ds = xs.map (·.1) := by
    have := congrArg Prod.fst hx
    simpa using this
  rw [hds, List.getElem?_map, Option.map_eq_some_iff] at hd
  obtain ⟨y, hy, rfl⟩ := hd
  rw [hy, hc, Nat.mul_one] at this
  have e1 : (cs.drop i).take 1 = [c] := by
    have := (List.getElem?_eq_some_iff.1 hcc).1
    rw [List.drop_eq_getElem_cons this]
    have h2 := (List.getElem?_eq_some_iff.1 hcc).2
    simp [h2]
  rw [e1] at this
  exact ⟨n, y.2, this⟩
end
theorem of_laid {W : World} (h : laidMetH Tryd.prog laid W) : (∀ i, i < 3 → W.cell? ⟨1, i, none⟩ = some (.int .i64 (-1))) ∧ (∀ i, i < 2 → W.cell? ⟨0, i, none⟩ = some (.int .i64 (-1))) ∧
    W.cell? ⟨2, 0, none⟩ = some (.func (.func 123) #[] #[]) ∧ W.cell? ⟨2, 1, none⟩ = some (.func (.func 121) #[] #[]) := by
  obtain ⟨g, t, cs, fuel, p, hg, ht, hv, hd⟩ := h.funcs (n := "decani/part.measures") (d := .agg [.iface "func" (.lit (.string [40, 100, 101, 99, 97, 110, 105, 47, 112, 97, 114, 116, 46, 119, 97, 121, 41, 46, 115, 116, 101, 112])), .iface "func" (.lit (.string [40, 100, 101, 99, 97, 110, 105, 47, 112, 97, 114, 116, 46, 119, 97, 121, 41, 46, 97, 98, 111, 118, 101]))]) (.tail _ (.tail _ (.head _)))
  obtain rfl := Option.some.inj (gK.symm.trans hg)
  obtain rfl := Option.some.inj (tK.symm.trans ht)
  have hd' : DataW.trod (funcToken Tryd.prog) Tryd.prog W 0 (fun _ => true) true fuel 130 cs.toList = some (.agg [.held [40, 100, 101, 99, 97, 110, 105, 47, 112, 97, 114, 116, 46, 119, 97, 121, 41, 46, 115, 116, 101, 112], .held [40, 100, 101, 99, 97, 110, 105, 47, 112, 97, 114, 116, 46, 119, 97, 121, 41, 46, 97, 98, 111, 118, 101]], p) := hd
  obtain ⟨hl, hel⟩ := array_cells Tryd.underlying130 c129 hd'
  rw [c130] at hl
  have hk0 := World.var?_cell hg hv 0
  have hk1 := World.var?_cell hg hv 1
  obtain ⟨l⟩ := cs
  match l, hl with
  | [a, b], _ =>
    obtain ⟨n0, q0, h0⟩ := hel 0 _ (by decide) rfl a rfl
    obtain ⟨n1, q1, h1⟩ := hel 1 _ (by decide) rfl b rfl
    obtain rfl := func_of_trod (f0 := 123) Tryd.underlying129 (by kernel_rfl) h0
    obtain rfl := func_of_trod (f0 := 121) Tryd.underlying129 (by kernel_rfl) h1
    have hm : laidMet Tryd.prog [("decani/part.silence", Rows.laid_decani_part_silence), ("decani/part.nowhere", Rows.laid_decani_part_nowhere)] W := h.1
    obtain ⟨ps, ⟨g2, t2, cs2, f2, p2, q2, hg2, ht2, hv2, hd2, ⟨g1, t1, cs1, f1, p1, q1', hg1, ht1, hv1, hd1, _, _⟩, _⟩, _, _⟩ := hm
    obtain rfl := Option.some.inj (gU.symm.trans hg2)
    obtain rfl := Option.some.inj (tU.symm.trans ht2)
    obtain rfl := Option.some.inj (gN.symm.trans hg1)
    obtain rfl := Option.some.inj (tN.symm.trans ht1)
    refine ⟨fun i hi => ?_, fun i hi => ?_, by simpa using hk0, by simpa using hk1⟩
    · obtain ⟨hl2, hel2⟩ := array_cells (ds := [.lit (.int .i64 (-1)), .lit (.int .i64 (-1)), .lit (.int .i64 (-1))]) Tryd.underlying99 c3 hd2
      rw [c99] at hl2
      have hk := World.var?_cell hg2 hv2 i
      have hil : i < cs2.toList.length := by omega
      have hci : cs2.toList[i]? = some cs2.toList[i] := List.getElem?_eq_getElem hil
      have hdi : ([.lit (.int .i64 (-1)), .lit (.int .i64 (-1)), .lit (.int .i64 (-1))] : List (DataW Unit))[i]? = some (.lit (.int .i64 (-1))) := by
        have : i = 0 ∨ i = 1 ∨ i = 2 := by omega
        rcases this with rfl | rfl | rfl <;> rfl
      obtain ⟨n, q, hn⟩ := hel2 i _ hi hdi _ hci
      obtain ⟨m, hm1, hm2, _⟩ := DataW.trod_int Tryd.underlying3 hn
      have hm3 : m = -1 := by
        have := congrArg Prod.fst hm2
        simp only [DataW.lit.injEq, Lit.int.injEq, true_and] at this
        exact this.symm
      subst hm3
      simp only [List.cons.injEq, and_true] at hm1
      rw [hk, ← Array.getElem?_toList, hci, hm1]
    · obtain ⟨y0, y1, n, hx, hl2, k0, k1⟩ := trod_struct2 Tryd.underlying94 hd1
      rw [c94] at hl2
      simp only [c3] at k0 k1
      have hk := World.var?_cell hg1 hv1 i
      obtain ⟨l1⟩ := cs1
      match l1, hl2 with
      | [a1, b1], _ =>
        simp only [List.drop_zero, List.take_succ_cons, List.take_zero, List.drop_succ_cons] at k0 k1
        obtain ⟨m0, hm0, hm0', _⟩ := DataW.trod_int Tryd.underlying3 k0
        obtain ⟨m1, hm1, hm1', _⟩ := DataW.trod_int Tryd.underlying3 k1
        have hx' := congrArg Prod.fst hx
        rw [hm0', hm1'] at hx'
        simp only [Rows.laid_decani_part_nowhere, DataW.agg.injEq, List.cons.injEq, DataW.lit.injEq, Lit.int.injEq, true_and, and_true] at hx'
        obtain ⟨rfl, rfl⟩ := hx'
        simp only [List.cons.injEq, and_true] at hm0 hm1
        subst hm0 hm1
        have : i = 0 ∨ i = 1 := by omega
        rcases this with rfl | rfl <;> (rw [hk]; try rfl)
theorem glob_rep {W : World} (h : laidMetH Tryd.prog laid W) : ∀ (g : Nat) (cs : List AV), Cv.glob g = some cs → PRep W (fun g _ => g < W.heap.size) (fun k => k < W.heap.size) (.pointer (some ⟨g, 0, none⟩)) (.rp cs 0) := by
  obtain ⟨hu, hn, k0, k1⟩ := of_laid h
  intro g cs hg
  have lt : ∀ g i c, W.cell? ⟨g, i, none⟩ = some c → g < W.heap.size := fun g i c hc => World.block_lt_of_cell? W _ (by rw [hc])
  simp only [Cv] at hg
  split at hg
  · rename_i h1
    subst h1
    cases hg
    exact PRep.rp (w := W) 0 0 0 [I (-1), I (-1)] (fun j => .int .i64 (-1))
      (fun j x hj => by rw [Nat.zero_add]; exact hn j (by have := (List.getElem?_eq_some_iff.1 hj).1; simpa using this))
      (fun j x hj => lt 0 0 _ (hn 0 (by decide)))
      (fun j x hj => rfl)
      (fun j x hj => by
        match j with
        | 0 => simp at hj; subst hj; exact .int _ _
        | 1 => simp at hj; subst hj; exact .int _ _
        | j + 2 => simp at hj)
  · split at hg
    · rename_i _ h2
      subst h2
      cases hg
      exact PRep.rp (w := W) 1 0 0 [I (-1), I (-1), I (-1)] (fun j => .int .i64 (-1))
        (fun j x hj => by rw [Nat.zero_add]; exact hu j (by have := (List.getElem?_eq_some_iff.1 hj).1; simpa using this))
        (fun j x hj => lt 1 0 _ (hu 0 (by decide)))
        (fun j x hj => rfl)
        (fun j x hj => by
          match j with
          | 0 => simp at hj; subst hj; exact .int _ _
          | 1 => simp at hj; subst hj; exact .int _ _
          | 2 => simp at hj; subst hj; exact .int _ _
          | j + 3 => simp at hj)
    · split at hg
      · rename_i _ _ h0
        subst h0
        cases hg
        have := PRep.rp (w := W) (F := fun g _ => g < W.heap.size) (M := fun k => k < W.heap.size) 2 0 0 [.fn (.func 123) [] [], .fn (.func 121) [] []] (fun j => if j = 0 then .func (.func 123) #[] #[] else .func (.func 121) #[] #[])
          (fun j x hj => by
            match j with
            | 0 => exact k0
            | 1 => exact k1
            | j + 2 => simp at hj)
          (fun j x hj => lt 2 0 _ k0)
          (fun j x hj => by
            match j with
            | 0 => rfl
            | 1 => rfl
            | j + 2 => simp at hj)
          (fun j x hj => by
            match j with
            | 0 => simp at hj; subst hj; exact .fn _ #[] #[] [] [] rfl rfl (fun i v c h => by simp at h) (fun i v c h => by simp at h)
            | 1 => simp at hj; subst hj; exact .fn _ #[] #[] [] [] rfl rfl (fun i v c h => by simp at h) (fun i v c h => by simp at h)
            | j + 2 => simp at hj)
        exact this
      · cases hg
end Go.Ai

set_option maxRecDepth 100000
set_option linter.unusedSimpArgs false
set_option linter.unusedVariables false
/-! How a law's call is closed; how its arguments are read. -/
namespace Go.Ai
open Go.Proofs Go.Proofs.YtogfbfpinhcajaaDoor Go.ChangeShapes Go.WideShapes Go.ChangeAt Go.RowKit
open Go.Part (Sp Cp)
theorem own : ownKnob Tryd.prog.godebug = none := by kernel_rfl
theorem laidOut : laidOutB Tryd.prog = true := by kernel_rfl
theorem noNumB : (Tryd.prog.funcs.toList.all fun fn => !(fn.name == "runtime.NumGoroutine")) = true := by kernel_rfl
theorem noNum : NoNum Tryd.prog := by
  intro f fn h
  have := List.all_eq_true.1 noNumB fn (List.mem_of_getElem? (i := f) (by simpa using h))
  simpa using this
theorem trodAll_stays {H : Type} {enc : TypeId × Value → H} {P : Program} (hl : laidOutB P = true) {W W' : World} {sp : Nat → Bool} : ∀ (ts : List TypeId) (vs : List Value) (ds : List (DataW H)) (ps : List MemPlace), (∀ t ∈ ts, P.readableRec t = true ∧ t < P.types.size) →
    DataW.TrodAll enc P W 0 (fun _ => true) true ts vs ds ps → (∀ p ∈ ps, W.sameAt W' p) → (∀ p ∈ ps, sp p.block = true) → DataW.TrodAll enc P W' 0 sp true ts vs ds ps
  | [], [], [], _, _, h, _, _ => h
  | t :: ts, v :: vs, d :: ds, _, hr, ⟨p, q, h1, h2, rfl⟩, hs, hp =>
    ⟨p, q, WideElems.Trod_stays hl (hr t (.head _)).1 (hr t (.head _)).2 h1 (fun x hx => hs x (List.mem_append_left _ hx)) (fun x hx => hp x (List.mem_append_left _ hx)),
      trodAll_stays hl ts vs ds q (fun t ht => hr t (.tail _ ht)) h2 (fun x hx => hs x (List.mem_append_right _ hx)) (fun x hx => hp x (List.mem_append_right _ hx)), rfl⟩
  | [], _ :: _, _, _, _, h, _, _ => h.elim
  | [], [], _ :: _, _, _, h, _, _ => h.elim
  | _ :: _, [], _, _, _, h, _, _ => h.elim
  | _ :: _, _ :: _, [], _, _, h, _, _ => h.elim
theorem trodAll_lt {H : Type} {enc : TypeId × Value → H} {P : Program} {W W' : World} {fn : Func} {s : ChangeSpec} {vs : List Value} {ds gs : List (DataW H)} {before : List MemPlace} (hW : DataW.Whole enc P fn.params.toList s.vars false W vs ds gs before) : ∀ p ∈ before, p.block < W.heap.size := fun p hp => hW.lt p hp
theorem b4 : Tryd.prog.underlying 4 = some .bool := Tryd.underlying4
theorem door_met (os : Os) (args : Array Value) : laidMetH Tryd.prog laid ((World.doorLaid Tryd.prog 600 os).forCall (fun _ _ => 0) ⟨#[], args, []⟩).memory :=
  laidMetH_of_parts3 (fuel := 8) (laidMet_of_run' 8 (by kernel_rfl) (by kernel_rfl)) (by kernel_rfl) (by kernel_rfl)

/-- A law that answers true: how its call is closed. -/
theorem law_calls {f : FuncId} {fn : Func} {s : ChangeSpec} (hfn : Tryd.prog.funcs[f]? = some fn) (hres : fn.resultTypes = #[4]) {W : World} (hL : laidMetH Tryd.prog laid W) {args : Array Value} {avs : List AV} (hv : PReps W (fun g _ => g < W.heap.size) (fun k => k < W.heap.size) args.toList avs)
    (hc : call Cv f avs = some (.bool true)) {H : Type} {enc : TypeId × Value → H} {ds : List (DataW H)} {before : List MemPlace} (hW : DataW.Whole enc Tryd.prog fn.params.toList s.vars false W args.toList ds [] before) (hvars : s.vars = [])
    (hs : s.fn H (ds ++ []) = { results := [.lit (.bool true)], args := ds }) (hread : ∀ t ∈ fn.params.toList, Tryd.prog.readableRec t = true ∧ t < Tryd.prog.types.size) :
    Calls Tryd.prog f args W fun e W' => ∃ v, e = .returned v ∧ s.post enc Tryd.prog fn false true false false W args v W' := by
  refine (calls_of_call (C := Cv) noNum hc (F := fun g _ => g < W.heap.size) (M := fun k => k < W.heap.size) (fun g o h => h) (fun k h => h) (glob_rep hL) hv).mono ?_
  rintro e W' ⟨v, F', M', rfl, hr, hsz, hk, hos, htp, hout⟩
  have hv' : v = .bool true := by cases hr; rfl
  subst hv'
  have hB : Below W.heap.size W W' := ⟨hos, htp, hout, hsz, hk⟩
  refine ⟨_, rfl, ?_⟩
  obtain ⟨p, q, hA, hV, hpq, hfz, hnd⟩ := hW
  have hW' : DataW.Whole enc Tryd.prog fn.params.toList s.vars false W args.toList ds [] before := ⟨p, q, hA, hV, hpq, hfz, hnd⟩
  have hlt : ∀ x ∈ before, x.block < W.heap.size := trodAll_lt (W' := W) hW'
  have hq : q = [] := by rw [hvars] at hV; exact hV
  subst hq
  rw [List.append_nil] at hpq
  subst hpq
  have hargs : ∀ sp : Nat → Bool, (∀ x ∈ before, sp x.block = true) → DataW.TrodAll enc Tryd.prog W' 0 sp true fn.params.toList args.toList ds before := fun sp hsp =>
    trodAll_stays laidOut _ _ _ _ hread hA (fun x hx => hB.same (hlt x hx)) hsp
  have hres' : ∀ (b : Nat) (sp : Nat → Bool) (hd : Bool), DataW.TrodAll enc Tryd.prog W' b sp hd fn.resultTypes.toList ((Value.bool true).resultList fn.resultTypes.size) [.lit (.bool true)] [] := fun b sp hd => by
    rw [hres]
    exact trodAll_mk1 (shut_bool b4 _)
  have hold : ∀ x ∈ before, (fun b => decide (b < W.heap.size)) x.block = true := fun x hx => by simpa using hlt x hx
  refine ⟨ds, [], before, [], before, [], hW', ?_, ?_, ?_, hB.frame _, fun h => by cases h⟩
  · rw [hs]; exact hres' _ _ _
  · rw [hs]; exact hargs _ hold
  · rw [hs, hvars]; rfl

theorem c22 : Tryd.prog.cellsOf 22 = 1 := by kernel_rfl
theorem c23 : Tryd.prog.cellsOf 23 = 1 := by kernel_rfl
theorem c33 : Tryd.prog.cellsOf 33 = 1 := by kernel_rfl
theorem c44 : Tryd.prog.cellsOf 44 = 2 := by kernel_rfl
theorem c73 : Tryd.prog.cellsOf 73 = 2 := by kernel_rfl
theorem b3 : Tryd.prog.bytesOf 3 = 8 := by kernel_rfl
theorem b44 : Tryd.prog.bytesOf 44 = 32 := by kernel_rfl
theorem b73 : Tryd.prog.bytesOf 73 = 16 := by kernel_rfl
theorem a3 : aggT Tryd.prog 3 = false := by kernel_rfl
theorem a44 : aggT Tryd.prog 44 = true := by kernel_rfl
theorem a73 : aggT Tryd.prog 73 = true := by kernel_rfl
section
variable {H : Type} {enc : TypeId × Value → H} {W : World} {base : Nat}
/-- Cells that are known by their kinds. -/
theorem rd_ints {k : Nat} : ∀ es : List AV, (∀ x ∈ es, x.isAgg = false ∧ Sh Tryd.prog (k + 1) 3 x.cells) → ∃ l : List Int, es = ints l
  | [], _ => ⟨[], rfl⟩
  | x :: es, h => by
    obtain ⟨l, hl⟩ := rd_ints es fun y hy => h y (.tail _ hy)
    obtain ⟨h1, h2⟩ := h x (.head _)
    simp only [Sh, Tryd.underlying3] at h2
    obtain ⟨n, hn⟩ := h2
    have hx : x = I n := by
      cases x <;> simp_all [AV.cells, AV.isAgg]
    exact ⟨n :: l, by rw [hx, hl]; rfl⟩
theorem agg_cells {x : AV} (h : x.isAgg = true) : x = .agg x.cells := by cases x <;> simp_all [AV.cells, AV.isAgg]
theorem spans_of {k : Nat} : ∀ es : List AV, (∀ x ∈ es, x.isAgg = true ∧ Sh Tryd.prog (k + 2) 73 x.cells) → ∃ l : List Sp, es = l.map spA
  | [], _ => ⟨[], rfl⟩
  | x :: es, h => by
    obtain ⟨l, hl⟩ := spans_of es fun y hy => h y (.tail _ hy)
    obtain ⟨h1, h2⟩ := h x (.head _)
    simp only [Sh, Tryd.underlying73, ShF, Tryd.underlying3] at h2
    obtain ⟨a, b, hab, _, ⟨n, hn⟩, c, d, hcd, _, ⟨m, hm⟩, hd⟩ := h2
    have hx : x = spA ⟨n, m⟩ := by
      rw [agg_cells h1, hab, hcd, hn, hm, hd]; rfl
    exact ⟨⟨n, m⟩ :: l, by rw [hx, hl]; rfl⟩
theorem copy_of {k : Nat} {cs : List AV} (h : Sh Tryd.prog (k + 3) 44 cs) : ∃ c : CpV, c.Ok ∧ cs = [I c.cp.voice, c.row] := by
  simp only [Sh, Tryd.underlying44, ShF, Tryd.underlying3, Tryd.underlying33] at h
  obtain ⟨a, b, hab, _, ⟨n, hn⟩, c, d, hcd, _, ⟨r, es, hr, hrow, hlen, hes⟩, hd⟩ := h
  rw [b3] at hlen
  simp only [a3, c3] at hes hrow
  obtain ⟨l, rfl⟩ := rd_ints (k := k) es fun x hx => by
    obtain ⟨q1, q2⟩ := hes x hx
    exact ⟨q1, by simpa only [Sh, Tryd.underlying3] using q2⟩
  refine ⟨⟨⟨n, l⟩, r⟩, ⟨hrow, ?_⟩, ?_⟩
  · rw [ints_len] at hlen
    simp only [reachBytes] at hlen
    show l.length < _
    omega
  · rw [hab, hcd, hn, hr, hd]; rfl
theorem copies_of {k : Nat} : ∀ es : List AV, (∀ x ∈ es, x.isAgg = true ∧ Sh Tryd.prog (k + 3) 44 x.cells) → ∃ l : List CpV, es = l.map CpV.av ∧ ∀ c ∈ l, c.Ok
  | [], _ => ⟨[], rfl, fun c hc => absurd hc List.not_mem_nil⟩
  | x :: es, h => by
    obtain ⟨l, hl, hok⟩ := copies_of es fun y hy => h y (.tail _ hy)
    obtain ⟨h1, h2⟩ := h x (.head _)
    obtain ⟨c, hc, hx⟩ := copy_of h2
    have hx' : x = c.av := by rw [agg_cells h1, hx]; rfl
    refine ⟨c :: l, by rw [hx', hl]; rfl, fun d hd => ?_⟩
    rcases List.mem_cons.1 hd with rfl | hd
    · exact hc
    · exact hok d hd
theorem book_of {k : Nat} {cs : List AV} (h : Sh Tryd.prog (k + 5) 25 cs) : ∃ x : PB, x.Ok ∧ cs = x.cells := by
  simp only [Sh, Tryd.underlying25, ShF, Tryd.underlying3, Tryd.underlying22, Tryd.underlying23] at h
  obtain ⟨a0, b0, h0, _, ⟨n, hn⟩, a1, b1, h1, _, ⟨vr, ves, hvr, hvrow, hvlen, hves⟩, a2, b2, h2, _, ⟨st, hst⟩, a3', b3', h3, _, ⟨ch, hch⟩, a4, b4', h4, _, ⟨pf, hpf⟩, a5, b5, h5, _, ⟨cr, ces, hcr, hcrow, hclen, hces⟩, h6⟩ := h
  simp only [c73, c44, a73, a44, b73, b44] at hvrow hcrow hves hces hvlen hclen
  obtain ⟨ss, rfl⟩ := spans_of (k := k + 1) ves fun x hx => by
    obtain ⟨q1, q2⟩ := hves x hx
    exact ⟨q1, by simpa only [Sh] using q2⟩
  obtain ⟨cps, rfl, hok⟩ := copies_of (k := k) ces fun x hx => by
    obtain ⟨q1, q2⟩ := hces x hx
    exact ⟨q1, by simpa only [Sh] using q2⟩
  rw [List.length_map] at hvlen hclen
  simp only [reachBytes] at hvlen hclen
  refine ⟨⟨n, ss, st, ch, pf, cps, vr, cr⟩, ⟨hvrow, hcrow, ?_, ?_, hok⟩, ?_⟩
  · show ss.length < _; omega
  · show cps.length < _; omega
  · rw [h0, h1, h2, h3, h4, h5, hn, hvr, hst, hch, hpf, hcr, h6]; rfl
/-- An argument that is a struct or an array. -/
theorem agg_arg {k : Nat} {t : TypeId} {v : Value} {d : DataW H} {p : List MemPlace} (hf : rdOk Tryd.prog k t = true) (hagg : (match Tryd.prog.underlying t with | some (.struct _) | some (.array _ _) => true | _ => false) = true)
    (hd : DataW.Trod enc Tryd.prog W 0 (fun _ => true) true t v d p) (hok : Value.okWide Tryd.prog W .any base t v) (hw : ∀ n ∈ d.weights Tryd.prog t, n ≤ reachBytes) :
    ∃ qs : List AV, Sh Tryd.prog k t qs ∧ PRep W (fun g _ => g < W.heap.size) (fun k => k < W.heap.size) v (.agg qs) := by
  have hv : ∃ cs, v = .agg cs := by
    unfold Value.okWide at hok
    split at hok
    · obtain ⟨cs, rfl, _⟩ := hok; exact ⟨cs, rfl⟩
    · obtain ⟨cs, rfl, _⟩ := hok; exact ⟨cs, rfl⟩
    · rename_i h1 h2
      split at hagg
      · rename_i fs hu; exact absurd hu (h1 fs)
      · rename_i n e hu; exact absurd hu (h2 n e)
      · cases hagg
  obtain ⟨cs, rfl⟩ := hv
  obtain ⟨fuel, hd⟩ := hd
  obtain ⟨_, qs, h1, h2⟩ := read_trod k t hf fuel _ _ hd hw
  refine ⟨qs, h2, .agg _ _ (by rw [h1.len]; exact (Array.length_toList).symm) fun i u w hu hw' => ?_⟩
  rw [← Array.getElem?_toList] at hu
  exact h1.rep i u w hu hw'
theorem book_read {v : Value} {d : DataW H} {p : List MemPlace} (hd : DataW.Trod enc Tryd.prog W 0 (fun _ => true) true 25 v d p) (hok : Value.okWide Tryd.prog W .any base 25 v) (hw : ∀ n ∈ d.weights Tryd.prog 25, n ≤ reachBytes) :
    ∃ x : PB, x.Ok ∧ PRep W (fun g _ => g < W.heap.size) (fun k => k < W.heap.size) v x.av := by
  obtain ⟨qs, h1, h2⟩ := agg_arg (k := 8) (by kernel_rfl) (by rw [Tryd.underlying25]) hd hok hw
  obtain ⟨x, hx, rfl⟩ := book_of (k := 3) h1
  exact ⟨x, hx, h2⟩
theorem copy_read {v : Value} {d : DataW H} {p : List MemPlace} (hd : DataW.Trod enc Tryd.prog W 0 (fun _ => true) true 44 v d p) (hok : Value.okWide Tryd.prog W .any base 44 v) (hw : ∀ n ∈ d.weights Tryd.prog 44, n ≤ reachBytes) :
    ∃ c : CpV, c.Ok ∧ PRep W (fun g _ => g < W.heap.size) (fun k => k < W.heap.size) v c.av := by
  obtain ⟨qs, h1, h2⟩ := agg_arg (k := 8) (by kernel_rfl) (by rw [Tryd.underlying44]) hd hok hw
  obtain ⟨c, hc, rfl⟩ := copy_of (k := 5) h1
  exact ⟨c, hc, h2⟩
theorem flat_of {k : Nat} : ∀ (n : Nat) (cs : List AV), ShA (Sh Tryd.prog (k + 1) 3) 1 n cs → ∃ l : List Int, l.length = n ∧ cs = ints l
  | 0, cs, h => ⟨[], rfl, h⟩
  | n + 1, cs, h => by
    obtain ⟨a, b, hab, _, ha, hb⟩ := h
    obtain ⟨l, hl, rfl⟩ := flat_of n b hb
    simp only [Sh, Tryd.underlying3] at ha
    obtain ⟨m, rfl⟩ := ha
    exact ⟨m :: l, by simp [hl], by rw [hab]; rfl⟩
theorem two_read {v : Value} {d : DataW H} {p : List MemPlace} (hd : DataW.Trod enc Tryd.prog W 0 (fun _ => true) true 26 v d p) (hok : Value.okWide Tryd.prog W .any base 26 v) (hw : ∀ n ∈ d.weights Tryd.prog 26, n ≤ reachBytes) :
    ∃ a b : Int, PRep W (fun g _ => g < W.heap.size) (fun k => k < W.heap.size) v (.agg [I a, I b]) := by
  obtain ⟨qs, h1, h2⟩ := agg_arg (k := 8) (by kernel_rfl) (by rw [Tryd.underlying26]) hd hok hw
  have h1' : ShA (Sh Tryd.prog 7 3) (Tryd.prog.cellsOf 3) 2 qs := by
    unfold Sh at h1; rw [Tryd.underlying26] at h1; exact h1
  rw [c3] at h1'
  obtain ⟨l, hl, rfl⟩ := flat_of (k := 6) 2 qs h1'
  match l, hl with
  | [a, b], _ => exact ⟨a, b, h2⟩
theorem four_read {v : Value} {d : DataW H} {p : List MemPlace} (hd : DataW.Trod enc Tryd.prog W 0 (fun _ => true) true 62 v d p) (hok : Value.okWide Tryd.prog W .any base 62 v) (hw : ∀ n ∈ d.weights Tryd.prog 62, n ≤ reachBytes) :
    ∃ a b c e : Int, PRep W (fun g _ => g < W.heap.size) (fun k => k < W.heap.size) v (.agg [I a, I b, I c, I e]) := by
  obtain ⟨qs, h1, h2⟩ := agg_arg (k := 8) (by kernel_rfl) (by rw [Tryd.underlying62]) hd hok hw
  have h1' : ShA (Sh Tryd.prog 7 3) (Tryd.prog.cellsOf 3) 4 qs := by
    unfold Sh at h1; rw [Tryd.underlying62] at h1; exact h1
  rw [c3] at h1'
  obtain ⟨l, hl, rfl⟩ := flat_of (k := 6) 4 qs h1'
  match l, hl with
  | [a, b, c, e], _ => exact ⟨a, b, c, e, h2⟩
theorem ints_read {v : Value} {d : DataW H} {p : List MemPlace} (hd : DataW.Trod enc Tryd.prog W 0 (fun _ => true) true 33 v d p) (hok : Value.okWide Tryd.prog W .any base 33 v) (hw : ∀ n ∈ d.weights Tryd.prog 33, n ≤ reachBytes) :
    ∃ (l : List Int) (r : AV), l.length < 2 ^ 47 ∧ IsRow 1 (ints l) r ∧ PRep W (fun g _ => g < W.heap.size) (fun k => k < W.heap.size) v r := by
  obtain ⟨fuel, hd⟩ := hd
  simp only [Value.okWide, Tryd.underlying33] at hok
  have hv : v.cells.toList = [v] := by
    cases v with
    | agg cs => exact False.elim (by simp [Cell.okWide, Tryd.underlying33, Cell.ok] at hok)
    | _ => rfl
  have hd' : DataW.trod enc Tryd.prog W 0 (fun _ => true) true fuel 33 [v] = some (d, p) := by rw [← hv]; exact hd
  obtain ⟨_, qs, h1, h2⟩ := read_trod 8 33 (by kernel_rfl) fuel _ _ hd' hw
  unfold Sh at h2
  rw [Tryd.underlying33] at h2
  obtain ⟨r, es, rfl, hrow, hlen, hes⟩ := h2
  simp only [a3, c3, b3] at hrow hlen hes
  obtain ⟨l, rfl⟩ := rd_ints (k := 6) es fun x hx => by
    obtain ⟨q1, q2⟩ := hes x hx
    exact ⟨q1, q2⟩
  rw [ints_len] at hlen
  simp only [reachBytes] at hlen
  exact ⟨l, r, by omega, hrow, h1.rep 0 v r rfl rfl⟩
end
theorem preps_two {W : World} {F : Nat → Nat → Prop} {M : Nat → Prop} {v v' : Value} {a a' : AV} (h : PRep W F M v a) (h' : PRep W F M v' a') : PReps W F M [v, v'] [a, a'] :=
  ⟨rfl, fun i u c hu hc => by
    match i with
    | 0 => simp at hu hc; subst hu hc; exact h
    | 1 => simp at hu hc; subst hu hc; exact h'
    | i + 2 => simp at hu⟩

theorem preps_one {W : World} {F : Nat → Nat → Prop} {M : Nat → Prop} {v : Value} {a : AV} (h : PRep W F M v a) : PReps W F M [v] [a] :=
  ⟨rfl, fun i u c hu hc => by
    match i with
    | 0 => simp at hu hc; subst hu hc; exact h
    | i + 1 => simp at hu⟩
theorem preps_three {W : World} {F : Nat → Nat → Prop} {M : Nat → Prop} {v v' v'' : Value} {a a' a'' : AV} (h : PRep W F M v a) (h' : PRep W F M v' a') (h'' : PRep W F M v'' a'') : PReps W F M [v, v', v''] [a, a', a''] :=
  ⟨rfl, fun i u c hu hc => by
    match i with
    | 0 => simp at hu hc; subst hu hc; exact h
    | 1 => simp at hu hc; subst hu hc; exact h'
    | 2 => simp at hu hc; subst hu hc; exact h''
    | i + 3 => simp at hu⟩
end Go.Ai
