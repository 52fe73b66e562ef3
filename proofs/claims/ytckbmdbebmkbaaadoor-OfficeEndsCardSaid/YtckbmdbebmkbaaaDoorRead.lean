/- This text shows how arguments and the laid variables are read. No conditions of its own. -/
import Derived.Test.YtckbmdbebmkbaaaDoorFnQ
import Derived.Test.YtckbmdbebmkbaaaDoorRd
import Derived.Test.YtckbmdbebmkbaaaDoorTie
import Derived.Test.YtckbmdbebmkbaaaDoorCards
import Derived.Handed
import Derived.OpenShut
import Derived.LaidMore
import Derived.Stop.Joined
import Derived.KernelRfl
import Derived.Shelf.Lays
import Derived.Shelf.Sort.Plain
set_option linter.unusedSimpArgs false
set_option linter.unusedVariables false
set_option maxRecDepth 100000
namespace Go.Ai
open Go.Proofs Go.Proofs.YtckbmdbebmkbaaaDoor Go.ChangeShapes Go.WideShapes Go.ChangeAt Go.RowKit
abbrev laid : List (String × DataW Unit) := [("decani/office.never", Rows.laid_decani_office_never), ("decani/office.nowhere", Rows.laid_decani_office_nowhere), ("decani/office.fates", Rows.laid_decani_office_fates)]
theorem gn0 : Tryd.prog.globalNamed "decani/office.nowhere" = some 0 := by kernel_rfl
theorem gt0 : (Tryd.prog.globals[0]?).map (·.type) = some 99 := by kernel_rfl
theorem gn1 : Tryd.prog.globalNamed "decani/office.never" = some 1 := by kernel_rfl
theorem gt1 : (Tryd.prog.globals[1]?).map (·.type) = some 90 := by kernel_rfl
theorem gn2 : Tryd.prog.globalNamed "decani/office.fates" = some 2 := by kernel_rfl
theorem gt2 : (Tryd.prog.globals[2]?).map (·.type) = some 155 := by kernel_rfl
theorem c3 : Tryd.prog.cellsOf 3 = 1 := by kernel_rfl
theorem c99 : Tryd.prog.cellsOf 99 = 2 := by kernel_rfl
theorem c90 : Tryd.prog.cellsOf 90 = 4 := by kernel_rfl
theorem c155 : Tryd.prog.cellsOf 155 = 3 := by kernel_rfl
theorem c154 : Tryd.prog.cellsOf 154 = 1 := by kernel_rfl
section
variable {H : Type} {enc : TypeId × Value → H} {P : Program} {w : World} {base : Nat} {spare : Nat → Bool} {held : Bool}
theorem array_cells {t e : TypeId} {m : Nat} {fuel : Nat} {cs : List Value} {ds : List (DataW H)} {p : List MemPlace} (ht : P.underlying t = some (.array m e)) (hc : P.cellsOf e = 1) (h : DataW.trod enc P w base spare held fuel t cs = some (.agg ds, p)) :
    cs.length = P.cellsOf t ∧ ∀ (i : Nat) (d : DataW H), i < m → ds[i]? = some d → ∀ c, cs[i]? = some c → ∃ n q, DataW.trod enc P w base spare held n e [c] = some (d, q) := by
  obtain ⟨xs, n, _, hx, hl, hlen, hf⟩ := DataW.trod_array ht h
  refine ⟨hl, fun i d hi hd c hcc => ?_⟩
  have := hf i hi
  have hds : ds = xs.map (·.1) := by
    have := congrArg Prod.fst hx
    simpa using this
  rw [hds, List.getElem?_map, Option.map_eq_some_iff] at hd
  obtain ⟨y, hy, rfl⟩ := hd
  rw [hy, hc, Nat.mul_one] at this
  have e1 : (cs.drop i).take 1 = [c] := by
    have := (List.getElem?_eq_some_iff.1 hcc).1
    rw [List.drop_eq_getElem_cons this]
    have h2 := (List.getElem?_eq_some_iff.1 hcc).2
    simp [h2]
  rw [e1] at this
  exact ⟨n, y.2, this⟩
end
section
variable {H : Type} {enc : TypeId × Value → H} {W : World} {base : Nat} {spare : Nat → Bool} {held : Bool}
theorem arr_laid {g t m : Nat} {fuel : Nat} {cs : Array Value} {p : List MemPlace} {z : Int} (ht : Tryd.prog.underlying t = some (.array m 3)) (hct : Tryd.prog.cellsOf t = m) (hk : ∀ i, W.cell? ⟨g, i, none⟩ = cs[i]?)
    (hd : DataW.trod enc Tryd.prog W base spare held fuel t cs.toList = some (.agg (List.replicate m (.lit (.int .i64 z))), p)) : ∀ i, i < m → W.cell? ⟨g, i, none⟩ = some (.int .i64 z) := by
  intro i hi
  obtain ⟨hl2, hel2⟩ := array_cells (ds := List.replicate m (.lit (.int .i64 z))) ht c3 hd
  rw [hct] at hl2
  have hil : i < cs.toList.length := by omega
  have hci : cs.toList[i]? = some cs.toList[i] := List.getElem?_eq_getElem hil
  have hdi : (List.replicate m (.lit (.int .i64 z)) : List (DataW H))[i]? = some (.lit (.int .i64 z)) := by
    rw [List.getElem?_replicate, if_pos hi]
  obtain ⟨n, q, hn⟩ := hel2 i _ hi hdi _ hci
  obtain ⟨m', hm1, hm2, _⟩ := DataW.trod_int Tryd.underlying3 hn
  have hm3 : m' = z := by
    have := congrArg Prod.fst hm2
    simp only [DataW.lit.injEq, Lit.int.injEq, true_and] at this
    exact this.symm
  subst hm3
  simp only [List.cons.injEq, and_true] at hm1
  rw [hk, ← Array.getElem?_toList, hci, hm1]
theorem two_laid {g : Nat} {cs : Array Value} {p : List MemPlace} (hk : ∀ i, W.cell? ⟨g, i, none⟩ = cs[i]?) (hl2 : cs.toList.length = 2) {y0 y1 : DataW H × List MemPlace} {n : Nat}
    (hx : (DataW.agg [.lit (.int .i64 (-1)), .lit (.int .i64 (-1))], p) = (DataW.agg [y0.1, y1.1], y0.2 ++ y1.2) ∨ ((DataW.agg [.lit (.int .i64 (-1)), .lit (.int .i64 (-1))] : DataW H) = DataW.agg [y0.1, y1.1]))
    (k0 : DataW.trod enc Tryd.prog W base spare held n 3 ((cs.toList.drop 0).take 1) = some y0) (k1 : DataW.trod enc Tryd.prog W base spare held n 3 ((cs.toList.drop 1).take 1) = some y1) : ∀ i, i < 2 → W.cell? ⟨g, i, none⟩ = some (.int .i64 (-1)) := by
  intro i hi
  obtain ⟨l1⟩ := cs
  match l1, hl2 with
  | [a1, b1], _ =>
    simp only [List.drop_zero, List.take_succ_cons, List.take_zero, List.drop_succ_cons] at k0 k1
    obtain ⟨m0, hm0, hm0', _⟩ := DataW.trod_int Tryd.underlying3 k0
    obtain ⟨m1, hm1, hm1', _⟩ := DataW.trod_int Tryd.underlying3 k1
    have hx' : (DataW.agg [.lit (.int .i64 (-1)), .lit (.int .i64 (-1))] : DataW H) = DataW.agg [y0.1, y1.1] := by
      rcases hx with h | h
      · exact congrArg Prod.fst h
      · exact h
    rw [hm0', hm1'] at hx'
    simp only [DataW.agg.injEq, List.cons.injEq, DataW.lit.injEq, Lit.int.injEq, true_and, and_true] at hx'
    obtain ⟨rfl, rfl⟩ := hx'
    simp only [List.cons.injEq, and_true] at hm0 hm1
    subst hm0 hm1
    have : i = 0 ∨ i = 1 := by omega
    rcases this with rfl | rfl <;> (rw [hk]; try rfl)
end
theorem of_fates {W : World} (h : laidMetH Tryd.prog laid W) : W.cell? ⟨2, 0, none⟩ = some (.func (.func 130) #[] #[]) ∧ W.cell? ⟨2, 1, none⟩ = some (.func (.func 128) #[] #[]) ∧ W.cell? ⟨2, 2, none⟩ = some (.func (.func 105) #[] #[]) := by
  obtain ⟨g, t, cs, fuel, p, hg, ht, hv, hd⟩ := h.funcs (n := "decani/office.fates") (d := .agg [.iface "func" (.lit (.string [40, 100, 101, 99, 97, 110, 105, 47, 111, 102, 102, 105, 99, 101, 46, 115, 117, 110, 103, 41, 46, 111, 117, 116])), .iface "func" (.lit (.string [40, 100, 101, 99, 97, 110, 105, 47, 111, 102, 102, 105, 99, 101, 46, 115, 117, 110, 103, 41, 46, 110, 101, 120, 116])), .iface "func" (.lit (.string [40, 100, 101, 99, 97, 110, 105, 47, 111, 102, 102, 105, 99, 101, 46, 115, 117, 110, 103, 41, 46, 116, 111, 111]))]) (.tail _ (.tail _ (.head _)))
  obtain rfl := Option.some.inj (gn2.symm.trans hg)
  obtain rfl := Option.some.inj (gt2.symm.trans ht)
  have hd' : DataW.trod (funcToken Tryd.prog) Tryd.prog W 0 (fun _ => true) true fuel 155 cs.toList = some (.agg [.held [40, 100, 101, 99, 97, 110, 105, 47, 111, 102, 102, 105, 99, 101, 46, 115, 117, 110, 103, 41, 46, 111, 117, 116], .held [40, 100, 101, 99, 97, 110, 105, 47, 111, 102, 102, 105, 99, 101, 46, 115, 117, 110, 103, 41, 46, 110, 101, 120, 116], .held [40, 100, 101, 99, 97, 110, 105, 47, 111, 102, 102, 105, 99, 101, 46, 115, 117, 110, 103, 41, 46, 116, 111, 111]], p) := hd
  obtain ⟨hl, hel⟩ := array_cells Tryd.underlying155 c154 hd'
  rw [c155] at hl
  have hk0 := World.var?_cell hg hv 0
  have hk1 := World.var?_cell hg hv 1
  have hk2 := World.var?_cell hg hv 2
  obtain ⟨l⟩ := cs
  match l, hl with
  | [a, b, c], _ =>
    obtain ⟨n0, q0, h0⟩ := hel 0 _ (by decide) rfl a rfl
    obtain ⟨n1, q1, h1⟩ := hel 1 _ (by decide) rfl b rfl
    obtain ⟨n2, q2, h2⟩ := hel 2 _ (by decide) rfl c rfl
    obtain rfl := func_of_trod (f0 := 130) Tryd.underlying154 (by kernel_rfl) h0
    obtain rfl := func_of_trod (f0 := 128) Tryd.underlying154 (by kernel_rfl) h1
    obtain rfl := func_of_trod (f0 := 105) Tryd.underlying154 (by kernel_rfl) h2
    exact ⟨by simpa using hk0, by simpa using hk1, by simpa using hk2⟩
theorem of_data {W : World} (h : laidMetH Tryd.prog laid W) : (∀ i, i < 4 → W.cell? ⟨1, i, none⟩ = some (.int .i64 (-1))) ∧ (∀ i, i < 2 → W.cell? ⟨0, i, none⟩ = some (.int .i64 (-1))) := by
  have hm : laidMet Tryd.prog [("decani/office.never", Rows.laid_decani_office_never), ("decani/office.nowhere", Rows.laid_decani_office_nowhere)] W := h.1
  obtain ⟨ps, ⟨g4, t4, cs4, f4, p4, q4, hg4, ht4, hv4, hd4, ⟨g3, t3, cs3, f3, p3, q3, hg3, ht3, hv3, hd3, _, _⟩, _⟩, _, _⟩ := hm
  obtain rfl := Option.some.inj (gn1.symm.trans hg4)
  obtain rfl := Option.some.inj (gt1.symm.trans ht4)
  obtain rfl := Option.some.inj (gn0.symm.trans hg3)
  obtain rfl := Option.some.inj (gt0.symm.trans ht3)
  refine ⟨arr_laid (z := -1) Tryd.underlying90 c90 (World.var?_cell hg4 hv4) hd4, ?_⟩
  obtain ⟨y0, y1, n, hx, hl2, k0, k1⟩ := trod_struct2 Tryd.underlying99 hd3
  rw [c99] at hl2
  simp only [c3] at k0 k1
  exact two_laid (p := p3) (World.var?_cell hg3 hv3) hl2 (.inr (congrArg Prod.fst hx)) k0 k1
theorem rep_ints {W : World} {g n : Nat} {z : Int} (h : ∀ i, i < n → W.cell? ⟨g, i, none⟩ = some (.int .i64 z)) (hn : 0 < n) : PRep W (fun g _ => g < W.heap.size) (fun k => k < W.heap.size) (.pointer (some ⟨g, 0, none⟩)) (.rp (List.replicate n (I z)) 0) := by
  have lt : ∀ g i c, W.cell? ⟨g, i, none⟩ = some c → g < W.heap.size := fun g i c hc => World.block_lt_of_cell? W _ (by rw [hc])
  exact PRep.rp (w := W) g 0 0 (List.replicate n (I z)) (fun j => .int .i64 z)
    (fun j x hj => by rw [Nat.zero_add]; exact h j (by have := (List.getElem?_eq_some_iff.1 hj).1; simpa using this))
    (fun j x hj => lt g 0 _ (h 0 hn))
    (fun j x hj => rfl)
    (fun j x hj => by
      have := (List.mem_replicate.1 (List.mem_of_getElem? hj)).2
      subst this
      exact .int _ _)
theorem rep_funcs {W : World} {g f0 f1 f2 : Nat} (k0 : W.cell? ⟨g, 0, none⟩ = some (.func (.func f0) #[] #[])) (k1 : W.cell? ⟨g, 1, none⟩ = some (.func (.func f1) #[] #[])) (k2 : W.cell? ⟨g, 2, none⟩ = some (.func (.func f2) #[] #[])) : PRep W (fun g _ => g < W.heap.size) (fun k => k < W.heap.size) (.pointer (some ⟨g, 0, none⟩)) (.rp [.fn (.func f0) [] [], .fn (.func f1) [] [], .fn (.func f2) [] []] 0) := by
  have lt : ∀ g i c, W.cell? ⟨g, i, none⟩ = some c → g < W.heap.size := fun g i c hc => World.block_lt_of_cell? W _ (by rw [hc])
  exact PRep.rp (w := W) (F := fun g _ => g < W.heap.size) (M := fun k => k < W.heap.size) g 0 0 [.fn (.func f0) [] [], .fn (.func f1) [] [], .fn (.func f2) [] []] (fun j => if j = 0 then .func (.func f0) #[] #[] else if j = 1 then .func (.func f1) #[] #[] else .func (.func f2) #[] #[])
    (fun j x hj => by
      match j with
      | 0 => exact k0
      | 1 => exact k1
      | 2 => exact k2
      | j + 3 => simp at hj)
    (fun j x hj => lt g 0 _ k0)
    (fun j x hj => by
      match j with
      | 0 => rfl
      | 1 => rfl
      | 2 => rfl
      | j + 3 => simp at hj)
    (fun j x hj => by
      match j with
      | 0 => simp at hj; subst hj; exact .fn _ #[] #[] [] [] rfl rfl (fun i v c h => by simp at h) (fun i v c h => by simp at h)
      | 1 => simp at hj; subst hj; exact .fn _ #[] #[] [] [] rfl rfl (fun i v c h => by simp at h) (fun i v c h => by simp at h)
      | 2 => simp at hj; subst hj; exact .fn _ #[] #[] [] [] rfl rfl (fun i v c h => by simp at h) (fun i v c h => by simp at h)
      | j + 3 => simp at hj)
theorem glob_rep {W : World} (h : laidMetH Tryd.prog laid W) : ∀ (g : Nat) (cs : List AV), Cv.glob g = some cs → PRep W (fun g _ => g < W.heap.size) (fun k => k < W.heap.size) (.pointer (some ⟨g, 0, none⟩)) (.rp cs 0) := by
  obtain ⟨d1, d0⟩ := of_data h
  obtain ⟨k0, k1, k2⟩ := of_fates h
  intro g cs hg
  simp only [Cv] at hg
  split at hg
  · rename_i h0; subst h0; cases hg; exact rep_ints (n := 2) d0 (by decide)
  · split at hg
    · rename_i _ h0; subst h0; cases hg; exact rep_ints (n := 4) d1 (by decide)
    · split at hg
      · rename_i _ _ h0; subst h0; cases hg; exact rep_funcs k0 k1 k2
      · cases hg
end Go.Ai

set_option maxRecDepth 100000
namespace Go.Ai
open Go.Proofs
def ren189 : Shelf.Ren :=
{
  f := fun x =>
    match x with
    | 189 => 69
    | 125 => 84
    | 257 => 83
    | 128 => 101
    | 129 => 102
    | 294 => 92
    | 295 => 93
    | 296 => 94
    | 297 => 95
    | 298 => 96
    | 299 => 97
    | 216 => 98
    | 300 => 99
    | 301 => 100
    | 328 => 106
    | 329 => 107
    | 330 => 108
    | 331 => 109
    | 332 => 110
    | 215 => 91
    | 343 => 112
    | n => n,
  t := fun x =>
    match x with
    | 28 => 34
    | 3 => 3
    | 46 => 133
    | 0 => 0
    | 51 => 147
    | 53 => 149
    | 4 => 4
    | 183 => 140
    | 182 => 139
    | 131 => 144
    | 5 => 5
    | 9 => 9
    | 218 => 156
    | 222 => 160
    | 228 => 163
    | 229 => 114
    | n => n,
  g := fun x =>
    have n := x;
    n }
theorem lays189 : Lays.n189 Tryd.prog ren189 :=
{ mixed := Eq.refl true, f125 := Eq.trans Tryd.func84 (congrArg some (Eq.refl (Body.n125 ren189))),
  f128 := Eq.trans Tryd.func101 (congrArg some (Eq.refl (Body.n128 ren189))),
  f129 := Eq.trans Tryd.func102 (congrArg some (Eq.refl (Body.n129 ren189))),
  f189 := Eq.trans Tryd.func69 (congrArg some (Eq.refl (Body.n189 ren189))),
  f215 := Eq.trans Tryd.func91 (congrArg some (Eq.refl (Body.n215 ren189))),
  f216 := Eq.trans Tryd.func98 (congrArg some (Eq.refl (Body.n216 ren189))),
  f257 := Eq.trans Tryd.func83 (congrArg some (Eq.refl (Body.n257 ren189))),
  f294 := Eq.trans Tryd.func92 (congrArg some (Eq.refl (Body.n294 ren189))),
  f295 := Eq.trans Tryd.func93 (congrArg some (Eq.refl (Body.n295 ren189))),
  f296 := Eq.trans Tryd.func94 (congrArg some (Eq.refl (Body.n296 ren189))),
  f297 := Eq.trans Tryd.func95 (congrArg some (Eq.refl (Body.n297 ren189))),
  f298 := Eq.trans Tryd.func96 (congrArg some (Eq.refl (Body.n298 ren189))),
  f299 := Eq.trans Tryd.func97 (congrArg some (Eq.refl (Body.n299 ren189))),
  f300 := Eq.trans Tryd.func99 (congrArg some (Eq.refl (Body.n300 ren189))),
  f301 := Eq.trans Tryd.func100 (congrArg some (Eq.refl (Body.n301 ren189))),
  f328 := Eq.trans Tryd.func106 (congrArg some (Eq.refl (Body.n328 ren189))),
  f329 := Eq.trans Tryd.func107 (congrArg some (Eq.refl (Body.n329 ren189))),
  f330 := Eq.trans Tryd.func108 (congrArg some (Eq.refl (Body.n330 ren189))),
  f331 := Eq.trans Tryd.func109 (congrArg some (Eq.refl (Body.n331 ren189))),
  f332 := Eq.trans Tryd.func110 (congrArg some (Eq.refl (Body.n332 ren189))),
  f343 := Eq.trans Tryd.func112 (congrArg some (Eq.refl (Body.n343 ren189))), t0 := Tryd.underlying0,
  a0 := Tryd.isAgg0, z0 := Tryd.sizeOf0, v0 := Tryd.zeroValue0, t3 := Tryd.underlying3, a3 := Tryd.isAgg3,
  z3 := Tryd.sizeOf3, v3 := Tryd.zeroValue3, t4 := Tryd.underlying4, a4 := Tryd.isAgg4, z4 := Tryd.sizeOf4,
  v4 := Tryd.zeroValue4, t5 := Tryd.underlying5, a5 := Tryd.isAgg5, z5 := Tryd.sizeOf5, v5 := Tryd.zeroValue5,
  t9 := Tryd.underlying9, a9 := Tryd.isAgg9, z9 := Tryd.sizeOf9, v9 := Tryd.zeroValue9, t28 := Tryd.underlying34,
  a28 := Tryd.isAgg34, z28 := Tryd.sizeOf34, v28 := Tryd.zeroValue34, t46 := Tryd.underlying133, a46 := Tryd.isAgg133,
  z46 := Tryd.sizeOf133, v46 := Tryd.zeroValue133, t51 := Tryd.underlying147, a51 := Tryd.isAgg147,
  z51 := Tryd.sizeOf147, v51 := Tryd.zeroValue147, t53 := Tryd.underlying149, a53 := Tryd.isAgg149,
  z53 := Tryd.sizeOf149, v53 := Tryd.zeroValue149, t131 := Tryd.underlying144, a131 := Tryd.isAgg144,
  z131 := Tryd.sizeOf144, v131 := Tryd.zeroValue144, t182 := Tryd.underlying139, a182 := Tryd.isAgg139,
  z182 := Tryd.sizeOf139, v182 := Tryd.zeroValue139, t183 := Tryd.underlying140, a183 := Tryd.isAgg140,
  z183 := Tryd.sizeOf140, v183 := Tryd.zeroValue140, t218 := Tryd.underlying156, a218 := Tryd.isAgg156,
  z218 := Tryd.sizeOf156, v218 := Tryd.zeroValue156, t222 := Tryd.underlying160, a222 := Tryd.isAgg160,
  z222 := Tryd.sizeOf160, v222 := Tryd.zeroValue160, t228 := Tryd.underlying163, a228 := Tryd.isAgg163,
  z228 := Tryd.sizeOf163, v228 := Tryd.zeroValue163, t229 := Tryd.underlying114, a229 := Tryd.isAgg114,
  z229 := Tryd.sizeOf114, v229 := Tryd.zeroValue114 }
theorem sort_at : SortAt Tryd.prog 69 := by
  refine ⟨⟨_, _, Tryd.func69, rfl⟩, ?_⟩
  intro blk off cap zs w h1 h2 h3
  exact Any.slices_Sort_int lays189 blk off cap zs w h1 h2 h3
theorem sort_ok : SortOk Cv := by
  intro f h
  have : f = 69 := by simpa using h
  subst this
  exact sort_at
end Go.Ai

set_option maxRecDepth 100000
namespace Go.Ai
open Go.Proofs Go.Proofs.YtckbmdbebmkbaaaDoor Go.ChangeShapes Go.WideShapes Go.ChangeAt Go.RowKit
open Go.Office (Ft Rl Us Nt)
theorem own : ownKnob Tryd.prog.godebug = none := by kernel_rfl
theorem laidOut : laidOutB Tryd.prog = true := by kernel_rfl
theorem noNumB : (Tryd.prog.funcs.toList.all fun fn => !(fn.name == "runtime.NumGoroutine")) = true := by kernel_rfl
theorem noNum : NoNum Tryd.prog := by
  intro f fn h
  have := List.all_eq_true.1 noNumB fn (List.mem_of_getElem? (i := f) (by simpa using h))
  simpa using this
theorem trodAll_stays {H : Type} {enc : TypeId × Value → H} {P : Program} (hl : laidOutB P = true) {W W' : World} {sp : Nat → Bool} : ∀ (ts : List TypeId) (vs : List Value) (ds : List (DataW H)) (ps : List MemPlace), (∀ t ∈ ts, P.readableRec t = true ∧ t < P.types.size) →
    DataW.TrodAll enc P W 0 (fun _ => true) true ts vs ds ps → (∀ p ∈ ps, W.sameAt W' p) → (∀ p ∈ ps, sp p.block = true) → DataW.TrodAll enc P W' 0 sp true ts vs ds ps
  | [], [], [], _, _, h, _, _ => h
  | t :: ts, v :: vs, d :: ds, _, hr, ⟨p, q, h1, h2, rfl⟩, hs, hp =>
    ⟨p, q, WideElems.Trod_stays hl (hr t (.head _)).1 (hr t (.head _)).2 h1 (fun x hx => hs x (List.mem_append_left _ hx)) (fun x hx => hp x (List.mem_append_left _ hx)),
      trodAll_stays hl ts vs ds q (fun t ht => hr t (.tail _ ht)) h2 (fun x hx => hs x (List.mem_append_right _ hx)) (fun x hx => hp x (List.mem_append_right _ hx)), rfl⟩
  | [], _ :: _, _, _, _, h, _, _ => h.elim
  | [], [], _ :: _, _, _, h, _, _ => h.elim
  | _ :: _, [], _, _, _, h, _, _ => h.elim
  | _ :: _, _ :: _, [], _, _, h, _, _ => h.elim
theorem trodAll_lt {H : Type} {enc : TypeId × Value → H} {P : Program} {W W' : World} {fn : Func} {s : ChangeSpec} {vs : List Value} {ds gs : List (DataW H)} {before : List MemPlace} (hW : DataW.Whole enc P fn.params.toList s.vars false W vs ds gs before) : ∀ p ∈ before, p.block < W.heap.size := fun p hp => hW.lt p hp
theorem b4 : Tryd.prog.underlying 4 = some .bool := Tryd.underlying4
theorem door_met (os : Os) (args : Array Value) : laidMetH Tryd.prog laid ((World.doorLaid Tryd.prog 600 os).forCall (fun _ _ => 0) ⟨#[], args, []⟩).memory :=
  laidMetH_of_parts3 (fuel := 8) (laidMet_of_run' 8 (by kernel_rfl) (by kernel_rfl)) (by kernel_rfl) (by kernel_rfl)

theorem law_calls {f : FuncId} {fn : Func} {s : ChangeSpec} (hfn : Tryd.prog.funcs[f]? = some fn) (hres : fn.resultTypes = #[4]) {W : World} (hL : laidMetH Tryd.prog laid W) {args : Array Value} {avs : List AV} (hv : PReps W (fun g _ => g < W.heap.size) (fun k => k < W.heap.size) args.toList avs)
    (hc : call Cv f avs = some (.bool true)) {H : Type} {enc : TypeId × Value → H} {ds : List (DataW H)} {before : List MemPlace} (hW : DataW.Whole enc Tryd.prog fn.params.toList s.vars false W args.toList ds [] before) (hvars : s.vars = [])
    (hs : s.fn H (ds ++ []) = { results := [.lit (.bool true)], args := ds }) (hread : ∀ t ∈ fn.params.toList, Tryd.prog.readableRec t = true ∧ t < Tryd.prog.types.size) :
    Calls Tryd.prog f args W fun e W' => ∃ v, e = .returned v ∧ s.post enc Tryd.prog fn false true false false W args v W' := by
  refine (calls_of_call (C := Cv) ⟨noNum, sort_ok⟩ hc (F := fun g _ => g < W.heap.size) (M := fun k => k < W.heap.size) (fun g o h => h) (fun k h => h) (glob_rep hL) hv).mono ?_
  rintro e W' ⟨v, F', M', rfl, hr, hsz, hk, hos, htp, hout⟩
  have hv' : v = .bool true := by cases hr; rfl
  subst hv'
  have hB : Below W.heap.size W W' := ⟨hos, htp, hout, hsz, hk⟩
  refine ⟨_, rfl, ?_⟩
  obtain ⟨p, q, hA, hV, hpq, hfz, hnd⟩ := hW
  have hW' : DataW.Whole enc Tryd.prog fn.params.toList s.vars false W args.toList ds [] before := ⟨p, q, hA, hV, hpq, hfz, hnd⟩
  have hlt : ∀ x ∈ before, x.block < W.heap.size := trodAll_lt (W' := W) hW'
  have hq : q = [] := by rw [hvars] at hV; exact hV
  subst hq
  rw [List.append_nil] at hpq
  subst hpq
  have hargs : ∀ sp : Nat → Bool, (∀ x ∈ before, sp x.block = true) → DataW.TrodAll enc Tryd.prog W' 0 sp true fn.params.toList args.toList ds before := fun sp hsp =>
    trodAll_stays laidOut _ _ _ _ hread hA (fun x hx => hB.same (hlt x hx)) hsp
  have hres' : ∀ (b : Nat) (sp : Nat → Bool) (hd : Bool), DataW.TrodAll enc Tryd.prog W' b sp hd fn.resultTypes.toList ((Value.bool true).resultList fn.resultTypes.size) [.lit (.bool true)] [] := fun b sp hd => by
    rw [hres]
    exact trodAll_mk1 (shut_bool b4 _)
  have hold : ∀ x ∈ before, (fun b => decide (b < W.heap.size)) x.block = true := fun x hx => by simpa using hlt x hx
  refine ⟨ds, [], before, [], before, [], hW', ?_, ?_, ?_, hB.frame _, fun h => by cases h⟩
  · rw [hs]; exact hres' _ _ _
  · rw [hs]; exact hargs _ hold
  · rw [hs, hvars]; rfl

theorem c25 : Tryd.prog.cellsOf 25 = 2 := by kernel_rfl
theorem c54 : Tryd.prog.cellsOf 54 = 3 := by kernel_rfl
theorem c72 : Tryd.prog.cellsOf 72 = 3 := by kernel_rfl
theorem c41 : Tryd.prog.cellsOf 41 = 3 := by kernel_rfl
theorem b3 : Tryd.prog.bytesOf 3 = 8 := by kernel_rfl
theorem b54 : Tryd.prog.bytesOf 54 = 24 := by kernel_rfl
theorem b72 : Tryd.prog.bytesOf 72 = 24 := by kernel_rfl
theorem b41 : Tryd.prog.bytesOf 41 = 24 := by kernel_rfl
theorem a3 : aggT Tryd.prog 3 = false := by kernel_rfl
theorem a54 : aggT Tryd.prog 54 = true := by kernel_rfl
theorem a72 : aggT Tryd.prog 72 = true := by kernel_rfl
theorem a41 : aggT Tryd.prog 41 = true := by kernel_rfl
section
variable {H : Type} {enc : TypeId × Value → H} {W : World} {base : Nat}
theorem rd_ints {k : Nat} : ∀ es : List AV, (∀ x ∈ es, x.isAgg = false ∧ Sh Tryd.prog (k + 1) 3 x.cells) → ∃ l : List Int, es = ints l
  | [], _ => ⟨[], rfl⟩
  | x :: es, h => by
    obtain ⟨l, hl⟩ := rd_ints es fun y hy => h y (.tail _ hy)
    obtain ⟨h1, h2⟩ := h x (.head _)
    simp only [Sh, Tryd.underlying3] at h2
    obtain ⟨n, hn⟩ := h2
    have hx : x = I n := by
      cases x <;> simp_all [AV.cells, AV.isAgg]
    exact ⟨n :: l, by rw [hx, hl]; rfl⟩
theorem agg_cells {x : AV} (h : x.isAgg = true) : x = .agg x.cells := by cases x <;> simp_all [AV.cells, AV.isAgg]
theorem row_of {α : Type} {k : Nat} {t : TypeId} {f : α → AV} (hf : ∀ cs : List AV, Sh Tryd.prog k t cs → ∃ a : α, AV.agg cs = f a) : ∀ es : List AV, (∀ x ∈ es, x.isAgg = true ∧ Sh Tryd.prog k t x.cells) → ∃ l : List α, es = l.map f
  | [], _ => ⟨[], rfl⟩
  | x :: es, h => by
    obtain ⟨l, hl⟩ := row_of hf es fun y hy => h y (.tail _ hy)
    obtain ⟨h1, h2⟩ := h x (.head _)
    obtain ⟨a, ha⟩ := hf _ h2
    exact ⟨a :: l, by rw [agg_cells h1, ha, hl]; rfl⟩
theorem feast_of {k : Nat} {cs : List AV} (h : Sh Tryd.prog (k + 4) 54 cs) : ∃ t : Ft, AV.agg cs = ftA t := by
  simp only [Sh, Tryd.underlying54, ShF, Tryd.underlying49, Tryd.underlying3] at h
  obtain ⟨a, b, hab, _, ⟨a0, b0, h0, _, ⟨n0, e0⟩, a1, b1, h1, _, ⟨n1, e1⟩, h2⟩, c, d, hcd, _, ⟨m, hm⟩, hd⟩ := h
  exact ⟨⟨n0, n1, m⟩, by rw [hab, h0, e0, h1, e1, h2, hcd, hm, hd]; rfl⟩
theorem rule_of {k : Nat} {cs : List AV} (h : Sh Tryd.prog (k + 2) 72 cs) : ∃ t : Rl, AV.agg cs = rlA t := by
  simp only [Sh, Tryd.underlying72, ShF, Tryd.underlying3] at h
  obtain ⟨a0, b0, h0, _, ⟨n0, e0⟩, a1, b1, h1, _, ⟨n1, e1⟩, a2, b2, h2, _, ⟨n2, e2⟩, h4⟩ := h
  exact ⟨⟨n0, n1, n2⟩, by rw [h0, h1, h2, e0, e1, e2, h4]; rfl⟩
theorem note_of {k : Nat} {cs : List AV} (h : Sh Tryd.prog (k + 2) 41 cs) : ∃ t : Nt, AV.agg cs = ntA t := by
  simp only [Sh, Tryd.underlying41, ShF, Tryd.underlying3] at h
  obtain ⟨a0, b0, h0, _, ⟨n0, e0⟩, a1, b1, h1, _, ⟨n1, e1⟩, a2, b2, h2, _, ⟨n2, e2⟩, h4⟩ := h
  exact ⟨⟨n0, n1, n2⟩, by rw [h0, h1, h2, e0, e1, e2, h4]; rfl⟩
theorem use_of {k : Nat} {cs : List AV} (h : Sh Tryd.prog (k + 5) 25 cs) : ∃ (l : List Rl) (r : AV) (g : Bool), IsRow 3 (l.map rlA) r ∧ l.length < 2 ^ 47 ∧ cs = [r, .bool g] := by
  unfold Sh at h
  simp only [Tryd.underlying25, ShF] at h
  obtain ⟨a0, b0, h0, _, e0, a1, b1, h1, _, e1, h2⟩ := h
  unfold Sh at e0 e1
  simp only [Tryd.underlying23] at e0
  simp only [Tryd.underlying4] at e1
  obtain ⟨r1, es1, hr1, hrow1, hl1, hes1⟩ := e0
  obtain ⟨g, e1⟩ := e1
  simp only [c72, a72, b72] at hrow1 hl1 hes1
  obtain ⟨l, rfl⟩ := row_of (fun cs h => rule_of (k := k + 1) h) es1 hes1
  rw [List.length_map] at hl1
  simp only [reachBytes] at hl1
  exact ⟨l, r1, g, hrow1, by omega, by rw [h0, hr1, h1, e1, h2]; rfl⟩
theorem book_of {k : Nat} {cs : List AV} (h : Sh Tryd.prog (k + 8) 29 cs) : ∃ x : OB, x.Ok ∧ cs = x.cells := by
  unfold Sh at h
  simp only [Tryd.underlying29, ShF] at h
  obtain ⟨a0, b0, h0, _, e0, a1, b1, h1, _, e1, a2, b2, h2, _, e2, a3, b3, h3, _, e3, a4, b4, h4, _, e4, h5⟩ := h
  unfold Sh at e0 e1 e2 e3 e4
  simp only [Tryd.underlying3] at e0 e1
  simp only [Tryd.underlying22] at e2
  rw [Tryd.underlying26] at e3
  simp only [Tryd.underlying27] at e4
  obtain ⟨n0, e0⟩ := e0
  obtain ⟨n1, e1⟩ := e1
  have e3' : ShA (Sh Tryd.prog (k + 6) 25) (Tryd.prog.cellsOf 25) 2 a3 := e3
  rw [c25] at e3'
  obtain ⟨u0, v0, g0, _, s0, u1, v1, g1, _, s1, g2⟩ := e3'
  obtain ⟨q0, r0, o0, k0, l0, s0⟩ := use_of (k := k + 1) s0
  obtain ⟨q1, r1, o1, k1, l1, s1⟩ := use_of (k := k + 1) s1
  obtain ⟨r2, es2, hr2, hrow2, hl2, hes2⟩ := e2
  obtain ⟨r3, es3, hr3, hrow3, hl3, hes3⟩ := e4
  simp only [c54, a54, b54] at hrow2 hl2 hes2
  simp only [c41, a41, b41] at hrow3 hl3 hes3
  obtain ⟨fs, rfl⟩ := row_of (fun cs h => feast_of (k := k + 2) h) es2 hes2
  obtain ⟨ns, rfl⟩ := row_of (fun cs h => note_of (k := k + 4) h) es3 hes3
  rw [List.length_map] at hl2 hl3
  simp only [reachBytes] at hl2 hl3
  refine ⟨⟨n0, n1, fs, q0, o0, q1, o1, ns, r2, r0, r1, r3⟩, ⟨hrow2, k0, k1, hrow3, ?_, l0, l1, ?_⟩, ?_⟩
  · show fs.length < _; omega
  · show ns.length < _; omega
  · rw [h0, h1, h2, h3, h4, e0, e1, hr2, g0, s0, g1, s1, g2, hr3, h5]; rfl
theorem agg_arg {k : Nat} {t : TypeId} {v : Value} {d : DataW H} {p : List MemPlace} (hf : rdOk Tryd.prog k t = true) (hagg : (match Tryd.prog.underlying t with | some (.struct _) | some (.array _ _) => true | _ => false) = true)
    (hd : DataW.Trod enc Tryd.prog W 0 (fun _ => true) true t v d p) (hok : Value.okWide Tryd.prog W .any base t v) (hw : ∀ n ∈ d.weights Tryd.prog t, n ≤ reachBytes) :
    ∃ qs : List AV, Sh Tryd.prog k t qs ∧ PRep W (fun g _ => g < W.heap.size) (fun k => k < W.heap.size) v (.agg qs) := by
  have hv : ∃ cs, v = .agg cs := by
    unfold Value.okWide at hok
    split at hok
    · obtain ⟨cs, rfl, _⟩ := hok; exact ⟨cs, rfl⟩
    · obtain ⟨cs, rfl, _⟩ := hok; exact ⟨cs, rfl⟩
    · rename_i h1 h2
      split at hagg
      · rename_i fs hu; exact absurd hu (h1 fs)
      · rename_i n e hu; exact absurd hu (h2 n e)
      · cases hagg
  obtain ⟨cs, rfl⟩ := hv
  obtain ⟨fuel, hd⟩ := hd
  obtain ⟨_, qs, h1, h2⟩ := read_trod k t hf fuel _ _ hd hw
  refine ⟨qs, h2, .agg _ _ (by rw [h1.len]; exact (Array.length_toList).symm) fun i u w hu hw' => ?_⟩
  rw [← Array.getElem?_toList] at hu
  exact h1.rep i u w hu hw'
theorem book_read {v : Value} {d : DataW H} {p : List MemPlace} (hd : DataW.Trod enc Tryd.prog W 0 (fun _ => true) true 29 v d p) (hok : Value.okWide Tryd.prog W .any base 29 v) (hw : ∀ n ∈ d.weights Tryd.prog 29, n ≤ reachBytes) :
    ∃ x : OB, x.Ok ∧ PRep W (fun g _ => g < W.heap.size) (fun k => k < W.heap.size) v x.av := by
  obtain ⟨qs, h1, h2⟩ := agg_arg (k := 8) (by kernel_rfl) (by rw [Tryd.underlying29]) hd hok hw
  obtain ⟨x, hx, rfl⟩ := book_of (k := 0) h1
  exact ⟨x, hx, h2⟩
theorem note_read {v : Value} {d : DataW H} {p : List MemPlace} (hd : DataW.Trod enc Tryd.prog W 0 (fun _ => true) true 41 v d p) (hok : Value.okWide Tryd.prog W .any base 41 v) (hw : ∀ n ∈ d.weights Tryd.prog 41, n ≤ reachBytes) :
    ∃ t : Nt, PRep W (fun g _ => g < W.heap.size) (fun k => k < W.heap.size) v (ntA t) := by
  obtain ⟨qs, h1, h2⟩ := agg_arg (k := 8) (by kernel_rfl) (by rw [Tryd.underlying41]) hd hok hw
  obtain ⟨t, ht⟩ := note_of (k := 6) h1
  exact ⟨t, ht ▸ h2⟩
theorem flat_of {k : Nat} : ∀ (n : Nat) (cs : List AV), ShA (Sh Tryd.prog (k + 1) 3) 1 n cs → ∃ l : List Int, l.length = n ∧ cs = ints l
  | 0, cs, h => ⟨[], rfl, h⟩
  | n + 1, cs, h => by
    obtain ⟨a, b, hab, _, ha, hb⟩ := h
    obtain ⟨l, hl, rfl⟩ := flat_of n b hb
    simp only [Sh, Tryd.underlying3] at ha
    obtain ⟨m, rfl⟩ := ha
    exact ⟨m :: l, by simp [hl], by rw [hab]; rfl⟩
theorem two_read {v : Value} {d : DataW H} {p : List MemPlace} (hd : DataW.Trod enc Tryd.prog W 0 (fun _ => true) true 65 v d p) (hok : Value.okWide Tryd.prog W .any base 65 v) (hw : ∀ n ∈ d.weights Tryd.prog 65, n ≤ reachBytes) :
    ∃ a b : Int, PRep W (fun g _ => g < W.heap.size) (fun k => k < W.heap.size) v (.agg [I a, I b]) := by
  obtain ⟨qs, h1, h2⟩ := agg_arg (k := 8) (by kernel_rfl) (by rw [Tryd.underlying65]) hd hok hw
  have h1' : ShA (Sh Tryd.prog 7 3) (Tryd.prog.cellsOf 3) 2 qs := by
    unfold Sh at h1; rw [Tryd.underlying65] at h1; exact h1
  rw [c3] at h1'
  obtain ⟨l, hl, rfl⟩ := flat_of (k := 6) 2 qs h1'
  match l, hl with
  | [a, b], _ => exact ⟨a, b, h2⟩
theorem three_read {v : Value} {d : DataW H} {p : List MemPlace} (hd : DataW.Trod enc Tryd.prog W 0 (fun _ => true) true 30 v d p) (hok : Value.okWide Tryd.prog W .any base 30 v) (hw : ∀ n ∈ d.weights Tryd.prog 30, n ≤ reachBytes) :
    ∃ a b c : Int, PRep W (fun g _ => g < W.heap.size) (fun k => k < W.heap.size) v (.agg [I a, I b, I c]) := by
  obtain ⟨qs, h1, h2⟩ := agg_arg (k := 8) (by kernel_rfl) (by rw [Tryd.underlying30]) hd hok hw
  have h1' : ShA (Sh Tryd.prog 7 3) (Tryd.prog.cellsOf 3) 3 qs := by
    unfold Sh at h1; rw [Tryd.underlying30] at h1; exact h1
  rw [c3] at h1'
  obtain ⟨l, hl, rfl⟩ := flat_of (k := 6) 3 qs h1'
  match l, hl with
  | [a, b, c], _ => exact ⟨a, b, c, h2⟩
end
theorem preps_two {W : World} {F : Nat → Nat → Prop} {M : Nat → Prop} {v v' : Value} {a a' : AV} (h : PRep W F M v a) (h' : PRep W F M v' a') : PReps W F M [v, v'] [a, a'] :=
  ⟨rfl, fun i u c hu hc => by
    match i with
    | 0 => simp at hu hc; subst hu hc; exact h
    | 1 => simp at hu hc; subst hu hc; exact h'
    | i + 2 => simp at hu⟩

theorem preps_one {W : World} {F : Nat → Nat → Prop} {M : Nat → Prop} {v : Value} {a : AV} (h : PRep W F M v a) : PReps W F M [v] [a] :=
  ⟨rfl, fun i u c hu hc => by
    match i with
    | 0 => simp at hu hc; subst hu hc; exact h
    | i + 1 => simp at hu⟩
theorem preps_three {W : World} {F : Nat → Nat → Prop} {M : Nat → Prop} {v v' v'' : Value} {a a' a'' : AV} (h : PRep W F M v a) (h' : PRep W F M v' a') (h'' : PRep W F M v'' a'') : PReps W F M [v, v', v''] [a, a', a''] :=
  ⟨rfl, fun i u c hu hc => by
    match i with
    | 0 => simp at hu hc; subst hu hc; exact h
    | 1 => simp at hu hc; subst hu hc; exact h'
    | 2 => simp at hu hc; subst hu hc; exact h''
    | i + 3 => simp at hu⟩
end Go.Ai
