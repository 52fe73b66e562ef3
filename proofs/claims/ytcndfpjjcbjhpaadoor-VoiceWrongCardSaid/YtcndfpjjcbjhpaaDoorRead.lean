/- This text shows how arguments and the laid variables are read. No conditions of its own. -/
import Derived.Test.YtcndfpjjcbjhpaaDoorSimp
import Derived.Deep.Slices
import Derived.Deep.Strs
import Derived.Carry
import Derived.LaidHandle
import Derived.RowKit
import Derived.OpenShut
import Derived.ProofKit
import Derived.LaidMore
import Derived.Test.YtcndfpjjcbjhpaaDoorSung
import Derived.Test.YtcndfpjjcbjhpaaDoorTie
import Derived.Test.YtcndfpjjcbjhpaaDoorCards
import Derived.Handed
import Derived.Stop.Joined
set_option linter.unusedSimpArgs false
set_option linter.unusedVariables false
set_option linter.unusedSimpArgs false
set_option linter.unusedVariables false
/-! What a law's arguments read as: rows of whole numbers. -/
namespace Go.Ai
/-- A type whose every cell is a whole number of 64 bits. -/
def flatInts (P : Program) : Nat → TypeId → Bool
  | 0, _ => false
  | k + 1, t => match P.underlying t with
    | some (.int .i64) => P.cellsOf t == 1
    | some (.struct fs) => fs.toList.all (fun f => flatInts P k f.type) && (List.range (P.cellsOf t)).all (fun i => fs.toList.any fun f => decide (f.offset ≤ i) && decide (i < f.offset + P.cellsOf f.type))
    | some (.array n e) => flatInts P k e && (P.cellsOf t == n * P.cellsOf e)
    | _ => false
section
variable {H : Type} {enc : TypeId × Value → H} {P : Program} {w : World} {base : Nat} {spare : Nat → Bool} {held : Bool}
theorem flat_trod : ∀ (k : Nat) (t : TypeId), flatInts P k t = true → ∀ (fuel : Nat) (cs : List Value) (x : DataW H × List MemPlace), DataW.trod enc P w base spare held fuel t cs = some x →
    cs.length = P.cellsOf t ∧ ∀ (i : Nat) (c : Value), cs[i]? = some c → ∃ n, c = .int .i64 n
  | 0, _, h, _, _, _, _ => by simp [flatInts] at h
  | k + 1, t, h, 0, cs, x, hx => by simp [DataW.trod] at hx
  | k + 1, t, h, fuel + 1, cs, x, hx => by
    simp only [flatInts] at h
    split at h
    · rename_i hu
      simp only [beq_iff_eq] at h
      obtain ⟨n, rfl, _⟩ := DataW.trod_int hu hx
      refine ⟨by rw [h]; rfl, fun i c hc => ?_⟩
      cases i with
      | zero => simp only [List.getElem?_cons_zero, Option.some.injEq] at hc; exact ⟨n, hc.symm⟩
      | succ i => simp at hc
    · rename_i fs hu
      simp only [Bool.and_eq_true] at h
      obtain ⟨xs, n, _, _, hl, hlen, hf⟩ := DataW.trod_struct hu hx
      refine ⟨hl, fun i c hc => ?_⟩
      have hi : i < P.cellsOf t := by rw [← hl]; exact (List.getElem?_eq_some_iff.1 hc).1
      have := List.all_eq_true.1 h.2 i (List.mem_range.2 hi)
      obtain ⟨f, hfm, hfi⟩ := List.any_eq_true.1 this
      simp only [Bool.and_eq_true, decide_eq_true_eq] at hfi
      obtain ⟨j, hj⟩ := List.getElem?_of_mem hfm
      have hjl : j < xs.length := by have := (List.getElem?_eq_some_iff.1 hj).1; simpa [hlen] using this
      have hfj := hf j f (by simpa using hj)
      rw [List.getElem?_eq_getElem hjl] at hfj
      have := (flat_trod k f.type (List.all_eq_true.1 h.1 f hfm) n _ _ hfj).2 (i - f.offset) c (by
        rw [List.getElem?_take, if_pos (by omega), List.getElem?_drop]
        rw [show f.offset + (i - f.offset) = i by omega]
        exact hc)
      exact this
    · rename_i n e hu
      simp only [Bool.and_eq_true, beq_iff_eq] at h
      obtain ⟨xs, m, _, _, hl, hlen, hf⟩ := DataW.trod_array hu hx
      refine ⟨hl, fun i c hc => ?_⟩
      have hi : i < n * P.cellsOf e := by rw [← h.2, ← hl]; exact (List.getElem?_eq_some_iff.1 hc).1
      have hpos : 0 < P.cellsOf e := by
        rcases Nat.eq_zero_or_pos (P.cellsOf e) with h0 | h0
        · rw [h0, Nat.mul_zero] at hi; omega
        · exact h0
      have hq : i / P.cellsOf e < n := (Nat.div_lt_iff_lt_mul hpos).2 hi
      have hfj := hf _ hq
      rw [List.getElem?_eq_getElem (by omega)] at hfj
      have hdm := Nat.div_add_mod i (P.cellsOf e)
      have hml := Nat.mod_lt i hpos
      exact (flat_trod k e h.1 m _ _ hfj).2 (i % P.cellsOf e) c (by
        rw [List.getElem?_take, if_pos hml, List.getElem?_drop, Nat.mul_comm (i / P.cellsOf e), hdm]
        exact hc)
    · cases h

theorem flat_ints {k : Nat} {t : TypeId} (h : flatInts P k t = true) {fuel : Nat} {cs : List Value} {x : DataW H × List MemPlace} (hx : DataW.trod enc P w base spare held fuel t cs = some x) :
    ∃ ns : List Int, ns.length = P.cellsOf t ∧ cs = ns.map fun n => .int .i64 n := by
  obtain ⟨h1, h2⟩ := flat_trod k t h fuel cs x hx
  have : ∀ (cs : List Value), (∀ (i : Nat) (c : Value), cs[i]? = some c → ∃ n, c = .int .i64 n) → ∃ ns : List Int, cs = ns.map fun n => .int .i64 n := by
    intro cs
    induction cs with
    | nil => exact fun _ => ⟨[], rfl⟩
    | cons c cs ih =>
      intro h
      obtain ⟨n, rfl⟩ := h 0 c rfl
      obtain ⟨ns, rfl⟩ := ih fun i c hc => h (i + 1) c (by simpa using hc)
      exact ⟨n :: ns, rfl⟩
  obtain ⟨ns, hns⟩ := this cs h2
  exact ⟨ns, by rw [← h1, hns]; simp, hns⟩

/-- A slice of such, as it is read. -/
structure RowsR (w : World) (sz : Nat) (v : Value) (rows : List (List Int)) (nil : Bool) : Prop where
  isNil : nil = true → v = .slice none 0 0 ∧ rows = []
  row : nil = false → ∃ g o cap, v = .slice (some ⟨g, o, none⟩) rows.length cap ∧ rows.length ≤ cap ∧ ∀ (i : Nat) (r : List Int) (j : Nat) (n : Int), rows[i]? = some r → r[j]? = some n → w.cell? ⟨g, o + i * sz + j, none⟩ = some (.int .i64 n)
  len : ∀ r ∈ rows, r.length = sz
theorem rows_read {t e : TypeId} {k : Nat} (ht : P.underlying t = some (.slice e)) (hf : flatInts P k e = true) {fuel : Nat} {v : Value} {x : DataW H × List MemPlace} (hspot : ∀ a len cap, v = .slice (some a) len cap → a.spot = none)
    (h : DataW.trod enc P w base spare held fuel t [v] = some x) : ∃ rows nil, RowsR w (P.cellsOf e) v rows nil ∧ ((nil = true ∧ x.1 = .nil) ∨ (nil = false ∧ ∃ es sp, x.1 = .slice es sp ∧ es.length = rows.length)) := by
  rcases Deep.open_slice ht h with ⟨h1, rfl⟩ | ⟨a, len, cap, m, n, D, Pl, h1, hb, hlc, hcm, hm, rfl, hel⟩
  · simp only [List.cons.injEq, and_true] at h1
    exact ⟨[], true, ⟨fun _ => ⟨h1, rfl⟩, fun h => (by cases h), fun r hr => (by cases hr)⟩, .inl ⟨rfl, rfl⟩⟩
  · simp only [List.cons.injEq, and_true] at h1
    subst h1
    have hsp := hspot _ _ _ rfl
    obtain ⟨g, o, sp⟩ := a
    simp only at hsp
    subst hsp
    have hlm : len ≤ m := by rw [hm]; split <;> omega
    have one : ∀ i, i < len → ∃ ns : List Int, ns.length = P.cellsOf e ∧ ∀ (j : Nat) (n : Int), ns[j]? = some n → w.cell? ⟨g, o + i * P.cellsOf e + j, none⟩ = some (.int .i64 n) := by
      intro i hi
      obtain ⟨cs', hc, htr⟩ := hel i (by omega)
      obtain ⟨ns, hl, rfl⟩ := flat_ints hf htr
      refine ⟨ns, hl, fun j q hj => ?_⟩
      obtain ⟨_, _, hcell⟩ := World.cells?_some hc
      have hjl : j < P.cellsOf e := by rw [← hl]; exact (List.getElem?_eq_some_iff.1 hj).1
      have := hcell j hjl
      rw [List.getElem?_map, hj] at this
      have this' : w.cell? (((⟨g, o, none⟩ : Addr).add (i * P.cellsOf e)).add j) = some (.int .i64 q) := this
      have e1 : ∀ (a : Addr) (n : Nat), a.spot = none → (a.add n).block = a.block ∧ (a.add n).off = a.off + n ∧ (a.add n).spot = none := by
        intro a n hs
        unfold Addr.add
        split
        · rename_i h0; subst h0; exact ⟨rfl, rfl, hs⟩
        · exact ⟨rfl, rfl, rfl⟩
      have e2 := e1 ⟨g, o, none⟩ (i * P.cellsOf e) rfl
      have e3 := e1 _ j e2.2.2
      have e4 : ((⟨g, o, none⟩ : Addr).add (i * P.cellsOf e)).add j = ⟨g, o + i * P.cellsOf e + j, none⟩ := by
        have hb := e3.1.trans e2.1
        have ho := e3.2.1.trans (by rw [e2.2.1])
        have hs := e3.2.2
        generalize ((⟨g, o, none⟩ : Addr).add (i * P.cellsOf e)).add j = b at *
        cases b
        simp only at hb ho hs
        subst hb ho hs
        rfl
      rw [e4] at this'
      exact this'
    have all : ∀ L, L ≤ len → ∃ rows : List (List Int), rows.length = L ∧ (∀ r ∈ rows, r.length = P.cellsOf e) ∧ ∀ (i : Nat) (r : List Int) (j : Nat) (n : Int), rows[i]? = some r → r[j]? = some n → w.cell? ⟨g, o + i * P.cellsOf e + j, none⟩ = some (.int .i64 n) := by
      intro L
      induction L with
      | zero => exact fun _ => ⟨[], rfl, fun r hr => (by cases hr), fun i r j n h => (by simp at h)⟩
      | succ L ih =>
        intro hL
        obtain ⟨rows, h1, h2, h3⟩ := ih (by omega)
        obtain ⟨ns, h4, h5⟩ := one L (by omega)
        refine ⟨rows ++ [ns], by simp [h1], fun r hr => ?_, fun i r j n hi hj => ?_⟩
        · rcases List.mem_append.1 hr with h | h
          · exact h2 r h
          · simp only [List.mem_singleton] at h; rw [h, h4]
        · rcases Nat.lt_or_ge i rows.length with hlt | hge
          · rw [List.getElem?_append_left hlt] at hi
            exact h3 i r j n hi hj
          · rw [List.getElem?_append_right hge] at hi
            have hi0 : i - rows.length = 0 := by
              have := (List.getElem?_eq_some_iff.1 hi).1
              simp at this; omega
            rw [hi0] at hi
            simp only [List.getElem?_cons_zero, Option.some.injEq] at hi
            subst hi
            have : i = L := by omega
            subst this
            exact h5 j n hj
    obtain ⟨rows, h1, h2, h3⟩ := all len (Nat.le_refl _)
    refine ⟨rows, false, ⟨fun h => (by cases h), fun _ => ⟨g, o, cap, by rw [h1], by omega, h3⟩, h2⟩, .inr ⟨rfl, _, _, rfl, by simp [h1]⟩⟩
/-- Such a slice is told by its rows. -/
theorem RowsR.rep {sz : Nat} {v : Value} {rows : List (List Int)} {nil : Bool} (h : RowsR w sz v rows nil) (ag : Bool) (hag : ag = true ∨ sz = 1) {F : Nat → Nat → Prop} {M : Nat → Prop} (hF : ∀ g o, g < w.heap.size → F g o) :
    PRep w F M v (rowV sz (rows.map fun r => if ag then .agg (r.map fun n => I n) else I (r.headD 0)) (if nil then .nil else .no)) := by
  cases nil with
  | true =>
    obtain ⟨rfl, rfl⟩ := h.isNil rfl
    exact .nils
  | false =>
    obtain ⟨g, o, cap, rfl, hcap, hcell⟩ := h.row rfl
    have cells : ∀ (r : List Int), r.length = sz → (if ag then AV.agg (r.map fun n => I n) else I (r.headD 0)).cells = r.map fun n => I n := by
      intro r hr
      cases ag with
      | true => rfl
      | false =>
        rcases hag with h | h
        · cases h
        · subst h
          match r, hr with
          | [n], _ => rfl
    have get : ∀ (i : Nat) (e : AV), (rows.map fun r => if ag then AV.agg (r.map fun n => I n) else I (r.headD 0))[i]? = some e → ∃ r, rows[i]? = some r ∧ e.cells = r.map fun n => I n := by
      intro i e hi
      rw [List.getElem?_map, Option.map_eq_some_iff] at hi
      obtain ⟨r, hr, rfl⟩ := hi
      exact ⟨r, hr, cells r (h.len r (List.mem_of_getElem? hr))⟩
    have key : ∀ (i : Nat) (e : AV) (j : Nat) (x : AV), (rows.map fun r => if ag then AV.agg (r.map fun n => I n) else I (r.headD 0))[i]? = some e → e.cells[j]? = some x → ∃ n, x = I n ∧ w.cell? ⟨g, o + i * sz + j, none⟩ = some (.int .i64 n) := by
      intro i e j x hi hj
      obtain ⟨r, hr, hc⟩ := get i e hi
      rw [hc, List.getElem?_map, Option.map_eq_some_iff] at hj
      obtain ⟨n, hn, rfl⟩ := hj
      exact ⟨n, rfl, hcell i r j n hr hn⟩
    have hlen : rows.length = (rows.map fun r => if ag then AV.agg (r.map fun n => I n) else I (r.headD 0)).length := by simp
    have := PRep.sl (w := w) (F := F) (M := M) g o cap sz (rows.map fun r => if ag then AV.agg (r.map fun n => I n) else I (r.headD 0)) .no (fun i j => (w.cell? ⟨g, o + i * sz + j, none⟩).getD (.int .i64 0)) (.inl rfl) (by rw [← hlen]; exact hcap)
      (fun i e hi => by
        obtain ⟨r, hr, hc⟩ := get i e hi
        rw [hc, List.length_map, h.len r (List.mem_of_getElem? hr)])
      (fun i e j x hi hj => by obtain ⟨n, _, hc⟩ := key i e j x hi hj; rw [hc]; rfl)
      (fun i e j x hi hj => by obtain ⟨n, _, hc⟩ := key i e j x hi hj; exact hF _ _ (World.block_lt_of_cell? w _ (by rw [hc])))
      (fun i e j x hi hj => by obtain ⟨n, _, hc⟩ := key i e j x hi hj; rw [hc]; rfl)
      (fun i e j x hi hj => by obtain ⟨n, rfl, hc⟩ := key i e j x hi hj; rw [hc]; exact .int _ _)
    rw [← hlen] at this
    exact this
end
end Go.Ai

set_option maxRecDepth 100000
set_option linter.unusedSimpArgs false
set_option linter.unusedVariables false
namespace Go.Ai
open Go.Proofs Go.Proofs.YtcndfpjjcbjhpaaDoor Go.ChangeShapes Go.WideShapes Go.ChangeAt Go.RowKit
theorem c3 : Tryd.prog.cellsOf 3 = 1 := by kernel_rfl
theorem c22 : Tryd.prog.cellsOf 22 = 1 := by kernel_rfl
theorem c23 : Tryd.prog.cellsOf 23 = 1 := by kernel_rfl
theorem c25 : Tryd.prog.cellsOf 25 = 3 := by kernel_rfl
theorem c67 : Tryd.prog.cellsOf 67 = 11 := by kernel_rfl
theorem c49 : Tryd.prog.cellsOf 49 = 4 := by kernel_rfl
theorem b67 : Tryd.prog.bytesOf 67 = 88 := by kernel_rfl
theorem b49 : Tryd.prog.bytesOf 49 = 32 := by kernel_rfl
theorem fl67 : flatInts Tryd.prog 5 67 = true := by kernel_rfl
theorem fl49 : flatInts Tryd.prog 5 49 = true := by kernel_rfl
theorem ct25 : Tryd.prog.cellTypes Tryd.prog.depth 25 = some [22, 3, 23] := by kernel_rfl
def toBoy (r : List Int) : Boy := ⟨⟨r.getD 0 0, r.getD 1 0⟩, ⟨r.getD 2 0, r.getD 3 0⟩, ⟨r.getD 4 0, r.getD 5 0⟩, ⟨r.getD 6 0, r.getD 7 0⟩, r.getD 8 0, ⟨r.getD 9 0, r.getD 10 0⟩⟩
theorem toBoy_av (r : List Int) (h : r.length = 11) : (toBoy r).av = .agg (r.map fun n => I n) := by
  match r, h with
  | [a, b, c, d, e, f, g, h, i, j, k], _ => rfl
def toTrial (r : List Int) : Trial := ⟨r.getD 0 0, r.getD 1 0, r.getD 2 0, r.getD 3 0⟩
theorem toTrial_av (r : List Int) (h : r.length = 4) : (toTrial r).av = .agg (r.map fun n => I n) := by
  match r, h with
  | [a, b, c, d], _ => rfl
section
variable {H : Type} {enc : TypeId × Value → H} {W : World} {base : Nat}
theorem spot_of {t e : TypeId} {c : Value} (ht : Tryd.prog.underlying t = some (.slice e)) (h : Cell.okWide Tryd.prog W .any base t c) : ∀ a len cap, c = .slice (some a) len cap → a.spot = none := by
  intro a len cap hc
  subst hc
  simp only [Cell.okWide, ht, Cell.ok] at h
  exact h.2.2.2.1
theorem book_read {v : Value} {d : DataW H} {p : List MemPlace} (hd : DataW.Trod enc Tryd.prog W 0 (fun _ => true) true 25 v d p) (hok : Value.okWide Tryd.prog W .any base 25 v) (hw : ∀ n ∈ d.weights Tryd.prog 25, n ≤ reachBytes) :
    ∃ x : Book, x.Ok ∧ PRep W (fun g _ => g < W.heap.size) (fun k => k < W.heap.size) v x.av := by
  simp only [Value.okWide, Tryd.underlying25] at hok
  obtain ⟨cs, rfl, hsz, ts, hts, _, hcell⟩ := hok
  rw [ct25] at hts
  simp only [Option.some.injEq] at hts
  subst hts
  rw [c25] at hsz
  obtain ⟨fuel, hd⟩ := hd
  obtain ⟨y0, y1, y2, n, rfl', _, h0, h1, h2⟩ := Deep.trod_struct3 Tryd.underlying25 hd
  obtain ⟨l⟩ := cs
  simp only [c22, c23, c3] at h0 h1 h2
  match l, hsz with
  | [a, b, c], _ =>
    simp only [Value.cells, List.drop_zero, List.take_succ_cons, List.take_zero, List.drop_succ_cons] at h0 h1 h2
    have k0 := hcell 0 a rfl
    have k2 := hcell 2 c rfl
    simp only [List.length_cons, List.length_nil, Nat.zero_add, Nat.reduceAdd, Nat.reduceMod, Nat.zero_mod, List.getElem?_cons_zero, List.getElem?_cons_succ, Option.some.injEq, exists_eq_left'] at k0 k2
    obtain ⟨rows, nl, r1, r2⟩ := rows_read Tryd.underlying22 fl67 (spot_of Tryd.underlying22 k0) h0
    obtain ⟨rows', nl', r1', r2'⟩ := rows_read Tryd.underlying23 fl49 (spot_of Tryd.underlying23 k2) h2
    obtain ⟨m, hm, hy1, _⟩ := DataW.trod_int Tryd.underlying3 h1
    simp only [List.cons.injEq, and_true] at hm
    subst hm
    rw [c67] at r1
    rw [c49] at r1'
    have hd' : d = .agg [y0.1, y1.1, y2.1] := congrArg Prod.fst rfl'
    subst hd'
    simp only [DataW.weights, Tryd.underlying25, DataW.weightsEach, List.map_cons, List.map_nil, List.mem_append] at hw
    have len0 : rows.length < 2 ^ 47 := by
      rcases r2 with ⟨hn, _⟩ | ⟨_, es, sp, he, hl⟩
      · rw [(r1.isNil hn).2]; decide
      · have := hw ((es.length + sp.length) * Tryd.prog.bytesOf 67) (.inl (by rw [he]; simp [DataW.weights, Tryd.underlying22]))
        rw [b67] at this
        simp only [reachBytes] at this
        omega
    have len2 : rows'.length < 2 ^ 47 := by
      rcases r2' with ⟨hn, _⟩ | ⟨_, es, sp, he, hl⟩
      · rw [(r1'.isNil hn).2]; decide
      · have := hw ((es.length + sp.length) * Tryd.prog.bytesOf 49) (.inr (.inr (.inl (by rw [he]; simp [DataW.weights, Tryd.underlying23]))))
        rw [b49] at this
        simp only [reachBytes] at this
        omega
    have p0 := r1.rep true (.inl rfl) (F := fun g _ => g < W.heap.size) (M := fun k => k < W.heap.size) (fun g o h => h)
    have p2 := r1'.rep true (.inl rfl) (F := fun g _ => g < W.heap.size) (M := fun k => k < W.heap.size) (fun g o h => h)
    refine ⟨⟨rows.map toBoy, m, rows'.map toTrial, if nl then .nil else .no, if nl' then .nil else .no⟩, ⟨fun h => ?_, fun h => ?_, by simpa using len0, by simpa using len2⟩, ?_⟩
    · cases nl with
      | true => simp [(r1.isNil rfl).2]
      | false => simp at h
    · cases nl' with
      | true => simp [(r1'.isNil rfl).2]
      | false => simp at h
    · have e0 : (rows.map toBoy).map Boy.av = rows.map fun r => AV.agg (r.map fun n => I n) := by
        rw [List.map_map]
        exact List.map_congr_left fun r hr => toBoy_av r (r1.len r hr)
      have e2 : (rows'.map toTrial).map Trial.av = rows'.map fun r => AV.agg (r.map fun n => I n) := by
        rw [List.map_map]
        exact List.map_congr_left fun r hr => toTrial_av r (r1'.len r hr)
      simp only [if_true] at p0 p2
      refine .agg _ _ rfl fun i u w hu hw' => ?_
      simp only [Book.cells, e0, e2] at hw'
      match i with
      | 0 => simp only [List.getElem?_cons_zero, Option.some.injEq] at hw'; simp at hu; subst hu hw'; exact p0
      | 1 => simp at hw' hu; subst hu hw'; exact .int _ _
      | 2 => simp at hw' hu; subst hu hw'; exact p2
      | i + 3 => simp at hw'
end
end Go.Ai

set_option maxRecDepth 100000
set_option linter.unusedSimpArgs false
set_option linter.unusedVariables false
namespace Go.Ai
open Go.Proofs Go.Proofs.YtcndfpjjcbjhpaaDoor Go.ChangeShapes Go.WideShapes Go.ChangeAt Go.RowKit
abbrev laid : List (String × DataW Unit) := [("decani/voice.unknown", Rows.laid_decani_voice_unknown), ("decani/voice.nobody", Rows.laid_decani_voice_nobody), ("decani/voice.kindsOf", Rows.laid_decani_voice_kindsOf)]
theorem gU : Tryd.prog.globalNamed "decani/voice.unknown" = some 2 := by kernel_rfl
theorem gN : Tryd.prog.globalNamed "decani/voice.nobody" = some 1 := by kernel_rfl
theorem gK : Tryd.prog.globalNamed "decani/voice.kindsOf" = some 0 := by kernel_rfl
theorem tU : (Tryd.prog.globals[2]?).map (·.type) = some 105 := by kernel_rfl
theorem tN : (Tryd.prog.globals[1]?).map (·.type) = some 103 := by kernel_rfl
theorem tK : (Tryd.prog.globals[0]?).map (·.type) = some 120 := by kernel_rfl
theorem c105 : Tryd.prog.cellsOf 105 = 5 := by kernel_rfl
theorem c103 : Tryd.prog.cellsOf 103 = 2 := by kernel_rfl
theorem c120 : Tryd.prog.cellsOf 120 = 2 := by kernel_rfl
theorem c119 : Tryd.prog.cellsOf 119 = 1 := by kernel_rfl
section
variable {H : Type} {enc : TypeId × Value → H} {P : Program} {w : World} {base : Nat} {spare : Nat → Bool} {held : Bool}
/-- An array of cells, each read by itself. -/
theorem array_cells {t e : TypeId} {m : Nat} {fuel : Nat} {cs : List Value} {ds : List (DataW H)} {p : List MemPlace} (ht : P.underlying t = some (.array m e)) (hc : P.cellsOf e = 1) (h : DataW.trod enc P w base spare held fuel t cs = some (.agg ds, p)) :
    cs.length = P.cellsOf t ∧ ∀ (i : Nat) (d : DataW H), i < m → ds[i]? = some d → ∀ c, cs[i]? = some c → ∃ n q, DataW.trod enc P w base spare held n e [c] = some (d, q) := by
  obtain ⟨xs, n, _, hx, hl, hlen, hf⟩ := DataW.trod_array ht h
  refine ⟨hl, fun i d hi hd c hcc => ?_⟩
  have := hf i hi
  have hds : ds = xs.map (·.1) := by
    have := congrArg Prod.fst hx
    simpa using this
  rw [hds, List.getElem?_map, Option.map_eq_some_iff] at hd
  obtain ⟨y, hy, rfl⟩ := hd
  rw [hy, hc, Nat.mul_one] at this
  have e1 : (cs.drop i).take 1 = [c] := by
    have := (List.getElem?_eq_some_iff.1 hcc).1
    rw [List.drop_eq_getElem_cons this]
    have h2 := (List.getElem?_eq_some_iff.1 hcc).2
    simp [h2]
  rw [e1] at this
  exact ⟨n, y.2, this⟩
end
theorem of_laid {W : World} (h : laidMetH Tryd.prog laid W) : (∀ i, i < 5 → W.cell? ⟨2, i, none⟩ = some (.int .i64 (-1))) ∧ (∀ i, i < 2 → W.cell? ⟨1, i, none⟩ = some (.int .i64 (-1))) ∧
    W.cell? ⟨0, 0, none⟩ = some (.func (.func 126) #[] #[]) ∧ W.cell? ⟨0, 1, none⟩ = some (.func (.func 127) #[] #[]) := by
  obtain ⟨g, t, cs, fuel, p, hg, ht, hv, hd⟩ := h.funcs (n := "decani/voice.kindsOf") (d := .agg [.iface "func" (.lit (.string [40, 100, 101, 99, 97, 110, 105, 47, 118, 111, 105, 99, 101, 46, 118, 111, 116, 101, 115, 41, 46, 115, 111, 109, 101])), .iface "func" (.lit (.string [40, 100, 101, 99, 97, 110, 105, 47, 118, 111, 105, 99, 101, 46, 118, 111, 116, 101, 115, 41, 46, 101, 97, 99, 104]))]) (.tail _ (.tail _ (.head _)))
  obtain rfl := Option.some.inj (gK.symm.trans hg)
  obtain rfl := Option.some.inj (tK.symm.trans ht)
  have hd' : DataW.trod (funcToken Tryd.prog) Tryd.prog W 0 (fun _ => true) true fuel 120 cs.toList = some (.agg [.held [40, 100, 101, 99, 97, 110, 105, 47, 118, 111, 105, 99, 101, 46, 118, 111, 116, 101, 115, 41, 46, 115, 111, 109, 101], .held [40, 100, 101, 99, 97, 110, 105, 47, 118, 111, 105, 99, 101, 46, 118, 111, 116, 101, 115, 41, 46, 101, 97, 99, 104]], p) := hd
  obtain ⟨hl, hel⟩ := array_cells Tryd.underlying120 c119 hd'
  rw [c120] at hl
  have hk0 := World.var?_cell hg hv 0
  have hk1 := World.var?_cell hg hv 1
  obtain ⟨l⟩ := cs
  match l, hl with
  | [a, b], _ =>
    obtain ⟨n0, q0, h0⟩ := hel 0 _ (by decide) rfl a rfl
    obtain ⟨n1, q1, h1⟩ := hel 1 _ (by decide) rfl b rfl
    obtain rfl := func_of_trod (f0 := 126) Tryd.underlying119 (by kernel_rfl) h0
    obtain rfl := func_of_trod (f0 := 127) Tryd.underlying119 (by kernel_rfl) h1
    have hm : laidMet Tryd.prog [("decani/voice.unknown", Rows.laid_decani_voice_unknown), ("decani/voice.nobody", Rows.laid_decani_voice_nobody)] W := h.1
    obtain ⟨ps, ⟨g2, t2, cs2, f2, p2, q2, hg2, ht2, hv2, hd2, ⟨g1, t1, cs1, f1, p1, q1', hg1, ht1, hv1, hd1, _, _⟩, _⟩, _, _⟩ := hm
    obtain rfl := Option.some.inj (gU.symm.trans hg2)
    obtain rfl := Option.some.inj (tU.symm.trans ht2)
    obtain rfl := Option.some.inj (gN.symm.trans hg1)
    obtain rfl := Option.some.inj (tN.symm.trans ht1)
    refine ⟨fun i hi => ?_, fun i hi => ?_, by simpa using hk0, by simpa using hk1⟩
    · obtain ⟨hl2, hel2⟩ := array_cells (ds := [.lit (.int .i64 (-1)), .lit (.int .i64 (-1)), .lit (.int .i64 (-1)), .lit (.int .i64 (-1)), .lit (.int .i64 (-1))]) Tryd.underlying105 c3 hd2
      rw [c105] at hl2
      have hk := World.var?_cell hg2 hv2 i
      have hil : i < cs2.toList.length := by omega
      have hci : cs2.toList[i]? = some cs2.toList[i] := List.getElem?_eq_getElem hil
      have hdi : ([.lit (.int .i64 (-1)), .lit (.int .i64 (-1)), .lit (.int .i64 (-1)), .lit (.int .i64 (-1)), .lit (.int .i64 (-1))] : List (DataW Unit))[i]? = some (.lit (.int .i64 (-1))) := by
        have : i = 0 ∨ i = 1 ∨ i = 2 ∨ i = 3 ∨ i = 4 := by omega
        rcases this with rfl | rfl | rfl | rfl | rfl <;> rfl
      obtain ⟨n, q, hn⟩ := hel2 i _ hi hdi _ hci
      obtain ⟨m, hm1, hm2, _⟩ := DataW.trod_int Tryd.underlying3 hn
      have hm3 : m = -1 := by
        have := congrArg Prod.fst hm2
        simp only [DataW.lit.injEq, Lit.int.injEq, true_and] at this
        exact this.symm
      subst hm3
      simp only [List.cons.injEq, and_true] at hm1
      rw [hk, ← Array.getElem?_toList, hci, hm1]
    · obtain ⟨y0, y1, n, hx, hl2, k0, k1⟩ := trod_struct2 Tryd.underlying103 hd1
      rw [c103] at hl2
      simp only [c3] at k0 k1
      have hk := World.var?_cell hg1 hv1 i
      obtain ⟨l1⟩ := cs1
      match l1, hl2 with
      | [a1, b1], _ =>
        simp only [List.drop_zero, List.take_succ_cons, List.take_zero, List.drop_succ_cons] at k0 k1
        obtain ⟨m0, hm0, hm0', _⟩ := DataW.trod_int Tryd.underlying3 k0
        obtain ⟨m1, hm1, hm1', _⟩ := DataW.trod_int Tryd.underlying3 k1
        have hx' := congrArg Prod.fst hx
        rw [hm0', hm1'] at hx'
        simp only [Rows.laid_decani_voice_nobody, DataW.agg.injEq, List.cons.injEq, DataW.lit.injEq, Lit.int.injEq, true_and, and_true] at hx'
        obtain ⟨rfl, rfl⟩ := hx'
        simp only [List.cons.injEq, and_true] at hm0 hm1
        subst hm0 hm1
        have : i = 0 ∨ i = 1 := by omega
        rcases this with rfl | rfl <;> (rw [hk]; try rfl)
theorem glob_rep {W : World} (h : laidMetH Tryd.prog laid W) : ∀ (g : Nat) (cs : List AV), Cv.glob g = some cs → PRep W (fun g _ => g < W.heap.size) (fun k => k < W.heap.size) (.pointer (some ⟨g, 0, none⟩)) (.rp cs 0) := by
  obtain ⟨hu, hn, k0, k1⟩ := of_laid h
  intro g cs hg
  have lt : ∀ g i c, W.cell? ⟨g, i, none⟩ = some c → g < W.heap.size := fun g i c hc => World.block_lt_of_cell? W _ (by rw [hc])
  simp only [Cv] at hg
  split at hg
  · rename_i h0
    subst h0
    cases hg
    have := PRep.rp (w := W) (F := fun g _ => g < W.heap.size) (M := fun k => k < W.heap.size) 0 0 0 [.fn (.func 126) [] [], .fn (.func 127) [] []] (fun j => if j = 0 then .func (.func 126) #[] #[] else .func (.func 127) #[] #[])
      (fun j x hj => by
        match j with
        | 0 => exact k0
        | 1 => exact k1
        | j + 2 => simp at hj)
      (fun j x hj => lt 0 0 _ k0)
      (fun j x hj => by
        match j with
        | 0 => rfl
        | 1 => rfl
        | j + 2 => simp at hj)
      (fun j x hj => by
        match j with
        | 0 => simp at hj; subst hj; exact .fn _ #[] #[] [] [] rfl rfl (fun i v c h => by simp at h) (fun i v c h => by simp at h)
        | 1 => simp at hj; subst hj; exact .fn _ #[] #[] [] [] rfl rfl (fun i v c h => by simp at h) (fun i v c h => by simp at h)
        | j + 2 => simp at hj)
    exact this
  · split at hg
    · rename_i _ h1
      subst h1
      cases hg
      exact PRep.rp (w := W) 1 0 0 [I (-1), I (-1)] (fun j => .int .i64 (-1))
        (fun j x hj => by rw [Nat.zero_add]; exact hn j (by have := (List.getElem?_eq_some_iff.1 hj).1; simpa using this))
        (fun j x hj => lt 1 0 _ (hn 0 (by decide)))
        (fun j x hj => rfl)
        (fun j x hj => by
          match j with
          | 0 => simp at hj; subst hj; exact .int _ _
          | 1 => simp at hj; subst hj; exact .int _ _
          | j + 2 => simp at hj)
    · split at hg
      · rename_i _ _ h2
        subst h2
        cases hg
        exact PRep.rp (w := W) 2 0 0 [I (-1), I (-1), I (-1), I (-1), I (-1)] (fun j => .int .i64 (-1))
          (fun j x hj => by rw [Nat.zero_add]; exact hu j (by have := (List.getElem?_eq_some_iff.1 hj).1; simpa using this))
          (fun j x hj => lt 2 0 _ (hu 0 (by decide)))
          (fun j x hj => rfl)
          (fun j x hj => by
            match j with
            | 0 => simp at hj; subst hj; exact .int _ _
            | 1 => simp at hj; subst hj; exact .int _ _
            | 2 => simp at hj; subst hj; exact .int _ _
            | 3 => simp at hj; subst hj; exact .int _ _
            | 4 => simp at hj; subst hj; exact .int _ _
            | j + 5 => simp at hj)
      · cases hg
end Go.Ai

set_option maxRecDepth 100000
set_option linter.unusedSimpArgs false
set_option linter.unusedVariables false
namespace Go.Ai
open Go.Proofs Go.Proofs.YtcndfpjjcbjhpaaDoor Go.ChangeShapes Go.WideShapes Go.ChangeAt Go.RowKit
theorem own : ownKnob Tryd.prog.godebug = none := by kernel_rfl
theorem laidOut : laidOutB Tryd.prog = true := by kernel_rfl
theorem noNumB : (Tryd.prog.funcs.toList.all fun fn => !(fn.name == "runtime.NumGoroutine")) = true := by kernel_rfl
theorem noNum : NoNum Tryd.prog := by
  intro f fn h
  have := List.all_eq_true.1 noNumB fn (List.mem_of_getElem? (i := f) (by simpa using h))
  simpa using this
theorem trodAll_stays {H : Type} {enc : TypeId × Value → H} {P : Program} (hl : laidOutB P = true) {W W' : World} {sp : Nat → Bool} : ∀ (ts : List TypeId) (vs : List Value) (ds : List (DataW H)) (ps : List MemPlace), (∀ t ∈ ts, P.readableRec t = true ∧ t < P.types.size) →
    DataW.TrodAll enc P W 0 (fun _ => true) true ts vs ds ps → (∀ p ∈ ps, W.sameAt W' p) → (∀ p ∈ ps, sp p.block = true) → DataW.TrodAll enc P W' 0 sp true ts vs ds ps
  | [], [], [], _, _, h, _, _ => h
  | t :: ts, v :: vs, d :: ds, _, hr, ⟨p, q, h1, h2, rfl⟩, hs, hp =>
    ⟨p, q, WideElems.Trod_stays hl (hr t (.head _)).1 (hr t (.head _)).2 h1 (fun x hx => hs x (List.mem_append_left _ hx)) (fun x hx => hp x (List.mem_append_left _ hx)),
      trodAll_stays hl ts vs ds q (fun t ht => hr t (.tail _ ht)) h2 (fun x hx => hs x (List.mem_append_right _ hx)) (fun x hx => hp x (List.mem_append_right _ hx)), rfl⟩
  | [], _ :: _, _, _, _, h, _, _ => h.elim
  | [], [], _ :: _, _, _, h, _, _ => h.elim
  | _ :: _, [], _, _, _, h, _, _ => h.elim
  | _ :: _, _ :: _, [], _, _, h, _, _ => h.elim
theorem trodAll_lt {H : Type} {enc : TypeId × Value → H} {P : Program} {W W' : World} {fn : Func} {s : ChangeSpec} {vs : List Value} {ds gs : List (DataW H)} {before : List MemPlace} (hW : DataW.Whole enc P fn.params.toList s.vars false W vs ds gs before) : ∀ p ∈ before, p.block < W.heap.size := fun p hp => hW.lt p hp
theorem b4 : Tryd.prog.underlying 4 = some .bool := Tryd.underlying4
theorem door_met (os : Os) (args : Array Value) : laidMetH Tryd.prog laid ((World.doorLaid Tryd.prog 600 os).forCall (fun _ _ => 0) ⟨#[], args, []⟩).memory :=
  laidMetH_of_parts3 (fuel := 8) (laidMet_of_run' 8 (by kernel_rfl) (by kernel_rfl)) (by kernel_rfl) (by kernel_rfl)

/-- A law that answers true: how its call is closed. -/
theorem law_calls {f : FuncId} {fn : Func} {s : ChangeSpec} (hfn : Tryd.prog.funcs[f]? = some fn) (hres : fn.resultTypes = #[4]) {W : World} (hL : laidMetH Tryd.prog laid W) {args : Array Value} {avs : List AV} (hv : PReps W (fun g _ => g < W.heap.size) (fun k => k < W.heap.size) args.toList avs)
    (hc : call Cv f avs = some (.bool true)) {H : Type} {enc : TypeId × Value → H} {ds : List (DataW H)} {before : List MemPlace} (hW : DataW.Whole enc Tryd.prog fn.params.toList s.vars false W args.toList ds [] before) (hvars : s.vars = [])
    (hs : s.fn H (ds ++ []) = { results := [.lit (.bool true)], args := ds }) (hread : ∀ t ∈ fn.params.toList, Tryd.prog.readableRec t = true ∧ t < Tryd.prog.types.size) :
    Calls Tryd.prog f args W fun e W' => ∃ v, e = .returned v ∧ s.post enc Tryd.prog fn false true false false W args v W' := by
  refine (calls_of_call (C := Cv) noNum hc (F := fun g _ => g < W.heap.size) (M := fun k => k < W.heap.size) (fun g o h => h) (fun k h => h) (glob_rep hL) hv).mono ?_
  rintro e W' ⟨v, F', M', rfl, hr, hsz, hk, hos, htp, hout⟩
  have hv' : v = .bool true := by cases hr; rfl
  subst hv'
  have hB : Below W.heap.size W W' := ⟨hos, htp, hout, hsz, hk⟩
  refine ⟨_, rfl, ?_⟩
  obtain ⟨p, q, hA, hV, hpq, hfz, hnd⟩ := hW
  have hW' : DataW.Whole enc Tryd.prog fn.params.toList s.vars false W args.toList ds [] before := ⟨p, q, hA, hV, hpq, hfz, hnd⟩
  have hlt : ∀ x ∈ before, x.block < W.heap.size := trodAll_lt (W' := W) hW'
  have hq : q = [] := by rw [hvars] at hV; exact hV
  subst hq
  rw [List.append_nil] at hpq
  subst hpq
  have hargs : ∀ sp : Nat → Bool, (∀ x ∈ before, sp x.block = true) → DataW.TrodAll enc Tryd.prog W' 0 sp true fn.params.toList args.toList ds before := fun sp hsp =>
    trodAll_stays laidOut _ _ _ _ hread hA (fun x hx => hB.same (hlt x hx)) hsp
  have hres' : ∀ (b : Nat) (sp : Nat → Bool) (hd : Bool), DataW.TrodAll enc Tryd.prog W' b sp hd fn.resultTypes.toList ((Value.bool true).resultList fn.resultTypes.size) [.lit (.bool true)] [] := fun b sp hd => by
    rw [hres]
    exact trodAll_mk1 (shut_bool b4 _)
  have hold : ∀ x ∈ before, (fun b => decide (b < W.heap.size)) x.block = true := fun x hx => by simpa using hlt x hx
  refine ⟨ds, [], before, [], before, [], hW', ?_, ?_, ?_, hB.frame _, fun h => by cases h⟩
  · rw [hs]; exact hres' _ _ _
  · rw [hs]; exact hargs _ hold
  · rw [hs, hvars]; rfl

/-- A struct or an array of whole numbers, as an argument. -/
theorem flat_arg {H : Type} {enc : TypeId × Value → H} {W : World} {base k : Nat} {t : TypeId} {v : Value} {d : DataW H} {p : List MemPlace} (hf : flatInts Tryd.prog k t = true) (hagg : (match Tryd.prog.underlying t with | some (.struct _) | some (.array _ _) => true | _ => false) = true)
    (hd : DataW.Trod enc Tryd.prog W 0 (fun _ => true) true t v d p) (hok : Value.okWide Tryd.prog W .any base t v) (F : Nat → Nat → Prop) (M : Nat → Prop) :
    ∃ ns : List Int, ns.length = Tryd.prog.cellsOf t ∧ PRep W F M v (.agg (ns.map fun n => I n)) := by
  have hv : ∃ cs, v = .agg cs := by
    unfold Value.okWide at hok
    split at hok
    · obtain ⟨cs, rfl, _⟩ := hok; exact ⟨cs, rfl⟩
    · obtain ⟨cs, rfl, _⟩ := hok; exact ⟨cs, rfl⟩
    · rename_i h1 h2
      split at hagg
      · rename_i fs hu; exact absurd hu (h1 fs)
      · rename_i n e hu; exact absurd hu (h2 n e)
      · cases hagg
  obtain ⟨cs, rfl⟩ := hv
  obtain ⟨fuel, hd⟩ := hd
  obtain ⟨ns, h1, h2⟩ := flat_ints hf hd
  have h2 : cs.toList = ns.map fun n => .int .i64 n := h2
  refine ⟨ns, h1, .agg _ _ (by rw [← Array.length_toList, h2]; simp) fun i u w hu hw => ?_⟩
  rw [← Array.getElem?_toList, h2, List.getElem?_map, Option.map_eq_some_iff] at hu
  rw [List.getElem?_map, Option.map_eq_some_iff] at hw
  obtain ⟨n, hn, rfl⟩ := hu
  obtain ⟨m, hm, rfl⟩ := hw
  rw [hn] at hm
  cases hm
  exact .int _ _
theorem preps_two {W : World} {F : Nat → Nat → Prop} {M : Nat → Prop} {v v' : Value} {a a' : AV} (h : PRep W F M v a) (h' : PRep W F M v' a') : PReps W F M [v, v'] [a, a'] :=
  ⟨rfl, fun i u c hu hc => by
    match i with
    | 0 => simp at hu hc; subst hu hc; exact h
    | 1 => simp at hu hc; subst hu hc; exact h'
    | i + 2 => simp at hu⟩

theorem preps_one {W : World} {F : Nat → Nat → Prop} {M : Nat → Prop} {v : Value} {a : AV} (h : PRep W F M v a) : PReps W F M [v] [a] :=
  ⟨rfl, fun i u c hu hc => by
    match i with
    | 0 => simp at hu hc; subst hu hc; exact h
    | i + 1 => simp at hu⟩
theorem preps_three {W : World} {F : Nat → Nat → Prop} {M : Nat → Prop} {v v' v'' : Value} {a a' a'' : AV} (h : PRep W F M v a) (h' : PRep W F M v' a') (h'' : PRep W F M v'' a'') : PReps W F M [v, v', v''] [a, a', a''] :=
  ⟨rfl, fun i u c hu hc => by
    match i with
    | 0 => simp at hu hc; subst hu hc; exact h
    | 1 => simp at hu hc; subst hu hc; exact h'
    | 2 => simp at hu hc; subst hu hc; exact h''
    | i + 3 => simp at hu⟩
end Go.Ai

set_option maxRecDepth 100000
set_option linter.unusedSimpArgs false
set_option linter.unusedVariables false
namespace Go.Ai
open Go.Proofs Go.Proofs.YtcndfpjjcbjhpaaDoor Go.ChangeShapes Go.WideShapes Go.ChangeAt Go.RowKit
theorem fl3 : flatInts Tryd.prog 5 3 = true := by kernel_rfl
theorem b3 : Tryd.prog.bytesOf 3 = 8 := by kernel_rfl
theorem ints_read {H : Type} {enc : TypeId × Value → H} {W : World} {base : Nat} {v : Value} {d : DataW H} {p : List MemPlace} (hd : DataW.Trod enc Tryd.prog W 0 (fun _ => true) true 41 v d p) (hok : Value.okWide Tryd.prog W .any base 41 v) (hw : ∀ n ∈ d.weights Tryd.prog 41, n ≤ reachBytes) :
    ∃ (l : List Int) (r : AV), l.length < 2 ^ 47 ∧ IsRow 1 (ints l) r ∧ PRep W (fun g _ => g < W.heap.size) (fun k => k < W.heap.size) v r := by
  obtain ⟨fuel, hd⟩ := hd
  simp only [Value.okWide, Tryd.underlying41] at hok
  have hv : v.cells.toList = [v] := by
    cases v with
    | agg cs => exact False.elim (by simp [Cell.okWide, Tryd.underlying41, Cell.ok] at hok)
    | _ => rfl
  have hd' : DataW.trod enc Tryd.prog W 0 (fun _ => true) true fuel 41 [v] = some (d, p) := by rw [← hv]; exact hd
  obtain ⟨rows, nl, r1, r2⟩ := rows_read Tryd.underlying41 fl3 (spot_of Tryd.underlying41 hok) hd'
  rw [c3] at r1
  have len0 : rows.length < 2 ^ 47 := by
    rcases r2 with ⟨hn, _⟩ | ⟨_, es, sp, he, hl⟩
    · rw [(r1.isNil hn).2]; decide
    · have := hw ((es.length + sp.length) * Tryd.prog.bytesOf 3) (by rw [show d = _ from he]; simp [DataW.weights, Tryd.underlying41])
      rw [b3] at this
      simp only [reachBytes] at this
      omega
  have p0 := r1.rep false (.inr rfl) (F := fun g _ => g < W.heap.size) (M := fun k => k < W.heap.size) (fun g o h => h)
  refine ⟨rows.map (·.headD 0), _, by simpa using len0, ?_, p0⟩
  have e : ints (rows.map (·.headD 0)) = rows.map fun r => if false then AV.agg (r.map fun n => I n) else I (r.headD 0) := by simp [ints]
  rw [← e]
  cases nl with
  | true => exact .inl ⟨rfl, by simp [(r1.isNil rfl).2, ints]⟩
  | false => exact .inr ⟨.no, rfl, rfl⟩
end Go.Ai
