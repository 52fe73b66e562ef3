/- This text shows how arguments are read. No conditions of its own. -/
import Derived.Test.YtckbmdbebmkbaaaDoorSimp
import Derived.Deep.Slices
import Derived.Deep.Strs
import Derived.Carry
import Derived.LaidHandle
import Derived.RowKit
import Derived.OpenShut
import Derived.ProofKit
import Derived.LaidMore
import Derived.Stop.Joined
set_option linter.unusedSimpArgs false
set_option linter.unusedVariables false
namespace Go.Ai
def IsRow (sz : Nat) (es : List AV) (r : AV) : Prop := (r = .nils ∧ es = []) ∨ (r = .esl ∧ es = []) ∨ ∃ c : Cap, c.pure = c ∧ r = .sl sz es c
theorem IsRow.pur {sz es r} (h : IsRow sz es r) (σ : St) (n : Nat) : Ai.pur σ (n + 1) r = some (r, false) := by
  rcases h with ⟨rfl, _⟩ | ⟨rfl, _⟩ | ⟨c, hc, rfl⟩
  · rfl
  · rfl
  · simp [Ai.pur, hc]
theorem IsRow.under {sz es r} (h : IsRow sz es r) (a b c d n : Nat) : Ai.under a b c d (n + 1) r = true := by
  rcases h with ⟨rfl, _⟩ | ⟨rfl, _⟩ | ⟨c, hc, rfl⟩
  · rfl
  · rfl
  · cases c with
    | chain => cases hc
    | _ => rfl
theorem IsRow.cell {sz es r} (h : IsRow sz es r) : r.isCell = true := by
  rcases h with ⟨rfl, _⟩ | ⟨rfl, _⟩ | ⟨c, hc, rfl⟩ <;> rfl
theorem IsRow.cells {sz es r} (h : IsRow sz es r) : r.cells = [r] := by
  rcases h with ⟨rfl, _⟩ | ⟨rfl, _⟩ | ⟨c, hc, rfl⟩ <;> rfl
theorem IsRow.len {sz es r} (h : IsRow sz es r) : lenA r = some (I es.length) := by
  rcases h with ⟨rfl, h⟩ | ⟨rfl, h⟩ | ⟨c, hc, rfl⟩
  · rw [h]; rfl
  · rw [h]; rfl
  · rfl
theorem IsRow.sl {sz es r} (h : IsRow sz es r) (hn : es ≠ []) : ∃ c : Cap, c.pure = c ∧ r = .sl sz es c := by
  rcases h with ⟨_, h⟩ | ⟨_, h⟩ | h
  · exact absurd h hn
  · exact absurd h hn
  · exact h
theorem IsRow.fo {sz es r} (h : IsRow sz es r) : r.isAgg = false := by
  rcases h with ⟨rfl, _⟩ | ⟨rfl, _⟩ | ⟨c, hc, rfl⟩ <;> rfl

def aggT (P : Program) (t : TypeId) : Bool := match P.underlying t with
  | some (.struct _) => true
  | some (.array _ _) => true
  | _ => false
def consec (P : Program) (ok : TypeId → Bool) : Nat → List Field → Option Nat
  | off, [] => some off
  | off, f :: fs => if f.offset = off ∧ ok f.type = true then consec P ok (off + P.cellsOf f.type) fs else none
def rdOk (P : Program) : Nat → TypeId → Bool
  | 0, _ => false
  | k + 1, t => match P.underlying t with
    | some (.int _) => P.cellsOf t == 1
    | some .bool => P.cellsOf t == 1
    | some (.struct fs) => consec P (rdOk P k) 0 fs.toList == some (P.cellsOf t)
    | some (.array n e) => rdOk P k e && (P.cellsOf t == n * P.cellsOf e)
    | some (.slice e) => (P.cellsOf t == 1) && rdOk P k e && decide (0 < P.cellsOf e) && (aggT P e || P.cellsOf e == 1)
    | _ => false
def ShF (P : Program) (S : TypeId → List AV → Prop) : List Field → List AV → Prop
  | [], cs => cs = []
  | f :: fs, cs => ∃ a b, cs = a ++ b ∧ a.length = P.cellsOf f.type ∧ S f.type a ∧ ShF P S fs b
def ShA (S : List AV → Prop) (sz : Nat) : Nat → List AV → Prop
  | 0, cs => cs = []
  | n + 1, cs => ∃ a b, cs = a ++ b ∧ a.length = sz ∧ S a ∧ ShA S sz n b
def Sh (P : Program) : Nat → TypeId → List AV → Prop
  | 0, _, _ => False
  | k + 1, t, cs => match P.underlying t with
    | some (.int q) => ∃ n, cs = [.int q n]
    | some .bool => ∃ b, cs = [.bool b]
    | some (.struct fs) => ShF P (Sh P k) fs.toList cs
    | some (.array n e) => ShA (Sh P k e) (P.cellsOf e) n cs
    | some (.slice e) => ∃ r es, cs = [r] ∧ IsRow (P.cellsOf e) es r ∧ es.length * P.bytesOf e ≤ reachBytes ∧ ∀ x ∈ es, x.isAgg = aggT P e ∧ Sh P k e x.cells
    | _ => False
section
variable {H : Type} {enc : TypeId × Value → H} {P : Program} {w : World} {base : Nat} {spare : Nat → Bool} {held : Bool}
structure RdL (w : World) (cs : List Value) (as : List AV) : Prop where
  len : as.length = cs.length
  rep : ∀ (i : Nat) (v : Value) (a : AV), cs[i]? = some v → as[i]? = some a → PRep w (fun g _ => g < w.heap.size) (fun k => k < w.heap.size) v a
  one : ∀ (i : Nat) (v : Value), cs[i]? = some v → v.oneCell' = true
  cell : ∀ a ∈ as, a.isCell = true
theorem RdL.nil : RdL w [] [] := ⟨rfl, fun i v a h => by simp at h, fun i v h => by simp at h, fun a h => by cases h⟩
theorem RdL.one1 {v : Value} {a : AV} (h : PRep w (fun g _ => g < w.heap.size) (fun k => k < w.heap.size) v a) (h1 : v.oneCell' = true) (hc : a.isCell = true) : RdL w [v] [a] where
  len := rfl
  rep i u b hu hb := by
    cases i with
    | zero => simp only [List.getElem?_cons_zero, Option.some.injEq] at hu hb; subst hu hb; exact h
    | succ i => simp at hu
  one i u hu := by
    cases i with
    | zero => simp only [List.getElem?_cons_zero, Option.some.injEq] at hu; subst hu; exact h1
    | succ i => simp at hu
  cell b hb := by obtain rfl := List.mem_singleton.1 hb; exact hc
theorem RdL.app {as bs : List AV} {cs ds : List Value} (h : RdL w cs as) (h' : RdL w ds bs) : RdL w (cs ++ ds) (as ++ bs) where
  len := by rw [List.length_append, List.length_append, h.len, h'.len]
  rep i v a hv ha := by
    by_cases hi : i < cs.length
    · rw [List.getElem?_append_left hi] at hv
      rw [List.getElem?_append_left (by rw [h.len]; exact hi)] at ha
      exact h.rep i v a hv ha
    · rw [List.getElem?_append_right (by omega)] at hv
      rw [List.getElem?_append_right (by rw [h.len]; omega), h.len] at ha
      exact h'.rep _ v a hv ha
  one i v hv := by
    by_cases hi : i < cs.length
    · rw [List.getElem?_append_left hi] at hv
      exact h.one i v hv
    · rw [List.getElem?_append_right (by omega)] at hv
      exact h'.one _ v hv
  cell a ha := by
    rcases List.mem_append.1 ha with ha | ha
    · exact h.cell a ha
    · exact h'.cell a ha
theorem read_fs {ok : TypeId → Bool} {S : TypeId → List AV → Prop} : ∀ (fs : List Field) (off stop : Nat) (cs : List Value), consec P ok off fs = some stop → cs.length = stop →
    (∀ f ∈ fs, ok f.type = true → ((cs.drop f.offset).take (P.cellsOf f.type)).length = P.cellsOf f.type ∧ ∃ as, RdL w ((cs.drop f.offset).take (P.cellsOf f.type)) as ∧ S f.type as) →
    ∃ as, RdL w (cs.drop off) as ∧ ShF P S fs as
  | [], off, stop, cs, hc, hl, _ => by
    simp only [consec, Option.some.injEq] at hc
    subst hc
    rw [List.drop_eq_nil_of_le (by omega)]
    exact ⟨[], .nil, rfl⟩
  | f :: fs, off, stop, cs, hc, hl, h => by
    simp only [consec] at hc
    split at hc
    · rename_i hf
      obtain ⟨h1, as, h2, h3⟩ := h f (.head _) hf.2
      obtain ⟨bs, h4, h5⟩ := read_fs fs _ stop cs hc hl fun g hg => h g (.tail _ hg)
      rw [hf.1] at h1 h2
      refine ⟨as ++ bs, ?_, as, bs, rfl, by rw [h2.len, h1], h3, h5⟩
      have := h2.app h4
      rwa [← List.drop_drop, List.take_append_drop] at this
    · cases hc
theorem read_arr {S : List AV → Prop} {sz : Nat} : ∀ (n : Nat) (cs : List Value), cs.length = n * sz → (∀ i, i < n → ∃ as, RdL w ((cs.drop (i * sz)).take sz) as ∧ S as) → ∃ as, RdL w cs as ∧ ShA S sz n as
  | 0, cs, hl, _ => by
    have : cs = [] := List.length_eq_zero_iff.1 (by rw [hl, Nat.zero_mul])
    subst this
    exact ⟨[], .nil, rfl⟩
  | n + 1, cs, hl, h => by
    have hm : (n + 1) * sz = n * sz + sz := by rw [Nat.add_mul, Nat.one_mul]
    obtain ⟨as, h1, h2⟩ := h 0 (by omega)
    rw [Nat.zero_mul, List.drop_zero] at h1
    obtain ⟨bs, h3, h4⟩ := read_arr n (cs.drop sz) (by rw [List.length_drop, hl, hm, Nat.add_sub_cancel]) fun i hi => by
      obtain ⟨bs, h5, h6⟩ := h (i + 1) (by omega)
      refine ⟨bs, ?_, h6⟩
      rwa [List.drop_drop, show sz + i * sz = (i + 1) * sz from by rw [Nat.add_mul, Nat.one_mul, Nat.add_comm]]
    refine ⟨as ++ bs, ?_, as, bs, rfl, by rw [h1.len, List.length_take, hl, hm]; exact Nat.min_eq_left (Nat.le_add_left _ _), h2, h4⟩
    have := h1.app h3
    rwa [List.take_append_drop] at this
theorem read_row {S : List AV → Prop} {ag : Bool} {g o sz : Nat} (hag : ag = true ∨ sz = 1) : ∀ (n : Nat), (∀ i, i < n → ∃ (cs : List Value) (as : List AV), cs.length = sz ∧ RdL w cs as ∧ S as ∧ ∀ j v, cs[j]? = some v → w.cell? ⟨g, o + i * sz + j, none⟩ = some v) →
    ∃ es : List AV, es.length = n ∧ (∀ e ∈ es, e.isAgg = ag ∧ e.cells.length = sz ∧ S e.cells) ∧ ∀ (i : Nat) (e : AV), es[i]? = some e → ∃ cs : List Value, RdL w cs e.cells ∧ ∀ j v, cs[j]? = some v → w.cell? ⟨g, o + i * sz + j, none⟩ = some v
  | 0, _ => by
    refine ⟨[], rfl, ?_, ?_⟩
    · intro e h
      exact absurd h List.not_mem_nil
    · intro i e h
      simp at h
  | n + 1, h => by
    obtain ⟨es, h1, h2, h3⟩ := read_row hag n fun i hi => h i (by omega)
    obtain ⟨cs, as, q1, q2, q3, q4⟩ := h n (by omega)
    have hal : as.length = sz := by rw [q2.len, q1]
    obtain ⟨e, he1, he2⟩ : ∃ e : AV, e.isAgg = ag ∧ e.cells = as := by
      cases ag with
      | true => exact ⟨.agg as, rfl, rfl⟩
      | false =>
        rcases hag with hh | hh
        · cases hh
        · subst hh
          match as, hal, q2.cell with
          | [a], _, hc =>
            have := hc a (.head _)
            exact ⟨a, by cases a <;> simp_all [AV.isAgg, AV.isCell], by cases a <;> simp_all [AV.cells, AV.isCell]⟩
    refine ⟨es ++ [e], by simp [h1], fun x hx => ?_, fun i x hx => ?_⟩
    · rcases List.mem_append.1 hx with hx | hx
      · exact h2 x hx
      · obtain rfl := List.mem_singleton.1 hx
        exact ⟨he1, by rw [he2, hal], by rw [he2]; exact q3⟩
    · by_cases hi : i < es.length
      · rw [List.getElem?_append_left hi] at hx
        exact h3 i x hx
      · rw [List.getElem?_append_right (by omega)] at hx
        have hi0 : i - es.length = 0 := by have := (List.getElem?_eq_some_iff.1 hx).1; simp at this; omega
        rw [hi0] at hx
        simp only [List.getElem?_cons_zero, Option.some.injEq] at hx
        subst hx
        have : i = n := by omega
        subst this
        exact ⟨cs, by rw [he2]; exact q2, q4⟩
theorem weightsAll_mem {e : TypeId} {d : DataW H} {n : Nat} (hn : n ∈ d.weights P e) : ∀ l : List (DataW H), d ∈ l → n ∈ DataW.weightsAll P e l
  | [], h => absurd h List.not_mem_nil
  | c :: l, h => by
    rw [DataW.weightsAll]
    rcases List.mem_cons.1 h with rfl | h
    · exact List.mem_append_left _ hn
    · exact List.mem_append_right _ (weightsAll_mem hn l h)
theorem weightsEach_mem {d : DataW H} {t : TypeId} {n : Nat} (hn : n ∈ d.weights P t) : ∀ (ts : List TypeId) (l : List (DataW H)) (i : Nat), ts[i]? = some t → l[i]? = some d → n ∈ DataW.weightsEach P ts l
  | [], _, _, h, _ => by simp at h
  | _ :: _, [], _, _, h => by simp at h
  | u :: ts, c :: l, 0, h, h' => by
    simp only [List.getElem?_cons_zero, Option.some.injEq] at h h'
    subst h h'
    rw [DataW.weightsEach]
    exact List.mem_append_left _ hn
  | u :: ts, c :: l, i + 1, h, h' => by
    rw [DataW.weightsEach]
    exact List.mem_append_right _ (weightsEach_mem hn ts l i (by simpa using h) (by simpa using h'))
theorem add_add {a : Addr} (h : a.spot = none) (n j : Nat) : (a.add n).add j = ⟨a.block, a.off + n + j, none⟩ := by
  have e1 : ∀ (a : Addr) (n : Nat), a.spot = none → (a.add n).block = a.block ∧ (a.add n).off = a.off + n ∧ (a.add n).spot = none := by
    intro a n hs
    unfold Addr.add
    split
    · rename_i h0; subst h0; exact ⟨rfl, rfl, hs⟩
    · exact ⟨rfl, rfl, rfl⟩
  have e2 := e1 a n h
  have e3 := e1 _ j e2.2.2
  have hb := e3.1.trans e2.1
  have ho := e3.2.1.trans (by rw [e2.2.1])
  have hs := e3.2.2
  generalize (a.add n).add j = b at *
  cases b
  simp only at hb ho hs
  subst hb ho hs
  rfl
theorem read_trod : ∀ (k : Nat) (t : TypeId), rdOk P k t = true → ∀ (fuel : Nat) (cs : List Value) (x : DataW H × List MemPlace), DataW.trod enc P w base (fun _ => true) held fuel t cs = some x → (∀ n ∈ x.1.weights P t, n ≤ reachBytes) →
    cs.length = P.cellsOf t ∧ ∃ as, RdL w cs as ∧ Sh P k t as
  | 0, t, h, _, _, _, _, _ => by simp [rdOk] at h
  | k + 1, t, h, fuel, cs, x, hx, hw => by
    simp only [rdOk] at h
    simp only [Sh]
    split at h
    · rename_i q hu
      simp only [beq_iff_eq] at h
      obtain ⟨n, rfl, _⟩ := DataW.trod_int hu hx
      exact ⟨h.symm, [.int q n], .one1 (.int _ _) rfl rfl, n, rfl⟩
    · rename_i hu
      simp only [beq_iff_eq] at h
      obtain ⟨b, rfl, _⟩ := DataW.trod_bool hu hx
      exact ⟨h.symm, [.bool b], .one1 (.bool _) rfl rfl, b, rfl⟩
    · rename_i fs hu
      simp only [beq_iff_eq] at h
      obtain ⟨xs, n, _, rfl, hl, hlen, hf⟩ := DataW.trod_struct hu hx
      refine ⟨hl, ?_⟩
      have := read_fs (w := w) (S := Sh P k) fs.toList 0 _ cs h hl fun f hfm hok => by
        obtain ⟨j, hj⟩ := List.getElem?_of_mem hfm
        have hj' : fs[j]? = some f := by simpa using hj
        have hjl : j < xs.length := by have := (List.getElem?_eq_some_iff.1 hj).1; simpa [hlen] using this
        have hfj := hf j f hj'
        rw [List.getElem?_eq_getElem hjl] at hfj
        exact read_trod k f.type hok n _ _ hfj fun m hm => hw m (by
          simp only [DataW.weights, hu]
          exact weightsEach_mem hm _ _ j (by simp [hj']) (by simp [hjl]))
      rw [List.drop_zero] at this
      exact this
    · rename_i n e hu
      simp only [Bool.and_eq_true, beq_iff_eq] at h
      obtain ⟨xs, m, _, rfl, hl, hlen, hf⟩ := DataW.trod_array hu hx
      refine ⟨hl, ?_⟩
      exact read_arr (w := w) (S := Sh P k e) n cs (by rw [hl, h.2]) fun i hi => by
        have hfi := hf i hi
        rw [List.getElem?_eq_getElem (by omega)] at hfi
        exact (read_trod k e h.1 m _ _ hfi fun q hq => hw q (by
          simp only [DataW.weights, hu]
          exact weightsAll_mem hq _ (List.mem_map.2 ⟨_, List.getElem_mem (by omega), rfl⟩))).2
    · rename_i e hu
      simp only [Bool.and_eq_true, beq_iff_eq, decide_eq_true_eq, Bool.or_eq_true] at h
      obtain ⟨⟨⟨hc1, hk⟩, hpos⟩, hag⟩ := h
      rcases Deep.open_slice hu hx with ⟨rfl, rfl⟩ | ⟨a, len, cap, m, n, D, Pl, rfl, hb, hlc, hcm, hm, rfl, hel⟩
      · exact ⟨hc1.symm, [.nils], .one1 .nils rfl rfl, .nils, [], rfl, .inl ⟨rfl, rfl⟩, by simp, fun x hx => absurd hx List.not_mem_nil⟩
      · refine ⟨hc1.symm, ?_⟩
        simp only [if_true] at hm
        subst hm
        by_cases hcap : m = 0
        · subst hcap
          obtain rfl : len = 0 := by omega
          exact ⟨[.esl], .one1 (.esl a) rfl rfl, .esl, [], rfl, .inr (.inl ⟨rfl, rfl⟩), by simp, fun x hx => absurd hx List.not_mem_nil⟩
        · have hsp : a.spot = none := by
            obtain ⟨cs', hcs, _⟩ := hel 0 (by omega)
            obtain ⟨_, hl', hcell⟩ := World.cells?_some hcs
            have := hcell 0 hpos
            rw [Nat.zero_mul, show (a.add 0).add 0 = a from rfl, List.getElem?_eq_getElem (by omega)] at this
            unfold World.cell? at this
            split at this
            · split at this
              · cases this
              · rename_i hs; simpa using hs
            · cases this
          obtain ⟨g, o, sp⟩ := a
          simp only at hsp
          subst hsp
          obtain ⟨es, h1, h2, h3⟩ := read_row (w := w) (S := Sh P k e) (ag := aggT P e) (g := g) (o := o) (sz := P.cellsOf e) hag len fun i hi => by
            obtain ⟨cs', hcs, htr⟩ := hel i (by omega)
            obtain ⟨hl', as, h5, h6⟩ := read_trod k e hk n cs' _ htr fun q hq => hw q (by
              simp only [DataW.weights, hu]
              refine List.mem_cons_of_mem _ (List.mem_append_left _ (weightsAll_mem hq _ (List.mem_map.2 ⟨i, List.mem_range.2 hi, rfl⟩))))
            obtain ⟨_, hl2, hcell⟩ := World.cells?_some hcs
            refine ⟨cs', as, hl', h5, h6, fun j v hv => ?_⟩
            have hj : j < P.cellsOf e := by rw [← hl2]; exact (List.getElem?_eq_some_iff.1 hv).1
            have := hcell j hj
            rw [hv, add_add rfl] at this
            exact this
          refine ⟨[.sl (P.cellsOf e) es .no], .one1 ?_ rfl rfl, _, es, rfl, .inr (.inr ⟨.no, rfl, rfl⟩), ?_, fun x hx => ⟨(h2 x hx).1, (h2 x hx).2.2⟩⟩
          · have key : ∀ (i : Nat) (x : AV) (j : Nat) (y : AV), es[i]? = some x → x.cells[j]? = some y → ∃ v, w.cell? ⟨g, o + i * P.cellsOf e + j, none⟩ = some v ∧ v.oneCell' = true ∧ PRep w (fun g _ => g < w.heap.size) (fun k => k < w.heap.size) v y := by
              intro i x j y hi hj
              obtain ⟨cs', h7, h8⟩ := h3 i x hi
              have hjl : j < cs'.length := by rw [← h7.len]; exact (List.getElem?_eq_some_iff.1 hj).1
              exact ⟨cs'[j], h8 j _ (List.getElem?_eq_getElem hjl), h7.one j _ (List.getElem?_eq_getElem hjl), h7.rep j _ y (List.getElem?_eq_getElem hjl) hj⟩
            subst h1
            exact PRep.sl g o m (P.cellsOf e) es .no (fun i j => (w.cell? ⟨g, o + i * P.cellsOf e + j, none⟩).getD (.int .i64 0)) (.inl rfl) hlc
              (fun i x hi => (h2 x (List.mem_of_getElem? hi)).2.1)
              (fun i x j y hi hj => by obtain ⟨v, hv, _⟩ := key i x j y hi hj; rw [hv]; rfl)
              (fun i x j y hi hj => by obtain ⟨v, hv, _⟩ := key i x j y hi hj; exact World.block_lt_of_cell? w _ (by rw [hv]))
              (fun i x j y hi hj => by obtain ⟨v, hv, h1, _⟩ := key i x j y hi hj; rw [hv]; exact h1)
              (fun i x j y hi hj => by obtain ⟨v, hv, _, hr⟩ := key i x j y hi hj; rw [hv]; exact hr)
          · have := hw ((len + (m - len)) * P.bytesOf e) (by simp [DataW.weights, hu])
            rw [h1]
            exact Nat.le_trans (Nat.mul_le_mul_right _ (by omega)) this
    · cases h
end
end Go.Ai
