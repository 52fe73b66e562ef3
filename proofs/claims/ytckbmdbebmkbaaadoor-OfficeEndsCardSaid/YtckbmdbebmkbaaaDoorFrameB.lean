/- This text shows operations of the interpreter are those of the model. No conditions of its own. -/
import Derived.Test.YtckbmdbebmkbaaaDoorFrameA
import Derived.WalkKit
import Derived.ChangeKeysEq
import Derived.WideKeyRuns
import Derived.Laws.StructEq
import Derived.Laws.Slices
set_option linter.unusedSimpArgs false
set_option linter.unusedVariables false
namespace Go.Ai

/-! ### Types -/
structure TyOf (P : Program) (t : TypeId) (a : ATy) : Prop where
  ex : ∃ (d : TypeDesc) (i : TypeInfo) (z : Value), P.underlying t = some d ∧ P.info? t = some i ∧ i.zero = some z ∧ a.kind = kindA d ∧ a.size = i.size ∧ a.bytes = i.bytes ∧
    z.cells.toList.mapM (constA 4) = some a.zero ∧ a.zero.length = a.size ∧ aggV z = a.kind.agg

theorem tyA_of {P : Program} {t : TypeId} {a : ATy} (h : tyA P t = some a) : TyOf P t a := by
  simp only [tyA, Option.bind_eq_some_iff] at h
  obtain ⟨d, hd, i, hi, z, hz, cs, hcs, h⟩ := h
  split at h
  · simp only [Option.some.injEq] at h
    subst h
    rename_i hcond
    exact ⟨d, i, z, hd, hi, hz, rfl, rfl, rfl, hcs, hcond.1, hcond.2⟩
  · cases h

section
variable {P : Program} {t : TypeId} {a : ATy} {w : World}
theorem TyOf.isAgg (h : TyOf P t a) : (isAgg t).run P w = .ok a.kind.agg w := by
  obtain ⟨d, i, z, hd, hi, hz, hk, _⟩ := h
  simp only [Go.isAgg, Sem.run_bind, run_underlying hd, Result.andThen_ok, hk]
  cases d <;> rfl
theorem TyOf.sizeOf (h : TyOf P t a) : (sizeOf t).run P w = .ok a.size w := by
  obtain ⟨d, i, z, hd, hi, hz, hk, hs, _⟩ := h
  simp [Go.sizeOf, typeInfo, hi, hs]
theorem TyOf.info (h : TyOf P t a) : ∃ i, P.info? t = some i ∧ i.size = a.size ∧ i.bytes = a.bytes ∧ ∃ z, i.zero = some z ∧ z.cells.toList.mapM (constA 4) = some a.zero := by
  obtain ⟨d, i, z, hd, hi, hz, hk, hs, hb, hc, _⟩ := h
  exact ⟨i, hi, hs.symm, hb.symm, z, hz, hc⟩
theorem TyOf.zeroLen (h : TyOf P t a) : a.zero.length = a.size := by
  obtain ⟨d, i, z, hd, hi, hz, hk, hs, hb, hc, hl, _⟩ := h
  exact hl
theorem TyOf.underlying (h : TyOf P t a) : ∃ d, P.underlying t = some d ∧ a.kind = kindA d := by
  obtain ⟨d, i, z, hd, hi, hz, hk, _⟩ := h
  exact ⟨d, hd, hk⟩
theorem TyOf.slice (h : TyOf P t a) {e : TypeId} (hk : a.kind = .sl e) : P.underlying t = some (.slice e) := by
  obtain ⟨d, hd, h'⟩ := h.underlying
  rw [hk] at h'
  cases d <;> simp [kindA] at h'
  subst h'
  exact hd
theorem TyOf.array (h : TyOf P t a) {n : Nat} {e : TypeId} (hk : a.kind = .arr n e) : P.underlying t = some (.array n e) := by
  obtain ⟨d, hd, h'⟩ := h.underlying
  rw [hk] at h'
  cases d <;> simp [kindA] at h'
  obtain ⟨rfl, rfl⟩ := h'
  exact hd
theorem TyOf.struct (h : TyOf P t a) {fs : List (Nat × TypeId)} (hk : a.kind = .st fs) : ∃ fields : Array Field, P.underlying t = some (.struct fields) ∧ fs = fields.toList.map fun f => (f.offset, f.type) := by
  obtain ⟨d, hd, h'⟩ := h.underlying
  rw [hk] at h'
  cases d <;> simp [kindA] at h'
  subst h'
  exact ⟨_, hd, rfl⟩
theorem TyOf.mapT (h : TyOf P t a) {k e : TypeId} (hk : a.kind = .map k e) : P.underlying t = some (.map k e) := by
  obtain ⟨d, hd, h'⟩ := h.underlying
  rw [hk] at h'
  cases d <;> simp [kindA] at h'
  obtain ⟨rfl, rfl⟩ := h'
  exact hd
theorem TyOf.intT (h : TyOf P t a) {k : IntKind} (hk : a.kind = .int k) : P.underlying t = some (.int k) := by
  obtain ⟨d, hd, h'⟩ := h.underlying
  rw [hk] at h'
  cases d <;> simp [kindA] at h'
  subst h'
  exact hd
end

/-! ### Constants and operands -/
theorem mapM_get {α β : Type} {f : α → Option β} : ∀ {l : List α} {m : List β}, l.mapM f = some m → m.length = l.length ∧ ∀ (i : Nat) (x : α) (y : β), l[i]? = some x → m[i]? = some y → f x = some y
  | [], m, h => by
    simp only [List.mapM_nil, Option.pure_def, Option.some.injEq] at h
    subst h
    exact ⟨rfl, fun i x y h => by simp at h⟩
  | a :: l, m, h => by
    simp only [List.mapM_cons, Option.bind_eq_bind, Option.bind_eq_some_iff, Option.pure_def, Option.some.injEq] at h
    obtain ⟨b, hb, bs, hbs, rfl⟩ := h
    obtain ⟨h1, h2⟩ := mapM_get hbs
    refine ⟨by simp [h1], fun i x y hx hy => ?_⟩
    cases i with
    | zero =>
      simp only [List.getElem?_cons_zero, Option.some.injEq] at hx hy
      subst hx hy
      exact hb
    | succ i => exact h2 i x y (by simpa using hx) (by simpa using hy)

theorem constA_rep {w : World} {F : Nat → Nat → Prop} {M : Nat → Prop} : ∀ (n : Nat) {v : Value} {a : AV}, constA n v = some a → PRep w F M v a
  | 0, _, _, h => by simp [constA] at h
  | n + 1, v, a, h => by
    cases v with
    | int k n => simp only [constA, Option.some.injEq] at h; subst h; exact .int ..
    | bool b => simp only [constA, Option.some.injEq] at h; subst h; exact .bool ..
    | string s => simp only [constA, Option.some.injEq] at h; subst h; exact .str ..
    | nilFunc => simp only [constA, Option.some.injEq] at h; subst h; exact .nilf
    | pointer p => cases p <;> simp only [constA, Option.some.injEq, reduceCtorEq] at h; subst h; exact .nilp
    | map p => cases p <;> simp only [constA, Option.some.injEq, reduceCtorEq] at h; subst h; exact .nilm
    | slice p l c =>
      cases p with
      | some p => simp [constA] at h
      | none =>
        match l, c with
        | 0, 0 => simp only [constA, Option.some.injEq] at h; subst h; exact .nils
        | l + 1, c => simp [constA] at h
        | 0, c + 1 => simp [constA] at h
    | agg cs =>
      simp only [constA, Option.map_eq_some_iff] at h
      obtain ⟨as, has, rfl⟩ := h
      obtain ⟨h1, h2⟩ := mapM_get has
      refine .agg _ _ (by simpa using h1.symm) fun i v c hv hc => ?_
      exact constA_rep n (h2 i v c (by simpa using hv) hc)
    | float | complex | chan | func | iface | nilIface | tuple => simp [constA] at h

theorem constA_cells {w : World} {F : Nat → Nat → Prop} {M : Nat → Prop} {vs : List Value} {as : List AV} (h : vs.mapM (constA 4) = some as) : PReps w F M vs as := by
  obtain ⟨h1, h2⟩ := mapM_get h
  exact ⟨h1.symm, fun i v a hv ha => constA_rep 4 (h2 i v a hv ha)⟩

theorem Reps.get {X : Ctx} {σ : St} {w : World} {tmps : Array Value} {e : Env} (E : Reps X σ w tmps.toList e) (t : Nat) : Rep X σ w (tmps.getD t undef) (e.getD t .any) := by
  rcases Nat.lt_or_ge t e.length with h | h
  · have h' : t < tmps.size := by have := E.1; simp at this; omega
    have e1 : tmps.getD t undef = tmps[t] := by simp [Array.getD, h']
    have e2 : e.getD t .any = e[t] := by simp [List.getD, List.getElem?_eq_getElem h]
    rw [e1, e2]
    exact E.2 t _ _ (by simp [List.getElem?_eq_getElem, h']) (List.getElem?_eq_getElem h)
  · have e2 : e.getD t .any = .any := by simp [List.getD, List.getElem?_eq_none h]
    rw [e2]
    exact .pure (.any _)

section
variable {C : Cfg} {X : Ctx} {σ : St} {w : World} {a : Act} {e : Env}
theorem opdA_rep (H : Inv C X σ w) (E : Reps X σ w a.tmps.toList e) {x : Operand} {y : Opd} (h : opdA C x = some y) : Rep X σ w (a.eval x) (ev e y) := by
  cases x with
  | tmp t =>
    simp only [opdA, Option.some.injEq] at h
    subst h
    exact E.get t
  | const v =>
    simp only [opdA, Option.map_eq_some_iff] at h
    obtain ⟨c, hc, rfl⟩ := h
    exact .pure (constA_rep 4 hc)
  | global g =>
    simp only [opdA, Option.map_eq_some_iff] at h
    obtain ⟨cs, hc, rfl⟩ := h
    exact .pure (H.glob g cs hc)
  | func f =>
    simp only [opdA, Option.some.injEq] at h
    subst h
    exact .pure (.fn _ _ _ _ _ rfl rfl (fun i v c hv => by simp at hv) (fun i v c hv => by simp at hv))

theorem opds_rep (H : Inv C X σ w) (E : Reps X σ w a.tmps.toList e) {xs : Array Operand} {ys : List Opd} (h : opdsA C xs = some ys) : Reps X σ w ((xs.map a.eval).toList) (ys.map (ev e)) := by
  obtain ⟨h1, h2⟩ := mapM_get h
  refine ⟨by simp [h1], fun i v b hv hb => ?_⟩
  simp only [Array.toList_map, List.getElem?_map, Option.map_eq_some_iff] at hv hb
  obtain ⟨x, hx, rfl⟩ := hv
  obtain ⟨y, hy, rfl⟩ := hb
  exact opdA_rep H E (h2 i x y hx hy)
end

/-! ### Reading cells -/
theorem add_plain (g o n : Nat) : (⟨g, o, none⟩ : Addr).add n = ⟨g, o + n, none⟩ := by
  unfold Addr.add
  split
  · simp_all
  · rfl

/-- A row of cells that lies in memory. -/
def RowAt (R : Value → AV → Prop) (w : World) (g o : Nat) (cs : List AV) : Prop := ∀ (j : Nat) (c : AV), cs[j]? = some c → ∃ v, w.cell? ⟨g, o + j, none⟩ = some v ∧ R v c

theorem run_loadRow {P : Program} {w : World} {g o n : Nat} {R : Value → AV → Prop} {cs : List AV} (h : RowAt R w g o cs) (hn : cs.length = n) :
    ∃ vs : Array Value, (loadCells ⟨g, o, none⟩ n).run P w = .ok vs w ∧ vs.size = n ∧ ∀ (i : Nat) (v : Value) (c : AV), vs[i]? = some v → cs[i]? = some c → R v c := by
  have hv : ∀ j, j < n → ∃ v, w.cell? ⟨g, o + j, none⟩ = some v ∧ ∀ c, cs[j]? = some c → R v c := by
    intro j hj
    obtain ⟨c, hc⟩ := some_of_lt (l := cs) (i := j) (by omega)
    obtain ⟨v, h1, h2⟩ := h j c hc
    exact ⟨v, h1, fun c' hc' => by rw [hc] at hc'; cases hc'; exact h2⟩
  have hf : ∃ f : Nat → Value, ∀ j, j < n → w.cell? ⟨g, o + j, none⟩ = some (f j) ∧ ∀ c, cs[j]? = some c → R (f j) c := by
    refine ⟨fun j => (w.cell? ⟨g, o + j, none⟩).getD undef, fun j hj => ?_⟩
    obtain ⟨v, h1, h2⟩ := hv j hj
    simp only [h1, Option.getD_some]
    exact ⟨trivial, h2⟩
  obtain ⟨f, hf⟩ := hf
  refine ⟨((List.range n).map f).toArray, run_loadCells w _ n f (fun j hj => by rw [add_plain]; exact (hf j hj).1), by simp, fun i v c hv' hc => ?_⟩
  have hi : i < n := by have := lt_of_some hc; omega
  simp only [List.getElem?_toArray, List.getElem?_map, List.getElem?_range, hi, Option.map_some, Option.some.injEq] at hv'
  subst hv'
  exact (hf i hi).2 c hc

theorem RowAt.drop {R : Value → AV → Prop} {w : World} {g o : Nat} {cs : List AV} (h : RowAt R w g o cs) (k n : Nat) : RowAt R w g (o + k) ((cs.drop k).take n) := by
  intro j c hc
  rw [List.getElem?_take] at hc
  split at hc
  · rw [List.getElem?_drop] at hc
    obtain ⟨v, h1, h2⟩ := h (k + j) c hc
    exact ⟨v, by rwa [show o + k + j = o + (k + j) by omega], h2⟩
  · cases hc

/-- 'load' of a variable, or of a part of one. -/
theorem run_loadPart {P : Program} {w : World} {t : TypeId} {a : ATy} (ht : TyOf P t a) {g o off : Nat} {X : Ctx} {σ : St} {cs : List AV} {r : AV} (h : RowAt (Rep X σ w) w g o cs) (hp : partA (partN a) cs off = some r) :
    ∃ v, (loadVar t ⟨g, o + off, none⟩).run P w = .ok v w ∧ Rep X σ w v r := by
  simp only [loadVar, Sem.run_bind, ht.isAgg, Result.andThen_ok]
  simp only [partN] at hp
  cases hk : a.kind.agg with
  | true =>
    simp only [hk, if_true, partA] at hp
    split at hp
    · rename_i hle
      simp only [Option.some.injEq] at hp
      subst hp
      obtain ⟨vs, h1, h2, h3⟩ := run_loadRow (P := P) (h.drop off a.size) (n := a.size) (by simp; omega)
      refine ⟨.agg vs, by simp [ht.sizeOf, h1], .agg vs _ (by simp [h2]; omega) h3⟩
    · cases hp
  | false =>
    simp only [hk, Bool.false_eq_true, if_false, partA] at hp
    obtain ⟨v, h1, h2⟩ := h off r hp
    exact ⟨v, by simp [h1], h2⟩

theorem box_row {C : Cfg} {X : Ctx} {σ : St} {w : World} (H : Inv C X σ w) {b : Nat} {cs : List AV} (hb : σ.boxes[b]? = some cs) : RowAt (Rep X σ w) w (X.box b).1 0 cs := by
  obtain ⟨_, arr, T, hw, hsz, _, hrep, _, _⟩ := H.box b cs hb
  intro j c hc
  obtain ⟨v, hv⟩ := some_of_size (l := arr) (i := j) (by have := lt_of_some hc; omega)
  exact ⟨v, by rw [Nat.zero_add]; exact cell_at hw hv, hrep j v c hv hc⟩

theorem loadA_sim {C : Cfg} {X : Ctx} {σ : St} {w : World} (H : Inv C X σ w) {P : Program} {t : TypeId} {a : ATy} (ht : TyOf P t a) {p : Value} {x r : AV} (hp : Rep X σ w p x) (h : loadA σ (partN a) x = some r) :
    ∃ ad v, p = .pointer (some ad) ∧ (loadVar t ad).run P w = .ok v w ∧ Rep X σ w v r := by
  cases x with
  | box b off =>
    simp only [loadA, Option.bind_eq_some_iff] at h
    obtain ⟨cs, hcs, h⟩ := h
    cases hp with
    | pure p => cases p
    | box _ _ hb =>
      obtain ⟨v, h1, h2⟩ := run_loadPart ht (box_row H hcs) h
      rw [Nat.zero_add] at h1
      exact ⟨_, v, rfl, h1, h2⟩
  | rp cs off =>
    simp only [loadA] at h
    cases hp with
    | pure p =>
      cases p with
      | rp g o _ _ val hw hF h1 hr =>
        obtain ⟨v, h1, h2⟩ := run_loadPart ht (X := X) (σ := σ) (fun j c hc => ⟨val j, hw j c hc, .pure (hr j c hc)⟩) h
        exact ⟨_, v, rfl, h1, h2⟩
  | _ => simp [loadA] at h

end Go.Ai

set_option linter.unusedVariables false
set_option linter.unusedSimpArgs false
namespace Go.Ai

theorem Rep.intV {X : Ctx} {σ : St} {w : World} {v : Value} {k : IntKind} {n : Int} (h : Rep X σ w v (.int k n)) : v = .int k n := by cases h with | pure p => cases p; rfl
theorem Rep.boolV {X : Ctx} {σ : St} {w : World} {v : Value} {b : Bool} (h : Rep X σ w v (.bool b)) : v = .bool b := by cases h with | pure p => cases p; rfl
theorem Rep.aggV {X : Ctx} {σ : St} {w : World} {v : Value} {cs : List AV} (h : Rep X σ w v (.agg cs)) : ∃ vs : Array Value, v = .agg vs ∧ vs.size = cs.length ∧ ∀ (i : Nat) (u : Value) (c : AV), vs[i]? = some u → cs[i]? = some c → Rep X σ w u c := by
  cases h with
  | pure p => cases p with | agg vs _ hl hp => exact ⟨vs, rfl, hl, fun i u c h1 h2 => .pure (hp i u c h1 h2)⟩
  | agg vs _ hl hp => exact ⟨vs, rfl, hl, hp⟩
theorem Rep.tupV {X : Ctx} {σ : St} {w : World} {v : Value} {cs : List AV} (h : Rep X σ w v (.tup cs)) : ∃ vs : Array Value, v = .tuple vs ∧ vs.size = cs.length ∧ ∀ (i : Nat) (u : Value) (c : AV), vs[i]? = some u → cs[i]? = some c → Rep X σ w u c := by
  cases h with
  | pure p => cases p with | tup vs _ hl hp => exact ⟨vs, rfl, hl, fun i u c h1 h2 => .pure (hp i u c h1 h2)⟩
  | tup vs _ hl hp => exact ⟨vs, rfl, hl, hp⟩

/-- The cells of a value. -/
theorem Rep.cells {X : Ctx} {σ : St} {w : World} {v : Value} {a : AV} (h : Rep X σ w v a) (ha : a.cells.all AV.isCell = true) :
    v.cells.size = a.cells.length ∧ (∀ (i : Nat) (u : Value) (c : AV), v.cells[i]? = some u → a.cells[i]? = some c → Rep X σ w u c) ∧ ∀ u ∈ v.cells.toList, u.oneCell' = true := by
  have scalar : a.isCell = true → a.cells = [a] → v.cells.size = a.cells.length ∧ (∀ (i : Nat) (u : Value) (c : AV), v.cells[i]? = some u → a.cells[i]? = some c → Rep X σ w u c) ∧ ∀ u ∈ v.cells.toList, u.oneCell' = true := by
    intro h1 h2
    have h3 := h.one h1
    have h4 : v.cells = #[v] := by cases v <;> first | rfl | cases h3
    rw [h4, h2]
    refine ⟨rfl, fun i u c hu hc => ?_, fun u hu => by simp at hu; subst hu; exact h3⟩
    cases i with
    | zero =>
      simp only [List.getElem?_cons_zero, Option.some.injEq] at hc
      subst hc
      have : v = u := by simpa using hu
      subst this
      exact h
    | succ i => simp at hc
  cases a with
  | agg cs =>
    obtain ⟨vs, rfl, hl, hp⟩ := h.aggV
    refine ⟨hl, hp, fun u hu => ?_⟩
    obtain ⟨i, hi⟩ := List.mem_iff_getElem?.1 hu
    simp only [Value.cells, Array.getElem?_toList] at hi
    obtain ⟨c, hc⟩ := some_of_lt (l := cs) (i := i) (by have := size_of_some hi; omega)
    exact (hp i u c hi hc).one (all_get ha hc)
  | any => simp [AV.cells, AV.isCell] at ha
  | undef => simp [AV.cells, AV.isCell] at ha
  | tup => simp [AV.cells, AV.isCell] at ha
  | _ => exact scalar rfl rfl

/-! ### Arithmetic -/
section
variable {P : Program} {w : World}
theorem run_eqGuard_int (op : BinOp) (t : TypeId) (x y : Operand) (k k' : IntKind) (a b : Int) : (eqGuard op t x y (.int k a) (.int k' b)).run P w = .ok () w := by
  unfold eqGuard
  cases op <;> simp
theorem run_eqGuard_bool (op : BinOp) (t : TypeId) (x y : Operand) (a b : Bool) : (eqGuard op t x y (.bool a) (.bool b)).run P w = .ok () w := by
  unfold eqGuard
  cases op <;> simp

theorem binA_sim {X : Ctx} {σ : St} {op : BinOp} {t : TypeId} {u v : Value} {x y r : AV} (hu : Rep X σ w u x) (hv : Rep X σ w v y) (h : binA op x y = some r) (ox oy : Operand) :
    ∃ z, (do eqGuard op t ox oy u v; binOp op t u v : Sem Value).run P w = .ok z w ∧ Rep X σ w z r := by
  cases x <;> cases y <;> simp only [binA, reduceCtorEq] at h
  · rename_i k n k' n'
    obtain rfl := hu.intV
    obtain rfl := hv.intV
    simp only [Sem.run_bind, run_eqGuard_int, Result.andThen_ok]
    split at h
    case isFalse => cases h
    rename_i hkk
    cases op <;> simp only [binI, Option.some.injEq, reduceCtorEq, or_false, false_or, or_true, ite_eq_left_iff] at h hkk
    case quo =>
      subst hkk
      split at h
      · cases h
      · rename_i hz
        simp only [Option.some.injEq] at h
        subst h
        exact ⟨_, by simp [binOp, Op.intDiv, hz], .pure (.int ..)⟩
    case rem =>
      subst hkk
      split at h
      · cases h
      · rename_i hz
        simp only [Option.some.injEq] at h
        subst h
        exact ⟨_, by simp [binOp, Op.intDiv, hz], .pure (.int ..)⟩
    case shl =>
      split at h
      · cases h
      · rename_i hz
        simp only [Option.some.injEq] at h
        subst h
        exact ⟨_, by simp [binOp, Op.shift, hz], .pure (.int ..)⟩
    case shr =>
      split at h
      · cases h
      · rename_i hz
        simp only [Option.some.injEq] at h
        subst h
        exact ⟨_, by simp [binOp, Op.shift, hz], .pure (.int ..)⟩
    case add => subst hkk; subst h; exact ⟨_, by simp [binOp, Op.intArith], .pure (.int ..)⟩
    case sub => subst hkk; subst h; exact ⟨_, by simp [binOp, Op.intArith], .pure (.int ..)⟩
    case mul => subst hkk; subst h; exact ⟨_, by simp [binOp, Op.intArith], .pure (.int ..)⟩
    case and => subst hkk; subst h; exact ⟨_, by simp only [binOp, ne_eq, not_true_eq_false, if_false, Op.intBits, Sem.run_pure], .pure (.int ..)⟩
    case or => subst hkk; subst h; exact ⟨_, by simp only [binOp, ne_eq, not_true_eq_false, if_false, Op.intBits, Sem.run_pure], .pure (.int ..)⟩
    case xor => subst hkk; subst h; exact ⟨_, by simp only [binOp, ne_eq, not_true_eq_false, if_false, Op.intBits, Sem.run_pure], .pure (.int ..)⟩
    case andNot => subst hkk; subst h; exact ⟨_, by simp only [binOp, ne_eq, not_true_eq_false, if_false, Op.intBits, Sem.run_pure], .pure (.int ..)⟩
    case eql => subst hkk; subst h; exact ⟨_, by simp only [binOp, ne_eq, not_true_eq_false, if_false, Op.intCmp, Sem.run_pure], .pure (.bool ..)⟩
    case neq => subst hkk; subst h; exact ⟨_, by simp only [binOp, ne_eq, not_true_eq_false, if_false, Op.intCmp, Sem.run_pure], .pure (.bool ..)⟩
    case lss => subst hkk; subst h; exact ⟨_, by simp only [binOp, ne_eq, not_true_eq_false, if_false, Op.intCmp, Sem.run_pure], .pure (.bool ..)⟩
    case leq => subst hkk; subst h; exact ⟨_, by simp only [binOp, ne_eq, not_true_eq_false, if_false, Op.intCmp, Sem.run_pure], .pure (.bool ..)⟩
    case gtr => subst hkk; subst h; exact ⟨_, by simp only [binOp, ne_eq, not_true_eq_false, if_false, Op.intCmp, Sem.run_pure], .pure (.bool ..)⟩
    case geq => subst hkk; subst h; exact ⟨_, by simp only [binOp, ne_eq, not_true_eq_false, if_false, Op.intCmp, Sem.run_pure], .pure (.bool ..)⟩

theorem beq_sim {X : Ctx} {σ : St} {t : TypeId} {a : ATy} (ht : TyOf P t a) (hk : a.kind = .bool) {u v : Value} {b b' : Bool} (hu : Rep X σ w u (.bool b)) (hv : Rep X σ w v (.bool b')) (ox oy : Operand) :
    (do eqGuard .eql t ox oy u v; binOp .eql t u v : Sem Value).run P w = .ok (.bool (b == b')) w ∧ (do eqGuard .neq t ox oy u v; binOp .neq t u v : Sem Value).run P w = .ok (.bool (!(b == b'))) w := by
  obtain rfl := hu.boolV
  obtain rfl := hv.boolV
  simp only [Sem.run_bind, run_eqGuard_bool, Result.andThen_ok]
  have hd : P.underlying t = some .bool := by
    obtain ⟨d, hd, hkd⟩ := ht.underlying
    rw [hk] at hkd
    cases d <;> simp [kindA] at hkd
    exact hd
  have he : (Op.equal t (.bool b) (.bool b')).run P w = .ok (b == b') w := run_equalIn_bool' w 9999 t b b' hd
  exact ⟨by simp only [binOp, Sem.run_bind, he, Result.andThen_ok, Sem.run_pure], by simp only [binOp, Sem.run_bind, he, Result.andThen_ok, Sem.run_pure]⟩
end
end Go.Ai

set_option linter.unusedVariables false
set_option linter.unusedSimpArgs false
namespace Go.Ai
variable {P : Program} {w : World}

theorem isIntT_of {t : TypeId} (h : isIntT P t = true) : ∃ k, P.underlying t = some (.int k) := by
  unfold isIntT at h
  split at h
  · exact ⟨_, by assumption⟩
  · cases h

/-- Whole numbers, cell by cell. -/
def IntsOf (vs : Array Value) (cs : List AV) : Prop := vs.size = cs.length ∧ ∀ (i : Nat) (k : IntKind) (n : Int), cs[i]? = some (.int k n) → vs[i]? = some (.int k n)

theorem ints_of {X : Ctx} {σ : St} {vs : Array Value} {cs : List AV} (hl : vs.size = cs.length) (h : ∀ (i : Nat) (u : Value) (c : AV), vs[i]? = some u → cs[i]? = some c → Rep X σ w u c) : IntsOf vs cs := by
  refine ⟨hl, fun i k n hc => ?_⟩
  obtain ⟨u, hu⟩ := some_of_size (l := vs) (i := i) (by have := lt_of_some hc; omega)
  rw [(h i u _ hu hc).intV] at hu
  exact hu

theorem run_partInt {t : TypeId} {k : IntKind} {vs : Array Value} {i : Nat} {v : Value} (ht : P.underlying t = some (.int k)) (h : vs[i]? = some v) : (part t vs i).run P w = .ok v w := by
  simp [part, isAgg, run_underlying ht, h]

theorem eqCells_cons {x y : AV} {xs ys : List AV} {r : Bool} (h : eqCells (x :: xs) (y :: ys) = some r) : ∃ k a b r', x = .int k a ∧ y = .int k b ∧ eqCells xs ys = some r' ∧ r = (a == b && r') := by
  cases x <;> cases y <;> simp only [eqCells, reduceCtorEq] at h
  split at h
  · rename_i hk
    subst hk
    simp only [Option.map_eq_some_iff] at h
    obtain ⟨r', h1, rfl⟩ := h
    exact ⟨_, _, _, r', rfl, rfl, h1, rfl⟩
  · cases h

theorem run_eqFields_ints {xs ys : Array Value} {cs ds : List AV} (hx : IntsOf xs cs) (hy : IntsOf ys ds) (d : Nat) : ∀ (fs : List Field) (k : Nat) (r : Bool), eqFs P k fs = true → cs.length = k + fs.length → ds.length = k + fs.length →
    eqCells (cs.drop k) (ds.drop k) = some r → (Op.eqFields (d + 1) xs ys fs).run P w = .ok r w
  | [], k, r, _, hc, hd, h => by
    simp at hc hd
    rw [List.drop_of_length_le (by omega), List.drop_of_length_le (by omega)] at h
    simp only [eqCells, Option.some.injEq] at h
    subst h
    simp [Op.eqFields]
  | f :: fs, k, r, hf, hc, hd, h => by
    simp only [eqFs, Bool.and_eq_true, bne_iff_ne, beq_iff_eq] at hf
    obtain ⟨⟨⟨hn, ho⟩, hi⟩, hr⟩ := hf
    obtain ⟨q, hq⟩ := isIntT_of hi
    simp only [List.length_cons] at hc hd
    have hck : k < cs.length := by omega
    have hdk : k < ds.length := by omega
    rw [List.drop_eq_getElem_cons hck, List.drop_eq_getElem_cons hdk] at h
    obtain ⟨kk, a, b, r', ex, ey, h', rfl⟩ := eqCells_cons h
    have hxk := hx.2 k kk a (by rw [List.getElem?_eq_getElem hck, ex])
    have hyk := hy.2 k kk b (by rw [List.getElem?_eq_getElem hdk, ey])
    have ih := run_eqFields_ints hx hy d fs (k + 1) r' hr (by omega) (by omega) h'
    simp only [Op.eqFields, hn, ne_eq, not_false_eq_true, if_true, Sem.run_bind, ho, run_partInt hq hxk, run_partInt hq hyk, run_equalIn_int w d _ _ _ _ _ hq, Result.andThen_ok]
    cases hab : (a == b) with
    | true => simpa using ih
    | false => simp

theorem run_eqItems_ints {xs ys : Array Value} {cs ds : List AV} (hx : IntsOf xs cs) (hy : IntsOf ys ds) (d : Nat) {e : TypeId} {q : IntKind} (hq : P.underlying e = some (.int q)) : ∀ (n k : Nat) (r : Bool), cs.length = k + n → ds.length = k + n →
    eqCells (cs.drop k) (ds.drop k) = some r → (Op.eqItems (d + 1) e 1 xs ys (List.range' k n)).run P w = .ok r w
  | 0, k, r, hc, hd, h => by
    rw [List.drop_of_length_le (by omega), List.drop_of_length_le (by omega)] at h
    simp only [eqCells, Option.some.injEq] at h
    subst h
    simp [Op.eqItems]
  | n + 1, k, r, hc, hd, h => by
    have hck : k < cs.length := by omega
    have hdk : k < ds.length := by omega
    rw [List.drop_eq_getElem_cons hck, List.drop_eq_getElem_cons hdk] at h
    obtain ⟨kk, a, b, r', ex, ey, h', rfl⟩ := eqCells_cons h
    have hxk := hx.2 k kk a (by rw [List.getElem?_eq_getElem hck, ex])
    have hyk := hy.2 k kk b (by rw [List.getElem?_eq_getElem hdk, ey])
    have ih := run_eqItems_ints hx hy d hq n (k + 1) r' (by omega) (by omega) h'
    simp only [List.range'_succ, Op.eqItems, Sem.run_bind, Nat.mul_one, run_partInt hq hxk, run_partInt hq hyk, run_equalIn_int w d _ _ _ _ _ hq, Result.andThen_ok]
    cases hab : (a == b) with
    | true => simpa using ih
    | false => simp

/-- '==' of structs and of arrays of whole numbers. -/
theorem run_equal_ints {t : TypeId} {n : Nat} (ht : eqTy P t = some n) {xs ys : Array Value} {cs ds : List AV} (hx : IntsOf xs cs) (hy : IntsOf ys ds) (hc : cs.length = n) (hd : ds.length = n) {r : Bool} (h : eqCells cs ds = some r) :
    (Op.equal t (.agg xs) (.agg ys)).run P w = .ok r w ∧ P.eqGuardType P.depth t = false := by
  unfold eqTy at ht
  split at ht
  · rename_i fs hu
    split at ht
    · rename_i hcond
      simp only [Option.some.injEq] at ht
      subst ht
      simp only [Bool.and_eq_true, Bool.not_eq_true'] at hcond
      obtain ⟨⟨h1, h2⟩, h3⟩ := hcond
      have hf : P.fieldsOf t = fs := by simp [Program.fieldsOf, hu]
      have := run_equalIn_struct (P := P) w 9999 t xs ys (by rw [hf]; exact hu) h1
      rw [hf] at this
      exact ⟨this.trans (run_eqFields_ints hx hy 9998 fs.toList 0 r h3 (by simp [hc]) (by simp [hd]) (by simpa using h)), h2⟩
    · cases ht
  · rename_i m e hu
    split at ht
    · rename_i hcond
      simp only [Option.some.injEq] at ht
      subst ht
      simp only [Bool.and_eq_true, Bool.not_eq_true', beq_iff_eq] at hcond
      obtain ⟨⟨h1, h2⟩, h3⟩ := hcond
      obtain ⟨q, hq⟩ := isIntT_of h2
      simp only [Option.map_eq_some_iff] at h3
      obtain ⟨i, hi, hs⟩ := h3
      have := run_equalIn_array (P := P) w 9999 xs ys hu hi
      have hce : P.cellsOf e = 1 := by simp [Program.cellsOf, hi, hs]
      rw [hce, List.range_eq_range'] at this
      exact ⟨this.trans (run_eqItems_ints hx hy 9998 hq m 0 r (by omega) (by omega) (by simpa using h)), h1⟩
    · cases ht
  · cases ht

theorem eqa_sim {X : Ctx} {σ : St} {t : TypeId} {n : Nat} (ht : eqTy P t = some n) {u v : Value} {cs ds : List AV} (hu : Rep X σ w u (.agg cs)) (hv : Rep X σ w v (.agg ds)) (hc : cs.length = n) (hd : ds.length = n) {r : Bool} (h : eqCells cs ds = some r) (ox oy : Operand) :
    (do eqGuard .eql t ox oy u v; binOp .eql t u v : Sem Value).run P w = .ok (.bool r) w ∧ (do eqGuard .neq t ox oy u v; binOp .neq t u v : Sem Value).run P w = .ok (.bool (!r)) w := by
  obtain ⟨us, rfl, h1, h2⟩ := hu.aggV
  obtain ⟨vs, rfl, h3, h4⟩ := hv.aggV
  obtain ⟨he, hg⟩ := run_equal_ints (w := w) ht (ints_of h1 h2) (ints_of h3 h4) hc hd h
  have g1 : ∀ op : BinOp, (op matches .eql | .neq) = true → (eqGuard op t ox oy (.agg us) (.agg vs)).run P w = .ok () w := by
    intro op hop
    unfold eqGuard
    cases op <;> simp at hop <;> simp [hg]
  constructor
  · simp only [Sem.run_bind, g1 .eql rfl, Result.andThen_ok, binOp, he, Sem.run_pure]
  · simp only [Sem.run_bind, g1 .neq rfl, Result.andThen_ok, binOp, he, Sem.run_pure]

/-! ### Keys -/
theorem eqCells_true : ∀ {xs ys : List AV}, eqCells xs ys = some true → xs = ys
  | [], [], _ => rfl
  | [], _ :: _, h => by simp [eqCells] at h
  | x :: xs, [], h => by cases x <;> simp [eqCells] at h
  | x :: xs, y :: ys, h => by
    obtain ⟨k, a, b, r', rfl, rfl, h', he⟩ := eqCells_cons h
    have h2 := he.symm
    simp only [Bool.and_eq_true, beq_iff_eq] at h2
    obtain ⟨rfl, rfl⟩ := h2
    rw [eqCells_true h']

theorem keyEq_true {kn : Option Nat} {x y : AV} (h : keyEq kn x y = some true) : x = y := by
  cases kn <;> cases x <;> cases y <;> simp only [keyEq, reduceCtorEq] at h
  · split at h
    · rename_i hk
      simp only [Option.some.injEq, beq_iff_eq] at h
      subst hk h
      rfl
    · cases h
  · split at h
    · rw [eqCells_true h]
    · cases h

/-- '==' of keys. -/
theorem run_equal_key {X : Ctx} {σ : St} {t : TypeId} {kn : Option Nat} (ht : keyTy P t = some kn) {u v : Value} {x y : AV} (hu : Rep X σ w u x) (hv : Rep X σ w v y) {r : Bool} (h : keyEq kn x y = some r) :
    (Op.equal t u v).run P w = .ok r w := by
  unfold keyTy at ht
  split at ht
  · rename_i hi
    obtain ⟨q, hq⟩ := isIntT_of hi
    simp only [Option.some.injEq] at ht
    subst ht
    cases x <;> cases y <;> simp only [keyEq, reduceCtorEq] at h
    split at h
    · rename_i hk
      subst hk
      simp only [Option.some.injEq] at h
      subst h
      rw [hu.intV, hv.intV]
      exact run_equalIn_int w 9999 t _ _ _ _ hq
    · cases h
  · simp only [Option.map_eq_some_iff] at ht
    obtain ⟨n, hn, rfl⟩ := ht
    cases x <;> cases y <;> simp only [keyEq, reduceCtorEq] at h
    split at h
    · rename_i hl
      obtain ⟨us, rfl, h1, h2⟩ := hu.aggV
      obtain ⟨vs, rfl, h3, h4⟩ := hv.aggV
      exact (run_equal_ints (w := w) hn (ints_of h1 h2) (ints_of h3 h4) hl.1 hl.2 h).1
    · cases h

theorem run_checkKey_int {t : TypeId} {k : IntKind} (h : P.underlying t = some (.int k)) (em : Bool) (d : Nat) (q : IntKind) (n : Int) : (Instr.checkKey em (d + 1) t (.int q n)).run P w = .ok () w := by
  simp [Instr.checkKey, run_underlying h]

theorem run_checkKey_agg {t : TypeId} {n : Nat} (ht : eqTy P t = some n) {vs : Array Value} (hs : vs.size = n) (hv : ∀ (i : Nat) (v : Value), vs[i]? = some v → ∃ q n, v = .int q n) (em : Bool) (d : Nat) :
    (Instr.checkKey em (d + 1 + 1) t (.agg vs)).run P w = .ok () w := by
  unfold eqTy at ht
  split at ht
  · rename_i fs hfs
    split at ht
    · rename_i hcond
      simp only [Option.some.injEq] at ht
      simp only [Bool.and_eq_true, Bool.not_eq_true'] at hcond
      rw [Instr.checkKey]
      simp only [Sem.run_bind, run_underlying hfs, Result.andThen_ok]
      rw [← Array.forIn_toList]
      have hsz : vs.size = 0 + fs.toList.length := by simp; omega
      have hfs' := hcond.2
      clear hcond hfs
      generalize fs.toList = l at hfs' hsz
      generalize 0 = k at hfs' hsz
      induction l generalizing k with
      | nil => simp
      | cons f fs ih =>
        simp only [eqFs, Bool.and_eq_true, bne_iff_ne, beq_iff_eq] at hfs'
        obtain ⟨⟨⟨hn, ho⟩, hi⟩, hr⟩ := hfs'
        obtain ⟨q, hq⟩ := isIntT_of hi
        simp only [List.length_cons] at hsz
        obtain ⟨v, hvk⟩ := some_of_size (l := vs) (i := k) (by omega)
        obtain ⟨q', m, rfl⟩ := hv k v hvk
        have ih := ih (k + 1) hr (by omega)
        simp only [List.forIn_cons, Sem.run_bind, hn, ne_eq, not_false_eq_true, if_true, ho, run_partInt hq hvk, Result.andThen_ok, run_checkKey_int hq, Sem.run_pure]
        exact ih
    · cases ht
  · rename_i m e hu
    split at ht
    · rename_i hcond
      simp only [Option.some.injEq] at ht
      subst ht
      simp only [Bool.and_eq_true, Bool.not_eq_true', beq_iff_eq] at hcond
      obtain ⟨⟨h1, h2⟩, h3⟩ := hcond
      obtain ⟨q, hq⟩ := isIntT_of h2
      simp only [Option.map_eq_some_iff] at h3
      obtain ⟨i, hi, hsz⟩ := h3
      have hce : P.cellsOf e = 1 := by simp [Program.cellsOf, hi, hsz]
      rw [Instr.checkKey]
      simp only [Sem.run_bind, run_underlying hu, Result.andThen_ok]
      simp only [Std.Legacy.Range.forIn_eq_forIn_range', Std.Legacy.Range.size, Nat.sub_zero, Nat.add_one_sub_one, Nat.div_one]
      have hall : ∀ j ∈ List.range' 0 m, j < vs.size := by intro j hj; simp at hj; omega
      generalize List.range' 0 m = is at hall
      induction is with
      | nil => simp
      | cons j is ih =>
        have ih := ih fun x hx => hall x (by simp [hx])
        obtain ⟨v, hvk⟩ := some_of_size (l := vs) (i := j) (hall j (by simp))
        obtain ⟨q', m', rfl⟩ := hv j v hvk
        simp only [List.forIn_cons, Sem.run_bind, run_sizeOf w hi, hce, Nat.mul_one, Result.andThen_ok, run_partInt hq hvk, run_checkKey_int hq, Sem.run_pure]
        exact ih
    · cases ht
  · cases ht

theorem allInt_get : ∀ {cs : List AV}, allInt cs = true → ∀ (i : Nat) (c : AV), cs[i]? = some c → ∃ q n, c = .int q n
  | [], _, i, c, h => by simp at h
  | x :: xs, h, i, c, hc => by
    cases x <;> simp only [allInt, reduceCtorEq, Bool.false_eq_true] at h
    cases i with
    | zero => simp only [List.getElem?_cons_zero, Option.some.injEq] at hc; exact ⟨_, _, hc.symm⟩
    | succ i => exact allInt_get h i c (by simpa using hc)

/-- A key that can be asked for passes the look. -/
theorem run_checkKey_ok {X : Ctx} {σ : St} {t : TypeId} {kn : Option Nat} (ht : keyTy P t = some kn) {u : Value} {x : AV} (hu : Rep X σ w u x) (h : keyOk kn x = true) (em : Bool) :
    (Instr.checkKey em 10000 t u).run P w = .ok () w := by
  unfold keyTy at ht
  split at ht
  · rename_i hi
    obtain ⟨q, hq⟩ := isIntT_of hi
    simp only [Option.some.injEq] at ht
    subst ht
    cases x <;> simp only [keyOk, reduceCtorEq, Bool.false_eq_true] at h
    rw [hu.intV]
    exact run_checkKey_int hq em 9999 _ _
  · simp only [Option.map_eq_some_iff] at ht
    obtain ⟨n, hn, rfl⟩ := ht
    cases x with
    | agg cs =>
      simp only [keyOk, Bool.and_eq_true, beq_iff_eq] at h
      obtain ⟨us, rfl, h1, h2⟩ := hu.aggV
      refine run_checkKey_agg hn (by omega) (fun i v hvi => ?_) em 9998
      obtain ⟨c, hc⟩ := some_of_lt (l := cs) (i := i) (by have := size_of_some hvi; omega)
      obtain ⟨q, m, rfl⟩ := allInt_get h.2 i c hc
      exact ⟨q, m, (h2 i v _ hvi hc).intV⟩
    | _ => simp [keyOk] at h

/-- The entry of a key. -/
theorem run_find {X : Ctx} {σ : St} {t : TypeId} {kn : Option Nat} (ht : keyTy P t = some kn) {u : Value} {x : AV} (hu : Rep X σ w u x) : ∀ (es : List MapEntry) (ks : List AV) (n : Nat) (r : Option Nat),
    es.length = ks.length → (∀ (i : Nat) (e : MapEntry) (k : AV), es[i]? = some e → ks[i]? = some k → Rep X σ w e.key k) → findA kn x ks n = some r →
    (∃ p, (Instr.findAsking t u es n).run P w = .ok p w ∧ p.map (·.1) = r ∧ (∀ q, p = some q → n ≤ q.1 ∧ ∃ e k, es[q.1 - n]? = some e ∧ ks[q.1 - n]? = some k ∧ q.2 = e.val ∧ x = k))
  | [], [], n, r, _, _, h => by
    simp only [findA, Option.some.injEq] at h
    subst h
    exact ⟨none, by simp [Instr.findAsking], rfl, fun q h => by cases h⟩
  | e :: es, [], _, _, hl, _, _ => by simp at hl
  | [], _ :: _, _, _, hl, _, _ => by simp at hl
  | e :: es, k :: ks, n, r, hl, hk, h => by
    simp only [findA, Option.bind_eq_some_iff] at h
    obtain ⟨b, hb, h⟩ := h
    have heq := run_equal_key (w := w) ht hu (hk 0 e k rfl rfl) hb
    simp only [Instr.findAsking, Sem.run_bind, heq, Result.andThen_ok]
    cases b with
    | true =>
      simp only [if_true, Option.some.injEq] at h
      subst h
      exact ⟨some (n, e.val), by simp, rfl, fun q hq => by cases hq; exact ⟨Nat.le_refl _, e, k, by simp, by simp, rfl, keyEq_true hb⟩⟩
    | false =>
      simp only [Bool.false_eq_true, if_false] at h ⊢
      obtain ⟨p, h1, h2, h3⟩ := run_find ht hu es ks (n + 1) r (by simpa using hl) (fun i e' k' he hk' => hk (i + 1) e' k' (by simpa using he) (by simpa using hk')) h
      refine ⟨p, h1, h2, fun q hq => ?_⟩
      obtain ⟨h4, e', k', h5, h6, h7, h8⟩ := h3 q hq
      have : q.1 - n = (q.1 - (n + 1)) + 1 := by omega
      exact ⟨by omega, e', k', by rw [this]; simpa using h5, by rw [this]; simpa using h6, h7, h8⟩

theorem run_findKey {X : Ctx} {σ : St} {t : TypeId} {kn : Option Nat} (ht : keyTy P t = some kn) {u : Value} {x : AV} (hu : Rep X σ w u x) (es : List MapEntry) (ks : List AV) (r : Option Nat) (hl : es.length = ks.length)
    (hk : ∀ (i : Nat) (e : MapEntry) (k : AV), es[i]? = some e → ks[i]? = some k → Rep X σ w e.key k) (h : findA kn x ks 0 = some r) :
    ∃ p, (Instr.findKey t u es).run P w = .ok p w ∧ p.map (·.1) = r ∧ ∀ q, p = some q → ∃ e k, es[q.1]? = some e ∧ ks[q.1]? = some k ∧ q.2 = e.val ∧ x = k := by
  have ht' := ht
  unfold keyTy at ht'
  split at ht'
  · rename_i hi
    obtain ⟨q, hq⟩ := isIntT_of hi
    simp only [Option.some.injEq] at ht'
    subst ht'
    -- whole numbers: at once
    have hnow : ∀ (es : List MapEntry) (ks : List AV) (n : Nat) (r : Option Nat), es.length = ks.length → (∀ (i : Nat) (e : MapEntry) (k : AV), es[i]? = some e → ks[i]? = some k → Rep X σ w e.key k) → findA none x ks n = some r →
        ∃ p, Instr.findNow (.int q) u es n = some p ∧ p.map (·.1) = r ∧ (∀ q, p = some q → n ≤ q.1 ∧ ∃ e k, es[q.1 - n]? = some e ∧ ks[q.1 - n]? = some k ∧ q.2 = e.val ∧ x = k) := by
      intro es
      induction es with
      | nil =>
        intro ks n r hl _ h
        cases ks with
        | nil =>
          simp only [findA, Option.some.injEq] at h
          subst h
          exact ⟨none, rfl, rfl, fun q h => by cases h⟩
        | cons => simp at hl
      | cons e es ih =>
        intro ks n r hl hk h
        cases ks with
        | nil => simp at hl
        | cons k ks =>
          simp only [findA, Option.bind_eq_some_iff] at h
          obtain ⟨b, hb, h⟩ := h
          have hb' := hb
          cases x <;> cases k <;> simp only [keyEq, reduceCtorEq] at hb
          split at hb
          · rename_i hkk
            subst hkk
            have e1 := hu.intV
            have e2 := (hk 0 e _ rfl rfl).intV
            simp only [Option.some.injEq] at hb
            simp only [Instr.findNow, e1, e2, Instr.sameNow, if_true]
            cases b with
            | true =>
              rw [hb]
              simp only [if_true, Option.some.injEq] at h
              subst h
              exact ⟨some (n, e.val), rfl, rfl, fun q hq => by cases hq; exact ⟨Nat.le_refl _, e, _, by simp, by simp, rfl, keyEq_true hb'⟩⟩
            | false =>
              rw [hb]
              simp only [Bool.false_eq_true, if_false] at h
              obtain ⟨p, h1, h2, h3⟩ := ih ks (n + 1) r (by simpa using hl) (fun i e' k' he hk' => hk (i + 1) e' k' (by simpa using he) (by simpa using hk')) h
              rw [e1] at h1
              refine ⟨p, h1, h2, fun q hq => ?_⟩
              obtain ⟨h4, e', k', h5, h6, h7, h8⟩ := h3 q hq
              have : q.1 - n = (q.1 - (n + 1)) + 1 := by omega
              exact ⟨by omega, e', k', by rw [this]; simpa using h5, by rw [this]; simpa using h6, h7, h8⟩
          · cases hb
    obtain ⟨p, h1, h2, h3⟩ := hnow es ks 0 r hl hk h
    exact ⟨p, by simp only [Instr.findKey, Sem.run_bind, run_underlying hq, Result.andThen_ok, h1, Sem.run_pure], h2, fun q hq => by
      obtain ⟨_, e, k, h5, h6, h7, h8⟩ := h3 q hq
      exact ⟨e, k, by simpa using h5, by simpa using h6, h7, h8⟩⟩
  · simp only [Option.map_eq_some_iff] at ht'
    obtain ⟨n, hn, rfl⟩ := ht'
    have hwide : (match P.underlying t with | some (.array _ _) | some (.struct _) => true | _ => false) = true := by
      unfold eqTy at hn
      split at hn
      · rename_i h; rw [h]
      · rename_i h; rw [h]
      · cases hn
    obtain ⟨p, h1, h2, h3⟩ := run_find ht hu es ks 0 r hl hk h
    exact ⟨p, by rw [run_findKey_eq w hwide]; exact h1, h2, fun q hq => by
      obtain ⟨_, e, k, h5, h6, h7, h8⟩ := h3 q hq
      exact ⟨e, k, by simpa using h5, by simpa using h6, h7, h8⟩⟩

end Go.Ai

set_option linter.unusedVariables false
set_option linter.unusedSimpArgs false
namespace Go.Ai

theorem owned_box {X : Ctx} {σ : St} {b : Nat} (h : b < σ.boxes.length) : Owned X σ (X.box b).1 := .inl ⟨b, h, rfl⟩
theorem owned_tip {X : Ctx} {σ : St} {c : Nat} (h : c < σ.chains.length) : Owned X σ (X.tip c).1 := .inr (.inl ⟨c, h, rfl⟩)
theorem owned_map {X : Ctx} {σ : St} {m : Nat} (h : m < σ.maps.length) : Owned X σ (X.map m) := .inr (.inr (.inl ⟨m, h, rfl⟩))
theorem owned_loop {X : Ctx} {σ : St} {l : Nat} (h : l < σ.loops.length) : Owned X σ (X.loop l) := .inr (.inr (.inr ⟨l, h, rfl⟩))

theorem Reps.mono {X X' : Ctx} {σ σ' : St} {w w' : World} (E : Ext X X' σ σ' w w') {vs : List Value} {as : List AV} (h : Reps X σ w vs as) : Reps X' σ' w' vs as := ⟨h.1, fun i v a h1 h2 => (h.2 i v a h1 h2).mono E⟩

section
variable {C : Cfg} {X X' : Ctx} {σ : St} {w w' : World}

theorem Inv.owned_lt (H : Inv C X σ w) {g : Nat} (h : Owned X σ g) : g < w.heap.size := by
  rcases h with ⟨b, hb, rfl⟩ | ⟨c, hc, rfl⟩ | ⟨m, hm, rfl⟩ | ⟨l, hl, rfl⟩
  · obtain ⟨cs, hcs⟩ := some_of_lt hb
    obtain ⟨_, arr, T, hw, _⟩ := H.box b cs hcs
    exact size_of_some hw
  · obtain ⟨x, hx⟩ := some_of_lt hc
    obtain ⟨_, _, _, arr, T, hw, _⟩ := H.chain c x.1 x.2 hx
    exact size_of_some hw
  · obtain ⟨es, hes⟩ := some_of_lt hm
    obtain ⟨_, arr, hw, _⟩ := H.map m es hes
    exact size_of_some hw
  · obtain ⟨L, hL⟩ := some_of_lt hl
    obtain ⟨_, lp, hw, _⟩ := H.loop l L hL
    exact size_of_some hw

theorem Inv.owned_base (H : Inv C X σ w) {g : Nat} (h : Owned X σ g) : X.n0 ≤ g := by
  rcases h with ⟨b, hb, rfl⟩ | ⟨c, hc, rfl⟩ | ⟨m, hm, rfl⟩ | ⟨l, hl, rfl⟩
  · obtain ⟨cs, hcs⟩ := some_of_lt hb
    exact (H.box b cs hcs).1
  · obtain ⟨x, hx⟩ := some_of_lt hc
    exact (H.chain c x.1 x.2 hx).1
  · obtain ⟨es, hes⟩ := some_of_lt hm
    exact (H.map m es hes).1
  · obtain ⟨L, hL⟩ := some_of_lt hl
    exact (H.loop l L hL).1

/-- What is the call's own has not been touched. -/
theorem Inv.same (H : Inv C X σ w) (E : Ext X X' σ σ w w') (hown : ∀ g, Owned X σ g → w'.heap[g]? = w.heap[g]?) (hbox : X'.box = X.box) (htip : X'.tip = X.tip) (hmap : X'.map = X.map) (hloop : X'.loop = X.loop)
    (hF : ∀ g o, Owned X σ g → X'.F g o → X.F g o) (hM : ∀ g, Owned X σ g → X'.M g → X.M g) (hFs : ∀ g o, X'.F g o → g < w'.heap.size) (hMs : ∀ r, X'.M r → r < w'.heap.size) : Inv C X' σ w' where
  base := by rw [E.n0]; exact Nat.le_trans H.base E.size
  F := hFs
  M := hMs
  box b cs hb := (H.box b cs hb).keep E.toKeeps E.n0 (lt_of_some hb) (hown _ (owned_box (lt_of_some hb))) (fun o hf => hF _ o (owned_box (lt_of_some hb)) hf) rfl
  boxInj b b' hb hb' k k' h := H.boxInj b b' hb hb' k k' (by rwa [hbox] at h)
  chain c n s hc := (H.chain c n s hc).keep E.n0 (by rw [htip]) (hown _ (owned_tip (lt_of_some hc))) (fun o hf => hF _ o (owned_tip (lt_of_some hc)) hf)
  tipInj c c' hc hc' h := H.tipInj c c' hc hc' (by rwa [htip] at h)
  tipBox c b hc hb := by rw [htip, hbox]; exact H.tipBox c b hc hb
  map m es hm := (H.map m es hm).keep E.toKeeps E.n0 (lt_of_some hm) (hown _ (owned_map (lt_of_some hm))) (fun hf => hM _ (owned_map (lt_of_some hm)) hf) rfl
  mapInj m m' hm hm' h := H.mapInj m m' hm hm' (by rwa [hmap] at h)
  loop l L hl := (H.loop l L hl).keep E.toKeeps E.n0 (lt_of_some hl) (hown _ (owned_loop (lt_of_some hl)))
  loopInj l l' hl hl' h := H.loopInj l l' hl hl' (by rwa [hloop] at h)
  ro := H.ro
  mro := H.mro
  glob g cs hg := (H.glob g cs hg).mono E.grew

theorem cell_push {w : World} {o : Obj} {g j : Nat} (h : g < w.heap.size) : (w.alloc o).cell? ⟨g, j, none⟩ = w.cell? ⟨g, j, none⟩ := World.cell?_alloc_lt (w := w) (o := o) (a := ⟨g, j, none⟩) h
theorem heap_push {w : World} {o : Obj} {g : Nat} (h : g < w.heap.size) : (w.alloc o).heap[g]? = w.heap[g]? := heap_alloc_old w o h
theorem heap_new {w : World} {o : Obj} : (w.alloc o).heap[w.heap.size]? = some o := heap_alloc_new w o

/-- A new block, frozen at once (or nobody's). -/
def frozenNew (X : Ctx) (n : Nat) : Ctx := { X with F := fun g o => X.F g o ∨ g = n, M := fun r => X.M r ∨ r = n }

theorem ext_alloc (H : Inv C X σ w) (o : Obj) : Ext X (frozenNew X w.heap.size) σ σ w (w.alloc o) where
  n0 := rfl
  grew := ⟨fun g j h => cell_push (H.F g j h), fun r es c h hw => (heap_push (H.M r h)).trans hw, fun _ _ h => .inl h, fun _ h => .inl h⟩
  box _ _ := rfl
  boxes b cs h := ⟨cs, h⟩
  chains c n s h := ⟨n, h, Nat.le_refl _, fun _ => rfl⟩
  map _ _ := rfl
  maps := Nat.le_refl _
  loop _ _ := rfl
  loops := Nat.le_refl _
  size := by simp
  owned _ _ h := h
  kept g hg _ := heap_push hg
  os := rfl
  tape := rfl
  output := rfl
  newF g j h := h.imp id fun h => by subst h; exact H.base
  freshF g j h := h.imp id fun h => .inr (by subst h; exact Nat.le_refl _)
  newM g h := h.imp id fun h => by subst h; exact H.base

theorem inv_alloc (H : Inv C X σ w) (o : Obj) : Inv C (frozenNew X w.heap.size) σ (w.alloc o) :=
  H.same (ext_alloc H o) (fun g hg => heap_push (H.owned_lt hg)) rfl rfl rfl rfl
    (fun g j hg hf => hf.resolve_right (Nat.ne_of_lt (H.owned_lt hg))) (fun g hg hf => hf.resolve_right (Nat.ne_of_lt (H.owned_lt hg)))
    (fun g j hf => by rcases hf with hf | rfl <;> simp; have := H.F g j hf; omega) (fun r hf => by rcases hf with hf | rfl <;> simp; have := H.M r hf; omega)

/-- An order has been drawn. -/
theorem ext_drew (X : Ctx) (σ : St) (w : World) : Ext X X σ σ w w.drew where
  n0 := rfl
  grew := ⟨fun _ _ _ => rfl, fun _ _ _ _ h => h, fun _ _ h => h, fun _ h => h⟩
  box _ _ := rfl
  boxes b cs h := ⟨cs, h⟩
  chains c n s h := ⟨n, h, Nat.le_refl _, fun _ => rfl⟩
  map _ _ := rfl
  maps := Nat.le_refl _
  loop _ _ := rfl
  loops := Nat.le_refl _
  size := Nat.le_refl _
  owned _ _ h := h
  kept _ _ _ := rfl
  os := rfl
  tape := rfl
  output := rfl
  newF _ _ h := .inl h
  freshF _ _ h := .inl h
  newM _ h := .inl h

theorem inv_drew (H : Inv C X σ w) : Inv C X σ w.drew :=
  H.same (ext_drew X σ w) (fun _ _ => rfl) rfl rfl rfl rfl (fun _ _ _ h => h) (fun _ _ h => h) H.F H.M
end

/-! ### One operation -/
/-- What an operation comes to. -/
def Gives (C : Cfg) (X : Ctx) (σ : St) (w : World) (s : Sem Next) (P : Program) (σ' : St) (r : AV) : Prop :=
  ∃ X' w' v, (s.run P w = .ok (.value v) w' ∨ (s.run P w = .ok .skip w' ∧ v = undef)) ∧ Ext X X' σ σ' w w' ∧ Inv C X' σ' w' ∧ Rep X' σ' w' v r

theorem Gives.quiet {C : Cfg} {X : Ctx} {σ : St} {w : World} {s : Sem Next} {P : Program} {r : AV} {v : Value} (H : Inv C X σ w) (h : s.run P w = .ok (.value v) w) (hr : Rep X σ w v r) : Gives C X σ w s P σ r :=
  ⟨X, w, v, .inl h, .refl .., H, hr⟩

section
variable {C : Cfg} {X : Ctx} {σ : St} {w : World} {a : Act} {e : Env}

theorem fillA_sim {place : Nat → Option (Nat × Nat)} : ∀ (ps : List (Nat × Value)) (qs : List (Nat × Nat × AV)) (vs : Array Value) (cs ds : List AV), ps.length = qs.length →
    (∀ (i : Nat) (p : Nat × Value) (q : Nat × Nat × AV), ps[i]? = some p → qs[i]? = some q → place p.1 = some (q.1, q.2.1) ∧ Rep X σ w p.2 q.2.2) →
    vs.size = cs.length → (∀ (i : Nat) (u : Value) (c : AV), vs[i]? = some u → cs[i]? = some c → Rep X σ w u c) → fillA qs cs = some ds →
    ∃ us, Instr.fill place vs ps = some us ∧ us.size = ds.length ∧ ∀ (i : Nat) (u : Value) (c : AV), us[i]? = some u → ds[i]? = some c → Rep X σ w u c
  | [], [], vs, cs, ds, _, _, hl, hr, h => by
    simp only [fillA, Option.some.injEq] at h
    subst h
    exact ⟨vs, rfl, hl, hr⟩
  | [], _ :: _, _, _, _, h, _, _, _, _ => by simp at h
  | _ :: _, [], _, _, _, h, _, _, _, _ => by simp at h
  | p :: ps, q :: qs, vs, cs, ds, hlen, hp, hl, hr, h => by
    obtain ⟨hpl, hrep⟩ := hp 0 p q rfl rfl
    simp only [fillA] at h
    split at h
    case isFalse => cases h
    rename_i hcond
    obtain ⟨c1, c2, c3⟩ := hcond
    obtain ⟨k1, k2, _⟩ := hrep.cells c3
    have hset : ∀ (us : List Value) (n : Nat) (vs : Array Value), ((us.zipIdx n).foldl (fun (cs : Array Value) (x : Value × Nat) => cs.setIfInBounds (q.1 + x.2) x.1) vs).size = vs.size ∧
        ∀ (i : Nat), i < vs.size → ((us.zipIdx n).foldl (fun (cs : Array Value) (x : Value × Nat) => cs.setIfInBounds (q.1 + x.2) x.1) vs)[i]? = if q.1 + n ≤ i ∧ i < q.1 + n + us.length then us[i - (q.1 + n)]? else vs[i]? := by
      intro us
      induction us with
      | nil =>
        intro n vs
        refine ⟨rfl, fun i hi => ?_⟩
        rw [if_neg (by simp)]; rfl
      | cons u us ih =>
        intro n vs
        simp only [List.zipIdx_cons, List.foldl_cons]
        obtain ⟨h1, h2⟩ := ih (n + 1) (vs.setIfInBounds (q.1 + n) u)
        refine ⟨by rw [h1]; simp, fun i hi => ?_⟩
        rw [h2 i (by simpa using hi)]
        by_cases hi1 : i = q.1 + n
        · subst hi1
          rw [if_neg (by omega), if_pos (by simp only [List.length_cons]; omega)]
          simp [hi]
        · have hne : (vs.setIfInBounds (q.1 + n) u)[i]? = vs[i]? := by rw [Array.getElem?_setIfInBounds_ne]; omega
          by_cases hi2 : q.1 + (n + 1) ≤ i ∧ i < q.1 + (n + 1) + us.length
          · rw [if_pos hi2, if_pos (by simp only [List.length_cons]; omega)]
            rw [show i - (q.1 + n) = (i - (q.1 + (n + 1))) + 1 by omega, List.getElem?_cons_succ]
          · rw [if_neg hi2, hne, if_neg (by simp only [List.length_cons]; omega)]
    obtain ⟨s1, s2⟩ := hset p.2.cells.toList 0 vs
    have hzip : p.2.cells.zipIdx.foldl (fun (cs : Array Value) (x : Value × Nat) => cs.setIfInBounds (q.1 + x.2) x.1) vs = (p.2.cells.toList.zipIdx 0).foldl (fun (cs : Array Value) (x : Value × Nat) => cs.setIfInBounds (q.1 + x.2) x.1) vs := by
      rw [← Array.foldl_toList]; simp
    have hlen' : (setAt cs q.1 q.2.2.cells).length = cs.length := by simp only [setAt, List.length_append, List.length_take, List.length_drop]; omega
    obtain ⟨us, f1, f2, f3⟩ := fillA_sim (place := place) ps qs ((p.2.cells.toList.zipIdx 0).foldl (fun (cs : Array Value) (x : Value × Nat) => cs.setIfInBounds (q.1 + x.2) x.1) vs) (setAt cs q.1 q.2.2.cells) ds (by simpa using hlen)
      (fun i p' q' h1 h2 => hp (i + 1) p' q' (by simpa using h1) (by simpa using h2)) (by rw [s1, hlen', hl])
      (fun i u c hu hc => by
        have hi : i < vs.size := by have := size_of_some hu; omega
        rw [s2 i hi] at hu
        simp only [setAt] at hc
        rw [List.append_assoc] at hc
        have htl : (List.take q.1 cs).length = q.1 := by rw [List.length_take]; omega
        by_cases hin : q.1 + 0 ≤ i ∧ i < q.1 + 0 + p.2.cells.toList.length
        · rw [if_pos hin] at hu
          simp only [Array.length_toList] at hin
          rw [List.getElem?_append_right (by omega), htl, List.getElem?_append_left (by omega)] at hc
          simp only [Nat.add_zero, Array.getElem?_toList] at hu
          exact k2 _ u c hu hc
        · rw [if_neg hin] at hu
          simp only [Array.length_toList] at hin
          refine hr i u c hu ?_
          rcases Nat.lt_or_ge i q.1 with hlt | hge
          · rw [List.getElem?_append_left (by omega), List.getElem?_take, if_pos hlt] at hc
            exact hc
          · rw [List.getElem?_append_right (by omega), htl, List.getElem?_append_right (by omega), List.getElem?_drop] at hc
            rwa [show q.1 + q.2.2.cells.length + (i - q.1 - q.2.2.cells.length) = i by omega] at hc) h
    refine ⟨us, ?_, f2, f3⟩
    rw [Instr.fill, hpl]
    simp only [ne_eq, Bool.or_eq_true, decide_eq_true_eq, gt_iff_lt]
    rw [if_neg (by simp; omega), hzip]
    exact f1

end
end Go.Ai

set_option linter.unusedVariables false
set_option linter.unusedSimpArgs false
namespace Go.Ai
section
variable {C : Cfg} {X : Ctx} {σ : St} {w : World} {P : Program}

theorem run_part {t : TypeId} {a : ATy} (ht : TyOf P t a) {vs : Array Value} {cs : List AV} (hl : vs.size = cs.length) (h : ∀ (i : Nat) (u : Value) (c : AV), vs[i]? = some u → cs[i]? = some c → Rep X σ w u c) {off : Nat} {r : AV} (hp : partA (partN a) cs off = some r) :
    ∃ v, (part t vs off).run P w = .ok v w ∧ Rep X σ w v r := by
  simp only [part, Sem.run_bind, ht.isAgg, Result.andThen_ok]
  simp only [partN] at hp
  cases hk : a.kind.agg with
  | true =>
    simp only [hk, if_true, partA] at hp
    split at hp
    · rename_i hle
      simp only [Option.some.injEq] at hp
      subst hp
      refine ⟨.agg (vs.extract off (off + a.size)), by simp [ht.sizeOf], .agg _ _ (by simp; omega) fun i u c hu hc => ?_⟩
      rw [List.getElem?_take] at hc
      split at hc
      · rw [List.getElem?_drop] at hc
        rename_i hi
        have : vs[off + i]? = some u := by
          rw [Array.getElem?_extract] at hu
          split at hu
          · exact hu
          · cases hu
        exact h _ u c this hc
      · cases hc
    · cases hp
  | false =>
    simp only [hk, Bool.false_eq_true, if_false, partA] at hp
    obtain ⟨v, hv⟩ := some_of_size (l := vs) (i := off) (by have := lt_of_some hp; omega)
    exact ⟨v, by simp [hv], h off v r hv hp⟩

theorem PRep.slV {F : Nat → Nat → Prop} {M : Nat → Prop} {v : Value} {sz : Nat} {es : List AV} {c : Cap} (h : PRep w F M v (.sl sz es c)) : ∃ g o cap, ∃ val : Nat → Nat → Value, v = .slice (some ⟨g, o, none⟩) es.length cap ∧ es.length ≤ cap ∧ (c = .full → cap = es.length) ∧
    (∀ (i : Nat) (e : AV), es[i]? = some e → e.cells.length = sz) ∧ (∀ (i : Nat) (e : AV) (j : Nat) (x : AV), es[i]? = some e → e.cells[j]? = some x → w.cell? ⟨g, o + i * sz + j, none⟩ = some (val i j)) ∧
    (∀ (i : Nat) (e : AV) (j : Nat) (x : AV), es[i]? = some e → e.cells[j]? = some x → F g (o + i * sz + j)) ∧ (∀ (i : Nat) (e : AV) (j : Nat) (x : AV), es[i]? = some e → e.cells[j]? = some x → (val i j).oneCell' = true) ∧
    (∀ (i : Nat) (e : AV) (j : Nat) (x : AV), es[i]? = some e → e.cells[j]? = some x → PRep w F M (val i j) x) := by
  cases h with
  | sl g o cap _ _ _ val hc hcap hs hw hF h1 h2 =>
    exact ⟨g, o, cap, val, rfl, hcap, fun hf => by rcases hc with rfl | ⟨_, h⟩; cases hf; exact h, hs, hw, hF, h1, h2⟩

/-- What a slice leads to. -/
theorem Rep.slV {v : Value} {sz : Nat} {es : List AV} {c : Cap} (h : Rep X σ w v (.sl sz es c)) : ∃ g o cap, ∃ val : Nat → Nat → Value, v = .slice (some ⟨g, o, none⟩) es.length cap ∧ es.length ≤ cap ∧ (c = .full → cap = es.length) ∧
    (∀ (i : Nat) (e : AV), es[i]? = some e → e.cells.length = sz) ∧ (∀ (i : Nat) (e : AV) (j : Nat) (x : AV), es[i]? = some e → e.cells[j]? = some x → w.cell? ⟨g, o + i * sz + j, none⟩ = some (val i j)) ∧
    (∀ (i : Nat) (e : AV) (j : Nat) (x : AV), es[i]? = some e → e.cells[j]? = some x → X.F g (o + i * sz + j)) ∧ (∀ (i : Nat) (e : AV) (j : Nat) (x : AV), es[i]? = some e → e.cells[j]? = some x → (val i j).oneCell' = true) ∧
    (∀ (i : Nat) (e : AV) (j : Nat) (x : AV), es[i]? = some e → e.cells[j]? = some x → PRep w X.F X.M (val i j) x) := by
  cases h with
  | pure p => exact p.slV
  | chain g cap _ _ c n s hn hle ht p =>
    obtain ⟨g', o', cap', val, he, h1, h2, h3⟩ := p.slV
    exact ⟨g', o', cap', val, he, h1, (fun hf => by cases hf), h3⟩

theorem ptrAdd_sim {p : Value} {x r : AV} {n : Nat} (hp : Rep X σ w p x) (h : ptrAdd x n = some r) : ∃ ad : Addr, p = .pointer (some ad) ∧ ad.spot = none ∧ Rep X σ w (.pointer (some ⟨ad.block, ad.off + n, none⟩)) r := by
  cases x with
  | box b off =>
    simp only [ptrAdd, Option.some.injEq] at h
    subst h
    cases hp with
    | pure p => cases p
    | box _ _ hb =>
      refine ⟨_, rfl, rfl, ?_⟩
      exact .box b (off + n) hb
  | rp cs off =>
    simp only [ptrAdd, Option.some.injEq] at h
    subst h
    cases hp with
    | pure p =>
      cases p with
      | rp g o _ _ val hw hF h1 hr =>
        refine ⟨_, rfl, rfl, .pure ?_⟩
        show PRep w X.F X.M (.pointer (some ⟨g, o + off + n, none⟩)) (.rp cs (off + n))
        rw [Nat.add_assoc]
        exact .rp g o (off + n) cs val hw hF h1 hr
  | _ => simp [ptrAdd] at h

theorem add_at (ad : Addr) (hs : ad.spot = none) (n : Nat) : ad.add n = ⟨ad.block, ad.off + n, none⟩ := by
  obtain ⟨g, o, s⟩ := ad
  simp only at hs
  subst hs
  exact add_plain g o n

theorem ixa_sim {t e : TypeId} {a b : ATy} {len : Nat} (ht : TyOf P t a) (hk : a.kind = .arr len e) (hb : TyOf P e b) {p v : Value} {x i r : AV} (hp : Rep X σ w p x) (hv : Rep X σ w v i) (h : ixaA len b.size x i = some r) :
    ∃ u, (Instr.indexAt t p v).run P w = .ok u w ∧ Rep X σ w u r := by
  cases i <;> simp only [ixaA, reduceCtorEq] at h
  rename_i k n
  split at h
  case isFalse => cases h
  rename_i hn
  obtain ⟨ad, rfl, hs, hr⟩ := ptrAdd_sim hp h
  obtain rfl := hv.intV
  refine ⟨_, ?_, hr⟩
  simp only [Instr.indexAt, asIntOf, Sem.run_bind, Sem.run_pure, Result.andThen_ok, run_underlying (ht.array hk), Instr.sureAddr, hn, and_self, if_true, hb.sizeOf, add_at ad hs]

theorem ixs_sim {t e : TypeId} {a b : ATy} (ht : TyOf P t a) (hk : a.kind = .sl e) (hb : TyOf P e b) {p v : Value} {x i r : AV} (hp : Rep X σ w p x) (hv : Rep X σ w v i) (h : ixsA b.size x i = some r) :
    ∃ u, (Instr.indexAt t p v).run P w = .ok u w ∧ Rep X σ w u r := by
  cases x <;> cases i <;> simp only [ixsA, reduceCtorEq] at h
  · rename_i sz es c k n
    split at h
    case isFalse => cases h
    rename_i hn
    simp only [Option.map_eq_some_iff] at h
    obtain ⟨el, hel, rfl⟩ := h
    obtain ⟨g, o, cap, val, rfl, h1, h2, h3, h4, h5, h6, h7⟩ := hp.slV
    obtain rfl := hv.intV
    refine ⟨.pointer (some ⟨g, o + n.toNat * b.size + 0, none⟩), ?_, .pure (.rp g (o + n.toNat * b.size) 0 el.cells (fun j => val n.toNat j) ?_ ?_ ?_ ?_)⟩
    · have h0 : n < (es.length : Int) := hn.2.1
      simp only [Instr.indexAt, asIntOf, Sem.run_bind, Sem.run_pure, Result.andThen_ok, run_underlying (ht.slice hk), hn.1, h0, and_self, if_true, hb.sizeOf, add_plain, Nat.add_zero]
    · intro j y hy; rw [← hn.2.2]; exact h4 _ _ _ _ hel hy
    · intro j y hy; rw [← hn.2.2]; exact h5 _ _ _ _ hel hy
    · intro j y hy; exact h6 _ _ _ _ hel hy
    · intro j y hy; exact h7 _ _ _ _ hel hy
  · rename_i bx off len sz ag k n
    split at h
    case isFalse => cases h
    rename_i hn
    simp only [Option.some.injEq] at h
    subst h
    cases hp with
    | pure p => cases p
    | wsl _ _ _ cap _ _ cs hbx hf hcap hag =>
      obtain rfl := hv.intV
      refine ⟨_, ?_, .box bx (off + n.toNat * b.size) (lt_of_some hbx)⟩
      simp only [Instr.indexAt, asIntOf, Sem.run_bind, Sem.run_pure, Result.andThen_ok, run_underlying (ht.slice hk), hn.1, hn.2.1, and_self, if_true, hb.sizeOf, add_plain]

theorem ixv_sim {t e : TypeId} {a b : ATy} {len : Nat} (ht : TyOf P t a) (hk : a.kind = .arr len e) (hb : TyOf P e b) {p v : Value} {x i r : AV} (hp : Rep X σ w p x) (hv : Rep X σ w v i) (h : ixvA len b.size (partN b) x i = some r) :
    ∃ u, (Instr.index t p v).run P w = .ok u w ∧ Rep X σ w u r := by
  cases x <;> cases i <;> simp only [ixvA, reduceCtorEq] at h
  rename_i cs k n
  split at h
  case isFalse => cases h
  rename_i hn
  obtain ⟨vs, rfl, h1, h2⟩ := hp.aggV
  obtain rfl := hv.intV
  obtain ⟨u, hu, hr⟩ := run_part hb h1 h2 h
  refine ⟨u, ?_, hr⟩
  simp only [Instr.index, asIntOf, Sem.run_bind, Sem.run_pure, Result.andThen_ok, run_underlying (ht.array hk), hn, and_self, if_true, hb.sizeOf, hu]

theorem fad_sim {t : TypeId} {a b : ATy} {fs : List (Nat × TypeId)} {f : Nat} {q : Nat × TypeId} (ht : TyOf P t a) (hk : a.kind = .st fs) (hq : fs[f]? = some q) (hb : TyOf P q.2 b) (hz : b.size ≠ 0) {p : Value} {x r : AV} (hp : Rep X σ w p x) (h : ptrAdd x q.1 = some r) :
    ∃ u, (Instr.fieldAt t p f).run P w = .ok u w ∧ Rep X σ w u r := by
  obtain ⟨ad, rfl, hs, hr⟩ := ptrAdd_sim hp h
  obtain ⟨fields, hu, hfs⟩ := ht.struct hk
  rw [hfs] at hq
  simp only [List.getElem?_map, Option.map_eq_some_iff, Array.getElem?_toList] at hq
  obtain ⟨fl, hfl, rfl⟩ := hq
  refine ⟨_, ?_, hr⟩
  simp only [Instr.fieldAt, Sem.run_bind, run_underlying hu, Result.andThen_ok, hfl, Instr.sureAddr, Sem.run_pure, fieldPlace, hb.sizeOf, hz, if_false, add_at ad hs]

theorem fld_sim {t : TypeId} {a b : ATy} {fs : List (Nat × TypeId)} {f : Nat} {q : Nat × TypeId} (ht : TyOf P t a) (hk : a.kind = .st fs) (hq : fs[f]? = some q) (hb : TyOf P q.2 b) {p : Value} {x r : AV} (hp : Rep X σ w p x) (h : fldA (partN b) x q.1 = some r) :
    ∃ u, (Instr.field t p f).run P w = .ok u w ∧ Rep X σ w u r := by
  cases x <;> simp only [fldA, reduceCtorEq] at h
  rename_i cs
  obtain ⟨vs, rfl, h1, h2⟩ := hp.aggV
  obtain ⟨fields, hu, hfs⟩ := ht.struct hk
  rw [hfs] at hq
  simp only [List.getElem?_map, Option.map_eq_some_iff, Array.getElem?_toList] at hq
  obtain ⟨fl, hfl, rfl⟩ := hq
  obtain ⟨u, hu', hr⟩ := run_part hb h1 h2 h
  refine ⟨u, ?_, hr⟩
  simp only [Instr.field, Sem.run_bind, run_underlying hu, Result.andThen_ok, hfl, asAgg, Sem.run_pure, hu']

theorem run_bound {v : Value} {x : AV} {d n y : Nat} (hv : Rep X σ w v x) (h : boundA d (some x) = some n) (hn : n ≤ y) (code : BoundsCode) : (Instr.sliceBound v y code).run P w = .ok n w := by
  cases x <;> simp only [boundA, reduceCtorEq] at h
  rename_i k m
  split at h
  · rename_i h0
    simp only [Option.some.injEq] at h
    subst h
    rw [hv.intV]
    have : m ≤ (y : Int) := by omega
    simp [Instr.sliceBound, asIntOf, h0, this]
  · cases h

/-- An operand that may be missing. -/
def RepO (X : Ctx) (σ : St) (w : World) : Option Value → Option AV → Prop
  | none, none => True
  | some v, some x => Rep X σ w v x
  | _, _ => False

theorem run_bounds {lo hi mx : Option Value} {lo' hi' mx' : Option AV} (hl : RepO X σ w lo lo') (hh : RepO X σ w hi hi') (hm : RepO X σ w mx mx') {len cap l h m : Nat} (hlc : len ≤ cap) (e1 : boundA 0 lo' = some l) (e2 : boundA len hi' = some h) (e3 : boundA len mx' = some m)
    (hlh : l ≤ h) (hhm : h ≤ m) (hml : m ≤ len) (hmh : mx'.isSome = true → hi'.isSome = true) :
    (Instr.sliceBounds true len cap lo hi mx).run P w = .ok (l, h, if mx'.isSome then m else cap) w := by
  cases mx with
  | none =>
    cases mx' with
    | some x => exact hm.elim
    | none =>
      cases hi with
      | none =>
        cases hi' with
        | some x => exact hh.elim
        | none =>
          simp only [boundA, Option.some.injEq] at e2
          subst e2
          cases lo with
          | none =>
            cases lo' with
            | some x => exact hl.elim
            | none =>
              simp only [boundA, Option.some.injEq] at e1
              subst e1
              simp [Instr.sliceBounds]
          | some v =>
            cases lo' with
            | none => exact hl.elim
            | some x => simp [Instr.sliceBounds, run_bound hl e1 hlh]
      | some u =>
        cases hi' with
        | none => exact hh.elim
        | some y =>
          have hb := run_bound (P := P) hh e2 (show h ≤ cap by omega)
          cases lo with
          | none =>
            cases lo' with
            | some x => exact hl.elim
            | none =>
              simp only [boundA, Option.some.injEq] at e1
              subst e1
              simp [Instr.sliceBounds, hb]
          | some v =>
            cases lo' with
            | none => exact hl.elim
            | some x => simp [Instr.sliceBounds, hb, run_bound hl e1 hlh]
  | some z =>
    cases mx' with
    | none => exact hm.elim
    | some zx =>
      have hz := run_bound (P := P) hm e3 (show m ≤ cap by omega)
      cases hi' with
      | none => simp at hmh
      | some y =>
        cases hi with
        | none => exact hh.elim
        | some u =>
          have hb := run_bound (P := P) hh e2 hhm
          cases lo with
          | none =>
            cases lo' with
            | some x => exact hl.elim
            | none =>
              simp only [boundA, Option.some.injEq] at e1
              subst e1
              simp [Instr.sliceBounds, hb, hz]
          | some v =>
            cases lo' with
            | none => exact hl.elim
            | some x => simp [Instr.sliceBounds, hb, hz, run_bound hl e1 hlh]

theorem slc_sim {t e : TypeId} {a b : ATy} (ht : TyOf P t a) (hk : a.kind = .sl e) (hb : TyOf P e b) {p : Value} {x r : AV} (hp : Rep X σ w p x) {lo hi mx : Option Value} {lo' hi' mx' : Option AV} (hl : RepO X σ w lo lo') (hh : RepO X σ w hi hi') (hm : RepO X σ w mx mx')
    (hmh : mx'.isSome = true → hi'.isSome = true) (h : slcA b.size x lo' hi' mx' = some r) : ∃ u, (Instr.sliceAt t p lo hi mx).run P w = .ok u w ∧ Rep X σ w u r := by
  cases x <;> simp only [slcA, reduceCtorEq] at h
  · simp only [Option.bind_eq_some_iff] at h
    obtain ⟨l, e1, h', e2, m, e3, h⟩ := h
    split at h
    case isFalse => cases h
    rename_i hc
    simp only [Option.some.injEq] at h
    subst h
    obtain ⟨rfl, rfl, rfl⟩ := hc
    cases hp with
    | pure q =>
      cases q
      have hbd := run_bounds (P := P) hl hh hm (len := 0) (cap := 0) (Nat.le_refl _) e1 e2 e3 (Nat.le_refl _) (Nat.le_refl _) (Nat.le_refl _) hmh
      have he : (if mx'.isSome = true then 0 else 0) = 0 := by split <;> rfl
      rw [he] at hbd
      refine ⟨.slice none 0 0, ?_, .pure .nils⟩
      simp only [Instr.sliceAt, Sem.run_bind, run_underlying (ht.slice hk), Result.andThen_ok, Instr.slice, hbd, hb.sizeOf, Sem.run_pure, if_true]
  · simp only [Option.bind_eq_some_iff] at h
    obtain ⟨l, e1, h', e2, m, e3, h⟩ := h
    split at h
    case isFalse => cases h
    rename_i hc
    simp only [Option.some.injEq] at h
    subst h
    obtain ⟨rfl, rfl, rfl⟩ := hc
    cases hp with
    | pure q =>
      cases q with
      | esl a =>
        have hbd := run_bounds (P := P) hl hh hm (len := 0) (cap := 0) (Nat.le_refl _) e1 e2 e3 (Nat.le_refl _) (Nat.le_refl _) (Nat.le_refl _) hmh
        have he : (if mx'.isSome = true then 0 else 0) = 0 := by split <;> rfl
        rw [he] at hbd
        refine ⟨.slice (some a) 0 0, ?_, .pure (.esl a)⟩
        simp only [Instr.sliceAt, Sem.run_bind, run_underlying (ht.slice hk), Result.andThen_ok, Instr.slice, hbd, hb.sizeOf, Sem.run_pure, Option.map_some, if_true]
  · rename_i sz es c
    simp only [Option.bind_eq_some_iff] at h
    obtain ⟨l, e1, h', e2, m, e3, h⟩ := h
    split at h
    case isFalse => cases h
    rename_i hc
    obtain ⟨hsz, hlh, hhm, hml⟩ := hc
    simp only [Option.some.injEq] at h
    obtain ⟨g, o, cap, val, rfl, h1, h2, h3, h4, h5, h6, h7⟩ := hp.slV
    have hbd := run_bounds (P := P) hl hh hm h1 e1 e2 e3 hlh hhm hml hmh
    have hlen : ((es.take h').drop l).length = h' - l := by simp; omega
    have hget : ∀ (i : Nat) (q : AV), ((es.take h').drop l)[i]? = some q → es[l + i]? = some q := by
      intro i q hq
      rw [List.getElem?_drop, List.getElem?_take] at hq
      split at hq
      · exact hq
      · cases hq
    refine ⟨.slice (some (if (if mx'.isSome then m else cap) = l then ⟨g, o, none⟩ else ⟨g, o + l * b.size, none⟩)) (h' - l) ((if mx'.isSome then m else cap) - l), ?_, ?_⟩
    · simp only [Instr.sliceAt, Sem.run_bind, run_underlying (ht.slice hk), Result.andThen_ok, Instr.slice, hbd, hb.sizeOf, Sem.run_pure, Option.map_some, add_plain]
      generalize (if mx'.isSome = true then m else cap) = q
      by_cases hq : q = l
      · rw [if_pos hq, if_pos hq]
      · rw [if_neg hq, if_neg hq]
    · subst h
      rw [← hlen]
      have hcap : h' ≤ (if mx'.isSome then m else cap) := by split <;> omega
      have key : ∀ o', (o' = o + l * b.size ∨ h' = l) → ∀ c', (c' = Cap.no ∨ (c' = Cap.full ∧ (if mx'.isSome then m else cap) - l = ((es.take h').drop l).length)) → Rep X σ w (.slice (some ⟨g, o', none⟩) ((es.take h').drop l).length ((if mx'.isSome then m else cap) - l)) (.sl b.size ((es.take h').drop l) c') := by
        intro o' ho' c' hc'
        have hne : ∀ (i : Nat) (q : AV), ((es.take h').drop l)[i]? = some q → o' = o + l * b.size := by
          intro i q hq
          rcases ho' with h | h
          · exact h
          · have := lt_of_some hq; omega
        refine .pure (.sl g o' _ b.size _ c' (fun i j => val (l + i) j) hc' (by omega) ?_ ?_ ?_ ?_ ?_)
        · intro i q hq; rw [← hsz]; exact h3 _ _ (hget i q hq)
        · intro i q j y hq hy
          rw [hne i q hq, show o + l * b.size + i * b.size + j = o + (l + i) * sz + j by rw [Nat.add_mul, hsz]; omega]
          exact h4 _ _ _ _ (hget i q hq) hy
        · intro i q j y hq hy
          rw [hne i q hq, show o + l * b.size + i * b.size + j = o + (l + i) * sz + j by rw [Nat.add_mul, hsz]; omega]
          exact h5 _ _ _ _ (hget i q hq) hy
        · intro i q j y hq hy; exact h6 _ _ _ _ (hget i q hq) hy
        · intro i q j y hq hy; exact h7 _ _ _ _ (hget i q hq) hy
      have hcc : ∀ c', c' = (if mx'.isSome then (if m = h' then Cap.full else .no) else if c = .full ∧ h' = es.length then .full else .no) → (c' = Cap.no ∨ (c' = Cap.full ∧ (if mx'.isSome then m else cap) - l = ((es.take h').drop l).length)) := by
        intro c' hc'
        rw [hlen]
        subst hc'
        by_cases hms : mx'.isSome = true
        · simp only [hms, if_true]
          by_cases hmh' : m = h'
          · rw [if_pos hmh']; exact .inr ⟨rfl, by omega⟩
          · rw [if_neg hmh']; exact .inl rfl
        · simp only [hms, Bool.false_eq_true, if_false]
          by_cases hf : c = .full ∧ h' = es.length
          · rw [if_pos hf]; exact .inr ⟨rfl, by have := h2 hf.1; omega⟩
          · rw [if_neg hf]; exact .inl rfl
      by_cases hml' : (if mx'.isSome then m else cap) = l
      · rw [if_pos hml']
        exact key o (.inr (by omega)) _ (hcc _ rfl)
      · rw [if_neg hml']
        exact key _ (.inl rfl) _ (hcc _ rfl)
  · rename_i bx off n sz ag
    simp only [Option.bind_eq_some_iff] at h
    obtain ⟨l, e1, h', e2, m, e3, h⟩ := h
    split at h
    case isFalse => cases h
    rename_i hc
    obtain ⟨hsz, hlh, hlm, hhm, hml⟩ := hc
    simp only [Option.some.injEq] at h
    subst h
    cases hp with
    | pure p => cases p
    | wsl _ _ _ cap _ _ cs hbx hf hcap hag =>
      have hbd := run_bounds (P := P) hl hh hm hcap e1 e2 e3 hlh hhm hml hmh
      have hq : h' ≤ (if mx'.isSome then m else cap) ∧ (if mx'.isSome then m else cap) ≤ cap ∧ l < (if mx'.isSome then m else cap) := by split <;> omega
      refine ⟨.slice (some ⟨(X.box bx).1, off + l * b.size, none⟩) (h' - l) ((if mx'.isSome then m else cap) - l), ?_, ?_⟩
      · simp only [Instr.sliceAt, Sem.run_bind, run_underlying (ht.slice hk), Result.andThen_ok, Instr.slice, hbd, hb.sizeOf, Sem.run_pure, Option.map_some, add_plain]
        rw [if_neg (by omega)]
      · subst hsz
        refine .wsl bx (off + l * b.size) (h' - l) _ b.size ag cs hbx ?_ (by omega) hag
        have h1 : (l + ((if mx'.isSome then m else cap) - l)) * b.size ≤ cap * b.size := Nat.mul_le_mul_right _ (by omega)
        rw [Nat.add_mul] at h1
        omega

theorem arr_sim (H : Inv C X σ w) {t e : TypeId} {a b : ATy} {n : Nat} (ht : TyOf P t a) (hk : a.kind = .arr n e) (hb : TyOf P e b) {p : Value} {x r : AV} (hp : Rep X σ w p x) {ag : Bool} (h : arrA σ n b.size ag x = some r) :
    ∃ u, (Instr.sliceAt t p none none none).run P w = .ok u w ∧ Rep X σ w u r := by
  have hrun : ∀ ad : Addr, ad.spot = none → (Instr.sliceAt t (.pointer (some ad)) none none none).run P w = .ok (.slice (some ad) n n) w := by
    intro ad hs
    have : ad.add 0 = ad := by unfold Addr.add; simp
    simp [Instr.sliceAt, run_underlying (ht.array hk), Instr.sureAddr, Instr.sliceBounds, hb.sizeOf, this]
  cases x <;> simp only [arrA, reduceCtorEq] at h
  · rename_i bx off
    simp only [Option.bind_eq_some_iff] at h
    obtain ⟨cs, hcs, h⟩ := h
    split at h
    case isFalse => cases h
    rename_i hc
    simp only [Option.some.injEq] at h
    subst h
    cases hp with
    | pure p => cases p
    | box _ _ hbx => exact ⟨_, hrun _ rfl, .wsl bx off n n b.size ag cs hcs (by obtain ⟨_, arr, T, _, hz, _⟩ := H.box bx cs hcs; have := hc.1; omega) (Nat.le_refl _) hc.2⟩
  · rename_i cs off
    split at h
    case isFalse => cases h
    rename_i hc
    simp only [Option.some.injEq] at h
    subst h
    cases hp with
    | pure p =>
      cases p with
      | rp g o _ _ val hw hF h1 hr =>
        refine ⟨_, hrun _ rfl, .pure ?_⟩
        have hlen : n * b.size ≤ (cs.drop off).length := by simp only [List.length_drop]; omega
        have e0 : (chunk b.size ag n (cs.drop off)).length = n := chunk_length ..
        have hcell : ∀ (i : Nat) (e : AV) (j : Nat) (x : AV), (chunk b.size ag n (cs.drop off))[i]? = some e → e.cells[j]? = some x → ∃ y, cs[off + (i * b.size + j)]? = some y ∧ (x = y ∨ x = cellV y) := by
          intro i e j x he hx
          obtain ⟨_, _, h5⟩ := chunk_cells hlen hc.2 he
          obtain ⟨_, y, hy, hxy⟩ := h5 j x hx
          rw [List.getElem?_drop] at hy
          exact ⟨y, hy, hxy⟩
        have := PRep.sl (w := w) (F := X.F) (M := X.M) g (o + off) n b.size (chunk b.size ag n (cs.drop off)) .no (fun i j => val (off + (i * b.size + j))) (.inl rfl) (by rw [e0]; exact Nat.le_refl _)
          (fun i e he => (chunk_cells hlen hc.2 he).2.1)
          (fun i e j x he hx => by
            obtain ⟨y, hy, _⟩ := hcell i e j x he hx
            rw [show o + off + i * b.size + j = o + (off + (i * b.size + j)) by omega]
            exact hw _ y hy)
          (fun i e j x he hx => by
            obtain ⟨y, hy, _⟩ := hcell i e j x he hx
            rw [show o + off + i * b.size + j = o + (off + (i * b.size + j)) by omega]
            exact hF _ y hy)
          (fun i e j x he hx => by
            obtain ⟨y, hy, _⟩ := hcell i e j x he hx
            exact h1 _ y hy)
          (fun i e j x he hx => by
            obtain ⟨y, hy, hxy⟩ := hcell i e j x he hx
            exact (hr _ y hy).cell_of hxy)
        rw [e0] at this
        exact this

theorem len_sim {t e : TypeId} {a : ATy} (ht : TyOf P t a) (hk : a.kind = .sl e) {p : Value} {x r : AV} (hp : Rep X σ w p x) (h : lenA x = some r) (ty : TypeId) : ∃ u, (Builtin.len_ #[t] ty #[p]).run P w = .ok u w ∧ Rep X σ w u r := by
  cases x <;> simp only [lenA, Option.some.injEq, reduceCtorEq] at h
  · subst h
    cases hp with
    | pure q =>
      cases q
      exact ⟨.int .i64 0, by simp [Builtin.len_, run_underlying (ht.slice hk), goInt], .pure (.int ..)⟩
  · subst h
    cases hp with
    | pure q =>
      cases q
      exact ⟨.int .i64 0, by simp [Builtin.len_, run_underlying (ht.slice hk), goInt], .pure (.int ..)⟩
  · subst h
    obtain ⟨g, o, cap, val, rfl, _⟩ := hp.slV
    exact ⟨_, by simp [Builtin.len_, run_underlying (ht.slice hk), goInt], .pure (.int ..)⟩
  · subst h
    cases hp with
    | pure q => cases q
    | wsl => exact ⟨_, by simp [Builtin.len_, run_underlying (ht.slice hk), goInt], .pure (.int ..)⟩

theorem fold_sim {f : AV → AV → Option AV} {g : Value → Value → Sem Value} (hfg : ∀ {u v : Value} {x y r : AV}, Rep X σ w u x → Rep X σ w v y → f x y = some r → ∃ z, (g u v).run P w = .ok z w ∧ Rep X σ w z r) :
    ∀ (vs : List Value) (xs : List AV) (u : Value) (x r : AV), Reps X σ w vs xs → Rep X σ w u x → foldA f x xs = some r → ∃ z, (vs.foldlM g u).run P w = .ok z w ∧ Rep X σ w z r
  | [], [], u, x, r, _, hu, h => by
    simp only [foldA, Option.some.injEq] at h
    subst h
    exact ⟨u, by simp, hu⟩
  | [], _ :: _, _, _, _, h, _, _ => by simp [Reps] at h
  | _ :: _, [], _, _, _, h, _, _ => by simp [Reps] at h
  | v :: vs, y :: ys, u, x, r, hs, hu, h => by
    simp only [foldA, Option.bind_eq_some_iff] at h
    obtain ⟨z, hz, h⟩ := h
    obtain ⟨v', h1, h2⟩ := hfg hu (hs.2 0 v y rfl rfl) hz
    obtain ⟨z', h3, h4⟩ := fold_sim hfg vs ys v' z r ⟨by simpa using hs.1, fun i a b ha hb => hs.2 (i + 1) a b (by simpa using ha) (by simpa using hb)⟩ h2 h
    exact ⟨z', by simp [h1, h3], h4⟩

theorem min2_sim {u v : Value} {x y r : AV} (hu : Rep X σ w u x) (hv : Rep X σ w v y) (h : min2 x y = some r) : ∃ z, (Builtin.min2 u v).run P w = .ok z w ∧ Rep X σ w z r := by
  cases x <;> cases y <;> simp only [min2, reduceCtorEq, Option.some.injEq] at h
  subst h
  rw [hu.intV, hv.intV]
  exact ⟨_, by simp [Builtin.min2], .pure (.int ..)⟩
theorem max2_sim {u v : Value} {x y r : AV} (hu : Rep X σ w u x) (hv : Rep X σ w v y) (h : max2 x y = some r) : ∃ z, (Builtin.max2 u v).run P w = .ok z w ∧ Rep X σ w z r := by
  cases x <;> cases y <;> simp only [max2, reduceCtorEq, Option.some.injEq] at h
  subst h
  rw [hu.intV, hv.intV]
  exact ⟨_, by simp [Builtin.max2], .pure (.int ..)⟩

end
end Go.Ai

set_option linter.unusedVariables false
set_option linter.unusedSimpArgs false
namespace Go.Ai
section
variable {C : Cfg} {X : Ctx} {σ : St} {w : World}

theorem append_get {α : Type} {l : List α} {x : α} {i : Nat} {y : α} (h : (l ++ [x])[i]? = some y) : (i < l.length ∧ l[i]? = some y) ∨ (i = l.length ∧ y = x) := by
  rcases Nat.lt_or_ge i l.length with hl | hl
  · rw [List.getElem?_append_left hl] at h
    exact .inl ⟨hl, h⟩
  · have := lt_of_some h
    simp at this
    have hi : i = l.length := by omega
    subst hi
    simp at h
    exact .inr ⟨rfl, h.symm⟩

/-- The variable at block g. -/
def withBox (X : Ctx) (n : Nat) (g : Nat × Nat) : Ctx := { X with box := fun b => if b = n then g else X.box b }

theorem heapAt (w : World) (o : Obj) {r : Nat} (h : r < w.heap.size) : (w.alloc o).heap[r]? = w.heap[r]? := heap_push h

theorem new_box (H : Inv C X σ w) (vs : Array Value) (T : TypeId) (cs : List AV) (hl : cs.length ≤ vs.size) (hc : cs.all AV.isCell = true) (hr : ∀ (j : Nat) (v : Value) (c : AV), vs[j]? = some v → cs[j]? = some c → Rep X σ w v c) :
    Ext X (withBox X σ.boxes.length (w.heap.size, vs.size)) σ { σ with boxes := σ.boxes ++ [cs] } w (w.alloc (.cells vs T)) ∧ Inv C (withBox X σ.boxes.length (w.heap.size, vs.size)) { σ with boxes := σ.boxes ++ [cs] } (w.alloc (.cells vs T)) ∧
    (withBox X σ.boxes.length (w.heap.size, vs.size)).box σ.boxes.length = (w.heap.size, vs.size) := by
  have hbox : ∀ b, b < σ.boxes.length → (withBox X σ.boxes.length (w.heap.size, vs.size)).box b = X.box b := fun b hb => by
    show (if b = σ.boxes.length then (w.heap.size, vs.size) else X.box b) = X.box b
    rw [if_neg (Nat.ne_of_lt hb)]
  have hnew : (withBox X σ.boxes.length (w.heap.size, vs.size)).box σ.boxes.length = (w.heap.size, vs.size) := by
    show (if σ.boxes.length = σ.boxes.length then (w.heap.size, vs.size) else X.box σ.boxes.length) = (w.heap.size, vs.size)
    rw [if_pos rfl]
  have E : Ext X (withBox X σ.boxes.length (w.heap.size, vs.size)) σ { σ with boxes := σ.boxes ++ [cs] } w (w.alloc (.cells vs T)) :=
    { n0 := rfl
      grew := ⟨fun g j h => cell_push (H.F g j h), fun r es c h hw => (heap_push (H.M r h)).trans hw, fun _ _ h => h, fun _ h => h⟩
      box := hbox
      boxes := fun b cs' h => ⟨cs', by simpa [List.getElem?_append_left (lt_of_some h)] using h⟩
      chains := fun c n s h => ⟨n, h, Nat.le_refl _, fun _ => rfl⟩
      map := fun _ _ => rfl
      maps := Nat.le_refl _
      loop := fun _ _ => rfl
      loops := Nat.le_refl _
      size := by simp
      owned := fun g hg ho => by
        rcases ho with ⟨b, hb, rfl⟩ | h | h | h
        · simp at hb
          rcases Nat.lt_or_ge b σ.boxes.length with hlt | hge
          · rw [hbox b hlt]; exact owned_box hlt
          · have : b = σ.boxes.length := by omega
            subst this
            rw [hnew] at hg
            exact absurd hg (Nat.lt_irrefl _)
        · exact .inr (.inl h)
        · exact .inr (.inr (.inl h))
        · exact .inr (.inr (.inr h))
      kept := fun g hg _ => heap_push hg
      os := rfl
      tape := rfl
      output := rfl
      newF := fun _ _ h => .inl h
      freshF := fun _ _ h => .inl h
      newM := fun _ h => .inl h }
  have hlt : ∀ g, Owned X σ g → (w.alloc (.cells vs T)).heap[g]? = w.heap[g]? := fun g hg => heap_push (H.owned_lt hg)
  refine ⟨E, ?_, hnew⟩
  exact
    { base := by rw [World.size_alloc]; exact Nat.le_succ_of_le H.base
      F := fun g o h => by rw [World.size_alloc]; exact Nat.lt_succ_of_lt (H.F g o h)
      M := fun r h => by rw [World.size_alloc]; exact Nat.lt_succ_of_lt (H.M r h)
      box := fun b cs' hb => by
        rcases append_get hb with ⟨hlt', hb'⟩ | ⟨rfl, rfl⟩
        · exact (H.box b cs' hb').keep E.toKeeps rfl hlt' (hlt _ (owned_box hlt')) (fun o h => h) rfl
        · unfold BoxOk
          rw [hnew]
          refine ⟨H.base, vs, T, heap_new, ⟨hl, rfl⟩, hc, fun j v c hv hc' => (hr j v c hv hc').keep E.toKeeps, fun _ o hf => absurd (H.F _ o hf) (Nat.lt_irrefl _), fun hro => absurd hro (Nat.not_lt.2 H.ro)⟩
      boxInj := fun b b' hb hb' kb kb' h => by
        simp at hb hb'
        rcases Nat.lt_or_ge b σ.boxes.length with h1 | h1 <;> rcases Nat.lt_or_ge b' σ.boxes.length with h2 | h2
        · rw [hbox b h1, hbox b' h2] at h; exact H.boxInj b b' h1 h2 (by rwa [List.getElem?_append_left h1] at kb) (by rwa [List.getElem?_append_left h2] at kb') h
        · have : b' = σ.boxes.length := by omega
          subst this
          rw [hbox b h1, hnew] at h
          exact absurd (H.owned_lt (owned_box h1)) (by rw [h]; exact Nat.lt_irrefl _)
        · have : b = σ.boxes.length := by omega
          subst this
          rw [hbox b' h2, hnew] at h
          exact absurd (H.owned_lt (owned_box h2)) (by rw [← h]; exact Nat.lt_irrefl _)
        · omega
      chain := fun c n s hc' => (H.chain c n s hc').keep rfl rfl (hlt _ (owned_tip (lt_of_some hc'))) (fun o h => h)
      tipInj := H.tipInj
      tipBox := fun c b hc' hb h => by
        simp at hb
        rcases Nat.lt_or_ge b σ.boxes.length with h1 | h1
        · rw [hbox b h1] at h; exact H.tipBox c b hc' h1 h
        · have : b = σ.boxes.length := by omega
          subst this
          rw [hnew] at h
          have h3 := H.owned_lt (owned_tip hc')
          have h4 : (X.tip c).1 = w.heap.size := h
          omega
      map := fun m es hm => (H.map m es hm).keep E.toKeeps rfl (lt_of_some hm) (hlt _ (owned_map (lt_of_some hm))) (fun h => h) rfl
      mapInj := H.mapInj
      loop := fun l L hl' => (H.loop l L hl').keep E.toKeeps rfl (lt_of_some hl') (hlt _ (owned_loop (lt_of_some hl')))
      loopInj := H.loopInj
      ro := by simp; exact Nat.le_succ_of_le H.ro
      mro := H.mro
      glob := fun g cs' hg => (H.glob g cs' hg).mono E.grew }

/-- A store into a variable. -/
theorem set_box (H : Inv C X σ w) {b : Nat} {cs : List AV} (hb : σ.boxes[b]? = some cs) (hro : σ.ro ≤ b) {off : Nat} {vs : List Value} {ds : List AV} (hl : vs.length = ds.length) (hfit : off + ds.length ≤ cs.length) (hc : ds.all AV.isCell = true)
    (hr : ∀ (j : Nat) (v : Value) (c : AV), vs[j]? = some v → ds[j]? = some c → Rep X σ w v c) {arr : Array Value} {T : TypeId} (hh : w.heap[(X.box b).1]? = some (.cells arr T (0, 0))) :
    Ext X X σ { σ with boxes := σ.boxes.set b (setAt cs off ds) } w (w.setRow (X.box b).1 (arr.toList.take off ++ vs ++ arr.toList.drop (off + vs.length)).toArray) ∧
    Inv C X { σ with boxes := σ.boxes.set b (setAt cs off ds) } (w.setRow (X.box b).1 (arr.toList.take off ++ vs ++ arr.toList.drop (off + vs.length)).toArray) := by
  have hblt := lt_of_some hb
  obtain ⟨k0, arr', T', k1, k2, k3, k4, k5, k6⟩ := H.box b cs hb
  rw [hh] at k1
  injection k1 with k1
  injection k1 with ka kT
  subst ka kT
  have hset : (setAt cs off ds).length = cs.length := by simp only [setAt, List.length_append, List.length_take, List.length_drop]; omega
  have hlive : ∀ i, (σ.boxes.set b (setAt cs off ds))[i]? ≠ some [] → σ.boxes[i]? ≠ some [] := fun i hi hn => by
    by_cases hbi : b = i
    · subst hbi
      rw [hb] at hn
      cases hn
      refine hi ?_
      rw [List.getElem?_set_self hblt]
      exact congrArg some (List.eq_nil_of_length_eq_zero (by rw [hset]; rfl))
    · exact hi (by rw [List.getElem?_set_ne hbi]; exact hn)
  have hother : ∀ g, g ≠ (X.box b).1 → (w.setRow (X.box b).1 (arr.toList.take off ++ vs ++ arr.toList.drop (off + vs.length)).toArray).heap[g]? = w.heap[g]? := fun g hg => setRow_other w _ g _ hg
  have E : Ext X X σ { σ with boxes := σ.boxes.set b (setAt cs off ds) } w (w.setRow (X.box b).1 (arr.toList.take off ++ vs ++ arr.toList.drop (off + vs.length)).toArray) :=
    { n0 := rfl
      grew := ⟨fun g j h => by
          have hne : g ≠ (X.box b).1 := fun e => k5 hro j (e ▸ h)
          simp only [World.cell?, hother g hne], (fun r es c h hw => by
          refine (hother r fun e => ?_).trans hw
          subst e
          rw [hh] at hw
          cases hw), fun _ _ h => h, fun _ h => h⟩
      box := fun _ _ => rfl
      boxes := fun b' cs' h => by
        by_cases hbb : b' = b
        · subst hbb
          rw [hb] at h
          cases h
          exact ⟨setAt cs off ds, by simp [hblt]⟩
        · exact ⟨cs', by simp [List.getElem?_set_ne (Ne.symm hbb), h]⟩
      chains := fun c n s h => ⟨n, h, Nat.le_refl _, fun _ => rfl⟩
      map := fun _ _ => rfl
      maps := Nat.le_refl _
      loop := fun _ _ => rfl
      loops := Nat.le_refl _
      size := by simp
      owned := fun g hg ho => by
        rcases ho with ⟨b', hb', rfl⟩ | h | h | h
        · simp at hb'
          exact owned_box hb'
        · exact .inr (.inl h)
        · exact .inr (.inr (.inl h))
        · exact .inr (.inr (.inr h))
      kept := fun g hg hno => hother g fun e => hno (e ▸ owned_box hblt)
      os := rfl
      tape := rfl
      output := rfl
      newF := fun _ _ h => .inl h
      freshF := fun _ _ h => .inl h
      newM := fun _ h => .inl h }
  have howned : ∀ g, Owned X σ g → g ≠ (X.box b).1 → (w.setRow (X.box b).1 (arr.toList.take off ++ vs ++ arr.toList.drop (off + vs.length)).toArray).heap[g]? = w.heap[g]? := fun g _ hg => hother g hg
  refine ⟨E, ?_⟩
  exact
    { base := by simp; exact H.base
      F := fun g o h => by simp; exact H.F g o h
      M := fun r h => by simp; exact H.M r h
      box := fun b' cs' hb' => by
        by_cases hbb : b' = b
        · subst hbb
          simp only [List.getElem?_set, hblt, if_true, Option.some.injEq] at hb'
          subst hb'
          refine ⟨k0, _, T, setRow_heap w _ arr _ T _ hh, ?_, ?_, ?_, fun h => k5 h, fun h => absurd h (Nat.not_lt.2 hro)⟩
          · rw [hset]; simp only [List.size_toArray, List.length_append, List.length_take, List.length_drop, Array.length_toList]; omega
          · simp only [setAt, List.all_append, Bool.and_eq_true]
            refine ⟨⟨?_, hc⟩, ?_⟩
            · rw [List.all_eq_true] at k3 ⊢; exact fun x hx => k3 x (List.mem_of_mem_take hx)
            · rw [List.all_eq_true] at k3 ⊢; exact fun x hx => k3 x (List.mem_of_mem_drop hx)
          · intro j v c hv hcj
            have hj : j < cs.length := by have := lt_of_some hcj; omega
            have htl : (cs.take off).length = off := by rw [List.length_take]; omega
            have htl' : (arr.toList.take off).length = off := by rw [List.length_take, Array.length_toList]; omega
            simp only [List.getElem?_toArray] at hv
            simp only [setAt] at hcj
            rw [List.append_assoc] at hv hcj
            refine Rep.keep E.toKeeps ?_
            rcases Nat.lt_or_ge j off with h1 | h1
            · rw [List.getElem?_append_left (by omega), List.getElem?_take, if_pos h1] at hv hcj
              exact k4 j v c (by simpa using hv) hcj
            · rw [List.getElem?_append_right (by omega)] at hv hcj
              rw [htl'] at hv
              rw [htl] at hcj
              rcases Nat.lt_or_ge (j - off) ds.length with h2 | h2
              · rw [List.getElem?_append_left (by omega)] at hv hcj
                exact hr _ v c hv hcj
              · rw [List.getElem?_append_right (by omega), List.getElem?_drop] at hv hcj
                rw [show off + vs.length + (j - off - vs.length) = j by omega] at hv
                rw [show off + ds.length + (j - off - ds.length) = j by omega] at hcj
                exact k4 j v c (by simpa using hv) hcj
        · have hb'' : σ.boxes[b']? = some cs' := by simpa [List.getElem?_set_ne (Ne.symm hbb)] using hb'
          by_cases hl : (X.box b').1 = (X.box b).1
          · by_cases hcs : cs = []
            · subst hcs
              have e1 : off = 0 := by have := hfit; simp only [List.length_nil] at this; omega
              have e2 : vs = [] := List.eq_nil_of_length_eq_zero (by have := hfit; simp only [List.length_nil] at this; omega)
              subst e1
              have e3 : ((List.take 0 arr.toList ++ vs ++ List.drop (0 + vs.length) arr.toList).toArray) = arr := by rw [e2]; simp
              exact (H.box b' cs' hb'').keep E.toKeeps rfl (lt_of_some hb'') (by rw [hl, setRow_heap w _ arr _ T _ hh, hh, e3]) (fun o h => h) rfl
            have hnil : cs' = [] := by
              rcases cs' with _ | ⟨a, l⟩
              · rfl
              · exact absurd (H.boxInj b' b (lt_of_some hb'') hblt (by rw [hb'']; simp) (fun hn => by rw [hb] at hn; cases hn; exact hcs rfl) hl) hbb
            subst hnil
            obtain ⟨q0, arrq, Tq, q1, q2, q3, q4, q5, q6⟩ := H.box b' [] hb''
            refine ⟨q0, _, T, by rw [hl]; exact setRow_heap w _ arr _ T _ hh, ⟨Nat.zero_le _, ?_⟩, rfl, fun j v c hv hc => by simp at hc, q5, fun _ o ho => by simp at ho⟩
            rw [hl, hh] at q1
            injection q1 with q1
            injection q1 with qa _
            subst qa
            rw [← q2.2]
            simp only [List.size_toArray, List.length_append, List.length_take, List.length_drop, Array.length_toList]; omega
          · exact (H.box b' cs' hb'').keep E.toKeeps rfl (lt_of_some hb'') (hother _ hl) (fun o h => h) rfl
      boxInj := fun b1 b2 h1 h2 k1 k2 h => H.boxInj b1 b2 (by simpa using h1) (by simpa using h2) (hlive b1 k1) (hlive b2 k2) h
      chain := fun c n s hc' => (H.chain c n s hc').keep rfl rfl (hother _ (H.tipBox c b (lt_of_some hc') hblt)) (fun o h => h)
      tipInj := H.tipInj
      tipBox := fun c b' hc' hb' => H.tipBox c b' hc' (by simpa using hb')
      map := fun m es hm => by
        have hm' := H.map m es hm
        refine hm'.keep E.toKeeps rfl (lt_of_some hm) (hother _ fun e => ?_) (fun h => h) rfl
        obtain ⟨_, arr', hw, _⟩ := hm'
        rw [e, hh] at hw
        cases hw
      mapInj := H.mapInj
      loop := fun l L hl' => by
        have hL := H.loop l L hl'
        refine hL.keep E.toKeeps rfl (lt_of_some hl') (hother _ fun e => ?_)
        obtain ⟨_, lp, hw, _⟩ := hL
        rw [e, hh] at hw
        cases hw
      loopInj := H.loopInj
      ro := by simp; exact H.ro
      mro := H.mro
      glob := fun g cs' hg => (H.glob g cs' hg).mono E.grew }

/-- What a chain's row says of a slice. -/
theorem chain_rep {X' : Ctx} {σ' : St} {w' : World} {g cap sz c : Nat} {es : List AV} {arr : Array Value} {T : TypeId} (hh : w'.heap[g]? = some (.cells arr T (0, 0))) (hcap : es.length ≤ cap) (harr : arr.size = cap * sz)
    (hs : ∀ (i : Nat) (e : AV), es[i]? = some e → e.cells.length = sz) (hF : ∀ o, o < es.length * sz → X'.F g o)
    (hr : ∀ (i : Nat) (e : AV) (j : Nat) (x : AV), es[i]? = some e → e.cells[j]? = some x → ∃ v, arr[i * sz + j]? = some v ∧ v.oneCell' = true ∧ PRep w' X'.F X'.M v x)
    (hch : σ'.chains[c]? = some (es.length, sz)) (ht : X'.tip c = (g, cap)) : Rep X' σ' w' (.slice (some ⟨g, 0, none⟩) es.length cap) (.sl sz es (.chain c)) := by
  refine .chain g cap sz es c es.length sz hch (Nat.le_refl _) (fun _ => ⟨ht, rfl⟩) ?_
  refine .sl g 0 cap sz es .no (fun i j => (arr[i * sz + j]?).getD undef) (.inl rfl) hcap hs (fun i e j x he hx => ?_) (fun i e j x he hx => ?_) (fun i e j x he hx => ?_) (fun i e j x he hx => ?_)
  · obtain ⟨v, hv, _⟩ := hr i e j x he hx
    rw [Nat.zero_add, cell_at hh hv, hv]; rfl
  · rw [Nat.zero_add]
    refine hF _ ?_
    have h1 := lt_of_some he
    have h2 := lt_of_some hx
    rw [hs i e he] at h2
    have : (i + 1) * sz ≤ es.length * sz := Nat.mul_le_mul_right _ h1
    rw [Nat.add_mul, Nat.one_mul] at this
    omega
  · obtain ⟨v, hv, h1, _⟩ := hr i e j x he hx
    rw [hv]; exact h1
  · obtain ⟨v, hv, _, h2⟩ := hr i e j x he hx
    rw [hv]; exact h2

/-- The tip of a chain moves to a new block, part of which is frozen. -/
def withTip (X : Ctx) (c g cap n : Nat) : Ctx := { X with tip := fun i => if i = c then (g, cap) else X.tip i, F := fun h o => X.F h o ∨ (h = g ∧ o < n) }

theorem withTip_tip (X : Ctx) (c g cap n : Nat) : (withTip X c g cap n).tip c = (g, cap) := by show (if c = c then (g, cap) else X.tip c) = (g, cap); rw [if_pos rfl]
theorem withTip_ne {X : Ctx} {c g cap n i : Nat} (h : i ≠ c) : (withTip X c g cap n).tip i = X.tip i := by show (if i = c then (g, cap) else X.tip i) = X.tip i; rw [if_neg h]

/-- A chain's row in a new block: a new chain, or one whose row has moved. -/
theorem move_chain (H : Inv C X σ w) {c : Nat} {chs : List (Nat × Nat)} {arr : Array Value} {T : TypeId} {n sz cap : Nat} (hc : c ≤ σ.chains.length) (hchs : ∀ i x, i ≠ c → (chs[i]? = some x ↔ σ.chains[i]? = some x)) (hcn : chs[c]? = some (n, sz))
    (hold : ∀ m s, σ.chains[c]? = some (m, s) → m < n ∧ s = sz) (hsz : 0 < sz) (hcap : n ≤ cap) (harr : arr.size = cap * sz) :
    Ext X (withTip X c w.heap.size cap (n * sz)) σ { σ with chains := chs } w (w.alloc (.cells arr T)) ∧ Inv C (withTip X c w.heap.size cap (n * sz)) { σ with chains := chs } (w.alloc (.cells arr T)) := by
  have hcl : ∀ i, i < chs.length → i < σ.chains.length ∨ i = c := by
    intro i hi
    obtain ⟨x, hx⟩ := some_of_lt hi
    by_cases hic : i = c
    · exact .inr hic
    · exact .inl (lt_of_some ((hchs i x hic).1 hx))
  have E : Ext X (withTip X c w.heap.size cap (n * sz)) σ { σ with chains := chs } w (w.alloc (.cells arr T)) :=
    { n0 := rfl
      grew := ⟨fun g j h => cell_push (H.F g j h), fun r es k h hw => (heap_push (H.M r h)).trans hw, fun _ _ h => .inl h, fun _ h => h⟩
      box := fun _ _ => rfl
      boxes := fun b cs h => ⟨cs, h⟩
      chains := fun i m s h => by
        by_cases hic : i = c
        · subst hic
          obtain ⟨h1, rfl⟩ := hold m s h
          exact ⟨n, hcn, Nat.le_of_lt h1, fun he => absurd he (Nat.ne_of_gt h1)⟩
        · exact ⟨m, (hchs i _ hic).2 h, Nat.le_refl _, fun _ => withTip_ne hic⟩
      map := fun _ _ => rfl
      maps := Nat.le_refl _
      loop := fun _ _ => rfl
      loops := Nat.le_refl _
      size := by simp
      owned := fun g hg ho => by
        rcases ho with h | ⟨i, hi, rfl⟩ | h | h
        · exact .inl h
        · by_cases hic : i = c
          · subst hic
            rw [withTip_tip] at hg
            exact absurd hg (Nat.lt_irrefl _)
          · rw [withTip_ne hic]
            rcases hcl i hi with h | h
            · exact owned_tip h
            · exact absurd h hic
        · exact .inr (.inr (.inl h))
        · exact .inr (.inr (.inr h))
      kept := fun g hg _ => heap_push hg
      os := rfl
      tape := rfl
      output := rfl
      newF := fun h o hf => hf.imp id fun hf => by have := H.base; omega
      freshF := fun h o hf => hf.imp id fun hf => .inr (by rw [hf.1]; exact Nat.le_refl _)
      newM := fun _ h => .inl h }
  have hlt : ∀ g, Owned X σ g → (w.alloc (.cells arr T)).heap[g]? = w.heap[g]? := fun g hg => heap_push (H.owned_lt hg)
  have hFo : ∀ g, Owned X σ g → ∀ o, (withTip X c w.heap.size cap (n * sz)).F g o → X.F g o := fun g hg o h => by
    rcases h with h | ⟨rfl, _⟩
    · exact h
    · exact absurd (H.owned_lt hg) (Nat.lt_irrefl _)
  refine ⟨E, ?_⟩
  exact
    { base := by rw [World.size_alloc]; exact Nat.le_succ_of_le H.base
      F := fun g o h => by
        rw [World.size_alloc]
        rcases h with h | ⟨rfl, _⟩
        · exact Nat.lt_succ_of_lt (H.F g o h)
        · exact Nat.lt_succ_self _
      M := fun r h => by rw [World.size_alloc]; exact Nat.lt_succ_of_lt (H.M r h)
      box := fun b cs hb => (H.box b cs hb).keep E.toKeeps rfl (lt_of_some hb) (hlt _ (owned_box (lt_of_some hb))) (hFo _ (owned_box (lt_of_some hb))) rfl
      boxInj := H.boxInj
      chain := fun i m s hi => by
        by_cases hic : i = c
        · subst hic
          have : (m, s) = (n, sz) := by have h2 := hcn; rw [show ({ σ with chains := chs } : St).chains = chs from rfl] at hi; rw [hi] at h2; exact Option.some.inj h2
          cases this
          unfold ChainOk
          rw [withTip_tip]
          refine ⟨H.base, hsz, hcap, arr, T, heap_new, harr, fun o ho hf => ?_⟩
          rcases hf with hf | ⟨_, hf⟩
          · exact absurd (H.F _ o hf) (Nat.lt_irrefl _)
          · omega
        · have hi' := (hchs i _ hic).1 hi
          exact (H.chain i m s hi').keep rfl (withTip_ne hic) (hlt _ (owned_tip (lt_of_some hi'))) (hFo _ (owned_tip (lt_of_some hi')))
      tipInj := fun i j hi hj h => by
        by_cases h1 : i = c <;> by_cases h2 : j = c
        · omega
        · subst h1
          rw [withTip_tip, withTip_ne h2] at h
          have h3 := H.owned_lt (owned_tip ((hcl j hj).resolve_right h2))
          rw [← h] at h3
          exact absurd h3 (Nat.lt_irrefl _)
        · subst h2
          rw [withTip_tip, withTip_ne h1] at h
          have h3 := H.owned_lt (owned_tip ((hcl i hi).resolve_right h1))
          rw [h] at h3
          exact absurd h3 (Nat.lt_irrefl _)
        · rw [withTip_ne h1, withTip_ne h2] at h
          exact H.tipInj i j ((hcl i hi).resolve_right h1) ((hcl j hj).resolve_right h2) h
      tipBox := fun i b hi hb h => by
        by_cases h1 : i = c
        · subst h1
          rw [withTip_tip] at h
          have h3 := H.owned_lt (owned_box hb)
          have h4 : w.heap.size = (X.box b).1 := h
          omega
        · rw [withTip_ne h1] at h
          exact H.tipBox i b ((hcl i hi).resolve_right h1) hb h
      map := fun m es hm => (H.map m es hm).keep E.toKeeps rfl (lt_of_some hm) (hlt _ (owned_map (lt_of_some hm))) (fun h => h) rfl
      mapInj := H.mapInj
      loop := fun l L hl' => (H.loop l L hl').keep E.toKeeps rfl (lt_of_some hl') (hlt _ (owned_loop (lt_of_some hl')))
      loopInj := H.loopInj
      ro := H.ro
      mro := H.mro
      glob := fun g cs' hg => (H.glob g cs' hg).mono E.grew }

/-- More of a chain's row is frozen. -/
def withF (X : Ctx) (g n : Nat) : Ctx := { X with F := fun h o => X.F h o ∨ (h = g ∧ o < n) }

/-- A chain's row grows where it lies. -/
theorem grow_chain (H : Inv C X σ w) {c m n sz g cap : Nat} (hcm : σ.chains[c]? = some (m, sz)) (ht : X.tip c = (g, cap)) (hmn : m < n) (hn : n ≤ cap) {arr arr' : Array Value} {T : TypeId} (hh : w.heap[g]? = some (.cells arr T (0, 0))) (hsize : arr'.size = arr.size)
    (hsame : ∀ o, o < m * sz → arr'[o]? = arr[o]?) :
    Ext X (withF X g (n * sz)) σ { σ with chains := σ.chains.set c (n, sz) } w (w.setRow g arr') ∧ Inv C (withF X g (n * sz)) { σ with chains := σ.chains.set c (n, sz) } (w.setRow g arr') := by
  have hclt := lt_of_some hcm
  obtain ⟨k0, k1, k2, arr0, T0, k3, k4, k5⟩ := H.chain c m sz hcm
  rw [ht] at k0 k2 k3 k4 k5
  have e0 : (g, cap).1 = g := rfl
  rw [e0, hh] at k3
  injection k3 with k3
  injection k3 with ka kT
  subst ka kT
  have hother : ∀ h, h ≠ g → (w.setRow g arr').heap[h]? = w.heap[h]? := fun h hne => setRow_other w _ h _ hne
  have htg : (X.tip c).1 = g := by rw [ht]
  have hget : ∀ (i : Nat) (x : Nat × Nat), i ≠ c → ((σ.chains.set c (n, sz))[i]? = some x ↔ σ.chains[i]? = some x) := fun i x hic => by rw [List.getElem?_set_ne (Ne.symm hic)]
  have E : Ext X (withF X g (n * sz)) σ { σ with chains := σ.chains.set c (n, sz) } w (w.setRow g arr') :=
    { n0 := rfl
      grew := ⟨(fun h j hf => by
          by_cases hg : h = g
          · subst hg
            have hj : j < m * sz := by
              rcases Nat.lt_or_ge j (m * sz) with h1 | h1
              · exact h1
              · exact absurd hf (k5 j h1)
            simp only [World.cell?, setRow_heap w _ arr arr' T _ hh, hh]
            exact hsame j hj
          · simp only [World.cell?, hother h hg]), (fun r es k hM hw => by
          refine (hother r fun e => ?_).trans hw
          subst e
          rw [hh] at hw
          cases hw), fun _ _ h => .inl h, fun _ h => h⟩
      box := fun _ _ => rfl
      boxes := fun b cs h => ⟨cs, h⟩
      chains := fun i m' s h => by
        by_cases hic : i = c
        · subst hic
          rw [hcm] at h
          cases h
          exact ⟨n, by simp [hclt], Nat.le_of_lt hmn, fun he => absurd he (Nat.ne_of_gt hmn)⟩
        · exact ⟨m', (hget i _ hic).2 h, Nat.le_refl _, fun _ => rfl⟩
      map := fun _ _ => rfl
      maps := Nat.le_refl _
      loop := fun _ _ => rfl
      loops := Nat.le_refl _
      size := by simp
      owned := fun h hg ho => by
        rcases ho with h' | ⟨i, hi, rfl⟩ | h' | h'
        · exact .inl h'
        · exact owned_tip (by simpa using hi)
        · exact .inr (.inr (.inl h'))
        · exact .inr (.inr (.inr h'))
      kept := fun h _ hno => hother h fun e => hno (by rw [e, ← htg]; exact owned_tip hclt)
      os := rfl
      tape := rfl
      output := rfl
      newF := fun h o hf => hf.imp id fun hf => by have : X.n0 ≤ (g, cap).1 := k0; rw [hf.1]; exact this
      freshF := fun h o hf => hf.imp id fun hf => .inl (by rw [hf.1, ← htg]; exact owned_tip hclt)
      newM := fun _ h => .inl h }
  refine ⟨E, ?_⟩
  exact
    { base := by simp; exact H.base
      F := fun h o hf => by
        simp
        rcases hf with hf | ⟨rfl, _⟩
        · exact H.F h o hf
        · exact size_of_some hh
      M := fun r h => by simp; exact H.M r h
      box := fun b cs hb => by
        have hne : (X.box b).1 ≠ g := fun e => H.tipBox c b hclt (lt_of_some hb) (by rw [htg, e])
        exact (H.box b cs hb).keep E.toKeeps rfl (lt_of_some hb) (hother _ hne) (fun o hf => hf.resolve_right fun h => hne h.1) rfl
      boxInj := H.boxInj
      chain := fun i m' s hi => by
        by_cases hic : i = c
        · subst hic
          simp only [List.getElem?_set, hclt, if_true, Option.some.injEq, Prod.mk.injEq] at hi
          obtain ⟨rfl, rfl⟩ := hi
          have ht' : (withF X g (n * sz)).tip i = (g, cap) := ht
          unfold ChainOk
          rw [ht']
          refine ⟨k0, k1, hn, arr', T, setRow_heap w _ arr _ T _ hh, by rw [hsize]; exact k4, fun o ho hf => ?_⟩
          rcases hf with hf | ⟨_, hf⟩
          · refine k5 o (Nat.le_trans (Nat.mul_le_mul_right _ (Nat.le_of_lt hmn)) ho) hf
          · omega
        · have hi' := (hget i _ hic).1 hi
          have hne : (X.tip i).1 ≠ g := fun e => hic (H.tipInj i c (lt_of_some hi') hclt (by rw [htg, e]))
          exact (H.chain i m' s hi').keep rfl rfl (hother _ hne) (fun o hf => hf.resolve_right fun h => hne h.1)
      tipInj := fun i j hi hj h => H.tipInj i j (by simpa using hi) (by simpa using hj) h
      tipBox := fun i b hi hb => H.tipBox i b (by simpa using hi) hb
      map := fun m' es hm => by
        have hm' := H.map m' es hm
        refine hm'.keep E.toKeeps rfl (lt_of_some hm) (hother _ fun e => ?_) (fun h => h) rfl
        obtain ⟨_, a', hw, _⟩ := hm'
        rw [e, hh] at hw
        cases hw
      mapInj := H.mapInj
      loop := fun l L hl' => by
        have hL := H.loop l L hl'
        refine hL.keep E.toKeeps rfl (lt_of_some hl') (hother _ fun e => ?_)
        obtain ⟨_, lp, hw, _⟩ := hL
        rw [e, hh] at hw
        cases hw
      loopInj := H.loopInj
      ro := H.ro
      mro := H.mro
      glob := fun g cs' hg => (H.glob g cs' hg).mono E.grew }

/-- The map at block g. -/
def withMap (X : Ctx) (n g : Nat) : Ctx := { X with map := fun b => if b = n then g else X.map b }

theorem new_map (H : Inv C X σ w) : Ext X (withMap X σ.maps.length w.heap.size) σ { σ with maps := σ.maps ++ [([], [])] } w (w.alloc (.map #[] 0)) ∧ Inv C (withMap X σ.maps.length w.heap.size) { σ with maps := σ.maps ++ [([], [])] } (w.alloc (.map #[] 0)) ∧
    (withMap X σ.maps.length w.heap.size).map σ.maps.length = w.heap.size := by
  have hmap : ∀ b, b < σ.maps.length → (withMap X σ.maps.length w.heap.size).map b = X.map b := fun b hb => by
    show (if b = σ.maps.length then w.heap.size else X.map b) = X.map b
    rw [if_neg (Nat.ne_of_lt hb)]
  have hnew : (withMap X σ.maps.length w.heap.size).map σ.maps.length = w.heap.size := by
    show (if σ.maps.length = σ.maps.length then w.heap.size else X.map σ.maps.length) = w.heap.size
    rw [if_pos rfl]
  have E : Ext X (withMap X σ.maps.length w.heap.size) σ { σ with maps := σ.maps ++ [([], [])] } w (w.alloc (.map #[] 0)) :=
    { n0 := rfl
      grew := ⟨fun g j h => cell_push (H.F g j h), fun r es c h hw => (heap_push (H.M r h)).trans hw, fun _ _ h => h, fun _ h => h⟩
      box := fun _ _ => rfl
      boxes := fun b cs' h => ⟨cs', h⟩
      chains := fun c n s h => ⟨n, h, Nat.le_refl _, fun _ => rfl⟩
      map := hmap
      maps := by simp
      loop := fun _ _ => rfl
      loops := Nat.le_refl _
      size := by simp
      owned := fun g hg ho => by
        rcases ho with h | h | ⟨m, hm, rfl⟩ | h
        · exact .inl h
        · exact .inr (.inl h)
        · simp at hm
          rcases Nat.lt_or_ge m σ.maps.length with hlt | hge
          · rw [hmap m hlt]; exact owned_map hlt
          · have : m = σ.maps.length := by omega
            subst this
            rw [hnew] at hg
            exact absurd hg (Nat.lt_irrefl _)
        · exact .inr (.inr (.inr h))
      kept := fun g hg _ => heap_push hg
      os := rfl
      tape := rfl
      output := rfl
      newF := fun _ _ h => .inl h
      freshF := fun _ _ h => .inl h
      newM := fun _ h => .inl h }
  have hlt : ∀ g, Owned X σ g → (w.alloc (.map #[] 0)).heap[g]? = w.heap[g]? := fun g hg => heap_push (H.owned_lt hg)
  refine ⟨E, ?_, hnew⟩
  exact
    { base := by rw [World.size_alloc]; exact Nat.le_succ_of_le H.base
      F := fun g o h => by rw [World.size_alloc]; exact Nat.lt_succ_of_lt (H.F g o h)
      M := fun r h => by rw [World.size_alloc]; exact Nat.lt_succ_of_lt (H.M r h)
      box := fun b cs' hb => (H.box b cs' hb).keep E.toKeeps rfl (lt_of_some hb) (hlt _ (owned_box (lt_of_some hb))) (fun o h => h) rfl
      boxInj := H.boxInj
      chain := fun c n s hc' => (H.chain c n s hc').keep rfl rfl (hlt _ (owned_tip (lt_of_some hc'))) (fun o h => h)
      tipInj := H.tipInj
      tipBox := H.tipBox
      map := fun m es hm => by
        rcases append_get hm with ⟨hlt', hm'⟩ | ⟨rfl, rfl⟩
        · have hk := (H.map m es hm').keep E.toKeeps rfl hlt' (hlt _ (owned_map hlt')) (fun h => h) rfl
          exact hk
        · unfold MapOk
          rw [hnew]
          exact ⟨H.base, #[], heap_new, rfl, rfl, fun i e h => by simp at h, fun i e k h => by simp at h, fun i e k h => by simp at h, fun _ hf => absurd (H.M _ hf) (Nat.lt_irrefl _), fun hro => absurd hro (Nat.not_lt.2 H.mro)⟩
      mapInj := fun m m' hm hm' h => by
        simp at hm hm'
        rcases Nat.lt_or_ge m σ.maps.length with h1 | h1 <;> rcases Nat.lt_or_ge m' σ.maps.length with h2 | h2
        · rw [hmap m h1, hmap m' h2] at h; exact H.mapInj m m' h1 h2 h
        · have : m' = σ.maps.length := by omega
          subst this
          rw [hmap m h1, hnew] at h
          exact absurd (H.owned_lt (owned_map h1)) (by rw [h]; exact Nat.lt_irrefl _)
        · have : m = σ.maps.length := by omega
          subst this
          rw [hmap m' h2, hnew] at h
          exact absurd (H.owned_lt (owned_map h2)) (by rw [← h]; exact Nat.lt_irrefl _)
        · omega
      loop := fun l L hl' => (H.loop l L hl').keep E.toKeeps rfl (lt_of_some hl') (hlt _ (owned_loop (lt_of_some hl')))
      loopInj := H.loopInj
      ro := H.ro
      mro := by simp; exact Nat.le_succ_of_le H.mro
      glob := fun g cs' hg => (H.glob g cs' hg).mono E.grew }

/-- A block that is no cells is put anew. -/
def putObj (w : World) (r : Nat) (o : Obj) : World := { w with heap := w.heap.setIfInBounds r o }
theorem putObj_same {w : World} {r : Nat} {o : Obj} (h : r < w.heap.size) : (putObj w r o).heap[r]? = some o := by simp [putObj, h]
theorem putObj_other {w : World} {r k : Nat} {o : Obj} (h : k ≠ r) : (putObj w r o).heap[k]? = w.heap[k]? := by simp [putObj, Array.getElem?_setIfInBounds_ne (Ne.symm h)]
theorem putObj_size {w : World} {r : Nat} {o : Obj} : (putObj w r o).heap.size = w.heap.size := by simp [putObj]

/-- A map's entries are put anew. -/
theorem set_map (H : Inv C X σ w) {m : Nat} {es : List AV × List AV} (hm : σ.maps[m]? = some es) (hro : σ.mro ≤ m) {arr : Array MapEntry} {ks vs : List AV} (hk : arr.size = ks.length) (hv : arr.size = vs.length) (hb : ∀ (i : Nat) (e : MapEntry), arr[i]? = some e → e.born = i)
    (hrk : ∀ (i : Nat) (e : MapEntry) (k : AV), arr[i]? = some e → ks[i]? = some k → Rep X σ w e.key k) (hrv : ∀ (i : Nat) (e : MapEntry) (v : AV), arr[i]? = some e → vs[i]? = some v → Rep X σ w e.val v) :
    Ext X X σ { σ with maps := σ.maps.set m (ks, vs) } w (putObj w (X.map m) (.map arr arr.size)) ∧ Inv C X { σ with maps := σ.maps.set m (ks, vs) } (putObj w (X.map m) (.map arr arr.size)) := by
  have hmlt := lt_of_some hm
  obtain ⟨k0, arr0, k1, k2, k3, k4, k5, k6, k7, k8⟩ := H.map m es hm
  have hlt : X.map m < w.heap.size := H.owned_lt (owned_map hmlt)
  have hother : ∀ g, g ≠ X.map m → (putObj w (X.map m) (.map arr arr.size)).heap[g]? = w.heap[g]? := fun g hg => putObj_other hg
  have hget : ∀ (i : Nat) (x : List AV × List AV), i ≠ m → ((σ.maps.set m (ks, vs))[i]? = some x ↔ σ.maps[i]? = some x) := fun i x hic => by rw [List.getElem?_set_ne (Ne.symm hic)]
  have E : Ext X X σ { σ with maps := σ.maps.set m (ks, vs) } w (putObj w (X.map m) (.map arr arr.size)) :=
    { n0 := rfl
      grew := ⟨(fun g j hf => by
          by_cases hg : g = X.map m
          · subst hg
            simp only [World.cell?, putObj_same hlt, k1]
          · simp only [World.cell?, hother g hg]), (fun r es' c hM hw => by
          refine (hother r fun e => ?_).trans hw
          subst e
          exact absurd hM (k7 hro)), fun _ _ h => h, fun _ h => h⟩
      box := fun _ _ => rfl
      boxes := fun b cs h => ⟨cs, h⟩
      chains := fun c n s h => ⟨n, h, Nat.le_refl _, fun _ => rfl⟩
      map := fun _ _ => rfl
      maps := by simp
      loop := fun _ _ => rfl
      loops := Nat.le_refl _
      size := by rw [putObj_size]; exact Nat.le_refl _
      owned := fun g hg ho => by
        rcases ho with h | h | ⟨i, hi, rfl⟩ | h
        · exact .inl h
        · exact .inr (.inl h)
        · exact owned_map (by simpa using hi)
        · exact .inr (.inr (.inr h))
      kept := fun g _ hno => hother g fun e => hno (e ▸ owned_map hmlt)
      os := rfl
      tape := rfl
      output := rfl
      newF := fun _ _ h => .inl h
      freshF := fun _ _ h => .inl h
      newM := fun _ h => .inl h }
  have hcells : ∀ g, (∃ arr' T fr, w.heap[g]? = some (.cells arr' T fr)) → g ≠ X.map m := by
    rintro g ⟨arr', T, fr, hg⟩ e
    rw [e, k1] at hg
    cases hg
  refine ⟨E, ?_⟩
  exact
    { base := by rw [putObj_size]; exact H.base
      F := fun g o h => by rw [putObj_size]; exact H.F g o h
      M := fun r h => by rw [putObj_size]; exact H.M r h
      box := fun b cs hb' => by
        have hB := H.box b cs hb'
        refine hB.keep E.toKeeps rfl (lt_of_some hb') (hother _ (hcells _ ?_)) (fun o h => h) rfl
        obtain ⟨_, a', T', hw, _⟩ := hB
        exact ⟨a', T', _, hw⟩
      boxInj := H.boxInj
      chain := fun c n s hc' => by
        have hB := H.chain c n s hc'
        refine hB.keep rfl rfl (hother _ (hcells _ ?_)) (fun o h => h)
        obtain ⟨_, _, _, a', T', hw, _⟩ := hB
        exact ⟨a', T', _, hw⟩
      tipInj := H.tipInj
      tipBox := H.tipBox
      map := fun m' es' hm' => by
        by_cases hmm : m' = m
        · subst hmm
          simp only [List.getElem?_set, hmlt, if_true, Option.some.injEq] at hm'
          subst hm'
          exact ⟨k0, arr, putObj_same hlt, hk, hv, hb, fun i e k he hk' => (hrk i e k he hk').keep E.toKeeps, fun i e v he hv' => (hrv i e v he hv').keep E.toKeeps, k7, fun hr => absurd hr (Nat.not_lt.2 hro)⟩
        · have h' := (hget m' es' hmm).1 hm'
          exact (H.map m' es' h').keep E.toKeeps rfl (lt_of_some h') (hother _ fun e => hmm (H.mapInj m' m (lt_of_some h') hmlt e)) (fun h => h) rfl
      mapInj := fun i j hi hj h => H.mapInj i j (by simpa using hi) (by simpa using hj) h
      loop := fun l L hl' => by
        have hL := H.loop l L hl'
        refine hL.keep E.toKeeps rfl (lt_of_some hl') (hother _ fun e => ?_)
        obtain ⟨_, lp, hw, _⟩ := hL
        rw [e, k1] at hw
        cases hw
      loopInj := H.loopInj
      ro := H.ro
      mro := by simp; exact H.mro
      glob := fun g cs' hg => (H.glob g cs' hg).mono E.grew }
end
end Go.Ai
