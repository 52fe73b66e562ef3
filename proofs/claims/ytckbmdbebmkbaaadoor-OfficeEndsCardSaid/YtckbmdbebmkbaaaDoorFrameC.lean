/- This text shows operations of the interpreter are those of the model: memory, maps, rows. No conditions of its own. -/
import Derived.Test.YtckbmdbebmkbaaaDoorFrameB
import Derived.Laws.Append
import Derived.Laws.AppendOwn
import Derived.Laws.MakeOwn
set_option linter.unusedSimpArgs false
set_option linter.unusedVariables false
set_option linter.unusedVariables false
set_option linter.unusedSimpArgs false
namespace Go.Ai
section
variable {C : Cfg} {X : Ctx} {σ : St} {w : World} {P : Program}

theorem run_getMap {r : Nat} {es : Array MapEntry} {c : Nat} (h : w.heap[r]? = some (.map es c)) : (getObj r).run P w = .ok (.map es c) w := by simp [getObj, Sem.run, h]
theorem run_setMap {r : Nat} {es es' : Array MapEntry} {c c' : Nat} (h : w.heap[r]? = some (.map es c)) : (setObj r (.map es' c')).run P w = .ok () (putObj w r (.map es' c')) := by simp [setObj, Sem.run, h, putObj]

/-! ### Maps -/
/-- What a look-up in a map goes over. -/
theorem entries_sim (H : Inv C X σ w) {p : Value} {x : AV} {es : List AV × List AV} (hp : Rep X σ w p x) (h : entriesA σ x = some es) :
    (p = .map none ∧ es = ([], [])) ∨ ∃ r arr c, p = .map (some r) ∧ w.heap[r]? = some (.map arr c) ∧ arr.size = es.1.length ∧ arr.size = es.2.length ∧
      (∀ (i : Nat) (e : MapEntry) (k : AV), arr[i]? = some e → es.1[i]? = some k → Rep X σ w e.key k) ∧ (∀ (i : Nat) (e : MapEntry) (v : AV), arr[i]? = some e → es.2[i]? = some v → Rep X σ w e.val v) := by
  cases x <;> simp only [entriesA, Option.some.injEq, reduceCtorEq] at h
  · subst h
    cases hp with | pure q => cases q; exact .inl ⟨rfl, rfl⟩
  · subst h
    cases hp with
    | pure q =>
      cases q with
      | mapv r arr c _ _ hw hM hk hv h1 h2 => exact .inr ⟨r, arr, c, rfl, hw, hk, hv, fun i e k he hk' => .pure (h1 i e k he hk'), fun i e v he hv' => .pure (h2 i e v he hv')⟩
  · rename_i m
    cases hp with
    | pure q => cases q
    | mp _ hm =>
      obtain ⟨_, arr, k1, k2, k3, k4, k5, k6, _⟩ := H.map m es h
      exact .inr ⟨_, arr, _, rfl, k1, k2, k3, k5, k6⟩

theorem zeroA_rep {t : TypeId} {a : ATy} (ht : TyOf P t a) {z : AV} (hz : zeroA a = some z) : ∃ v, (zeroValue t).run P w = .ok v w ∧ Rep X σ w v z := by
  obtain ⟨d, i, v, hd, hi, hv, hk, hs, hb, hm, hl, hag⟩ := ht
  refine ⟨v, by simp [zeroValue, typeInfo, hi, hv], .pure ?_⟩
  have hp := constA_cells (w := w) (F := X.F) (M := X.M) hm
  unfold zeroA at hz
  cases hkk : a.kind.agg with
  | true =>
    rw [hkk] at hz hag
    simp only [if_true, Option.some.injEq] at hz
    subst hz
    cases v <;> simp only [aggV, Bool.false_eq_true] at hag
    exact .agg _ _ (by simpa [Value.cells] using hp.1) fun i u c hu hc => hp.2 i u c (by simpa [Value.cells] using hu) hc
  | false =>
    rw [hkk] at hz hag
    simp only [Bool.false_eq_true, if_false] at hz
    have hcv : v.cells = #[v] := by cases v <;> first | rfl | simp [aggV] at hag
    exact hp.2 0 v z (by rw [hcv]; rfl) hz

theorem lkp_sim (H : Inv C X σ w) {t kt et : TypeId} {a b : ATy} {kn : Option Nat} {z : AV} (ht : TyOf P t a) (hk : a.kind = .map kt et) (hkn : keyTy P kt = some kn) (hb : TyOf P et b) (hz : zeroA b = some z) {p q : Value} {x y r : AV} (hp : Rep X σ w p x) (hq : Rep X σ w q y) {ok : Bool}
    (h : lkpA σ kn z x y ok = some r) : ∃ u, (Instr.lookup t p q ok).run P w = .ok u w ∧ Rep X σ w u r := by
  simp only [lkpA, Option.bind_eq_some_iff] at h
  obtain ⟨es, hes, h⟩ := h
  split at h
  case isFalse => cases h
  rename_i hok
  simp only [Option.bind_eq_some_iff] at h
  obtain ⟨r', hr', h⟩ := h
  obtain ⟨zv, hzv, hzr⟩ := zeroA_rep (X := X) (σ := σ) (w := w) hb hz
  have fin : ∀ (u : Value) (c : AV) (b : Bool), Rep X σ w u c → r = (if ok then .tup [c, .bool b] else c) → Rep X σ w (if ok then .tuple #[u, .bool b] else u) r := by
    intro u c b hu hr
    subst hr
    cases ok with
    | false => exact hu
    | true =>
      refine .tup _ _ rfl fun i v' c' hv hc => ?_
      match i with
      | 0 =>
        simp at hv hc
        subst hv hc
        exact hu
      | 1 =>
        simp at hv hc
        subst hv hc
        exact .pure (.bool b)
      | i + 2 => simp at hc
  rcases entries_sim H hp hes with ⟨rfl, rfl⟩ | ⟨m, arr, c, rfl, hw, h1, h2, h3, h4⟩
  · simp only [findA, Option.some.injEq] at hr'
    subst hr'
    simp only [Option.some.injEq] at h
    have hfk : ∃ pp, (Instr.findKey kt q ([] : List MapEntry)).run P w = .ok pp w ∧ pp.map (·.1) = none := by
      obtain ⟨pp, e1, e2, _⟩ := run_findKey (w := w) hkn hq [] [] none rfl (fun i e k he => by simp at he) rfl
      exact ⟨pp, e1, e2⟩
    obtain ⟨pp, e1, e2⟩ := hfk
    have : pp = none := by cases pp <;> simp at e2 ⊢
    subst this
    refine ⟨_, ?_, fin zv z false hzr h.symm⟩
    simp only [Instr.lookup, Sem.run_bind, run_underlying (ht.mapT hk), Result.andThen_ok, Sem.run_pure, run_checkKey_ok hkn hq hok, e1, hzv]
  · obtain ⟨pp, e1, e2, e3⟩ := run_findKey (w := w) hkn hq arr.toList es.1 r' (by simpa using h1) (fun i e k he hk' => h3 i e k (by simpa using he) hk') hr'
    cases r' with
    | none =>
      have : pp = none := by cases pp <;> simp at e2 ⊢
      subst this
      simp only [Option.some.injEq] at h
      refine ⟨_, ?_, fin zv z false hzr h.symm⟩
      simp only [Instr.lookup, Sem.run_bind, run_underlying (ht.mapT hk), Result.andThen_ok, Sem.run_pure, run_getMap hw, run_checkKey_ok hkn hq hok, e1, hzv]
    | some j =>
      simp only [Option.map_eq_some_iff] at h
      obtain ⟨c', hc', hr⟩ := h
      cases pp with
      | none => simp at e2
      | some pq =>
        simp at e2
        obtain ⟨e, k, g1, g2, g3, g4⟩ := e3 pq rfl
        rw [e2] at g1
        have hv := h4 j e c' (by simpa using g1) hc'
        refine ⟨_, ?_, fin e.val c' true hv hr.symm⟩
        obtain ⟨pi, pv⟩ := pq
        simp only at g3
        subst g3
        simp only [Instr.lookup, Sem.run_bind, run_underlying (ht.mapT hk), Result.andThen_ok, Sem.run_pure, run_getMap hw, run_checkKey_ok hkn hq hok, e1]

theorem key_same {kn : Option Nat} {u v : Value} {x : AV} (hx : keyOk kn x = true) (hu : Rep X σ w u x) (hv : Rep X σ w v x) : u = v ∧ Instr.sameBits 10000 u v = true := by
  cases kn <;> cases x <;> simp only [keyOk, reduceCtorEq, Bool.false_eq_true] at hx
  · rw [hu.intV, hv.intV]
    refine ⟨rfl, ?_⟩
    simp [Instr.sameBits]
  · rename_i n cs
    simp only [Bool.and_eq_true, beq_iff_eq] at hx
    obtain ⟨us, rfl, h1, h2⟩ := hu.aggV
    obtain ⟨vs, rfl, h3, h4⟩ := hv.aggV
    have he : us = vs := by
      apply Array.ext (by omega)
      intro i hi hi'
      obtain ⟨c, hc⟩ := some_of_lt (l := cs) (i := i) (by omega)
      obtain ⟨q, m, rfl⟩ := allInt_get hx.2 i c hc
      have e1 := (h2 i _ _ (Array.getElem?_eq_getElem hi) hc).intV
      have e2 := (h4 i _ _ (Array.getElem?_eq_getElem hi') hc).intV
      rw [e1, e2]
    subst he
    refine ⟨rfl, ?_⟩
    have hall : ∀ v ∈ us.toList, ∃ q m, v = .int q m := by
      intro v hv
      obtain ⟨i, hi⟩ := List.mem_iff_getElem?.1 hv
      simp only [Array.getElem?_toList] at hi
      obtain ⟨c, hc⟩ := some_of_lt (l := cs) (i := i) (by have := size_of_some hi; omega)
      obtain ⟨q, m, rfl⟩ := allInt_get hx.2 i c hc
      exact ⟨q, m, (h2 i _ _ hi hc).intV⟩
    show Instr.sameBits (9999 + 1) (.agg us) (.agg us) = true
    rw [Instr.sameBits]
    simp only [beq_self_eq_true, Bool.true_and, List.all_eq_true]
    rintro ⟨p, q⟩ hpq
    have hl := List.of_mem_zip hpq
    have hpe : p = q := by
      clear hall
      generalize us.toList = l at hpq
      induction l with
      | nil => simp at hpq
      | cons a l ih =>
        simp only [List.zip_cons_cons, List.mem_cons] at hpq
        rcases hpq with h | h
        · cases h; rfl
        · exact ih h
    obtain ⟨k, m, rfl⟩ := hall p hl.1
    subst hpe
    show Instr.sameBits (9998 + 1) (.int k m) (.int k m) = true
    simp [Instr.sameBits]

theorem run_keyStays {kn : Option Nat} {u v : Value} {x : AV} (hx : keyOk kn x = true) (hu : Rep X σ w u x) (hv : Rep X σ w v x) : (Instr.keyThatStays u v).run P w = .ok v w := by
  unfold Instr.keyThatStays
  rw [if_pos (key_same hx hu hv).2]; rfl

/-- The entry that a key has, or gets. -/
theorem modify_get {arr : Array MapEntry} {j : Nat} {f : MapEntry → MapEntry} {i : Nat} {e : MapEntry} (h : (arr.modify j f)[i]? = some e) : ∃ e0, arr[i]? = some e0 ∧ e = if i = j then f e0 else e0 := by
  rw [Array.getElem?_modify] at h
  split at h
  · rename_i hij
    simp only [Option.map_eq_some_iff] at h
    obtain ⟨e0, h1, h2⟩ := h
    exact ⟨e0, h1, by rw [if_pos hij.symm]; exact h2.symm⟩
  · rename_i hij
    exact ⟨e, h, by rw [if_neg (Ne.symm hij)]⟩

theorem push_get {arr : Array MapEntry} {x : MapEntry} {i : Nat} {e : MapEntry} (h : (arr.push x)[i]? = some e) : (i < arr.size ∧ arr[i]? = some e) ∨ (i = arr.size ∧ e = x) := by
  rw [Array.getElem?_push] at h
  split at h
  · rename_i hi; exact .inr ⟨hi, (Option.some.inj h).symm⟩
  · exact .inl ⟨size_of_some h, h⟩

theorem mput_sim (H : Inv C X σ w) {t kt et : TypeId} {a : ATy} {kn : Option Nat} (ht : TyOf P t a) (hk : a.kind = .map kt et) (hkn : keyTy P kt = some kn) {p q s : Value} {x y z : AV} {σ' : St} (hp : Rep X σ w p x) (hq : Rep X σ w q y) (hs : Rep X σ w s z)
    (h : mputA σ kn x y z = some σ') : ∃ w', (Instr.mapUpdate t p q s).run P w = .ok () w' ∧ Ext X X σ σ' w w' ∧ Inv C X σ' w' := by
  cases x <;> simp only [mputA, reduceCtorEq, Option.bind_eq_some_iff] at h
  rename_i m
  obtain ⟨es, hes, h⟩ := h
  split at h
  case isFalse => cases h
  rename_i hc
  simp only [Option.bind_eq_some_iff] at h
  obtain ⟨r', hr', h⟩ := h
  cases hp with
  | pure q => cases q
  | mp _ hm =>
    obtain ⟨k0, arr, k1, k2, k3, k4, k5, k6, k7, k8⟩ := H.map m es hes
    obtain ⟨pp, e1, e2, e3⟩ := run_findKey (w := w) hkn hq arr.toList es.1 r' (by simpa using k2) (fun i e k he hk' => k5 i e k (by simpa using he) hk') hr'
    cases r' with
    | none =>
      have : pp = none := by cases pp <;> simp at e2 ⊢
      subst this
      simp only [Option.some.injEq] at h
      subst h
      have hS := set_map H hes hc.1 (arr := arr.push { key := q, val := s, born := arr.size }) (ks := es.1 ++ [y]) (vs := es.2 ++ [z]) (by simp [k2]) (by simp [k3])
        (fun i e he => by rcases push_get he with ⟨_, h⟩ | ⟨h, rfl⟩; exact k4 i e h; exact h.symm)
        (fun i e k he hk' => by
          rcases push_get he with ⟨h1, h⟩ | ⟨h, rfl⟩
          · exact k5 i e k h (by rwa [List.getElem?_append_left (by omega)] at hk')
          · subst h
            rcases append_get hk' with ⟨h1, _⟩ | ⟨_, rfl⟩
            · omega
            · exact hq)
        (fun i e v he hv' => by
          rcases push_get he with ⟨h1, h⟩ | ⟨h, rfl⟩
          · exact k6 i e v h (by rwa [List.getElem?_append_left (by omega)] at hv')
          · subst h
            rcases append_get hv' with ⟨h1, _⟩ | ⟨_, rfl⟩
            · omega
            · exact hs)
      refine ⟨_, ?_, hS.1, hS.2⟩
      simp only [Instr.mapUpdate, Sem.run_bind, run_underlying (ht.mapT hk), Result.andThen_ok, run_getMap k1, run_checkKey_ok hkn hq hc.2, e1, run_setMap k1, Array.size_push]
    | some j =>
      simp only [Option.some.injEq] at h
      subst h
      cases pp with
      | none => simp at e2
      | some pq =>
        simp at e2
        obtain ⟨e, k, g1, g2, g3, g4⟩ := e3 pq rfl
        rw [e2] at g1 g2
        have g1' : arr[j]? = some e := by simpa using g1
        have hke : Rep X σ w e.key y := by rw [g4]; exact k5 j e k g1' g2
        have hS := set_map H hes hc.1 (arr := arr.modify j fun e => { e with key := q, val := s }) (ks := es.1) (vs := es.2.set j z) (by simp [k2]) (by simp [k3])
          (fun i e' he => by obtain ⟨e0, h1, rfl⟩ := modify_get he; have := k4 i e0 h1; split <;> exact this)
          (fun i e' k' he hk' => by
            obtain ⟨e0, h1, rfl⟩ := modify_get he
            split
            · rename_i hij
              subst hij
              rw [g2] at hk'
              cases hk'
              rw [← g4]
              exact hq
            · exact k5 i e0 k' h1 hk')
          (fun i e' v' he hv' => by
            obtain ⟨e0, h1, rfl⟩ := modify_get he
            split
            · rename_i hij
              subst hij
              simp only [List.getElem?_set] at hv'
              split at hv'
              · split at hv'
                · cases hv'; exact hs
                · cases hv'
              · exact absurd trivial ‹¬True›
            · rename_i hij
              exact k6 i e0 v' h1 (by rwa [List.getElem?_set_ne (Ne.symm hij)] at hv'))
        refine ⟨_, ?_, hS.1, hS.2⟩
        obtain ⟨pi, pv⟩ := pq
        simp only at e2
        subst e2
        simp only [Instr.mapUpdate, Sem.run_bind, run_underlying (ht.mapT hk), Result.andThen_ok, run_getMap k1, run_checkKey_ok hkn hq hc.2, e1, g1', Option.map_some, Option.getD_some, run_keyStays hc.2 hke hq, run_setMap k1, Array.size_modify]

theorem ment_sim (H : Inv C X σ w) {t kt et : TypeId} {a b : ATy} {kn : Option Nat} {z : AV} (ht : TyOf P t a) (hk : a.kind = .map kt et) (hkn : keyTy P kt = some kn) (hb : TyOf P et b) (hz : zeroA b = some z) {p q : Value} {x y r : AV} {σ' : St} (hp : Rep X σ w p x) (hq : Rep X σ w q y)
    (h : mentA σ kn z x y = some (r, σ')) : ∃ w' u, (Instr.mapEntry t p q).run P w = .ok u w' ∧ Ext X X σ σ' w w' ∧ Inv C X σ' w' ∧ Rep X σ' w' u r := by
  cases x <;> simp only [mentA, reduceCtorEq, Option.bind_eq_some_iff] at h
  rename_i m
  obtain ⟨es, hes, h⟩ := h
  split at h
  case isFalse => cases h
  rename_i hc
  simp only [Option.bind_eq_some_iff] at h
  obtain ⟨r', hr', h⟩ := h
  have pair : ∀ {σ'' : St} {w'' : World} {u : Value} {c : AV} {n : Nat}, Rep X σ'' w'' u c → Rep X σ'' w'' (.tuple #[u, goInt n]) (.tup [c, I n]) := by
    intro σ'' w'' u c n hu
    refine .tup _ _ rfl fun i v' c' hv hc' => ?_
    match i with
    | 0 => simp at hv hc'; subst hv hc'; exact hu
    | 1 => simp at hv hc'; subst hv hc'; exact .pure (.int ..)
    | i + 2 => simp at hc'
  cases hp with
  | pure q => cases q
  | mp _ hm =>
    obtain ⟨k0, arr, k1, k2, k3, k4, k5, k6, k7, k8⟩ := H.map m es hes
    obtain ⟨pp, e1, e2, e3⟩ := run_findKey (w := w) hkn hq arr.toList es.1 r' (by simpa using k2) (fun i e k he hk' => k5 i e k (by simpa using he) hk') hr'
    cases r' with
    | none =>
      have : pp = none := by cases pp <;> simp at e2 ⊢
      subst this
      simp only [Option.some.injEq, Prod.mk.injEq] at h
      obtain ⟨rfl, rfl⟩ := h
      obtain ⟨zv, hzv, hzr⟩ := zeroA_rep (X := X) (σ := σ) (w := w) hb hz
      have hS := set_map H hes hc.1 (arr := arr.push { key := q, val := zv, born := arr.size }) (ks := es.1 ++ [y]) (vs := es.2 ++ [z]) (by simp [k2]) (by simp [k3])
        (fun i e he => by rcases push_get he with ⟨_, h⟩ | ⟨h, rfl⟩; exact k4 i e h; exact h.symm)
        (fun i e k he hk' => by
          rcases push_get he with ⟨h1, h⟩ | ⟨h, rfl⟩
          · exact k5 i e k h (by rwa [List.getElem?_append_left (by omega)] at hk')
          · subst h
            rcases append_get hk' with ⟨h1, _⟩ | ⟨_, rfl⟩
            · omega
            · exact hq)
        (fun i e v he hv' => by
          rcases push_get he with ⟨h1, h⟩ | ⟨h, rfl⟩
          · exact k6 i e v h (by rwa [List.getElem?_append_left (by omega)] at hv')
          · subst h
            rcases append_get hv' with ⟨h1, _⟩ | ⟨_, rfl⟩
            · omega
            · exact hzr)
      refine ⟨_, .tuple #[zv, goInt arr.size], ?_, hS.1, hS.2, ?_⟩
      · simp only [Instr.mapEntry, Sem.run_bind, run_underlying (ht.mapT hk), Result.andThen_ok, run_getMap k1, run_checkKey_ok hkn hq hc.2, e1, hzv, run_setMap k1, Array.size_push, Sem.run_pure]
      · have e : (I (es.1.length : Int)) = I (arr.size : Int) := by rw [k2]
        rw [e]
        exact pair (hzr.mono hS.1)
    | some j =>
      simp only [Option.map_eq_some_iff, Prod.mk.injEq] at h
      obtain ⟨c, hc', rfl, rfl⟩ := h
      cases pp with
      | none => simp at e2
      | some pq =>
        simp at e2
        obtain ⟨e, k, g1, g2, g3, g4⟩ := e3 pq rfl
        rw [e2] at g1 g2
        have g1' : arr[j]? = some e := by simpa using g1
        have hke : Rep X σ w e.key y := by rw [g4]; exact k5 j e k g1' g2
        have hve : Rep X σ w e.val c := k6 j e c g1' hc'
        have hsame : (σ.maps.set m (es.1, es.2)) = σ.maps := by
          apply List.ext_getElem?
          intro i
          rw [List.getElem?_set]
          split
          · rename_i hi; subst hi; first | rw [if_pos hm, hes] | rw [hes]
          · rfl
        have hS := set_map H hes hc.1 (arr := arr.modify j fun e => { e with key := q }) (ks := es.1) (vs := es.2) (by simp [k2]) (by simp [k3])
          (fun i e' he => by obtain ⟨e0, h1, rfl⟩ := modify_get he; have := k4 i e0 h1; split <;> exact this)
          (fun i e' k' he hk' => by
            obtain ⟨e0, h1, rfl⟩ := modify_get he
            split
            · rename_i hij
              subst hij
              rw [g2] at hk'
              cases hk'
              rw [← g4]
              exact hq
            · exact k5 i e0 k' h1 hk')
          (fun i e' v' he hv' => by
            obtain ⟨e0, h1, rfl⟩ := modify_get he
            have := k6 i e0 v' h1 hv'
            split <;> exact this)
        rw [hsame] at hS
        refine ⟨_, .tuple #[e.val, goInt j], ?_, hS.1, hS.2, pair (hve.mono hS.1)⟩
        obtain ⟨pi, pv⟩ := pq
        simp only at e2 g3
        subst e2 g3
        simp only [Instr.mapEntry, Sem.run_bind, run_underlying (ht.mapT hk), Result.andThen_ok, run_getMap k1, run_checkKey_ok hkn hq hc.2, e1, g1', Option.map_some, Option.getD_some, run_keyStays hc.2 hke hq, run_setMap k1, Array.size_modify, Sem.run_pure, k4 _ e g1']

theorem esto_sim (H : Inv C X σ w) {t : TypeId} {p q s : Value} {x y z : AV} {σ' : St} (hp : Rep X σ w p x) (hq : Rep X σ w q y) (hs : Rep X σ w s z) (h : estoA σ x y z = some σ') : ∃ w', (Instr.entryStore t p q s).run P w = .ok () w' ∧ Ext X X σ σ' w w' ∧ Inv C X σ' w' := by
  cases x <;> cases y <;> simp only [estoA, reduceCtorEq, Option.bind_eq_some_iff] at h
  rename_i m k n
  obtain ⟨es, hes, h⟩ := h
  split at h
  case isFalse => cases h
  rename_i hc
  simp only [Option.some.injEq] at h
  subst h
  obtain rfl := hq.intV
  cases hp with
  | pure q => cases q
  | mp _ hm =>
    obtain ⟨k0, arr, k1, k2, k3, k4, k5, k6, k7, k8⟩ := H.map m es hes
    obtain ⟨j, rfl⟩ : ∃ j : Nat, n = (j : Int) := ⟨n.toNat, by omega⟩
    have hj : j < arr.size := by omega
    have hfind : arr.findIdx? (fun e => (e.born : Int) == (j : Int)) = some j := by
      rw [Array.findIdx?_eq_some_iff_getElem]
      refine ⟨hj, ?_, fun i hi => ?_⟩
      · have := k4 j arr[j] (Array.getElem?_eq_getElem hj)
        simp [this]
      · have := k4 i (arr[i]'(Nat.lt_trans hi hj)) (Array.getElem?_eq_getElem (Nat.lt_trans hi hj))
        simp [this]
        omega
    have hS := set_map H hes hc.2.2 (arr := arr.modify j fun e => { e with val := s }) (ks := es.1) (vs := es.2.set j z) (by simp [k2]) (by simp [k3])
      (fun i e' he => by obtain ⟨e0, h1, rfl⟩ := modify_get he; have := k4 i e0 h1; split <;> exact this)
      (fun i e' k' he hk' => by
        obtain ⟨e0, h1, rfl⟩ := modify_get he
        have := k5 i e0 k' h1 hk'
        split <;> exact this)
      (fun i e' v' he hv' => by
        obtain ⟨e0, h1, rfl⟩ := modify_get he
        split
        · rename_i hij
          subst hij
          simp only [List.getElem?_set] at hv'
          split at hv'
          · split at hv'
            · cases hv'; exact hs
            · cases hv'
          · exact absurd trivial ‹¬True›
        · rename_i hij
          exact k6 i e0 v' h1 (by rwa [List.getElem?_set_ne (Ne.symm hij)] at hv'))
    refine ⟨_, ?_, hS.1, by simpa using hS.2⟩
    simp only [Instr.entryStore, Sem.run_bind, run_getMap k1, Result.andThen_ok, asInt, asIntOf, Sem.run_pure, hfind, run_setMap k1, Array.size_modify]

end
end Go.Ai

set_option linter.unusedVariables false
set_option linter.unusedSimpArgs false
namespace Go.Ai
section
variable {C : Cfg} {X : Ctx} {σ : St} {w : World}

theorem kill_len (b : Nat) : ({ σ with boxes := σ.boxes.set b [] } : St).boxes.length = σ.boxes.length := by simp
theorem owned_kill {b g : Nat} (h : Owned X { σ with boxes := σ.boxes.set b [] } g) : Owned X σ g := by
  rcases h with ⟨b', hb', rfl⟩ | h | h | h
  · simp at hb'
    exact owned_box hb'
  · exact .inr (.inl h)
  · exact .inr (.inr (.inl h))
  · exact .inr (.inr (.inr h))

/-- A variable is given up. -/
theorem kill_box (H : Inv C X σ w) (b : Nat) : Ext X X σ { σ with boxes := σ.boxes.set b [] } w w ∧ Inv C X { σ with boxes := σ.boxes.set b [] } w := by
  have E : Ext X X σ { σ with boxes := σ.boxes.set b [] } w w :=
    { n0 := rfl
      grew := .refl ..
      box := fun _ _ => rfl
      boxes := fun b' cs' h => by
        by_cases hbb : b' = b
        · subst hbb
          exact ⟨[], by simp [lt_of_some h]⟩
        · exact ⟨cs', by simp [List.getElem?_set_ne (Ne.symm hbb), h]⟩
      chains := fun c n s h => ⟨n, h, Nat.le_refl _, fun _ => rfl⟩
      map := fun _ _ => rfl
      maps := Nat.le_refl _
      loop := fun _ _ => rfl
      loops := Nat.le_refl _
      size := Nat.le_refl _
      owned := fun g hg ho => owned_kill ho
      kept := fun _ _ _ => rfl
      os := rfl
      tape := rfl
      output := rfl
      newF := fun _ _ h => .inl h
      freshF := fun _ _ h => .inl h
      newM := fun _ h => .inl h }
  refine ⟨E, ?_⟩
  have hlive : ∀ i, (σ.boxes.set b [])[i]? ≠ some [] → i < σ.boxes.length → σ.boxes[i]? ≠ some [] := fun i hi hlt hn => by
    by_cases hbi : b = i
    · subst hbi
      exact hi (by rw [List.getElem?_set_self hlt])
    · exact hi (by rw [List.getElem?_set_ne hbi]; exact hn)
  exact
    { base := H.base
      F := H.F
      M := H.M
      box := fun b' cs' hb' => by
        by_cases hbb : b' = b
        · subst hbb
          have hlt : b' < σ.boxes.length := by have := lt_of_some hb'; simpa using this
          simp only [List.getElem?_set, hlt, if_true, Option.some.injEq] at hb'
          subst hb'
          obtain ⟨cs, hcs⟩ := some_of_lt hlt
          obtain ⟨k0, arr, T, k1, k2, k3, k4, k5, k6⟩ := H.box b' cs hcs
          exact ⟨k0, arr, T, k1, ⟨Nat.zero_le _, k2.2⟩, rfl, fun j v c hv hc => by simp at hc, k5, fun _ o ho => by simp at ho⟩
        · have hb'' : σ.boxes[b']? = some cs' := by simpa [List.getElem?_set_ne (Ne.symm hbb)] using hb'
          exact (H.box b' cs' hb'').keep E.toKeeps rfl (lt_of_some hb'') rfl (fun o h => h) rfl
      boxInj := fun b1 b2 h1 h2 k1 k2 h => by
        have h1 : b1 < σ.boxes.length := by simpa using h1
        have h2 : b2 < σ.boxes.length := by simpa using h2
        exact H.boxInj b1 b2 h1 h2 (hlive b1 k1 h1) (hlive b2 k2 h2) h
      chain := fun c n s hc' => (H.chain c n s hc').keep rfl rfl rfl (fun o h => h)
      tipInj := H.tipInj
      tipBox := fun c b' hc' hb' => H.tipBox c b' hc' (by simpa using hb')
      map := fun m es hm => (H.map m es hm).keep E.toKeeps rfl (lt_of_some hm) rfl (fun h => h) rfl
      mapInj := H.mapInj
      loop := fun l L hl' => (H.loop l L hl').keep E.toKeeps rfl (lt_of_some hl') rfl
      loopInj := H.loopInj
      ro := by simp; exact H.ro
      mro := H.mro
      glob := H.glob }

/-- A variable that was given up lies there anew. -/
theorem re_box (H : Inv C X σ w) {b : Nat} (hb : σ.boxes[b]? = some []) (hro : σ.ro ≤ b) (hdead : ∀ b', b' < σ.boxes.length → σ.boxes[b']? ≠ some [] → (X.box b').1 ≠ (X.box b).1) {arr arr' : Array Value} {T : TypeId} (hh : w.heap[(X.box b).1]? = some (.cells arr T (0, 0)))
    (hs : arr'.size = arr.size) {cs : List AV} (hl : cs.length ≤ arr.size) (hc : cs.all AV.isCell = true) (hr : ∀ (j : Nat) (v : Value) (c : AV), arr'[j]? = some v → cs[j]? = some c → Rep X σ w v c) :
    Ext X (withBox X σ.boxes.length (X.box b)) σ { σ with boxes := σ.boxes ++ [cs] } w (w.setRow (X.box b).1 arr') ∧ Inv C (withBox X σ.boxes.length (X.box b)) { σ with boxes := σ.boxes ++ [cs] } (w.setRow (X.box b).1 arr') ∧
    (withBox X σ.boxes.length (X.box b)).box σ.boxes.length = X.box b := by
  have hblt := lt_of_some hb
  obtain ⟨k0, arr0, T0, k1, k2, _, _, k5, _⟩ := H.box b [] hb
  rw [hh] at k1
  injection k1 with k1
  injection k1 with ka kT
  subst ka kT
  have hbox : ∀ b', b' < σ.boxes.length → (withBox X σ.boxes.length (X.box b)).box b' = X.box b' := fun b' hb' => by
    show (if b' = σ.boxes.length then X.box b else X.box b') = X.box b'
    rw [if_neg (Nat.ne_of_lt hb')]
  have hnew : (withBox X σ.boxes.length (X.box b)).box σ.boxes.length = X.box b := by
    show (if σ.boxes.length = σ.boxes.length then X.box b else X.box σ.boxes.length) = X.box b
    rw [if_pos rfl]
  have hother : ∀ g, g ≠ (X.box b).1 → (w.setRow (X.box b).1 arr').heap[g]? = w.heap[g]? := fun g hg => setRow_other w _ g _ hg
  have E : Ext X (withBox X σ.boxes.length (X.box b)) σ { σ with boxes := σ.boxes ++ [cs] } w (w.setRow (X.box b).1 arr') :=
    { n0 := rfl
      grew := ⟨fun g j h => by
          have hne : g ≠ (X.box b).1 := fun e => k5 hro j (e ▸ h)
          simp only [World.cell?, hother g hne], (fun r es c h hw => by
          refine (hother r fun e => ?_).trans hw
          subst e
          rw [hh] at hw
          cases hw), fun _ _ h => h, fun _ h => h⟩
      box := hbox
      boxes := fun b cs' h => ⟨cs', by simpa [List.getElem?_append_left (lt_of_some h)] using h⟩
      chains := fun c n s h => ⟨n, h, Nat.le_refl _, fun _ => rfl⟩
      map := fun _ _ => rfl
      maps := Nat.le_refl _
      loop := fun _ _ => rfl
      loops := Nat.le_refl _
      size := by simp
      owned := fun g hg ho => by
        rcases ho with ⟨b', hb', rfl⟩ | h | h | h
        · simp at hb'
          rcases Nat.lt_or_ge b' σ.boxes.length with hlt | hge
          · rw [hbox b' hlt]; exact owned_box hlt
          · have : b' = σ.boxes.length := by omega
            subst this
            rw [hnew]
            exact owned_box hblt
        · exact .inr (.inl h)
        · exact .inr (.inr (.inl h))
        · exact .inr (.inr (.inr h))
      kept := fun g hg hno => hother g fun e => hno (e ▸ owned_box hblt)
      os := rfl
      tape := rfl
      output := rfl
      newF := fun _ _ h => .inl h
      freshF := fun _ _ h => .inl h
      newM := fun _ h => .inl h }
  have hrow : (w.setRow (X.box b).1 arr').heap[(X.box b).1]? = some (.cells arr' T (0, 0)) := setRow_heap w _ arr _ T _ hh
  refine ⟨E, ?_, hnew⟩
  exact
    { base := by simp; exact H.base
      F := fun g o h => by simp; exact H.F g o h
      M := fun r h => by simp; exact H.M r h
      box := fun b' cs' hb' => by
        rcases append_get hb' with ⟨hlt', hb''⟩ | ⟨rfl, rfl⟩
        · by_cases hl : (X.box b').1 = (X.box b).1
          · have hnil : cs' = [] := by
              rcases cs' with _ | ⟨a, l⟩
              · rfl
              · exact absurd hl (hdead b' hlt' (by rw [hb'']; simp))
            subst hnil
            obtain ⟨q0, arrq, Tq, q1, q2, q3, q4, q5, q6⟩ := H.box b' [] hb''
            rw [hl, hh] at q1
            injection q1 with q1
            injection q1 with qa _
            subst qa
            unfold BoxOk
            rw [hbox b' hlt']
            exact ⟨q0, arr', T, by rw [hl]; exact hrow, ⟨Nat.zero_le _, by rw [hs]; exact q2.2⟩, rfl, fun j v c hv hc => by simp at hc, q5, fun _ o ho => by simp at ho⟩
          · exact (H.box b' cs' hb'').keep E.toKeeps rfl hlt' (hother _ hl) (fun o h => h) rfl
        · unfold BoxOk
          rw [hnew]
          exact ⟨k0, arr', T, hrow, ⟨by omega, by rw [hs]; exact k2.2⟩, hc, fun j v c hv hc' => (hr j v c hv hc').keep E.toKeeps, fun _ o hf => k5 hro o hf, fun hro' => absurd hro' (Nat.not_lt.2 H.ro)⟩
      boxInj := fun b1 b2 h1 h2 j1 j2 h => by
        simp at h1 h2
        rcases Nat.lt_or_ge b1 σ.boxes.length with g1 | g1 <;> rcases Nat.lt_or_ge b2 σ.boxes.length with g2 | g2
        · rw [hbox b1 g1, hbox b2 g2] at h
          exact H.boxInj b1 b2 g1 g2 (by rwa [List.getElem?_append_left g1] at j1) (by rwa [List.getElem?_append_left g2] at j2) h
        · have : b2 = σ.boxes.length := by omega
          subst this
          rw [hbox b1 g1, hnew] at h
          exact absurd h (hdead b1 g1 (by rwa [List.getElem?_append_left g1] at j1))
        · have : b1 = σ.boxes.length := by omega
          subst this
          rw [hbox b2 g2, hnew] at h
          exact absurd h.symm (hdead b2 g2 (by rwa [List.getElem?_append_left g2] at j2))
        · omega
      chain := fun c n s hc' => (H.chain c n s hc').keep rfl rfl (hother _ (H.tipBox c b (lt_of_some hc') hblt)) (fun o h => h)
      tipInj := H.tipInj
      tipBox := fun c b' hc' hb' h => by
        simp at hb'
        rcases Nat.lt_or_ge b' σ.boxes.length with h1 | h1
        · rw [hbox b' h1] at h; exact H.tipBox c b' hc' h1 h
        · have : b' = σ.boxes.length := by omega
          subst this
          rw [hnew] at h
          exact H.tipBox c b hc' hblt h
      map := fun m es hm => by
        have hm' := H.map m es hm
        refine hm'.keep E.toKeeps rfl (lt_of_some hm) (hother _ fun e => ?_) (fun h => h) rfl
        obtain ⟨_, arr', hw, _⟩ := hm'
        rw [e, hh] at hw
        cases hw
      mapInj := H.mapInj
      loop := fun l L hl' => by
        have hL := H.loop l L hl'
        refine hL.keep E.toKeeps rfl (lt_of_some hl') (hother _ fun e => ?_)
        obtain ⟨_, lp, hw, _⟩ := hL
        rw [e, hh] at hw
        cases hw
      loopInj := H.loopInj
      ro := by simp; exact Nat.le_succ_of_le H.ro
      mro := H.mro
      glob := fun g cs' hg => (H.glob g cs' hg).mono E.grew }
end
end Go.Ai

set_option linter.unusedVariables false
set_option linter.unusedSimpArgs false
namespace Go.Ai

theorem TyOf.one {P : Program} {t : TypeId} {a : ATy} (h : TyOf P t a) : a.kind.agg = true ∨ a.size = 1 := by
  obtain ⟨d, i, v, hd, hi, hv, hk, hs, hb, hm, hl, hag⟩ := h
  cases hkk : a.kind.agg with
  | true => exact .inl rfl
  | false =>
    rw [hkk] at hag
    have hcv : v.cells = #[v] := by cases v <;> first | rfl | simp [aggV] at hag
    rw [hcv] at hm
    have := (mapM_get hm).1
    simp at this
    exact .inr (by omega)

/-- What does not look into the call's own things needs none of them. -/
theorem pur_empty {σ : St} : ∀ (d : Nat) {a b : AV} {t : Bool}, pur {} d a = some (b, t) → pur σ d a = some (b, false) ∧ t = false
  | 0, _, _, _, h => by simp [pur] at h
  | d + 1, a, b, t, h => by
    have lists : ∀ {as : List AV} {q : List AV × Bool}, purAll (pur {} d) as = some q → purAll (pur σ d) as = some (q.1, false) ∧ q.2 = false := by
      intro as
      induction as with
      | nil =>
        intro q h
        simp only [purAll, Option.some.injEq] at h
        subst h
        exact ⟨rfl, rfl⟩
      | cons x as ih =>
        intro q h
        simp only [purAll, Option.bind_eq_some_iff] at h
        obtain ⟨y, hy, s, hs, he⟩ := h
        simp only [Option.some.injEq] at he
        subst he
        obtain ⟨h1, h2⟩ := pur_empty (σ := σ) d (t := y.2) (b := y.1) hy
        obtain ⟨h3, h4⟩ := ih hs
        simp only [purAll, h1, h3, Option.bind_some, h2, h4, Bool.or_self]
        exact ⟨trivial, trivial⟩
    cases a with
    | agg cs =>
      simp only [pur, Option.bind_eq_some_iff, Option.some.injEq, Prod.mk.injEq] at h
      obtain ⟨q, hq, rfl, rfl⟩ := h
      obtain ⟨h1, h2⟩ := lists hq
      simp only [pur, h1, Option.bind_some, h2]
      exact ⟨trivial, trivial⟩
    | tup cs =>
      simp only [pur, Option.bind_eq_some_iff, Option.some.injEq, Prod.mk.injEq] at h
      obtain ⟨q, hq, rfl, rfl⟩ := h
      obtain ⟨h1, h2⟩ := lists hq
      simp only [pur, h1, Option.bind_some, h2]
      exact ⟨trivial, trivial⟩
    | fn f as bs =>
      simp only [pur, Option.bind_eq_some_iff, Option.some.injEq, Prod.mk.injEq] at h
      obtain ⟨q, hq, q', hq', rfl, rfl⟩ := h
      obtain ⟨h1, h2⟩ := lists hq
      obtain ⟨h3, h4⟩ := lists hq'
      simp only [pur, h1, h3, Option.bind_some, h2, h4, Bool.or_self]
      exact ⟨trivial, trivial⟩
    | wsl | mp | box => simp [pur] at h
    | yld => simp [pur] at h
    | _ =>
      simp only [pur, Option.some.injEq, Prod.mk.injEq] at h
      obtain ⟨rfl, rfl⟩ := h
      exact ⟨rfl, rfl⟩

section
variable {C : Cfg} {X : Ctx} {σ : St} {w : World} {P : Program}

theorem purEmpty_rep (H : Inv C X σ w) {d : Nat} {v : Value} {a b : AV} {t : Bool} (hr : Rep X σ w v a) (h : pur {} d a = some (b, t)) : PRep w X.F X.M v b := by
  obtain ⟨h1, _⟩ := pur_empty (σ := σ) d h
  exact (pur_rep H d hr h1).2 rfl

/-- A row of elements, cell by cell. -/
def ElemsAt (X : Ctx) (w : World) (sz : Nat) (arr : List Value) (es : List AV) : Prop :=
  arr.length = es.length * sz ∧ (∀ (i : Nat) (e : AV), es[i]? = some e → e.cells.length = sz) ∧
  ∀ (i : Nat) (e : AV) (j : Nat) (x : AV), es[i]? = some e → e.cells[j]? = some x → ∃ v, arr[i * sz + j]? = some v ∧ v.oneCell' = true ∧ PRep w X.F X.M v x

theorem cell_lt {sz i j n : Nat} (hi : i < n) (hj : j < sz) : i * sz + j < n * sz := by
  have : (i + 1) * sz ≤ n * sz := Nat.mul_le_mul_right _ hi
  rw [Nat.add_mul, Nat.one_mul] at this
  omega

theorem ElemsAt.append {sz : Nat} {arr brr : List Value} {es fs : List AV} (h : ElemsAt X w sz arr es) (k : ElemsAt X w sz brr fs) : ElemsAt X w sz (arr ++ brr) (es ++ fs) := by
  refine ⟨by rw [List.length_append, List.length_append, h.1, k.1, Nat.add_mul], fun i e he => ?_, fun i e j x he hx => ?_⟩
  · rcases Nat.lt_or_ge i es.length with hlt | hge
    · rw [List.getElem?_append_left hlt] at he; exact h.2.1 i e he
    · rw [List.getElem?_append_right hge] at he; exact k.2.1 _ e he
  · rcases Nat.lt_or_ge i es.length with hlt | hge
    · rw [List.getElem?_append_left hlt] at he
      have hj : j < sz := by have := lt_of_some hx; rw [h.2.1 i e he] at this; exact this
      obtain ⟨v, h1, h2⟩ := h.2.2 i e j x he hx
      exact ⟨v, by rw [List.getElem?_append_left (by rw [h.1]; exact cell_lt hlt hj)]; exact h1, h2⟩
    · rw [List.getElem?_append_right hge] at he
      obtain ⟨v, h1, h2⟩ := k.2.2 _ e j x he hx
      have e1 : i * sz + j - arr.length = (i - es.length) * sz + j := by
        rw [h.1, Nat.sub_mul]
        have : es.length * sz ≤ i * sz := Nat.mul_le_mul_right _ hge
        omega
      exact ⟨v, by rw [List.getElem?_append_right (by rw [h.1]; have : es.length * sz ≤ i * sz := Nat.mul_le_mul_right _ hge; omega), e1]; exact h1, h2⟩

theorem ElemsAt.mono {X' : Ctx} {w' : World} {sz : Nat} {arr : List Value} {es : List AV} (h : ElemsAt X w sz arr es) (g : Grew w w' X.F X'.F X.M X'.M) : ElemsAt X' w' sz arr es :=
  ⟨h.1, h.2.1, fun i e j x he hx => by obtain ⟨v, h1, h2, h3⟩ := h.2.2 i e j x he hx; exact ⟨v, h1, h2, h3.mono g⟩⟩

/-- What an appended slice leads to. -/
theorem elems_sim (H : Inv C X σ w) {q : Value} {y : AV} {ys : List AV × Option Nat} (hq : Rep X σ w q y) (h : elemsA σ y = some ys) :
    ((q = .slice none 0 0 ∨ ∃ a, q = .slice (some a) 0 0 ∧ ys.2 = none) ∧ ys.1 = []) ∨ ∃ ad cap sz news, q = .slice (some ad) ys.1.length cap ∧ ys.2 = some sz ∧ ElemsAt X w sz news ys.1 ∧ (∀ (j : Nat) (v : Value), news[j]? = some v → w.cell? (ad.add j) = some v) := by
  cases y <;> simp only [elemsA, Option.some.injEq, reduceCtorEq] at h
  · subst h
    cases hq with | pure p => cases p; exact .inl ⟨.inl rfl, rfl⟩
  · subst h
    cases hq with | pure p => cases p with | esl a => exact .inl ⟨.inr ⟨a, rfl, rfl⟩, rfl⟩
  · rename_i sz es c
    subst h
    obtain ⟨g, o, cap, val, rfl, h1, h2, h3, h4, h5, h6, h7⟩ := hq.slV
    refine .inr ⟨_, cap, sz, (List.range (es.length * sz)).map (fun k => val (k / sz) (k % sz)), rfl, rfl, ⟨by simp, h3, ?_⟩, ?_⟩
    · intro i e j x he hx
      have hj : j < sz := by have := lt_of_some hx; rw [h3 i e he] at this; exact this
      have hi := lt_of_some he
      refine ⟨val i j, ?_, h6 i e j x he hx, h7 i e j x he hx⟩
      have e1 : (i * sz + j) / sz = i := by rw [Nat.mul_comm, Nat.mul_add_div (by omega), Nat.div_eq_of_lt hj]; omega
      have e2 : (i * sz + j) % sz = j := by rw [Nat.mul_comm, Nat.mul_add_mod, Nat.mod_eq_of_lt hj]
      simp only [List.getElem?_map, List.getElem?_range (cell_lt hi hj), Option.map_some, e1, e2]
    · intro j v hv
      simp only [List.getElem?_map, Option.map_eq_some_iff] at hv
      obtain ⟨k, hk, rfl⟩ := hv
      have hlt : j < es.length * sz := by have := lt_of_some hk; simpa using this
      rw [List.getElem?_range hlt] at hk
      cases hk
      have hsz : 0 < sz := by
        rcases Nat.eq_zero_or_pos sz with h0 | h0
        · subst h0; simp at hlt
        · exact h0
      have hi : j / sz < es.length := by rw [Nat.div_lt_iff_lt_mul hsz]; exact hlt
      obtain ⟨e, he⟩ := some_of_lt hi
      obtain ⟨x, hx⟩ := some_of_lt (l := e.cells) (i := j % sz) (by rw [h3 _ e he]; exact Nat.mod_lt _ hsz)
      have := h4 _ e _ x he hx
      rw [add_plain]
      rw [show o + j / sz * sz + j % sz = o + j by have := Nat.div_add_mod j sz; rw [Nat.mul_comm] at this; omega] at this
      exact this
  · rename_i b off n sz ag
    simp only [Option.bind_eq_some_iff] at h
    obtain ⟨cs, hcs, r, hr, h⟩ := h
    split at h
    case isFalse => cases h
    rename_i hc
    simp only [Option.some.injEq] at h
    subst h
    cases hq with
    | pure p => cases p
    | wsl _ _ _ cap _ _ cs' hb hf hn hag =>
      rw [hcs] at hb
      cases hb
      obtain ⟨hn0, arr, T, hw, hsz, hcell1, hrep, hF1, hF2⟩ := H.box b cs hcs
      obtain ⟨h1, h2⟩ := purAll_spec hr
      have hlen : n * sz ≤ (r.1.drop off).length := by simp only [List.length_drop]; omega
      have e0 : (chunk sz ag n (r.1.drop off)).length = n := chunk_length ..
      refine .inr ⟨⟨(X.box b).1, off, none⟩, cap, sz, ((arr.toList.drop off).take (n * sz)), by rw [e0], rfl, ⟨by rw [e0, List.length_take, List.length_drop, Array.length_toList]; omega, fun i e he => (chunk_cells hlen hag he).2.1, ?_⟩, ?_⟩
      · intro i e j x he hx
        obtain ⟨hi, h3, h5⟩ := chunk_cells hlen hag he
        obtain ⟨hj, y, hy, hxy⟩ := h5 j x hx
        rw [List.getElem?_drop] at hy
        have hk : off + (i * sz + j) < cs.length := by have := lt_of_some hy; omega
        obtain ⟨u, hu⟩ := some_of_size (l := arr) (i := off + (i * sz + j)) (by omega)
        obtain ⟨a0, ha0⟩ := some_of_lt hk
        obtain ⟨t0, e1, _⟩ := h2 _ a0 y ha0 hy
        have hru := hrep _ u a0 hu ha0
        exact ⟨u, by rw [List.getElem?_take, if_pos (cell_lt hi hj), List.getElem?_drop, Array.getElem?_toList]; exact hu, hru.one (all_get hcell1 ha0), (purEmpty_rep H hru e1).cell_of hxy⟩
      · intro j v hv
        rw [List.getElem?_take] at hv
        split at hv
        · rw [List.getElem?_drop, Array.getElem?_toList] at hv
          rw [add_plain]
          exact cell_at hw hv
        · cases hv

theorem run_append_room' {P : Program} {w : World} (t ty e : TypeId) (i : TypeInfo) (ht : P.underlying t = some (.slice e)) (hi : P.info? e = some i)
    (g sLen sCap : Nat) (cur : Array Value) (T : TypeId) (hg : w.heap[g]? = some (.cells cur T (0, 0)))
    (a : Addr) (m c : Nat) (news : List Value) (hl : news.length = m * i.size) (hnews : ∀ j u, news[j]? = some u → w.cell? (a.add j) = some u) (h1 : ∀ u ∈ news, u.oneCell' = true)
    (hroom : sLen + m ≤ sCap) (hfit : sLen * i.size + news.length ≤ cur.size) :
    (Builtin.append_ #[t, t] ty #[.slice (some ⟨g, 0, none⟩) sLen sCap, .slice (some a) m c]).run P w =
      .ok (.slice (some ⟨g, 0, none⟩) (sLen + m) sCap) (w.setRow g (cur.toList.take (sLen * i.size) ++ news ++ cur.toList.drop (sLen * i.size + news.length)).toArray) := by
  have hf := run_firstCells_some (P := P) w i.size m a m c news hl hnews
  have hst := run_storeCells_at P g (sLen * i.size) T news 0 cur w hg (by simpa using hfit) h1
  simp only [Nat.add_zero] at hst
  simp [Builtin.append_, run_underlying ht, sizeOf, typeInfo, hi, Builtin.lenOf, hroom, hf, add_plain, hst]

theorem run_append_none {P : Program} {w : World} (t ty e : TypeId) (i : TypeInfo) (ht : P.underlying t = some (.slice e)) (hi : P.info? e = some i) (base : Option Addr) (n c : Nat) (hnc : n ≤ c) (q : Value) (hq : (∃ ad cap, q = .slice (some ad) 0 cap) ∨ q = .slice none 0 0) :
    (Builtin.append_ #[t, t] ty #[.slice base n c, q]).run P w = .ok (.slice base n c) w := by
  have hl : ∀ (x : Addr), (loadCells x 0).run P w = .ok #[] w := fun x => by simpa using run_loadCells_list (P := P) w x [] (by simp)
  rcases hq with ⟨ad, cap, rfl⟩ | rfl <;> cases base <;> simp [Builtin.append_, run_underlying ht, sizeOf, typeInfo, hi, Builtin.lenOf, hnc, Builtin.firstCells, hl, storeCells]

theorem flat_get {sz : Nat} : ∀ {es : List AV}, (∀ (i : Nat) (e : AV), es[i]? = some e → e.cells.length = sz) → (es.flatMap AV.cells).length = es.length * sz ∧ ∀ (k : Nat) (c : AV), (es.flatMap AV.cells)[k]? = some c → ∃ i e j, es[i]? = some e ∧ e.cells[j]? = some c ∧ k = i * sz + j
  | [], _ => ⟨by simp, fun k c h => by simp at h⟩
  | e :: es, h => by
    obtain ⟨h1, h2⟩ := flat_get (es := es) fun i e' he => h (i + 1) e' (by simpa using he)
    have he := h 0 e rfl
    refine ⟨by simp only [List.flatMap_cons, List.length_append, h1, he, List.length_cons, Nat.add_mul, Nat.one_mul]; omega, fun k c hk => ?_⟩
    simp only [List.flatMap_cons] at hk
    rcases Nat.lt_or_ge k sz with hlt | hge
    · rw [List.getElem?_append_left (by omega)] at hk
      exact ⟨0, e, k, rfl, hk, by omega⟩
    · rw [List.getElem?_append_right (by omega), he] at hk
      obtain ⟨i, e', j, h3, h4, h5⟩ := h2 _ c hk
      exact ⟨i + 1, e', j, by simpa using h3, h4, by rw [Nat.add_mul, Nat.one_mul]; omega⟩

/-- A new row, in a block that has just been laid. -/
theorem grown_sim (H : Inv C X σ w) {sz cap : Nat} {ag wf : Bool} {es : List AV} {news : List Value} {zs : Array Value} {T : TypeId} {r : AV} {σ' : St} (hel : ElemsAt X w sz news es) (hag : ag = true ∨ sz = 1) (hsz : 0 < sz) (hcap : es.length ≤ cap) (hz : news.length + zs.size = cap * sz)
    (h : grown σ wf sz ag es = some (r, σ')) : ∃ X', Ext X X' σ σ' w (w.alloc (.cells (news.toArray ++ zs) T)) ∧ Inv C X' σ' (w.alloc (.cells (news.toArray ++ zs) T)) ∧ Rep X' σ' (w.alloc (.cells (news.toArray ++ zs) T)) (.slice (some ⟨w.heap.size, 0, none⟩) es.length cap) r := by
  have hsize : (news.toArray ++ zs).size = cap * sz := by simp [hz]
  cases wf with
  | true =>
    simp only [grown, if_true] at h
    split at h
    case isFalse => cases h
    rename_i hcell
    simp only [Option.some.injEq, Prod.mk.injEq] at h
    obtain ⟨rfl, rfl⟩ := h
    obtain ⟨f1, f2⟩ := flat_get hel.2.1
    have hle : es.length * sz ≤ cap * sz := Nat.mul_le_mul_right _ hcap
    obtain ⟨E, HI, hb⟩ := new_box H (news.toArray ++ zs) T (es.flatMap AV.cells) (by rw [f1, hsize]; exact hle) hcell (fun k v c hv hc => by
      obtain ⟨i, e, j, h1, h2, rfl⟩ := f2 k c hc
      obtain ⟨u, g1, _, g3⟩ := hel.2.2 i e j c h1 h2
      have : (news.toArray ++ zs)[i * sz + j]? = some u := by
        rw [Array.getElem?_append_left (by simpa using lt_of_some g1)]
        simpa using g1
      rw [this] at hv
      cases hv
      exact .pure g3)
    refine ⟨_, E, HI, ?_⟩
    have := Rep.wsl (X := withBox X σ.boxes.length (w.heap.size, (news.toArray ++ zs).size)) (σ := { σ with boxes := σ.boxes ++ [es.flatMap AV.cells] }) (w := w.alloc (.cells (news.toArray ++ zs) T)) σ.boxes.length 0 es.length cap sz ag (es.flatMap AV.cells) (by simp) (by rw [hb]; show 0 + cap * sz ≤ (news.toArray ++ zs).size; rw [hsize]; omega) hcap hag
    rw [hb] at this
    exact this
  | false =>
    simp only [grown, Bool.false_eq_true, if_false, Option.some.injEq, Prod.mk.injEq] at h
    obtain ⟨rfl, rfl⟩ := h
    have hM := move_chain H (c := σ.chains.length) (chs := σ.chains ++ [(es.length, sz)]) (arr := news.toArray ++ zs) (T := T) (n := es.length) (sz := sz) (cap := cap) (Nat.le_refl _)
      (fun i x hi => by
        rcases Nat.lt_or_ge i σ.chains.length with hlt | hge
        · rw [List.getElem?_append_left hlt]
        · have : σ.chains.length < i := by omega
          rw [List.getElem?_eq_none (by simp; omega), List.getElem?_eq_none (by omega)])
      (by simp) (fun m s hm => absurd (lt_of_some hm) (Nat.lt_irrefl _)) hsz hcap hsize
    refine ⟨_, hM.1, hM.2, ?_⟩
    refine chain_rep heap_new hcap hsize hel.2.1 (fun o ho => .inr ⟨rfl, ho⟩) (fun i e j x he hx => ?_) (by simp) (withTip_tip ..)
    obtain ⟨v, g1, g2, g3⟩ := hel.2.2 i e j x he hx
    exact ⟨v, by rw [Array.getElem?_append_left (by simpa using lt_of_some g1)]; simpa using g1, g2, g3.mono hM.1.grew⟩

theorem app_sim (H : Inv C X σ w) {t e : TypeId} {a b : ATy} (ht : TyOf P t a) (hk : a.kind = .sl e) (hb : TyOf P e b) (hbs : b.size ≠ 0) (hby : b.bytes ≠ 0) {p q : Value} {x y r : AV} {σ' : St} (hp : Rep X σ w p x) (hq : Rep X σ w q y) {wf : Bool} (ty : TypeId)
    (h : appA σ wf b.size b.bytes b.kind.agg x y = some (r, σ')) : ∃ X' w' u, (Builtin.append_ #[t, t] ty #[p, q]).run P w = .ok u w' ∧ Ext X X' σ σ' w w' ∧ Inv C X' σ' w' ∧ Rep X' σ' w' u r := by
  simp only [appA, Option.bind_eq_some_iff] at h
  obtain ⟨ys, hys, h⟩ := h
  have hu := ht.slice hk
  obtain ⟨i, hi, his, hib, z, hz, hzc⟩ := hb.info
  have hsz : 0 < b.size := Nat.pos_of_ne_zero hbs
  have hzs : z.cells.size = b.size := by have := (mapM_get hzc).1; rw [hb.zeroLen] at this; simpa using this.symm
  split at h
  · -- nothing is appended
    rename_i hnil
    split at h
    case isFalse => cases h
    rename_i hsl
    simp only [Option.some.injEq, Prod.mk.injEq] at h
    obtain ⟨rfl, rfl⟩ := h
    have hq' : (∃ ad cap, q = .slice (some ad) 0 cap) ∨ q = .slice none 0 0 := by
      rcases elems_sim H hq hys with ⟨rfl | ⟨a, rfl, _⟩, _⟩ | ⟨ad, cap, sz, news, rfl, _⟩
      · exact .inr rfl
      · exact .inl ⟨a, 0, rfl⟩
      · exact .inl ⟨ad, cap, by rw [hnil]; rfl⟩
    cases x <;> simp only [isSl, Bool.false_eq_true] at hsl
    · cases hp with
      | pure pp =>
        cases pp
        exact ⟨X, w, _, run_append_none t ty e i hu hi none 0 0 (Nat.le_refl _) q hq', .refl .., H, .pure .nils⟩
    · cases hp with
      | pure pp =>
        cases pp with
        | esl a => exact ⟨X, w, _, run_append_none t ty e i hu hi (some a) 0 0 (Nat.le_refl _) q hq', .refl .., H, .pure (.esl a)⟩
    · have hp' := hp
      obtain ⟨g, o, cap, val, rfl, h1, _⟩ := hp.slV
      exact ⟨X, w, _, run_append_none t ty e i hu hi _ _ _ h1 q hq', .refl .., H, hp'⟩
    · rename_i bx off n sz ag
      cases hp with
      | pure pp => cases pp
      | wsl _ _ _ cap _ _ cs hbx hf hn hag =>
        exact ⟨X, w, _, run_append_none t ty e i hu hi _ _ _ hn q hq', .refl .., H, .wsl bx off n cap sz ag cs hbx hf hn hag⟩
  · rename_i hne
    split at h
    case isFalse => cases h
    rename_i hsome
    rcases elems_sim H hq hys with ⟨_, hnil⟩ | ⟨ad, capq, sz, news, rfl, hsz', hel, hnews⟩
    · exact absurd hnil hne
    rw [hsome] at hsz'
    cases hsz'
    have hpos : 0 < ys.1.length := List.length_pos_iff.2 hne
    have hnl : news.length = ys.1.length * i.size := by rw [his]; exact hel.1
    have hone : ∀ u ∈ news, u.oneCell' = true := by
      intro u hu'
      obtain ⟨k, hk'⟩ := List.mem_iff_getElem?.1 hu'
      have hlt : k < ys.1.length * b.size := by have := lt_of_some hk'; rw [hel.1] at this; exact this
      have hi' : k / b.size < ys.1.length := by rw [Nat.div_lt_iff_lt_mul hsz]; exact hlt
      obtain ⟨e', he'⟩ := some_of_lt hi'
      obtain ⟨x', hx'⟩ := some_of_lt (l := e'.cells) (i := k % b.size) (by rw [hel.2.1 _ e' he']; exact Nat.mod_lt _ hsz)
      obtain ⟨v, g1, g2, _⟩ := hel.2.2 _ e' _ x' he' hx'
      rw [show k / b.size * b.size + k % b.size = k by rw [Nat.mul_comm]; exact Nat.div_add_mod k b.size, hk'] at g1
      cases g1
      exact g2
    have small : ∀ n : Nat, n * b.bytes ≤ 140737488355328 → (n : Int) ≤ 9223372036854775807 := by
      intro n hn
      have : n * 1 ≤ n * b.bytes := Nat.mul_le_mul_left _ (Nat.pos_of_ne_zero hby)
      omega
    cases x <;> simp only [reduceCtorEq] at h
    · -- nil
      split at h
      case isFalse => cases h
      rename_i hbytes
      cases hp with
      | pure pp =>
        cases pp
        have hrun := run_append_nil (P := P) w t ty e i z hu hi hz ad ys.1.length capq news hnl hnews hpos (small _ hbytes) (by rw [hib]; omega)
        have hge := grownCap_ge w ys.1.length 0 e
        obtain ⟨X', E, HI, hr⟩ := grown_sim (inv_drew H) (T := e) (zs := Builtin.zeroCells z.cells (grownCap w ys.1.length 0 e - ys.1.length)) (hel.mono (ext_drew X σ w).grew) (TyOf.one hb) hsz hge
          (by rw [size_zeroCells, hzs, hel.1, ← Nat.add_mul]; congr 1; omega) h
        exact ⟨X', _, _, hrun, (ext_drew X σ w).trans E, HI, hr⟩
    · -- empty, somewhere
      split at h
      case isFalse => cases h
      rename_i hbytes
      cases hp with
      | pure pp =>
        cases pp with
        | esl a0 =>
          have hrun := run_append_grow (P := P) w t ty e i z hu hi hz a0 0 0 [] (by simp) (by simp) ad ys.1.length capq news hnl hnews (by omega) (small _ (by simpa using hbytes)) (growslice_fits (by omega) (by rw [hib]; simpa using hbytes))
          have hge := grownCap_ge w (0 + ys.1.length) 0 e
          obtain ⟨X', E, HI, hr⟩ := grown_sim (inv_drew H) (T := e) (cap := grownCap w (0 + ys.1.length) 0 e) (zs := Builtin.zeroCells z.cells (grownCap w (0 + ys.1.length) 0 e - (0 + ys.1.length))) (hel.mono (ext_drew X σ w).grew) (TyOf.one hb) hsz (by omega)
            (by rw [size_zeroCells, hzs, hel.1, ← Nat.add_mul]; congr 1; omega) h
          refine ⟨X', _, _, ?_, (ext_drew X σ w).trans E, HI, hr⟩
          rw [hrun]
          simp
    · rename_i sz' es c
      split at h
      case isFalse => cases h
      rename_i hc
      obtain ⟨rfl, hbytes⟩ := hc
      simp only [List.length_append] at hbytes
      have hp' := hp
      obtain ⟨g, o, cap, val, rfl, h1, h2, h3, h4, h5, h6, h7⟩ := hp.slV
      obtain ⟨ad0, cap0, sz0, olds, he0, hs0, hel0, holds⟩ := (elems_sim H hp' (ys := (es, some b.size)) rfl).resolve_left (by rintro ⟨h | ⟨_, _, h⟩, _⟩ <;> cases h)
      cases he0
      cases hs0
      have hel0 : ElemsAt X w b.size olds es := hel0
      have hol : olds.length = es.length * i.size := by rw [his]; exact hel0.1
      have grow : ∀ {r : AV} {σ' : St}, cap < es.length + ys.1.length → grown σ wf b.size b.kind.agg (es ++ ys.1) = some (r, σ') → ∃ X' w' u, (Builtin.append_ #[t, t] ty #[.slice (some ⟨g, o, none⟩) es.length cap, .slice (some ad) ys.1.length capq]).run P w = .ok u w' ∧ Ext X X' σ σ' w w' ∧ Inv C X' σ' w' ∧ Rep X' σ' w' u r := by
        intro r σ' hlt h
        have hrun := run_append_grow (P := P) w t ty e i z hu hi hz ⟨g, o, none⟩ es.length cap olds hol holds ad ys.1.length capq news hnl hnews hlt (small _ hbytes) (growslice_fits hlt (by rw [hib]; exact hbytes))
        have hge := grownCap_ge w (es.length + ys.1.length) cap e
        obtain ⟨X', E, HI, hr⟩ := grown_sim (inv_drew H) (T := e) (cap := grownCap w (es.length + ys.1.length) cap e) (zs := Builtin.zeroCells z.cells (grownCap w (es.length + ys.1.length) cap e - (es.length + ys.1.length))) ((hel0.append hel).mono (ext_drew X σ w).grew) (TyOf.one hb) hsz (by rw [List.length_append]; exact hge)
          (by rw [size_zeroCells, hzs, List.length_append, hel0.1, hel.1, ← Nat.add_mul, ← Nat.add_mul]; congr 1; omega) h
        refine ⟨X', _, _, ?_, (ext_drew X σ w).trans E, HI, hr⟩
        rw [hrun]
        simp only [List.length_append, List.append_toArray]
        rfl
      cases c with
      | no => cases h
      | full =>
        have hcap := h2 rfl
        exact grow (by omega) h
      | chain c =>
        simp only at h
        split at h
        case isFalse => cases h
        rename_i hch
        simp only [Option.some.injEq, Prod.mk.injEq] at h
        obtain ⟨rfl, rfl⟩ := h
        -- the tip of its chain
        have htip : X.tip c = (g, cap) ∧ o = 0 := by
          generalize hv : Value.slice (some ⟨g, o, none⟩) es.length cap = v at hp'
          cases hp' with
          | pure pp =>
            cases pp with
            | sl _ _ _ _ _ _ _ hcc => rcases hcc with h | ⟨h, _⟩ <;> cases h
          | chain g' cap' _ _ _ n s hn hle ht pp =>
            rw [hch] at hn
            cases hn
            cases hv
            exact ⟨(ht rfl).1, rfl⟩
        obtain ⟨htip, rfl⟩ := htip
        obtain ⟨k0, k1, k2, arr, T, k3, k4, k5⟩ := H.chain c _ _ hch
        rw [htip] at k0 k2 k3 k4 k5
        have k3' : w.heap[g]? = some (.cells arr T (0, 0)) := k3
        have k4' : arr.size = cap * b.size := k4
        by_cases hroom : es.length + ys.1.length ≤ cap
        · -- where it lies
          have hfit : es.length * i.size + news.length ≤ arr.size := by rw [hnl, k4', his, ← Nat.add_mul]; exact Nat.mul_le_mul_right _ hroom
          have hrun := run_append_room' (P := P) (w := w) t ty e i hu hi g es.length cap arr T k3' ad ys.1.length capq news hnl hnews hone hroom hfit
          rw [his] at hrun hfit
          have hG := grow_chain H hch htip (n := (es ++ ys.1).length) (by rw [List.length_append]; omega) (by rw [List.length_append]; exact hroom) (arr' := (arr.toList.take (es.length * b.size) ++ news ++ arr.toList.drop (es.length * b.size + news.length)).toArray) k3'
            (by simp only [List.size_toArray, List.length_append, List.length_take, List.length_drop, Array.length_toList]; omega)
            (fun k hk' => by
              have hal : arr.toList.length = arr.size := by simp
              simp only [List.getElem?_toArray]
              rw [List.append_assoc, List.getElem?_append_left (by rw [List.length_take]; omega), List.getElem?_take, if_pos hk', Array.getElem?_toList])
          refine ⟨_, _, _, hrun, hG.1, hG.2, ?_⟩
          rw [show es.length + ys.1.length = (es ++ ys.1).length by rw [List.length_append]]
          have hold : ∀ (k : Nat) (v : Value), olds[k]? = some v → arr[k]? = some v := by
            intro k v hv
            have := holds k v hv
            rw [add_plain, Nat.zero_add] at this
            simpa [World.cell?, k3'] using this
          refine chain_rep (setRow_heap w g arr _ T _ k3') (by rw [List.length_append]; exact hroom) (by simp only [List.size_toArray, List.length_append, List.length_take, List.length_drop, Array.length_toList]; omega) (hel0.append hel).2.1 (fun o ho => .inr ⟨rfl, ho⟩) (fun i' e' j x' he' hx' => ?_) (by simp [lt_of_some hch]) htip
          obtain ⟨v, g1, g2, g3⟩ := (hel0.append hel).2.2 i' e' j x' he' hx'
          refine ⟨v, ?_, g2, g3.mono hG.1.grew⟩
          simp only [List.getElem?_toArray]
          rcases Nat.lt_or_ge (i' * b.size + j) olds.length with hlt | hge
          · rw [List.getElem?_append_left hlt] at g1
            have hal : arr.toList.length = arr.size := by simp
            rw [List.append_assoc, List.getElem?_append_left (by rw [List.length_take]; have := hel0.1; omega), List.getElem?_take, if_pos (by have := hel0.1; omega), Array.getElem?_toList]
            exact hold _ v g1
          · rw [List.getElem?_append_right hge] at g1
            have hlo : olds.length = es.length * b.size := hel0.1
            have hn2 := lt_of_some g1
            have hal : arr.toList.length = arr.size := by simp
            rw [List.append_assoc, List.getElem?_append_right (by rw [List.length_take]; omega), List.length_take, List.getElem?_append_left (by omega)]
            rw [show min (es.length * b.size) arr.toList.length = olds.length by omega]
            exact g1
        · -- in a new block
          have hlt : cap < es.length + ys.1.length := by omega
          have hrun := run_append_grow (P := P) w t ty e i z hu hi hz ⟨g, 0, none⟩ es.length cap olds hol holds ad ys.1.length capq news hnl hnews hlt (small _ hbytes) (growslice_fits hlt (by rw [hib]; exact hbytes))
          have hge := grownCap_ge w (es.length + ys.1.length) cap e
          have hsize : (olds.toArray ++ news.toArray ++ Builtin.zeroCells z.cells (grownCap w (es.length + ys.1.length) cap e - (es.length + ys.1.length))).size = grownCap w (es.length + ys.1.length) cap e * b.size := by
            simp only [Array.size_append, List.size_toArray, size_zeroCells, hzs, hel0.1, hel.1, ← Nat.add_mul]; congr 1; omega
          have hM := move_chain (inv_drew H) (c := c) (chs := σ.chains.set c ((es ++ ys.1).length, b.size)) (arr := olds.toArray ++ news.toArray ++ Builtin.zeroCells z.cells (grownCap w (es.length + ys.1.length) cap e - (es.length + ys.1.length))) (T := e) (n := (es ++ ys.1).length) (sz := b.size)
            (cap := grownCap w (es.length + ys.1.length) cap e) (Nat.le_of_lt (lt_of_some hch)) (fun i x hi => by rw [List.getElem?_set_ne (Ne.symm hi)]) (by simp [lt_of_some hch]) (fun m s hm => by rw [hch] at hm; cases hm; rw [List.length_append]; exact ⟨by omega, rfl⟩) hsz (by rw [List.length_append]; exact hge) hsize
          refine ⟨_, _, _, hrun, (ext_drew X σ w).trans hM.1, hM.2, ?_⟩
          rw [show es.length + ys.1.length = (es ++ ys.1).length by rw [List.length_append]] at hsize hM ⊢
          refine chain_rep heap_new (by rw [List.length_append]; exact hge) hsize (hel0.append hel).2.1 (fun o ho => .inr ⟨rfl, ho⟩) (fun i' e' j x' he' hx' => ?_) (by simp [lt_of_some hch]) (withTip_tip ..)
          obtain ⟨v, g1, g2, g3⟩ := (hel0.append hel).2.2 i' e' j x' he' hx'
          refine ⟨v, ?_, g2, g3.mono ((ext_drew X σ w).trans hM.1).grew⟩
          have hlt' := lt_of_some g1
          rw [Array.getElem?_append_left (by simpa using hlt')]
          simpa using g1
    · -- a row that is written
      rename_i bx off n sz' ag'
      simp only [Option.bind_eq_some_iff] at h
      obtain ⟨cs, hcs, h⟩ := h
      split at h
      case isFalse => cases h
      rename_i hc
      obtain ⟨rfl, hn0, rfl, rfl, rfl, hcl, hro, hbytes, hcell⟩ := hc
      simp only [Option.some.injEq, Prod.mk.injEq] at h
      obtain ⟨rfl, rfl⟩ := h
      cases hp with
      | pure pp => cases pp
      | wsl _ _ _ cap _ _ cs' hbx hf hn hag =>
        obtain ⟨k0, arr, T, k1, k2, k3, k4, k5, k6⟩ := H.box bx cs hcs
        have hblt := lt_of_some hcs
        obtain ⟨f1, f2⟩ := flat_get hel.2.1
        have hnl' : news.length = ys.1.length * b.size := hel.1
        -- what lies there
        have hal : arr.toList.length = arr.size := by simp
        have hol : (arr.toList.take (n * b.size)).length = n * i.size := by rw [List.length_take, his]; omega
        have holds : ∀ (j : Nat) (v : Value), (arr.toList.take (n * b.size))[j]? = some v → w.cell? ((⟨(X.box bx).1, 0, none⟩ : Addr).add j) = some v := by
          intro j v hv
          rw [List.getElem?_take] at hv
          split at hv
          · rw [add_plain, Nat.zero_add]
            exact cell_at k1 (by simpa using hv)
          · cases hv
        obtain ⟨E1, H1⟩ := kill_box H bx
        have hone' : ∀ x ∈ cs ++ ys.1.flatMap AV.cells, x.isCell = true := by
          intro x hx
          rcases List.mem_append.1 hx with h | h
          · exact List.all_eq_true.1 k3 x h
          · exact List.all_eq_true.1 hcell x h
        have hlen : (cs ++ ys.1.flatMap AV.cells).length = (n + ys.1.length) * b.size := by rw [List.length_append, hcl, f1, Nat.add_mul]
        -- the cells, wherever they lie
        have cells : ∀ {vs : List Value}, (∀ j, j < n * b.size → vs[j]? = arr[j]?) → (∀ j, j < news.length → vs[n * b.size + j]? = news[j]?) → ∀ (j : Nat) (v : Value) (c : AV), vs[j]? = some v → (cs ++ ys.1.flatMap AV.cells)[j]? = some c → Rep X σ w v c := by
          intro vs g1 g2 j v c hv hc
          rcases Nat.lt_or_ge j cs.length with hlt | hge
          · rw [List.getElem?_append_left hlt] at hc
            rw [g1 j (by omega)] at hv
            exact k4 j v c hv hc
          · rw [List.getElem?_append_right hge] at hc
            obtain ⟨i', e', j', h1, h2, h3⟩ := f2 _ c hc
            obtain ⟨u, l1, _, l3⟩ := hel.2.2 i' e' j' c h1 h2
            have hlt2 := lt_of_some l1
            have := g2 (i' * b.size + j') hlt2
            rw [show n * b.size + (i' * b.size + j') = j by omega, hv, l1] at this
            cases this
            exact .pure l3
        by_cases hroom : n + ys.1.length ≤ cap
        · -- where it lies
          have hm : (n + ys.1.length) * b.size ≤ cap * b.size := Nat.mul_le_mul_right _ hroom
          have hm2 : (n + ys.1.length) * b.size = n * b.size + ys.1.length * b.size := Nat.add_mul ..
          have hfit : n * i.size + news.length ≤ arr.size := by rw [hnl', his]; omega
          have hrun := run_append_room' (P := P) (w := w) t ty e i hu hi (X.box bx).1 n cap arr T k1 ad ys.1.length capq news hnl hnews hone hroom hfit
          rw [his] at hrun hfit
          have hR := re_box H1 (b := bx) (by rw [List.getElem?_set_self hblt]) hro (fun b' hb' hlv he => by
              have hb'' : b' < σ.boxes.length := by simpa using hb'
              by_cases hbb : bx = b'
              · subst hbb; exact hlv (by rw [List.getElem?_set_self hblt])
              · have hlv' : σ.boxes[b']? ≠ some [] := fun hh => hlv (by rw [List.getElem?_set_ne hbb]; exact hh)
                by_cases hcs0 : cs = []
                · rw [hcs0] at hcl
                  have := Nat.mul_pos hn0 hsz
                  simp at hcl
                  omega
                · exact hbb (H.boxInj b' bx hb'' hblt hlv' (by rw [hcs]; simpa using hcs0) he).symm)
            (arr := arr) (arr' := (arr.toList.take (n * b.size) ++ news ++ arr.toList.drop (n * b.size + news.length)).toArray) (T := T) k1
            (by simp only [List.size_toArray, List.length_append, List.length_take, List.length_drop, Array.length_toList]; omega) (cs := cs ++ ys.1.flatMap AV.cells) (by rw [hlen]; omega) (List.all_eq_true.2 hone')
            (fun j v c hv hc => by
              refine (cells (vs := arr.toList.take (n * b.size) ++ news ++ arr.toList.drop (n * b.size + news.length)) (fun j hj => ?_) (fun j hj => ?_) j v c (by simpa using hv) hc).mono E1
              · rw [List.append_assoc, List.getElem?_append_left (by rw [List.length_take]; omega), List.getElem?_take, if_pos hj, Array.getElem?_toList]
              · rw [List.append_assoc, List.getElem?_append_right (by rw [List.length_take]; omega), List.length_take, List.getElem?_append_left (by omega)]
                rw [show n * b.size + j - min (n * b.size) arr.toList.length = j by omega])
          obtain ⟨E2, H2, hbox⟩ := hR
          refine ⟨_, _, _, hrun, E1.trans E2, by simpa using H2, ?_⟩
          have := Rep.wsl (X := withBox X σ.boxes.length (X.box bx)) (σ := { σ with boxes := σ.boxes.set bx [] ++ [cs ++ ys.1.flatMap AV.cells] }) (w := w.setRow (X.box bx).1 (arr.toList.take (n * b.size) ++ news ++ arr.toList.drop (n * b.size + news.length)).toArray) σ.boxes.length 0 (n + ys.1.length) cap b.size b.kind.agg (cs ++ ys.1.flatMap AV.cells) (by simp)
            (by have hb2 : (withBox X σ.boxes.length (X.box bx)).box σ.boxes.length = X.box bx := by simpa using hbox
                rw [hb2]; exact hf) hroom hag
          have hb2 : (withBox X σ.boxes.length (X.box bx)).box σ.boxes.length = X.box bx := by simpa using hbox
          rw [hb2] at this
          simpa using this
        · -- in a new block
          have hlt : cap < n + ys.1.length := by omega
          have hrun := run_append_grow (P := P) w t ty e i z hu hi hz ⟨(X.box bx).1, 0, none⟩ n cap (arr.toList.take (n * b.size)) hol holds ad ys.1.length capq news hnl hnews hlt (small _ hbytes) (growslice_fits hlt (by rw [hib]; exact hbytes))
          have hge := grownCap_ge w (n + ys.1.length) cap e
          have hm2 : (n + ys.1.length) * b.size = n * b.size + ys.1.length * b.size := Nat.add_mul ..
          have hsize : ((arr.toList.take (n * b.size)).toArray ++ news.toArray ++ Builtin.zeroCells z.cells (grownCap w (n + ys.1.length) cap e - (n + ys.1.length))).size = grownCap w (n + ys.1.length) cap e * b.size := by
            simp only [Array.size_append, List.size_toArray, size_zeroCells, hzs, hnl']
            rw [List.length_take, Nat.min_eq_left (by omega), ← Nat.add_mul, ← Nat.add_mul]; congr 1; omega
          obtain ⟨E2, H2, hbox⟩ := new_box (inv_drew H1) ((arr.toList.take (n * b.size)).toArray ++ news.toArray ++ Builtin.zeroCells z.cells (grownCap w (n + ys.1.length) cap e - (n + ys.1.length))) e (cs ++ ys.1.flatMap AV.cells)
            (by rw [hlen, hsize]; exact Nat.mul_le_mul_right _ hge) (List.all_eq_true.2 hone') (fun j v c hv hc => by
              have hj : j < (n + ys.1.length) * b.size := by have := lt_of_some hc; omega
              refine ((cells (vs := arr.toList.take (n * b.size) ++ news) (fun j hj => ?_) (fun j hj => ?_) j v c ?_ hc).mono E1).mono (ext_drew ..)
              · rw [List.getElem?_append_left (by rw [List.length_take]; omega), List.getElem?_take, if_pos hj, Array.getElem?_toList]
              · rw [List.getElem?_append_right (by rw [List.length_take]; omega), List.length_take]
                rw [show n * b.size + j - min (n * b.size) arr.toList.length = j by omega]
              · rw [Array.getElem?_append_left (by simp only [Array.size_append, List.size_toArray, List.length_take]; omega)] at hv
                simpa using hv)
          refine ⟨_, _, _, hrun, (E1.trans (ext_drew ..)).trans E2, by simpa using H2, ?_⟩
          have hb2 := hbox
          have := Rep.wsl (X := withBox X σ.boxes.length (w.drew.heap.size, ((arr.toList.take (n * b.size)).toArray ++ news.toArray ++ Builtin.zeroCells z.cells (grownCap w (n + ys.1.length) cap e - (n + ys.1.length))).size)) (σ := { σ with boxes := σ.boxes.set bx [] ++ [cs ++ ys.1.flatMap AV.cells] }) (w := w.drew.alloc (.cells ((arr.toList.take (n * b.size)).toArray ++ news.toArray ++ Builtin.zeroCells z.cells (grownCap w (n + ys.1.length) cap e - (n + ys.1.length))) e)) σ.boxes.length 0 (n + ys.1.length) (grownCap w (n + ys.1.length) cap e) b.size b.kind.agg (cs ++ ys.1.flatMap AV.cells) (by simp)
            (by have hb3 := hb2; simp only [List.length_set] at hb3; rw [hb3]; show 0 + _ ≤ _; rw [hsize]; omega) hge hag
          have hb3 := hb2
          simp only [List.length_set] at hb3
          rw [hb3] at this
          simpa using this

end
end Go.Ai

set_option linter.unusedVariables false
set_option linter.unusedSimpArgs false
namespace Go.Ai
section
variable {C : Cfg} {X : Ctx} {σ : St} {w : World} {P : Program}

theorem run_places (w : World) : ∀ (fs : List Field), (∀ f ∈ fs, ∃ a, TyOf P f.type a) → (fs.mapM (m := Sem) fun f => do pure (f.offset, ← sizeOf f.type)).run P w = .ok (fs.map fun f => (f.offset, ((P.info? f.type).map (·.size)).getD 0)) w
  | [], _ => by simp
  | f :: fs, h => by
    obtain ⟨a, ha⟩ := h f (by simp)
    obtain ⟨i, hi, _⟩ := ha.info
    have ih := run_places w fs fun g hg => h g (by simp [hg])
    simp only [List.mapM_cons, Sem.run_bind, ha.sizeOf, Result.andThen_ok, Sem.run_pure, ih, List.map_cons]
    obtain ⟨i', hi', hs, _⟩ := ha.info
    rw [hi] at hi'
    cases hi'
    simp [hi, hs]

theorem PRep.cellsOf {F : Nat → Nat → Prop} {M : Nat → Prop} {v : Value} {x : AV} (hpp : PRep w F M v x) (hc : x.cells.all AV.isCell = true) : ∀ (i : Nat) (u : Value) (c : AV), v.cells[i]? = some u → x.cells[i]? = some c → PRep w F M u c := by
  have scalar : x.isCell = true → x.cells = [x] → ∀ (i : Nat) (u : Value) (c : AV), v.cells[i]? = some u → x.cells[i]? = some c → PRep w F M u c := by
    intro h1 h2 i u c hu hc
    have h3 := hpp.one h1
    have h4 : v.cells = #[v] := by cases v <;> first | rfl | cases h3
    rw [h4] at hu
    rw [h2] at hc
    cases i with
    | zero =>
      simp at hu hc
      subst hu hc
      exact hpp
    | succ i => simp at hc
  cases x with
  | agg cs =>
    intro i u c hu hc
    cases hpp with | agg vs _ hl hh => exact hh i u c hu hc
  | any => simp [AV.cells, AV.isCell] at hc
  | undef => simp [AV.cells, AV.isCell] at hc
  | tup => simp [AV.cells, AV.isCell] at hc
  | _ => exact scalar rfl rfl

theorem zeroCells_rep {t : TypeId} {a : ATy} (ht : TyOf P t a) : ∃ z, (zeroValue t).run P w = .ok z w ∧ z.cells.size = a.zero.length ∧ ∀ (i : Nat) (u : Value) (c : AV), z.cells[i]? = some u → a.zero[i]? = some c → Rep X σ w u c := by
  obtain ⟨d, i, v, hd, hi, hv, hk, hs, hb, hm, hl, hag⟩ := ht
  have hp := constA_cells (w := w) (F := X.F) (M := X.M) hm
  exact ⟨v, by simp [zeroValue, typeInfo, hi, hv], by simpa using hp.1, fun i u c hu hc => .pure (hp.2 i u c (by simpa using hu) hc)⟩

/-- The parts of a composite. -/
def PartsOf (X : Ctx) (σ : St) (w : World) (place : Nat → Option (Nat × Nat)) (ps : List (Nat × Value)) (qs : List (Nat × Nat × AV)) : Prop :=
  ps.length = qs.length ∧ ∀ (i : Nat) (p : Nat × Value) (q : Nat × Nat × AV), ps[i]? = some p → qs[i]? = some q → place p.1 = some (q.1, q.2.1) ∧ Rep X σ w p.2 q.2.2

theorem bld_st {t : TypeId} {a : ATy} {fs : List (Nat × TypeId)} (ht : TyOf P t a) (hk : a.kind = .st fs) (hall : ∀ f ∈ fs, ∃ b, TyOf P f.2 b) {parts : Array (Nat × Value)} {qs : List (Nat × Nat × AV)} {ds : List AV}
    (hp : PartsOf X σ w (fun i => (fs[i]?).map fun f => (f.1, ((P.info? f.2).map (·.size)).getD 0)) parts.toList qs) (h : fillA qs a.zero = some ds) : ∃ u, (Instr.build t parts).run P w = .ok u w ∧ Rep X σ w u (.agg ds) := by
  obtain ⟨z, hz, hz1, hz2⟩ := zeroCells_rep (X := X) (σ := σ) (w := w) ht
  obtain ⟨fields, hu, hfs⟩ := ht.struct hk
  subst hfs
  have hpl := run_places (P := P) w fields.toList (fun f hf => hall (f.offset, f.type) (List.mem_map.2 ⟨f, hf, rfl⟩))
  obtain ⟨us, f1, f2, f3⟩ := fillA_sim (X := X) (σ := σ) (w := w) (place := fun i => ((fields.toList.map fun f => (f.offset, ((P.info? f.type).map (·.size)).getD 0)).toArray)[i]?) parts.toList qs z.cells a.zero ds hp.1
    (fun i p q h1 h2 => by
      obtain ⟨g1, g2⟩ := hp.2 i p q h1 h2
      refine ⟨?_, g2⟩
      rw [← g1]
      simp [List.getElem?_map, Function.comp_def]) hz1 hz2 h
  refine ⟨.agg us, ?_, .agg us ds f2 f3⟩
  simp only [Instr.build, Sem.run_bind, hz, Result.andThen_ok, run_underlying hu]
  rw [Array.mapM_eq_mapM_toList]
  simp only [Sem.run_map, hpl, Result.andThen_ok, f1, Sem.run_pure]

theorem bld_arr {t e : TypeId} {n : Nat} {a b : ATy} (ht : TyOf P t a) (hk : a.kind = .arr n e) (hb : TyOf P e b) {parts : Array (Nat × Value)} {qs : List (Nat × Nat × AV)} {ds : List AV}
    (hp : PartsOf X σ w (fun i => some (i * b.size, b.size)) parts.toList qs) (h : fillA qs a.zero = some ds) : ∃ u, (Instr.build t parts).run P w = .ok u w ∧ Rep X σ w u (.agg ds) := by
  obtain ⟨z, hz, hz1, hz2⟩ := zeroCells_rep (X := X) (σ := σ) (w := w) ht
  obtain ⟨us, f1, f2, f3⟩ := fillA_sim (X := X) (σ := σ) (w := w) (place := fun i => some (i * b.size, b.size)) parts.toList qs z.cells a.zero ds hp.1 hp.2 hz1 hz2 h
  refine ⟨.agg us, ?_, .agg us ds f2 f3⟩
  simp only [Instr.build, Sem.run_bind, hz, Result.andThen_ok, run_underlying (ht.array hk), hb.sizeOf, f1, Sem.run_pure]

/-! ### A slice's literal -/
theorem foldl_set (off : Nat) : ∀ (us : List Value) (n : Nat) (vs : Array Value), ((us.zipIdx n).foldl (fun (cs : Array Value) (x : Value × Nat) => cs.setIfInBounds (off + x.2) x.1) vs).size = vs.size ∧
    ∀ (i : Nat), i < vs.size → ((us.zipIdx n).foldl (fun (cs : Array Value) (x : Value × Nat) => cs.setIfInBounds (off + x.2) x.1) vs)[i]? = if off + n ≤ i ∧ i < off + n + us.length then us[i - (off + n)]? else vs[i]?
  | [], n, vs => by
    refine ⟨rfl, fun i hi => ?_⟩
    rw [if_neg (by simp)]; rfl
  | u :: us, n, vs => by
    simp only [List.zipIdx_cons, List.foldl_cons]
    obtain ⟨h1, h2⟩ := foldl_set off us (n + 1) (vs.setIfInBounds (off + n) u)
    refine ⟨by rw [h1]; simp, fun i hi => ?_⟩
    rw [h2 i (by simpa using hi)]
    by_cases hi1 : i = off + n
    · subst hi1
      rw [if_neg (by omega), if_pos (by simp only [List.length_cons]; omega)]
      simp [hi]
    · have hne : (vs.setIfInBounds (off + n) u)[i]? = vs[i]? := by rw [Array.getElem?_setIfInBounds_ne]; omega
      by_cases hi2 : off + (n + 1) ≤ i ∧ i < off + (n + 1) + us.length
      · rw [if_pos hi2, if_pos (by simp only [List.length_cons]; omega)]
        rw [show i - (off + n) = (i - (off + (n + 1))) + 1 by omega, List.getElem?_cons_succ]
      · rw [if_neg hi2, hne, if_neg (by simp only [List.length_cons]; omega)]

theorem fillE_sim (H : Inv C X σ w) {sz : Nat} {ag : Bool} : ∀ (ps : List (Nat × Value)) (qs : List (Nat × AV)) (arr : Array Value) (es ds : List AV), ps.length = qs.length →
    (∀ (i : Nat) (p : Nat × Value) (q : Nat × AV), ps[i]? = some p → qs[i]? = some q → p.1 = q.1 ∧ Rep X σ w p.2 q.2) → ElemsAt X w sz arr.toList es → fillE sz ag qs es = some ds →
    ∃ us, Instr.fill (fun i => some (i * sz, sz)) arr ps = some us ∧ ElemsAt X w sz us.toList ds ∧ ds.length = es.length
  | [], [], arr, es, ds, _, _, hel, h => by
    simp only [fillE, Option.some.injEq] at h
    subst h
    exact ⟨arr, rfl, hel, rfl⟩
  | [], _ :: _, _, _, _, h, _, _, _ => by simp at h
  | _ :: _, [], _, _, _, h, _, _, _ => by simp at h
  | p :: ps, q :: qs, arr, es, ds, hlen, hp, hel, h => by
    obtain ⟨hpq, hrep⟩ := hp 0 p q rfl rfl
    simp only [fillE, Option.bind_eq_some_iff] at h
    obtain ⟨r, hr, h⟩ := h
    split at h
    case isFalse => cases h
    rename_i hc
    obtain ⟨c1, c2, c3, c4⟩ := hc
    have hpr : Rep X σ w p.2 r.1 := .pure (purEmpty_rep H hrep (t := r.2) hr)
    obtain ⟨k1, k2, k3⟩ := hpr.cells c4
    -- its cells are pure
    have k2' := (purEmpty_rep H hrep (t := r.2) hr).cellsOf c4
    obtain ⟨s1, s2⟩ := foldl_set (p.1 * sz) p.2.cells.toList 0 arr
    have hzip : p.2.cells.zipIdx.foldl (fun (cs : Array Value) (x : Value × Nat) => cs.setIfInBounds (p.1 * sz + x.2) x.1) arr = (p.2.cells.toList.zipIdx 0).foldl (fun (cs : Array Value) (x : Value × Nat) => cs.setIfInBounds (p.1 * sz + x.2) x.1) arr := by
      rw [← Array.foldl_toList]; simp
    have hpm : p.1 * sz = q.1 * sz := by rw [hpq]
    have hin : p.1 * sz + sz ≤ arr.size := by
      have h1 : (p.1 + 1) * sz ≤ es.length * sz := Nat.mul_le_mul_right _ (by rw [hpq]; exact c3)
      rw [Nat.add_mul, Nat.one_mul] at h1
      have := hel.1
      simp at this
      omega
    obtain ⟨us, f1, f2, f3⟩ := fillE_sim H (sz := sz) (ag := ag) ps qs ((p.2.cells.toList.zipIdx 0).foldl (fun (cs : Array Value) (x : Value × Nat) => cs.setIfInBounds (p.1 * sz + x.2) x.1) arr) (es.set q.1 r.1) ds (by simpa using hlen)
      (fun i p' q' h1 h2 => hp (i + 1) p' q' (by simpa using h1) (by simpa using h2))
      ⟨by rw [Array.length_toList, s1, List.length_set]; simpa using hel.1, fun i e he => by
        rw [List.getElem?_set] at he
        by_cases hiq : q.1 = i
        · rw [if_pos hiq, if_pos c3] at he
          cases he; exact c1
        · rw [if_neg hiq] at he
          exact hel.2.1 i e he, fun i e j x he hx => by
        have hi : i < es.length := by have := lt_of_some he; simpa using this
        have hj : j < sz := by
          have h1 := lt_of_some hx
          rw [List.getElem?_set] at he
          by_cases hiq : q.1 = i
          · rw [if_pos hiq, if_pos c3] at he
            cases he; omega
          · rw [if_neg hiq] at he
            rw [hel.2.1 i e he] at h1; exact h1
        have hk : i * sz + j < arr.size := by have h1 := hel.1; simp at h1; rw [h1]; exact cell_lt hi hj
        rw [Array.getElem?_toList, s2 _ hk]
        rw [List.getElem?_set] at he
        by_cases hiq : q.1 = i
        · rw [if_pos hiq, if_pos c3] at he
          · cases he
            subst hiq
            rw [if_pos (by simp only [Array.length_toList]; omega)]
            obtain ⟨u, hu⟩ := some_of_size (l := p.2.cells) (i := j) (by omega)
            refine ⟨u, ?_, k3 u (List.mem_of_getElem? (by simpa using hu)), k2' j u x hu hx⟩
            rw [Array.getElem?_toList, hpq, show q.1 * sz + j - (q.1 * sz + 0) = j by omega]
            exact hu
        · rw [if_neg hiq] at he
          rw [if_neg (by
            simp only [Array.length_toList, k1, c1, hpq]
            intro ⟨h1, h2⟩
            rcases Nat.lt_or_ge i q.1 with h3 | h3
            · have : (i + 1) * sz ≤ q.1 * sz := Nat.mul_le_mul_right _ h3
              rw [Nat.add_mul, Nat.one_mul] at this
              omega
            · have h4 : q.1 < i := by omega
              have : (q.1 + 1) * sz ≤ i * sz := Nat.mul_le_mul_right _ h4
              rw [Nat.add_mul, Nat.one_mul] at this
              omega)]
          obtain ⟨v, g1, g2⟩ := hel.2.2 i e j x he hx
          exact ⟨v, by simpa using g1, g2⟩⟩ h
    refine ⟨us, ?_, f2, by rw [f3, List.length_set]⟩
    rw [Instr.fill]
    simp only [ne_eq, Bool.or_eq_true, decide_eq_true_eq, gt_iff_lt]
    rw [if_neg (by simp; omega), hzip]
    exact f1

theorem repl_elems {sz n : Nat} {z : AV} {zc : Array Value} (hz : z.cells.length = sz) (hsz : 0 < sz) (hzc : zc.size = sz) (hr : ∀ (j : Nat) (x : AV), z.cells[j]? = some x → ∃ v, zc[j]? = some v ∧ v.oneCell' = true ∧ PRep w X.F X.M v x) :
    ElemsAt X w sz ((Array.range (n * sz)).map (fun k => zc[k % zc.size]!)).toList (List.replicate n z) := by
  refine ⟨by simp, fun i e he => ?_, fun i e j x he hx => ?_⟩
  · have := List.mem_of_getElem? he
    rw [List.mem_replicate] at this
    rw [this.2]; exact hz
  · have hmem := List.mem_of_getElem? he
    rw [List.mem_replicate] at hmem
    obtain ⟨_, rfl⟩ := hmem
    have hi : i < n := by have := lt_of_some he; simpa using this
    have hj : j < sz := by have := lt_of_some hx; omega
    obtain ⟨v, h1, h2⟩ := hr j x hx
    refine ⟨v, ?_, h2⟩
    have hk := cell_lt hi hj
    simp only [Array.getElem?_toList, Array.getElem?_map, Array.getElem?_range, hk, if_true, Option.map_some, Option.some.injEq]
    rw [hzc, show (i * sz + j) % sz = j by rw [Nat.mul_comm, Nat.mul_add_mod, Nat.mod_eq_of_lt hj]]
    obtain ⟨h3, h4⟩ := Array.getElem?_eq_some_iff.1 h1
    simp [h3, h4]

theorem zeroA_cells {t : TypeId} {a : ATy} (ht : TyOf P t a) {z : AV} (hz : zeroA a = some z) (hc : a.zero.all AV.isCell = true) : z.cells = a.zero := by
  unfold zeroA at hz
  cases hkk : a.kind.agg with
  | true => rw [hkk] at hz; simp only [if_true, Option.some.injEq] at hz; subst hz; rfl
  | false =>
    rw [hkk] at hz
    simp only [Bool.false_eq_true, if_false] at hz
    have h1 : a.size = 1 := by rcases ht.one with h | h; rw [hkk] at h; cases h; exact h
    have h2 := ht.zeroLen
    have hzc := all_get hc hz
    have : a.zero = [z] := by
      match hzz : a.zero, h2, hz with
      | [x], _, hz => simp at hz; rw [hz]
      | [], h2, _ => simp at h2; omega
      | _ :: _ :: _, h2, _ => simp at h2; omega
    rw [this]
    cases z <;> first | rfl | simp [AV.isCell] at hzc

theorem bsl_sim (H : Inv C X σ w) {t e : TypeId} {a b : ATy} (ht : TyOf P t a) (hk : a.kind = .sl e) (hb : TyOf P e b) {z : AV} (hz : zeroA b = some z) {n : Nat} (hn : n * b.size ≤ 16777216) (hbs : b.size ≠ 0) (hcell : b.zero.all AV.isCell = true) {parts : Array (Nat × Value)} {qs : List (Nat × AV)} {es : List AV}
    (hp : parts.toList.length = qs.length) (hp' : ∀ (i : Nat) (p : Nat × Value) (q : Nat × AV), parts.toList[i]? = some p → qs[i]? = some q → p.1 = q.1 ∧ Rep X σ w p.2 q.2) (h : fillE b.size b.kind.agg qs (List.replicate n z) = some es) :
    ∃ X' w' u, (Instr.buildSlice t n parts).run P w = .ok u w' ∧ Ext X X' σ σ w w' ∧ Inv C X' σ w' ∧ Rep X' σ w' u (.sl b.size es .full) := by
  have hsz : 0 < b.size := Nat.pos_of_ne_zero hbs
  obtain ⟨zv, hzv, hz1, hz2⟩ := zeroCells_rep (X := X) (σ := σ) (w := w) hb
  obtain ⟨d, i, v, hd, hi, hv, hkb, hs, hbb, hm, hl, hag⟩ := hb
  have hb : TyOf P e b := ⟨d, i, v, hd, hi, hv, hkb, hs, hbb, hm, hl, hag⟩
  have hzc := zeroA_cells hb hz hcell
  have hpz := constA_cells (w := w) (F := X.F) (M := X.M) hm
  have hzv' : zv = v := by have := hzv; simp [zeroValue, typeInfo, hi, hv] at this; exact this.symm
  subst hzv'
  have hel := repl_elems (X := X) (w := w) (n := n) (z := z) (zc := zv.cells) (sz := b.size) (by rw [hzc]; exact hl) hsz (by rw [hz1]; exact hl) (fun j x hx => by
    rw [hzc] at hx
    obtain ⟨u, hu⟩ := some_of_size (l := zv.cells) (i := j) (by have := lt_of_some hx; omega)
    have hpu := hpz.2 j u x (by simpa using hu) hx
    exact ⟨u, hu, hpu.one (all_get hcell hx), hpu⟩)
  obtain ⟨us, f1, f2, f3⟩ := fillE_sim H parts.toList qs _ _ es hp hp' hel h
  have hlen : es.length = n := by rw [f3]; simp
  refine ⟨_, _, .slice (some ⟨w.heap.size, 0, none⟩) n n, ?_, ext_alloc H (.cells us e), inv_alloc H (.cells us e), ?_⟩
  · simp only [Instr.buildSlice, Sem.run_bind, run_underlying (ht.slice hk), Result.andThen_ok, hb.sizeOf]
    rw [if_neg (by omega)]
    by_cases h0 : n * b.size = 0
    · have hr : (Array.range (n * b.size)) = #[] := by rw [h0]; rfl
      rw [hr] at f1
      have f1' : Instr.fill (fun i => some (i * b.size, b.size)) #[] parts.toList = some us := by simpa using f1
      have hr' : (Array.range 0) = #[] := rfl
      simp only [h0, if_true, Sem.run_bind, Sem.run_pure, Result.andThen_ok, hr', Array.map_empty, f1', newRow, run_newObj]
      rfl
    · simp only [h0, if_false, Sem.run_bind, hzv, Result.andThen_ok, Sem.run_pure, f1, newRow, run_newObj]
      rfl
  · rw [← hlen]
    have hus : ∀ (i : Nat) (e : AV) (j : Nat) (x : AV), es[i]? = some e → e.cells[j]? = some x → ∃ v, us[i * b.size + j]? = some v ∧ v.oneCell' = true ∧ PRep w X.F X.M v x := fun i e j x he hx => by
      obtain ⟨v, g1, g2⟩ := f2.2.2 i e j x he hx
      exact ⟨v, by simpa using g1, g2⟩
    refine .pure (.sl w.heap.size 0 es.length b.size es .full (fun i j => (us[i * b.size + j]?).getD undef) (.inr ⟨rfl, rfl⟩) (Nat.le_refl _) f2.2.1 ?_ (fun i e j x he hx => .inr rfl) ?_ ?_)
    · intro i e j x he hx
      obtain ⟨v, g1, _⟩ := hus i e j x he hx
      rw [Nat.zero_add, cell_at heap_new g1, g1]; rfl
    · intro i e j x he hx
      obtain ⟨v, g1, g2, _⟩ := hus i e j x he hx
      rw [g1]; exact g2
    · intro i e' j x he hx
      obtain ⟨v, g1, _, g3⟩ := hus i e' j x he hx
      rw [g1]; exact g3.mono (ext_alloc H (.cells us e)).grew

/-! ### A literal whose row is written; one whose maps stay as they are -/
/-- The cells of so many zero elements. -/
theorem zeros_rep {t : TypeId} {b : ATy} (hb : TyOf P t b) (m : Nat) (hbs : 0 < b.size) : ∃ zv, (zeroValue t).run P w = .ok zv w ∧ ∀ (j : Nat) (u : Value) (c : AV), ((Array.range (m * b.size)).map (fun k => zv.cells[k % zv.cells.size]!))[j]? = some u → ((List.replicate m b.zero).flatten)[j]? = some c → Rep X σ w u c := by
  obtain ⟨zv, hz, hz1, hz2⟩ := zeroCells_rep (X := X) (σ := σ) (w := w) hb
  refine ⟨zv, hz, fun j u c hu hc => ?_⟩
  have hl := hb.zeroLen
  have hf : ∀ (m : Nat), ((List.replicate m b.zero).flatten).length = m * b.size ∧ ∀ (j : Nat) (c : AV), ((List.replicate m b.zero).flatten)[j]? = some c → b.zero[j % b.size]? = some c := by
    intro m
    induction m with
    | zero => exact ⟨by simp, fun j c h => by simp at h⟩
    | succ m ih =>
      obtain ⟨i1, i2⟩ := ih
      refine ⟨by simp only [List.replicate_succ, List.flatten_cons, List.length_append, i1, hl, Nat.add_mul, Nat.one_mul]; omega, fun j c h => ?_⟩
      simp only [List.replicate_succ, List.flatten_cons] at h
      rcases Nat.lt_or_ge j b.size with h1 | h1
      · rw [List.getElem?_append_left (by omega)] at h
        rw [Nat.mod_eq_of_lt h1]; exact h
      · rw [List.getElem?_append_right (by omega), hl] at h
        have := i2 _ c h
        rwa [show (j - b.size) % b.size = j % b.size from (Nat.mod_eq_sub_mod h1).symm] at this
  have hc' := (hf m).2 j c hc
  have hj : j < m * b.size := by have := lt_of_some hc; rw [(hf m).1] at this; exact this
  simp only [Array.getElem?_map, Array.getElem?_range, hj, if_true, Option.map_some, Option.some.injEq] at hu
  subst hu
  have hzl : zv.cells.size = b.size := by omega
  rw [hzl]
  have hjm : j % b.size < zv.cells.size := by rw [hzl]; exact Nat.mod_lt _ hbs
  have he : zv.cells[j % b.size]! = zv.cells[j % b.size] := by simp [hjm]
  rw [he]
  exact hz2 _ _ c (by simp [hjm]) hc'

theorem bsw_sim (H : Inv C X σ w) {t e : TypeId} {a b : ATy} (ht : TyOf P t a) (hk : a.kind = .sl e) (hb : TyOf P e b) {n : Nat} (hn : n * b.size ≤ 16777216) (hbs : b.size ≠ 0) {parts : Array (Nat × Value)} {qs : List (Nat × AV)} {r : AV} {σ' : St}
    (hp : parts.toList.length = qs.length) (hp' : ∀ (i : Nat) (p : Nat × Value) (q : Nat × AV), parts.toList[i]? = some p → qs[i]? = some q → p.1 = q.1 ∧ Rep X σ w p.2 q.2) (h : bswA σ b.size b.kind.agg b.zero n qs = some (r, σ')) :
    ∃ X' w' u, (Instr.buildSlice t n parts).run P w = .ok u w' ∧ Ext X X' σ σ' w w' ∧ Inv C X' σ' w' ∧ Rep X' σ' w' u r := by
  have hsz : 0 < b.size := Nat.pos_of_ne_zero hbs
  simp only [bswA, Option.bind_eq_some_iff] at h
  obtain ⟨cs, hcs, h⟩ := h
  split at h
  case isFalse => cases h
  rename_i hcell
  simp only [Option.some.injEq, Prod.mk.injEq] at h
  obtain ⟨rfl, rfl⟩ := h
  obtain ⟨zv, hzv, hzr⟩ := zeros_rep (X := X) (σ := σ) (w := w) hb n hsz
  have hfl : ((List.replicate n b.zero).flatten).length = n * b.size := by simp [hb.zeroLen]
  obtain ⟨us, f1, f2, f3⟩ := fillA_sim (X := X) (σ := σ) (w := w) (place := fun i => some (i * b.size, b.size)) parts.toList (qs.map fun p => (p.1 * b.size, b.size, p.2)) _ _ cs (by simpa using hp)
    (fun i p q h1 h2 => by
      simp only [List.getElem?_map, Option.map_eq_some_iff] at h2
      obtain ⟨q0, h2, rfl⟩ := h2
      obtain ⟨g1, g2⟩ := hp' i p q0 h1 h2
      exact ⟨by rw [g1], g2⟩) (by rw [hfl]; simp) hzr hcs
  obtain ⟨E, HI, hbx⟩ := new_box H us e cs (by omega) hcell f3
  have hcl : cs.length = n * b.size := by
    have : ∀ (qs : List (Nat × Nat × AV)) (xs ys : List AV), fillA qs xs = some ys → ys.length = xs.length := by
      intro qs
      induction qs with
      | nil => intro xs ys h; simp only [fillA, Option.some.injEq] at h; rw [h]
      | cons q qs ih =>
        intro xs ys h
        simp only [fillA] at h
        split at h
        case isFalse => cases h
        rename_i hc
        rw [ih _ _ h]
        simp only [setAt, List.length_append, List.length_take, List.length_drop]
        omega
    rw [this _ _ _ hcs, hfl]
  refine ⟨_, _, .slice (some ⟨w.heap.size, 0, none⟩) n n, ?_, E, HI, ?_⟩
  · simp only [Instr.buildSlice, Sem.run_bind, run_underlying (ht.slice hk), Result.andThen_ok, hb.sizeOf]
    rw [if_neg (by omega)]
    by_cases h0 : n * b.size = 0
    · have hr : (Array.range (n * b.size)) = #[] := by rw [h0]; rfl
      rw [hr] at f1
      have f1' : Instr.fill (fun i => some (i * b.size, b.size)) #[] parts.toList = some us := by simpa using f1
      have hr' : (Array.range 0) = #[] := rfl
      simp only [h0, if_true, Sem.run_bind, Sem.run_pure, Result.andThen_ok, hr', Array.map_empty, f1', newRow, run_newObj]
      rfl
    · simp only [h0, if_false, Sem.run_bind, hzv, Result.andThen_ok, Sem.run_pure, f1, newRow, run_newObj]
      rfl
  · have := Rep.wsl (X := withBox X σ.boxes.length (w.heap.size, us.size)) (σ := { σ with boxes := σ.boxes ++ [cs] }) (w := w.alloc (.cells us e)) σ.boxes.length 0 n n b.size b.kind.agg cs (by simp) (by rw [hbx]; show 0 + n * b.size ≤ us.size; omega) (Nat.le_refl _) hb.one
    rw [hbx] at this
    exact this

/-- What 'pur' gives of a value that leads to maps alone, once they stay as they are. -/
theorem purM_rep (H : Inv C X σ w) : ∀ (d : Nat) {v : Value} {a b : AV} {t : Bool}, Rep X σ w v a → pur { maps := σ.maps } d a = some (b, t) → PRep w X.F (MB X σ) v b
  | 0, _, _, _, _, _, h => by simp [pur] at h
  | d + 1, v, a, b, t, r, h => by
    have lists : ∀ {vs : Array Value} {as : List AV} {q : List AV × Bool}, vs.size = as.length → (∀ (i : Nat) (v : Value) (c : AV), vs[i]? = some v → as[i]? = some c → Rep X σ w v c) → purAll (pur { maps := σ.maps } d) as = some q →
        vs.size = q.1.length ∧ (∀ (i : Nat) (v : Value) (c : AV), vs[i]? = some v → q.1[i]? = some c → PRep w X.F (MB X σ) v c) := by
      intro vs as q hl hr hq
      obtain ⟨h1, h2⟩ := purAll_spec hq
      refine ⟨by omega, fun i v c hv hc => ?_⟩
      obtain ⟨a', ha'⟩ := some_of_lt (l := as) (i := i) (by have := lt_of_some hc; omega)
      obtain ⟨t', e1, e2⟩ := h2 i a' c ha' hc
      exact purM_rep H d (hr i v a' hv ha') e1
    have gM : Grew w w X.F X.F X.M (MB X σ) := ⟨fun _ _ _ => rfl, fun _ _ _ _ h => h, fun _ _ h => h, fun _ h => .inl h⟩
    have pureCase : ∀ {b}, PRep w X.F X.M v b → PRep w X.F (MB X σ) v b := fun p => p.mono gM
    cases a with
    | any => simp only [pur, Option.some.injEq, Prod.mk.injEq] at h; obtain ⟨rfl, rfl⟩ := h; exact pureCase (.any _)
    | undef => simp only [pur, Option.some.injEq, Prod.mk.injEq] at h; obtain ⟨rfl, rfl⟩ := h; cases r with | pure p => exact pureCase p
    | int => simp only [pur, Option.some.injEq, Prod.mk.injEq] at h; obtain ⟨rfl, rfl⟩ := h; cases r with | pure p => exact pureCase p
    | bool => simp only [pur, Option.some.injEq, Prod.mk.injEq] at h; obtain ⟨rfl, rfl⟩ := h; cases r with | pure p => exact pureCase p
    | str => simp only [pur, Option.some.injEq, Prod.mk.injEq] at h; obtain ⟨rfl, rfl⟩ := h; cases r with | pure p => exact pureCase p
    | nilp => simp only [pur, Option.some.injEq, Prod.mk.injEq] at h; obtain ⟨rfl, rfl⟩ := h; cases r with | pure p => exact pureCase p
    | nilm => simp only [pur, Option.some.injEq, Prod.mk.injEq] at h; obtain ⟨rfl, rfl⟩ := h; cases r with | pure p => exact pureCase p
    | nilf => simp only [pur, Option.some.injEq, Prod.mk.injEq] at h; obtain ⟨rfl, rfl⟩ := h; cases r with | pure p => exact pureCase p
    | nils => simp only [pur, Option.some.injEq, Prod.mk.injEq] at h; obtain ⟨rfl, rfl⟩ := h; cases r with | pure p => exact pureCase p
    | esl => simp only [pur, Option.some.injEq, Prod.mk.injEq] at h; obtain ⟨rfl, rfl⟩ := h; cases r with | pure p => exact pureCase p
    | mapv => simp only [pur, Option.some.injEq, Prod.mk.injEq] at h; obtain ⟨rfl, rfl⟩ := h; cases r with | pure p => exact pureCase p
    | rp => simp only [pur, Option.some.injEq, Prod.mk.injEq] at h; obtain ⟨rfl, rfl⟩ := h; cases r with | pure p => exact pureCase p
    | yld => simp [pur] at h
    | wsl => simp [pur] at h
    | box => simp [pur] at h
    | agg cs =>
      simp only [pur, Option.bind_eq_some_iff] at h
      obtain ⟨q, hq, he⟩ := h
      simp only [Option.some.injEq, Prod.mk.injEq] at he
      obtain ⟨rfl, rfl⟩ := he
      have key : ∃ vs : Array Value, v = .agg vs ∧ vs.size = cs.length ∧ ∀ (i : Nat) (v : Value) (c : AV), vs[i]? = some v → cs[i]? = some c → Rep X σ w v c := by
        cases r with
        | pure p => cases p with | agg vs _ hl hp => exact ⟨vs, rfl, hl, fun i v c h1 h2 => .pure (hp i v c h1 h2)⟩
        | agg vs _ hl hp => exact ⟨vs, rfl, hl, hp⟩
      obtain ⟨vs, rfl, hl, hp⟩ := key
      obtain ⟨h1, h2⟩ := lists hl hp hq
      exact .agg _ _ h1 h2
    | tup cs =>
      simp only [pur, Option.bind_eq_some_iff] at h
      obtain ⟨q, hq, he⟩ := h
      simp only [Option.some.injEq, Prod.mk.injEq] at he
      obtain ⟨rfl, rfl⟩ := he
      have key : ∃ vs : Array Value, v = .tuple vs ∧ vs.size = cs.length ∧ ∀ (i : Nat) (v : Value) (c : AV), vs[i]? = some v → cs[i]? = some c → Rep X σ w v c := by
        cases r with
        | pure p => cases p with | tup vs _ hl hp => exact ⟨vs, rfl, hl, fun i v c h1 h2 => .pure (hp i v c h1 h2)⟩
        | tup vs _ hl hp => exact ⟨vs, rfl, hl, hp⟩
      obtain ⟨vs, rfl, hl, hp⟩ := key
      obtain ⟨h1, h2⟩ := lists hl hp hq
      exact .tup _ _ h1 h2
    | fn f as bs =>
      simp only [pur, Option.bind_eq_some_iff] at h
      obtain ⟨q, hq, q', hq', he⟩ := h
      simp only [Option.some.injEq, Prod.mk.injEq] at he
      obtain ⟨rfl, rfl⟩ := he
      have key : ∃ vs us : Array Value, v = .func f vs us ∧ vs.size = as.length ∧ us.size = bs.length ∧ (∀ (i : Nat) (v : Value) (c : AV), vs[i]? = some v → as[i]? = some c → Rep X σ w v c) ∧
          ∀ (i : Nat) (v : Value) (c : AV), us[i]? = some v → bs[i]? = some c → Rep X σ w v c := by
        cases r with
        | pure p => cases p with | fn _ vs us _ _ hl hl' hp hp' => exact ⟨vs, us, rfl, hl, hl', fun i v c h1 h2 => .pure (hp i v c h1 h2), fun i v c h1 h2 => .pure (hp' i v c h1 h2)⟩
        | fn _ vs us _ _ hl hl' hp hp' => exact ⟨vs, us, rfl, hl, hl', hp, hp'⟩
      obtain ⟨vs, us, rfl, hl, hl', hp, hp'⟩ := key
      obtain ⟨h1, h2⟩ := lists hl hp hq
      obtain ⟨h3, h4⟩ := lists hl' hp' hq'
      exact .fn f _ _ _ _ h1 h3 h2 h4
    | sl sz es c =>
      simp only [pur, Option.some.injEq, Prod.mk.injEq] at h
      obtain ⟨rfl, rfl⟩ := h
      cases r with
      | pure p =>
        have : c.pure = c := by
          cases p with
          | sl g o cap _ _ _ val hc => rcases hc with rfl | ⟨rfl, _⟩ <;> rfl
        rw [this]
        exact pureCase p
      | chain g cap _ _ c n s hn hle ht p => exact pureCase p
    | mp m =>
      simp only [pur, Option.bind_eq_some_iff] at h
      obtain ⟨es, hes, q, hq, q', hq', he⟩ := h
      simp only [Option.some.injEq, Prod.mk.injEq] at he
      obtain ⟨rfl, rfl⟩ := he
      cases r with
      | pure p => cases p
      | mp _ hm =>
        obtain ⟨_, arr, hw, h1, h2, hborn, hk, hv, _, _⟩ := H.map m es hes
        obtain ⟨h3, h4⟩ := purAll_spec hq
        obtain ⟨h5, h6⟩ := purAll_spec hq'
        refine .mapv (X.map m) arr arr.size _ _ hw (.inr ⟨m, hm, rfl⟩) (by omega) (by omega) (fun i e k he hk' => ?_) (fun i e v he hv' => ?_)
        · obtain ⟨k0, hk0⟩ := some_of_lt (l := es.1) (i := i) (by have := lt_of_some hk'; omega)
          obtain ⟨t0, e1, _⟩ := h4 i k0 k hk0 hk'
          exact purM_rep H d (hk i e k0 he hk0) e1
        · obtain ⟨v0, hv0⟩ := some_of_lt (l := es.2) (i := i) (by have := lt_of_some hv'; omega)
          obtain ⟨t0, e1, _⟩ := h6 i v0 v hv0 hv'
          exact purM_rep H d (hv i e v0 he hv0) e1

/-- All of the call's own maps stay as they are from now on. -/
theorem mfreeze (H : Inv C X σ w) : Ext X { X with M := MB X σ } σ { σ with mro := σ.maps.length } w w ∧ Inv C { X with M := MB X σ } { σ with mro := σ.maps.length } w := by
  have E : Ext X { X with M := MB X σ } σ { σ with mro := σ.maps.length } w w :=
    { n0 := rfl
      grew := ⟨fun _ _ _ => rfl, fun _ _ _ _ h => h, fun _ _ h => h, fun _ h => .inl h⟩
      box := fun _ _ => rfl
      boxes := fun b cs h => ⟨cs, h⟩
      chains := fun c n s h => ⟨n, h, Nat.le_refl _, fun _ => rfl⟩
      map := fun _ _ => rfl
      maps := Nat.le_refl _
      loop := fun _ _ => rfl
      loops := Nat.le_refl _
      size := Nat.le_refl _
      owned := fun _ _ h => h
      kept := fun _ _ _ => rfl
      os := rfl
      tape := rfl
      output := rfl
      newF := fun g o h => .inl h
      freshF := fun g o h => .inl h
      newM := fun r h => by
        rcases h with h | ⟨m, hm, rfl⟩
        · exact .inl h
        · obtain ⟨es, hes⟩ := some_of_lt hm
          exact .inr (H.map m es hes).1 }
  refine ⟨E, ?_⟩
  exact
    { base := H.base
      F := H.F
      M := fun r h => by
        rcases h with h | ⟨m, hm, rfl⟩
        · exact H.M r h
        · exact H.owned_lt (owned_map hm)
      box := fun b cs hb => by
        obtain ⟨h1, arr, T, h2, h3, h4, h5, h6, h7⟩ := H.box b cs hb
        exact ⟨h1, arr, T, h2, h3, h4, fun j v c hv hc => (h5 j v c hv hc).keep E.toKeeps, h6, h7⟩
      boxInj := H.boxInj
      chain := fun c n s hc => (H.chain c n s hc).keep rfl rfl rfl fun o h => h
      tipInj := H.tipInj
      tipBox := H.tipBox
      map := fun m es hm => by
        have hlt := lt_of_some hm
        obtain ⟨h1, arr, h2, h3, h4, h5, h6, h7, _⟩ := H.map m es hm
        exact ⟨h1, arr, h2, h3, h4, h5, fun i e k he hk => (h6 i e k he hk).keep E.toKeeps, fun i e v he hv => (h7 i e v he hv).keep E.toKeeps, fun hro => absurd hlt (Nat.not_lt.2 hro), fun _ => .inr ⟨m, hlt, rfl⟩⟩
      mapInj := H.mapInj
      loop := fun l L hl => (H.loop l L hl).keep E.toKeeps rfl (lt_of_some hl) rfl
      loopInj := H.loopInj
      ro := H.ro
      mro := Nat.le_refl _
      glob := fun g cs hg => (H.glob g cs hg).mono E.grew }

theorem fillM_sim {X2 : Ctx} {τ : St} (hpur : ∀ {v : Value} {a b : AV} {t : Bool}, Rep X σ w v a → pur τ depth a = some (b, t) → PRep w X2.F X2.M v b) {sz : Nat} {ag : Bool} : ∀ (ps : List (Nat × Value)) (qs : List (Nat × AV)) (arr : Array Value) (es ds : List AV), ps.length = qs.length →
    (∀ (i : Nat) (p : Nat × Value) (q : Nat × AV), ps[i]? = some p → qs[i]? = some q → p.1 = q.1 ∧ Rep X σ w p.2 q.2) → ElemsAt X2 w sz arr.toList es → fillM τ sz ag qs es = some ds →
    ∃ us, Instr.fill (fun i => some (i * sz, sz)) arr ps = some us ∧ ElemsAt X2 w sz us.toList ds ∧ ds.length = es.length
  | [], [], arr, es, ds, _, _, hel, h => by
    simp only [fillM, Option.some.injEq] at h
    subst h
    exact ⟨arr, rfl, hel, rfl⟩
  | [], _ :: _, _, _, _, h, _, _, _ => by simp at h
  | _ :: _, [], _, _, _, h, _, _, _ => by simp at h
  | p :: ps, q :: qs, arr, es, ds, hlen, hp, hel, h => by
    obtain ⟨hpq, hrep⟩ := hp 0 p q rfl rfl
    simp only [fillM, Option.bind_eq_some_iff] at h
    obtain ⟨r, hr, h⟩ := h
    split at h
    case isFalse => cases h
    rename_i hc
    obtain ⟨c1, c2, c3, c4⟩ := hc
    have hpr : Rep X2 σ w p.2 r.1 := .pure (hpur hrep (t := r.2) hr)
    obtain ⟨k1, k2, k3⟩ := hpr.cells c4
    -- its cells are pure
    have k2' := (hpur hrep (t := r.2) hr).cellsOf c4
    obtain ⟨s1, s2⟩ := foldl_set (p.1 * sz) p.2.cells.toList 0 arr
    have hzip : p.2.cells.zipIdx.foldl (fun (cs : Array Value) (x : Value × Nat) => cs.setIfInBounds (p.1 * sz + x.2) x.1) arr = (p.2.cells.toList.zipIdx 0).foldl (fun (cs : Array Value) (x : Value × Nat) => cs.setIfInBounds (p.1 * sz + x.2) x.1) arr := by
      rw [← Array.foldl_toList]; simp
    have hpm : p.1 * sz = q.1 * sz := by rw [hpq]
    have hin : p.1 * sz + sz ≤ arr.size := by
      have h1 : (p.1 + 1) * sz ≤ es.length * sz := Nat.mul_le_mul_right _ (by rw [hpq]; exact c3)
      rw [Nat.add_mul, Nat.one_mul] at h1
      have := hel.1
      simp at this
      omega
    obtain ⟨us, f1, f2, f3⟩ := fillM_sim hpur (sz := sz) (ag := ag) ps qs ((p.2.cells.toList.zipIdx 0).foldl (fun (cs : Array Value) (x : Value × Nat) => cs.setIfInBounds (p.1 * sz + x.2) x.1) arr) (es.set q.1 r.1) ds (by simpa using hlen)
      (fun i p' q' h1 h2 => hp (i + 1) p' q' (by simpa using h1) (by simpa using h2))
      ⟨by rw [Array.length_toList, s1, List.length_set]; simpa using hel.1, fun i e he => by
        rw [List.getElem?_set] at he
        by_cases hiq : q.1 = i
        · rw [if_pos hiq, if_pos c3] at he
          cases he; exact c1
        · rw [if_neg hiq] at he
          exact hel.2.1 i e he, fun i e j x he hx => by
        have hi : i < es.length := by have := lt_of_some he; simpa using this
        have hj : j < sz := by
          have h1 := lt_of_some hx
          rw [List.getElem?_set] at he
          by_cases hiq : q.1 = i
          · rw [if_pos hiq, if_pos c3] at he
            cases he; omega
          · rw [if_neg hiq] at he
            rw [hel.2.1 i e he] at h1; exact h1
        have hk : i * sz + j < arr.size := by have h1 := hel.1; simp at h1; rw [h1]; exact cell_lt hi hj
        rw [Array.getElem?_toList, s2 _ hk]
        rw [List.getElem?_set] at he
        by_cases hiq : q.1 = i
        · rw [if_pos hiq, if_pos c3] at he
          · cases he
            subst hiq
            rw [if_pos (by simp only [Array.length_toList]; omega)]
            obtain ⟨u, hu⟩ := some_of_size (l := p.2.cells) (i := j) (by omega)
            refine ⟨u, ?_, k3 u (List.mem_of_getElem? (by simpa using hu)), k2' j u x hu hx⟩
            rw [Array.getElem?_toList, hpq, show q.1 * sz + j - (q.1 * sz + 0) = j by omega]
            exact hu
        · rw [if_neg hiq] at he
          rw [if_neg (by
            simp only [Array.length_toList, k1, c1, hpq]
            intro ⟨h1, h2⟩
            rcases Nat.lt_or_ge i q.1 with h3 | h3
            · have : (i + 1) * sz ≤ q.1 * sz := Nat.mul_le_mul_right _ h3
              rw [Nat.add_mul, Nat.one_mul] at this
              omega
            · have h4 : q.1 < i := by omega
              have : (q.1 + 1) * sz ≤ i * sz := Nat.mul_le_mul_right _ h4
              rw [Nat.add_mul, Nat.one_mul] at this
              omega)]
          obtain ⟨v, g1, g2⟩ := hel.2.2 i e j x he hx
          exact ⟨v, by simpa using g1, g2⟩⟩ h
    refine ⟨us, ?_, f2, by rw [f3, List.length_set]⟩
    rw [Instr.fill]
    simp only [ne_eq, Bool.or_eq_true, decide_eq_true_eq, gt_iff_lt]
    rw [if_neg (by simp; omega), hzip]
    exact f1


theorem bsf_sim (H : Inv C X σ w) {t e : TypeId} {a b : ATy} (ht : TyOf P t a) (hk : a.kind = .sl e) (hb : TyOf P e b) {z : AV} (hz : zeroA b = some z) {n : Nat} (hn : n * b.size ≤ 16777216) (hbs : b.size ≠ 0) (hcell : b.zero.all AV.isCell = true) {parts : Array (Nat × Value)} {qs : List (Nat × AV)} {r : AV} {σ' : St}
    (hp : parts.toList.length = qs.length) (hp' : ∀ (i : Nat) (p : Nat × Value) (q : Nat × AV), parts.toList[i]? = some p → qs[i]? = some q → p.1 = q.1 ∧ Rep X σ w p.2 q.2) (h : bsfA σ b.size b.kind.agg z n qs = some (r, σ')) :
    ∃ X' w' u, (Instr.buildSlice t n parts).run P w = .ok u w' ∧ Ext X X' σ σ' w w' ∧ Inv C X' σ' w' ∧ Rep X' σ' w' u r := by
  simp only [bsfA, Option.map_eq_some_iff, Prod.mk.injEq] at h
  obtain ⟨es, h, rfl, rfl⟩ := h
  obtain ⟨E1, H1⟩ := mfreeze H
  have hsz : 0 < b.size := Nat.pos_of_ne_zero hbs
  obtain ⟨zv, hzv, hz1, hz2⟩ := zeroCells_rep (X := X) (σ := σ) (w := w) hb
  obtain ⟨d, i, v, hd, hi, hv, hkb, hs, hbb, hm, hl, hag⟩ := hb
  have hb : TyOf P e b := ⟨d, i, v, hd, hi, hv, hkb, hs, hbb, hm, hl, hag⟩
  have hzc := zeroA_cells hb hz hcell
  have hpz := constA_cells (w := w) (F := X.F) (M := MB X σ) hm
  have hzv' : zv = v := by have := hzv; simp [zeroValue, typeInfo, hi, hv] at this; exact this.symm
  subst hzv'
  have hel := repl_elems (X := { X with M := MB X σ }) (w := w) (n := n) (z := z) (zc := zv.cells) (sz := b.size) (by rw [hzc]; exact hl) hsz (by rw [hz1]; exact hl) (fun j x hx => by
    rw [hzc] at hx
    obtain ⟨u, hu⟩ := some_of_size (l := zv.cells) (i := j) (by have := lt_of_some hx; omega)
    have hpu := hpz.2 j u x (by simpa using hu) hx
    exact ⟨u, hu, hpu.one (all_get hcell hx), hpu⟩)
  obtain ⟨us, f1, f2, f3⟩ := fillM_sim (X2 := { X with M := MB X σ }) (fun hr hp => purM_rep H depth hr hp) parts.toList qs _ _ es hp hp' hel h
  have hlen : es.length = n := by rw [f3]; simp
  refine ⟨_, _, .slice (some ⟨w.heap.size, 0, none⟩) n n, ?_, E1.trans (ext_alloc H1 (.cells us e)), inv_alloc H1 (.cells us e), ?_⟩
  · simp only [Instr.buildSlice, Sem.run_bind, run_underlying (ht.slice hk), Result.andThen_ok, hb.sizeOf]
    rw [if_neg (by omega)]
    by_cases h0 : n * b.size = 0
    · have hr : (Array.range (n * b.size)) = #[] := by rw [h0]; rfl
      rw [hr] at f1
      have f1' : Instr.fill (fun i => some (i * b.size, b.size)) #[] parts.toList = some us := by simpa using f1
      have hr' : (Array.range 0) = #[] := rfl
      simp only [h0, if_true, Sem.run_bind, Sem.run_pure, Result.andThen_ok, hr', Array.map_empty, f1', newRow, run_newObj]
      rfl
    · simp only [h0, if_false, Sem.run_bind, hzv, Result.andThen_ok, Sem.run_pure, f1, newRow, run_newObj]
      rfl
  · rw [← hlen]
    have hus : ∀ (i : Nat) (e : AV) (j : Nat) (x : AV), es[i]? = some e → e.cells[j]? = some x → ∃ v, us[i * b.size + j]? = some v ∧ v.oneCell' = true ∧ PRep w X.F (MB X σ) v x := fun i e j x he hx => by
      obtain ⟨v, g1, g2⟩ := f2.2.2 i e j x he hx
      exact ⟨v, by simpa using g1, g2⟩
    refine .pure (.sl w.heap.size 0 es.length b.size es .full (fun i j => (us[i * b.size + j]?).getD undef) (.inr ⟨rfl, rfl⟩) (Nat.le_refl _) f2.2.1 ?_ (fun i e j x he hx => .inr rfl) ?_ ?_)
    · intro i e j x he hx
      obtain ⟨v, g1, _⟩ := hus i e j x he hx
      rw [Nat.zero_add, cell_at heap_new g1, g1]; rfl
    · intro i e j x he hx
      obtain ⟨v, g1, g2, _⟩ := hus i e j x he hx
      rw [g1]; exact g2
    · intro i e' j x he hx
      obtain ⟨v, g1, _, g3⟩ := hus i e' j x he hx
      rw [g1]; exact g3.mono (ext_alloc H1 (.cells us e)).grew

/-! ### Variables -/
theorem alloc_sim (H : Inv C X σ w) {t : TypeId} {a : ATy} (ht : TyOf P t a) (hcell : a.zero.all AV.isCell = true) : ∃ X' w' u, (Instr.alloc t true (.tuple #[])).run P w = .ok u w' ∧ Ext X X' σ { σ with boxes := σ.boxes ++ [a.zero] } w w' ∧ Inv C X' { σ with boxes := σ.boxes ++ [a.zero] } w' ∧
    Rep X' { σ with boxes := σ.boxes ++ [a.zero] } w' u (.box σ.boxes.length 0) := by
  obtain ⟨z, hz, hz1, hz2⟩ := zeroCells_rep (X := X) (σ := σ) (w := w) ht
  obtain ⟨E, HI, hb⟩ := new_box H z.cells t a.zero (by omega) hcell (fun j v c hv hc => hz2 j v c hv hc)
  refine ⟨_, _, .pointer (some ⟨w.heap.size, 0, none⟩), ?_, E, HI, ?_⟩
  · simp only [Instr.alloc, Sem.run_bind, hz, Result.andThen_ok, newVar, newRow, run_newObj, Sem.run_pure]
    rfl
  · have := Rep.box (X := withBox X σ.boxes.length (w.heap.size, z.cells.size)) (σ := { σ with boxes := σ.boxes ++ [a.zero] }) (w := w.alloc (.cells z.cells t)) σ.boxes.length 0 (by simp)
    rw [hb] at this
    exact this

theorem box_sim (H : Inv C X σ w) {t : TypeId} {p : Value} {x r : AV} {σ' : St} (hp : Rep X σ w p x) (h : boxA σ x = some (r, σ')) : ∃ X' w' u, (Instr.box t p).run P w = .ok u w' ∧ Ext X X' σ σ' w w' ∧ Inv C X' σ' w' ∧ Rep X' σ' w' u r := by
  simp only [boxA] at h
  split at h
  case isFalse => cases h
  rename_i hc
  simp only [Option.some.injEq, Prod.mk.injEq] at h
  obtain ⟨rfl, rfl⟩ := h
  obtain ⟨k1, k2, _⟩ := hp.cells hc
  obtain ⟨E, HI, hb⟩ := new_box H p.cells t x.cells (by omega) hc (fun j v c hv hc => k2 j v c hv hc)
  refine ⟨_, _, .pointer (some ⟨w.heap.size, 0, none⟩), ?_, E, HI, ?_⟩
  · simp only [Instr.box, newVar, newRow, Sem.run_bind, run_newObj, Result.andThen_ok, Sem.run_pure]
    rfl
  · have := Rep.box (X := withBox X σ.boxes.length (w.heap.size, p.cells.size)) (σ := { σ with boxes := σ.boxes ++ [x.cells] }) (w := w.alloc (.cells p.cells t)) σ.boxes.length 0 (by simp)
    rw [hb] at this
    exact this

theorem store_sim (H : Inv C X σ w) {t : TypeId} {a : ATy} (ht : TyOf P t a) {p q : Value} {x y : AV} {σ' : St} (hp : Rep X σ w p x) (hq : Rep X σ w q y) (h : storeA σ a.size x y = some σ') : ∃ w', (Instr.storeAt t p q).run P w = .ok () w' ∧ Ext X X σ σ' w w' ∧ Inv C X σ' w' := by
  cases x <;> simp only [storeA, reduceCtorEq, Option.bind_eq_some_iff] at h
  rename_i b off
  obtain ⟨cs, hcs, h⟩ := h
  split at h
  case isFalse => cases h
  rename_i hc
  obtain ⟨c1, c2, c3, c4⟩ := hc
  simp only [Option.some.injEq] at h
  subst h
  cases hp with
  | pure p => cases p
  | box _ _ hb =>
    obtain ⟨k1, k2, k3⟩ := hq.cells c4
    obtain ⟨_, arr, T, hw, hsz, _⟩ := H.box b cs hcs
    have hS := set_box H hcs c1 (off := off) (vs := q.cells.toList) (ds := y.cells) (by simpa using k1) (by omega) c4 (fun j v c hv hc => k2 j v c (by simpa using hv) hc) hw
    have hst := run_storeCells_at P (X.box b).1 off T q.cells.toList 0 arr w hw (by simp; omega) k3
    simp only [Nat.add_zero] at hst
    refine ⟨_, ?_, hS.1, hS.2⟩
    simp only [Instr.storeAt, Instr.sureAddr, Sem.run_bind, Sem.run_pure, Result.andThen_ok, storeVar, ht.sizeOf]
    rw [if_neg (by omega)]
    exact hst

theorem mkm_sim (H : Inv C X σ w) {t : TypeId} : ∃ X' w' u, (Instr.makeMap t none).run P w = .ok u w' ∧ Ext X X' σ { σ with maps := σ.maps ++ [([], [])] } w w' ∧ Inv C X' { σ with maps := σ.maps ++ [([], [])] } w' ∧ Rep X' { σ with maps := σ.maps ++ [([], [])] } w' u (.mp σ.maps.length) := by
  obtain ⟨E, HI, hb⟩ := new_map H
  refine ⟨_, _, .map (some w.heap.size), ?_, E, HI, ?_⟩
  · simp only [Instr.makeMap, Sem.run_bind, run_newObj, Result.andThen_ok, Sem.run_pure]
    rfl
  · have := Rep.mp (X := withMap X σ.maps.length w.heap.size) (σ := { σ with maps := σ.maps ++ [([], [])] }) (w := w.alloc (.map #[] 0)) σ.maps.length (by simp)
    rw [hb] at this
    exact this

theorem mks_sim (H : Inv C X σ w) {t e : TypeId} {a b : ATy} (ht : TyOf P t a) (hk : a.kind = .sl e) (hb : TyOf P e b) (hbs : b.size ≠ 0) (hcell : b.zero.all AV.isCell = true) {p q : Value} {x y r : AV} {σ' : St} (hp : Rep X σ w p x) (hq : Rep X σ w q y)
    (h : mksA σ b.size b.bytes b.kind.agg b.zero x y = some (r, σ')) : ∃ X' w' u, (Instr.makeSlice t p q).run P w = .ok u w' ∧ Ext X X' σ σ' w w' ∧ Inv C X' σ' w' ∧ Rep X' σ' w' u r := by
  have hsz : 0 < b.size := Nat.pos_of_ne_zero hbs
  cases x <;> cases y <;> simp only [mksA, reduceCtorEq] at h
  rename_i k n k' c
  split at h
  case isFalse => cases h
  rename_i hc
  obtain ⟨rfl, h0, hby, h63⟩ := hc
  simp only [Option.some.injEq, Prod.mk.injEq] at h
  obtain ⟨rfl, rfl⟩ := h
  obtain rfl := hp.intV
  obtain rfl := hq.intV
  obtain ⟨m, rfl⟩ : ∃ m : Nat, n = (m : Int) := ⟨n.toNat, by omega⟩
  obtain ⟨d, i, v, hd, hi, hv, hkb, hs, hbb, hm, hl, hag⟩ := hb
  have hb : TyOf P e b := ⟨d, i, v, hd, hi, hv, hkb, hs, hbb, hm, hl, hag⟩
  have hpz := constA_cells (w := w) (F := X.F) (M := X.M) hm
  have hzl : v.cells.size = b.size := by have := hpz.1; simp at this; omega
  -- the cells
  have hcells : ∀ (j : Nat) (u : Value) (c : AV), ((Array.range (m * b.size)).map (fun k => v.cells[k % v.cells.size]!))[j]? = some u → ((List.replicate m b.zero).flatten)[j]? = some c → Rep X σ w u c := by
    have hf : ∀ (m : Nat), ((List.replicate m b.zero).flatten).length = m * b.size ∧ ∀ (j : Nat) (c : AV), ((List.replicate m b.zero).flatten)[j]? = some c → b.zero[j % b.size]? = some c := by
      intro m
      induction m with
      | zero => exact ⟨by simp, fun j c h => by simp at h⟩
      | succ m ih =>
        obtain ⟨i1, i2⟩ := ih
        refine ⟨by simp only [List.replicate_succ, List.flatten_cons, List.length_append, i1, hl, Nat.add_mul, Nat.one_mul]; omega, fun j c h => ?_⟩
        simp only [List.replicate_succ, List.flatten_cons] at h
        rcases Nat.lt_or_ge j b.size with h1 | h1
        · rw [List.getElem?_append_left (by omega)] at h
          rw [Nat.mod_eq_of_lt h1]; exact h
        · rw [List.getElem?_append_right (by omega), hl] at h
          have := i2 _ c h
          rwa [show (j - b.size) % b.size = j % b.size from (Nat.mod_eq_sub_mod h1).symm] at this
    intro j u c hu hc
    have hc' := (hf m).2 j c hc
    have hj : j < m * b.size := by have := lt_of_some hc; rw [(hf m).1] at this; exact this
    simp only [Array.getElem?_map, Array.getElem?_range, hj, if_true, Option.map_some, Option.some.injEq] at hu
    subst hu
    rw [hzl]
    have hjm : j % b.size < v.cells.size := by rw [hzl]; exact Nat.mod_lt _ hsz
    have he : v.cells[j % b.size]! = v.cells[j % b.size] := by simp [hjm]
    rw [he]
    exact .pure (hpz.2 _ _ c (by simp [List.getElem?_eq_getElem, hjm]) hc')
  have hflen : ((List.replicate m b.zero).flatten).length = m * b.size := by simp [hl]
  obtain ⟨E, HI, hbx⟩ := new_box H ((Array.range (m * b.size)).map (fun k => v.cells[k % v.cells.size]!)) e ((List.replicate m b.zero).flatten) (by rw [hflen]; simp) (by
      rw [List.all_eq_true] at hcell ⊢
      intro x hx
      rw [List.mem_flatten] at hx
      obtain ⟨l, h1, h2⟩ := hx
      rw [List.mem_replicate] at h1
      rw [h1.2] at h2
      exact hcell x h2) hcells
  refine ⟨_, _, .slice (some ⟨w.heap.size, 0, none⟩) m m, ?_, E, HI, ?_⟩
  · have hib : i.bytes = b.bytes := hbb.symm
    have hm' := run_make (P := P) w t e i v (ht.slice hk) hi hv k k' m m (by omega) (by omega) (by rw [hib, Int.mul_comm]; omega) (by omega)
    rw [hm', ← hs]
    rfl
  · have := Rep.wsl (X := withBox X σ.boxes.length (w.heap.size, ((Array.range (m * b.size)).map (fun k => v.cells[k % v.cells.size]!)).size)) (σ := { σ with boxes := σ.boxes ++ [(List.replicate m b.zero).flatten] }) (w := w.alloc (.cells ((Array.range (m * b.size)).map (fun k => v.cells[k % v.cells.size]!)) e)) σ.boxes.length 0 m m b.size b.kind.agg ((List.replicate m b.zero).flatten) (by simp) (by rw [hbx]; simp) (Nat.le_refl _) hb.one
    rw [hbx] at this
    exact this

theorem zero_flat {zero : List AV} {sz : Nat} (hl : zero.length = sz) : ∀ (m : Nat), ((List.replicate m zero).flatten).length = m * sz ∧ ∀ (j : Nat) (c : AV), ((List.replicate m zero).flatten)[j]? = some c → zero[j % sz]? = some c
  | 0 => ⟨by simp, fun j c h => by simp at h⟩
  | m + 1 => by
    obtain ⟨i1, i2⟩ := zero_flat hl m
    refine ⟨by simp only [List.replicate_succ, List.flatten_cons, List.length_append, i1, hl, Nat.add_mul, Nat.one_mul]; omega, fun j c h => ?_⟩
    simp only [List.replicate_succ, List.flatten_cons] at h
    rcases Nat.lt_or_ge j sz with h1 | h1
    · rw [List.getElem?_append_left (by omega)] at h
      rw [Nat.mod_eq_of_lt h1]; exact h
    · rw [List.getElem?_append_right (by omega), hl] at h
      have := i2 _ c h
      rwa [show (j - sz) % sz = j % sz from (Nat.mod_eq_sub_mod h1).symm] at this

theorem clear_sim (H : Inv C X σ w) {t e : TypeId} {a b : ATy} (ht : TyOf P t a) (hk : a.kind = .sl e) (hb : TyOf P e b) (hbs : b.size ≠ 0) (hcell : b.zero.all AV.isCell = true) {p : Value} {x : AV} {σ' : St} (hp : Rep X σ w p x) (ty : TypeId)
    (h : clrA σ b.size b.zero x = some σ') : ∃ X' w' u, (Builtin.clear_ #[t] ty #[p]).run P w = .ok u w' ∧ Ext X X' σ σ' w w' ∧ Inv C X' σ' w' ∧ Rep X' σ' w' u (.tup []) := by
  have hu := ht.slice hk
  have hsz : 0 < b.size := Nat.pos_of_ne_zero hbs
  have htup : ∀ {X' : Ctx} {σ' : St} {w' : World}, Rep X' σ' w' (.tuple #[]) (.tup []) := fun {X' σ' w'} => .tup #[] [] rfl fun i v c hv => by simp at hv
  cases x <;> simp only [clrA, reduceCtorEq] at h
  · simp only [Option.some.injEq] at h
    subst h
    cases hp with
    | pure pp =>
      cases pp
      exact ⟨X, w, _, by simp [Builtin.clear_, run_underlying hu], .refl .., H, htup⟩
  · simp only [Option.some.injEq] at h
    subst h
    cases hp with
    | pure pp =>
      cases pp with
      | esl a0 => exact ⟨X, w, _, by simp [Builtin.clear_, run_underlying hu], .refl .., H, htup⟩
  · rename_i bx off n sz ag
    simp only [Option.bind_eq_some_iff] at h
    obtain ⟨cs, hcs, h⟩ := h
    split at h
    case isFalse => cases h
    rename_i hc
    obtain ⟨hn0, rfl, hro, hfit⟩ := hc
    simp only [Option.some.injEq] at h
    subst h
    cases hp with
    | pure pp => cases pp
    | wsl _ _ _ cap _ _ cs' hbx hf hn hag =>
      obtain ⟨d, i, v, hd, hi, hv, hkb, hs, hbb, hm, hl, hagg⟩ := hb
      have hpz := constA_cells (w := w) (F := X.F) (M := X.M) hm
      have hzl : v.cells.size = b.size := by have := hpz.1; simp at this; omega
      obtain ⟨hf1, hf2⟩ := zero_flat (sz := b.size) hl n
      obtain ⟨_, arr, T, hw, hz, _⟩ := H.box bx cs hcs
      have hvl : (Builtin.zeroCells v.cells n).toList.length = n * b.size := by simp [Builtin.zeroCells, hzl]
      have hget : ∀ (j : Nat) (u : Value), (Builtin.zeroCells v.cells n).toList[j]? = some u → j < n * b.size ∧ v.cells[j % b.size]? = some u := by
        intro j u hu'
        have hj : j < n * b.size := by have := lt_of_some hu'; omega
        have hjm : j % b.size < v.cells.size := by rw [hzl]; exact Nat.mod_lt _ hsz
        rw [Array.getElem?_toList] at hu'
        simp only [Builtin.zeroCells, hzl, Array.getElem?_map, Array.getElem?_range, hj, if_true, Option.map_some, Option.some.injEq] at hu'
        have he : v.cells[j % b.size]! = v.cells[j % b.size] := by simp [hjm]
        rw [he] at hu'
        exact ⟨hj, by rw [← hu']; simp [hjm]⟩
      have hrep : ∀ (j : Nat) (u : Value) (c : AV), (Builtin.zeroCells v.cells n).toList[j]? = some u → ((List.replicate n b.zero).flatten)[j]? = some c → Rep X σ w u c := fun j u c hu' hc' =>
        .pure (hpz.2 _ _ c (by simpa using (hget j u hu').2) (hf2 j c hc'))
      have hcells : ((List.replicate n b.zero).flatten).all AV.isCell = true := by
        rw [List.all_eq_true] at hcell ⊢
        intro x hx
        rw [List.mem_flatten] at hx
        obtain ⟨l, h1, h2⟩ := hx
        rw [List.mem_replicate] at h1
        rw [h1.2] at h2
        exact hcell x h2
      have hS := set_box H hcs hro (off := off) (vs := (Builtin.zeroCells v.cells n).toList) (ds := (List.replicate n b.zero).flatten) (by rw [hvl, hf1]) (by rw [hf1]; exact hfit) hcells hrep hw
      have hone : ∀ u ∈ (Builtin.zeroCells v.cells n).toList, u.oneCell' = true := by
        intro u hu'
        obtain ⟨j, hj⟩ := List.mem_iff_getElem?.1 hu'
        obtain ⟨c, hc'⟩ := some_of_lt (l := (List.replicate n b.zero).flatten) (i := j) (by have := lt_of_some hj; omega)
        exact (hrep j u c hj hc').one (all_get hcells hc')
      have hst := run_storeCells_at P (X.box bx).1 off T (Builtin.zeroCells v.cells n).toList 0 arr w hw (by omega) hone
      simp only [Nat.add_zero] at hst
      refine ⟨_, _, .tuple #[], ?_, hS.1, hS.2, htup⟩
      obtain ⟨k, rfl⟩ : ∃ k, n = k + 1 := ⟨n - 1, by omega⟩
      simp [Builtin.clear_, run_underlying hu, zeroValue, typeInfo, hi, hv, hst]
end
end Go.Ai

set_option linter.unusedVariables false
set_option linter.unusedSimpArgs false
namespace Go.Ai
section
variable {C : Cfg} {X : Ctx} {σ σ' : St} {w : World} {a : Act} {e : Env} {R : Rec} {d : Bool} {f : FuncId} {o : Oper} {m : MOp} {r : AV}

/-- A read. -/
theorem Gives.read {s : Sem Value} {P : Program} (H : Inv C X σ w) (h : ∃ v, s.run P w = .ok v w ∧ Rep X σ w v r) : Gives C X σ w (do pure (.value (← s))) P σ r := by
  obtain ⟨v, h1, h2⟩ := h
  exact .quiet H (by simp [h1]) h2
theorem Gives.made {s : Sem Value} {P : Program} (h : ∃ X' w' v, s.run P w = .ok v w' ∧ Ext X X' σ σ' w w' ∧ Inv C X' σ' w' ∧ Rep X' σ' w' v r) : Gives C X σ w (do pure (.value (← s))) P σ' r := by
  obtain ⟨X', w', v, h1, h2, h3, h4⟩ := h
  exact ⟨X', w', v, .inl (by simp [h1]), h2, h3, h4⟩
theorem Gives.wrote {s : Sem Unit} {P : Program} (h : ∃ w', s.run P w = .ok () w' ∧ Ext X X σ σ' w w' ∧ Inv C X σ' w') : Gives C X σ w (do s; pure .skip) P σ' .undef := by
  obtain ⟨w', h1, h2, h3⟩ := h
  exact ⟨X, w', undef, .inr ⟨by simp [h1], rfl⟩, h2, h3, .pure .undef⟩

theorem repO (H : Inv C X σ w) (E : Reps X σ w a.tmps.toList e) {x : Option Operand} {y : Option Opd} (h : opdO C x = some y) : RepO X σ w (x.map a.eval) (y.map (ev e)) := by
  cases x with
  | none => simp only [opdO, Option.some.injEq] at h; subst h; trivial
  | some x =>
    simp only [opdO, Option.map_eq_some_iff] at h
    obtain ⟨y, hy, rfl⟩ := h
    exact opdA_rep H E hy

/-- The statement about an operation. -/
def OpSim (C : Cfg) (f : FuncId) (o : Oper) : Prop := ∀ (X : Ctx) (σ σ' : St) (w : World) (a : Act) (e : Env) (R : Rec) (d : Bool) (m : MOp) (r : AV), Inv C X σ w → Reps X σ w a.tmps.toList e → compOp C f o.dst o.op = some m →
  (∀ g xs, m ≠ .call g xs) → operA C R d e σ m = some (r, σ') → Gives C X σ w (execOp a.eval o) C.P σ' r

theorem os_move {x : Operand} (ho : o.op = .move x ∨ o.op = .assign x) : OpSim C f o := by
  intro X σ σ' w a e R d m r H E hc hn h
  rcases ho with ho | ho <;>
  · rw [ho] at hc
    simp only [compOp, Option.map_eq_some_iff] at hc
    obtain ⟨y, hy, rfl⟩ := hc
    simp only [operA, Option.some.injEq, Prod.mk.injEq] at h
    obtain ⟨rfl, rfl⟩ := h
    simp only [execOp, ho]
    exact .quiet H rfl (opdA_rep H E hy)

theorem os_pick {x y z : Operand} (ho : o.op = .pick x y z) : OpSim C f o := by
  intro X σ σ' w a e R d m r H E hc hn h
  rw [ho] at hc
  simp only [compOp, Option.bind_eq_some_iff, Option.map_eq_some_iff] at hc
  obtain ⟨x', hx, y', hy, z', hz, rfl⟩ := hc
  simp only [operA] at h
  split at h
  case h_2 => cases h
  rename_i b hb
  simp only [Option.some.injEq, Prod.mk.injEq] at h
  obtain ⟨rfl, rfl⟩ := h
  simp only [execOp, ho]
  have h1 := opdA_rep H E hx
  rw [hb] at h1
  have h1 := h1.boolV
  refine .quiet H (v := if b then a.eval y else a.eval z) (by simp [h1, asBool]) ?_
  cases b with
  | true => exact opdA_rep H E hy
  | false => exact opdA_rep H E hz

theorem os_load {t : TypeId} {p : Operand} (ho : o.op = .load t p) : OpSim C f o := by
  intro X σ σ' w a e R d m r H E hc hn h
  rw [ho] at hc
  simp only [compOp, Option.bind_eq_some_iff, Option.map_eq_some_iff] at hc
  obtain ⟨ty, ht, p', hp, rfl⟩ := hc
  simp only [operA, Option.map_eq_some_iff, Prod.mk.injEq] at h
  obtain ⟨v, hv, rfl, rfl⟩ := h
  simp only [execOp, ho]
  obtain ⟨ad, u, h1, h2, h3⟩ := loadA_sim H (tyA_of ht) (opdA_rep H E hp) hv
  exact .read H ⟨u, by simp [Instr.loadAt, Instr.sureAddr, h1, h2], h3⟩

theorem os_nck {x : Operand} (ho : o.op = .nilCheck x) : OpSim C f o := by
  intro X σ σ' w a e R d m r H E hc hn h
  rw [ho] at hc
  simp only [compOp, Option.map_eq_some_iff] at hc
  obtain ⟨p', hp, rfl⟩ := hc
  have hr := opdA_rep H E hp
  simp only [operA] at h
  simp only [execOp, ho]
  split at h
  case h_3 => cases h
  all_goals
    rename_i he
    simp only [Option.some.injEq, Prod.mk.injEq] at h
    obtain ⟨rfl, rfl⟩ := h
    rw [he] at hr
    obtain ⟨ad, h1, h2, h3⟩ := ptrAdd_sim (n := 0) hr rfl
    rw [h1]
    exact .quiet H rfl (by rw [← h1]; exact hr)

theorem rep_bool {b c : Bool} (h : b = c) : Rep X σ w (.bool b) (.bool c) := h ▸ .pure (.bool b)

theorem run_equal_nil {t el : TypeId} {P : Program} (ht : P.underlying t = some (.slice el)) (ba : Option Addr) (n c : Nat) : (Op.equal t (.slice ba n c) (.slice none 0 0)).run P w = .ok ba.isNone w := by
  unfold Op.equal Op.maxDepth
  rw [Op.equalIn.eq_def]
  simp only [Sem.run_bind, run_underlying ht, Result.andThen_ok]
  cases ba <;> simp

theorem eqn_sim {t el : TypeId} {P : Program} (ht : P.underlying t = some (.slice el)) {v : Value} {x : AV} {b : Bool} (hr : Rep X σ w v x) (h : isNil x = some b) (ox oy : Operand) :
    (do eqGuard .eql t ox oy v (.slice none 0 0); binOp .eql t v (.slice none 0 0) : Sem Value).run P w = .ok (.bool b) w ∧ (do eqGuard .neq t ox oy v (.slice none 0 0); binOp .neq t v (.slice none 0 0) : Sem Value).run P w = .ok (.bool (!b)) w := by
  have hv : ∃ ba n c, v = .slice ba n c ∧ ba.isNone = b := by
    cases x <;> simp only [isNil, reduceCtorEq, Option.some.injEq] at h
    · subst h
      cases hr with | pure p => cases p; exact ⟨_, _, _, rfl, rfl⟩
    · subst h
      cases hr with | pure p => cases p; exact ⟨_, _, _, rfl, rfl⟩
    · subst h
      obtain ⟨g, o, cap, _, rfl, _⟩ := hr.slV
      exact ⟨_, _, _, rfl, rfl⟩
    · subst h
      cases hr with
      | pure p => cases p
      | wsl => exact ⟨_, _, _, rfl, rfl⟩
  obtain ⟨ba, n, c, rfl, rfl⟩ := hv
  have h1 := run_equal_nil (w := w) ht ba n c
  have g1 : (eqGuard .eql t ox oy (.slice ba n c) (.slice none 0 0)).run P w = .ok () w := by simp [eqGuard]
  have g2 : (eqGuard .neq t ox oy (.slice ba n c) (.slice none 0 0)).run P w = .ok () w := by simp [eqGuard]
  have b1 : binOp .eql t (.slice ba n c) (.slice none 0 0) = (do pure (.bool (← Op.equal t (.slice ba n c) (.slice none 0 0)))) := rfl
  have b2 : binOp .neq t (.slice ba n c) (.slice none 0 0) = (do pure (.bool (!(← Op.equal t (.slice ba n c) (.slice none 0 0))))) := rfl
  constructor
  · rw [Sem.run_bind, g1, Result.andThen_ok, b1, Sem.run_bind, h1, Result.andThen_ok]; rfl
  · rw [Sem.run_bind, g2, Result.andThen_ok, b2, Sem.run_bind, h1, Result.andThen_ok]; rfl

theorem nilSl_of {y : Operand} (h : nilSl y = true) : y = .const (.slice none 0 0) := by
  unfold nilSl at h
  split at h
  · rfl
  · cases h

theorem os_bin {op : BinOp} {t : TypeId} {x y : Operand} {z : _} (ho : o.op = .binOp op t x y z) : OpSim C f o := by
  intro X σ σ' w a e R d m r H E hc hn h
  rw [ho] at hc
  simp only [compOp, compBin, Option.bind_eq_some_iff] at hc
  obtain ⟨ty, ht, hc⟩ := hc
  have ht := tyA_of ht
  have hst : ∀ hc : (if op = .eql ∨ op = .neq then (eqTy C.P t).bind fun n => (opdA C x).bind fun x => (opdA C y).map (.eqa n (op == .neq) x) else none) = some m, Gives C X σ w ((do eqGuard op t x y (a.eval x) (a.eval y); binOp op t (a.eval x) (a.eval y) : Sem Value) >>= fun v => pure (.value v)) C.P σ' r := by
    intro hc
    split at hc
    case isFalse => cases hc
    rename_i hop
    simp only [Option.bind_eq_some_iff, Option.map_eq_some_iff] at hc
    obtain ⟨n, hn', x', hx, y', hy, rfl⟩ := hc
    simp only [operA] at h
    split at h
    case h_2 => cases h
    rename_i xs ys hb hb'
    split at h
    case isFalse => cases h
    rename_i hl
    simp only [Option.map_eq_some_iff, Prod.mk.injEq] at h
    obtain ⟨q, hq, rfl, rfl⟩ := h
    have h1 := opdA_rep H E hx
    rw [hb] at h1
    have h2 := opdA_rep H E hy
    rw [hb'] at h2
    obtain ⟨k1, k2⟩ := eqa_sim hn' h1 h2 hl.1 hl.2 hq x y
    rcases hop with rfl | rfl
    · exact .read H ⟨_, k1, rep_bool (by cases q <;> rfl)⟩
    · exact .read H ⟨_, k2, rep_bool (by cases q <;> rfl)⟩
  simp only [execOp, ho]
  split at hc
  · -- whole numbers
    simp only [Option.bind_eq_some_iff, Option.map_eq_some_iff] at hc
    obtain ⟨x', hx, y', hy, rfl⟩ := hc
    simp only [operA, Option.map_eq_some_iff, Prod.mk.injEq] at h
    obtain ⟨v, hv, rfl, rfl⟩ := h
    exact .read H (binA_sim (opdA_rep H E hx) (opdA_rep H E hy) hv x y)
  · rename_i hk
    split at hc
    case isFalse => cases hc
    rename_i hop
    simp only [Option.bind_eq_some_iff, Option.map_eq_some_iff] at hc
    obtain ⟨x', hx, y', hy, rfl⟩ := hc
    simp only [operA] at h
    split at h
    case h_2 => cases h
    rename_i b b' hb hb'
    simp only [Option.some.injEq, Prod.mk.injEq] at h
    obtain ⟨rfl, rfl⟩ := h
    have h1 := opdA_rep H E hx
    rw [hb] at h1
    have h2 := opdA_rep H E hy
    rw [hb'] at h2
    obtain ⟨k1, k2⟩ := beq_sim ht hk h1 h2 x y
    rcases hop with rfl | rfl
    · exact .read H ⟨_, k1, rep_bool (by cases b <;> cases b' <;> rfl)⟩
    · exact .read H ⟨_, k2, rep_bool (by cases b <;> cases b' <;> rfl)⟩
  · exact hst hc
  · exact hst hc
  · rename_i el hk
    split at hc
    case isFalse => cases hc
    rename_i hop
    obtain ⟨hop, hy⟩ := hop
    simp only [Option.map_eq_some_iff] at hc
    obtain ⟨x', hx, rfl⟩ := hc
    simp only [operA, Option.map_eq_some_iff, Prod.mk.injEq] at h
    obtain ⟨q, hq, rfl, rfl⟩ := h
    obtain rfl := nilSl_of hy
    obtain ⟨k1, k2⟩ := eqn_sim (ht.slice hk) (opdA_rep H E hx) hq x (.const (.slice none 0 0))
    rcases hop with rfl | rfl
    · exact .read H ⟨_, k1, rep_bool (by cases q <;> rfl)⟩
    · exact .read H ⟨_, k2, rep_bool (by cases q <;> rfl)⟩
  · cases hc

theorem os_un {op : UnOp} {t : TypeId} {x : Operand} (ho : o.op = .unOp op t x) : OpSim C f o := by
  intro X σ σ' w a e R d m r H E hc hn h
  rw [ho] at hc
  simp only [compOp] at hc
  simp only [execOp, ho]
  split at hc
  case h_3 => cases hc
  all_goals
    simp only [Option.map_eq_some_iff] at hc
    obtain ⟨x', hx, rfl⟩ := hc
    simp only [operA] at h
    split at h
    case h_2 => cases h
    rename_i he
    simp only [Option.some.injEq, Prod.mk.injEq] at h
    obtain ⟨rfl, rfl⟩ := h
    have h1 := opdA_rep H E hx
    rw [he] at h1
  · obtain h1 := h1.intV
    exact .read H ⟨_, by simp only [h1, Op.unary, Op.intArith]; rfl, .pure (.int ..)⟩
  · obtain h1 := h1.boolV
    exact .read H ⟨_, by simp only [h1, Op.unary]; rfl, .pure (.bool _)⟩

theorem os_conv {s t : TypeId} {x : Operand} (ho : o.op = .convert s t x) : OpSim C f o := by
  intro X σ σ' w a e R d m r H E hc hn h
  rw [ho] at hc
  simp only [compOp, Option.bind_eq_some_iff] at hc
  obtain ⟨sy, hs, ty, ht, hc⟩ := hc
  split at hc
  case h_2 => cases hc
  rename_i k hk
  simp only [Option.map_eq_some_iff] at hc
  obtain ⟨x', hx, rfl⟩ := hc
  simp only [execOp, ho]
  simp only [operA] at h
  split at h
  case h_2 => cases h
  rename_i he
  simp only [Option.some.injEq, Prod.mk.injEq] at h
  obtain ⟨rfl, rfl⟩ := h
  have h1 := opdA_rep H E hx
  rw [he] at h1
  obtain h1 := h1.intV
  obtain ⟨ds, hds, _⟩ := (tyA_of hs).underlying
  refine .read H ⟨_, ?_, .pure (.int ..)⟩
  simp only [convert, Sem.run_bind, run_underlying hds, Result.andThen_ok, run_underlying ((tyA_of ht).intT hk), h1]
  simp [Conv.intToInt]

theorem os_mkf {fn : Fn} {xs ys : Array Operand} (ho : o.op = .makeFunc fn xs ys) : OpSim C f o := by
  intro X σ σ' w a e R d m r H E hc hn h
  rw [ho] at hc
  simp only [compOp, Option.bind_eq_some_iff, Option.map_eq_some_iff] at hc
  obtain ⟨x', hx, y', hy, rfl⟩ := hc
  simp only [operA, Option.some.injEq, Prod.mk.injEq] at h
  obtain ⟨rfl, rfl⟩ := h
  simp only [execOp, ho]
  have h1 := opds_rep H E hx
  have h2 := opds_rep H E hy
  refine .quiet H (v := .func fn (xs.map a.eval) (ys.map a.eval)) (by simp [Instr.makeFunc]) (.fn _ _ _ _ _ (by simpa using h1.1) (by simpa using h2.1) (fun i v c hv hc => h1.2 i v c (by simpa using hv) hc) (fun i v c hv hc => h2.2 i v c (by simpa using hv) hc))

theorem os_ext {x : Operand} {i : Nat} (ho : o.op = .extract x i) : OpSim C f o := by
  intro X σ σ' w a e R d m r H E hc hn h
  rw [ho] at hc
  simp only [compOp, Option.map_eq_some_iff] at hc
  obtain ⟨x', hx, rfl⟩ := hc
  simp only [execOp, ho]
  simp only [operA] at h
  split at h
  case h_2 => cases h
  rename_i vs he
  simp only [Option.map_eq_some_iff, Prod.mk.injEq] at h
  obtain ⟨v, hv, rfl, rfl⟩ := h
  have h1 := opdA_rep H E hx
  rw [he] at h1
  obtain ⟨us, h1, h2, h3⟩ := h1.tupV
  obtain ⟨u, hu⟩ := some_of_size (l := us) (i := i) (by have := lt_of_some hv; omega)
  exact .read H ⟨u, by simp [h1, Instr.extract, hu], h3 i u v hu hv⟩

theorem os_slice {t : TypeId} {x : Operand} {lo hi mx : Option Operand} (ho : o.op = .slice t x lo hi mx) : OpSim C f o := by
  intro X σ σ' w a e R d m r H E hc hn h
  rw [ho] at hc
  simp only [compOp, Option.bind_eq_some_iff] at hc
  obtain ⟨ty, ht, x', hx, hc⟩ := hc
  simp only [execOp, ho]
  split at hc
  · rename_i el hk
    simp only [Option.bind_eq_some_iff] at hc
    obtain ⟨b, hb, l', hl, h', hh, m', hm, hc⟩ := hc
    split at hc
    · cases hc
    rename_i hmh
    simp only [Option.some.injEq] at hc
    subst hc
    simp only [operA, Option.map_eq_some_iff, Prod.mk.injEq] at h
    obtain ⟨v, hv, rfl, rfl⟩ := h
    exact .read H (slc_sim (tyA_of ht) hk (tyA_of hb) (opdA_rep H E hx) (repO H E hl) (repO H E hh) (repO H E hm) (by
      intro h1
      cases h' <;> cases m' <;> simp_all) hv)
  · rename_i n el hk
    simp only [Option.bind_eq_some_iff] at hc
    obtain ⟨b, hb, hc⟩ := hc
    split at hc
    case isFalse => cases hc
    rename_i hnn
    obtain ⟨n1, n2, n3⟩ := hnn
    simp only [Option.isNone_iff_eq_none] at n1 n2 n3
    subst n1 n2 n3
    simp only [Option.some.injEq] at hc
    subst hc
    simp only [operA, Option.map_eq_some_iff, Prod.mk.injEq] at h
    obtain ⟨v, hv, rfl, rfl⟩ := h
    exact .read H (arr_sim H (tyA_of ht) hk (tyA_of hb) (opdA_rep H E hx) hv)
  · cases hc

theorem os_fad {t : TypeId} {x : Operand} {i : Nat} (ho : o.op = .fieldAddr t x i) : OpSim C f o := by
  intro X σ σ' w a e R d m r H E hc hn h
  rw [ho] at hc
  simp only [compOp, Option.bind_eq_some_iff] at hc
  obtain ⟨ty, ht, hc⟩ := hc
  simp only [execOp, ho]
  split at hc
  case h_2 => cases hc
  rename_i fs hk
  simp only [Option.bind_eq_some_iff] at hc
  obtain ⟨q, hq, b, hb, hc⟩ := hc
  split at hc
  · cases hc
  rename_i hz
  simp only [Option.map_eq_some_iff] at hc
  obtain ⟨x', hx, rfl⟩ := hc
  simp only [operA, Option.map_eq_some_iff, Prod.mk.injEq] at h
  obtain ⟨v, hv, rfl, rfl⟩ := h
  exact .read H (fad_sim (tyA_of ht) hk hq (tyA_of hb) hz (opdA_rep H E hx) hv)

theorem os_fld {t : TypeId} {x : Operand} {i : Nat} (ho : o.op = .field t x i) : OpSim C f o := by
  intro X σ σ' w a e R d m r H E hc hn h
  rw [ho] at hc
  simp only [compOp, Option.bind_eq_some_iff] at hc
  obtain ⟨ty, ht, hc⟩ := hc
  simp only [execOp, ho]
  split at hc
  case h_2 => cases hc
  rename_i fs hk
  simp only [Option.bind_eq_some_iff, Option.map_eq_some_iff] at hc
  obtain ⟨q, hq, b, hb, x', hx, rfl⟩ := hc
  simp only [operA, Option.map_eq_some_iff, Prod.mk.injEq] at h
  obtain ⟨v, hv, rfl, rfl⟩ := h
  exact .read H (fld_sim (tyA_of ht) hk hq (tyA_of hb) (opdA_rep H E hx) hv)

theorem os_ixad {t : TypeId} {x i : Operand} (ho : o.op = .indexAddr t x i) : OpSim C f o := by
  intro X σ σ' w a e R d m r H E hc hn h
  rw [ho] at hc
  simp only [compOp, Option.bind_eq_some_iff] at hc
  obtain ⟨ty, ht, x', hx, i', hi, hc⟩ := hc
  simp only [execOp, ho]
  split at hc
  case h_3 => cases hc
  all_goals
    rename_i hk
    simp only [Option.map_eq_some_iff] at hc
    obtain ⟨b, hb, rfl⟩ := hc
    simp only [operA, Option.map_eq_some_iff, Prod.mk.injEq] at h
    obtain ⟨v, hv, rfl, rfl⟩ := h
  · exact .read H (ixa_sim (tyA_of ht) hk (tyA_of hb) (opdA_rep H E hx) (opdA_rep H E hi) hv)
  · exact .read H (ixs_sim (tyA_of ht) hk (tyA_of hb) (opdA_rep H E hx) (opdA_rep H E hi) hv)

theorem ixt_sim {P : Program} {X : Ctx} {σ : St} {w : World} {t : TypeId} {a : ATy} (ht : TyOf P t a) (hk : a.kind = .str) {p v : Value} {x i r : AV} (hp : Rep X σ w p x) (hv : Rep X σ w v i) (h : ixtA x i = some r) : ∃ u, (Instr.index t p v).run P w = .ok u w ∧ Rep X σ w u r := by
  cases x <;> cases i <;> simp only [ixtA, reduceCtorEq] at h
  rename_i s k n
  split at h
  case isFalse => cases h
  rename_i h0
  simp only [Option.map_eq_some_iff] at h
  obtain ⟨b, hb, rfl⟩ := h
  obtain rfl := hv.intV
  have hs : p = .string s := by cases hp with | pure q => cases q; rfl
  subst hs
  obtain ⟨d, j, z, hd, _, _, hkd, _⟩ := ht
  have hd' : d = .string := by
    rw [hk] at hkd
    cases d <;> simp [kindA] at hkd
    rfl
  subst hd'
  refine ⟨.int .u8 b.toNat, ?_, .pure (.int ..)⟩
  simp only [Instr.index, asIntOf, Sem.run_bind, Sem.run_pure, Result.andThen_ok, run_underlying hd, h0, if_true, hb]

theorem os_index {t : TypeId} {x i : Operand} (ho : o.op = .index t x i) : OpSim C f o := by
  intro X σ σ' w a e R d m r H E hc hn h
  rw [ho] at hc
  simp only [compOp, Option.bind_eq_some_iff] at hc
  obtain ⟨ty, ht, x', hx, i', hi, hc⟩ := hc
  simp only [execOp, ho]
  split at hc
  case h_3 => cases hc
  case h_2 =>
    rename_i hk
    simp only [Option.some.injEq] at hc
    subst hc
    simp only [operA, Option.map_eq_some_iff, Prod.mk.injEq] at h
    obtain ⟨v, hv, rfl, rfl⟩ := h
    exact .read H (ixt_sim (tyA_of ht) hk (opdA_rep H E hx) (opdA_rep H E hi) hv)
  rename_i hk
  simp only [Option.map_eq_some_iff] at hc
  obtain ⟨b, hb, rfl⟩ := hc
  simp only [operA, Option.map_eq_some_iff, Prod.mk.injEq] at h
  obtain ⟨v, hv, rfl, rfl⟩ := h
  exact .read H (ixv_sim (tyA_of ht) hk (tyA_of hb) (opdA_rep H E hx) (opdA_rep H E hi) hv)

theorem os_lookup {t : TypeId} {x i : Operand} {ok : Bool} (ho : o.op = .lookup t x i ok) : OpSim C f o := by
  intro X σ σ' w a e R d m r H E hc hn h
  rw [ho] at hc
  simp only [compOp, Option.bind_eq_some_iff] at hc
  obtain ⟨ty, ht, hc⟩ := hc
  simp only [execOp, ho]
  split at hc
  case h_2 => cases hc
  rename_i hk
  simp only [Option.bind_eq_some_iff, Option.map_eq_some_iff] at hc
  obtain ⟨kn, hkn, b, hb, z, hz, x', hx, i', hi, rfl⟩ := hc
  simp only [operA, Option.map_eq_some_iff, Prod.mk.injEq] at h
  obtain ⟨v, hv, rfl, rfl⟩ := h
  exact .read H (lkp_sim H (tyA_of ht) hk hkn (tyA_of hb) hz (opdA_rep H E hx) (opdA_rep H E hi) hv)

theorem os_alloc {t : TypeId} (ho : o.op = .alloc t) : OpSim C f o := by
  intro X σ σ' w a e R d m r H E hc hn h
  rw [ho] at hc
  simp only [compOp, Option.bind_eq_some_iff] at hc
  obtain ⟨ty, ht, hc⟩ := hc
  split at hc
  case isFalse => cases hc
  rename_i hcell
  simp only [Option.some.injEq] at hc
  subst hc
  simp only [operA, Option.some.injEq, Prod.mk.injEq] at h
  obtain ⟨rfl, rfl⟩ := h
  simp only [execOp, ho]
  exact .made (alloc_sim H (tyA_of ht) hcell)

theorem os_box {t : TypeId} {x : Operand} (ho : o.op = .box t x) : OpSim C f o := by
  intro X σ σ' w a e R d m r H E hc hn h
  rw [ho] at hc
  simp only [compOp, Option.map_eq_some_iff] at hc
  obtain ⟨x', hx, rfl⟩ := hc
  simp only [operA] at h
  simp only [execOp, ho]
  exact .made (box_sim H (opdA_rep H E hx) h)

theorem os_store {t : TypeId} {p x : Operand} (ho : o.op = .store t p x) : OpSim C f o := by
  intro X σ σ' w a e R d m r H E hc hn h
  rw [ho] at hc
  simp only [compOp, Option.bind_eq_some_iff, Option.map_eq_some_iff] at hc
  obtain ⟨ty, ht, p', hp, x', hx, rfl⟩ := hc
  simp only [operA, Option.map_eq_some_iff, Prod.mk.injEq] at h
  obtain ⟨τ, hτ, rfl, rfl⟩ := h
  simp only [execOp, ho]
  exact .wrote (store_sim H (tyA_of ht) (opdA_rep H E hp) (opdA_rep H E hx) hτ)

theorem os_mkm {t : TypeId} {x : Option Operand} (ho : o.op = .makeMap t x) : OpSim C f o := by
  intro X σ σ' w a e R d m r H E hc hn h
  rw [ho] at hc
  cases x with
  | some x => simp [compOp] at hc
  | none =>
    simp only [compOp, Option.some.injEq] at hc
    subst hc
    simp only [operA, Option.some.injEq, Prod.mk.injEq] at h
    obtain ⟨rfl, rfl⟩ := h
    simp only [execOp, ho]
    exact .made (mkm_sim H)

theorem os_mks {t : TypeId} {x y : Operand} (ho : o.op = .makeSlice t x y) : OpSim C f o := by
  intro X σ σ' w a e R d m r H E hc hn h
  rw [ho] at hc
  simp only [compOp, Option.bind_eq_some_iff] at hc
  obtain ⟨ty, ht, hc⟩ := hc
  simp only [execOp, ho]
  split at hc
  case h_2 => cases hc
  rename_i hk
  simp only [Option.bind_eq_some_iff] at hc
  obtain ⟨b, hb, hc⟩ := hc
  split at hc
  · cases hc
  rename_i hz
  simp only [Option.bind_eq_some_iff, Option.map_eq_some_iff] at hc
  obtain ⟨x', hx, y', hy, rfl⟩ := hc
  simp only [operA] at h
  exact .made (mks_sim H (tyA_of ht) hk (tyA_of hb) (fun h => hz (.inl h)) (by simpa using fun h => hz (.inr h)) (opdA_rep H E hx) (opdA_rep H E hy) h)

theorem os_mput {t : TypeId} {x k v : Operand} (ho : o.op = .mapUpdate t x k v ∨ o.op = .insert t x k v) : OpSim C f o := by
  intro X σ σ' w a e R d m r H E hc hn h
  have hc : (tyA C.P t).bind (fun a => (match a.kind with
      | .map kt _ => (keyTy C.P kt).bind fun kn => (opdA C x).bind fun m => (opdA C k).bind fun k => (opdA C v).map (.mput kn m k)
      | _ => none)) = some m := by rcases ho with ho | ho <;> rw [ho] at hc <;> exact hc
  have hx : execOp a.eval o = (do Instr.mapUpdate t (a.eval x) (a.eval k) (a.eval v); pure .skip) := by rcases ho with ho | ho <;> simp only [execOp, ho]
  rw [hx]
  simp only [Option.bind_eq_some_iff] at hc
  obtain ⟨ty, ht, hc⟩ := hc
  split at hc
  case h_2 => cases hc
  rename_i hk
  simp only [Option.bind_eq_some_iff, Option.map_eq_some_iff] at hc
  obtain ⟨kn, hkn, x', hx, k', hk', v', hv, rfl⟩ := hc
  simp only [operA, Option.map_eq_some_iff, Prod.mk.injEq] at h
  obtain ⟨τ, hτ, rfl, rfl⟩ := h
  exact .wrote (mput_sim H (tyA_of ht) hk hkn (opdA_rep H E hx) (opdA_rep H E hk') (opdA_rep H E hv) hτ)

theorem os_ment {t : TypeId} {x k : Operand} (ho : o.op = .mapEntry t x k) : OpSim C f o := by
  intro X σ σ' w a e R d m r H E hc hn h
  rw [ho] at hc
  simp only [compOp, Option.bind_eq_some_iff] at hc
  obtain ⟨ty, ht, hc⟩ := hc
  simp only [execOp, ho]
  split at hc
  case h_2 => cases hc
  rename_i hk
  simp only [Option.bind_eq_some_iff, Option.map_eq_some_iff] at hc
  obtain ⟨kn, hkn, b, hb, z, hz, x', hx, k', hk', rfl⟩ := hc
  simp only [operA] at h
  obtain ⟨w', u, h1, h2, h3, h4⟩ := ment_sim H (tyA_of ht) hk hkn (tyA_of hb) hz (opdA_rep H E hx) (opdA_rep H E hk') h
  exact .made ⟨X, w', u, h1, h2, h3, h4⟩

theorem os_esto {t : TypeId} {x k v : Operand} (ho : o.op = .entryStore t x k v) : OpSim C f o := by
  intro X σ σ' w a e R d m r H E hc hn h
  rw [ho] at hc
  simp only [compOp, Option.bind_eq_some_iff, Option.map_eq_some_iff] at hc
  obtain ⟨x', hx, k', hk', v', hv, rfl⟩ := hc
  simp only [operA, Option.map_eq_some_iff, Prod.mk.injEq] at h
  obtain ⟨τ, hτ, rfl, rfl⟩ := h
  simp only [execOp, ho]
  exact .wrote (esto_sim H (opdA_rep H E hx) (opdA_rep H E hk') (opdA_rep H E hv) hτ)
end
end Go.Ai

set_option linter.unusedVariables false
set_option linter.unusedSimpArgs false
namespace Go.Ai
section
variable {C : Cfg} {X : Ctx} {σ σ' : St} {w : World} {a : Act} {e : Env} {R : Rec} {d : Bool} {f : FuncId} {o : Oper} {m : MOp} {r : AV}

theorem os_build {t : TypeId} {ps : Array (Nat × Operand)} (ho : o.op = .build t ps) : OpSim C f o := by
  intro X σ σ' w a e R d m r H E hc hn h
  rw [ho] at hc
  simp only [compOp, Option.bind_eq_some_iff] at hc
  obtain ⟨ty, ht, hc⟩ := hc
  have ht := tyA_of ht
  simp only [execOp, ho]
  split at hc
  · rename_i fs hk
    split at hc
    · cases hc
    rename_i hall
    simp only [Option.map_eq_some_iff] at hc
    obtain ⟨qs, hq, rfl⟩ := hc
    simp only [operA, Option.map_eq_some_iff, Prod.mk.injEq] at h
    obtain ⟨ds, hd, rfl, rfl⟩ := h
    have hall : ∀ fl ∈ fs, ∃ b, TyOf C.P fl.2 b := fun fl hfl => by
      have hall : fs.all (fun fl => (tyA C.P fl.2).isSome) = true := by rw [Bool.not_eq_true] at hall; simpa only [Bool.not_eq_false'] using hall
      have := List.all_eq_true.1 hall fl hfl
      obtain ⟨b, hb⟩ := Option.isSome_iff_exists.1 this
      exact ⟨b, tyA_of hb⟩
    obtain ⟨k1, k2⟩ := mapM_get hq
    refine .read H (bld_st ht hk hall ⟨by simp [k1], fun i p q hp hq' => ?_⟩ hd)
    simp only [Array.toList_map, List.getElem?_map, Option.map_eq_some_iff] at hp hq'
    obtain ⟨p0, hp0, rfl⟩ := hp
    obtain ⟨q0, hq0, rfl⟩ := hq'
    have := k2 i p0 q0 hp0 hq0
    simp only [Option.bind_eq_some_iff, Option.map_eq_some_iff] at this
    obtain ⟨fl, hfl, b, hb, x, hx, rfl⟩ := this
    obtain ⟨inf, hi, hsz, _⟩ := (tyA_of hb).info
    exact ⟨by simp [hfl, hi, hsz], opdA_rep H E hx⟩
  · rename_i n el hk
    simp only [Option.bind_eq_some_iff, Option.map_eq_some_iff] at hc
    obtain ⟨b, hb, qs, hq, rfl⟩ := hc
    simp only [operA, Option.map_eq_some_iff, Prod.mk.injEq] at h
    obtain ⟨ds, hd, rfl, rfl⟩ := h
    obtain ⟨k1, k2⟩ := mapM_get hq
    refine .read H (bld_arr ht hk (tyA_of hb) ⟨by simp [k1], fun i p q hp hq' => ?_⟩ hd)
    simp only [Array.toList_map, List.getElem?_map, Option.map_eq_some_iff] at hp hq'
    obtain ⟨p0, hp0, rfl⟩ := hp
    obtain ⟨q0, hq0, rfl⟩ := hq'
    have := k2 i p0 q0 hp0 hq0
    simp only [Option.map_eq_some_iff] at this
    obtain ⟨x, hx, rfl⟩ := this
    exact ⟨rfl, opdA_rep H E hx⟩
  · cases hc

theorem os_bsl {t : TypeId} {n : Nat} {ps : Array (Nat × Operand)} (ho : o.op = .buildSlice t n ps) : OpSim C f o := by
  intro X σ σ' w a e R d m r H E hc hn h
  rw [ho] at hc
  simp only [compOp, Option.bind_eq_some_iff] at hc
  obtain ⟨ty, ht, hc⟩ := hc
  have ht := tyA_of ht
  simp only [execOp, ho]
  split at hc
  case h_2 => cases hc
  rename_i el hk
  simp only [Option.bind_eq_some_iff] at hc
  obtain ⟨b, hb, z, hz, hc⟩ := hc
  split at hc
  case isFalse => cases hc
  rename_i hcond
  simp only [Option.map_eq_some_iff] at hc
  obtain ⟨qs, hq, rfl⟩ := hc
  obtain ⟨k1, k2⟩ := mapM_get hq
  have hps : ∀ (i : Nat) (p : Nat × Value) (q : Nat × AV), (ps.map fun p => (p.1, a.eval p.2)).toList[i]? = some p → (qs.map fun p => (p.1, ev e p.2))[i]? = some q → p.1 = q.1 ∧ Rep X σ w p.2 q.2 := by
    intro i p q hp hq'
    simp only [Array.toList_map, List.getElem?_map, Option.map_eq_some_iff] at hp hq'
    obtain ⟨p0, hp0, rfl⟩ := hp
    obtain ⟨q0, hq0, rfl⟩ := hq'
    have := k2 i p0 q0 hp0 hq0
    simp only [Option.map_eq_some_iff] at this
    obtain ⟨x, hx, rfl⟩ := this
    exact ⟨rfl, opdA_rep H E hx⟩
  unfold bslOp at h
  split at h
  · simp only [operA] at h
    exact .made (bsw_sim H ht hk (tyA_of hb) hcond.1 hcond.2.1 (by simp [k1]) hps h)
  split at h
  · simp only [operA] at h
    exact .made (bsf_sim H ht hk (tyA_of hb) hz hcond.1 hcond.2.1 hcond.2.2 (by simp [k1]) hps h)
  simp only [operA, Option.map_eq_some_iff, Prod.mk.injEq] at h
  obtain ⟨ds, hd, rfl, rfl⟩ := h
  exact .made (bsl_sim H ht hk (tyA_of hb) hz hcond.1 hcond.2.1 hcond.2.2 (by simp [k1]) hps hd)

/-- What a call of a builtin is. -/
theorem run_builtin {P : Program} {c : Call} {b : Builtin} (hc : c.callee = .builtin b) (ho : o.op = .call c) : ∃ cs, (execOp a.eval o).run P w = (builtin b c.argTypes o.type cs (c.args.map a.eval)).run P w := by
  simp only [execOp, ho, resolve, hc, Sem.run_bind, Sem.run_pure, Result.andThen_ok, invoke]
  exact ⟨_, rfl⟩

theorem opds_list (H : Inv C X σ w) (E : Reps X σ w a.tmps.toList e) {xs : List Operand} {ys : List Opd} (h : xs.mapM (opdA C) = some ys) : Reps X σ w (xs.map a.eval) (ys.map (ev e)) := by
  have := opds_rep (xs := xs.toArray) H E (ys := ys) (by simpa [opdsA] using h)
  simpa using this

theorem Gives.congr {s s' : Sem Next} {P : Program} (hs : s.run P w = s'.run P w) (h : Gives C X σ w s' P σ' r) : Gives C X σ w s P σ' r := by
  obtain ⟨X', w', v, h1, h2⟩ := h
  exact ⟨X', w', v, by rw [hs]; exact h1, h2⟩

theorem arr_of_list {α : Type} {xs : Array α} {l : List α} (h : xs.toList = l) : xs = l.toArray := by rw [← h]

theorem os_builtin {c : Call} {b : Builtin} (hb : c.callee = .builtin b) (ho : o.op = .call c) : OpSim C f o := by
  intro X σ σ' w a e R d m r H E hc hn h
  rw [ho] at hc
  simp only [compOp, compCall, hb] at hc
  obtain ⟨cs, hrun⟩ := run_builtin (P := C.P) (w := w) (a := a) hb ho
  refine .congr hrun ?_
  unfold compBuiltin at hc
  split at hc
  · -- len
    rename_i t x ht0 hx0
    rw [arr_of_list ht0, arr_of_list hx0]
    simp only [Option.bind_eq_some_iff] at hc
    obtain ⟨ty, ht, hc⟩ := hc
    have ht := tyA_of ht
    simp only [builtin]
    split at hc
    · rename_i el hk
      simp only [Option.map_eq_some_iff] at hc
      obtain ⟨x', hx, rfl⟩ := hc
      simp only [operA, Option.map_eq_some_iff, Prod.mk.injEq] at h
      obtain ⟨v, hv, rfl, rfl⟩ := h
      exact .read H (by simpa using len_sim ht hk (opdA_rep H E hx) hv o.type)
    · rename_i n el hk
      simp only [Option.some.injEq] at hc
      subst hc
      simp only [operA, Option.some.injEq, Prod.mk.injEq] at h
      obtain ⟨rfl, rfl⟩ := h
      exact .read H ⟨_, by simp [Builtin.len_, run_underlying (ht.array hk)]; rfl, .pure (.int ..)⟩
    · cases hc
  · -- min
    rename_i ts x xs hx0
    simp only [Option.bind_eq_some_iff, Option.map_eq_some_iff] at hc
    obtain ⟨x', hx, xs', hxs, rfl⟩ := hc
    simp only [operA, Option.map_eq_some_iff, Prod.mk.injEq] at h
    obtain ⟨v, hv, rfl, rfl⟩ := h
    simp only [builtin, Builtin.min_, arr_of_list hx0]
    exact .read H (by simpa using fold_sim (g := Builtin.min2) min2_sim _ _ _ _ _ (opds_list H E hxs) (opdA_rep H E hx) hv)
  · -- max
    rename_i ts x xs hx0
    simp only [Option.bind_eq_some_iff, Option.map_eq_some_iff] at hc
    obtain ⟨x', hx, xs', hxs, rfl⟩ := hc
    simp only [operA, Option.map_eq_some_iff, Prod.mk.injEq] at h
    obtain ⟨v, hv, rfl, rfl⟩ := h
    simp only [builtin, Builtin.max_, arr_of_list hx0]
    exact .read H (by simpa using fold_sim (g := Builtin.max2) max2_sim _ _ _ _ _ (opds_list H E hxs) (opdA_rep H E hx) hv)
  · -- append
    rename_i t t' s x ht0 hx0
    rw [arr_of_list ht0, arr_of_list hx0]
    simp only [Option.bind_eq_some_iff] at hc
    obtain ⟨ty, ht, hc⟩ := hc
    have ht := tyA_of ht
    simp only [builtin]
    split at hc
    case h_2 => cases hc
    rename_i el hk
    simp only [Option.bind_eq_some_iff] at hc
    obtain ⟨b, hb, hc⟩ := hc
    split at hc
    · cases hc
    rename_i hcond
    simp only [not_or, ne_eq, Classical.not_not] at hcond
    obtain ⟨c1, c2, rfl⟩ := hcond
    simp only [Option.bind_eq_some_iff, Option.map_eq_some_iff] at hc
    obtain ⟨s', hs, x', hx, rfl⟩ := hc
    simp only [operA] at h
    exact .made (by simpa using app_sim H ht hk (tyA_of hb) c1 c2 (opdA_rep H E hs) (opdA_rep H E hx) o.type h)
  · -- clear
    rename_i t x ht0 hx0
    rw [arr_of_list ht0, arr_of_list hx0]
    simp only [Option.bind_eq_some_iff] at hc
    obtain ⟨ty, ht, hc⟩ := hc
    have ht := tyA_of ht
    simp only [builtin]
    split at hc
    case h_2 => cases hc
    rename_i el hk
    simp only [Option.bind_eq_some_iff] at hc
    obtain ⟨b, hb, hc⟩ := hc
    split at hc
    · cases hc
    rename_i hcond
    simp only [not_or, ne_eq, Classical.not_not] at hcond
    simp only [Option.map_eq_some_iff] at hc
    obtain ⟨x', hx, rfl⟩ := hc
    simp only [operA, Option.map_eq_some_iff, Prod.mk.injEq] at h
    obtain ⟨τ, hτ, rfl, rfl⟩ := h
    exact .made (by simpa using clear_sim H ht hk (tyA_of hb) hcond.1 hcond.2 (opdA_rep H E hx) o.type hτ)
  · cases hc

/-- Every operation that is no call. -/
theorem oper_sim : OpSim C f o := by
  intro X σ σ' w a e R d m r H E hc hn h
  cases ho : o.op with
  | move => exact os_move (.inl ho) X σ σ' w a e R d m r H E hc hn h
  | assign => exact os_move (.inr ho) X σ σ' w a e R d m r H E hc hn h
  | pick => exact os_pick ho X σ σ' w a e R d m r H E hc hn h
  | build => exact os_build ho X σ σ' w a e R d m r H E hc hn h
  | buildSlice => exact os_bsl ho X σ σ' w a e R d m r H E hc hn h
  | load => exact os_load ho X σ σ' w a e R d m r H E hc hn h
  | nilCheck => exact os_nck ho X σ σ' w a e R d m r H E hc hn h
  | binOp => exact os_bin ho X σ σ' w a e R d m r H E hc hn h
  | unOp => exact os_un ho X σ σ' w a e R d m r H E hc hn h
  | convert => exact os_conv ho X σ σ' w a e R d m r H E hc hn h
  | makeFunc => exact os_mkf ho X σ σ' w a e R d m r H E hc hn h
  | extract => exact os_ext ho X σ σ' w a e R d m r H E hc hn h
  | slice => exact os_slice ho X σ σ' w a e R d m r H E hc hn h
  | fieldAddr => exact os_fad ho X σ σ' w a e R d m r H E hc hn h
  | field => exact os_fld ho X σ σ' w a e R d m r H E hc hn h
  | indexAddr => exact os_ixad ho X σ σ' w a e R d m r H E hc hn h
  | index => exact os_index ho X σ σ' w a e R d m r H E hc hn h
  | lookup => exact os_lookup ho X σ σ' w a e R d m r H E hc hn h
  | alloc => exact os_alloc ho X σ σ' w a e R d m r H E hc hn h
  | box => exact os_box ho X σ σ' w a e R d m r H E hc hn h
  | store => exact os_store ho X σ σ' w a e R d m r H E hc hn h
  | makeMap => exact os_mkm ho X σ σ' w a e R d m r H E hc hn h
  | makeSlice => exact os_mks ho X σ σ' w a e R d m r H E hc hn h
  | mapUpdate => exact os_mput (.inl ho) X σ σ' w a e R d m r H E hc hn h
  | insert => exact os_mput (.inr ho) X σ σ' w a e R d m r H E hc hn h
  | mapEntry => exact os_ment ho X σ σ' w a e R d m r H E hc hn h
  | entryStore => exact os_esto ho X σ σ' w a e R d m r H E hc hn h
  | panic => rw [ho] at hc; simp only [compOp, Option.some.injEq] at hc; subst hc; cases h
  | makeInterface => rw [ho] at hc; simp only [compOp, Option.some.injEq] at hc; subst hc; cases h
  | call c =>
    cases hcc : c.callee with
    | builtin b => exact os_builtin hcc ho X σ σ' w a e R d m r H E hc hn h
    | invoke => rw [ho] at hc; simp [compOp, compCall, hcc] at hc
    | value g =>
      rw [ho] at hc
      simp only [compOp, compCall, hcc, Option.bind_eq_some_iff, Option.map_eq_some_iff] at hc
      obtain ⟨_, _, _, _, rfl⟩ := hc
      exact absurd rfl (hn _ _)
  | _ => rw [ho] at hc; simp [compOp] at hc
end
end Go.Ai
