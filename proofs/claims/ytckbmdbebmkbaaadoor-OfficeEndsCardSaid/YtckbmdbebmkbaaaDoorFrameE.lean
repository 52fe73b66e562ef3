/- This text shows regions whose order is open; what the interpreter answers the program answers. No conditions of its own. -/
import Derived.Test.YtckbmdbebmkbaaaDoorFrameD
import Derived.LoopNIn
import Derived.Scope
set_option linter.unusedSimpArgs false
set_option linter.unusedVariables false
set_option linter.unusedVariables false
set_option linter.unusedSimpArgs false
namespace Go.Ai
section
variable {C : Cfg} {X X' : Ctx} {σ σ' : St} {w w' : World} {R : Rec} {d : Bool}

/-! ### What the text says -/
theorem isStore_spec {o : MO} {n : Nat} {t : Tmp} {x : Opd} (h : isStore o = some (n, t, x)) : o = ⟨none, none, .store n (.tmp t) x⟩ := by
  unfold isStore at h
  split at h
  · simp only [Option.some.injEq, Prod.mk.injEq] at h; obtain ⟨rfl, rfl, rfl⟩ := h; rfl
  · cases h
theorem isAlloc_spec {o : MO} {n : Nat} {t : Tmp} {z : List AV} (h : isAlloc t n o = some z) : o = ⟨some t, none, .alloc z⟩ ∧ z.length = n := by
  unfold isAlloc at h
  split at h
  · split at h
    · rename_i hc
      simp only [Option.some.injEq] at h
      obtain ⟨rfl, hn⟩ := hc
      subst h
      exact ⟨rfl, hn⟩
    · cases h
  · cases h
theorem findAlloc_spec {t n : Nat} : ∀ (l : List MO) (i : Nat) {k : Nat} {z : List AV}, findAlloc t n i l = some (k, z) → i ≤ k ∧ l[k - i]? = some ⟨some t, none, .alloc z⟩ ∧ z.length = n
  | [], i, k, z, h => by simp [findAlloc] at h
  | o :: l, i, k, z, h => by
    simp only [findAlloc] at h
    split at h
    · rename_i hz
      simp only [Option.some.injEq, Prod.mk.injEq] at h
      obtain ⟨rfl, rfl⟩ := h
      obtain ⟨rfl, hn⟩ := isAlloc_spec hz
      exact ⟨Nat.le_refl _, by simp, hn⟩
    · obtain ⟨h1, h2, h3⟩ := findAlloc_spec l (i + 1) h
      refine ⟨by omega, ?_, h3⟩
      rw [show k - i = (k - (i + 1)) + 1 by omega, List.getElem?_cons_succ]
      exact h2
theorem frsFrom_spec {all : List MO} : ∀ (l : List MO) (j : Nat) {p : Fr}, p ∈ frsFrom all j l → j ≤ p.is ∧ l[p.is - j]? = some ⟨none, none, .store p.z.length (.tmp p.t) p.x⟩ ∧ all[p.ia]? = some ⟨some p.t, none, .alloc p.z⟩
  | [], j, p, h => by simp [frsFrom] at h
  | o :: l, j, p, h => by
    have next : p ∈ frsFrom all (j + 1) l → j ≤ p.is ∧ (o :: l)[p.is - j]? = some ⟨none, none, .store p.z.length (.tmp p.t) p.x⟩ ∧ all[p.ia]? = some ⟨some p.t, none, .alloc p.z⟩ := fun h => by
      obtain ⟨h1, h2, h3⟩ := frsFrom_spec l (j + 1) h
      refine ⟨by omega, ?_, h3⟩
      rw [show p.is - j = (p.is - (j + 1)) + 1 by omega, List.getElem?_cons_succ]
      exact h2
    simp only [frsFrom] at h
    split at h
    · rename_i n t x hs
      split at h
      · rename_i i z hf
        rcases List.mem_cons.1 h with rfl | h
        · obtain ⟨_, h2, h3⟩ := findAlloc_spec _ _ hf
          obtain rfl := isStore_spec hs
          simp only [Nat.sub_zero] at h2
          subst h3
          exact ⟨Nat.le_refl _, by simp, h2⟩
        · exact next h
      · exact next h
    · exact next h
theorem frs_spec {l : List MO} {p : Fr} (h : p ∈ frs l) : l[p.is]? = some ⟨none, none, .store p.z.length (.tmp p.t) p.x⟩ ∧ l[p.ia]? = some ⟨some p.t, none, .alloc p.z⟩ := by
  obtain ⟨_, h1, h2⟩ := frsFrom_spec l 0 h
  exact ⟨by simpa using h1, h2⟩

/-! ### A variable that the state does not tell yet -/
structure Pend (X : Ctx) (σ : St) (w : World) (b0 : Nat) (tmps : Array Value) (p : Fr) (done : Bool) (y : AV) (g : Nat) : Prop where
  base : b0 ≤ g
  own : ¬ Owned X σ g
  F : ∀ o, ¬ X.F g o
  at' : tmps[p.t]? = some (.pointer (some ⟨g, 0, none⟩))
  cells : ∃ (arr : Array Value) (T : TypeId), w.heap[g]? = some (.cells arr T (0, 0)) ∧ p.z.length ≤ arr.size ∧ (done = true → ∀ (j : Nat) (v : Value) (c : AV), arr[j]? = some v → y.cells[j]? = some c → Rep X σ w v c)

theorem Pend.ext {b0 : Nat} {tmps tmps' : Array Value} {p : Fr} {done : Bool} {y y' : AV} {g : Nat} (h : Pend X σ w b0 tmps p done y g) (E : Ext X X' σ σ' w w') (ht : tmps'[p.t]? = tmps[p.t]?) (hy : done = true → y' = y) : Pend X' σ' w' b0 tmps' p done y' g := by
  obtain ⟨arr, T, h1, h2, h3⟩ := h.cells
  have hlt := size_of_some h1
  refine ⟨h.base, fun ho => h.own (E.owned g hlt ho), fun o hf => ?_, ht.trans h.at', arr, T, (E.kept g hlt h.own).trans h1, h2, fun hd j v c hv hc => (h3 hd j v c hv (by rw [← hy hd]; exact hc)).mono E⟩
  rcases E.freshF g o hf with h4 | h4 | h4
  · exact h.F o h4
  · exact h.own h4
  · omega

/-- It is told from now on. -/
theorem adopt (H : Inv C X σ w) {X0 : Ctx} {σ0 : St} {w0 : World} (E0 : Ext X0 X σ0 σ w0 w) (hn : X.n0 ≤ w0.heap.size) {g : Nat} (hg : w0.heap.size ≤ g) (hown : ¬ Owned X σ g) (hF : ∀ o, ¬ X.F g o) {arr : Array Value} {T : TypeId} (hh : w.heap[g]? = some (.cells arr T (0, 0)))
    {cs : List AV} (hl : cs.length ≤ arr.size) (hc : cs.all AV.isCell = true) (hr : ∀ (j : Nat) (v : Value) (c : AV), arr[j]? = some v → cs[j]? = some c → Rep X σ w v c) :
    Keeps X (withBox X σ.boxes.length (g, arr.size)) σ { σ with boxes := σ.boxes ++ [cs] } w w ∧ Ext X0 (withBox X σ.boxes.length (g, arr.size)) σ0 { σ with boxes := σ.boxes ++ [cs] } w0 w ∧ Inv C (withBox X σ.boxes.length (g, arr.size)) { σ with boxes := σ.boxes ++ [cs] } w ∧
    (withBox X σ.boxes.length (g, arr.size)).box σ.boxes.length = (g, arr.size) ∧ ∀ h, Owned (withBox X σ.boxes.length (g, arr.size)) { σ with boxes := σ.boxes ++ [cs] } h → Owned X σ h ∨ h = g := by
  have hbox : ∀ b, b < σ.boxes.length → (withBox X σ.boxes.length (g, arr.size)).box b = X.box b := fun b hb => by
    show (if b = σ.boxes.length then (g, arr.size) else X.box b) = X.box b
    rw [if_neg (Nat.ne_of_lt hb)]
  have hnew : (withBox X σ.boxes.length (g, arr.size)).box σ.boxes.length = (g, arr.size) := by
    show (if σ.boxes.length = σ.boxes.length then (g, arr.size) else X.box σ.boxes.length) = (g, arr.size)
    rw [if_pos rfl]
  have howned : ∀ h, Owned (withBox X σ.boxes.length (g, arr.size)) { σ with boxes := σ.boxes ++ [cs] } h → Owned X σ h ∨ h = g := fun h ho => by
    rcases ho with ⟨b, hb, rfl⟩ | h | h | h
    · simp at hb
      rcases Nat.lt_or_ge b σ.boxes.length with hlt | hge
      · rw [hbox b hlt]; exact .inl (owned_box hlt)
      · have : b = σ.boxes.length := by omega
        subst this
        exact .inr (by rw [hnew])
    · exact .inl (.inr (.inl h))
    · exact .inl (.inr (.inr (.inl h)))
    · exact .inl (.inr (.inr (.inr h)))
  have K : Keeps X (withBox X σ.boxes.length (g, arr.size)) σ { σ with boxes := σ.boxes ++ [cs] } w w :=
    { grew := ⟨fun _ _ _ => rfl, fun _ _ _ _ h => h, fun _ _ h => h, fun _ h => h⟩
      box := hbox
      boxes := fun b cs' h => ⟨cs', by simpa [List.getElem?_append_left (lt_of_some h)] using h⟩
      chains := fun c n s h => ⟨n, h, Nat.le_refl _, fun _ => rfl⟩
      map := fun _ _ => rfl
      maps := Nat.le_refl _
      loop := fun _ _ => rfl
      loops := Nat.le_refl _ }
  refine ⟨K, ?_, ?_, hnew, howned⟩
  · exact
      { n0 := E0.n0
        grew := E0.grew
        box := fun b hb => (hbox b (Nat.lt_of_lt_of_le hb E0.boxes_le)).trans (E0.box b hb)
        boxes := fun b cs' h => by
          obtain ⟨cs1, h1⟩ := E0.boxes b cs' h
          exact K.boxes b cs1 h1
        chains := E0.chains
        map := E0.map
        maps := E0.maps
        loop := E0.loop
        loops := E0.loops
        size := E0.size
        owned := fun h hlt ho => by
          rcases howned h ho with h1 | rfl
          · exact E0.owned h hlt h1
          · omega
        kept := E0.kept
        os := E0.os
        tape := E0.tape
        output := E0.output
        newF := E0.newF
        freshF := E0.freshF
        newM := E0.newM }
  · exact
      { base := H.base
        F := H.F
        M := H.M
        box := fun b cs' hb => by
          rcases append_get hb with ⟨hlt', hb'⟩ | ⟨rfl, rfl⟩
          · exact (H.box b cs' hb').keep K rfl hlt' rfl (fun o h => h) rfl
          · unfold BoxOk
            rw [hnew]
            exact ⟨Nat.le_trans hn hg, arr, T, hh, ⟨hl, rfl⟩, hc, fun j v c hv hc' => (hr j v c hv hc').keep K, fun _ o hf => hF o hf, fun hro => absurd hro (Nat.not_lt.2 H.ro)⟩
        boxInj := fun b b' hb hb' kb kb' h => by
          simp at hb hb'
          rcases Nat.lt_or_ge b σ.boxes.length with h1 | h1 <;> rcases Nat.lt_or_ge b' σ.boxes.length with h2 | h2
          · rw [hbox b h1, hbox b' h2] at h; exact H.boxInj b b' h1 h2 (by rwa [List.getElem?_append_left h1] at kb) (by rwa [List.getElem?_append_left h2] at kb') h
          · have : b' = σ.boxes.length := by omega
            subst this
            rw [hbox b h1, hnew] at h
            exact absurd (owned_box h1) (by rw [h]; exact hown)
          · have : b = σ.boxes.length := by omega
            subst this
            rw [hbox b' h2, hnew] at h
            exact absurd (owned_box h2) (by rw [← h]; exact hown)
          · omega
        chain := fun c n s hc' => (H.chain c n s hc').keep rfl rfl rfl (fun o h => h)
        tipInj := H.tipInj
        tipBox := fun c b hc' hb h => by
          simp at hb
          rcases Nat.lt_or_ge b σ.boxes.length with h1 | h1
          · rw [hbox b h1] at h; exact H.tipBox c b hc' h1 h
          · have : b = σ.boxes.length := by omega
            subst this
            rw [hnew] at h
            have h4 : (X.tip c).1 = g := h
            exact hown (h4 ▸ owned_tip hc')
        map := fun m es hm => (H.map m es hm).keep K rfl (lt_of_some hm) rfl (fun h => h) rfl
        mapInj := H.mapInj
        loop := fun l L hl' => (H.loop l L hl').keep K rfl (lt_of_some hl') rfl
        loopInj := H.loopInj
        ro := by simp; exact Nat.le_succ_of_le H.ro
        mro := H.mro
        glob := H.glob }

theorem len_putA {e : Env} {t : Option Tmp} {v : AV} : (putA e t v).length = e.length := by cases t <;> simp [putA]
theorem len_one {o : MO} {e e' : Env} (h : oneA C R d o e σ = some (e', σ')) : e'.length = e.length := by
  unfold oneA at h
  split at h
  · rename_i b _
    cases hc : condA b (operA C R d e σ o.op) σ with
    | none => rw [hc] at h; cases h
    | some q =>
      rw [hc] at h
      simp only [putR, Option.some.injEq, Prod.mk.injEq] at h
      rw [← h.1]; exact len_putA
  · cases h
theorem get_one {o : MO} {e e' : Env} (h : oneA C R d o e σ = some (e', σ')) {u : Tmp} (hu : o.dst ≠ some u) : e'.getD u .any = e.getD u .any := by
  unfold oneA at h
  split at h
  · rename_i b _
    cases hc : condA b (operA C R d e σ o.op) σ with
    | none => rw [hc] at h; cases h
    | some q =>
      rw [hc] at h
      simp only [putR, Option.some.injEq, Prod.mk.injEq] at h
      rw [← h.1]
      exact putA_get fun k hk he => hu (by rw [hk, he])
  · cases h

/-- The making and the writing, told by the state. -/
theorem fin_one {p : Fr} {e : Env} {s1 s2 : Env × St} (hx : p.t ∉ opdT p.x) (h1 : oneA C R d ⟨some p.t, none, .alloc p.z⟩ e σ = some s1) (h2 : oneA C R d ⟨none, none, .store p.z.length (.tmp p.t) p.x⟩ s1.1 s1.2 = some s2) :
    p.t < e.length ∧ (ev e p.x).cells.length = p.z.length ∧ (ev e p.x).cells.all AV.isCell = true ∧ s2 = (e.set p.t (.box σ.boxes.length 0), { σ with boxes := σ.boxes ++ [(ev e p.x).cells] }) := by
  simp only [oneA, wantedA, condA, if_true, operA, putR, putA, Option.some.injEq] at h1
  subst h1
  have hev : ev (e.set p.t (.box σ.boxes.length 0)) p.x = ev e p.x := ev_same fun u hu => by
    have hne : p.t ≠ u := fun he => hx (he ▸ hu)
    rw [List.getD_eq_getElem?_getD, List.getElem?_set_ne hne, List.getD_eq_getElem?_getD]
  simp only [oneA, wantedA, condA, if_true, operA, hev] at h2
  have ht : p.t < e.length := by
    rcases Nat.lt_or_ge p.t e.length with h | h
    · exact h
    · exfalso
      have : ev (e.set p.t (.box σ.boxes.length 0)) (.tmp p.t) = .any := by
        show (e.set p.t _).getD p.t .any = .any
        rw [List.getD_eq_getElem?_getD, List.getElem?_eq_none (by simpa using h)]; rfl
      rw [this] at h2
      simp [storeA, putR] at h2
  have hbx : ev (e.set p.t (.box σ.boxes.length 0)) (.tmp p.t) = .box σ.boxes.length 0 := by
    show (e.set p.t _).getD p.t .any = _
    rw [List.getD_eq_getElem?_getD, List.getElem?_set_self ht]; rfl
  rw [hbx] at h2
  simp only [storeA, List.getElem?_concat_length, Option.bind_some] at h2
  split at h2
  case isFalse => simp [putR] at h2
  rename_i hc
  obtain ⟨c1, c2, c3, c4⟩ := hc
  refine ⟨ht, c2, c4, ?_⟩
  simp only [Option.map_some, putR, putA, Option.some.injEq] at h2
  rw [← h2]
  have : (σ.boxes ++ [p.z]).set σ.boxes.length (setAt p.z 0 (ev e p.x).cells) = σ.boxes ++ [(ev e p.x).cells] := by
    rw [List.set_append_right _ _ (Nat.le_refl _), Nat.sub_self]
    simp [setAt, c2]
  rw [this]

/-- All of them are told, one after the other. -/
theorem fin_sim {X0 : Ctx} {σ0 : St} {w0 : World} (hn0 : X0.n0 ≤ w0.heap.size) {tmps : Array Value} {lo : Nat} {ds : List Deferred} {G : Nat → Nat} : ∀ (ps : List Fr) (e e' : Env) (σ σ' : St) (X : Ctx), Ext X0 X σ0 σ w0 w → Inv C X σ w → Reps X σ w tmps.toList e → MarksOk X σ w lo ds →
    (∀ p ∈ ps, Pend X σ w w0.heap.size tmps p true (ev e p.x) (G p.t)) → (∀ p ∈ ps, ∀ q ∈ ps, G p.t = G q.t → p.t = q.t) → (∀ p ∈ ps, ∀ q ∈ ps, q.t ∉ opdT p.x) → (ps.map (·.t)).Nodup → opsA C R d (finL ps) (some (e, σ)) = some (e', σ') →
    ∃ X', Ext X0 X' σ0 σ' w0 w ∧ Inv C X' σ' w ∧ Reps X' σ' w tmps.toList e' ∧ MarksOk X' σ' w lo ds
  | [], e, e', σ, σ', X, E0, H, ER, hm, _, _, _, _, h => by
    simp only [finL, List.flatMap_nil, opsA, Option.some.injEq, Prod.mk.injEq] at h
    obtain ⟨rfl, rfl⟩ := h
    exact ⟨X, E0, H, ER, hm⟩
  | p :: ps, e, e', σ, σ', X, E0, H, ER, hm, hP, hG, ht, hnd, h => by
    have hfl : finL (p :: ps) = ⟨some p.t, none, .alloc p.z⟩ :: ⟨none, none, .store p.z.length (.tmp p.t) p.x⟩ :: finL ps := by simp [finL]
    rw [hfl] at h
    obtain ⟨s1, h1, h⟩ := opsA_one h
    obtain ⟨s2, h2, h⟩ := opsA_one h
    obtain ⟨f1, f2, f3, rfl⟩ := fin_one (ht p (by simp) p (by simp)) h1 h2
    have hp := hP p (by simp)
    obtain ⟨arr, T, k1, k2, k3⟩ := hp.cells
    obtain ⟨K, E1, H1, hb, ho⟩ := adopt H E0 (by rw [E0.n0]; exact hn0) hp.base hp.own hp.F k1 (by omega) f3 (k3 rfl)
    simp only [List.map_cons, List.nodup_cons] at hnd
    refine fin_sim hn0 ps _ e' _ σ' _ E1 H1 ?_ ?_ ?_ (fun q hq q' hq' => hG q (by simp [hq]) q' (by simp [hq'])) (fun q hq q' hq' => ht q (by simp [hq]) q' (by simp [hq'])) hnd.2 h
    · have hbx : Rep (withBox X σ.boxes.length (G p.t, arr.size)) { σ with boxes := σ.boxes ++ [(ev e p.x).cells] } w (.pointer (some ⟨G p.t, 0, none⟩)) (.box σ.boxes.length 0) := by
        have := Rep.box (X := withBox X σ.boxes.length (G p.t, arr.size)) (σ := { σ with boxes := σ.boxes ++ [(ev e p.x).cells] }) (w := w) σ.boxes.length 0 (by simp)
        rw [hb] at this
        exact this
      have := (ER.keep K).set (i := p.t) hbx
      have htl : tmps.toList.set p.t (.pointer (some ⟨G p.t, 0, none⟩)) = tmps.toList := by
        apply List.ext_getElem?
        intro i
        rw [List.getElem?_set]
        split
        · rename_i hi
          subst hi
          have := hp.at'
          rw [← Array.getElem?_toList] at this
          split
          · exact this.symm
          · rename_i hlt
            exact absurd (lt_of_some this) hlt
        · rfl
      rw [htl] at this
      exact this
    · obtain ⟨rs, m1, m2, m3⟩ := hm
      refine ⟨rs, m1, m2, fun r hr => ?_⟩
      obtain ⟨m4, m5, m6⟩ := m3 r hr
      refine ⟨m4, fun hw => ?_, m6⟩
      rcases ho r hw with h5 | rfl
      · exact m5 h5
      · rw [k1] at m6; cases m6
    · intro q hq
      have hq' := hP q (by simp [hq])
      have hne : G q.t ≠ G p.t := fun he => by
        have := hG q (by simp [hq]) p (by simp) he
        exact hnd.1 (List.mem_map.2 ⟨q, hq, this⟩)
      have hev : ev (e.set p.t (.box σ.boxes.length 0)) q.x = ev e q.x := ev_same fun u hu => by
        have hne : p.t ≠ u := fun he => ht q (by simp [hq]) p (by simp) (he ▸ hu)
        rw [List.getD_eq_getElem?_getD, List.getElem?_set_ne hne, List.getD_eq_getElem?_getD]
      obtain ⟨arr', T', l1, l2, l3⟩ := hq'.cells
      refine ⟨hq'.base, fun hw => ?_, hq'.F, hq'.at', arr', T', l1, l2, fun hd j v c hv hc => (l3 hd j v c hv (by rw [← hev]; exact hc)).keep K⟩
      rcases ho _ hw with h5 | h5
      · exact hq'.own h5
      · exact hne h5

/-- What the end says of what is still to come. -/
theorem fin_ok : ∀ (L : List MO) (ps : List Fr) (e : Env) (σ : St) (r : Env × St), opsA C R d (L ++ finL ps) (some (e, σ)) = some r → (∀ p ∈ ps, ∀ q ∈ ps, q.t ∉ opdT p.x) → ∀ p ∈ ps, p.t < e.length ∧
    ((∀ o ∈ L, ∀ u, o.dst = some u → u ∉ opdT p.x) → (ev e p.x).cells.length = p.z.length ∧ (ev e p.x).cells.all AV.isCell = true)
  | [], [], e, σ, r, h, ht, p, hp => by cases hp
  | [], q :: ps, e, σ, r, h, ht, p, hp => by
    have hfl : finL (q :: ps) = ⟨some q.t, none, .alloc q.z⟩ :: ⟨none, none, .store q.z.length (.tmp q.t) q.x⟩ :: finL ps := by simp [finL]
    rw [List.nil_append, hfl] at h
    obtain ⟨s1, h1, h⟩ := opsA_one h
    obtain ⟨s2, h2, h⟩ := opsA_one h
    obtain ⟨f1, f2, f3, rfl⟩ := fin_one (ht q (by simp) q (by simp)) h1 h2
    rcases List.mem_cons.1 hp with rfl | hp'
    · exact ⟨f1, fun _ => ⟨f2, f3⟩⟩
    · obtain ⟨g1, g2⟩ := fin_ok [] ps _ _ r h (fun a ha b hb => ht a (by simp [ha]) b (by simp [hb])) p hp'
      have hev : ev (e.set q.t (.box σ.boxes.length 0)) p.x = ev e p.x := ev_same fun u hu => by
        have hne : q.t ≠ u := fun he => ht p hp q (by simp) (he ▸ hu)
        rw [List.getD_eq_getElem?_getD, List.getElem?_set_ne hne, List.getD_eq_getElem?_getD]
      rw [hev] at g2
      exact ⟨by simpa using g1, fun _ => g2 (by simp)⟩
  | o :: L, ps, e, σ, r, h, ht, p, hp => by
    obtain ⟨s1, h1, h⟩ := opsA_one h
    obtain ⟨g1, g2⟩ := fin_ok L ps s1.1 s1.2 r h ht p hp
    have hlen : s1.1.length = e.length := len_one h1
    rw [hlen] at g1
    refine ⟨g1, fun hd => ?_⟩
    have hev : ev s1.1 p.x = ev e p.x := ev_same fun u hu => get_one h1 fun hdst => hd o (by simp) u hdst hu
    rw [hev] at g2
    exact g2 fun o' ho' => hd o' (by simp [ho'])

/-! ### The two operations, as the machine runs them -/
theorem op_run {ops : Array Oper} {i : Nat} {o : Oper} {a : Act} {ro : Option Nat} {K : Act → World → Prop} {Q : Exit → Act → World → Prop} {v : Value} (ho : ops[i]? = some o) (hg : o.guard = none) (hno : ∀ c, o.op ≠ .defer c)
    (hrun : (execOp a.eval o).run C.P w = .ok (.value v) w' ∨ ((execOp a.eval o).run C.P w = .ok .skip w' ∧ v = undef)) (hK : K (a.put o.dst v) w') : wpOpIn (FW ro) 0 C.P ops Q i K a w := by
  unfold wpOpIn
  simp only [ho]
  rw [if_pos (by simp [Region.wanted, hg])]
  refine ⟨about_FW, ?_⟩
  rw [Oper.semAt_eq _ _ _ fun c hd => hno c hd]
  rcases hrun with hrun | ⟨hrun, rfl⟩
  · rw [hrun]; exact hK
  · rw [hrun]; exact hK

theorem builtin_no {w : Bool} {b : Builtin} {ts : List TypeId} {ys : List Operand} {m : MOp} (h : compBuiltin C w b ts ys = some m) : (∀ z, m ≠ .alloc z) ∧ ∀ n p x, m ≠ .store n p x := by
  unfold compBuiltin at h
  repeat' first
    | (simp at h; done)
    | (simp only [Option.bind_eq_some_iff, Option.map_eq_some_iff] at h; obtain ⟨_, _, h⟩ := h)
    | (obtain ⟨_, _, h⟩ := h)
    | subst h
    | split at h
  all_goals (refine ⟨fun _ h => ?_, fun _ _ _ h => ?_⟩ <;> cases h)
theorem compOp_alloc {f : FuncId} {dst : Option Tmp} {op : Op} {z : List AV} (h : compOp C f dst op = some (.alloc z)) : ∃ T ty, op = .alloc T ∧ tyA C.P T = some ty ∧ z = ty.zero := by
  cases op with
  | alloc T =>
    simp only [compOp, Option.bind_eq_some_iff] at h
    obtain ⟨ty, h1, h⟩ := h
    split at h
    · simp only [Option.some.injEq, MOp.alloc.injEq] at h
      exact ⟨T, ty, rfl, h1, h.symm⟩
    · cases h
  | call c =>
    exfalso
    simp only [compOp, compCall] at h
    split at h
    · simp [Option.bind_eq_some_iff] at h
    · exact (builtin_no h).1 _ rfl
    · cases h
  | build | buildSlice | convert | slice | fieldAddr | field | indexAddr | index | lookup | makeSlice | mapUpdate | insert | mapEntry =>
    exfalso
    simp only [compOp, Option.bind_eq_some_iff] at h
    obtain ⟨_, _, h⟩ := h
    repeat' first
      | (simp at h; done)
      | (simp only [Option.bind_eq_some_iff] at h; obtain ⟨_, _, h⟩ := h)
      | (obtain ⟨_, _, h⟩ := h)
      | split at h
  | binOp =>
    exfalso
    simp only [compOp, compBin, Option.bind_eq_some_iff] at h
    obtain ⟨_, _, h⟩ := h
    repeat' first
      | (simp at h; done)
      | (simp only [Option.bind_eq_some_iff] at h; obtain ⟨_, _, h⟩ := h)
      | (obtain ⟨_, _, h⟩ := h)
      | split at h
  | unOp =>
    exfalso
    simp only [compOp] at h
    split at h <;> simp at h
  | makeMap _ x => cases x <;> simp [compOp] at h
  | _ => simp [compOp, Option.bind_eq_some_iff] at h
theorem compOp_store {f : FuncId} {dst : Option Tmp} {op : Op} {n : Nat} {t : Tmp} {x : Opd} (h : compOp C f dst op = some (.store n (.tmp t) x)) : ∃ T ty x', op = .store T (.tmp t) x' ∧ tyA C.P T = some ty ∧ n = ty.size ∧ opdA C x' = some x := by
  cases op with
  | store T p x' =>
    simp only [compOp, Option.bind_eq_some_iff, Option.map_eq_some_iff, MOp.store.injEq] at h
    obtain ⟨ty, h1, p', hp, x'', hx, rfl, rfl, rfl⟩ := h
    cases p with
    | tmp t' =>
      simp only [opdA, Option.some.injEq, Opd.tmp.injEq] at hp
      subst hp
      exact ⟨T, ty, x', rfl, h1, rfl, hx⟩
    | const => simp [opdA] at hp
    | global => simp [opdA] at hp
    | func => simp [opdA] at hp
  | call c =>
    exfalso
    simp only [compOp, compCall] at h
    split at h
    · simp [Option.bind_eq_some_iff] at h
    · exact (builtin_no h).2 _ _ _ rfl
    · cases h
  | alloc T =>
    exfalso
    simp only [compOp, Option.bind_eq_some_iff] at h
    obtain ⟨ty, h1, h⟩ := h
    split at h <;> simp at h
  | build | buildSlice | convert | slice | fieldAddr | field | indexAddr | index | lookup | makeSlice | mapUpdate | insert | mapEntry =>
    exfalso
    simp only [compOp, Option.bind_eq_some_iff] at h
    obtain ⟨_, _, h⟩ := h
    repeat' first
      | (simp at h; done)
      | (simp only [Option.bind_eq_some_iff] at h; obtain ⟨_, _, h⟩ := h)
      | (obtain ⟨_, _, h⟩ := h)
      | split at h
  | binOp =>
    exfalso
    simp only [compOp, compBin, Option.bind_eq_some_iff] at h
    obtain ⟨_, _, h⟩ := h
    repeat' first
      | (simp at h; done)
      | (simp only [Option.bind_eq_some_iff] at h; obtain ⟨_, _, h⟩ := h)
      | (obtain ⟨_, _, h⟩ := h)
      | split at h
  | unOp =>
    exfalso
    simp only [compOp] at h
    split at h <;> simp at h
  | makeMap _ x => cases x <;> simp [compOp] at h
  | _ => simp [compOp, Option.bind_eq_some_iff] at h

/-- A variable is made. -/
theorem make_run {f : FuncId} {ops : Array Oper} {i : Nat} {o : Oper} {t : Tmp} {z : List AV} (ho : ops[i]? = some o) (hc : compO C f ops.toList o = some ⟨some t, none, .alloc z⟩) {a : Act} {ro : Option Nat} {K : Act → World → Prop} {Q : Exit → Act → World → Prop}
    (hK : ∀ (arr : Array Value) (T : TypeId), z.length ≤ arr.size → K (a.put (some t) (.pointer (some ⟨w.heap.size, 0, none⟩))) (w.alloc (.cells arr T))) : wpOpIn (FW ro) 0 C.P ops Q i K a w := by
  simp only [compO, Option.map_eq_some_iff, MO.mk.injEq] at hc
  obtain ⟨m, hm, hd, hg, rfl⟩ := hc
  obtain ⟨T, ty, hop, hty, rfl⟩ := compOp_alloc hm
  obtain ⟨zv, hz, hz1, _⟩ := zeroCells_rep (X := ⟨0, fun _ _ => False, fun _ => False, fun _ => (0, 0), fun _ => (0, 0), fun _ => 0, fun _ => 0⟩) (σ := {}) (w := w) (tyA_of hty)
  have hguard : o.guard = none := by cases h : o.guard with | none => rfl | some g => rw [h] at hg; simp at hg
  refine op_run (w' := w.alloc (.cells zv.cells T)) (v := .pointer (some ⟨w.heap.size, 0, none⟩)) ho hguard (fun c h => by rw [hop] at h; cases h) (.inl ?_) (by rw [hd]; exact hK zv.cells T (by omega))
  simp only [execOp, hop, Instr.alloc, Sem.run_bind, hz, Result.andThen_ok, newVar, newRow, run_newObj, Sem.run_pure]
  rfl

/-- It is written. -/
theorem write_run {f : FuncId} {ops : Array Oper} {i : Nat} {o : Oper} {n : Nat} {t : Tmp} {x : Opd} (ho : ops[i]? = some o) (hc : compO C f ops.toList o = some ⟨none, none, .store n (.tmp t) x⟩) {a : Act} {e : Env} (H : Inv C X σ w) (E : Reps X σ w a.tmps.toList e)
    {g : Nat} (hat : a.tmps[t]? = some (.pointer (some ⟨g, 0, none⟩))) {arr : Array Value} {T : TypeId} (hh : w.heap[g]? = some (.cells arr T (0, 0))) (hn : n ≤ arr.size) (hx1 : (ev e x).cells.length = n) (hx2 : (ev e x).cells.all AV.isCell = true)
    {ro : Option Nat} {K : Act → World → Prop} {Q : Exit → Act → World → Prop}
    (hK : ∀ arr' : Array Value, arr'.size = arr.size → (∀ (j : Nat) (v : Value) (c : AV), arr'[j]? = some v → (ev e x).cells[j]? = some c → Rep X σ w v c) → K a (w.setRow g arr')) : wpOpIn (FW ro) 0 C.P ops Q i K a w := by
  simp only [compO, Option.map_eq_some_iff, MO.mk.injEq] at hc
  obtain ⟨m, hm, hd, hg, rfl⟩ := hc
  obtain ⟨T', ty, x', hop, hty, rfl, hx⟩ := compOp_store hm
  have hguard : o.guard = none := by cases h : o.guard with | none => rfl | some g => rw [h] at hg; simp at hg
  have hq := opdA_rep H E hx
  obtain ⟨k1, k2, k3⟩ := hq.cells hx2
  have hp : a.eval (.tmp t) = .pointer (some ⟨g, 0, none⟩) := by
    obtain ⟨hlt, h2⟩ := Array.getElem?_eq_some_iff.1 hat
    simp [Act.eval, Array.getD, hlt, h2]
  have hst := run_storeCells_at C.P g 0 T (a.eval x').cells.toList 0 arr w hh (by simp; omega) k3
  simp only [Nat.add_zero] at hst
  refine op_run (w' := w.setRow g (arr.toList.take 0 ++ (a.eval x').cells.toList ++ arr.toList.drop (0 + (a.eval x').cells.toList.length)).toArray) (v := undef) ho hguard (fun c h => by rw [hop] at h; cases h) (.inr ⟨?_, rfl⟩) ?_
  · simp only [execOp, hop, hp, Instr.storeAt, Instr.sureAddr, Sem.run_bind, Sem.run_pure, Result.andThen_ok, storeVar, (tyA_of hty).sizeOf]
    rw [if_neg (by omega)]
    rw [hst]
    rfl
  · rw [hd]
    refine hK _ ?_ ?_
    · simp; omega
    · intro j v c hv hc
      have hj := lt_of_some hc
      simp only [List.getElem?_toArray, List.take_zero, List.nil_append] at hv
      rw [List.getElem?_append_left (by simp; omega)] at hv
      exact k2 j v c (by simpa using hv) hc

/-! ### In any order -/
structure Left' (C : Cfg) (d : Bool) (f : FuncId) (ops : Array Oper) (m : Array Nat) (ps : List Fr) (listed : Array Bool) (L : List (Nat × MO)) : Prop where
  placed : Placed C f ops L
  sorted : (L.map (·.1)).Pairwise (· < ·)
  mem : ∀ j, j ∈ L.map (·.1) ↔ j < ops.size ∧ listed.getD j true = false ∧ frAt ps j = false
  down : ∀ j, listed.getD j false = true → ∀ i, (m.getD j 0).testBit i = true → i < ops.size → listed.getD i false = true
  size : listed.size = ops.size
  pairs : ∀ p ∈ L, ∀ q ∈ L, p.1 < q.1 → (m.getD q.1 0).testBit p.1 = true ∨ bound C d p.2 q.2 = false
  names : ∀ p ∈ ps, ∀ q ∈ L, p.t ∉ q.2.names ∧ ∀ u, q.2.dst = some u → u ∈ opdT p.x → (m.getD p.is 0).testBit q.1 = true

/-- What the text says of the variables. -/
structure FrsOk (C : Cfg) (f : FuncId) (ops : Array Oper) (m : Array Nat) (ps : List Fr) : Prop where
  make : ∀ p ∈ ps, ∃ o, ops[p.ia]? = some o ∧ compO C f ops.toList o = some ⟨some p.t, none, .alloc p.z⟩
  write : ∀ p ∈ ps, ∃ o, ops[p.is]? = some o ∧ compO C f ops.toList o = some ⟨none, none, .store p.z.length (.tmp p.t) p.x⟩
  bit : ∀ p ∈ ps, (m.getD p.is 0).testBit p.ia = true
  ia : ∀ p ∈ ps, ∀ q ∈ ps, p.ia = q.ia → p = q
  is : ∀ p ∈ ps, ∀ q ∈ ps, p.is = q.is → p = q
  t : (ps.map (·.t)).Nodup
  x : ∀ p ∈ ps, ∀ q ∈ ps, q.t ∉ opdT p.x

theorem FrsOk.ne {f : FuncId} {ops : Array Oper} {m : Array Nat} {ps : List Fr} (h : FrsOk C f ops m ps) {p q : Fr} (hp : p ∈ ps) (hq : q ∈ ps) : p.ia ≠ q.is := fun he => by
  obtain ⟨o, h1, h2⟩ := h.make p hp
  obtain ⟨o', h3, h4⟩ := h.write q hq
  rw [he, h3] at h1
  cases h1
  rw [h2] at h4
  cases h4

theorem map_inj {ps : List Fr} {g : Fr → Nat} (h : (ps.map g).Nodup) : ∀ p ∈ ps, ∀ q ∈ ps, g p = g q → p = q := by
  induction ps with
  | nil => intro p hp; cases hp
  | cons a ps ih =>
    simp only [List.map_cons, List.nodup_cons] at h
    intro p hp q hq he
    rcases List.mem_cons.1 hp with hp1 | hp1 <;> rcases List.mem_cons.1 hq with hq1 | hq1
    · rw [hp1, hq1]
    · exact absurd (List.mem_map_of_mem (f := g) hq1) (by rw [← he, hp1]; exact h.1)
    · exact absurd (List.mem_map_of_mem (f := g) hp1) (by rw [he, hq1]; exact h.1)
    · exact ih h.2 p hp1 q hq1 he

theorem keeps_row {g : Nat} {arr arr' : Array Value} {T : TypeId} (hh : w.heap[g]? = some (.cells arr T (0, 0))) (hF : ∀ o, ¬ X.F g o) : Keeps X X σ σ w (w.setRow g arr') :=
  { grew := ⟨fun h j hf => by
        have hne : h ≠ g := fun e => hF j (e ▸ hf)
        simp only [World.cell?, setRow_other w _ h _ hne], (fun r es c h hw => by
        refine (setRow_other w _ r _ fun e => ?_).trans hw
        subst e
        rw [hh] at hw
        cases hw), fun _ _ h => h, fun _ h => h⟩
    box := fun _ _ => rfl
    boxes := fun b cs h => ⟨cs, h⟩
    chains := fun c n s h => ⟨n, h, Nat.le_refl _, fun _ => rfl⟩
    map := fun _ _ => rfl
    maps := Nat.le_refl _
    loop := fun _ _ => rfl
    loops := Nat.le_refl _ }

theorem keeps_alloc (H : Inv C X σ w) (o : Obj) : Keeps X X σ σ w (w.alloc o) :=
  { grew := ⟨fun g j h => cell_push (H.F g j h), fun r es c h hw => (heap_push (H.M r h)).trans hw, fun _ _ h => h, fun _ h => h⟩
    box := fun _ _ => rfl
    boxes := fun b cs h => ⟨cs, h⟩
    chains := fun c n s h => ⟨n, h, Nat.le_refl _, fun _ => rfl⟩
    map := fun _ _ => rfl
    maps := Nat.le_refl _
    loop := fun _ _ => rfl
    loops := Nat.le_refl _ }

/-- Memory behind the region's start that nobody tells may change. -/
theorem Ext.later {X0 : Ctx} {σ0 : St} {w0 : World} (E : Ext X0 X σ0 σ w0 w) (K : Keeps X X σ σ w w') (hs : w.heap.size ≤ w'.heap.size) (hk : ∀ g, g < w0.heap.size → w'.heap[g]? = w.heap[g]?) (h1 : w'.os = w.os) (h2 : w'.tape = w.tape) (h3 : w'.output = w.output) : Ext X0 X σ0 σ w0 w' where
  n0 := E.n0
  grew := E.grew.trans K.grew
  box := E.box
  boxes := E.boxes
  chains := E.chains
  map := E.map
  maps := E.maps
  loop := E.loop
  loops := E.loops
  size := Nat.le_trans E.size hs
  owned := E.owned
  kept g hg ho := (hk g hg).trans (E.kept g hg ho)
  os := h1.trans E.os
  tape := h2.trans E.tape
  output := h3.trans E.output
  newF := E.newF
  freshF := E.freshF
  newM := E.newM

theorem fresh_any (S : CodeSim C R) (hN : Sound C) {f : FuncId} {ops : Array Oper} {m : Array Nat} (hE : edgesOk m ops = true) {ps : List Fr} (hps : FrsOk C f ops m ps) {Q : Exit → Act → World → Prop} {ro : Option Nat} {lo : Nat} {X0 : Ctx} {σ0 : St} {w0 : World} (hn0 : X0.n0 ≤ w0.heap.size) {e' : Env} {σ' : St}
    (hK : Goes C X0 σ0 σ' w0 lo e' (Q .normal)) : ∀ (fuel : Nat) (U : List Nat) (listed : Array Bool) (L : List (Nat × MO)) (e : Env) (σ : St) (X : Ctx) (w : World) (a : Act) (G : Nat → Nat),
    U.length ≤ fuel → (∀ j, j < ops.size → listed.getD j false = false → j ∈ U) → Left' C d f ops m ps listed L → opsA C R d (L.map (·.2) ++ finL ps) (some (e, σ)) = some (e', σ') → Ext X0 X σ0 σ w0 w →
    Inv C X σ w → Reps X σ w a.tmps.toList e → MarksOk X σ w lo a.defers → (∀ p ∈ ps, e.getD p.t .any = .any) →
    (∀ p ∈ ps, listed.getD p.ia false = true → Pend X σ w w0.heap.size a.tmps p (listed.getD p.is false) (ev e p.x) (G p.t)) →
    (∀ p ∈ ps, ∀ q ∈ ps, listed.getD p.ia false = true → listed.getD q.ia false = true → G p.t = G q.t → p.t = q.t) → wpAnyIn (FW ro) 0 C.P .any ops Q fuel listed a w := by
  have idle : ∀ {listed : Array Bool} {L : List (Nat × MO)}, Left' C d f ops m ps listed L → (∀ i, i < ops.size → ∃ o, ops[i]? = some o) → Region.ready .any ops listed = [] → ∀ j, j < ops.size → listed.getD j false = true := by
    intro listed L hL hsome hr j
    induction j using Nat.strongRecOn with
    | _ j ih =>
      intro hj
      cases hx : listed.getD j false with
      | true => rfl
      | false =>
        exfalso
        obtain ⟨o, ho⟩ := hsome j hj
        have : j ∈ Region.ready .any ops listed := by
          rw [mem_ready]
          refine ⟨by rw [listed_iff (by rw [hL.size]; exact hj)]; exact hx, o, ho, fun ed he hb => ?_⟩
          have hon := (edgesOk_spec hE ho).1 ed he hb
          exact ih ed.on hon (by omega)
        rw [hr] at this
        cases this
  have done : ∀ {listed : Array Bool} {L : List (Nat × MO)} {e : Env} {σ : St} {X : Ctx} {w : World} {a : Act} {G : Nat → Nat}, Left' C d f ops m ps listed L → (∀ j, j < ops.size → listed.getD j false = true) → opsA C R d (L.map (·.2) ++ finL ps) (some (e, σ)) = some (e', σ') → Ext X0 X σ0 σ w0 w →
      Inv C X σ w → Reps X σ w a.tmps.toList e → MarksOk X σ w lo a.defers →
      (∀ p ∈ ps, listed.getD p.ia false = true → Pend X σ w w0.heap.size a.tmps p (listed.getD p.is false) (ev e p.x) (G p.t)) →
      (∀ p ∈ ps, ∀ q ∈ ps, listed.getD p.ia false = true → listed.getD q.ia false = true → G p.t = G q.t → p.t = q.t) → Q .normal a w := by
    intro listed L e σ X w a G hL hall h E0 H ER hm hP hG
    have hnil : L = [] := by
      cases L with
      | nil => rfl
      | cons q L =>
        exfalso
        obtain ⟨h1, h2, _⟩ := (hL.mem q.1).1 (by simp)
        rw [listed_iff (by rw [hL.size]; exact h1), hall q.1 h1] at h2
        cases h2
    subst hnil
    have hia : ∀ p ∈ ps, listed.getD p.ia false = true := fun p hp => by
      obtain ⟨o, ho, _⟩ := hps.make p hp
      exact hall _ (Array.getElem?_eq_some_iff.1 ho).1
    have his : ∀ p ∈ ps, listed.getD p.is false = true := fun p hp => by
      obtain ⟨o, ho, _⟩ := hps.write p hp
      exact hall _ (Array.getElem?_eq_some_iff.1 ho).1
    obtain ⟨X', E1, H1, ER1, m1⟩ := fin_sim (tmps := a.tmps) hn0 ps e e' σ σ' X E0 H ER hm (fun p hp => by have := hP p hp (hia p hp); rwa [his p hp] at this) (fun p hp q hq => hG p hp q hq (hia p hp) (hia q hq)) hps.x hps.t h
    exact hK X' w a E1 H1 ER1 m1
  have hsome : ∀ i, i < ops.size → ∃ o, ops[i]? = some o := fun i hi => ⟨_, Array.getElem?_eq_getElem hi⟩
  intro fuel
  induction fuel with
  | zero =>
    intro U listed L e σ X w a G hf hU hL h E0 H ER hm he hP hG
    have hnil : U = [] := List.eq_nil_of_length_eq_zero (by omega)
    subst hnil
    have hall : ∀ j, j < ops.size → listed.getD j false = true := fun j hj => by
      cases hx : listed.getD j false with
      | true => rfl
      | false => exact absurd (hU j hj hx) (by simp)
    refine ⟨?_, done hL hall h E0 H ER hm hP hG⟩
    rw [List.eq_nil_iff_forall_not_mem]
    intro j hj
    rw [mem_ready] at hj
    obtain ⟨h0, o, ho, _⟩ := hj
    have hlt := (Array.getElem?_eq_some_iff.1 ho).1
    rw [listed_iff (by rw [hL.size]; exact hlt), hall j hlt] at h0
    cases h0
  | succ fuel ih =>
    intro U listed L e σ X w a G hf hU hL h E0 H ER hm he hP hG
    refine ⟨fun hr => done hL (idle hL hsome hr) h E0 H ER hm hP hG, fun i hi => ?_⟩
    rw [mem_ready] at hi
    obtain ⟨h0, o, ho, hed⟩ := hi
    have hlt : i < ops.size := (Array.getElem?_eq_some_iff.1 ho).1
    have h0' : listed.getD i false = false := by rw [← listed_iff (by rw [hL.size]; exact hlt)]; exact h0
    -- all that stands before i is listed
    have hbef : ∀ j, j < ops.size → (m.getD i 0).testBit j = true → listed.getD j false = true := fun j hj ht => by
      obtain ⟨ed, he, hb, h1⟩ := (edgesOk_spec hE ho).2 j hj ht
      rcases h1 with h1 | h1
      · subst h1; exact hed ed he hb
      · exact hL.down ed.on (hed ed he hb) j h1 hj
    have hset : ∀ j, j < ops.size → ((listed.setIfInBounds i true).getD j true = false ↔ j ≠ i ∧ listed.getD j true = false) := fun j hj => by
      by_cases hji : i = j
      · subst hji
        have : (listed.setIfInBounds i true).getD i true = true := by simp [Array.getD, hL.size, hj]
        rw [this]; simp
      · rw [getD_set_ne true hji]
        simp [Ne.symm hji]
    have hself : (listed.setIfInBounds i true).getD i false = true := by simp [Array.getD, hL.size, hlt]
    have hU' : ∀ j, j < ops.size → (listed.setIfInBounds i true).getD j false = false → j ∈ U.erase i := fun j hj hx => by
      by_cases hji : i = j
      · subst hji; rw [hself] at hx; cases hx
      · rw [getD_set_ne false hji] at hx
        exact (List.mem_erase_of_ne (Ne.symm hji)).2 (hU j hj hx)
    have hUl : (U.erase i).length ≤ fuel := by
      rw [List.length_erase_of_mem (hU i hlt h0')]
      omega
    have hdown : ∀ j, (listed.setIfInBounds i true).getD j false = true → ∀ k, (m.getD j 0).testBit k = true → k < ops.size → (listed.setIfInBounds i true).getD k false = true := fun j hj k hk hks => by
      by_cases hji : i = j
      · subst hji
        exact getD_set_true (hbef k hks hk)
      · rw [getD_set_ne false hji] at hj
        exact getD_set_true (hL.down j hj k hk hks)
    have hsize : (listed.setIfInBounds i true).size = ops.size := by rw [Array.size_setIfInBounds]; exact hL.size
    -- a variable's making or writing takes nothing of the rest
    have hkeep : frAt ps i = true → Left' C d f ops m ps (listed.setIfInBounds i true) L := fun hfr =>
      { placed := hL.placed
        sorted := hL.sorted
        mem := fun j => by
          rw [hL.mem j]
          constructor
          · rintro ⟨h1, h2, h3⟩
            exact ⟨h1, (hset j h1).2 ⟨(fun he => by subst he; rw [hfr] at h3; exact absurd h3 (by simp)), h2⟩, h3⟩
          · rintro ⟨h1, h2, h3⟩
            exact ⟨h1, ((hset j h1).1 h2).2, h3⟩
        down := hdown
        size := hsize
        pairs := hL.pairs
        names := hL.names }
    by_cases hfr : frAt ps i = true
    · have hL' := hkeep hfr
      obtain ⟨p, hp, hpi⟩ := List.any_eq_true.1 hfr
      simp only [Bool.or_eq_true, beq_iff_eq] at hpi
      rcases hpi with rfl | rfl
      · -- made
        obtain ⟨o', ho', hc⟩ := hps.make p hp
        refine make_run ho' hc fun arr T hsz => ?_
        have K := keeps_alloc (σ := σ) H (.cells arr T)
        have hs : w.heap.size ≤ (w.alloc (.cells arr T)).heap.size := by simp
        have H1 : Inv C X σ (w.alloc (.cells arr T)) := H.same' (X' := X) K rfl hs (fun g hg => heap_push (H.owned_lt hg)) rfl rfl rfl rfl (fun _ _ _ h => h) (fun _ _ h => h) (fun g o h => Nat.lt_of_lt_of_le (H.F g o h) hs) (fun r h => Nat.lt_of_lt_of_le (H.M r h) hs)
        have hlen := (fin_ok _ _ _ _ _ h hps.x p hp).1
        have hee : e.set p.t .any = e := by
          apply List.ext_getElem?
          intro k
          rw [List.getElem?_set]
          split
          · rename_i hk
            subst hk
            have := he p hp
            rw [List.getD_eq_getElem?_getD, List.getElem?_eq_getElem hlen] at this
            rw [List.getElem?_eq_getElem hlen]
            exact congrArg some this.symm
          · rfl
        have ER1 : Reps X σ (w.alloc (.cells arr T)) (a.put (some p.t) (.pointer (some ⟨w.heap.size, 0, none⟩))).tmps.toList e := by
          have := put_reps (dst := some p.t) (ER.keep K) (v := .pointer (some ⟨w.heap.size, 0, none⟩)) (r := .any) (.pure (.any _))
          have h2 : putA e (some p.t) .any = e := hee
          rwa [h2] at this
        have htm : ∀ t', t' ≠ p.t → (a.put (some p.t) (.pointer (some ⟨w.heap.size, 0, none⟩))).tmps[t']? = a.tmps[t']? := fun t' ht => by
          show (a.tmps.setIfInBounds p.t _)[t']? = _
          rw [Array.getElem?_setIfInBounds_ne (Ne.symm ht)]
        have htp : (a.put (some p.t) (.pointer (some ⟨w.heap.size, 0, none⟩))).tmps[p.t]? = some (.pointer (some ⟨w.heap.size, 0, none⟩)) := by
          show (a.tmps.setIfInBounds p.t _)[p.t]? = _
          have : p.t < a.tmps.size := by have h9 := ER.1; rw [Array.length_toList] at h9; rw [h9]; exact hlen
          simp [this]
        have hnis : listed.getD p.is false = false := by
          cases hx : listed.getD p.is false with
          | false => rfl
          | true =>
            have := hL.down _ hx _ (hps.bit p hp) hlt
            rw [h0'] at this
            cases this
        have hne : ∀ q ∈ ps, q ≠ p → q.t ≠ p.t := fun q hq hqp ht => hqp (map_inj hps.t q hq p hp ht)
        have hia : ∀ q ∈ ps, q ≠ p → (listed.setIfInBounds p.ia true).getD q.ia false = listed.getD q.ia false := fun q hq hqp => getD_set_ne false fun h => hqp (hps.ia q hq p hp h.symm)
        have his : ∀ q ∈ ps, (listed.setIfInBounds p.ia true).getD q.is false = listed.getD q.is false := fun q hq => getD_set_ne false (hps.ne hp hq)
        refine ih (U.erase p.ia) _ L e σ X _ _ (fun t => if t = p.t then w.heap.size else G t) hUl hU' hL' h (E0.later K hs (fun g hg => heap_push (Nat.lt_of_lt_of_le hg E0.size)) rfl rfl rfl) H1 ER1 ?_ he ?_ ?_
        · obtain ⟨rs, m1, m2, m3⟩ := hm
          exact ⟨rs, m1, m2, fun r hr => ⟨(m3 r hr).1, (m3 r hr).2.1, (heap_push (size_of_some (m3 r hr).2.2)).trans (m3 r hr).2.2⟩⟩
        · intro q hq hql
          by_cases hqp : q = p
          · subst hqp
            simp only [if_true]
            rw [his q hq, hnis]
            exact ⟨E0.size, fun ho => absurd (H.owned_lt ho) (Nat.lt_irrefl _), fun o hf => absurd (H.F _ o hf) (Nat.lt_irrefl _), htp, arr, T, heap_new, hsz, fun h => by cases h⟩
          · rw [if_neg (hne q hq hqp)]
            rw [hia q hq hqp] at hql
            have hq' := hP q hq hql
            rw [his q hq]
            obtain ⟨arr', T', l1, l2, l3⟩ := hq'.cells
            exact ⟨hq'.base, hq'.own, hq'.F, (htm _ (hne q hq hqp)).trans hq'.at', arr', T', (heap_push (size_of_some l1)).trans l1, l2, fun hd j v c hv hc => (l3 hd j v c hv hc).keep K⟩
        · intro q hq q' hq' hql hql' hgg
          have old : ∀ q ∈ ps, q ≠ p → (listed.setIfInBounds p.ia true).getD q.ia false = true → G q.t < w.heap.size := fun q hq hqp hl => by
            rw [hia q hq hqp] at hl
            obtain ⟨arr', T', l1, _⟩ := (hP q hq hl).cells
            exact size_of_some l1
          by_cases hqp : q = p <;> by_cases hqp' : q' = p
          · rw [hqp, hqp']
          · subst hqp
            simp only [if_true] at hgg
            rw [if_neg (hne q' hq' hqp')] at hgg
            have := old q' hq' hqp' hql'
            omega
          · subst hqp'
            simp only [if_true] at hgg
            rw [if_neg (hne q hq hqp)] at hgg
            have := old q hq hqp hql
            omega
          · simp only [if_neg (hne q hq hqp), if_neg (hne q' hq' hqp')] at hgg
            rw [hia q hq hqp] at hql
            rw [hia q' hq' hqp'] at hql'
            exact hG q hq q' hq' hql hql' hgg
      · -- written
        obtain ⟨o', ho', hc⟩ := hps.write p hp
        have hial : listed.getD p.ia false = true := by
          obtain ⟨o2, ho2, _⟩ := hps.make p hp
          exact hbef p.ia (Array.getElem?_eq_some_iff.1 ho2).1 (hps.bit p hp)
        have hpp := hP p hp hial
        obtain ⟨arr, T, l1, l2, _⟩ := hpp.cells
        have hok := (fin_ok _ _ _ _ _ h hps.x p hp).2 fun mo hmo u hu hux => by
          obtain ⟨q, hq, rfl⟩ := List.mem_map.1 hmo
          have hbit := (hL.names p hp q hq).2 u hu hux
          obtain ⟨h1, h2, _⟩ := (hL.mem q.1).1 (List.mem_map.2 ⟨q, hq, rfl⟩)
          have := hbef q.1 h1 hbit
          rw [← listed_iff (by rw [hL.size]; exact h1), h2] at this
          cases this
        refine write_run ho' hc H ER hpp.at' l1 l2 hok.1 hok.2 fun arr' hsz' hrep => ?_
        have K := keeps_row (σ := σ) (arr' := arr') l1 hpp.F
        have hs : w.heap.size ≤ (w.setRow (G p.t) arr').heap.size := by simp
        have hoth : ∀ g, g ≠ G p.t → (w.setRow (G p.t) arr').heap[g]? = w.heap[g]? := fun g hg => setRow_other w _ g _ hg
        have H1 : Inv C X σ (w.setRow (G p.t) arr') := H.same' (X' := X) K rfl hs (fun g hg => hoth g fun e => hpp.own (e ▸ hg)) rfl rfl rfl rfl (fun _ _ _ h => h) (fun _ _ h => h) (fun g o h => Nat.lt_of_lt_of_le (H.F g o h) hs) (fun r h => Nat.lt_of_lt_of_le (H.M r h) hs)
        have hia : ∀ q ∈ ps, (listed.setIfInBounds p.is true).getD q.ia false = listed.getD q.ia false := fun q hq => getD_set_ne false fun h => hps.ne hq hp h.symm
        refine ih (U.erase p.is) _ L e σ X _ a G hUl hU' hL' h (E0.later K hs (fun g hg => hoth g fun e => by have := hpp.base; omega) rfl rfl rfl) H1 (ER.keep K) ?_ he ?_ ?_
        · obtain ⟨rs, m1, m2, m3⟩ := hm
          refine ⟨rs, m1, m2, fun r hr => ⟨(m3 r hr).1, (m3 r hr).2.1, (hoth r fun e => ?_).trans (m3 r hr).2.2⟩⟩
          have := (m3 r hr).2.2
          rw [e, l1] at this
          cases this
        · intro q hq hql
          rw [hia q hq] at hql
          have hq' := hP q hq hql
          by_cases hqp : q = p
          · subst hqp
            exact ⟨hq'.base, hq'.own, hq'.F, hq'.at', arr', T, setRow_heap w _ arr _ T _ l1, by omega, fun _ j v c hv hc => (hrep j v c hv hc).keep K⟩
          · have hne : G q.t ≠ G p.t := fun hgg => hqp (map_inj hps.t q hq p hp (hG q hq p hp hql hial hgg))
            rw [getD_set_ne false fun h => hqp (hps.is q hq p hp h.symm)]
            obtain ⟨arr2, T2, k1, k2, k3⟩ := hq'.cells
            exact ⟨hq'.base, hq'.own, hq'.F, hq'.at', arr2, T2, (hoth _ hne).trans k1, k2, fun hd j v c hv hc => (k3 hd j v c hv hc).keep K⟩
        · intro q hq q' hq' hql hql' hgg
          rw [hia q hq] at hql
          rw [hia q' hq'] at hql'
          exact hG q hq q' hq' hql hql' hgg
    · have hfr : frAt ps i = false := by simpa using hfr
      obtain ⟨L1, mi, L2, rfl⟩ := split_at ((hL.mem i).2 ⟨hlt, h0, hfr⟩)
      obtain ⟨o', ho', hc⟩ := hL.placed (i, mi) (by simp)
      rw [ho] at ho'
      cases ho'
      have hsort := hL.sorted
      simp only [List.map_append, List.map_cons, List.pairwise_append, List.pairwise_cons] at hsort
      obtain ⟨s1, ⟨s2, s3⟩, s4⟩ := hsort
      have hfree : ∀ p ∈ L1, bound C d p.2 mi = false := fun p hp => by
        have hpi : p.1 < i := s4 p.1 (List.mem_map.2 ⟨p, hp, rfl⟩) i (by simp)
        rcases hL.pairs p (by simp [hp]) (i, mi) (by simp) hpi with hb | hb
        · exfalso
          obtain ⟨hps', hpl, _⟩ := (hL.mem p.1).1 (List.mem_map.2 ⟨p, by simp [hp], rfl⟩)
          have := hbef p.1 hps' hb
          rw [listed_iff (by rw [hL.size]; exact hps')] at hpl
          rw [hpl] at this
          cases this
        · exact hb
      have h' : opsA C R d (L1.map (·.2) ++ mi :: (L2.map (·.2) ++ finL ps)) (some (e, σ)) = some (e', σ') := by simpa using h
      have h2 := front S hN ho hc L1 (L2.map (·.2) ++ finL ps) e σ _ (fun p hp => hL.placed p (by simp [hp])) hfree ⟨X, w, a.tmps, H, ER⟩ h'
      obtain ⟨s, h3, h4⟩ := opsA_one h2
      have hnm : ∀ p ∈ ps, p.t ∉ mi.names ∧ ∀ u, mi.dst = some u → u ∈ opdT p.x → (m.getD p.is 0).testBit i = true := fun p hp => hL.names p hp (i, mi) (by simp)
      have hdst : o.dst = mi.dst := by
        simp only [compO, Option.map_eq_some_iff] at hc
        obtain ⟨_, _, rfl⟩ := hc
        rfl
      have hia : ∀ q ∈ ps, (listed.setIfInBounds i true).getD q.ia false = listed.getD q.ia false := fun q hq => getD_set_ne false fun h => by
        have : frAt ps i = true := List.any_eq_true.2 ⟨q, hq, by simp [h]⟩
        rw [hfr] at this
        cases this
      have his : ∀ q ∈ ps, (listed.setIfInBounds i true).getD q.is false = listed.getD q.is false := fun q hq => getD_set_ne false fun h => by
        have : frAt ps i = true := List.any_eq_true.2 ⟨q, hq, by simp [h]⟩
        rw [hfr] at this
        cases this
      refine one_put S hN ho hc h3 H ER hm fun X1 w1 v E1 H1 ER1 m1 => ?_
      have hni : i ∉ (L1 ++ L2).map (·.1) := by
        rw [List.map_append, List.mem_append]
        rintro (h | h)
        · exact absurd (s4 i h i (by simp)) (Nat.lt_irrefl _)
        · exact absurd (s2 i h) (Nat.lt_irrefl _)
      refine ih (U.erase i) _ (L1 ++ L2) s.1 s.2 X1 w1 _ G hUl hU' ?_ (by simpa using h4) (E0.trans E1) H1 ER1 m1 ?_ ?_ ?_
      · exact
          { placed := fun p hp => hL.placed p (by rcases List.mem_append.1 hp with h | h <;> simp [h])
            sorted := by
              rw [List.map_append, List.pairwise_append]
              exact ⟨s1, s3, fun x hx y hy => s4 x hx y (by simp [hy])⟩
            mem := fun j => by
              have hj := hL.mem j
              simp only [List.map_append, List.map_cons, List.mem_append, List.mem_cons] at hj hni ⊢
              constructor
              · intro hin
                have h5 := hj.1 (by rcases hin with h | h <;> simp [h])
                refine ⟨h5.1, (hset j h5.1).2 ⟨fun he => ?_, h5.2.1⟩, h5.2.2⟩
                subst he
                exact hni hin
              · rintro ⟨h5, h6, h9⟩
                obtain ⟨h7, h8⟩ := (hset j h5).1 h6
                rcases hj.2 ⟨h5, h8, h9⟩ with h | h | h
                · exact .inl h
                · exact absurd h h7
                · exact .inr h
            down := hdown
            size := hsize
            pairs := fun p hp q hq => hL.pairs p (by rcases List.mem_append.1 hp with h | h <;> simp [h]) q (by rcases List.mem_append.1 hq with h | h <;> simp [h])
            names := fun p hp q hq => hL.names p hp q (by rcases List.mem_append.1 hq with h | h <;> simp [h]) }
      · intro p hp
        have hne : mi.dst ≠ some p.t := fun hd => (hnm p hp).1 (by simp [MO.names, hd])
        rw [get_one (u := p.t) h3 hne]
        exact he p hp
      · intro q hq hql
        rw [hia q hq] at hql
        rw [his q hq]
        have hq' := hP q hq hql
        refine hq'.ext E1 ?_ fun hdn => ev_same fun u hu => get_one h3 fun hd => ?_
        · cases hdo : o.dst with
          | none => rfl
          | some k =>
            have hk : k ≠ q.t := fun hk => (hnm q hq).1 (by simp [MO.names, ← hdst, hdo, hk])
            show (a.tmps.setIfInBounds k v)[q.t]? = _
            rw [Array.getElem?_setIfInBounds_ne hk]
        · have hbit := (hnm q hq).2 u hd hu
          have := hL.down _ hdn i hbit hlt
          rw [h0'] at this
          cases this
      · intro q hq q' hq' hql hql' hgg
        rw [hia q hq] at hql
        rw [hia q' hq'] at hql'
        exact hG q hq q' hq' hql hql' hgg

/-! ### A region -/
theorem all_placed {l : List MO} {k : Nat} {o : MO} (h : l[k]? = some o) : (k, o) ∈ Ai.placed l := by
  unfold Ai.placed
  refine List.mem_iff_getElem?.2 ⟨k, ?_⟩
  rw [List.getElem?_zip_eq_some]
  have := lt_of_some h
  exact ⟨by rw [List.getElem?_range' (by simpa using this)]; simp, h⟩
theorem placed_get {l : List MO} {q : Nat × MO} (h : q ∈ Ai.placed l) : l[q.1]? = some q.2 := by
  unfold Ai.placed at h
  obtain ⟨i, hi⟩ := List.mem_iff_getElem?.1 h
  rw [List.getElem?_zip_eq_some] at hi
  obtain ⟨h1, h2⟩ := hi
  have hi' : i < l.length := lt_of_some h2
  rw [List.getElem?_range' (by simpa using hi')] at h1
  simp only [Nat.zero_add, Nat.one_mul, Option.some.injEq] at h1
  rw [← h1]; exact h2

theorem clr_sim {ps : List Fr} : ∀ (qs : List Fr) (L : List MO) (e : Env) (r : Env × St), (∀ q ∈ qs, q ∈ ps) → opsA C R d (clrL qs ++ L) (some (e, σ)) = some r → ∃ e1, opsA C R d L (some (e1, σ)) = some r ∧ e1.length = e.length ∧
    (∀ t, e1.getD t .any = .any ∨ e1.getD t .any = e.getD t .any) ∧ (∀ q ∈ qs, e1.getD q.t .any = .any) ∧ ∀ X w tmps, Reps X σ w tmps e → Reps X σ w tmps e1
  | [], L, e, r, _, h => ⟨e, h, rfl, fun t => .inr rfl, (fun q hq => absurd hq (by simp)), fun _ _ _ h => h⟩
  | q :: qs, L, e, r, hq, h => by
    obtain ⟨s, h1, h2⟩ := opsA_one (show opsA C R d (⟨some q.t, none, .mov (.cst .any)⟩ :: (clrL qs ++ L)) (some (e, σ)) = some r from h)
    simp only [oneA, wantedA, condA, if_true, operA, putR, putA, ev, Option.some.injEq] at h1
    subst h1
    obtain ⟨e1, k1, k2, k3, k4, k5⟩ := clr_sim qs L (e.set q.t .any) r (fun p hp => hq p (by simp [hp])) h2
    have hset : ∀ t, (e.set q.t AV.any).getD t .any = .any ∨ (e.set q.t AV.any).getD t .any = e.getD t .any := fun t => by
      rw [List.getD_eq_getElem?_getD, List.getElem?_set]
      split
      · left
        split <;> rfl
      · right
        rw [List.getD_eq_getElem?_getD]
    refine ⟨e1, k1, by rw [k2]; simp, fun t => ?_, fun p hp => ?_, fun X w tmps h => k5 X w tmps ?_⟩
    · rcases k3 t with h | h
      · exact .inl h
      · rw [h]; exact hset t
    · rcases List.mem_cons.1 hp with rfl | hp
      · rcases k3 p.t with h | h
        · exact h
        · rw [h, List.getD_eq_getElem?_getD, List.getElem?_set]
          simp only [if_true]
          split <;> rfl
      · exact k4 p hp
    · refine ⟨by simp [h.1], fun i v a hv ha => ?_⟩
      rw [List.getElem?_set] at ha
      split at ha
      · split at ha
        · simp only [Option.some.injEq] at ha; subst ha; exact .pure (.any _)
        · cases ha
      · exact h.2 i v a hv ha

theorem fresh_sim (S : CodeSim C R) (hN : Sound C) {f : FuncId} {id : Nat} {ops : Array Oper} {l : List MO} (hl : ops.toList.mapM (compO C f ops.toList) = some l) (hd : freshOk C d ops l = true) {e e' : Env} (h : opsA C R d (freshL l) (some (e, σ)) = some (e', σ'))
    {ro : Option Nat} {lo : Nat} {a : Act} (H : Inv C X σ w) (E : Reps X σ w a.tmps.toList e) (hm : MarksOk X σ w lo a.defers) {Q : Exit → Act → World → Prop} (hK : Goes C X σ σ' w lo e' (Q .normal)) : (Code.region id ops true).wpIn (FW ro) 0 C.P Q a w := by
  obtain ⟨l1, l2⟩ := mapM_get hl
  have hlen : l.length = ops.size := by simpa using l1
  simp only [freshOk, Bool.and_eq_true, nodup, decide_eq_true_eq] at hd
  obtain ⟨⟨⟨⟨⟨⟨d1, d2⟩, d3⟩, d4⟩, d5⟩, d6⟩, d7⟩ := hd
  have hcomp : ∀ k o, l[k]? = some o → ∃ op, ops[k]? = some op ∧ compO C f ops.toList op = some o := fun k o hk => by
    obtain ⟨op, hop⟩ := some_of_size (l := ops) (i := k) (by have := lt_of_some hk; omega)
    exact ⟨op, hop, l2 k op o (by simpa using hop) hk⟩
  have hfr : ∀ p ∈ frs l, (∀ k o, l[k]? = some o → k = p.ia ∨ k = p.is ∨ (p.t ∉ o.names ∧ ∀ u, o.dst = some u → u ∈ opdT p.x → ((Region.before ops).getD p.is 0).testBit k = true)) ∧ ((Region.before ops).getD p.is 0).testBit p.ia = true ∧ p.t ∉ opdT p.x := fun p hp => by
    have := List.all_eq_true.1 d3 p hp
    simp only [frOk, Bool.and_eq_true, Bool.not_eq_true'] at this
    obtain ⟨⟨h1, h2⟩, h3⟩ := this
    refine ⟨fun k o hk => ?_, h1, (fun hmem => by have h9 := List.contains_iff_mem.2 hmem; rw [h9] at h2; exact absurd h2 (by simp))⟩
    have := List.all_eq_true.1 h3 (k, o) (all_placed hk)
    simp only [Bool.or_eq_true, beq_iff_eq, Bool.and_eq_true, Bool.not_eq_true'] at this
    rcases this with (h | h) | ⟨h, h'⟩
    · exact .inl h
    · exact .inr (.inl h)
    · refine .inr (.inr ⟨(fun hmem => by have h9 := List.contains_iff_mem.2 hmem; rw [h9] at h; exact absurd h (by simp)), fun u hu hux => ?_⟩)
      rw [hu] at h'
      simp only [Option.toList_some, List.all_cons, List.all_nil, Bool.and_true, Bool.or_eq_true, Bool.not_eq_true'] at h'
      rcases h' with h' | h'
      · have := List.contains_iff_mem.2 hux
        rw [this] at h'
        cases h'
      · exact h'
  have hps : FrsOk C f ops (Region.before ops) (frs l) :=
    { make := fun p hp => hcomp _ _ (frs_spec hp).2
      write := fun p hp => hcomp _ _ (frs_spec hp).1
      bit := fun p hp => (hfr p hp).2.1
      ia := map_inj d4
      is := map_inj d5
      t := d6
      x := fun p hp q hq hmem => by
        by_cases hpq : q = p
        · subst hpq; exact (hfr q hq).2.2 hmem
        · rcases (hfr q hq).1 _ _ (frs_spec hp).1 with h | h | h
          · have := (frs_spec hp).1
            rw [h, (frs_spec hq).2] at this
            simp at this
          · exact hpq (map_inj d5 q hq p hp h.symm)
          · exact h.1 (by simp [MO.names, MOp.reads, hmem]) }
  refine wpIn_region_any d1 ?_
  obtain ⟨e1, k1, _, _, k4, k5⟩ := clr_sim (ps := frs l) (frs l) _ e _ (fun q h => h) h
  have hrest : ∀ q ∈ restL (frs l) l, l[q.1]? = some q.2 ∧ frAt (frs l) q.1 = false := fun q hq => by
    simp only [restL, List.mem_filter, Bool.not_eq_true'] at hq
    exact ⟨placed_get hq.1, hq.2⟩
  have hz : ((Ai.placed l).map (·.1)) = List.range' 0 l.length := (zip_map_snd l.length 0 l rfl).2
  refine fresh_any (f := f) S hN d2 hps (X0 := X) (σ0 := σ) (w0 := w) H.base hK ops.size (List.range ops.size) _ (restL (frs l) l) e1 σ X w.drew a (fun _ => 0) (by simp) (fun j hj _ => List.mem_range.2 hj) ?_ k1 (ext_drew X σ w) (inv_drew H) ((k5 _ _ _ E).mono (ext_drew X σ w)) (hm.mono (ext_drew X σ w)) (fun p hp => k4 p hp) ?_ ?_
  · exact
      { placed := fun q hq => hcomp _ _ (hrest q hq).1
        sorted := by
          have hs : (restL (frs l) l).Pairwise (fun a b => a.1 < b.1) := by
            unfold restL
            refine List.Pairwise.filter _ ?_
            have h9 : ((Ai.placed l).map (·.1)).Pairwise (· < ·) := by rw [hz]; exact List.pairwise_lt_range'
            exact List.pairwise_map.1 h9
          exact List.pairwise_map.2 hs
        mem := fun j => by
          constructor
          · intro hj
            obtain ⟨q, hq, rfl⟩ := List.mem_map.1 hj
            obtain ⟨h1, h2⟩ := hrest q hq
            have := lt_of_some h1
            have hlt : q.1 < ops.size := by omega
            exact ⟨hlt, by simp [Array.getD, hlt], h2⟩
          · rintro ⟨hj, _, hf⟩
            obtain ⟨o, ho⟩ := some_of_lt (l := l) (i := j) (by omega)
            refine List.mem_map.2 ⟨(j, o), ?_, rfl⟩
            simp only [restL, List.mem_filter, Bool.not_eq_true']
            exact ⟨all_placed ho, hf⟩
        down := fun j hj => by
          exfalso
          rcases Nat.lt_or_ge j ops.size with hlt | hge
          · simp [Array.getD, hlt] at hj
          · simp [Array.getD, Nat.not_lt.2 hge] at hj
        size := by simp
        pairs := fun p hp q hq hpq => by
          have := List.all_eq_true.1 (List.all_eq_true.1 d7 q hq) p hp
          simpa [hpq] using this
        names := fun p hp q hq => by
          obtain ⟨h1, h2⟩ := hrest q hq
          rcases (hfr p hp).1 _ _ h1 with h | h | h
          · have : frAt (frs l) q.1 = true := List.any_eq_true.2 ⟨p, hp, by simp [h]⟩
            rw [h2] at this; cases this
          · have : frAt (frs l) q.1 = true := List.any_eq_true.2 ⟨p, hp, by simp [h]⟩
            rw [h2] at this; cases this
          · exact h }
  · intro p hp hl'
    exfalso
    obtain ⟨o, ho, _⟩ := hps.make p hp
    have := (Array.getElem?_eq_some_iff.1 ho).1
    simp [Array.getD, this] at hl'
  · intro p hp q hq hl'
    exfalso
    obtain ⟨o, ho, _⟩ := hps.make p hp
    have := (Array.getElem?_eq_some_iff.1 ho).1
    simp [Array.getD, this] at hl'
end
end Go.Ai

set_option linter.unusedVariables false
set_option linter.unusedSimpArgs false
namespace Go.Ai
section
variable {C : Cfg} {X X' : Ctx} {σ σ' : St} {w w' : World} {R : Rec} {d : Bool}

/-- What a run of a loop says: so many rounds. -/
def LoopSim (C : Cfg) (R : Rec) (n : Nat) : Prop :=
  ∀ (f : FuncId) (c : Code) (mc : MC) (e e' : Env) (σ σ' : St) (x : Ex), compC C f c = some mc → ∀ (kp : Option (List Tmp)), R f (.loop kp mc) e σ = some (x, e', σ') →
    ∀ (X : Ctx) (w : World) (a : Act) (ro : Option Nat) (lo : Nat) (Q : Exit → Act → World → Prop), Inv C X σ w → Reps X σ w a.tmps.toList e → MarksOk X σ w lo a.defers → lo ≤ w.heap.size → RoOk X σ ro →
      Goes C X σ σ' w lo e' (Q (exitOf x)) → Code.roundsIn (FW ro) 0 C.P c Q n a w

/-- What stands behind a call by values, in the loop's own frame. -/
theorem ret_mark {X : Ctx} {r : Nat} (H : Inv C X σ w) (hr : r = w.heap.size) : ¬ Owned X σ r := fun h => by
  have := H.owned_lt h
  omega

theorem range_sim (S : CodeSim C R) (hN : Sound C) {f : FuncId} {g : Operand} {g' : Opd} {ps : Array Tmp} {asg body : Code} {masg mbody : MC} (hg : opdA C g = some g') (hasg : compC C f asg = some masg) (hbody : compC C f body = some mbody) {e e' : Env} {x : Ex}
    (h : stepA C R f (.range g' ps.toList masg mbody) e σ = some (x, e', σ')) {ro : Option Nat} {lo : Nat} {a : Act} {Q : Exit → Act → World → Prop} (H : Inv C X σ w) (E : Reps X σ w a.tmps.toList e) (hm : MarksOk X σ w lo a.defers) (hlo : lo ≤ w.heap.size) (hro : RoOk X σ ro)
    (hK : Goes C X σ σ' w lo e' (Q (exitOf x))) : (Code.rangeFunc g ps asg body).wpIn (FW ro) 0 C.P Q a w := by
  simp only [stepA] at h
  split at h
  case isFalse => cases h
  rename_i hfn
  refine wpIn_rangeFunc fun fn _ => ?_
  -- the record is laid
  have lay : ∃ (l : Nat) (mk : List Deferred) (w1 : World) (X1 : Ctx), (Instr.enterLoop fn a.tmps ps asg body (FW ro).round).run C.P w = .ok (l, mk) w1 ∧ Ext X X1 σ { σ with loops := σ.loops ++ [{ f := f, env := e, ps := ps.toList, asg := masg, body := mbody, st := .ready, pend := none }] } w w1 ∧
      Inv C X1 { σ with loops := σ.loops ++ [{ f := f, env := e, ps := ps.toList, asg := masg, body := mbody, st := .ready, pend := none }] } w1 ∧ X1.loop σ.loops.length = l ∧
      MarksOk X1 { σ with loops := σ.loops ++ [{ f := f, env := e, ps := ps.toList, asg := masg, body := mbody, st := .ready, pend := none }] } w1 lo (mk ++ a.defers) := by
    cases ro with
    | some gl =>
      obtain ⟨l0, hl0, rfl⟩ := hro
      obtain ⟨L0, hL0⟩ := some_of_lt hl0
      obtain ⟨lp0, hlp0, _⟩ := H.loopAt hL0
      obtain ⟨E1, H1, hx⟩ := new_loop H (lp := { state := .ready, pending := none, fn := fn, tmps := a.tmps, params := ps, assign := asg, body := body, defers := lp0.defers }) (L := { f := f, env := e, ps := ps.toList, asg := masg, body := mbody, st := .ready, pend := none })
        ⟨rfl, E, rfl, hasg, hbody, trivial⟩
      refine ⟨w.heap.size, [], _, _, ?_, E1, H1, hx, hm.mono E1⟩
      show (Instr.enterLoop fn a.tmps ps asg body (some (X.loop l0))).run C.P w = _
      simp only [Instr.enterLoop, Sem.run_bind, run_getLoop hlp0, Result.andThen_ok, Sem.run_pure, run_newObj]
      rfl
    | none =>
      have E0 := ext_alloc H (.deferred (some []))
      have H0 := inv_alloc H (.deferred (some []))
      obtain ⟨E1, H1, hx⟩ := new_loop H0 (lp := { state := .ready, pending := none, fn := fn, tmps := a.tmps, params := ps, assign := asg, body := body, defers := w.heap.size }) (L := { f := f, env := e, ps := ps.toList, asg := masg, body := mbody, st := .ready, pend := none })
        ⟨rfl, E.mono E0, rfl, hasg, hbody, trivial⟩
      refine ⟨_, [mark w.heap.size], _, _, ?_, E0.trans E1, H1, hx, ?_⟩
      · show (Instr.enterLoop fn a.tmps ps asg body none).run C.P w = _
        simp only [Instr.enterLoop, Sem.run_bind, run_newObj, Result.andThen_ok, Sem.run_pure]
        rfl
      · obtain ⟨rs, h1, h2, h3⟩ := (hm.mono E0).mono E1
        have hfresh : ∀ r ∈ rs, r ≠ w.heap.size := by
          obtain ⟨rs', k1, k2, k3⟩ := hm
          have : rs' = rs := by
            have := k1.symm.trans h1
            exact List.map_inj_right (fun a b hab => by simpa [mark] using hab) |>.1 this
          subst this
          intro r hr
          have := size_of_some (k3 r hr).2.2
          omega
        have hlt : w.heap.size < (w.alloc (.deferred (some []))).heap.size := by simp
        refine ⟨w.heap.size :: rs, by simp [h1], List.nodup_cons.2 ⟨fun hmem => hfresh _ hmem rfl, h2⟩, fun r hr => ?_⟩
        rcases List.mem_cons.1 hr with rfl | hr
        · refine ⟨hlo, fun ho => ?_, ?_⟩
          · have h7 : Owned X σ w.heap.size := E1.owned _ hlt ho
            exact absurd (H.owned_lt h7) (Nat.lt_irrefl _)
          · exact (heap_push hlt).trans heap_new
        · exact h3 r hr
  obtain ⟨l, mk, w1, X1, hent, E1, H1, hx, hm1⟩ := lay
  -- the call
  have hgr := (opdA_rep (a := a) H E hg).mono E1
  have hy : Reps X1 { σ with loops := σ.loops ++ [{ f := f, env := e, ps := ps.toList, asg := masg, body := mbody, st := .ready, pend := none }] } w1 (#[Value.func (.yield l) #[] #[]]).toList [.yld σ.loops.length] := by
    refine ⟨rfl, fun i v c hv hc => ?_⟩
    cases i with
    | zero =>
      simp only [List.getElem?_cons_zero, Option.some.injEq] at hv hc
      subst hv hc
      rw [← hx]
      exact .yld _ (by simp)
    | succ i => simp at hv
  cases hcall : callA C R false (ev e g') [.yld σ.loops.length] { σ with loops := σ.loops ++ [{ f := f, env := e, ps := ps.toList, asg := masg, body := mbody, st := .ready, pend := none }] } with
  | none => rw [hcall] at h; cases h
  | some q =>
    obtain ⟨r, σ2⟩ := q
    rw [hcall] at h
    have fin : ∀ X2 w2 (v : Value), Ext X1 X2 { σ with loops := σ.loops ++ [{ f := f, env := e, ps := ps.toList, asg := masg, body := mbody, st := .ready, pend := none }] } σ2 w1 w2 → Inv C X2 σ2 w2 → Rep X2 σ2 w2 v r →
        rangePost (FW ro) 0 C.P l Q { a with defers := mk ++ a.defers } (.returned v) w2 := by
      intro X2 w2 v E2 H2 _
      have E12 := E1.trans E2
      have hl2 : X2.loop σ.loops.length = l := (E2.loop _ (by simp)).trans hx
      simp only [pendA] at h
      split at h
      case h_2 => cases h
      rename_i L hL
      split at h
      · cases h
      rename_i hst
      obtain ⟨lp, g1, g2, g3, hput⟩ := put_loop H2 hL
      obtain ⟨E3, H3⟩ := hput .exhausted lp.pending L.pend g3
      rw [hl2] at g1 E3 H3
      have E13 := E12.trans E3
      refine ⟨lp.pending, _, run_endLoop g1 (by rw [g2]; exact hst), ?_⟩
      have ER3 := E.mono E13
      have hm3 := (hm1.mono E2).mono E3
      cases hp : L.pend with
      | none =>
        rw [hp] at g3 h
        simp only [Option.some.injEq, Prod.mk.injEq] at h
        obtain ⟨rfl, rfl, rfl⟩ := h
        cases hpc : lp.pending with
        | some c => rw [hpc] at g3; exact g3.elim
        | none =>
          rw [hpc, hp] at E13 H3 hm3 ER3
          exact hK _ _ _ E13 H3 ER3 hm3
      | some mcp =>
        rw [hp] at g3 h
        cases hpc : lp.pending with
        | none => rw [hpc] at g3; exact g3.elim
        | some cp =>
          rw [hpc] at g3
          rw [hpc, hp] at E13 H3 hm3 ER3
          refine S L.f cp mcp e e' _ σ' x g3 h X2 _ _ ro lo Q H3 ER3 hm3 (Nat.le_trans hlo E13.size) (hro.mono E13) fun X4 w4 a4 E4 H4 ER4 m4 => hK X4 w4 a4 (E13.trans E4) H4 ER4 m4
    obtain ⟨fd, dd, hd, args, hinv, hcalls⟩ := call_fn (K := rangePost (FW ro) 0 C.P l Q { a with defers := mk ++ a.defers }) S hN hfn hcall H1 hgr hy fin ro
    refine ⟨l, mk, w1, dd, w1, fd, args, w1, hent, ?_, fun _ _ => trivial, hinv, fun hd => by simp [FW, Fence.wide] at hd, hcalls⟩
    have : resolve a.eval (rangeCall g l) 0 = Deferred.ofValue (a.eval g) #[Value.func (.yield l) #[] #[]] := by simp [resolve, rangeCall, Act.eval]
    rw [this]
    exact hd w1

theorem stepR_scope {P : Program} {b : Frame} {a : Act} {k : List Item} {cs : List Frame} {c : Code} : step P (lone (b.atR a (.code (.scope c) :: k)) cs w) = .next (lone (b.atR a (.code c :: .inScope c :: k)) cs w) :=
  step_lone_go (by simp [stepG, stepG.exec, Frame.atR])
theorem stepR_inScope {P : Program} {b : Frame} {a : Act} {k : List Item} {cs : List Frame} {c : Code} : step P (lone (b.atR a (.inScope c :: k)) cs w) = .next (lone (b.atR a k) cs w) :=
  step_lone_go (by simp [stepG, stepG.exec, Frame.atR])

/-- A scope through which the run goes without a goto. -/
theorem wpIn_scope {F : Fence} {n : Nat} {P : Program} {c : Code} {Q : Exit → Act → World → Prop} {a : Act} (h : c.wpIn F n P (Exit.noGoto Q) a w) : (Code.scope c).wpIn F n P Q a w := by
  intro b k cs hro hb hr
  have h0 : (lone (b.atR a (.code (.scope c) :: k)) cs w).fenced P F := fenced_calm hb hr rfl
  obtain ⟨e, a₁, w₁, hq, harr⟩ := h b (.inScope c :: k) cs hro hb hr
  cases e with
  | normal => exact ⟨.normal, a₁, w₁, hq, .head h0 stepR_scope (StepsIn.trans harr (.one (fenced_calm hb hr rfl) stepR_inScope))⟩
  | exit id =>
    have hx : exitTo id (.inScope c :: k) = exitTo id k := by simp [exitTo]
    exact ⟨.exit id, a₁, w₁, hq, fun k' hk => .head h0 stepR_scope (harr.1 k' (by rw [hx]; exact hk)),
      fun hr' hk => let ⟨k₁, h1, h2⟩ := harr.2 hr' (by rw [hx]; exact hk); ⟨k₁, h1, .head h0 stepR_scope h2⟩⟩
  | goto l => exact hq.elim
  | ret => exact ⟨_, a₁, w₁, hq, .of_steps (.one h0 stepR_scope) harr⟩
  | panic ch => exact ⟨_, a₁, w₁, hq, .of_steps (.one h0 stepR_scope) harr⟩
  | outgrown => exact ⟨_, a₁, w₁, hq, .of_steps (.one h0 stepR_scope) harr⟩

theorem code_step (S : CodeSim C R) (hN : Sound C) {n : Nat} (SL : LoopSim C R n) : CodeSim C (stepA C R) ∧ LoopSim C (stepA C R) (n + 1) := by
  have loop : LoopSim C (stepA C R) (n + 1) := by
    intro f c mc e e' σ σ' x hc kp h X w a ro lo Q H E hm hlo hro hK
    simp only [stepA] at h
    rw [roundsIn_succ]
    cases hb : R f mc (mask kp e) σ with
    | none => rw [hb] at h; cases h
    | some q =>
      obtain ⟨y, e1, σ1⟩ := q
      rw [hb] at h
      refine S f c mc (mask kp e) e1 σ σ1 y hc hb X w a ro lo _ H (mask_reps E kp) hm hlo hro fun X1 w1 a1 E1 H1 ER1 m1 => ?_
      cases y with
      | nm =>
        obtain ⟨E1, H1, ER1, m2⟩ := cut_sim E1 H1 (mask_reps ER1 kp)
        exact SL f c mc (mask kp e1) e' _ σ' x hc kp h X1 w1 a1 ro lo Q H1 ER1 (m2 lo _ m1) (Nat.le_trans hlo E1.size) (hro.mono E1) fun X2 w2 a2 E2 H2 ER2 m2 => hK X2 w2 a2 (E1.trans E2) H2 ER2 m2
      | rt =>
        simp only [againA, Option.some.injEq, Prod.mk.injEq] at h
        obtain ⟨rfl, rfl, rfl⟩ := h
        exact hK X1 w1 a1 E1 H1 ER1 m1
      | ex id =>
        simp only [againA, Option.some.injEq, Prod.mk.injEq] at h
        obtain ⟨rfl, rfl, rfl⟩ := h
        exact hK X1 w1 a1 E1 H1 ER1 m1
  refine ⟨?_, loop⟩
  intro f c mc e e' σ σ' x hc h X w a ro lo Q H E hm hlo hro hK
  cases c with
  | skip =>
    simp only [compC, Option.some.injEq] at hc
    subst hc
    simp only [stepA, Option.some.injEq, Prod.mk.injEq] at h
    obtain ⟨rfl, rfl, rfl⟩ := h
    exact wpIn_skip (hK X w a (.refl ..) H E hm)
  | label l =>
    simp only [compC, Option.some.injEq] at hc
    subst hc
    simp only [stepA, Option.some.injEq, Prod.mk.injEq] at h
    obtain ⟨rfl, rfl, rfl⟩ := h
    exact wpIn_label (hK X w a (.refl ..) H E hm)
  | region id ops dr =>
    simp only [compC, Option.bind_eq_some_iff] at hc
    obtain ⟨l, hl, hc⟩ := hc
    have key : (∃ d, mc = .ops d l ∧ (dr = true → drawOk C d ops l = true)) ∨ (dr = true ∧ mc = .ops true (freshL l) ∧ freshOk C true ops l = true) := by
      split at hc
      · rename_i hd
        simp only [Option.some.injEq] at hc
        exact .inl ⟨false, hc.symm, fun hdr => by simpa [hdr] using hd⟩
      · rename_i hdr
        split at hc
        · rename_i hd
          simp only [Option.some.injEq] at hc
          exact .inl ⟨true, hc.symm, fun _ => hd⟩
        · split at hc
          · rename_i hd
            simp only [Option.some.injEq] at hc
            refine .inr ⟨?_, hc.symm, hd⟩
            cases dr with
            | true => rfl
            | false => simp at hdr
          · cases hc
    rcases key with ⟨d, hmc, hd⟩ | ⟨rfl, hmc, hd⟩
    · subst hmc
      simp only [stepA] at h
      cases ho : opsA C R d l (some (e, σ)) with
      | none => rw [ho] at h; cases h
      | some s =>
        rw [ho] at h
        simp only [nmA, Option.some.injEq, Prod.mk.injEq] at h
        obtain ⟨rfl, rfl, rfl⟩ := h
        exact region_sim S hN hl hd ho H E hm hK
    · subst hmc
      simp only [stepA] at h
      cases ho : opsA C R true (freshL l) (some (e, σ)) with
      | none => rw [ho] at h; cases h
      | some s =>
        rw [ho] at h
        simp only [nmA, Option.some.injEq, Prod.mk.injEq] at h
        obtain ⟨rfl, rfl, rfl⟩ := h
        exact fresh_sim S hN hl hd ho H E hm hK
  | seq p q =>
    simp only [compC, Option.bind_eq_some_iff, Option.map_eq_some_iff] at hc
    obtain ⟨mp, hp, mq, hq, rfl⟩ := hc
    simp only [stepA] at h
    cases hb : R f mp e σ with
    | none => rw [hb] at h; cases h
    | some s =>
      obtain ⟨y, e1, σ1⟩ := s
      rw [hb] at h
      refine wpIn_seq (S f p mp e e1 σ σ1 y hp hb X w a ro lo _ H E hm hlo hro fun X1 w1 a1 E1 H1 ER1 m1 => ?_)
      cases y with
      | nm => exact S f q mq e1 e' σ1 σ' x hq h X1 w1 a1 ro lo Q H1 ER1 m1 (Nat.le_trans hlo E1.size) (hro.mono E1) fun X2 w2 a2 E2 H2 ER2 m2 => hK X2 w2 a2 (E1.trans E2) H2 ER2 m2
      | rt =>
        simp only [thenA, Option.some.injEq, Prod.mk.injEq] at h
        obtain ⟨rfl, rfl, rfl⟩ := h
        exact hK X1 w1 a1 E1 H1 ER1 m1
      | ex id =>
        simp only [thenA, Option.some.injEq, Prod.mk.injEq] at h
        obtain ⟨rfl, rfl, rfl⟩ := h
        exact hK X1 w1 a1 E1 H1 ER1 m1
  | cond t p q =>
    simp only [compC, Option.bind_eq_some_iff, Option.map_eq_some_iff] at hc
    obtain ⟨t', ht, mp, hp, mq, hq, rfl⟩ := hc
    simp only [stepA] at h
    have hr := opdA_rep H E ht
    cases hv : ev e t' with
    | bool b =>
      rw [hv] at h hr
      simp only [condC] at h
      refine wpIn_cond hr.boolV ?_
      cases b with
      | true => exact S f p mp e e' σ σ' x hp h X w a ro lo Q H E hm hlo hro hK
      | false => exact S f q mq e e' σ σ' x hq h X w a ro lo Q H E hm hlo hro hK
    | _ => rw [hv] at h; cases h
  | block id p =>
    simp only [compC, Option.map_eq_some_iff] at hc
    obtain ⟨mp, hp, rfl⟩ := hc
    simp only [stepA] at h
    cases hb : R f mp e σ with
    | none => rw [hb] at h; cases h
    | some s =>
      obtain ⟨y, e1, σ1⟩ := s
      rw [hb] at h
      refine wpIn_block (S f p mp e e1 σ σ1 y hp hb X w a ro lo _ H E hm hlo hro fun X1 w1 a1 E1 H1 ER1 m1 => ?_)
      cases y with
      | nm =>
        simp only [blockA, Option.some.injEq, Prod.mk.injEq] at h
        obtain ⟨rfl, rfl, rfl⟩ := h
        exact hK X1 w1 a1 E1 H1 ER1 m1
      | rt =>
        simp only [blockA, Option.some.injEq, Prod.mk.injEq] at h
        obtain ⟨rfl, rfl, rfl⟩ := h
        exact hK X1 w1 a1 E1 H1 ER1 m1
      | ex i =>
        simp only [blockA, Option.some.injEq, Prod.mk.injEq] at h
        obtain ⟨rfl, rfl, rfl⟩ := h
        show Exit.inBlock id Q (.exit i) a1 w1
        simp only [Exit.inBlock]
        by_cases hid : i = id
        · rw [if_pos hid]
          rw [if_pos hid] at hK
          exact hK X1 w1 a1 E1 H1 ER1 m1
        · rw [if_neg hid]
          rw [if_neg hid] at hK
          exact hK X1 w1 a1 E1 H1 ER1 m1
  | loop p =>
    simp only [compC, Option.map_eq_some_iff] at hc
    obtain ⟨mp, hp, rfl⟩ := hc
    exact wpIn_loop_rounds _ (loop f p mp e e' σ σ' x hp _ h X w a ro lo Q H E hm hlo hro hK)
  | scope p =>
    simp only [compC, Option.map_eq_some_iff] at hc
    obtain ⟨mp, hp, rfl⟩ := hc
    simp only [stepA] at h
    refine wpIn_scope (S f p mp e e' σ σ' x hp h X w a ro lo _ H E hm hlo hro fun X1 w1 a1 E1 H1 ER1 m1 => ?_)
    cases x <;> exact hK X1 w1 a1 E1 H1 ER1 m1
  | rangeFunc g ps asg body =>
    simp only [compC, Option.bind_eq_some_iff, Option.map_eq_some_iff] at hc
    obtain ⟨g', hg, masg, hasg, mbody, hbody, rfl⟩ := hc
    exact range_sim S hN hg hasg hbody h H E hm hlo hro hK
  | exit id =>
    simp only [compC, Option.some.injEq] at hc
    subst hc
    simp only [stepA, Option.some.injEq, Prod.mk.injEq] at h
    obtain ⟨rfl, rfl, rfl⟩ := h
    exact wpIn_exit (hK X w a (.refl ..) H E hm)
  | ret =>
    simp only [compC, Option.some.injEq] at hc
    subst hc
    simp only [stepA, Option.some.injEq, Prod.mk.injEq] at h
    obtain ⟨rfl, rfl, rfl⟩ := h
    exact wpIn_ret (hK X w a (.refl ..) H E hm)
  | _ => simp [compC] at hc

/-- Every unfolding of the run tells the code. -/
theorem sim_all (hN : Sound C) : ∀ n, CodeSim C (runN C n) ∧ LoopSim C (runN C n) n
  | 0 => ⟨fun f c mc e e' σ σ' x hc h => by simp [runN] at h, fun f c mc e e' σ σ' x hc kp h => by simp [runN] at h⟩
  | n + 1 => code_step (sim_all hN n).1 hN (sim_all hN n).2

/-- **What the interpreter answers, the machine answers.** -/
theorem calls_of_call (hN : Sound C) {f : FuncId} {args : List AV} {r : AV} (h : call C f args = some r) {w : World} {F : Nat → Nat → Prop} {M : Nat → Prop} (hF : ∀ g o, F g o → g < w.heap.size) (hM : ∀ k, M k → k < w.heap.size)
    (hG : ∀ (g : Nat) (cs : List AV), C.glob g = some cs → PRep w F M (.pointer (some ⟨g, 0, none⟩)) (.rp cs 0)) {vs : Array Value} (hv : PReps w F M vs.toList args) :
    Calls C.P f vs w fun e w' => ∃ v F' M', e = .returned v ∧ PRep w' F' M' v r ∧ w.heap.size ≤ w'.heap.size ∧ (∀ g, g < w.heap.size → w'.heap[g]? = w.heap[g]?) ∧ w'.os = w.os ∧ w'.tape = w.tape ∧ w'.output = w.output := by
  simp only [call, pureA] at h
  cases hb : bodyA C (run C) f args {} with
  | none => rw [hb] at h; cases h
  | some q =>
    obtain ⟨r1, σ1⟩ := q
    rw [hb] at h
    simp only [purR, Option.map_eq_some_iff] at h
    obtain ⟨⟨r2, t⟩, hp, rfl⟩ := h
    obtain ⟨n, hn⟩ := (good_body (C := C) f args {}).fin runN_mono _ hb
    have hb := hn n (Nat.le_refl _)
    have H : Inv C (callee w F M) {} w :=
      { base := Nat.le_refl _
        F := hF
        M := hM
        box := fun b cs h => by simp at h
        boxInj := fun b b' h => by simp at h
        chain := fun c n s h => by simp at h
        tipInj := fun c c' h => by simp at h
        tipBox := fun c b h => by simp at h
        map := fun m es h => by simp at h
        mapInj := fun m m' h => by simp at h
        loop := fun l L h => by simp at h
        loopInj := fun l l' h => by simp at h
        ro := Nat.le_refl _
        mro := Nat.le_refl _
        glob := hG }
    refine (callsIn_wide (n := 0)).1 ?_
    show CallsIn (FW none) 0 C.P f vs w _
    refine body_sim (sim_all hN n).1 hb H ⟨hv.1, fun i v c h1 h2 => .pure (hv.2 i v c h1 h2)⟩ (fun X1 w1 v E1 H1 hr => ?_) none
    exact ⟨v, _, _, rfl, (pur_rep H1 depth hr hp).1, E1.size, fun g hg => E1.kept g hg owned_none, E1.os, E1.tape, E1.output⟩
end
#print axioms calls_of_call
end Go.Ai
