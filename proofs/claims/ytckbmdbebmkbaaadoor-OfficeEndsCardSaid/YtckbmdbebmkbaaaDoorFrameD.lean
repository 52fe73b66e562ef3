/- This text shows loops, calls, regions: what the interpreter answers the program answers. No conditions of its own. -/
import Derived.Test.YtckbmdbebmkbaaaDoorFrameC
import Derived.Sort.Row
import Derived.Sort.Grow
import Derived.OrdersIn
set_option linter.unusedSimpArgs false
set_option linter.unusedVariables false
set_option linter.unusedVariables false
set_option linter.unusedSimpArgs false
namespace Go.Ai
section
variable {C : Cfg} {X X' : Ctx} {σ σ' : St} {w w' : World}

/-- What is the call's own has not been touched; of other memory nothing is asked but what is frozen. -/
theorem Inv.same' (H : Inv C X σ w) (K : Keeps X X' σ σ w w') (hn : X'.n0 = X.n0) (hsz : w.heap.size ≤ w'.heap.size) (hown : ∀ g, Owned X σ g → w'.heap[g]? = w.heap[g]?) (hbox : X'.box = X.box) (htip : X'.tip = X.tip) (hmap : X'.map = X.map) (hloop : X'.loop = X.loop)
    (hF : ∀ g o, Owned X σ g → X'.F g o → X.F g o) (hM : ∀ g, Owned X σ g → X'.M g → X.M g) (hFs : ∀ g o, X'.F g o → g < w'.heap.size) (hMs : ∀ r, X'.M r → r < w'.heap.size) : Inv C X' σ w' where
  base := by rw [hn]; exact Nat.le_trans H.base hsz
  F := hFs
  M := hMs
  box b cs hb := (H.box b cs hb).keep K hn (lt_of_some hb) (hown _ (owned_box (lt_of_some hb))) (fun o hf => hF _ o (owned_box (lt_of_some hb)) hf) rfl
  boxInj b b' hb hb' k k' h := H.boxInj b b' hb hb' k k' (by rwa [hbox] at h)
  chain c n s hc := (H.chain c n s hc).keep hn (by rw [htip]) (hown _ (owned_tip (lt_of_some hc))) (fun o hf => hF _ o (owned_tip (lt_of_some hc)) hf)
  tipInj c c' hc hc' h := H.tipInj c c' hc hc' (by rwa [htip] at h)
  tipBox c b hc hb := by rw [htip, hbox]; exact H.tipBox c b hc hb
  map m es hm := (H.map m es hm).keep K hn (lt_of_some hm) (hown _ (owned_map (lt_of_some hm))) (fun hf => hM _ (owned_map (lt_of_some hm)) hf) rfl
  mapInj m m' hm hm' h := H.mapInj m m' hm hm' (by rwa [hmap] at h)
  loop l L hl := (H.loop l L hl).keep K hn (lt_of_some hl) (hown _ (owned_loop (lt_of_some hl)))
  loopInj l l' hl hl' h := H.loopInj l l' hl hl' (by rwa [hloop] at h)
  ro := H.ro
  mro := H.mro
  glob g cs hg := (H.glob g cs hg).mono K.grew

theorem grew_put {F : Nat → Nat → Prop} {M : Nat → Prop} {r : Nat} {ds ds' : Option (List Deferred)} (h : w.heap[r]? = some (.deferred ds)) : Grew w (putObj w r (.deferred ds')) F F M M := by
  have hlt := size_of_some h
  refine ⟨fun g o _ => ?_, fun k es c _ hw => ?_, fun _ _ h => h, fun _ h => h⟩
  · by_cases hg : g = r
    · subst hg; simp only [World.cell?, putObj_same hlt, h]
    · simp only [World.cell?, putObj_other hg]
  · by_cases hg : k = r
    · subst hg; rw [h] at hw; cases hw
    · rw [putObj_other hg]; exact hw

/-- A block of deferred calls that is not the call's own is put anew. -/
theorem Inv.put (H : Inv C X σ w) {r : Nat} {ds ds' : Option (List Deferred)} (h : w.heap[r]? = some (.deferred ds)) (hno : ¬ Owned X σ r) : Inv C X σ (putObj w r (.deferred ds')) := by
  refine H.same' (X' := X) ⟨grew_put h, fun _ _ => rfl, fun b cs h => ⟨cs, h⟩, fun c n s h => ⟨n, h, Nat.le_refl _, fun _ => rfl⟩, fun _ _ => rfl, Nat.le_refl _, fun _ _ => rfl, Nat.le_refl _⟩ rfl (by rw [putObj_size]; exact Nat.le_refl _)
    (fun g hg => putObj_other fun e => hno (e ▸ hg)) rfl rfl rfl rfl (fun _ _ _ h => h) (fun _ _ h => h) (fun g o h => by rw [putObj_size]; exact H.F g o h) (fun r h => by rw [putObj_size]; exact H.M r h)

theorem Ext.put (E : Ext X X' σ σ' w w') {r : Nat} (hr : w.heap.size ≤ r) {ds ds' : Option (List Deferred)} (h : w'.heap[r]? = some (.deferred ds)) : Ext X X' σ σ' w (putObj w' r (.deferred ds')) where
  n0 := E.n0
  grew := E.grew.trans (grew_put h)
  box := E.box
  boxes := E.boxes
  chains := E.chains
  map := E.map
  maps := E.maps
  loop := E.loop
  loops := E.loops
  size := by rw [putObj_size]; exact E.size
  owned := E.owned
  kept g hg ho := (putObj_other (by omega)).trans (E.kept g hg ho)
  os := E.os
  tape := E.tape
  output := E.output
  newF := E.newF
  freshF := E.freshF
  newM := E.newM

/-- The record of loop l at block g. -/
def withLoop (X : Ctx) (n g : Nat) : Ctx := { X with loop := fun b => if b = n then g else X.loop b }

/-- The record of a range over a function. -/
def LpOk (C : Cfg) (X : Ctx) (σ : St) (w : World) (lp : Loop) (L : Lp) : Prop := lp.state = L.st ∧ Reps X σ w lp.tmps.toList L.env ∧ lp.params.toList = L.ps ∧ compC C L.f lp.assign = some L.asg ∧ compC C L.f lp.body = some L.body ∧ pendRep C L.f lp.pending L.pend

theorem new_loop (H : Inv C X σ w) {lp : Loop} {L : Lp} (hL : LpOk C X σ w lp L) : Ext X (withLoop X σ.loops.length w.heap.size) σ { σ with loops := σ.loops ++ [L] } w (w.alloc (.loop lp)) ∧ Inv C (withLoop X σ.loops.length w.heap.size) { σ with loops := σ.loops ++ [L] } (w.alloc (.loop lp)) ∧
    (withLoop X σ.loops.length w.heap.size).loop σ.loops.length = w.heap.size := by
  have hmap : ∀ b, b < σ.loops.length → (withLoop X σ.loops.length w.heap.size).loop b = X.loop b := fun b hb => by
    show (if b = σ.loops.length then w.heap.size else X.loop b) = X.loop b
    rw [if_neg (Nat.ne_of_lt hb)]
  have hnew : (withLoop X σ.loops.length w.heap.size).loop σ.loops.length = w.heap.size := by
    show (if σ.loops.length = σ.loops.length then w.heap.size else X.loop σ.loops.length) = w.heap.size
    rw [if_pos rfl]
  have E : Ext X (withLoop X σ.loops.length w.heap.size) σ { σ with loops := σ.loops ++ [L] } w (w.alloc (.loop lp)) :=
    { n0 := rfl
      grew := ⟨fun g j h => cell_push (H.F g j h), fun r es c h hw => (heap_push (H.M r h)).trans hw, fun _ _ h => h, fun _ h => h⟩
      box := fun _ _ => rfl
      boxes := fun b cs' h => ⟨cs', h⟩
      chains := fun c n s h => ⟨n, h, Nat.le_refl _, fun _ => rfl⟩
      map := fun _ _ => rfl
      maps := Nat.le_refl _
      loop := hmap
      loops := by simp
      size := by simp
      owned := fun g hg ho => by
        rcases ho with h | h | h | ⟨m, hm, rfl⟩
        · exact .inl h
        · exact .inr (.inl h)
        · exact .inr (.inr (.inl h))
        · simp at hm
          rcases Nat.lt_or_ge m σ.loops.length with hlt | hge
          · rw [hmap m hlt]; exact owned_loop hlt
          · have : m = σ.loops.length := by omega
            subst this
            rw [hnew] at hg
            exact absurd hg (Nat.lt_irrefl _)
      kept := fun g hg _ => heap_push hg
      os := rfl
      tape := rfl
      output := rfl
      newF := fun _ _ h => .inl h
      freshF := fun _ _ h => .inl h
      newM := fun _ h => .inl h }
  have hlt : ∀ g, Owned X σ g → (w.alloc (.loop lp)).heap[g]? = w.heap[g]? := fun g hg => heap_push (H.owned_lt hg)
  refine ⟨E, ?_, hnew⟩
  exact
    { base := by rw [World.size_alloc]; exact Nat.le_succ_of_le H.base
      F := fun g o h => by rw [World.size_alloc]; exact Nat.lt_succ_of_lt (H.F g o h)
      M := fun r h => by rw [World.size_alloc]; exact Nat.lt_succ_of_lt (H.M r h)
      box := fun b cs' hb => (H.box b cs' hb).keep E.toKeeps rfl (lt_of_some hb) (hlt _ (owned_box (lt_of_some hb))) (fun o h => h) rfl
      boxInj := H.boxInj
      chain := fun c n s hc' => (H.chain c n s hc').keep rfl rfl (hlt _ (owned_tip (lt_of_some hc'))) (fun o h => h)
      tipInj := H.tipInj
      tipBox := H.tipBox
      map := fun m es hm => (H.map m es hm).keep E.toKeeps rfl (lt_of_some hm) (hlt _ (owned_map (lt_of_some hm))) (fun h => h) rfl
      mapInj := H.mapInj
      loop := fun l L' hl' => by
        rcases append_get hl' with ⟨hlt', hm'⟩ | ⟨rfl, rfl⟩
        · exact (H.loop l L' hm').keep E.toKeeps rfl hlt' (hlt _ (owned_loop hlt'))
        · obtain ⟨h1, h2, h3, h4, h5, h6⟩ := hL
          unfold LoopOk
          rw [hnew]
          exact ⟨H.base, lp, heap_new, h1, h2.keep E.toKeeps, h3, h4, h5, h6⟩
      loopInj := fun m m' hm hm' h => by
        simp at hm hm'
        rcases Nat.lt_or_ge m σ.loops.length with h1 | h1 <;> rcases Nat.lt_or_ge m' σ.loops.length with h2 | h2
        · rw [hmap m h1, hmap m' h2] at h; exact H.loopInj m m' h1 h2 h
        · have : m' = σ.loops.length := by omega
          subst this
          rw [hmap m h1, hnew] at h
          exact absurd (H.owned_lt (owned_loop h1)) (by rw [h]; exact Nat.lt_irrefl _)
        · have : m = σ.loops.length := by omega
          subst this
          rw [hmap m' h2, hnew] at h
          exact absurd (H.owned_lt (owned_loop h2)) (by rw [← h]; exact Nat.lt_irrefl _)
        · omega
      ro := H.ro
      mro := H.mro
      glob := fun g cs' hg => (H.glob g cs' hg).mono E.grew }

/-- A loop's record is put anew. -/
theorem set_loop (H : Inv C X σ w) {l : Nat} {L0 : Lp} (hl : σ.loops[l]? = some L0) {lp : Loop} {L : Lp} (hL : LpOk C X σ w lp L) :
    Ext X X σ { σ with loops := σ.loops.set l L } w (putObj w (X.loop l) (.loop lp)) ∧ Inv C X { σ with loops := σ.loops.set l L } (putObj w (X.loop l) (.loop lp)) := by
  have hllt := lt_of_some hl
  obtain ⟨k0, lp0, k1, _⟩ := H.loop l L0 hl
  have hlt : X.loop l < w.heap.size := H.owned_lt (owned_loop hllt)
  have hother : ∀ g, g ≠ X.loop l → (putObj w (X.loop l) (.loop lp)).heap[g]? = w.heap[g]? := fun g hg => putObj_other hg
  have hget : ∀ (i : Nat) (x : Lp), i ≠ l → ((σ.loops.set l L)[i]? = some x ↔ σ.loops[i]? = some x) := fun i x hic => by rw [List.getElem?_set_ne (Ne.symm hic)]
  have E : Ext X X σ { σ with loops := σ.loops.set l L } w (putObj w (X.loop l) (.loop lp)) :=
    { n0 := rfl
      grew := ⟨(fun g j hf => by
          by_cases hg : g = X.loop l
          · subst hg
            simp only [World.cell?, putObj_same hlt, k1]
          · simp only [World.cell?, hother g hg]), (fun r es' c hM hw => by
          refine (hother r fun e => ?_).trans hw
          subst e
          rw [k1] at hw
          cases hw), fun _ _ h => h, fun _ h => h⟩
      box := fun _ _ => rfl
      boxes := fun b cs h => ⟨cs, h⟩
      chains := fun c n s h => ⟨n, h, Nat.le_refl _, fun _ => rfl⟩
      map := fun _ _ => rfl
      maps := Nat.le_refl _
      loop := fun _ _ => rfl
      loops := by simp
      size := by rw [putObj_size]; exact Nat.le_refl _
      owned := fun g hg ho => by
        rcases ho with h | h | h | ⟨i, hi, rfl⟩
        · exact .inl h
        · exact .inr (.inl h)
        · exact .inr (.inr (.inl h))
        · exact owned_loop (by simpa using hi)
      kept := fun g _ hno => hother g fun e => hno (e ▸ owned_loop hllt)
      os := rfl
      tape := rfl
      output := rfl
      newF := fun _ _ h => .inl h
      freshF := fun _ _ h => .inl h
      newM := fun _ h => .inl h }
  have hcells : ∀ g, (∃ arr' T fr, w.heap[g]? = some (.cells arr' T fr)) → g ≠ X.loop l := by
    rintro g ⟨arr', T, fr, hg⟩ e
    rw [e, k1] at hg
    cases hg
  refine ⟨E, ?_⟩
  exact
    { base := by rw [putObj_size]; exact H.base
      F := fun g o h => by rw [putObj_size]; exact H.F g o h
      M := fun r h => by rw [putObj_size]; exact H.M r h
      box := fun b cs hb' => by
        have hB := H.box b cs hb'
        refine hB.keep E.toKeeps rfl (lt_of_some hb') (hother _ (hcells _ ?_)) (fun o h => h) rfl
        obtain ⟨_, a', T', hw, _⟩ := hB
        exact ⟨a', T', _, hw⟩
      boxInj := H.boxInj
      chain := fun c n s hc' => by
        have hB := H.chain c n s hc'
        refine hB.keep rfl rfl (hother _ (hcells _ ?_)) (fun o h => h)
        obtain ⟨_, _, _, a', T', hw, _⟩ := hB
        exact ⟨a', T', _, hw⟩
      tipInj := H.tipInj
      tipBox := H.tipBox
      map := fun m es hm => by
        have hB := H.map m es hm
        refine hB.keep E.toKeeps rfl (lt_of_some hm) (hother _ fun e => ?_) (fun h => h) rfl
        obtain ⟨_, a', hw, _⟩ := hB
        rw [e, k1] at hw
        cases hw
      mapInj := H.mapInj
      loop := fun i L' hi => by
        by_cases hil : i = l
        · subst hil
          simp only [List.getElem?_set, hllt, if_true, Option.some.injEq] at hi
          subst hi
          obtain ⟨h1, h2, h3, h4, h5, h6⟩ := hL
          exact ⟨k0, lp, putObj_same hlt, h1, h2.keep E.toKeeps, h3, h4, h5, h6⟩
        · have h' := (hget i L' hil).1 hi
          exact (H.loop i L' h').keep E.toKeeps rfl (lt_of_some h') (hother _ fun e => hil (H.loopInj i l (lt_of_some h') hllt e))
      loopInj := fun i j hi hj h => H.loopInj i j (by simpa using hi) (by simpa using hj) h
      ro := H.ro
      mro := H.mro
      glob := fun g cs' hg => (H.glob g cs' hg).mono E.grew }

theorem Inv.loopAt (H : Inv C X σ w) {l : Nat} {L : Lp} (hl : σ.loops[l]? = some L) : ∃ lp : Loop, w.heap[X.loop l]? = some (.loop lp) ∧ LpOk C X σ w lp L := by
  obtain ⟨_, lp, h1, h2, h3, h4, h5, h6, h7⟩ := H.loop l L hl
  exact ⟨lp, h1, h2, h3, h4, h5, h6, h7⟩

/-! ### The machine's own steps on a record -/
theorem run_getLoop {P : Program} {r : Nat} {lp : Loop} (h : w.heap[r]? = some (.loop lp)) : (Instr.getLoop r).run P w = .ok lp w := by simp [Instr.getLoop, getObj, Sem.run, h]
theorem run_putLoop {P : Program} {r : Nat} {lp lp' : Loop} (h : w.heap[r]? = some (.loop lp)) : (setObj r (.loop lp')).run P w = .ok () (putObj w r (.loop lp')) := by simp [setObj, Sem.run, h, putObj]
theorem run_beginRound {P : Program} {r : Nat} {lp : Loop} (h : w.heap[r]? = some (.loop lp)) (hs : lp.state = .ready) : (Instr.beginRound r).run P w = .ok () (putObj w r (.loop { lp with state := .busy })) := by
  simp only [Instr.beginRound, Sem.run_bind, run_getLoop h, Result.andThen_ok, run_putLoop h, hs, Sem.run_pure]
theorem run_endRound {P : Program} {r : Nat} {lp : Loop} (h : w.heap[r]? = some (.loop lp)) (j : Option Code) : (Instr.endRound r j).run P w = .ok (.bool j.isNone) (putObj w r (.loop { lp with state := if j.isNone then .ready else .done, pending := j })) := by
  simp only [Instr.endRound, Sem.run_bind, run_getLoop h, Result.andThen_ok, run_putLoop h, Sem.run_pure]
theorem run_endLoop {P : Program} {r : Nat} {lp : Loop} (h : w.heap[r]? = some (.loop lp)) (hs : lp.state ≠ .busy) : (Instr.endLoop r).run P w = .ok lp.pending (putObj w r (.loop { lp with state := .exhausted })) := by
  simp only [Instr.endLoop, Sem.run_bind, run_getLoop h, Result.andThen_ok]
  rw [if_neg (by simpa using hs)]
  simp only [Sem.run_bind, run_putLoop h, Result.andThen_ok, Sem.run_pure]
theorem run_takeDeferred {P : Program} {r : Nat} {ds : List Deferred} (h : w.heap[r]? = some (.deferred (some ds))) : (Instr.takeDeferred r).run P w = .ok ds (putObj w r (.deferred none)) := by
  simp [Instr.takeDeferred, getObj, setObj, Sem.run, h, putObj]
end
end Go.Ai

set_option linter.unusedVariables false
set_option linter.unusedSimpArgs false
namespace Go.Ai

/-! ### Marks -/
def mark (r : Nat) : Deferred := { target := .collected r, args := #[] }

/-- The blocks of the outermost ranges over functions, among an activation's deferred calls. -/
def MarksOk (X : Ctx) (σ : St) (w : World) (lo : Nat) (ds : List Deferred) : Prop :=
  ∃ rs : List Nat, ds = rs.map mark ∧ rs.Nodup ∧ ∀ r ∈ rs, lo ≤ r ∧ ¬ Owned X σ r ∧ w.heap[r]? = some (.deferred (some []))

section
variable {C : Cfg} {X X' : Ctx} {σ σ' : St} {w w' : World}
theorem MarksOk.nil {lo : Nat} : MarksOk X σ w lo [] := ⟨[], rfl, List.nodup_nil, fun r h => by cases h⟩
theorem MarksOk.mono {lo : Nat} {ds : List Deferred} (h : MarksOk X σ w lo ds) (E : Ext X X' σ σ' w w') : MarksOk X' σ' w' lo ds := by
  obtain ⟨rs, h1, h2, h3⟩ := h
  refine ⟨rs, h1, h2, fun r hr => ?_⟩
  obtain ⟨h4, h5, h6⟩ := h3 r hr
  exact ⟨h4, fun ho => h5 (E.owned r (size_of_some h6) ho), (E.kept r (size_of_some h6) h5).trans h6⟩

/-- Where a round's frame lies. -/
def RoOk (X : Ctx) (σ : St) : Option Nat → Prop
  | none => True
  | some g => ∃ l, l < σ.loops.length ∧ X.loop l = g
theorem RoOk.mono {ro : Option Nat} (h : RoOk X σ ro) (E : Ext X X' σ σ' w w') : RoOk X' σ' ro := by
  cases ro with
  | none => trivial
  | some g =>
    obtain ⟨l, h1, h2⟩ := h
    exact ⟨l, Nat.lt_of_lt_of_le h1 E.loops, (E.loop l h1).trans h2⟩

def exitOf : Ex → Exit
  | .nm => .normal
  | .ex id => .exit id
  | .rt => .ret

/-- The widest fence; in a round's frame, it may be. -/
def FW (ro : Option Nat) : Fence := { Fence.wide with round := ro }

/-- What a run of the interpreter says about the code. -/
def CodeSim (C : Cfg) (R : Rec) : Prop :=
  ∀ (f : FuncId) (c : Code) (mc : MC) (e e' : Env) (σ σ' : St) (x : Ex), compC C f c = some mc → R f mc e σ = some (x, e', σ') →
    ∀ (X : Ctx) (w : World) (a : Act) (ro : Option Nat) (lo : Nat) (Q : Exit → Act → World → Prop), Inv C X σ w → Reps X σ w a.tmps.toList e → MarksOk X σ w lo a.defers → lo ≤ w.heap.size → RoOk X σ ro →
      (∀ (X' : Ctx) (w' : World) (a' : Act), Ext X X' σ σ' w w' → Inv C X' σ' w' → Reps X' σ' w' a'.tmps.toList e' → MarksOk X' σ' w' lo a'.defers → Q (exitOf x) a' w') → c.wpIn (FW ro) 0 C.P Q a w

/-! ### A function's results -/
theorem rets_sim (H : Inv C X σ w) {P : Program} {tmps : Array Value} {e : Env} (E : Reps X σ w tmps.toList e) : ∀ (rs : List ResultVar) (qs : List (Tmp × Option (Option Nat))) (vs : List AV),
    (rs.mapM fun (r : ResultVar) => (match r with | .tmp t => some (t, none) | .cell a t => (tyA P t).map fun y => (a, some (partN y)) : Option (Tmp × Option (Option Nat)))) = some qs → retsA e σ qs = some vs →
    ∃ us, (rs.mapM (m := Sem) fun r => (match r with | .tmp t => pure (tmps.getD t undef) | .cell a t => do loadVar t (← asAddr (tmps.getD a undef)))).run P w = .ok us w ∧ Reps X σ w us vs
  | [], qs, vs, hq, hv => by
    simp only [List.mapM_nil, Option.pure_def, Option.some.injEq] at hq
    subst hq
    simp only [retsA, Option.some.injEq] at hv
    subst hv
    exact ⟨[], by simp, rfl, fun i v a h => by simp at h⟩
  | r :: rs, qs, vs, hq, hv => by
    simp only [List.mapM_cons, Option.bind_eq_bind, Option.bind_eq_some_iff, Option.pure_def, Option.some.injEq] at hq
    obtain ⟨q, hq0, qs', hqs, rfl⟩ := hq
    simp only [retsA, Option.bind_eq_some_iff, Option.map_eq_some_iff] at hv
    obtain ⟨v, hv0, vs', hvs, rfl⟩ := hv
    obtain ⟨us, h1, h2⟩ := rets_sim H E rs qs' vs' hqs hvs
    have hd : ∃ u, ((match r with | .tmp t => pure (tmps.getD t undef) | .cell a t => do loadVar t (← asAddr (tmps.getD a undef)) : Sem Value)).run P w = .ok u w ∧ Rep X σ w u v := by
      cases r with
      | tmp t =>
        simp only [Option.some.injEq] at hq0
        subst hq0
        simp only [Option.some.injEq] at hv0
        subst hv0
        exact ⟨_, rfl, E.get t⟩
      | cell ad t =>
        simp only [Option.map_eq_some_iff] at hq0
        obtain ⟨y, hy, rfl⟩ := hq0
        simp only at hv0
        obtain ⟨p, u, h3, h4, h5⟩ := loadA_sim H (tyA_of hy) (E.get ad) hv0
        exact ⟨u, by simp only [Sem.run_bind, h3, asAddr, Sem.run_pure, Result.andThen_ok, h4], h5⟩
    obtain ⟨u, h3, h4⟩ := hd
    refine ⟨u :: us, ?_, by simp [h2.1], fun i v' a hv ha => ?_⟩
    · simp only [List.mapM_cons, Sem.run_bind, h3, Result.andThen_ok, h1, Sem.run_pure]
    · cases i with
      | zero =>
        simp only [List.getElem?_cons_zero, Option.some.injEq] at hv ha
        subst hv ha
        exact h4
      | succ i => exact h2.2 i v' a (by simpa using hv) (by simpa using ha)

theorem ret_sim (H : Inv C X σ w) {P : Program} {fn : Func} {tmps : Array Value} {e : Env} (E : Reps X σ w tmps.toList e) {qs : List (Tmp × Option (Option Nat))} {r : AV}
    (hq : (fn.results.toList.mapM fun (r : ResultVar) => (match r with | .tmp t => some (t, none) | .cell a t => (tyA P t).map fun y => (a, some (partN y)) : Option (Tmp × Option (Option Nat)))) = some qs) (hr : retA qs e σ = some r) :
    ∃ v, (results fn tmps).run P w = .ok v w ∧ Rep X σ w v r := by
  simp only [retA, Option.map_eq_some_iff] at hr
  obtain ⟨vs, hvs, rfl⟩ := hr
  obtain ⟨us, h1, h2⟩ := rets_sim H E _ _ _ hq hvs
  have hrun : (results fn tmps).run P w = .ok (if h : us.toArray.size = 1 then us.toArray[0] else .tuple us.toArray) w := by
    simp only [results, Array.mapM_eq_mapM_toList, Sem.run_bind, Sem.run_map, map_eq_pure_bind]
    erw [h1]
    rfl
  refine ⟨_, hrun, ?_⟩
  match us, vs, h2 with
  | [u], [v], h2 => simpa using h2.2 0 u v rfl rfl
  | [], [], h2 => exact .tup _ _ rfl (fun i v c h => by simp at h)
  | u :: u' :: us, v :: v' :: vs, h2 => exact .tup _ _ (by simpa using h2.1) (fun i x c hx hc => h2.2 i x c (by simpa using hx) hc)
  | [], _ :: _, h2 => simp [Reps] at h2
  | [_], [], h2 => simp [Reps] at h2
  | [_], _ :: _ :: _, h2 => simp [Reps] at h2
  | _ :: _ :: _, [], h2 => simp [Reps] at h2
  | _ :: _ :: _, [_], h2 => simp [Reps] at h2

/-! ### A function's end -/
theorem keeps_put {r : Nat} {ds ds' : Option (List Deferred)} (h : w.heap[r]? = some (.deferred ds)) : Keeps X X σ σ w (putObj w r (.deferred ds')) :=
  ⟨grew_put h, fun _ _ => rfl, fun b cs h => ⟨cs, h⟩, fun c n s h => ⟨n, h, Nat.le_refl _, fun _ => rfl⟩, fun _ _ => rfl, Nat.le_refl _, fun _ _ => rfl, Nat.le_refl _⟩

theorem leaves_marks {ro : Option Nat} {fn : Func} {tmps : Array Value} {e : Env} {K : Ending → World → Prop} {r : AV} {qs : List (Tmp × Option (Option Nat))} {P : Program}
    (hq : (fn.results.toList.mapM fun (r : ResultVar) => (match r with | .tmp t => some (t, none) | .cell a t => (tyA P t).map fun y => (a, some (partN y)) : Option (Tmp × Option (Option Nat)))) = some qs) (hr : retA qs e σ' = some r)
    (hK : ∀ w'' v, Ext X X' σ σ' w w'' → Inv C X' σ' w'' → Rep X' σ' w'' v r → K (.returned v) w'') :
    ∀ (rs : List Nat) (w' : World), rs.Nodup → (∀ r ∈ rs, w.heap.size ≤ r ∧ ¬ Owned X' σ' r ∧ w'.heap[r]? = some (.deferred (some []))) → Ext X X' σ σ' w w' → Inv C X' σ' w' → Reps X' σ' w' tmps.toList e →
    LeavesInM (FW ro) 0 P fn tmps K (rs.map mark) .returning w'
  | [], w', _, _, E, H, ER => by
    obtain ⟨v, h1, h2⟩ := ret_sim H ER hq hr
    exact ⟨v, h1, hK w' v E H h2⟩
  | r :: rs, w', hn, hrs, E, H, ER => by
    obtain ⟨h1, h2, h3⟩ := hrs r (by simp)
    have hn := List.nodup_cons.1 hn
    refine ⟨by simp, .inl ⟨r, _, rfl, run_takeDeferred h3, ?_⟩⟩
    refine leaves_marks hq hr hK rs _ hn.2 (fun k hk => ?_) (E.put h1 h3) (H.put h3 h2) (ER.keep (keeps_put h3))
    obtain ⟨k1, k2, k3⟩ := hrs k (by simp [hk])
    exact ⟨k1, k2, (putObj_other (by intro e; subst e; exact hn.1 hk)).trans k3⟩

/-! ### A function's body -/
theorem body_sim {R : Rec} (S : CodeSim C R) {f : FuncId} {vs : Array Value} {args : List AV} {r : AV} (h : bodyA C R f args σ = some (r, σ')) (H : Inv C X σ w) (hv : Reps X σ w vs.toList args) {K : Ending → World → Prop}
    (hK : ∀ X' w' v, Ext X X' σ σ' w w' → Inv C X' σ' w' → Rep X' σ' w' v r → K (.returned v) w') (ro : Option Nat) : CallsIn (FW ro) 0 C.P f vs w K := by
  simp only [bodyA, Option.bind_eq_some_iff] at h
  obtain ⟨mf, hf, h⟩ := h
  simp only [compF, Option.bind_eq_some_iff, Option.map_eq_some_iff] at hf
  obtain ⟨fn, hfn, c, hc, mc, hmc, qs, hq, rfl⟩ := hf
  have hend : ∃ x e', R f mc (args ++ List.replicate (fn.ntmps - args.length) .undef) σ = some (x, e', σ') ∧ (x = .nm ∨ x = .rt) ∧ retA qs e' σ' = some r := by
    revert h
    simp only
    cases hR : R f mc (args ++ List.replicate (fn.ntmps - args.length) .undef) σ with
    | none => intro h; cases h
    | some o =>
      obtain ⟨x, e', σ''⟩ := o
      cases x with
      | ex id => intro h; cases h
      | nm =>
        intro h
        simp only [endA, Option.map_eq_some_iff, Prod.mk.injEq] at h
        obtain ⟨v, hv, rfl, rfl⟩ := h
        exact ⟨_, _, rfl, .inl rfl, hv⟩
      | rt =>
        intro h
        simp only [endA, Option.map_eq_some_iff, Prod.mk.injEq] at h
        obtain ⟨v, hv, rfl, rfl⟩ := h
        exact ⟨_, _, rfl, .inr rfl, hv⟩
  obtain ⟨x, e', hR, hx, hret⟩ := hend
  have hargs : vs.size = args.length := by simpa using hv.1
  show CallsIn (FW none) 0 C.P f vs w K
  refine callsIn_of_wp_marks hfn hc trivial ?_ rfl
  refine S f c mc _ e' σ σ' x hmc hR X w _ none w.heap.size _ H ⟨by simp [hargs], fun i v a' h1 h2 => ?_⟩ .nil (Nat.le_refl _) trivial ?_
  · simp only [Array.toList_append, Array.toList_replicate] at h1
    rcases Nat.lt_or_ge i args.length with hlt | hge
    · rw [List.getElem?_append_left (by simpa [hargs] using hlt)] at h1
      rw [List.getElem?_append_left hlt] at h2
      exact hv.2 i v a' h1 h2
    · rw [List.getElem?_append_right (by simpa [hargs] using hge)] at h1
      rw [List.getElem?_append_right hge] at h2
      have h1 := List.mem_of_getElem? h1
      have h2 := List.mem_of_getElem? h2
      rw [List.mem_replicate] at h1 h2
      rw [h1.2, h2.2]
      exact .pure .undef
  · intro X' w' a' E H' ER hm
    obtain ⟨rs, m1, m2, m3⟩ := hm
    have key := leaves_marks (ro := none) (X := X) (σ := σ) (w := w) hq hret (fun w'' v E'' H'' hv'' => hK X' w'' v E'' H'' hv'') rs w' m2 (fun r hr => m3 r hr) E H' ER
    rcases hx with rfl | rfl
    · show LeavesInM (FW none) 0 C.P fn a'.tmps K a'.defers .returning w'
      rw [m1]; exact key
    · show LeavesInM (FW none) 0 C.P fn a'.tmps K a'.defers .returning w'
      rw [m1]; exact key
end
end Go.Ai

set_option linter.unusedVariables false
set_option linter.unusedSimpArgs false
namespace Go.Ai
section
variable {C : Cfg} {X X' : Ctx} {σ σ' : St} {w w' : World}

theorem mask_reps {vs : List Value} {e : Env} (h : Reps X σ w vs e) (k : Option (List Tmp)) : Reps X σ w vs (mask k e) := by
  cases k with
  | none => exact h
  | some ks =>
    have key : ∀ (ks : List Tmp) (a : Env), Reps X σ w vs a → Reps X σ w vs (ks.foldl (fun a k => a.set k (e.getD k .any)) a) := by
      intro ks
      induction ks with
      | nil => exact fun a ha => ha
      | cons k ks ih =>
        intro a ha
        refine ih _ ⟨by simp [ha.1], fun i v c hv hc => ?_⟩
        rw [List.getElem?_set] at hc
        split at hc
        · rename_i hki
          subst hki
          split at hc
          · simp only [Option.some.injEq] at hc
            subst hc
            have hlt : k < e.length := by
              have h1 : k < vs.length := lt_of_some hv
              have h2 : vs.length = e.length := h.1
              exact h2 ▸ h1
            have he : e[k]? = some (e.getD k .any) := by rw [List.getD_eq_getElem?_getD, List.getElem?_eq_getElem hlt]; rfl
            exact h.2 k v _ hv he
          · cases hc
        · exact ha.2 i v c hv hc
    refine key ks _ ⟨by simp [h.1], fun i v c hv hc => ?_⟩
    have := List.mem_of_getElem? hc
    rw [List.mem_replicate] at this
    rw [this.2]
    exact .pure (.any v)

theorem take_some {α : Type} {l : List α} {n i : Nat} {x : α} (h : (l.take n)[i]? = some x) : i < n ∧ l[i]? = some x := by
  rw [List.getElem?_take] at h
  split at h
  · rename_i hlt; exact ⟨hlt, h⟩
  · cases h
theorem some_take {α : Type} {l : List α} {n i : Nat} {x : α} (hi : i < n) (h : l[i]? = some x) : (l.take n)[i]? = some x := by rw [List.getElem?_take, if_pos hi]; exact h

theorem under_rep (nc : Nat) (hnc : nc ≤ σ'.chains.length) : ∀ (d : Nat) {v : Value} {a : AV}, Rep X σ' w v a → under σ.boxes.length nc σ.maps.length σ.loops.length d a = true → Rep X (cutAt nc σ σ') w v a
  | 0, _, _, _, h => by simp [under] at h
  | d + 1, v, a, r, h => by
    cases r with
    | pure p => exact .pure p
    | agg vs cs hl hr =>
      simp only [under] at h
      exact .agg vs cs hl fun i v c hv hc => under_rep nc hnc d (hr i v c hv hc) (List.all_eq_true.1 h c (List.mem_of_getElem? hc))
    | tup vs cs hl hr =>
      simp only [under] at h
      exact .tup vs cs hl fun i v c hv hc => under_rep nc hnc d (hr i v c hv hc) (List.all_eq_true.1 h c (List.mem_of_getElem? hc))
    | fn f vs us a b h1 h2 h3 h4 =>
      simp only [under, Bool.and_eq_true] at h
      exact .fn f vs us a b h1 h2 (fun i v c hv hc => under_rep nc hnc d (h3 i v c hv hc) (List.all_eq_true.1 h.1 c (List.mem_of_getElem? hc))) (fun i v c hv hc => under_rep nc hnc d (h4 i v c hv hc) (List.all_eq_true.1 h.2 c (List.mem_of_getElem? hc)))
    | chain g cap sz es c n s hn hle ht p =>
      simp only [under, decide_eq_true_eq] at h
      exact .chain g cap sz es c n s (some_take h hn) hle ht p
    | wsl b off n cap sz ag cs hb hf hn hag =>
      simp only [under, decide_eq_true_eq] at h
      exact .wsl b off n cap sz ag cs (some_take h hb) hf hn hag
    | mp m hm =>
      simp only [under, decide_eq_true_eq] at h
      exact .mp m (by simp [cutAt]; omega)
    | yld l hl =>
      simp only [under, decide_eq_true_eq] at h
      exact .yld l (by simp [cutAt]; omega)
    | box b off hb =>
      simp only [under, decide_eq_true_eq] at h
      exact .box b off (by simp [cutAt]; omega)

theorem underL_rep {nc : Nat} (hnc : nc ≤ σ'.chains.length) {d : Nat} {as : List AV} (h : as.all (under σ.boxes.length nc σ.maps.length σ.loops.length d) = true) {i : Nat} {v : Value} {a : AV} (ha : as[i]? = some a) (r : Rep X σ' w v a) : Rep X (cutAt nc σ σ') w v a :=
  under_rep nc hnc d r (List.all_eq_true.1 h a (List.mem_of_getElem? ha))

theorem owned_cut {nc : Nat} {g : Nat} (h : Owned X (cutAt nc σ σ') g) : Owned X σ' g := by
  rcases h with ⟨b, hb, h⟩ | ⟨b, hb, h⟩ | ⟨b, hb, h⟩ | ⟨b, hb, h⟩ <;> simp only [cutAt, List.length_take] at hb
  · exact .inl ⟨b, by omega, h⟩
  · exact .inr (.inl ⟨b, by omega, h⟩)
  · exact .inr (.inr (.inl ⟨b, by omega, h⟩))
  · exact .inr (.inr (.inr ⟨b, by omega, h⟩))

theorem marks_cut {nc : Nat} {lo : Nat} {ds : List Deferred} (h : MarksOk X σ' w lo ds) : MarksOk X (cutAt nc σ σ') w lo ds := by
  obtain ⟨rs, h1, h2, h3⟩ := h
  exact ⟨rs, h1, h2, fun r hr => ⟨(h3 r hr).1, fun ho => (h3 r hr).2.1 (owned_cut ho), (h3 r hr).2.2⟩⟩

/-- Forgetting is sound. -/
theorem cutAt_sim {nc : Nat} (hn1 : σ.chains.length ≤ nc) (hn2 : nc ≤ σ'.chains.length) (E : Ext X X' σ σ' w w') (H : Inv C X' σ' w') {vs : List Value} {e : Env} (hv : Reps X' σ' w' vs e) (hd : dryAt nc σ σ' e = true) :
    Ext X X' σ (cutAt nc σ σ') w w' ∧ Inv C X' (cutAt nc σ σ') w' ∧ Reps X' (cutAt nc σ σ') w' vs e ∧ ∀ lo ds, MarksOk X' σ' w' lo ds → MarksOk X' (cutAt nc σ σ') w' lo ds := by
  simp only [dryAt, Bool.and_eq_true] at hd
  obtain ⟨⟨⟨d1, d2⟩, d3⟩, d4⟩ := hd
  have hb := E.boxes_le
  have hc := E.chains_le
  have E' : Ext X X' σ (cutAt nc σ σ') w w' :=
    { n0 := E.n0
      grew := E.grew
      box := E.box
      boxes := fun b cs h => by
        obtain ⟨cs', h1⟩ := E.boxes b cs h
        exact ⟨cs', some_take (lt_of_some h) h1⟩
      chains := fun c n s h => by
        obtain ⟨n', h1, h2⟩ := E.chains c n s h
        exact ⟨n', some_take (Nat.lt_of_lt_of_le (lt_of_some h) hn1) h1, h2⟩
      map := E.map
      maps := by have := E.maps; simp [cutAt]; omega
      loop := E.loop
      loops := by have := E.loops; simp [cutAt]; omega
      size := E.size
      owned := fun g hg ho => E.owned g hg (owned_cut ho)
      kept := E.kept
      os := E.os
      tape := E.tape
      output := E.output
      newF := E.newF
      freshF := E.freshF
      newM := E.newM }
  refine ⟨E', ?_, ⟨hv.1, fun i v a h1 h2 => underL_rep hn2 d1 h2 (hv.2 i v a h1 h2)⟩, fun lo ds h => marks_cut h⟩
  exact
    { base := H.base
      F := H.F
      M := H.M
      box := fun b cs h => by
        obtain ⟨hlt, h'⟩ := take_some h
        obtain ⟨h1, arr, T, h2, h3, h4, h5, h6, h7⟩ := H.box b cs h'
        have hu := List.all_eq_true.1 d2 cs (List.mem_of_getElem? h)
        refine ⟨h1, arr, T, h2, h3, h4, fun j v c hv hc => underL_rep hn2 hu hc (h5 j v c hv hc), fun hro => h6 ?_, fun hro => h7 ?_⟩
        · simp only [cutAt] at hro; omega
        · simp only [cutAt] at hro; omega
      boxInj := fun b b' h h' k k' => H.boxInj b b' (by simp [cutAt] at h; omega) (by simp [cutAt] at h'; omega) (fun e => k (some_take (by simp [cutAt] at h; omega) e)) (fun e => k' (some_take (by simp [cutAt] at h'; omega) e))
      chain := fun c n s h => H.chain c n s (take_some h).2
      tipInj := fun c c' h h' => H.tipInj c c' (by simp [cutAt] at h; omega) (by simp [cutAt] at h'; omega)
      tipBox := fun c b h h' => H.tipBox c b (by simp [cutAt] at h; omega) (by simp [cutAt] at h'; omega)
      map := fun m es h => by
        obtain ⟨hlt, h'⟩ := take_some h
        obtain ⟨h1, arr, h2, h3, h4, h5, h6, h7, h8, h9⟩ := H.map m es h'
        have hu := List.all_eq_true.1 d3 es (List.mem_of_getElem? h)
        simp only [Bool.and_eq_true] at hu
        refine ⟨h1, arr, h2, h3, h4, h5, fun i en k he hk => underL_rep hn2 hu.1 hk (h6 i en k he hk), fun i en v he hv => underL_rep hn2 hu.2 hv (h7 i en v he hv), fun hro => h8 ?_, fun hro => h9 ?_⟩
        · simp only [cutAt] at hro; omega
        · simp only [cutAt] at hro; omega
      mapInj := fun c c' h h' => H.mapInj c c' (by simp [cutAt] at h; omega) (by simp [cutAt] at h'; omega)
      loop := fun l L h => by
        obtain ⟨hlt, h'⟩ := take_some h
        obtain ⟨h1, lp, h2, h3, h4, h5⟩ := H.loop l L h'
        have hu := List.all_eq_true.1 d4 L (List.mem_of_getElem? h)
        exact ⟨h1, lp, h2, h3, ⟨h4.1, fun i v a g1 g2 => underL_rep hn2 hu g2 (h4.2 i v a g1 g2)⟩, h5⟩
      loopInj := fun c c' h h' => H.loopInj c c' (by simp [cutAt] at h; omega) (by simp [cutAt] at h'; omega)
      ro := by have := H.ro; simp [cutAt]; omega
      mro := by have := H.mro; have := E.maps; simp [cutAt]; omega
      glob := H.glob }


theorem cut_sim (E : Ext X X' σ σ' w w') (H : Inv C X' σ' w') {vs : List Value} {e : Env} (hv : Reps X' σ' w' vs e) : Ext X X' σ (cut σ σ' e) w w' ∧ Inv C X' (cut σ σ' e) w' ∧ Reps X' (cut σ σ' e) w' vs e ∧ ∀ lo ds, MarksOk X' σ' w' lo ds → MarksOk X' (cut σ σ' e) w' lo ds := by
  unfold cut
  split
  · rename_i hd
    exact cutAt_sim (Nat.le_refl _) E.chains_le E H hv hd
  · split
    · rename_i hd
      exact cutAt_sim E.chains_le (Nat.le_refl _) E H hv hd
    · exact ⟨E, H, hv, fun _ _ h => h⟩

theorem cutR_some {x : Option (AV × St)} {r : AV} (h : cutR σ x = some (r, σ')) : ∃ σ'', x = some (r, σ'') ∧ σ' = cut σ σ'' [r] := by
  cases x with
  | none => cases h
  | some q =>
    simp only [cutR, Option.some.injEq, Prod.mk.injEq] at h
    obtain ⟨rfl, rfl⟩ := h
    exact ⟨q.2, rfl, rfl⟩
theorem cut_one (E : Ext X X' σ σ' w w') (H : Inv C X' σ' w') {v : Value} {r : AV} (hr : Rep X' σ' w' v r) : Ext X X' σ (cut σ σ' [r]) w w' ∧ Inv C X' (cut σ σ' [r]) w' ∧ Rep X' (cut σ σ' [r]) w' v r := by
  obtain ⟨h1, h2, h3, _⟩ := cut_sim E H (vs := [v]) (e := [r]) ⟨rfl, fun i u a hu ha => by
    cases i with
    | zero => simp only [List.getElem?_cons_zero, Option.some.injEq] at hu ha; subst hu ha; exact hr
    | succ i => simp at hu⟩
  exact ⟨h1, h2, h3.2 0 v r rfl rfl⟩
end
end Go.Ai

set_option linter.unusedVariables false
set_option linter.unusedSimpArgs false
namespace Go.Ai
section
variable {C : Cfg} {X X' : Ctx} {σ σ' : St} {w w' : World}

/-- A value without references is told by no memory. -/
theorem fo_rep {w w' : World} {F F' : Nat → Nat → Prop} {M M' : Nat → Prop} : ∀ (d : Nat) {v : Value} {a : AV}, fo d a = true → PRep w F M v a → PRep w' F' M' v a
  | 0, _, _, h, _ => by simp [fo] at h
  | d + 1, v, a, h, r => by
    cases r with
    | any v => exact .any v
    | undef => exact .undef
    | int k n => exact .int k n
    | bool b => exact .bool b
    | str s => exact .str s
    | nilp => exact .nilp
    | nilm => exact .nilm
    | nilf => exact .nilf
    | nils => exact .nils
    | esl a => exact .esl a
    | agg vs cs hl hr =>
      simp only [fo] at h
      exact .agg vs cs hl fun i v c hv hc => fo_rep d (List.all_eq_true.1 h c (List.mem_of_getElem? hc)) (hr i v c hv hc)
    | tup vs cs hl hr =>
      simp only [fo] at h
      exact .tup vs cs hl fun i v c hv hc => fo_rep d (List.all_eq_true.1 h c (List.mem_of_getElem? hc)) (hr i v c hv hc)
    | _ => simp [fo] at h

theorem owned_none {X : Ctx} {g : Nat} : ¬ Owned X {} g := by
  rintro (⟨b, h, _⟩ | ⟨b, h, _⟩ | ⟨b, h, _⟩ | ⟨b, h, _⟩) <;> simp at h

/-- Where a callee's own things begin. -/
def callee (w : World) (F : Nat → Nat → Prop) (M : Nat → Prop) : Ctx := { n0 := w.heap.size, F := F, M := M, box := fun _ => (0, 0), tip := fun _ => (0, 0), map := fun _ => 0, loop := fun _ => 0 }

theorem inv_callee (H : Inv C X σ w) {F : Nat → Nat → Prop} {M : Nat → Prop} (G : Grew w w X.F F X.M M) (hF : ∀ g o, F g o → g < w.heap.size) (hM : ∀ r, M r → r < w.heap.size) : Inv C (callee w F M) {} w where
  base := Nat.le_refl _
  F := hF
  M := hM
  box b cs h := by simp at h
  boxInj b b' h := by simp at h
  chain c n s h := by simp at h
  tipInj c c' h := by simp at h
  tipBox c b h := by simp at h
  map m es h := by simp at h
  mapInj m m' h := by simp at h
  loop l L h := by simp at h
  loopInj l l' h := by simp at h
  ro := Nat.le_refl _
  mro := Nat.le_refl _
  glob g cs h := (H.glob g cs h).mono G

theorem FB_lt (H : Inv C X σ w) {g o : Nat} (h : FB X σ g o) : g < w.heap.size := by
  rcases h with h | ⟨b, cs, hb, rfl, _⟩
  · exact H.F g o h
  · exact H.owned_lt (owned_box (lt_of_some hb))
theorem MB_lt (H : Inv C X σ w) {r : Nat} (h : MB X σ r) : r < w.heap.size := by
  rcases h with h | ⟨m, hm, rfl⟩
  · exact H.M r h
  · exact H.owned_lt (owned_map hm)
theorem FB_new (H : Inv C X σ w) {g o : Nat} (h : FB X σ g o) : X.F g o ∨ X.n0 ≤ g := by
  rcases h with h | ⟨b, cs, hb, rfl, _⟩
  · exact .inl h
  · exact .inr (H.owned_base (owned_box (lt_of_some hb)))
theorem MB_new (H : Inv C X σ w) {r : Nat} (h : MB X σ r) : X.M r ∨ X.n0 ≤ r := by
  rcases h with h | ⟨m, hm, rfl⟩
  · exact .inl h
  · exact .inr (H.owned_base (owned_map hm))

/-- What a call by values leaves behind: the caller's own is as it was. F: what is frozen now. -/
structure Back (X : Ctx) (σ : St) (w w1 : World) : Prop where
  size : w.heap.size ≤ w1.heap.size
  kept : ∀ g, g < w.heap.size → w1.heap[g]? = w.heap[g]?
  os : w1.os = w.os
  tape : w1.tape = w.tape
  output : w1.output = w.output

theorem cell_same {w w' : World} {g o : Nat} (h : w'.heap[g]? = w.heap[g]?) : w'.cell? ⟨g, o, none⟩ = w.cell? ⟨g, o, none⟩ := by simp only [World.cell?, h]

/-- The same state; more is frozen. -/
theorem back_same (H : Inv C X σ w) {w1 : World} (B : Back X σ w w1) {F : Nat → Nat → Prop} {M : Nat → Prop} (hF : ∀ g o, X.F g o → F g o) (hM : ∀ r, X.M r → M r) (hF' : ∀ g o, F g o → X.F g o ∨ w.heap.size ≤ g) (hM' : ∀ r, M r → X.M r ∨ w.heap.size ≤ r)
    (hFs : ∀ g o, F g o → g < w1.heap.size) (hMs : ∀ r, M r → r < w1.heap.size) : Ext X { X with F := F, M := M } σ σ w w1 ∧ Inv C { X with F := F, M := M } σ w1 := by
  have E : Ext X { X with F := F, M := M } σ σ w w1 :=
    { n0 := rfl
      grew := ⟨fun g o h => cell_same (B.kept g (H.F g o h)), fun r es c h hw => (B.kept r (H.M r h)).trans hw, hF, hM⟩
      box := fun _ _ => rfl
      boxes := fun b cs h => ⟨cs, h⟩
      chains := fun c n s h => ⟨n, h, Nat.le_refl _, fun _ => rfl⟩
      map := fun _ _ => rfl
      maps := Nat.le_refl _
      loop := fun _ _ => rfl
      loops := Nat.le_refl _
      size := B.size
      owned := fun _ _ h => h
      kept := fun g hg _ => B.kept g hg
      os := B.os
      tape := B.tape
      output := B.output
      newF := fun g o h => (hF' g o h).imp id fun h => Nat.le_trans H.base h
      freshF := fun g o h => (hF' g o h).imp id .inr
      newM := fun r h => (hM' r h).imp id fun h => Nat.le_trans H.base h }
  exact ⟨E, H.same' E.toKeeps rfl B.size (fun g hg => B.kept g (H.owned_lt hg)) rfl rfl rfl rfl (fun g o hg h => (hF' g o h).resolve_right (Nat.not_le.2 (H.owned_lt hg))) (fun g hg h => (hM' g h).resolve_right (Nat.not_le.2 (H.owned_lt hg))) hFs hMs⟩

/-- All of the call's own variables and maps are frozen from now on. -/
theorem back_ro (H : Inv C X σ w) {w1 : World} (B : Back X σ w w1) {F : Nat → Nat → Prop} {M : Nat → Prop} (hF : ∀ g o, FB X σ g o → F g o) (hM : ∀ r, MB X σ r → M r) (hF' : ∀ g o, F g o → FB X σ g o ∨ w.heap.size ≤ g) (hM' : ∀ r, M r → MB X σ r ∨ w.heap.size ≤ r)
    (hFs : ∀ g o, F g o → g < w1.heap.size) (hMs : ∀ r, M r → r < w1.heap.size) : Ext X { X with F := F, M := M } σ { σ with ro := σ.boxes.length, mro := σ.maps.length } w w1 ∧ Inv C { X with F := F, M := M } { σ with ro := σ.boxes.length, mro := σ.maps.length } w1 := by
  have E : Ext X { X with F := F, M := M } σ { σ with ro := σ.boxes.length, mro := σ.maps.length } w w1 :=
    { n0 := rfl
      grew := ⟨fun g o h => cell_same (B.kept g (H.F g o h)), fun r es c h hw => (B.kept r (H.M r h)).trans hw, fun g o h => hF g o (.inl h), fun r h => hM r (.inl h)⟩
      box := fun _ _ => rfl
      boxes := fun b cs h => ⟨cs, h⟩
      chains := fun c n s h => ⟨n, h, Nat.le_refl _, fun _ => rfl⟩
      map := fun _ _ => rfl
      maps := Nat.le_refl _
      loop := fun _ _ => rfl
      loops := Nat.le_refl _
      size := B.size
      owned := fun _ _ h => h
      kept := fun g hg _ => B.kept g hg
      os := B.os
      tape := B.tape
      output := B.output
      newF := fun g o h => by
        rcases hF' g o h with h | h
        · exact FB_new H h
        · exact .inr (Nat.le_trans H.base h)
      freshF := fun g o h => by
        rcases hF' g o h with (h | ⟨b, cs, hb, rfl, _⟩) | h
        · exact .inl h
        · exact .inr (.inl (owned_box (lt_of_some hb)))
        · exact .inr (.inr h)
      newM := fun r h => by
        rcases hM' r h with h | h
        · exact MB_new H h
        · exact .inr (Nat.le_trans H.base h) }
  refine ⟨E, ?_⟩
  exact
    { base := Nat.le_trans H.base B.size
      F := hFs
      M := hMs
      box := fun b cs hb => by
        have hlt := lt_of_some hb
        obtain ⟨h1, arr, T, h2, h3, h4, h5, _⟩ := H.box b cs hb
        exact ⟨h1, arr, T, (B.kept _ (H.owned_lt (owned_box hlt))).trans h2, h3, h4, fun j v c hv hc => (h5 j v c hv hc).keep E.toKeeps, fun hro => absurd hlt (Nat.not_lt.2 hro), fun _ o ho => hF _ _ (.inr ⟨b, cs, hb, rfl, ho⟩)⟩
      boxInj := H.boxInj
      chain := fun c n s hc => by
        have hlt := lt_of_some hc
        refine (H.chain c n s hc).keep rfl rfl (B.kept _ (H.owned_lt (owned_tip hlt))) fun o h => ?_
        rcases hF' _ o h with h | h
        · rcases h with h | ⟨b, cs, hb, he, _⟩
          · exact h
          · exact absurd he.symm (H.tipBox c b hlt (lt_of_some hb))
        · exact absurd (H.owned_lt (owned_tip hlt)) (Nat.not_lt.2 h)
      tipInj := H.tipInj
      tipBox := H.tipBox
      map := fun m es hm => by
        have hlt := lt_of_some hm
        obtain ⟨h1, arr, h2, h3, h4, h5, h6, h7, _⟩ := H.map m es hm
        exact ⟨h1, arr, (B.kept _ (H.owned_lt (owned_map hlt))).trans h2, h3, h4, h5, fun i e k he hk => (h6 i e k he hk).keep E.toKeeps, fun i e v he hv => (h7 i e v he hv).keep E.toKeeps, fun hro => absurd hlt (Nat.not_lt.2 hro), fun _ => hM _ (.inr ⟨m, hlt, rfl⟩)⟩
      mapInj := H.mapInj
      loop := fun l L hl => (H.loop l L hl).keep E.toKeeps rfl (lt_of_some hl) (B.kept _ (H.owned_lt (owned_loop (lt_of_some hl))))
      loopInj := H.loopInj
      ro := Nat.le_refl _
      mro := Nat.le_refl _
      glob := fun g cs hg => (H.glob g cs hg).mono E.grew }

/-- A call that is told by values alone. -/
theorem pure_sim {R : Rec} (S : CodeSim C R) {f : FuncId} {vs : Array Value} {args pargs : List AV} {t d : Bool} {r r' : AV} (hp : purAll (pur σ depth) args = some (pargs, t)) (h : pureA C R f pargs = some r) (hb : backA σ d t (some r) = some (r', σ'))
    (H : Inv C X σ w) (hv : Reps X σ w vs.toList args) {K : Ending → World → Prop} (hK : ∀ X' w' v, Ext X X' σ σ' w w' → Inv C X' σ' w' → Rep X' σ' w' v r' → K (.returned v) w') (ro : Option Nat) : CallsIn (FW ro) 0 C.P f vs w K := by
  simp only [pureA] at h
  cases hbody : bodyA C R f pargs {} with
  | none => rw [hbody] at h; cases h
  | some q =>
    obtain ⟨r1, σ1⟩ := q
    rw [hbody] at h
    simp only [purR, Option.map_eq_some_iff] at h
    obtain ⟨⟨r2, t1⟩, hpur, rfl⟩ := h
    obtain ⟨p1, p2⟩ := purAll_spec hp
    have p1 : pargs.length = args.length := p1
    -- what comes back
    have back : ∀ (F : Nat → Nat → Prop) (M : Nat → Prop) {X1 : Ctx} {w1 : World} {v : Value}, Ext (callee w F M) X1 {} σ1 w w1 → Inv C X1 σ1 w1 → Rep X1 σ1 w1 v r1 →
        Back X σ w w1 ∧ PRep w1 (FB X1 σ1) (MB X1 σ1) v r2 ∧ (∀ g o, F g o → FB X1 σ1 g o) ∧ (∀ r, M r → MB X1 σ1 r) ∧ (∀ g o, FB X1 σ1 g o → F g o ∨ w.heap.size ≤ g) ∧ (∀ r, MB X1 σ1 r → M r ∨ w.heap.size ≤ r) := by
      intro F M X1 w1 v E1 H1 hr
      refine ⟨⟨E1.size, fun g hg => E1.kept g hg owned_none, E1.os, E1.tape, E1.output⟩, (pur_rep H1 depth hr hpur).1, fun g o h => .inl (E1.grew.F g o h), fun r h => .inl (E1.grew.M r h), fun g o h => ?_, fun r h => ?_⟩
      · rcases FB_new H1 h with h | h
        · exact E1.newF g o h
        · rw [E1.n0] at h; exact .inr h
      · rcases MB_new H1 h with h | h
        · exact E1.newM r h
        · rw [E1.n0] at h; exact .inr h
    simp only [backA] at hb
    cases t with
    | false =>
      simp only [Bool.false_eq_true, if_false, Option.some.injEq, Prod.mk.injEq] at hb
      obtain ⟨rfl, rfl⟩ := hb
      refine body_sim S hbody (inv_callee H (.refl ..) H.F H.M) (X := callee w X.F X.M) ⟨by rw [hv.1]; exact p1.symm, fun i v c h1 h2 => ?_⟩ (fun X1 w1 v E1 H1 hr => ?_) ro
      · obtain ⟨a', ha'⟩ := some_of_lt (l := args) (i := i) (by have := lt_of_some h2; omega)
        obtain ⟨t', e1, e2⟩ := p2 i a' c ha' h2
        exact .pure ((pur_rep H depth (hv.2 i v a' h1 ha') e1).2 (e2 rfl))
      · obtain ⟨B, hpr, b1, b2, b3, b4⟩ := back _ _ E1 H1 hr
        obtain ⟨E, HI⟩ := back_same H B b1 b2 b3 b4 (fun g o h => FB_lt H1 h) (fun r h => MB_lt H1 h)
        exact hK _ w1 v E HI (.pure hpr)
    | true =>
      simp only [if_true] at hb
      cases d with
      | true => simp at hb
      | false =>
        simp only [Bool.false_eq_true, if_false, Option.some.injEq, Prod.mk.injEq] at hb
        obtain ⟨rfl, rfl⟩ := hb
        refine body_sim S hbody (inv_callee H (grew_FB X σ w) (fun g o h => FB_lt H h) (fun r h => MB_lt H h)) (X := callee w (FB X σ) (MB X σ)) ⟨by rw [hv.1]; exact p1.symm, fun i v c h1 h2 => ?_⟩ (fun X1 w1 v E1 H1 hr => ?_) ro
        · obtain ⟨a', ha'⟩ := some_of_lt (l := args) (i := i) (by have := lt_of_some h2; omega)
          obtain ⟨t', e1, e2⟩ := p2 i a' c ha' h2
          exact .pure (pur_rep H depth (hv.2 i v a' h1 ha') e1).1
        · obtain ⟨B, hpr, b1, b2, b3, b4⟩ := back _ _ E1 H1 hr
          cases hfo : fo depth r2 with
          | true =>
            simp only [hfo, if_true] at hK
            obtain ⟨E, HI⟩ := back_same H B (F := X.F) (M := X.M) (fun _ _ h => h) (fun _ h => h) (fun _ _ h => .inl h) (fun _ h => .inl h) (fun g o h => Nat.lt_of_lt_of_le (H.F g o h) B.size) (fun r h => Nat.lt_of_lt_of_le (H.M r h) B.size)
            exact hK _ w1 v E HI (.pure (fo_rep depth hfo hpr))
          | false =>
            simp only [hfo, Bool.false_eq_true, if_false] at hK
            obtain ⟨E, HI⟩ := back_ro H B b1 b2 b3 b4 (fun g o h => FB_lt H1 h) (fun r h => MB_lt H1 h)
            exact hK _ w1 v E HI (.pure hpr)
end
end Go.Ai

set_option linter.unusedVariables false
set_option linter.unusedSimpArgs false
namespace Go.Ai
/-! The library's sort of whole numbers, by its contract. -/
/-- What a function says that sorts whole numbers. -/
def SortAt (P : Program) (f : FuncId) : Prop := (∃ fn c, P.funcs[f]? = some fn ∧ fn.body = some c) ∧
  ∀ (blk off cap : Nat) (zs : List Int) (w : World), Go.Sort.Holds (Value.int .i64) w blk off zs.toArray → blk < w.heap.size → zs.length < 4611686018427387904 →
    Calls P f #[.slice (some ⟨blk, off, none⟩) zs.length cap] w fun e w' => e = .returned (.tuple #[]) ∧ ∃ n os, w' = Go.Sort.grow (Go.Sort.putRow (Value.int .i64) (Go.Sort.ahead w n) blk off (zs.mergeSort fun x y => decide (x ≤ y)).toArray) os
def SortOk (C : Cfg) : Prop := ∀ f, C.srt f = true → SortAt C.P f
section
variable {C : Cfg} {X X' : Ctx} {σ σ' : St} {w w' : World}
theorem intsOf_get : ∀ {cs : List AV} {zs : List Int}, intsOf cs = some zs → zs.length = cs.length ∧ ∀ (j : Nat) (z : Int), zs[j]? = some z → cs[j]? = some (.int .i64 z)
  | [], zs, h => by
    simp only [intsOf, Option.some.injEq] at h
    subst h
    exact ⟨rfl, fun j z h => by simp at h⟩
  | c :: cs, zs, h => by
    cases c with
    | int k n =>
      cases k with
      | i64 =>
        simp only [intsOf, Option.map_eq_some_iff] at h
        obtain ⟨ys, hy, rfl⟩ := h
        obtain ⟨h1, h2⟩ := intsOf_get hy
        refine ⟨by simp [h1], fun j z hz => ?_⟩
        cases j with
        | zero => simp only [List.getElem?_cons_zero, Option.some.injEq] at hz ⊢; rw [hz]
        | succ j => simp only [List.getElem?_cons_succ] at hz ⊢; exact h2 j z hz
      | _ => simp [intsOf] at h
    | _ => simp [intsOf] at h
theorem sort_sim {f : FuncId} (hS : SortAt C.P f) {vs : Array Value} {args : List AV} {r : AV} (h : sortA σ args = some (r, σ')) (H : Inv C X σ w) (hv : Reps X σ w vs.toList args) {K : Ending → World → Prop}
    (hK : ∀ X' w' v, Ext X X' σ σ' w w' → Inv C X' σ' w' → Rep X' σ' w' v r → K (.returned v) w') (ro : Option Nat) : CallsIn (FW ro) 0 C.P f vs w K := by
  unfold sortA at h
  split at h
  case h_2 => cases h
  rename_i b n
  simp only [Option.bind_eq_some_iff] at h
  obtain ⟨cs, hcs, zs, hzs, h⟩ := h
  split at h
  case isFalse => cases h
  rename_i hc
  obtain ⟨hc1, hc2, hc3⟩ := hc
  simp only [Option.some.injEq, Prod.mk.injEq] at h
  obtain ⟨rfl, rfl⟩ := h
  obtain ⟨v, rfl⟩ : ∃ v, vs = #[v] := by
    have h1 := hv.1
    simp only [Array.length_toList, List.length_cons, List.length_nil] at h1
    exact ⟨vs[0], by
      apply Array.ext
      · simpa using h1
      · intro i hi hi'
        have : i = 0 := by simp at hi'; omega
        subst this; rfl⟩
  have hv0 : Rep X σ w v (.wsl b 0 n 1 false) := hv.2 0 v _ rfl rfl
  cases hv0 with
  | pure p => cases p
  | wsl _ _ _ cap _ _ cs' hb hf hn hag =>
  obtain ⟨i1, i2⟩ := intsOf_get hzs
  obtain ⟨hn0, arr, T, hw, hsz, hcell1, hrep, hF1, hF2⟩ := H.box b cs hcs
  have hg : (X.box b).1 < w.heap.size := (Array.getElem?_eq_some_iff.1 hw).1
  have harr : ∀ (j : Nat) (z : Int), zs[j]? = some z → arr[j]? = some (.int .i64 z) := fun j z hz => by
    have hcz := i2 j z hz
    have hj := lt_of_some hcz
    obtain ⟨u, hu⟩ := some_of_size (l := arr) (i := j) (by omega)
    rw [hu, (hrep j u _ hu hcz).intV]
  have hH : Go.Sort.Holds (Value.int .i64) w (X.box b).1 0 zs.toArray := fun j hj => by
    have hj' : j < zs.length := by simpa using hj
    have hz := harr j zs[j] (List.getElem?_eq_getElem hj')
    refine ⟨?_, ?_⟩
    · rw [Nat.zero_add, cell_at hw hz]
      simp [hj']
    · simp [World.frozen?, hw]
  subst hc1
  have hcall := hS.2 (X.box b).1 0 cap zs w hH hg hc3
  refine (callsIn_wide (n := 0)).2 (hcall.mono ?_)
  rintro e w' ⟨rfl, nd, os, rfl⟩
  have hsl : (zs.mergeSort fun x y => decide (x ≤ y)).length = zs.length := List.length_mergeSort _
  obtain ⟨ss, hss⟩ : ∃ ss, ss = zs.mergeSort fun x y => decide (x ≤ y) := ⟨_, rfl⟩
  rw [← hss] at hsl hK ⊢
  obtain ⟨E1, H1⟩ := set_box H hcs hc2 (off := 0) (vs := ss.map (Value.int .i64)) (ds := ss.map I) (by simp) (by simp; omega) (by simp [List.all_eq_true, AV.isCell])
    (fun j v c hv hc => by
      simp only [List.getElem?_map, Option.map_eq_some_iff] at hv hc
      obtain ⟨z, hz, rfl⟩ := hv
      obtain ⟨z', hz', rfl⟩ := hc
      rw [hz] at hz'
      cases hz'
      exact .pure (.int ..)) hw
  have hset : setAt cs 0 (ss.map I) = ss.map I := by
    simp [setAt, hsl, i1]
  rw [hset] at E1 H1
  obtain ⟨w1, hw1⟩ : ∃ w1, w1 = w.setRow (X.box b).1 (arr.toList.take 0 ++ ss.map (Value.int .i64) ++ arr.toList.drop (0 + (ss.map (Value.int .i64)).length)).toArray := ⟨_, rfl⟩
  rw [← hw1] at E1 H1
  have hput : Go.Sort.putCells (Value.int .i64) 0 ss.toArray arr = (arr.toList.take 0 ++ ss.map (Value.int .i64) ++ arr.toList.drop (0 + (ss.map (Value.int .i64)).length)).toArray := by
    apply Array.ext
    · simp [Go.Sort.putCells]; omega
    · intro i hi hi'
      simp only [Go.Sort.putCells, Array.getElem_mapIdx, List.size_toArray, Nat.zero_add, Nat.zero_le, true_and, Nat.sub_zero, List.take_zero, List.nil_append, List.length_map, List.getElem_toArray]
      by_cases hlt : i < ss.length
      · rw [if_pos hlt, List.getElem_append_left (by simpa using hlt)]
        simp [hlt]
      · rw [if_neg hlt, List.getElem_append_right (by simpa using Nat.le_of_not_lt hlt)]
        simp only [List.length_map, List.getElem_drop, Array.getElem_toList]
        congr 1
        omega
  have B : Back X { σ with boxes := σ.boxes.set b (ss.map I) } w1 (Go.Sort.grow (Go.Sort.putRow (Value.int .i64) (Go.Sort.ahead w nd) (X.box b).1 0 ss.toArray) os) := by
    have hs1 : w1.heap.size = w.heap.size := by rw [hw1]; simp [World.setRow]
    refine ⟨?_, ?_, ?_, ?_, ?_⟩
    · rw [hs1]; simp [Go.Sort.grow, Go.Sort.putRow, Go.Sort.mapBlock, Go.Sort.ahead]
    · intro k hk
      rw [hs1] at hk
      have e1 : (Go.Sort.grow (Go.Sort.putRow (Value.int .i64) (Go.Sort.ahead w nd) (X.box b).1 0 ss.toArray) os).heap[k]? = (w.heap.modify (X.box b).1 (Go.Sort.onCells (Go.Sort.putCells (Value.int .i64) 0 ss.toArray)))[k]? := by
        simp only [Go.Sort.grow, Go.Sort.putRow, Go.Sort.mapBlock, Go.Sort.ahead]
        rw [Array.getElem?_append_left (by simpa using hk)]
      rw [e1, Array.getElem?_modify]
      by_cases hkb : (X.box b).1 = k
      · subst hkb
        rw [if_pos rfl, hw]
        simp only [Option.map_some, Go.Sort.onCells, hput, hw1]
        rw [setRow_heap w _ arr _ T _ hw]
      · rw [if_neg hkb, hw1, setRow_other w _ k _ (fun e => hkb e.symm)]
    · rw [hw1]; rfl
    · rw [hw1]; rfl
    · rw [hw1]; rfl
  obtain ⟨E2, H2⟩ := back_same H1 B (F := X.F) (M := X.M) (fun _ _ h => h) (fun _ h => h) (fun _ _ h => .inl h) (fun _ h => .inl h) (fun g o h => Nat.lt_of_lt_of_le (H1.F g o h) B.size) (fun r h => Nat.lt_of_lt_of_le (H1.M r h) B.size)
  exact hK _ _ _ (E1.trans E2) H2 (.tup _ _ rfl fun i v c hv => by simp at hv)
end
end Go.Ai

set_option linter.unusedVariables false
set_option linter.unusedSimpArgs false
namespace Go.Ai
section
variable {C : Cfg} {X X' : Ctx} {σ σ' : St} {w w' : World}

theorem Rep.fnV {v : Value} {f : Fn} {a b : List AV} (h : Rep X σ w v (.fn f a b)) : ∃ vs us : Array Value, v = .func f vs us ∧ Reps X σ w vs.toList a ∧ Reps X σ w us.toList b := by
  cases h with
  | pure p =>
    cases p with
    | fn f vs us a b h1 h2 h3 h4 => exact ⟨vs, us, rfl, ⟨by simpa using h1, fun i v c hv hc => .pure (h3 i v c (by simpa using hv) hc)⟩, ⟨by simpa using h2, fun i v c hv hc => .pure (h4 i v c (by simpa using hv) hc)⟩⟩
  | fn f vs us a b h1 h2 h3 h4 => exact ⟨vs, us, rfl, ⟨by simpa using h1, fun i v c hv hc => h3 i v c (by simpa using hv) hc⟩, ⟨by simpa using h2, fun i v c hv hc => h4 i v c (by simpa using hv) hc⟩⟩

theorem Rep.yldV {v : Value} {l : Nat} (h : Rep X σ w v (.yld l)) : v = .func (.yield (X.loop l)) #[] #[] ∧ l < σ.loops.length := by
  cases h with
  | pure p => cases p
  | yld _ hl => exact ⟨rfl, hl⟩

theorem Reps.append {us vs : List Value} {as bs : List AV} (h : Reps X σ w us as) (k : Reps X σ w vs bs) : Reps X σ w (us ++ vs) (as ++ bs) := by
  have hl := h.1
  refine ⟨by simp [h.1, k.1], fun i v c hv hc => ?_⟩
  rcases Nat.lt_or_ge i as.length with hlt | hge
  · rw [List.getElem?_append_left (by omega)] at hv
    rw [List.getElem?_append_left hlt] at hc
    exact h.2 i v c hv hc
  · rw [List.getElem?_append_right (by omega)] at hv
    rw [List.getElem?_append_right hge] at hc
    exact k.2 (i - as.length) v c (by rw [← hl]; exact hv) hc

theorem Reps.set {vs : List Value} {as : List AV} (h : Reps X σ w vs as) {i : Nat} {v : Value} {c : AV} (hv : Rep X σ w v c) : Reps X σ w (vs.set i v) (as.set i c) := by
  refine ⟨by simp [h.1], fun j v' c' hv' hc' => ?_⟩
  rw [List.getElem?_set] at hv' hc'
  by_cases hij : i = j
  · subst hij
    simp only [if_true] at hv' hc'
    split at hv'
    · split at hc'
      · cases hv'; cases hc'; exact hv
      · cases hc'
    · cases hv'
  · rw [if_neg hij] at hv' hc'
    exact h.2 j v' c' hv' hc'

theorem Reps.fold : ∀ (ps : List Tmp) (vs : List Value) (as : List AV) (tmps : Array Value) (e : Env), Reps X σ w vs as → Reps X σ w tmps.toList e →
    Reps X σ w ((ps.zip vs).foldl (fun (tmps : Array Value) (p : Tmp × Value) => tmps.setIfInBounds p.1 p.2) tmps).toList ((ps.zip as).foldl (fun (e : Env) (p : Tmp × AV) => e.set p.1 p.2) e)
  | [], _, _, _, _, _, h => by simpa using h
  | p :: ps, [], [], _, _, _, h => by simpa using h
  | p :: ps, [], _ :: _, _, _, h, _ => by simp [Reps] at h
  | p :: ps, _ :: _, [], _, _, h, _ => by simp [Reps] at h
  | p :: ps, v :: vs, a :: as, tmps, e, h, ht => by
    simp only [List.zip_cons_cons, List.foldl_cons]
    refine Reps.fold ps vs as _ _ ⟨by simpa using h.1, fun i v c hv hc => h.2 (i + 1) v c (by simpa using hv) (by simpa using hc)⟩ ?_
    rw [Array.toList_setIfInBounds]
    exact ht.set (h.2 0 v a rfl rfl)

/-- A loop's record, with another state. -/
theorem put_loop (H : Inv C X σ w) {l : Nat} {L : Lp} (hl : σ.loops[l]? = some L) :
    ∃ lp : Loop, w.heap[X.loop l]? = some (.loop lp) ∧ lp.state = L.st ∧ pendRep C L.f lp.pending L.pend ∧ ∀ (st : LoopState) (pc : Option Code) (pm : Option MC), pendRep C L.f pc pm →
      Ext X X σ { σ with loops := σ.loops.set l { L with st := st, pend := pm } } w (putObj w (X.loop l) (.loop { lp with state := st, pending := pc })) ∧
      Inv C X { σ with loops := σ.loops.set l { L with st := st, pend := pm } } (putObj w (X.loop l) (.loop { lp with state := st, pending := pc })) := by
  obtain ⟨lp, h1, h2, h3, h4, h5, h6, h7⟩ := H.loopAt hl
  exact ⟨lp, h1, h2, h7, fun st pc pm hp => set_loop H hl (lp := { lp with state := st, pending := pc }) (L := { L with st := st, pend := pm }) ⟨rfl, h3, h4, h5, h6, hp⟩⟩

/-- A round, called by 'yield'. -/
theorem round_sim {R : Rec} (S : CodeSim C R) {l : Nat} {vs : Array Value} {args : List AV} {r : AV} (h : roundA R l args σ = some (r, σ')) (H : Inv C X σ w) (hv : Reps X σ w vs.toList args) {K : Ending → World → Prop}
    (hK : ∀ X' w' v, Ext X X' σ σ' w w' → Inv C X' σ' w' → Rep X' σ' w' v r → K (.returned v) w') (ro : Option Nat) :
    ∃ lf tmps asg body, (Instr.yield (X.loop l) vs).run C.P w = .ok (.round (X.loop l) lf tmps asg body) w ∧ RoundIn (FW ro) 0 C.P (X.loop l) lf tmps asg body w K := by
  unfold roundA at h
  split at h
  case h_2 => cases h
  rename_i L hl
  split at h
  case isFalse => cases h
  rename_i hlen
  obtain ⟨σ'', hx, rfl⟩ := cutR_some h
  clear h
  have h := hx
  clear hx
  have hK : ∀ X' w' v, Ext X X' σ σ'' w w' → Inv C X' σ'' w' → Rep X' σ'' w' v r → K (.returned v) w' := fun X' w' v E' H' hr => by
    obtain ⟨g1, g2, g3⟩ := cut_one E' H' hr
    exact hK X' w' v g1 g2 g3
  obtain ⟨lp, hlp, k1, k2, k3, k4, k5, k6⟩ := H.loopAt hl
  have hps : lp.params.size = vs.size := by
    have h1 := hv.1
    have h2 : lp.params.toList.length = L.ps.length := by rw [k3]
    simp at h1 h2
    omega
  have hllt := lt_of_some hl
  -- the assignments
  unfold innerA at h
  split at h
  case h_2 => cases h
  rename_i e1 σ1 hR1
  unfold busyA at h
  split at h
  case h_2 => cases h
  rename_i L1 hl1
  split at h
  case isFalse => cases h
  rename_i hready
  simp only [bodyRun] at h
  refine ⟨lp.fn, (lp.params.zip vs).foldl (fun tmps (p : Tmp × Value) => tmps.setIfInBounds p.1 p.2) lp.tmps, lp.assign, lp.body, ?_, ?_⟩
  · simp only [Instr.yield, Sem.run_bind, run_getLoop hlp, Result.andThen_ok]
    rw [if_neg (by simp; omega)]
    rfl
  refine roundIn_of_wpIn trivial ?_
  refine S L.f lp.assign L.asg _ e1 σ σ1 .nm k4 hR1 X w _ (some (X.loop l)) w.heap.size _ H ?_ .nil (Nat.le_refl _) ⟨l, hllt, rfl⟩ ?_
  · have := Reps.fold L.ps vs.toList args lp.tmps L.env hv k2
    rw [← k3] at this
    have hz : (lp.params.zip vs).foldl (fun tmps (p : Tmp × Value) => tmps.setIfInBounds p.1 p.2) lp.tmps = (lp.params.toList.zip vs.toList).foldl (fun tmps (p : Tmp × Value) => tmps.setIfInBounds p.1 p.2) lp.tmps := by
      rw [← Array.foldl_toList, Array.toList_zip]
    show Reps X σ w ((lp.params.zip vs).foldl (fun tmps (p : Tmp × Value) => tmps.setIfInBounds p.1 p.2) lp.tmps).toList _
    rw [hz, ← k3]
    exact this
  intro X1 w1 a1 E1 H1 ER1 m1
  show ∃ w₂, _ ∧ _
  have hx1 : X1.loop l = X.loop l := E1.loop l hllt
  obtain ⟨lp1, g1, g2, g3, hput⟩ := put_loop H1 hl1
  obtain ⟨E2, H2⟩ := hput .busy lp1.pending L1.pend g3
  rw [hx1] at g1 E2 H2
  refine ⟨_, run_beginRound g1 (g2.trans hready), ?_⟩
  have E12 := E1.trans E2
  cases hR2 : R L.f L.body e1 { σ1 with loops := σ1.loops.set l { L1 with st := .busy, pend := L1.pend } } with
  | none => rw [hR2] at h; cases h
  | some o =>
    obtain ⟨x, e2, σ2⟩ := o
    rw [hR2] at h
    refine S L.f lp.body L.body e1 e2 _ σ2 x k5 hR2 X1 _ a1 (some (X.loop l)) w.heap.size _ H2 (ER1.mono E2) (m1.mono E2) E12.size (RoOk.mono ⟨l, hllt, rfl⟩ E12) ?_
    intro X2 w2 a2 E3 H3 ER2 m2
    have E13 := E12.trans E3
    have hx2 : X2.loop l = X.loop l := E13.loop l hllt
    have fin : ∀ (st : LoopState) (pc : Option Code) (pm : Option MC) (b : Bool), (∀ f, pendRep C f pc pm) → putLoop l (fun L => { L with st := st, pend := pm }) (.bool b) σ2 = some (r, σ'') →
        (if pc.isNone then LoopState.ready else .done) = st → pc.isNone = b → ∃ v w', (Instr.endRound (X.loop l) pc).run C.P w2 = .ok v w' ∧ K (.returned v) w' := by
      intro st pc pm b hp hput' hst hb
      simp only [putLoop, Option.map_eq_some_iff, Prod.mk.injEq] at hput'
      obtain ⟨L2, hl2, rfl, rfl⟩ := hput'
      obtain ⟨lp2, q1, q2, q3, hput2⟩ := put_loop H3 hl2
      obtain ⟨E4, H4⟩ := hput2 st pc pm (hp _)
      rw [hx2] at q1 E4 H4
      refine ⟨_, _, run_endRound q1 pc, ?_⟩
      rw [hst, hb]
      exact hK X2 _ _ (E13.trans E4) H4 (.pure (.bool b))
    cases x with
    | nm => exact fin .ready none none true (fun _ => trivial) h rfl rfl
    | rt => exact fin .done (some .ret) (some .ret) false (fun _ => rfl) h rfl rfl
    | ex id => exact fin .done (some (.exit id)) (some (.exit id)) false (fun _ => rfl) h rfl rfl
end
end Go.Ai

set_option linter.unusedVariables false
set_option linter.unusedSimpArgs false
namespace Go.Ai

/-- No function of the program counts the machine's threads. -/
def NoNum (P : Program) : Prop := ∀ (f : FuncId) (fn : Func), P.funcs[f]? = some fn → (fn.name == "runtime.NumGoroutine") = false

/-- What is asked of a program. -/
structure Sound (C : Cfg) : Prop where
  num : NoNum C.P
  srt : SortOk C

section
variable {C : Cfg} {X X' : Ctx} {σ σ' : St} {w w' : World}

theorem run_callFunc {P : Program} (hN : NoNum P) {f : FuncId} {fn : Func} {c : Code} (hf : P.funcs[f]? = some fn) (hb : fn.body = some c) (args : Array Value) : (callFunc f args).run P w = .ok (.enter f args) w := by
  simp only [callFunc, Sem.run_bind, run_program, Result.andThen_ok, hf, hN f fn hf, Bool.false_eq_true, if_false, hb, Option.isNone_some, Sem.run_pure]

theorem body_some {R : Rec} {f : FuncId} {args : List AV} {r : AV × St} (h : bodyA C R f args σ = some r) : ∃ fn c, C.P.funcs[f]? = some fn ∧ fn.body = some c := by
  simp only [bodyA, Option.bind_eq_some_iff] at h
  obtain ⟨mf, hf, _⟩ := h
  simp only [compF, Option.bind_eq_some_iff, Option.map_eq_some_iff] at hf
  obtain ⟨fn, hfn, c, hc, _⟩ := hf
  exact ⟨fn, c, hfn, hc⟩
theorem pure_some {R : Rec} {f : FuncId} {args : List AV} {r : AV} (h : pureA C R f args = some r) : ∃ fn c, C.P.funcs[f]? = some fn ∧ fn.body = some c := by
  simp only [pureA] at h
  cases hbody : bodyA C R f args {} with
  | none => rw [hbody] at h; cases h
  | some q => exact body_some hbody

/-- What a call that has been resolved comes to. -/
def Called (C : Cfg) (ro : Option Nat) (w : World) (s : Sem Next) (K : Ending → World → Prop) : Prop :=
  (∃ f args, s.run C.P w = .ok (.enter f args) w ∧ CallsIn (FW ro) 0 C.P f args w K) ∨
  (∃ l lf tmps asg body, s.run C.P w = .ok (.round l lf tmps asg body) w ∧ RoundIn (FW ro) 0 C.P l lf tmps asg body w K)

theorem call_fn {R : Rec} (S : CodeSim C R) (hN : Sound C) {d : Bool} {g : AV} (hfn : isFn g = true) {gv : Value} {args : List AV} {vs : Array Value} {r : AV} (h : callA C R d g args σ = some (r, σ')) (H : Inv C X σ w) (hg : Rep X σ w gv g) (hv : Reps X σ w vs.toList args) {K : Ending → World → Prop}
    (hK : ∀ X' w' v, Ext X X' σ σ' w w' → Inv C X' σ' w' → Rep X' σ' w' v r → K (.returned v) w') (ro : Option Nat) :
    ∃ fd d, (∀ w, (Deferred.ofValue gv vs).run C.P w = .ok d w) ∧ ∃ args, (invoke d.target d.args).run C.P w = .ok (.enter fd args) w ∧ CallsIn (FW ro) 0 C.P fd args w K := by
  unfold callA at h
  split at h
  · rename_i f first cap
    obtain ⟨us, cs, rfl, hf, hc⟩ := hg.fnV
    have hall : Reps X σ w (us ++ vs ++ cs).toList (first ++ args ++ cap) := by simpa using (hf.append hv).append hc
    have hrun : ∀ {fn c}, C.P.funcs[f]? = some fn → fn.body = some c → (invoke (.fn (.func f) cs) (us ++ vs)).run C.P w = .ok (.enter f (us ++ vs ++ cs)) w := by
      intro fn c h1 h2
      simp only [invoke, run_callFunc hN.num h1 h2]
    refine ⟨f, { target := .fn (.func f) cs, args := us ++ vs }, fun w => rfl, us ++ vs ++ cs, ?_⟩
    split at h
    · split at h
      · rename_i hs
        have hS := hN.srt f hs
        obtain ⟨⟨fn, c, h1, h2⟩, _⟩ := hS
        exact ⟨hrun h1 h2, sort_sim (hN.srt f hs) h H hall hK ro⟩
      · obtain ⟨σ'', hx, rfl⟩ := cutR_some h
        obtain ⟨fn, c, h1, h2⟩ := body_some hx
        refine ⟨hrun h1 h2, body_sim S hx H hall (fun X' w' v E' H' hr => ?_) ro⟩
        obtain ⟨g1, g2, g3⟩ := cut_one E' H' hr
        exact hK X' w' v g1 g2 g3
    · cases hp : purAll (pur σ depth) (first ++ args ++ cap) with
      | none => rw [hp] at h; cases h
      | some q =>
        obtain ⟨pargs, t⟩ := q
        rw [hp] at h
        simp only [pureCallA] at h
        cases hpu : pureA C R f pargs with
        | none => rw [hpu] at h; cases h
        | some u =>
          rw [hpu] at h
          obtain ⟨fn, c, h1, h2⟩ := pure_some hpu
          exact ⟨hrun h1 h2, pure_sim S hp hpu h H hall hK ro⟩
  · cases hfn
  · cases h

theorem call_sim {R : Rec} (S : CodeSim C R) (hN : Sound C) {d : Bool} {g : AV} {gv : Value} {args : List AV} {vs : Array Value} {r : AV} (h : callA C R d g args σ = some (r, σ')) (H : Inv C X σ w) (hg : Rep X σ w gv g) (hv : Reps X σ w vs.toList args) {K : Ending → World → Prop}
    (hK : ∀ X' w' v, Ext X X' σ σ' w w' → Inv C X' σ' w' → Rep X' σ' w' v r → K (.returned v) w') (ro : Option Nat) :
    Called C ro w (do let d ← Deferred.ofValue gv vs; invoke d.target d.args) K := by
  cases hfn : isFn g with
  | true =>
    obtain ⟨fd, d', h1, args', h2, h3⟩ := call_fn S hN hfn h H hg hv hK ro
    exact .inl ⟨fd, args', by simp only [Sem.run_bind, h1, Result.andThen_ok, h2], h3⟩
  | false =>
    unfold callA at h
    split at h
    · cases hfn
    · rename_i l
      obtain ⟨rfl, hl⟩ := hg.yldV
      obtain ⟨lf, tmps, asg, body, h1, h2⟩ := round_sim S h H hv hK ro
      refine .inr ⟨X.loop l, lf, tmps, asg, body, ?_, h2⟩
      simp only [Deferred.ofValue, Sem.run_bind, Sem.run_pure, Result.andThen_ok, invoke]
      simpa using h1
    · cases h

theorem about_FW {ro : Option Nat} {o : Oper} {P : Program} {w : World} {ρ : Operand → Value} : ∀ f, o.about P w ρ = some f → (FW ro).fn f := fun _ _ => trivial

theorem put_reps {a : Act} {e : Env} (E : Reps X σ w a.tmps.toList e) {dst : Option Tmp} {v : Value} {r : AV} (hv : Rep X σ w v r) : Reps X σ w (a.put dst v).tmps.toList (putA e dst r) := by
  cases dst with
  | none => exact E
  | some d =>
    show Reps X σ w (a.tmps.setIfInBounds d v).toList (e.set d r)
    rw [Array.toList_setIfInBounds]
    exact E.set hv
theorem put_defers {a : Act} {dst : Option Tmp} {v : Value} : (a.put dst v).defers = a.defers := by cases dst <;> rfl

/-- Is the operation wanted? -/
theorem wanted_sim {ops : Array Oper} {a : Act} {e : Env} (E : Reps X σ w a.tmps.toList e) {o : Oper} {b : Bool} (h : wantedA e (o.guard.map fun g => ((ops.toList[g.1]?).bind (·.dst), g.2)) = some b) : Region.wanted o (yielded ops a.tmps) = b := by
  unfold Region.wanted
  cases hg : o.guard with
  | none =>
    rw [hg] at h
    simp only [Option.map_none, wantedA, Option.some.injEq] at h
    exact h
  | some g =>
    obtain ⟨j, want⟩ := g
    rw [hg] at h
    simp only [Option.map_some, Array.getElem?_toList] at h
    simp only [yielded]
    cases hd : (ops[j]?).bind (·.dst) with
    | none =>
      rw [hd] at h
      simp only [wantedA, Option.some.injEq] at h
      rw [← h]
      simp
    | some d =>
      rw [hd] at h
      simp only [wantedA] at h
      simp only [Option.bind_some]
      have hr := E.get d
      rcases Nat.lt_or_ge d a.tmps.size with hlt | hge
      · have hgd : a.tmps.getD d undef = a.tmps[d] := by simp [Array.getD, hlt]
        rw [hgd] at hr
        rw [Array.getElem?_eq_getElem hlt]
        split at h
        · rename_i b' hb
          rw [hb] at hr
          simp only [Option.some.injEq] at h
          rw [hr.boolV, ← h]
          cases b' <;> cases want <;> rfl
        · rename_i hb
          rw [hb] at hr
          simp only [Option.some.injEq] at h
          have : a.tmps[d] = undef := by
            revert hr
            generalize a.tmps[d] = u
            intro hr
            cases hr with | pure p => cases p; rfl
          rw [this, ← h]
          rfl
        · cases h
      · have he : e.getD d .any = .any := by
          rw [List.getD_eq_getElem?_getD, List.getElem?_eq_none (by have := E.1; simp at this; omega)]; rfl
        rw [he] at h
        cases h

/-- What follows an operation. -/
def Goes (C : Cfg) (X : Ctx) (σ σ' : St) (w : World) (lo : Nat) (e' : Env) (K : Act → World → Prop) : Prop :=
  ∀ (X' : Ctx) (w' : World) (a' : Act), Ext X X' σ σ' w w' → Inv C X' σ' w' → Reps X' σ' w' a'.tmps.toList e' → MarksOk X' σ' w' lo a'.defers → K a' w'

theorem compOp_call {f : FuncId} {dst : Option Tmp} {op : Op} {g : Opd} {xs : List Opd} (h : compOp C f dst op = some (.call g xs)) : ∃ (c : Call) (gop : Operand), op = .call c ∧ c.callee = .value gop ∧ opdA C gop = some g ∧ opdsA C c.args = some xs := by
  have nob : ∀ {w b ts ys}, compBuiltin C w b ts ys ≠ some (.call g xs) := by
    intro w b ts ys hc
    unfold compBuiltin at hc
    repeat' first
      | (simp at hc; done)
      | (simp only [Option.bind_eq_some_iff] at hc; obtain ⟨_, _, hc⟩ := hc)
      | (obtain ⟨_, _, hc⟩ := hc)
      | split at hc
  cases op with
  | call c =>
    simp only [compOp, compCall] at h
    split at h
    · rename_i gop hcal
      simp only [Option.bind_eq_some_iff, Option.map_eq_some_iff, MOp.call.injEq] at h
      obtain ⟨g', hg, xs', hxs, rfl, rfl⟩ := h
      exact ⟨c, gop, rfl, hcal, hg, hxs⟩
    · exact absurd h nob
    · cases h
  | build | buildSlice | convert | slice | fieldAddr | field | indexAddr | index | lookup | alloc | makeSlice | mapUpdate | insert | mapEntry =>
    exfalso
    simp only [compOp, Option.bind_eq_some_iff] at h
    obtain ⟨_, _, h⟩ := h
    repeat' first
      | (simp at h; done)
      | (simp only [Option.bind_eq_some_iff] at h; obtain ⟨_, _, h⟩ := h)
      | (obtain ⟨_, _, h⟩ := h)
      | split at h
  | binOp =>
    exfalso
    simp only [compOp, compBin, Option.bind_eq_some_iff] at h
    obtain ⟨_, _, h⟩ := h
    repeat' first
      | (simp at h; done)
      | (simp only [Option.bind_eq_some_iff] at h; obtain ⟨_, _, h⟩ := h)
      | (obtain ⟨_, _, h⟩ := h)
      | split at h
  | unOp =>
    exfalso
    simp only [compOp] at h
    split at h <;> simp at h
  | makeMap _ x => cases x <;> simp [compOp] at h
  | _ => simp [compOp, Option.bind_eq_some_iff] at h

theorem one_put {R : Rec} (S : CodeSim C R) (hN : Sound C) {f : FuncId} {ops : Array Oper} {i : Nat} {o : Oper} {mo : MO} (ho : ops[i]? = some o) (hc : compO C f ops.toList o = some mo) {d : Bool} {e e' : Env} {a : Act} (h : oneA C R d mo e σ = some (e', σ'))
    (H : Inv C X σ w) (E : Reps X σ w a.tmps.toList e) {lo : Nat} (hm : MarksOk X σ w lo a.defers) {ro : Option Nat} {K : Act → World → Prop} {Q : Exit → Act → World → Prop} (hK : ∀ (X' : Ctx) (w' : World) (v : Value), Ext X X' σ σ' w w' → Inv C X' σ' w' → Reps X' σ' w' (a.put o.dst v).tmps.toList e' → MarksOk X' σ' w' lo (a.put o.dst v).defers → K (a.put o.dst v) w') : wpOpIn (FW ro) 0 C.P ops Q i K a w := by
  simp only [compO, Option.map_eq_some_iff] at hc
  obtain ⟨m, hc, rfl⟩ := hc
  unfold oneA at h
  split at h
  case h_2 => cases h
  rename_i b hb
  have hw := wanted_sim (ops := ops) E hb
  unfold wpOpIn
  simp only [ho]
  cases b with
  | false =>
    rw [if_neg (by rw [hw]; simp)]
    simp only [condA, Bool.false_eq_true, if_false, putR, Option.some.injEq, Prod.mk.injEq] at h
    obtain ⟨rfl, rfl⟩ := h
    exact ⟨about_FW, hK X w _ (.refl ..) H (put_reps E (.pure .undef)) (by rw [put_defers]; exact hm)⟩
  | true =>
    rw [if_pos hw]
    refine ⟨about_FW, ?_⟩
    have hsem : o.semAt (FW ro).round a.eval = execOp a.eval o := Oper.semAt_eq _ _ _ fun c hd => by rw [hd] at hc; simp [compOp] at hc
    rw [hsem]
    simp only [condA, if_true] at h
    cases hop : operA C R d e σ m with
    | none => rw [hop] at h; cases h
    | some q =>
      obtain ⟨r, σ''⟩ := q
      rw [hop] at h
      simp only [putR, Option.some.injEq, Prod.mk.injEq] at h
      obtain ⟨rfl, rfl⟩ := h
      by_cases hcall : ∃ g xs, m = .call g xs
      · obtain ⟨g, xs, rfl⟩ := hcall
        obtain ⟨c, gop, hoo, hcal, hg, hxs⟩ := compOp_call hc
        simp only [operA] at hop
        split at hop
        · cases hop
        have hgv := opdA_rep H E hg
        have hvs := opds_rep H E hxs
        have hK' : ∀ X' w' v, Ext X X' σ σ'' w w' → Inv C X' σ'' w' → Rep X' σ'' w' v r → K (a.put o.dst v) w' := fun X' w' v E' H' hr =>
          hK X' w' _ E' H' (put_reps (E.mono E') hr) (by rw [put_defers]; exact hm.mono E')
        have hcs := call_sim (K := fun | .returned v, w'' => K (a.put o.dst v) w'' | .panicked chain, w'' => Q (.panic chain) a w'' | .outgrown, _ => LetsOut Q) S hN hop H hgv hvs hK' ro
        have hrun : (execOp a.eval o).run C.P w = (do let d ← Deferred.ofValue (a.eval gop) (c.args.map a.eval); invoke d.target d.args : Sem Next).run C.P w := by
          simp only [execOp, hoo, resolve, hcal]
        rw [hrun]
        rcases hcs with ⟨f', args, h1, h2⟩ | ⟨l, lf, tmps, asg, body, h1, h2⟩
        · rw [h1]
          exact ⟨fun hd => by simp [FW, Fence.wide] at hd, h2⟩
        · rw [h1]
          exact ⟨fun hd => by simp [FW, Fence.wide] at hd, h2⟩
      · have hs := oper_sim (o := o) X σ σ'' w a e R d m r H E hc (fun g xs he => hcall ⟨g, xs, he⟩) hop
        obtain ⟨X', w', v, hrun, E', H', hr⟩ := hs
        have hgo : K (a.put o.dst v) w' := hK X' w' _ E' H' (put_reps (E.mono E') hr) (by rw [put_defers]; exact hm.mono E')
        rcases hrun with hrun | ⟨hrun, rfl⟩
        · rw [hrun]; exact hgo
        · rw [hrun]; exact hgo

theorem one_sim {R : Rec} (S : CodeSim C R) (hN : Sound C) {f : FuncId} {ops : Array Oper} {i : Nat} {o : Oper} {mo : MO} (ho : ops[i]? = some o) (hc : compO C f ops.toList o = some mo) {d : Bool} {e e' : Env} {a : Act} (h : oneA C R d mo e σ = some (e', σ'))
    (H : Inv C X σ w) (E : Reps X σ w a.tmps.toList e) {lo : Nat} (hm : MarksOk X σ w lo a.defers) {ro : Option Nat} {K : Act → World → Prop} {Q : Exit → Act → World → Prop} (hK : Goes C X σ σ' w lo e' K) : wpOpIn (FW ro) 0 C.P ops Q i K a w :=
  one_put S hN ho hc h H E hm fun X' w' v E' H' ER' m' => hK X' w' _ E' H' ER' m'
end
end Go.Ai

set_option linter.unusedVariables false
set_option linter.unusedSimpArgs false
namespace Go.Ai
section
variable {C : Cfg} {X X' : Ctx} {σ σ' : St} {w w' : World} {R : Rec} {d : Bool}

/-! ### What an operation reads of the temporaries -/
def Same (ts : List Tmp) (e e' : Env) : Prop := ∀ t ∈ ts, e.getD t .any = e'.getD t .any

theorem ev_same {x : Opd} {e e' : Env} (h : Same (opdT x) e e') : ev e x = ev e' x := by
  cases x with
  | tmp t => exact h t (by simp [opdT])
  | cst v => rfl
theorem Same.mono {ts us : List Tmp} {e e' : Env} (h : Same us e e') (hs : ∀ t ∈ ts, t ∈ us) : Same ts e e' := fun t ht => h t (hs t ht)
theorem evs_same {xs : List Opd} {e e' : Env} (h : Same (xs.flatMap opdT) e e') : xs.map (ev e) = xs.map (ev e') := by
  refine List.map_congr_left fun x hx => ev_same (h.mono fun t ht => ?_)
  exact List.mem_flatMap.2 ⟨x, hx, ht⟩
theorem evo_same {x : Option Opd} {e e' : Env} (h : Same (optT x) e e') : x.map (ev e) = x.map (ev e') := by
  cases x with
  | none => rfl
  | some x => simp only [Option.map_some]; rw [ev_same (by simpa [optT] using h)]

theorem oper_same {m : MOp} {e e' : Env} (h : Same m.reads e e') : operA C R d e σ m = operA C R d e' σ m := by
  have s1 : ∀ {x : Opd}, (∀ t ∈ opdT x, t ∈ m.reads) → ev e x = ev e' x := fun hs => ev_same (h.mono hs)
  have sl : ∀ {xs : List Opd}, (∀ t ∈ xs.flatMap opdT, t ∈ m.reads) → xs.map (ev e) = xs.map (ev e') := fun hs => evs_same (h.mono hs)
  have so : ∀ {x : Option Opd}, (∀ t ∈ optT x, t ∈ m.reads) → x.map (ev e) = x.map (ev e') := fun hs => evo_same (h.mono hs)
  cases m with
  | bld z ps =>
    have : ps.map (fun p => (p.1, p.2.1, ev e p.2.2)) = ps.map (fun p => (p.1, p.2.1, ev e' p.2.2)) := List.map_congr_left fun p hp => by
      rw [s1 fun t ht => List.mem_flatMap.2 ⟨p, hp, ht⟩]
    simp only [operA, this]
  | bsl sz ag z n ps | bsw sz ag z n ps | bsf sz ag z n ps =>
    have : ps.map (fun p => (p.1, ev e p.2)) = ps.map (fun p => (p.1, ev e' p.2)) := List.map_congr_left fun p hp => by
      rw [s1 fun t ht => List.mem_flatMap.2 ⟨p, hp, ht⟩]
    simp only [operA, this]
  | mkf f a b => 
    simp only [operA]
    rw [sl (xs := a) fun t ht => by simp only [MOp.reads, List.flatMap_append, List.mem_append]; exact .inl ht, sl (xs := b) fun t ht => by simp only [MOp.reads, List.flatMap_append, List.mem_append]; exact .inr ht]
  | slc sz x lo hi mx =>
    simp only [operA]
    rw [s1 (x := x) fun t ht => by simp only [MOp.reads, List.mem_append]; exact .inl (.inl (.inl ht)), so (x := lo) fun t ht => by simp only [MOp.reads, List.mem_append]; exact .inl (.inl (.inr ht)),
      so (x := hi) fun t ht => by simp only [MOp.reads, List.mem_append]; exact .inl (.inr ht), so (x := mx) fun t ht => by simp only [MOp.reads, List.mem_append]; exact .inr ht]
  | mn x xs =>
    simp only [operA]
    rw [s1 (x := x) fun t ht => by simp only [MOp.reads, List.mem_append]; exact .inl ht, sl (xs := xs) fun t ht => by simp only [MOp.reads, List.mem_append]; exact .inr ht]
  | mx x xs =>
    simp only [operA]
    rw [s1 (x := x) fun t ht => by simp only [MOp.reads, List.mem_append]; exact .inl ht, sl (xs := xs) fun t ht => by simp only [MOp.reads, List.mem_append]; exact .inr ht]
  | call g xs =>
    simp only [operA]
    rw [s1 (x := g) fun t ht => by simp only [MOp.reads, List.mem_append]; exact .inl ht, sl (xs := xs) fun t ht => by simp only [MOp.reads, List.mem_append]; exact .inr ht]
  | pick x y z | mput _ x y z | esto x y z =>
    simp only [operA]
    rw [s1 (x := x) fun t ht => by simp only [MOp.reads, List.mem_append]; exact .inl (.inl ht), s1 (x := y) fun t ht => by simp only [MOp.reads, List.mem_append]; exact .inl (.inr ht), s1 (x := z) fun t ht => by simp only [MOp.reads, List.mem_append]; exact .inr ht]
  | bin _ x y | beq _ x y | eqa _ _ x y | ixa _ _ x y | ixs _ x y | ixv _ _ _ x y | lkp _ _ x y _ | store _ x y | mks _ _ _ _ x y | ment _ _ x y | app _ _ _ _ x y | ixt x y =>
    simp only [operA]
    rw [s1 (x := x) fun t ht => by simp only [MOp.reads, List.mem_append]; exact .inl ht, s1 (x := y) fun t ht => by simp only [MOp.reads, List.mem_append]; exact .inr ht]
  | bad => rfl
  | mov x | load _ x | nck x | eqn _ x | neg x | lnot x | conv _ x | arr _ _ _ x | fad x _ | fld _ x _ | ext x _ | len x | box x | clr _ _ x =>
    simp only [operA]
    rw [s1 (x := x) fun t ht => by simpa only [MOp.reads] using ht]
  | lenc _ | alloc _ | mkm => rfl

/-! ### What an operation reads of the state, and what it does to it -/
/-- More variables, more maps; those that were are as they were. -/
def More (σ σ' : St) : Prop := (∀ (b : Nat) (cs : List AV), σ.boxes[b]? = some cs → σ'.boxes[b]? = some cs) ∧ ∀ (m : Nat) (es : List AV × List AV), σ.maps[m]? = some es → σ'.maps[m]? = some es

theorem cls_call (g : Opd) (xs : List Opd) : clsOf C d (.call g xs) ≠ .plain := by
  cases g with
  | tmp t => simp only [clsOf]; split <;> simp
  | cst v =>
    cases v with
    | fn f a b =>
      cases f with
      | func f => simp only [clsOf]; split <;> simp
      | _ => simp only [clsOf]; split <;> simp
    | _ => simp only [clsOf]; split <;> simp

theorem plain_spec {m : MOp} {e : Env} (h : clsOf C d m = .plain) : ∃ v : Option AV, ∀ σ, operA C R d e σ m = v.map fun v => (v, σ) := by
  cases m <;> simp only [clsOf, reduceCtorEq] at h
  case call g xs => exact absurd h (cls_call g xs)
  case app w _ _ _ _ _ => cases w <;> simp at h
  case mov x => exact ⟨some (ev e x), fun σ => rfl⟩
  case pick c a b =>
    cases hc : ev e c with
    | bool b' => exact ⟨some (if b' then ev e a else ev e b), fun σ => by simp [operA, hc]⟩
    | _ => exact ⟨none, fun σ => by simp [operA, hc]⟩
  case bld z ps => exact ⟨(fillA (ps.map fun p => (p.1, p.2.1, ev e p.2.2)) z).map .agg, fun σ => by simp only [operA, Option.map_map]; rfl⟩
  case bsl sz ag z n ps => exact ⟨(fillE sz ag (ps.map fun p => (p.1, ev e p.2)) (List.replicate n z)).map fun es => .sl sz es .full, fun σ => by simp only [operA, Option.map_map]; rfl⟩
  case nck p =>
    cases hp : ev e p with
    | box b o => exact ⟨some (.box b o), fun σ => by simp [operA, hp]⟩
    | rp b o => exact ⟨some (.rp b o), fun σ => by simp [operA, hp]⟩
    | _ => exact ⟨none, fun σ => by simp [operA, hp]⟩
  case bin op x y => exact ⟨binA op (ev e x) (ev e y), fun σ => rfl⟩
  case beq ne x y =>
    cases hx : ev e x with
    | bool b =>
      cases hy : ev e y with
      | bool b' => exact ⟨some (.bool ((b == b') != ne)), fun σ => by simp [operA, hx, hy]⟩
      | _ => exact ⟨none, fun σ => by simp [operA, hx, hy]⟩
    | _ => exact ⟨none, fun σ => by simp [operA, hx]⟩
  case eqa n ne x y =>
    cases hx : ev e x with
    | agg xs =>
      cases hy : ev e y with
      | agg ys =>
        by_cases hl : xs.length = n ∧ ys.length = n
        · exact ⟨(eqCells xs ys).map fun r => .bool (r != ne), fun σ => by simp only [operA, hx, hy, hl, and_self, if_true, Option.map_map]; rfl⟩
        · exact ⟨none, fun σ => by simp only [operA, hx, hy, hl, if_false]; rfl⟩
      | _ => exact ⟨none, fun σ => by simp [operA, hx, hy]⟩
    | _ => exact ⟨none, fun σ => by simp [operA, hx]⟩
  case eqn ne x => exact ⟨(isNil (ev e x)).map fun r => .bool (r != ne), fun σ => by simp only [operA, Option.map_map]; rfl⟩
  case neg x =>
    cases hx : ev e x with
    | int k n => exact ⟨some (.int k (k.wrap (0 - n))), fun σ => by simp [operA, hx]⟩
    | _ => exact ⟨none, fun σ => by simp [operA, hx]⟩
  case lnot x =>
    cases hx : ev e x with
    | bool b => exact ⟨some (.bool !b), fun σ => by simp [operA, hx]⟩
    | _ => exact ⟨none, fun σ => by simp [operA, hx]⟩
  case conv k x =>
    cases hx : ev e x with
    | int k' n => exact ⟨some (.int k (k.wrap n)), fun σ => by simp [operA, hx]⟩
    | _ => exact ⟨none, fun σ => by simp [operA, hx]⟩
  case mkf f a b => exact ⟨some _, fun σ => rfl⟩
  case slc => exact ⟨_, fun σ => rfl⟩
  case fad => exact ⟨_, fun σ => rfl⟩
  case fld => exact ⟨_, fun σ => rfl⟩
  case ixa => exact ⟨_, fun σ => rfl⟩
  case ixs => exact ⟨_, fun σ => rfl⟩
  case ixv => exact ⟨_, fun σ => rfl⟩
  case ext x i =>
    cases hx : ev e x with
    | tup vs => exact ⟨vs[i]?, fun σ => by simp [operA, hx]⟩
    | _ => exact ⟨none, fun σ => by simp [operA, hx]⟩
  case len => exact ⟨_, fun σ => rfl⟩
  case lenc n => exact ⟨some _, fun σ => rfl⟩
  case mn => exact ⟨_, fun σ => rfl⟩
  case mx => exact ⟨_, fun σ => rfl⟩
  case ixt => exact ⟨_, fun σ => rfl⟩
  case bad => exact ⟨none, fun σ => rfl⟩

theorem purAll_congr {f g : AV → Option (AV × Bool)} : ∀ {as : List AV}, (∀ a ∈ as, f a = g a) → purAll f as = purAll g as
  | [], _ => rfl
  | a :: as, h => by
    simp only [purAll]
    rw [h a (by simp), purAll_congr (as := as) fun b hb => h b (by simp [hb])]

/-- What is bounded by a state does not look at what came later. -/
theorem pur_more (H : Inv C X σ w) (M : More σ σ') : ∀ (d : Nat) {v : Value} {a : AV}, Rep X σ w v a → pur σ' d a = pur σ d a
  | 0, _, _, _ => rfl
  | d + 1, v, a, r => by
    have lists : ∀ {vs : List Value} {as : List AV}, Reps X σ w vs as → purAll (pur σ' d) as = purAll (pur σ d) as := by
      intro vs as h
      refine purAll_congr fun a ha => ?_
      obtain ⟨i, hi⟩ := List.mem_iff_getElem?.1 ha
      have hlt := lt_of_some hi
      obtain ⟨v, hv⟩ := some_of_lt (l := vs) (i := i) (by have := h.1; omega)
      exact pur_more H M d (h.2 i v a hv hi)
    cases a with
    | agg cs =>
      obtain ⟨vs, _, h1, h2⟩ := r.aggV
      simp only [pur]
      rw [lists (vs := vs.toList) ⟨by simpa using h1, fun i v c hv hc => h2 i v c (by simpa using hv) hc⟩]
    | tup cs =>
      obtain ⟨vs, _, h1, h2⟩ := r.tupV
      simp only [pur]
      rw [lists (vs := vs.toList) ⟨by simpa using h1, fun i v c hv hc => h2 i v c (by simpa using hv) hc⟩]
    | fn f a b =>
      obtain ⟨vs, us, _, h1, h2⟩ := r.fnV
      simp only [pur]
      rw [lists h1, lists h2]
    | wsl b off n sz ag =>
      cases r with
      | pure p => cases p
      | wsl _ _ _ cap _ _ cs hb hf hn hag =>
        simp only [pur, hb, M.1 b cs hb, Option.bind_some]
        obtain ⟨_, arr, T, _, hl, _, hr, _⟩ := H.box b cs hb
        rw [lists (vs := arr.toList.take cs.length) ⟨by simp; omega, fun i v c hv hc => by
          rw [List.getElem?_take] at hv
          split at hv
          · exact hr i v c (by simpa using hv) hc
          · cases hv⟩]
    | box b off =>
      cases r with
      | pure p => cases p
      | box _ _ hb =>
        obtain ⟨cs, hb⟩ := some_of_lt hb
        simp only [pur, hb, M.1 b cs hb, Option.bind_some]
        obtain ⟨_, arr, T, _, hl, _, hr, _⟩ := H.box b cs hb
        rw [lists (vs := arr.toList.take cs.length) ⟨by simp; omega, fun i v c hv hc => by
          rw [List.getElem?_take] at hv
          split at hv
          · exact hr i v c (by simpa using hv) hc
          · cases hv⟩]
    | mp m =>
      cases r with
      | pure p => cases p
      | mp _ hm =>
        obtain ⟨es, hm⟩ := some_of_lt hm
        simp only [pur, hm, M.2 m es hm, Option.bind_some]
        obtain ⟨_, arr, _, h1, h2, _, h3, h4, _⟩ := H.map m es hm
        rw [lists (vs := (arr.toList.map (·.key))) ⟨by simpa using h1, fun i v c hv hc => by
            simp only [List.getElem?_map, Option.map_eq_some_iff] at hv
            obtain ⟨en, hen, rfl⟩ := hv
            exact h3 i en c (by simpa using hen) hc⟩,
          lists (vs := (arr.toList.map (·.val))) ⟨by simpa using h2, fun i v c hv hc => by
            simp only [List.getElem?_map, Option.map_eq_some_iff] at hv
            obtain ⟨en, hen, rfl⟩ := hv
            exact h4 i en c (by simpa using hen) hc⟩]
    | _ => rfl

theorem boxes_more (M : More σ σ') {b : Nat} (hb : b < σ.boxes.length) : σ'.boxes[b]? = σ.boxes[b]? := by
  obtain ⟨cs, h⟩ := some_of_lt hb
  rw [h, M.1 b cs h]

/-- What a reading operation looks at. -/
def rOpds : MOp → List Opd
  | .load _ p => [p]
  | .lkp _ _ m _ _ => [m]
  | .arr _ _ _ x => [x]
  | .call g xs => g :: xs
  | _ => []

@[simp] theorem rOpds_bslOp {f : FuncId} {dst : Option Tmp} {b : ATy} {z : AV} {n : Nat} {ps : List (Nat × Opd)} : rOpds (bslOp C f dst b z n ps) = [] := by unfold bslOp; split <;> (try split) <;> rfl
theorem comp_opds {f : FuncId} {dst : Option Tmp} {op : Op} {m : MOp} (h : compOp C f dst op = some m) : ∀ x ∈ rOpds m, ∃ y, opdA C y = some x := by
  cases op with
  | call c =>
    simp only [compOp, compCall] at h
    split at h
    · simp only [Option.bind_eq_some_iff, Option.map_eq_some_iff] at h
      obtain ⟨g', hg, xs', hxs, rfl⟩ := h
      intro x hx
      simp only [rOpds, List.mem_cons] at hx
      rcases hx with rfl | hx
      · exact ⟨_, hg⟩
      · obtain ⟨h1, h2⟩ := mapM_get hxs
        obtain ⟨i, hi⟩ := List.mem_iff_getElem?.1 hx
        obtain ⟨y, hy⟩ := some_of_lt (l := c.args.toList) (i := i) (by have := lt_of_some hi; omega)
        exact ⟨y, h2 i y x hy hi⟩
    · unfold compBuiltin at h
      repeat' first
        | (simp only [Option.some.injEq, Option.map_eq_some_iff] at h; (first | (obtain ⟨_, _, rfl⟩ := h) | subst h); intro x hx; simp [rOpds] at hx; done)
        | (simp at h; done)
        | (simp only [Option.bind_eq_some_iff] at h; obtain ⟨_, _, h⟩ := h)
        | (obtain ⟨_, _, h⟩ := h)
        | split at h
    · cases h
  | load t p =>
    simp only [compOp, Option.bind_eq_some_iff, Option.map_eq_some_iff] at h
    obtain ⟨_, _, x, hx, rfl⟩ := h
    intro y hy
    simp only [rOpds, List.mem_singleton] at hy
    subst hy
    exact ⟨_, hx⟩
  | lookup t m k ok =>
    simp only [compOp, Option.bind_eq_some_iff] at h
    obtain ⟨_, _, h⟩ := h
    split at h
    · simp only [Option.bind_eq_some_iff, Option.map_eq_some_iff] at h
      obtain ⟨_, _, _, _, _, _, x, hx, _, _, rfl⟩ := h
      intro y hy
      simp only [rOpds, List.mem_singleton] at hy
      subst hy
      exact ⟨_, hx⟩
    · cases h
  | slice t x lo hi mx =>
    simp only [compOp, Option.bind_eq_some_iff] at h
    obtain ⟨_, _, x', hx, h⟩ := h
    split at h
    · simp only [Option.bind_eq_some_iff] at h
      obtain ⟨_, _, _, _, _, _, _, _, h⟩ := h
      split at h
      · cases h
      · simp only [Option.some.injEq] at h
        subst h
        intro y hy
        simp [rOpds] at hy
    · simp only [Option.bind_eq_some_iff] at h
      obtain ⟨_, _, h⟩ := h
      split at h
      · simp only [Option.some.injEq] at h
        subst h
        intro y hy
        simp only [rOpds, List.mem_singleton] at hy
        subst hy
        exact ⟨_, hx⟩
      · cases h
    · cases h
  | makeMap _ x => cases x <;> simp [compOp] at h; subst h; intro x hx; simp [rOpds] at hx
  | buildSlice t n ps =>
    simp only [compOp, Option.bind_eq_some_iff] at h
    obtain ⟨_, _, h⟩ := h
    split at h
    · simp only [Option.bind_eq_some_iff] at h
      obtain ⟨_, _, _, _, h⟩ := h
      split at h
      · simp only [Option.map_eq_some_iff] at h
        obtain ⟨_, _, rfl⟩ := h
        intro x hx
        rw [rOpds_bslOp] at hx
        cases hx
      · cases h
    · cases h
  | build | convert | fieldAddr | field | indexAddr | index | alloc | makeSlice | mapUpdate | insert | mapEntry | binOp | unOp | move | assign | pick | nilCheck | makeFunc | extract | box | store | entryStore =>
    simp only [compOp, compBin] at h
    repeat' first
      | (simp only [Option.some.injEq, Option.map_eq_some_iff] at h; (first | (obtain ⟨_, _, rfl⟩ := h) | subst h); intro x hx; simp [rOpds] at hx; done)
      | (simp at h; done)
      | (simp only [Option.bind_eq_some_iff] at h; obtain ⟨_, _, h⟩ := h)
      | (obtain ⟨_, _, h⟩ := h)
      | split at h
  | panic | makeInterface => simp only [compOp, Option.some.injEq] at h; subst h; intro x hx; simp [rOpds] at hx
  | _ => simp [compOp] at h
end
end Go.Ai

set_option linter.unusedVariables false
set_option linter.unusedSimpArgs false
namespace Go.Ai
section
variable {C : Cfg} {X X' : Ctx} {σ σ' : St} {w w' : World} {R : Rec} {d : Bool}

theorem loadA_more (M : More σ σ') {n : Option Nat} {v : Value} {a : AV} (r : Rep X σ w v a) : loadA σ' n a = loadA σ n a := by
  cases a with
  | box b off =>
    cases r with
    | pure p => cases p
    | box _ _ hb => simp only [loadA, boxes_more M hb]
  | _ => rfl
theorem entriesA_more (M : More σ σ') {v : Value} {a : AV} (r : Rep X σ w v a) : entriesA σ' a = entriesA σ a := by
  cases a with
  | mp m =>
    cases r with
    | pure p => cases p
    | mp _ hm =>
      obtain ⟨es, h⟩ := some_of_lt hm
      simp only [entriesA, h, M.2 m es h]
  | _ => rfl
theorem arrA_more (M : More σ σ') {n sz : Nat} {ag : Bool} {v : Value} {a : AV} (r : Rep X σ w v a) : arrA σ' n sz ag a = arrA σ n sz ag a := by
  cases a with
  | box b off =>
    cases r with
    | pure p => cases p
    | box _ _ hb => simp only [arrA, boxes_more M hb]
  | _ => rfl
theorem purs_more (H : Inv C X σ w) (M : More σ σ') {d : Nat} {vs : List Value} {as : List AV} (h : Reps X σ w vs as) : purAll (pur σ' d) as = purAll (pur σ d) as := by
  refine purAll_congr fun a ha => ?_
  obtain ⟨i, hi⟩ := List.mem_iff_getElem?.1 ha
  obtain ⟨v, hv⟩ := some_of_lt (l := vs) (i := i) (by have := lt_of_some hi; have := h.1; omega)
  exact pur_more H M d (h.2 i v a hv hi)

theorem backA_true {t : Bool} {v : Option AV} {r : AV} (h : backA σ true t v = some (r, σ')) : σ' = σ := by
  cases v with
  | none => cases h
  | some v =>
    simp only [backA, if_true] at h
    split at h
    · cases h
    · simp only [Option.some.injEq, Prod.mk.injEq] at h; exact h.2.symm
theorem backA_at {t : Bool} {v : Option AV} : backA σ' true t v = (backA σ true t v).map fun q => (q.1, σ') := by
  cases v with
  | none => rfl
  | some v => cases t <;> rfl

/-- A call in a region whose order is open, if it is no 'writes'. -/
theorem call_reads {g : Opd} {xs : List Opd} {e : Env} (hc : clsOf C true (.call g xs) = .reads) : (∀ σ, operA C R true e σ (.call g xs) = none) ∨ ∃ f a b, ev e g = .fn (.func f) a b ∧ ∀ σ, operA C R true e σ (.call g xs) = pureCallA C R true f σ (purAll (pur σ depth) (a ++ xs.map (ev e) ++ b)) := by
  have key : ∀ f a b, ev e g = .fn (.func f) a b → still C g (ev e g) = true → C.imp f = false → ∀ σ, operA C R true e σ (.call g xs) = pureCallA C R true f σ (purAll (pur σ depth) (a ++ xs.map (ev e) ++ b)) := by
    intro f a b he hs hi σ
    rw [he] at hs
    simp [operA, he, hs, callA, hi]
  cases g with
  | cst v =>
    cases v with
    | fn f a b =>
      cases f with
      | func f =>
        simp only [clsOf] at hc
        split at hc
        · cases hc
        · rename_i hi
          exact .inr ⟨f, a, b, rfl, key f a b rfl rfl (by simpa using hi)⟩
      | _ => exact .inl fun σ => by simp [operA, ev, still, stillV]
    | _ => exact .inl fun σ => by simp [operA, ev, still, stillV]
  | tmp t =>
    cases hv : ev e (.tmp t) with
    | fn f a b =>
      cases f with
      | func f =>
        cases hi : C.imp f with
        | true => exact .inl fun σ => by simp [operA, hv, still, stillV, hi]
        | false => exact .inr ⟨f, a, b, rfl, fun σ => key f a b hv (by rw [hv]; simp [still, stillV, hi]) hi σ⟩
      | _ => exact .inl fun σ => by simp [operA, hv, still, stillV]
    | _ => exact .inl fun σ => by simp [operA, hv, still, stillV]

theorem calls_d {g : Opd} {xs : List Opd} (h : clsOf C d (.call g xs) = .reads) : d = true := by
  cases d with
  | true => rfl
  | false =>
    exfalso
    revert h
    cases g with
    | tmp t => simp [clsOf]
    | cst v =>
      cases v with
      | fn f a b => cases f <;> simp [clsOf]
      | _ => simp [clsOf]
theorem reads_spec {m : MOp} {e : Env} {r : AV} (hc : clsOf C d m = .reads) (h : operA C R d e σ m = some (r, σ')) : σ' = σ := by
  cases m with
  | load | lkp | arr =>
    simp only [operA, Option.map_eq_some_iff, Prod.mk.injEq] at h
    obtain ⟨_, _, _, rfl⟩ := h
    rfl
  | call g xs =>
    obtain rfl := calls_d hc
    rcases call_reads (R := R) (e := e) hc with h1 | ⟨f, a, b, _, h1⟩
    · rw [h1] at h; cases h
    · rw [h1] at h
      cases hp : purAll (pur σ depth) (a ++ xs.map (ev e) ++ b) with
      | none => rw [hp] at h; cases h
      | some q =>
        rw [hp] at h
        exact backA_true h
  | app w _ _ _ _ _ => cases w <;> simp [clsOf] at hc
  | _ => simp [clsOf] at hc

theorem reads_more (H : Inv C X σ w) {tmps : Array Value} {e : Env} (E : Reps X σ w tmps.toList e) (M : More σ σ') {m : MOp} {f : FuncId} {dst : Option Tmp} {op : Op} (hm : compOp C f dst op = some m) (hc : clsOf C d m = .reads) :
    operA C R d e σ' m = (operA C R d e σ m).map fun q => (q.1, σ') := by
  have hr : ∀ x ∈ rOpds m, ∃ v, Rep X σ w v (ev e x) := fun x hx => by
    obtain ⟨y, hy⟩ := comp_opds hm x hx
    exact ⟨_, opdA_rep (a := ⟨tmps, []⟩) H E hy⟩
  cases m with
  | load n p =>
    obtain ⟨v, hv⟩ := hr p (by simp [rOpds])
    simp only [operA, loadA_more M hv, Option.map_map]
    rfl
  | lkp kn z mm k ok =>
    obtain ⟨v, hv⟩ := hr mm (by simp [rOpds])
    simp only [operA, lkpA, entriesA_more M hv, Option.map_map]
    rfl
  | arr n sz ag x =>
    obtain ⟨v, hv⟩ := hr x (by simp [rOpds])
    simp only [operA, arrA_more M hv, Option.map_map]
    rfl
  | call g xs =>
    obtain rfl := calls_d hc
    rcases call_reads (R := R) (e := e) hc with h1 | ⟨f, a, b, he, h1⟩
    · rw [h1, h1]; rfl
    · rw [h1, h1]
      obtain ⟨gv, hg⟩ := hr g (by simp [rOpds])
      rw [he] at hg
      obtain ⟨us, cs, _, h2, h3⟩ := hg.fnV
      have hxs : ∃ vs, Reps X σ w vs (xs.map (ev e)) := by
        have : ∀ ys : List Opd, (∀ y ∈ ys, y ∈ xs) → ∃ vs, Reps X σ w vs (ys.map (ev e)) := by
          intro ys
          induction ys with
          | nil => exact fun _ => ⟨[], rfl, fun i v a h => by simp at h⟩
          | cons y ys ih =>
            intro hy
            obtain ⟨vs, hvs⟩ := ih fun z hz => hy z (by simp [hz])
            obtain ⟨v, hv⟩ := hr y (by simp [rOpds, hy y (by simp)])
            refine ⟨v :: vs, by simp [hvs.1], fun i u c hu hc => ?_⟩
            cases i with
            | zero => simp only [List.map_cons, List.getElem?_cons_zero, Option.some.injEq] at hu hc; subst hu hc; exact hv
            | succ i => exact hvs.2 i u c (by simpa using hu) (by simpa using hc)
        exact this xs fun _ h => h
      obtain ⟨vs, hvs⟩ := hxs
      rw [purs_more H M ((h2.append hvs).append h3)]
      cases purAll (pur σ depth) (a ++ xs.map (ev e) ++ b) with
      | none => rfl
      | some q => exact backA_at
  | app w _ _ _ _ _ => cases w <;> simp [clsOf] at hc
  | _ => simp [clsOf] at hc

theorem more_refl : More σ σ := ⟨fun _ _ h => h, fun _ _ h => h⟩
theorem more_box {cs : List AV} : More σ { σ with boxes := σ.boxes ++ [cs] } := ⟨fun b cs h => by show (σ.boxes ++ _)[b]? = _; rw [List.getElem?_append_left (lt_of_some h)]; exact h, fun _ _ h => h⟩
theorem more_map {es : List AV × List AV} : More σ { σ with maps := σ.maps ++ [es] } := ⟨fun _ _ h => h, fun b cs h => by show (σ.maps ++ _)[b]? = _; rw [List.getElem?_append_left (lt_of_some h)]; exact h⟩
theorem more_chain {cs : List (Nat × Nat)} : More σ { σ with chains := cs } := ⟨fun _ _ h => h, fun _ _ h => h⟩
theorem more_grown {wf : Bool} {sz : Nat} {ag : Bool} {es : List AV} {r : AV} (h : grown σ wf sz ag es = some (r, σ')) : More σ σ' := by
  simp only [grown] at h
  split at h
  · split at h
    · simp only [Option.some.injEq, Prod.mk.injEq] at h; obtain ⟨_, rfl⟩ := h; exact more_box
    · cases h
  · simp only [Option.some.injEq, Prod.mk.injEq] at h; obtain ⟨_, rfl⟩ := h; exact more_chain

theorem makes_spec {m : MOp} {e : Env} {r : AV} (hc : clsOf C d m = .makes) (h : operA C R d e σ m = some (r, σ')) : More σ σ' := by
  cases m with
  | alloc z => simp only [operA, Option.some.injEq, Prod.mk.injEq] at h; obtain ⟨_, rfl⟩ := h; exact more_box
  | box x =>
    simp only [operA, boxA] at h
    split at h
    · simp only [Option.some.injEq, Prod.mk.injEq] at h; obtain ⟨_, rfl⟩ := h; exact more_box
    · cases h
  | mkm => simp only [operA, Option.some.injEq, Prod.mk.injEq] at h; obtain ⟨_, rfl⟩ := h; exact more_map
  | mks sz bytes ag z n c =>
    simp only [operA, mksA] at h
    split at h
    · split at h
      · simp only [Option.some.injEq, Prod.mk.injEq] at h; obtain ⟨_, rfl⟩ := h; exact more_box
      · cases h
    · cases h
  | bsw sz ag z n ps =>
    simp only [operA, bswA, Option.bind_eq_some_iff] at h
    obtain ⟨cs, _, h⟩ := h
    split at h
    · simp only [Option.some.injEq, Prod.mk.injEq] at h; obtain ⟨_, rfl⟩ := h; exact more_box
    · cases h
  | app wf sz bytes ag s x =>
    have hwf : wf = false := by cases wf <;> simp [clsOf] at hc; rfl
    subst hwf
    simp only [operA, appA, Option.bind_eq_some_iff, Bool.false_eq_true, false_and, if_false, reduceCtorEq, and_false, exists_false] at h
    obtain ⟨ys, _, h⟩ := h
    repeat' first
      | (cases h; done)
      | exact more_grown h
      | (simp at h; done)
      | (simp only [Option.some.injEq, Prod.mk.injEq] at h; obtain ⟨_, rfl⟩ := h; first | exact more_refl | exact more_chain)
      | split at h
  | call g xs =>
    exfalso
    revert hc
    cases g with
    | tmp t => simp only [clsOf]; split <;> simp
    | cst v =>
      cases v with
      | fn f a b =>
        cases f with
        | func f => simp only [clsOf]; split <;> simp
        | _ => simp only [clsOf]; split <;> simp
      | _ => simp only [clsOf]; split <;> simp
  | _ => simp [clsOf] at hc

/-! ### Two operations that need not keep their order -/
theorem clash_cases {a b : Cls} (h : clash a b = false) : a = .plain ∨ b = .plain ∨ (a = .reads ∧ b = .reads) ∨ (a = .reads ∧ b = .makes) ∨ (a = .makes ∧ b = .reads) := by
  cases a <;> cases b <;> simp [clash] at h ⊢

theorem boxR_at {m : MOp} {e : Env} (hc : isBoxR m = true) (h : σ'.boxes = σ.boxes) : operA C R d e σ' m = (operA C R d e σ m).map fun q => (q.1, σ') := by
  cases m <;> simp only [isBoxR, Bool.false_eq_true] at hc
  case load n p =>
    have : loadA σ' n (ev e p) = loadA σ n (ev e p) := by cases ev e p <;> simp only [loadA, h]
    simp only [operA, this, Option.map_map]
    rfl
  case arr n sz ag x =>
    have : arrA σ' n sz ag (ev e x) = arrA σ n sz ag (ev e x) := by cases ev e x <;> simp only [arrA, h]
    simp only [operA, this, Option.map_map]
    rfl
theorem mapW_boxes {m : MOp} {e : Env} {r : AV} (hc : isMapW m = true) (h : operA C R d e σ m = some (r, σ')) : σ'.boxes = σ.boxes := by
  cases m <;> simp only [isMapW, Bool.false_eq_true] at hc
  case mput kn mm k v =>
    simp only [operA, Option.map_eq_some_iff, Prod.mk.injEq] at h
    obtain ⟨τ, h, _, rfl⟩ := h
    unfold mputA at h
    split at h
    · simp only [Option.bind_eq_some_iff] at h
      obtain ⟨es, _, h⟩ := h
      split at h
      · simp only [Option.bind_eq_some_iff] at h
        obtain ⟨q, _, h⟩ := h
        split at h <;> (simp only [Option.some.injEq] at h; subst h; rfl)
      · cases h
    · cases h
  case ment kn z mm k =>
    simp only [operA] at h
    unfold mentA at h
    split at h
    · simp only [Option.bind_eq_some_iff] at h
      obtain ⟨es, _, h⟩ := h
      split at h
      · simp only [Option.bind_eq_some_iff] at h
        obtain ⟨q, _, h⟩ := h
        split at h
        · simp only [Option.map_eq_some_iff, Prod.mk.injEq] at h
          obtain ⟨_, _, _, rfl⟩ := h
          rfl
        · simp only [Option.some.injEq, Prod.mk.injEq] at h
          obtain ⟨_, rfl⟩ := h
          rfl
      · cases h
    · cases h
  case esto mm s v =>
    simp only [operA, Option.map_eq_some_iff, Prod.mk.injEq] at h
    obtain ⟨τ, h, _, rfl⟩ := h
    unfold estoA at h
    split at h
    · simp only [Option.bind_eq_some_iff] at h
      obtain ⟨es, _, h⟩ := h
      split at h
      · simp only [Option.some.injEq] at h; subst h; rfl
      · cases h
    · cases h
theorem boxR_state {m : MOp} {e : Env} {r : AV} (hc : isBoxR m = true) (h : operA C R d e σ m = some (r, σ')) : σ' = σ := by
  cases m <;> simp only [isBoxR, Bool.false_eq_true] at hc <;>
  · simp only [operA, Option.map_eq_some_iff, Prod.mk.injEq] at h
    obtain ⟨_, _, _, rfl⟩ := h
    rfl
theorem comm_apart {e : Env} {m n : MOp} (hap : apart m n = true) {r s : AV} {σ1 σ2 : St} (h1 : operA C R d e σ m = some (r, σ1)) (h2 : operA C R d e σ1 n = some (s, σ2)) :
    ∃ σ3, operA C R d e σ n = some (s, σ3) ∧ operA C R d e σ3 m = some (r, σ2) := by
  simp only [apart, Bool.or_eq_true, Bool.and_eq_true] at hap
  rcases hap with ⟨ha, hb⟩ | ⟨ha, hb⟩
  · obtain rfl := boxR_state hb h2
    rw [boxR_at hb (mapW_boxes ha h1)] at h2
    simp only [Option.map_eq_some_iff, Prod.mk.injEq] at h2
    obtain ⟨⟨s', τ⟩, h3, rfl, _⟩ := h2
    obtain rfl := boxR_state hb h3
    exact ⟨_, h3, h1⟩
  · obtain rfl := boxR_state ha h1
    refine ⟨σ2, h2, ?_⟩
    rw [boxR_at ha (mapW_boxes hb h2), h1]
    rfl

/-- At one environment. -/
theorem comm (H : Inv C X σ w) {tmps : Array Value} {e : Env} (E : Reps X σ w tmps.toList e) {m n : MOp} {f : FuncId} {dm dn : Option Tmp} {om on : Op} (hm : compOp C f dm om = some m) (hn : compOp C f dn on = some n)
    (hcl : (clash (clsOf C d m) (clsOf C d n) && !apart m n) = false) {r s : AV} {σ1 σ2 : St} (h1 : operA C R d e σ m = some (r, σ1)) (h2 : operA C R d e σ1 n = some (s, σ2)) :
    ∃ σ3, operA C R d e σ n = some (s, σ3) ∧ operA C R d e σ3 m = some (r, σ2) := by
  cases hap : apart m n with
  | true => exact comm_apart hap h1 h2
  | false =>
  rw [hap] at hcl
  simp only [Bool.not_false, Bool.and_true] at hcl
  rcases clash_cases hcl with hp | hp | ⟨ha, hb⟩ | ⟨ha, hb⟩ | ⟨ha, hb⟩
  · obtain ⟨v, hv⟩ := plain_spec (R := R) (d := d) (e := e) hp
    rw [hv] at h1
    simp only [Option.map_eq_some_iff, Prod.mk.injEq] at h1
    obtain ⟨_, rfl, rfl, rfl⟩ := h1
    exact ⟨σ2, h2, by rw [hv]; rfl⟩
  · obtain ⟨v, hv⟩ := plain_spec (R := R) (d := d) (e := e) hp
    rw [hv] at h2
    simp only [Option.map_eq_some_iff, Prod.mk.injEq] at h2
    obtain ⟨_, rfl, rfl, rfl⟩ := h2
    exact ⟨σ, by rw [hv]; rfl, h1⟩
  · obtain rfl := reads_spec ha h1
    obtain rfl := reads_spec hb h2
    exact ⟨_, h2, h1⟩
  · obtain rfl := reads_spec ha h1
    refine ⟨σ2, h2, ?_⟩
    rw [reads_more H E (makes_spec hb h2) hm ha, h1]; rfl
  · obtain rfl := reads_spec hb h2
    have hM := makes_spec ha h1
    rw [reads_more H E hM hn hb] at h2
    simp only [Option.map_eq_some_iff, Prod.mk.injEq] at h2
    obtain ⟨⟨s', σ3⟩, h3, rfl, _⟩ := h2
    obtain rfl := reads_spec hb h3
    exact ⟨_, h3, h1⟩

theorem putA_get {e : Env} {dst : Option Tmp} {v : AV} {t : Tmp} (h : ∀ k, dst = some k → k ≠ t) : (putA e dst v).getD t .any = e.getD t .any := by
  cases dst with
  | none => rfl
  | some k =>
    show (e.set k v).getD t .any = _
    rw [List.getD_eq_getElem?_getD, List.getElem?_set_ne (h k rfl), List.getD_eq_getElem?_getD]
theorem putA_comm {e : Env} {x y : Option Tmp} {u v : AV} (h : ∀ k, x = some k → y ≠ some k) : putA (putA e x u) y v = putA (putA e y v) x u := by
  cases x with
  | none => rfl
  | some i =>
    cases y with
    | none => rfl
    | some j =>
      have hij : i ≠ j := fun he => h i rfl (by rw [he])
      exact List.set_comm _ _ hij

theorem wanted_same {g : Option (Option Tmp × Bool)} {e e' : Env} (h : ∀ t b, g = some (some t, b) → e.getD t .any = e'.getD t .any) : wantedA e g = wantedA e' g := by
  match g, h with
  | none, _ => rfl
  | some (none, _), _ => rfl
  | some (some t, b), h => simp only [wantedA, h t b rfl]

theorem swap (H : Inv C X σ w) {tmps : Array Value} {e : Env} (E : Reps X σ w tmps.toList e) {f : FuncId} {all : List Oper} {oa ob : Oper} {a b : MO} (hca : compO C f all oa = some a) (hcb : compO C f all ob = some b) (hb : bound C d a b = false)
    {s1 s2 : Env × St} (h1 : oneA C R d a e σ = some s1) (h2 : oneA C R d b s1.1 s1.2 = some s2) : ∃ s3, oneA C R d b e σ = some s3 ∧ oneA C R d a s3.1 s3.2 = some s2 := by
  simp only [compO, Option.map_eq_some_iff] at hca hcb
  obtain ⟨m, hm, rfl⟩ := hca
  obtain ⟨n, hn, rfl⟩ := hcb
  simp only [bound, Bool.or_eq_false_iff] at hb
  obtain ⟨⟨hb1, hb2⟩, hcl⟩ := hb
  -- what the one names the other does not put
  have n1 : ∀ k, oa.dst = some k → k ∉ (MO.names { dst := ob.dst, guard := ob.guard.map fun g => ((all[g.1]?).bind (·.dst), g.2), op := n }) := fun k hk hmem => by
    simp only [hk, Option.toList_some, List.any_cons, List.any_nil, Bool.or_false] at hb1
    have := List.contains_iff_mem.2 hmem
    rw [this] at hb1
    cases hb1
  have n2 : ∀ k, ob.dst = some k → k ∉ (MO.names { dst := oa.dst, guard := oa.guard.map fun g => ((all[g.1]?).bind (·.dst), g.2), op := m }) := fun k hk hmem => by
    simp only [hk, Option.toList_some, List.any_cons, List.any_nil, Bool.or_false] at hb2
    have := List.contains_iff_mem.2 hmem
    rw [this] at hb2
    cases hb2
  have hdd : ∀ k, oa.dst = some k → ob.dst ≠ some k := fun k hk hk' => n1 k hk (by simp [MO.names, hk'])
  have same1 : ∀ v, Same n.reads (putA e oa.dst v) e := fun v t ht => putA_get fun k hk he => n1 k hk (by subst he; simp [MO.names, ht])
  have same2 : ∀ v, Same m.reads (putA e ob.dst v) e := fun v t ht => putA_get fun k hk he => n2 k hk (by subst he; simp [MO.names, ht])
  have w1 : ∀ v, wantedA (putA e oa.dst v) (ob.guard.map fun g => ((all[g.1]?).bind (·.dst), g.2)) = wantedA e (ob.guard.map fun g => ((all[g.1]?).bind (·.dst), g.2)) := fun v => wanted_same fun t b hg => putA_get fun k hk he => n1 k hk (by subst he; simp [MO.names, hg])
  have w2 : ∀ v, wantedA (putA e ob.dst v) (oa.guard.map fun g => ((all[g.1]?).bind (·.dst), g.2)) = wantedA e (oa.guard.map fun g => ((all[g.1]?).bind (·.dst), g.2)) := fun v => wanted_same fun t b hg => putA_get fun k hk he => n2 k hk (by subst he; simp [MO.names, hg])
  simp only [oneA] at h1 h2 ⊢
  cases hwa : wantedA e (oa.guard.map fun g => ((all[g.1]?).bind (·.dst), g.2)) with
  | none => rw [hwa] at h1; cases h1
  | some wa =>
    rw [hwa] at h1
    simp only at h1
    cases ha : condA wa (operA C R d e σ m) σ with
    | none => rw [ha] at h1; cases h1
    | some q =>
      obtain ⟨ra, σ1⟩ := q
      rw [ha] at h1
      simp only [putR, Option.some.injEq] at h1
      subst h1
      simp only [w1] at h2
      cases hwb : wantedA e (ob.guard.map fun g => ((all[g.1]?).bind (·.dst), g.2)) with
      | none => rw [hwb] at h2; cases h2
      | some wb =>
        rw [hwb] at h2
        simp only [oper_same (same1 ra)] at h2
        cases hbb : condA wb (operA C R d e σ1 n) σ1 with
        | none => rw [hbb] at h2; cases h2
        | some q =>
          obtain ⟨rb, σ2⟩ := q
          rw [hbb] at h2
          simp only [putR, Option.some.injEq] at h2
          subst h2
          have key : ∃ σ3, condA wb (operA C R d e σ n) σ = some (rb, σ3) ∧ condA wa (operA C R d e σ3 m) σ3 = some (ra, σ2) := by
            cases wa with
            | false =>
              simp only [condA, Bool.false_eq_true, if_false, Option.some.injEq, Prod.mk.injEq] at ha ⊢
              obtain ⟨rfl, rfl⟩ := ha
              exact ⟨σ2, hbb, rfl, rfl⟩
            | true =>
              simp only [condA, if_true] at ha ⊢
              cases wb with
              | false =>
                simp only [condA, Bool.false_eq_true, if_false, Option.some.injEq, Prod.mk.injEq] at hbb ⊢
                obtain ⟨rfl, rfl⟩ := hbb
                exact ⟨σ, ⟨rfl, rfl⟩, ha⟩
              | true =>
                simp only [condA, if_true] at hbb ⊢
                exact comm H E hm hn hcl ha hbb
          obtain ⟨σ3, k1, k2⟩ := key
          refine ⟨(putA e ob.dst rb, σ3), by simp only [k1, putR], ?_⟩
          simp only [w2, hwa, oper_same (same2 rb), k2, putR]
          rw [putA_comm fun k hk => (fun he => hdd k he hk)]
end
end Go.Ai

set_option linter.unusedVariables false
set_option linter.unusedSimpArgs false
namespace Go.Ai
section
variable {C : Cfg} {X X' : Ctx} {σ σ' : St} {w w' : World} {R : Rec} {d : Bool}

/-- What can be shown for every continuation is somewhere. -/
theorem wpOp_some {ro : Option Nat} {P : Program} {ops : Array Oper} {i : Nat} {K : Act → World → Prop} {a : Act} {w : World} (h : wpOpIn (FW ro) 0 P ops (fun _ _ _ => False) i K a w) : ∃ a' w', K a' w' := by
  unfold wpOpIn at h
  split at h
  · exact ⟨_, _, h⟩
  · split at h
    · obtain ⟨_, h⟩ := h
      unfold Oper.uponIn at h
      split at h
      · exact ⟨_, _, h⟩
      · exact ⟨_, _, h⟩
      · exact ⟨_, _, h⟩
      · obtain ⟨_, _, h⟩ := h
        obtain ⟨e, w', _, hR, _⟩ := h [] (fun d hd => by simp [FW, Fence.wide] at hd)
        cases e with
        | returned v => exact ⟨_, _, hR⟩
        | panicked c => exact hR.elim
        | outgrown => obtain ⟨_, _, hR⟩ := hR; exact hR.elim
      · obtain ⟨_, h⟩ := h
        obtain ⟨v, w', hR, _⟩ := h default [] (fun d hd => by simp [FW, Fence.wide] at hd)
        exact ⟨_, _, hR⟩
      · obtain ⟨_, _, h⟩ := h
        obtain ⟨e, w', hR, _⟩ := h default [] (fun d hd => by simp [FW, Fence.wide] at hd)
        cases e with
        | returned v => exact ⟨_, _, hR⟩
        | panicked c => exact hR.elim
        | outgrown => obtain ⟨_, _, hR⟩ := hR; exact hR.elim
      · exact h.elim
      · exact h.elim
    · exact ⟨_, _, h.2⟩

/-- There is a world that the state and the environment tell. -/
def Bd (C : Cfg) (σ : St) (e : Env) : Prop := ∃ (X : Ctx) (w : World) (tmps : Array Value), Inv C X σ w ∧ Reps X σ w tmps.toList e

theorem Bd.step (S : CodeSim C R) (hN : Sound C) {f : FuncId} {ops : Array Oper} {i : Nat} {o : Oper} {mo : MO} (ho : ops[i]? = some o) (hc : compO C f ops.toList o = some mo) {e e' : Env} (h : oneA C R d mo e σ = some (e', σ')) (B : Bd C σ e) : Bd C σ' e' := by
  obtain ⟨X, w, tmps, H, E⟩ := B
  have := one_sim (Q := fun _ _ _ => False) (a := ⟨tmps, []⟩) (lo := 0) (ro := none) (K := fun a' w' => Bd C σ' e') S hN ho hc h H E .nil (fun X' w' a' _ H' E' _ => ⟨X', w', a'.tmps, H', E'⟩)
  obtain ⟨_, _, h⟩ := wpOp_some this
  exact h

/-- The operations with their places. -/
def Placed (C : Cfg) (f : FuncId) (ops : Array Oper) (L : List (Nat × MO)) : Prop := ∀ p ∈ L, ∃ o, ops[p.1]? = some o ∧ compO C f ops.toList o = some p.2

theorem opsA_one {o : MO} {rest : List MO} {e : Env} {r : Env × St} (h : opsA C R d (o :: rest) (some (e, σ)) = some r) : ∃ s, oneA C R d o e σ = some s ∧ opsA C R d rest (some s) = some r := by
  simp only [opsA] at h
  cases h1 : oneA C R d o e σ with
  | none => rw [h1] at h; cases rest <;> simp [opsA] at h
  | some s => rw [h1] at h; exact ⟨s, rfl, h⟩

/-- An operation that need not keep its order with those ahead of it can be the first. -/
theorem front (S : CodeSim C R) (hN : Sound C) {f : FuncId} {ops : Array Oper} {i : Nat} {o : Oper} {mi : MO} (ho : ops[i]? = some o) (hc : compO C f ops.toList o = some mi) : ∀ (L1 : List (Nat × MO)) (L2 : List MO) (e : Env) (σ : St) (r : Env × St), Placed C f ops L1 →
    (∀ p ∈ L1, bound C d p.2 mi = false) → Bd C σ e → opsA C R d (L1.map (·.2) ++ mi :: L2) (some (e, σ)) = some r → opsA C R d (mi :: (L1.map (·.2) ++ L2)) (some (e, σ)) = some r
  | [], L2, e, σ, r, _, _, _, h => h
  | p :: L1, L2, e, σ, r, hP, hb, B, h => by
    obtain ⟨op, hop, hcp⟩ := hP p (by simp)
    obtain ⟨s1, h1, h2⟩ := opsA_one h
    have B1 := B.step S hN hop hcp h1
    have h3 := front S hN ho hc L1 L2 s1.1 s1.2 r (fun q hq => hP q (by simp [hq])) (fun q hq => hb q (by simp [hq])) B1 h2
    obtain ⟨s2, h4, h5⟩ := opsA_one h3
    obtain ⟨X, w, tmps, H, E⟩ := B
    obtain ⟨s3, h6, h7⟩ := swap H E hcp hc (hb p (by simp)) h1 h4
    show opsA C R d (mi :: p.2 :: (L1.map (·.2) ++ L2)) (some (e, σ)) = some r
    simp only [opsA, h6, h7]
    exact h5

/-- In the order of the text. -/
theorem ops_sim (S : CodeSim C R) (hN : Sound C) {f : FuncId} {ops : Array Oper} {Q : Exit → Act → World → Prop} {ro : Option Nat} {lo : Nat} : ∀ (L : List (Nat × MO)) (e e' : Env) (σ σ' : St) (X : Ctx) (w : World) (a : Act), Placed C f ops L → opsA C R d (L.map (·.2)) (some (e, σ)) = some (e', σ') →
    Inv C X σ w → Reps X σ w a.tmps.toList e → MarksOk X σ w lo a.defers → Goes C X σ σ' w lo e' (Q .normal) → wpOpsIn (FW ro) 0 C.P ops Q (L.map (·.1)) a w
  | [], e, e', σ, σ', X, w, a, _, h, H, E, hm, hK => by
    simp only [List.map_nil, opsA, Option.some.injEq, Prod.mk.injEq] at h
    obtain ⟨rfl, rfl⟩ := h
    exact hK X w a (.refl ..) H E hm
  | p :: L, e, e', σ, σ', X, w, a, hP, h, H, E, hm, hK => by
    obtain ⟨o, ho, hc⟩ := hP p (by simp)
    obtain ⟨s1, h1, h2⟩ := opsA_one h
    rw [List.map_cons, wpOpsIn_cons]
    exact one_sim S hN ho hc h1 H E hm fun X1 w1 a1 E1 H1 ER1 m1 =>
      ops_sim S hN L s1.1 e' s1.2 σ' X1 w1 a1 (fun q hq => hP q (by simp [hq])) h2 H1 ER1 m1 fun X2 w2 a2 E2 H2 ER2 m2 => hK X2 w2 a2 (E1.trans E2) H2 ER2 m2

/-! ### In any order -/
theorem split_at {α : Type} {L : List (Nat × α)} {i : Nat} (h : i ∈ L.map (·.1)) : ∃ L1 m L2, L = L1 ++ (i, m) :: L2 := by
  obtain ⟨p, hp, rfl⟩ := List.mem_map.1 h
  obtain ⟨L1, L2, h⟩ := List.append_of_mem hp
  exact ⟨L1, p.2, L2, h⟩

structure Left (C : Cfg) (d : Bool) (f : FuncId) (ops : Array Oper) (m : Array Nat) (listed : Array Bool) (L : List (Nat × MO)) : Prop where
  placed : Placed C f ops L
  sorted : (L.map (·.1)).Pairwise (· < ·)
  mem : ∀ j, j ∈ L.map (·.1) ↔ j < ops.size ∧ listed.getD j true = false
  down : ∀ j, listed.getD j false = true → ∀ i, (m.getD j 0).testBit i = true → i < ops.size → listed.getD i false = true
  size : listed.size = ops.size
  pairs : ∀ p ∈ L, ∀ q ∈ L, p.1 < q.1 → (m.getD q.1 0).testBit p.1 = true ∨ bound C d p.2 q.2 = false

theorem listed_iff {listed : Array Bool} {j : Nat} (h : j < listed.size) : listed.getD j true = listed.getD j false := by simp [Array.getD, h]

theorem edgesOk_spec {m : Array Nat} {ops : Array Oper} (h : edgesOk m ops = true) {i : Nat} {o : Oper} (ho : ops[i]? = some o) :
    (∀ ed ∈ o.after, Region.binds .any ed = true → ed.on < i) ∧ ∀ j, j < ops.size → (m.getD i 0).testBit j = true → ∃ ed ∈ o.after, Region.binds .any ed = true ∧ (ed.on = j ∨ (m.getD ed.on 0).testBit j = true) := by
  have hi : i < ops.size := (Array.getElem?_eq_some_iff.1 ho).1
  have := List.all_eq_true.1 h i (List.mem_range.2 hi)
  rw [ho] at this
  simp only [Bool.and_eq_true] at this
  obtain ⟨h1, h2⟩ := this
  refine ⟨fun ed he hb => ?_, fun j hj ht => ?_⟩
  · have := Array.all_eq_true_iff_forall_mem.1 h1 ed he
    simpa [hb] using this
  · have := List.all_eq_true.1 h2 j (List.mem_range.2 hj)
    simp only [ht, Bool.not_true, Bool.false_or] at this
    obtain ⟨k, hk, hx⟩ := Array.any_eq_true.1 this
    simp only [Bool.and_eq_true, Bool.or_eq_true, beq_iff_eq] at hx
    exact ⟨_, Array.getElem_mem _, hx.1, hx.2⟩

theorem any_sim (S : CodeSim C R) (hN : Sound C) {f : FuncId} {ops : Array Oper} {m : Array Nat} (hE : edgesOk m ops = true) {Q : Exit → Act → World → Prop} {ro : Option Nat} {lo : Nat} : ∀ (fuel : Nat) (listed : Array Bool) (L : List (Nat × MO)) (e e' : Env) (σ σ' : St) (X : Ctx) (w : World) (a : Act),
    L.length ≤ fuel → Left C d f ops m listed L → opsA C R d (L.map (·.2)) (some (e, σ)) = some (e', σ') →
    Inv C X σ w → Reps X σ w a.tmps.toList e → MarksOk X σ w lo a.defers → Goes C X σ σ' w lo e' (Q .normal) → wpAnyIn (FW ro) 0 C.P .any ops Q fuel listed a w := by
  have idle : ∀ {listed : Array Bool} {L : List (Nat × MO)}, Left C d f ops m listed L → Region.ready .any ops listed = [] → L = [] := by
    intro listed L hL hr
    cases L with
    | nil => rfl
    | cons p L =>
      exfalso
      obtain ⟨hlt, hnot⟩ := (hL.mem p.1).1 (by simp)
      obtain ⟨o, ho, _⟩ := hL.placed p (by simp)
      have : p.1 ∈ Region.ready .any ops listed := by
        rw [mem_ready]
        refine ⟨hnot, o, ho, fun ed he hb => ?_⟩
        have hon := (edgesOk_spec hE ho).1 ed he hb
        rw [← listed_iff (by rw [hL.size]; omega)]
        cases hx : listed.getD ed.on true with
        | true => rfl
        | false =>
          exfalso
          have hmem := (hL.mem ed.on).2 ⟨by omega, hx⟩
          simp only [List.map_cons, List.mem_cons] at hmem
          rcases hmem with h | h
          · omega
          · have h9 : p.1 < ed.on := (List.pairwise_cons.1 hL.sorted).1 ed.on h
            omega
      rw [hr] at this
      cases this
  have done : ∀ {listed : Array Bool} {L : List (Nat × MO)} {e e' : Env} {σ σ' : St} {X : Ctx} {w : World} {a : Act}, L = [] → opsA C R d (L.map (·.2)) (some (e, σ)) = some (e', σ') →
      Inv C X σ w → Reps X σ w a.tmps.toList e → MarksOk X σ w lo a.defers → Goes C X σ σ' w lo e' (Q .normal) → Q .normal a w := by
    intro listed L e e' σ σ' X w a hL h H E hm hK
    subst hL
    simp only [List.map_nil, opsA, Option.some.injEq, Prod.mk.injEq] at h
    obtain ⟨rfl, rfl⟩ := h
    exact hK X w a (.refl ..) H E hm
  intro fuel
  induction fuel with
  | zero =>
    intro listed L e e' σ σ' X w a hf hL h H E hm hK
    have hnil : L = [] := List.eq_nil_of_length_eq_zero (by omega)
    refine ⟨?_, done (listed := listed) hnil h H E hm hK⟩
    rw [List.eq_nil_iff_forall_not_mem]
    intro j hj
    rw [mem_ready] at hj
    obtain ⟨h0, o, ho, _⟩ := hj
    have := (hL.mem j).2 ⟨(Array.getElem?_eq_some_iff.1 ho).1, h0⟩
    rw [hnil] at this
    cases this
  | succ fuel ih =>
    intro listed L e e' σ σ' X w a hf hL h H E hm hK
    refine ⟨fun hr => done (listed := listed) (idle hL hr) h H E hm hK, fun i hi => ?_⟩
    rw [mem_ready] at hi
    obtain ⟨h0, o, ho, hed⟩ := hi
    have hlt : i < ops.size := (Array.getElem?_eq_some_iff.1 ho).1
    obtain ⟨L1, mi, L2, rfl⟩ := split_at ((hL.mem i).2 ⟨hlt, h0⟩)
    obtain ⟨o', ho', hc⟩ := hL.placed (i, mi) (by simp)
    rw [ho] at ho'
    cases ho'
    -- all that stands before i is listed
    have hbef : ∀ j, j < ops.size → (m.getD i 0).testBit j = true → listed.getD j false = true := fun j hj ht => by
      obtain ⟨ed, he, hb, h1⟩ := (edgesOk_spec hE ho).2 j hj ht
      rcases h1 with h1 | h1
      · subst h1; exact hed ed he hb
      · exact hL.down ed.on (hed ed he hb) j h1 hj
    have hsort := hL.sorted
    simp only [List.map_append, List.map_cons, List.pairwise_append, List.pairwise_cons] at hsort
    obtain ⟨s1, ⟨s2, s3⟩, s4⟩ := hsort
    have hfree : ∀ p ∈ L1, bound C d p.2 mi = false := fun p hp => by
      have hpi : p.1 < i := s4 p.1 (List.mem_map.2 ⟨p, hp, rfl⟩) i (by simp)
      rcases hL.pairs p (by simp [hp]) (i, mi) (by simp) hpi with hb | hb
      · exfalso
        obtain ⟨hps, hpl⟩ := (hL.mem p.1).1 (List.mem_map.2 ⟨p, by simp [hp], rfl⟩)
        have := hbef p.1 hps hb
        rw [listed_iff (by rw [hL.size]; exact hps)] at hpl
        rw [hpl] at this
        cases this
      · exact hb
    have h' : opsA C R d (L1.map (·.2) ++ mi :: L2.map (·.2)) (some (e, σ)) = some (e', σ') := by simpa using h
    have h2 := front S hN ho hc L1 (L2.map (·.2)) e σ _ (fun p hp => hL.placed p (by simp [hp])) hfree ⟨X, w, a.tmps, H, E⟩ h'
    obtain ⟨s, h3, h4⟩ := opsA_one h2
    refine one_sim S hN ho hc h3 H E hm fun X1 w1 a1 E1 H1 ER1 m1 => ?_
    refine ih (listed.setIfInBounds i true) (L1 ++ L2) s.1 e' s.2 σ' X1 w1 a1 (by simp at hf ⊢; omega) ?_ (by simpa using h4) H1 ER1 m1 fun X2 w2 a2 E2 H2 ER2 m2 => hK X2 w2 a2 (E1.trans E2) H2 ER2 m2
    have hset : ∀ j, j < ops.size → ((listed.setIfInBounds i true).getD j true = false ↔ j ≠ i ∧ listed.getD j true = false) := fun j hj => by
      by_cases hji : i = j
      · subst hji
        have : (listed.setIfInBounds i true).getD i true = true := by simp [Array.getD, hL.size, hj]
        rw [this]; simp
      · rw [getD_set_ne true hji]
        simp [Ne.symm hji]
    have hni : i ∉ (L1 ++ L2).map (·.1) := by
      rw [List.map_append, List.mem_append]
      rintro (h | h)
      · exact absurd (s4 i h i (by simp)) (Nat.lt_irrefl _)
      · exact absurd (s2 i h) (Nat.lt_irrefl _)
    exact
      { placed := fun p hp => hL.placed p (by rcases List.mem_append.1 hp with h | h <;> simp [h])
        sorted := by
          rw [List.map_append, List.pairwise_append]
          exact ⟨s1, s3, fun x hx y hy => s4 x hx y (by simp [hy])⟩
        mem := fun j => by
          have hj := hL.mem j
          simp only [List.map_append, List.map_cons, List.mem_append, List.mem_cons] at hj hni ⊢
          constructor
          · intro hin
            have h5 := hj.1 (by rcases hin with h | h <;> simp [h])
            refine ⟨h5.1, (hset j h5.1).2 ⟨fun he => ?_, h5.2⟩⟩
            subst he
            exact hni hin
          · rintro ⟨h5, h6⟩
            obtain ⟨h7, h8⟩ := (hset j h5).1 h6
            rcases hj.2 ⟨h5, h8⟩ with h | h | h
            · exact .inl h
            · exact absurd h h7
            · exact .inr h
        down := fun j hj k hk hks => by
          by_cases hji : i = j
          · subst hji
            exact getD_set_true (hbef k hks hk)
          · rw [getD_set_ne false hji] at hj
            exact getD_set_true (hL.down j hj k hk hks)
        size := by rw [Array.size_setIfInBounds]; exact hL.size
        pairs := fun p hp q hq => hL.pairs p (by rcases List.mem_append.1 hp with h | h <;> simp [h]) q (by rcases List.mem_append.1 hq with h | h <;> simp [h]) }

/-! ### A region -/
theorem zip_map_snd {α : Type} : ∀ (n k : Nat) (l : List α), l.length = n → ((List.range' k n).zip l).map (·.2) = l ∧ ((List.range' k n).zip l).map (·.1) = List.range' k n
  | 0, k, [], _ => by simp
  | n + 1, k, x :: l, h => by
    obtain ⟨h1, h2⟩ := zip_map_snd n (k + 1) l (by simpa using h)
    simp only [List.range'_succ, List.zip_cons_cons, List.map_cons, h1, h2, and_self]
  | 0, k, _ :: _, h => by simp at h
  | n + 1, k, [], h => by simp at h

theorem pairsOk_spec {m : Array Nat} {l : List MO} (h : pairsOk C d m l = true) {i j : Nat} {a b : MO} (ha : l[i]? = some a) (hb : l[j]? = some b) (hij : i < j) : (m.getD j 0).testBit i = true ∨ bound C d a b = false := by
  have := List.all_eq_true.1 (List.all_eq_true.1 h j (List.mem_range.2 (lt_of_some hb))) i (List.mem_range.2 hij)
  rw [ha, hb] at this
  simpa using this

theorem region_sim (S : CodeSim C R) (hN : Sound C) {f : FuncId} {id : Nat} {ops : Array Oper} {dr : Bool} {l : List MO} (hl : ops.toList.mapM (compO C f ops.toList) = some l) (hd : dr = true → drawOk C d ops l = true) {e e' : Env} (h : opsA C R d l (some (e, σ)) = some (e', σ'))
    {ro : Option Nat} {lo : Nat} {a : Act} (H : Inv C X σ w) (E : Reps X σ w a.tmps.toList e) (hm : MarksOk X σ w lo a.defers) {Q : Exit → Act → World → Prop} (hK : Goes C X σ σ' w lo e' (Q .normal)) : (Code.region id ops dr).wpIn (FW ro) 0 C.P Q a w := by
  obtain ⟨l1, l2⟩ := mapM_get hl
  have hlen : l.length = ops.size := by simpa using l1
  obtain ⟨z1, z2⟩ := zip_map_snd ops.size 0 l hlen
  have hget : ∀ p ∈ (List.range' 0 ops.size).zip l, l[p.1]? = some p.2 := fun p hp => by
    obtain ⟨i, hi⟩ := List.mem_iff_getElem?.1 hp
    rw [List.getElem?_zip_eq_some] at hi
    obtain ⟨h1, h2⟩ := hi
    have hi' : i < ops.size := by have := lt_of_some h2; omega
    rw [List.getElem?_range' (by simpa using hi')] at h1
    simp only [Nat.zero_add, Nat.one_mul, Option.some.injEq] at h1
    rw [← h1]; exact h2
  have hplaced : Placed C f ops ((List.range' 0 ops.size).zip l) := fun p hp => by
    have hp' := hget p hp
    obtain ⟨o, ho⟩ := some_of_size (l := ops) (i := p.1) (by have := lt_of_some hp'; omega)
    exact ⟨o, ho, l2 p.1 o p.2 (by simpa using ho) hp'⟩
  cases dr with
  | false =>
    refine wpIn_region ?_
    rw [List.range_eq_range', ← z2]
    exact ops_sim S hN _ e e' σ σ' X w a hplaced (by rw [z1]; exact h) H E hm hK
  | true =>
    have hd := hd rfl
    simp only [drawOk, Bool.and_eq_true] at hd
    obtain ⟨⟨d1, d2⟩, d3⟩ := hd
    refine wpIn_region_any d1 ?_
    refine any_sim (f := f) S hN d2 ops.size _ ((List.range' 0 ops.size).zip l) e e' σ σ' X w.drew a (by simp [hlen]) ?_ (by rw [z1]; exact h) (inv_drew H) (E.mono (ext_drew X σ w)) (hm.mono (ext_drew X σ w)) fun X' w' a' E' H' ER' m' => hK X' w' a' ((ext_drew X σ w).trans E') H' ER' m'
    exact
      { placed := hplaced
        sorted := by rw [z2]; exact List.pairwise_lt_range'
        mem := fun j => by
          rw [z2]
          simp only [List.mem_range'_1, Nat.zero_le, true_and, Nat.zero_add]
          constructor
          · intro hj; exact ⟨hj, by simp [Array.getD, hj]⟩
          · intro hj; exact hj.1
        down := fun j hj => by
          exfalso
          rcases Nat.lt_or_ge j ops.size with hlt | hge
          · simp [Array.getD, hlt] at hj
          · simp [Array.getD, Nat.not_lt.2 hge] at hj
        size := by simp
        pairs := fun p hp q hq hpq => pairsOk_spec d3 (hget p hp) (hget q hq) hpq }
end
end Go.Ai
