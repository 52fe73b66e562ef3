/- This text shows what opened answers. No conditions of its own. -/
import Derived.Test.YtknklhodhkohlaaDoorFnC
set_option linter.unusedSimpArgs false
set_option linter.unusedVariables false
set_option maxRecDepth 100000
namespace Go.Ai
open Go.Cold (Mv Hd Bk Tr coughsT illT rightT keptH butF awayL)
structure WX where
  x : CB
  h : HV
  K : List Hd
  am : BM
  aw : Nat → Int → Bool
  L : Lp
structure WX.Ok (X : WX) : Prop where
  x : X.x.Ok
  f : X.x.Fine
  h : X.h.Ok
  aw : AwOk X.x X.am X.aw
  row : ∃ r, IsRow 3 (hdRow X.K) r ∧ ∀ σ n, pur σ (n + 1) X.h.v = some (r, false)
  lk : X.K.length < 1000
  K : ∀ h ∈ X.K, 0 ≤ h.bed ∧ h.bed < 5
  L : ∀ a nc, 4 ≤ a → X.h.ch.length ≤ nc → X.L.env.all (under a nc 1 1 6) = true
def WX.c (X : WX) (t : Tr) : List AV := trC t (caughtA X.x X.aw t)
def WX.row' (X : WX) (T : List Tr) : List AV := T.map fun t => .agg (X.c t)
def WX.tv (X : WX) (T : List Tr) : AV := growV X.h.ch.length 9 (X.row' T)
def WX.base (X : WX) (T : List Tr) : List (List AV) := [X.x.cells, zero13, oC' X.x X.h (X.tv T)]
def WX.st (X : WX) (T : List Tr) (E : List (List AV)) : St := { boxes := X.base T ++ E, chains := X.h.ch ++ growC 9 (X.row' T), maps := [(ksM X.am, vsM X.am)], loops := [X.L] }
theorem row_ne {X : WX} {T : List Tr} : X.row' T = [] ↔ T = [] := by simp [WX.row']
theorem cut_keep (σ σ' : St) (e : Env) (h2 : dryAt σ'.chains.length σ σ' e = true) (h1 : σ'.chains.length = σ.chains.length ∨ dryAt σ.chains.length σ σ' e = false) : cut σ σ' e = cutAt σ'.chains.length σ σ' := by
  unfold cut
  rcases h1 with h | h
  · rw [← h, h2]; rfl
  · rw [h, h2]; rfl
theorem tv_under (X : WX) (T : List Tr) (a nc c d n : Nat) : under a nc c d (n + 1) (X.tv T) = decide (T = [] ∨ X.h.ch.length < nc) := by
  unfold WX.tv
  by_cases h : T = []
  · rw [row_ne.2 h]; simp [growV, under, h]
  · rw [growV_some _ _ fun hh => h (row_ne.1 hh)]; simp [under, h]
theorem w_len (X : WX) (T : List Tr) (E : List (List AV)) : (X.base T ++ E).length = 3 + E.length := by rw [List.length_append]; rfl
theorem ch_len (X : WX) (T : List Tr) : (X.h.ch ++ growC 9 (X.row' T)).length = X.h.ch.length + if T = [] then 0 else 1 := by
  rw [List.length_append]
  by_cases h : T = []
  · rw [row_ne.2 h, if_pos h]; rfl
  · rw [growC_some _ fun hh => h (row_ne.1 hh), if_neg h]; rfl
theorem base_under (X : WX) (hX : X.Ok) (T : List Tr) (a nc : Nat) (ha : 3 ≤ a) (h1 : X.h.ch.length ≤ nc) (hc : T = [] ∨ X.h.ch.length < nc) : (X.base T).all (fun cs => cs.all (under a nc 1 1 6)) = true := by
  have q1 := hX.x.mrow.under a nc 1 1 5
  have q2 := hX.x.hrow.under a nc 1 1 5
  have q3 := hX.h.un' a nc 1 1 5 h1
  have q4 : under a nc 1 1 6 (X.tv T) = true := by rw [tv_under, decide_eq_true_eq]; exact hc
  simp [WX.base, CB.cells, zero13, oC', under, q1, q2, q3, q4]
def underE (X : WX) (a : Nat) (E : List (List AV)) : Prop := ∀ nc, X.h.ch.length ≤ nc → E.all (fun cs => cs.all (under a nc 1 1 6)) = true
theorem w_cut (X : WX) (hX : X.Ok) (T T' : List Tr) (hT : T' = [] → T = []) (E0 E F : List (List AV)) (hl : E0.length = E.length) (hE : underE X (3 + E.length) E) (e : Env) (he : ∀ nc, X.h.ch.length ≤ nc → e.all (under (3 + E.length) nc 1 1 6) = true) (hlen : 1 ≤ E.length := by first | assumption | simp) : cut (X.st T E0) (X.st T' (E ++ F)) e = X.st T' E := by
  have ht : (X.base T' ++ (E ++ F)).take (3 + E.length) = X.base T' ++ E := by
    rw [← List.append_assoc, List.take_left']
    rw [w_len]
  have hc' : T' = [] ∨ X.h.ch.length < (X.h.ch ++ growC 9 (X.row' T')).length := by
    rw [ch_len]; by_cases h : T' = [] <;> simp [h]
  have hle : X.h.ch.length ≤ (X.h.ch ++ growC 9 (X.row' T')).length := by rw [ch_len]; omega
  have h2 : dryAt (X.h.ch ++ growC 9 (X.row' T')).length (X.st T E0) (X.st T' (E ++ F)) e = true := by
    simp only [dryAt, WX.st, w_len, hl, ht, List.length_singleton, List.take_succ_cons, List.take_zero, List.all_cons, List.all_nil, Bool.and_true, List.all_append, Bool.and_eq_true]
    exact ⟨⟨⟨he _ hle, base_under X hX T' _ _ (by omega) hle hc', hE _ hle⟩, ks_under _ _ _ _ 4 _, vs_under _ _ _ _ 5 _⟩, hX.L _ _ (by omega) hle⟩
  have h1 : (X.h.ch ++ growC 9 (X.row' T')).length = (X.h.ch ++ growC 9 (X.row' T)).length ∨ dryAt (X.h.ch ++ growC 9 (X.row' T)).length (X.st T E0) (X.st T' (E ++ F)) e = false := by
    by_cases h : T = []
    · by_cases h' : T' = []
      · left; rw [h, h']
      · right
        have hz : under (3 + E.length) (X.h.ch ++ growC 9 (X.row' T)).length 1 1 6 (X.tv T') = false := by
          rw [tv_under, ch_len, if_pos h]; simp [h']
        simp only [dryAt, WX.st, w_len, hl, ht, List.length_singleton, List.take_succ_cons, List.take_zero, List.all_cons, List.all_nil, Bool.and_true, List.all_append]
        have : (X.base T').all (fun cs => cs.all (under (3 + E.length) (X.h.ch ++ growC 9 (X.row' T)).length 1 1 6)) = false := by
          rw [Bool.eq_false_iff]
          intro hall
          have h3 := List.all_eq_true.1 hall (oC' X.x X.h (X.tv T')) (by simp [WX.base])
          have h4 := List.all_eq_true.1 h3 (X.tv T') (by simp [oC'])
          rw [hz] at h4
          cases h4
        rw [this]; simp
    · left
      have h' : T' ≠ [] := fun h' => h (hT h')
      rw [ch_len, ch_len, if_neg h, if_neg h']
  rw [cut_keep _ _ _ h2 h1]
  simp only [cutAt, WX.st, w_len, hl, ht, List.take_length]
  simp
theorem callA_yld {C : Cfg} {R : Rec} {d : Bool} {l : Nat} {args : List AV} {σ : St} : callA C R d (.yld l) args σ = roundA R l args σ := rfl
theorem spread_callA (X : WX) (hX : X.Ok) (T : List Tr) (E : List (List AV)) (t : Tr) (hb : (t.bed : Int) < X.x.beds) (h0 : 0 ≤ t.day) (hD : t.day < X.x.days) (hg1 : 1 ≤ t.goes) (hg3 : t.goes ≤ 3) (c : Nat → Int) :
    callA Cv (run Cv) false (.fn (.func 89) [] []) [.agg (oC' X.x X.h .nils), .agg (trC t c)] (X.st T E) = some (.agg (arr (caughtA X.x X.aw t)), X.st T E) := by
  obtain ⟨r, hr, hp⟩ := hX.row
  have hx' : ({ X.x with hr := r, hs := X.K } : CB).Ok := ⟨hX.x.mrow, hr, hX.x.lm, by have := hX.lk; show X.K.length < 2 ^ 47; omega⟩
  have := spread_call { X.x with hr := r, hs := X.K } hx' hX.f.b1 hX.f.b5 hX.f.d6 X.am X.aw hX.aw .nils ⟨[], .inl ⟨rfl, rfl⟩⟩ t hb h0 hD hg1 hg3 c
  have hpu : purAll (pur (X.st T E) 12) ([] ++ [.agg (oC' X.x X.h .nils), .agg (trC t c)] ++ []) = some ([.agg (bkC { X.x with hr := r, hs := X.K } X.am .nils), .agg (trC t c)], true) := by
    have h1 : (X.st T E).maps[0]? = some (ksM X.am, vsM X.am) := rfl
    have p1 := hX.x.mrow.pur
    simp [purAll, pur, oC', bkC, CB.cells, trC, arr, h1, ks_pur, vs_pur, p1, hp]
  rw [ca_none (by rfl), hpu]
  simp only [pureCallA, pureA_call, this, backA, if_true]
  rfl
theorem right_callA (X : WX) (hX : X.Ok) (T : List Tr) (E : List (List AV)) (t : Tr) (c : Nat → Int) (hc : ∀ i, i < 5 → -1 ≤ c i ∧ c i ≤ 100) (ho : 0 ≤ t.out ∧ t.out ≤ 100) :
    callA Cv (run Cv) false (.fn (.func 93) [.agg (oC' X.x X.h .nils)] []) [.agg (trC t c)] (X.st T E) = some (.bool (rightB X.K t c), X.st T E) := by
  obtain ⟨r, hr, hp⟩ := hX.row
  have := right_call X.x hX.x X.am .nils ⟨[], .inl ⟨rfl, rfl⟩⟩ X.K r hr (by have := hX.lk; omega) hX.K t c hc ho
  have hpu : purAll (pur (X.st T E) 12) ([.agg (oC' X.x X.h .nils)] ++ [.agg (trC t c)] ++ []) = some ([.agg (bkC { X.x with hr := r } X.am .nils), .agg (trC t c)], true) := by
    have h1 : (X.st T E).maps[0]? = some (ksM X.am, vsM X.am) := rfl
    have p1 := hX.x.mrow.pur
    simp [purAll, pur, oC', bkC, CB.cells, trC, arr, h1, ks_pur, vs_pur, p1, hp]
  rw [ca_none (by rfl), hpu]
  simp only [pureCallA, pureA_call, this, backA, if_true]
  rfl
end Go.Ai

set_option maxRecDepth 100000
namespace Go.Ai
open Go.Cold (Mv Hd Bk Tr coughsT illT rightT keptH butF awayL)
def WX.stc (X : WX) (T : List Tr) (ch : List (Nat × Nat)) (E : List (List AV)) : St := { boxes := X.base T ++ E, chains := ch, maps := [(ksM X.am, vsM X.am)], loops := [X.L] }
theorem w_boxes (X : WX) (T : List Tr) (E : List (List AV)) : (X.st T E).boxes.length = 3 + E.length := w_len X T E
theorem w_alloc (X : WX) (T : List Tr) (E : List (List AV)) {C : Cfg} {R : Rec} {d : Bool} {e : Env} (z : List AV) : operA C R d e (X.st T E) (.alloc z) = some (.box (3 + E.length) 0, X.st T (E ++ [z])) := by
  rw [op_alloc, w_boxes]
  simp only [WX.st, List.append_assoc]
theorem w_get (X : WX) (T : List Tr) (E F : List (List AV)) {q : Nat} (cs : List AV) (hF : F[q]? = some cs) : (X.base T ++ (E ++ F))[3 + E.length + q]? = some cs := by
  rw [← List.append_assoc, List.getElem?_append_right (by rw [w_len]; omega), w_len, show 3 + E.length + q - (3 + E.length) = q by omega, hF]
theorem w_load (X : WX) (T : List Tr) (E F : List (List AV)) {q : Nat} (cs : List AV) (hF : F[q]? = some cs) (n : Option Nat) (off p : Nat) (hp : p = 3 + E.length + q) : loadA (X.st T (E ++ F)) n (.box p off) = partA n cs off := by
  subst hp
  simp only [loadA, WX.st, w_get X T E F cs hF, Option.bind_some]
theorem w_store (X : WX) (T : List Tr) (E F : List (List AV)) {q : Nat} (cs : List AV) (hF : F[q]? = some cs) (n : Nat) (off p : Nat) (hp : p = 3 + E.length + q) (v : AV) (h1 : v.cells.length = n) (h2 : off + n ≤ cs.length) (h3 : v.cells.all AV.isCell = true) : storeA (X.st T (E ++ F)) n (.box p off) v = some (X.st T (E ++ F.set q (setAt cs off v.cells))) := by
  subst hp
  have ro : (X.st T (E ++ F)).ro = 0 := rfl
  have hb : (X.st T (E ++ F)).boxes[3 + E.length + q]? = some cs := w_get X T E F cs hF
  simp only [storeA, hb, Option.bind_some, ro, Nat.zero_le, h1, h2, h3, and_self, if_true]
  simp only [WX.st]
  congr 2
  rw [← List.append_assoc, List.set_append_right _ _ (by rw [w_len]; omega), w_len, show 3 + E.length + q - (3 + E.length) = q by omega, List.append_assoc]
theorem w_loadT (X : WX) (T : List Tr) (E : List (List AV)) : loadA (X.st T E) none (.box 2 12) = some (X.tv T) := by
  have : (X.base T ++ E)[2]? = (X.base T)[2]? := List.getElem?_append_left (by show 2 < 3; omega)
  simp only [loadA, WX.st, this]
  rfl
theorem w_app (X : WX) (T : List Tr) (hT : T.length < 100000) (E : List (List AV)) (t : Tr) : appA (X.st T E) false 9 72 true (X.tv T) (.sl 9 [.agg (X.c t)] .full) = some (X.tv (T ++ [t]), X.stc T (X.h.ch ++ growC 9 (X.row' (T ++ [t]))) E) := by
  have hl : (X.row' T).length = T.length := by simp [WX.row']
  have := app_row (X.base T ++ E) [(ksM X.am, vsM X.am)] [X.L] X.h.ch (X.row' T) (.agg (X.c t)) 9 72 true (by omega) X.h.ch.length rfl
  have e : X.row' (T ++ [t]) = X.row' T ++ [.agg (X.c t)] := by simp [WX.row']
  unfold WX.tv WX.stc
  rw [e]
  exact this
theorem w_storeT (X : WX) (T T' : List Tr) (E : List (List AV)) : storeA (X.stc T (X.h.ch ++ growC 9 (X.row' T')) E) 1 (.box 2 12) (X.tv T') = some (X.st T' E) := by
  have h1 : (X.tv T').isCell = true := growV_cell _ _ _
  have h2 : (X.tv T').cells = [X.tv T'] := growV_cells _ _ _
  simp [storeA, WX.stc, WX.st, WX.base, oC', h1, h2, setAt]
def lpY (z : AV) (l : List (Nat × AV)) : Lp := { f := 57, env := mkE 72 z l, ps := [64], asg := asg57_3, body := body57_3, st := .ready, pend := none }
def WX.busy (X : WX) : WX := { X with L := { X.L with st := .busy } }
theorem c9 (X : WX) (t : Tr) : (X.c t).length = 9 := rfl
theorem c_cell (X : WX) (t : Tr) : (X.c t).all AV.isCell = true := rfl
theorem part9 {cs : List AV} (h : cs.length = 9) : partA (some 9) cs 0 = some (.agg cs) := by
  simp [partA, h]
  exact List.take_of_length_le (by omega)
theorem body_yield (X : WX) (z : AV) (l : List (Nat × AV)) (h5 : gt (mkE 72 z l) 5 = .box 2 0) (T : List Tr) (hT : T.length < 100000) (E : List (List AV)) (t : Tr) :
    ∃ e, run Cv 57 body57_3 (mkE 72 z ((11, .box (3 + E.length) 0) :: (64, .agg (X.c t)) :: l)) (X.st T (E ++ [X.c t])) = some (.nm, e, X.st (T ++ [t]) (E ++ [X.c t])) := by
  have h1 := w_app X T hT (E ++ [X.c t]) t
  have h2 := w_storeT X T (T ++ [t]) (E ++ [X.c t])
  have h3 := w_loadT X T (E ++ [X.c t])
  have h4 := w_load X T E [X.c t] (q := 0) (X.c t) rfl (some 9) 0 (3 + E.length) rfl
  rw [part9 (c9 X t)] at h4
  have hf : fillE 9 true [(0, .agg (X.c t))] [.agg [I 0, I 0, I 0, I 0, I 0, I 0, I 0, I 0, I 0]] = some [.agg (X.c t)] := by
    simp [fillE, depth, WX.c, trC, arr, AV.isAgg]
  have hr : List.replicate 1 (AV.agg [I 0, I 0, I 0, I 0, I 0, I 0, I 0, I 0, I 0]) = [.agg [I 0, I 0, I 0, I 0, I 0, I 0, I 0, I 0, I 0]] := rfl
  simp (maxSteps := 10000000) [-List.getD_eq_getElem?_getD, -loadA, -storeA, -boxA, -cut, body57_3, h5, h1, h2, h3, h4, hf, hr]
theorem round_yield (X : WX) (hX : X.Ok) (z : AV) (l : List (Nat × AV)) (hL : X.L = lpY z l) (h5 : gt (mkE 72 z l) 5 = .box 2 0) (T : List Tr) (hT : T.length < 100000) (E : List (List AV)) (hE : underE X (3 + E.length) E) (t : Tr) (hlen : 1 ≤ E.length := by first | assumption | simp) :
    roundA (run Cv) 0 [.agg (X.c t)] (X.st T E) = some (.bool true, X.st (T ++ [t]) E) := by
  obtain ⟨e, hb⟩ := body_yield X.busy z l h5 T hT E t
  have hasg : run Cv 57 asg57_3 (mkE 72 z ((64, .agg (X.c t)) :: l)) (X.st T E) = some (.nm, mkE 72 z ((11, .box (3 + E.length) 0) :: (64, .agg (X.c t)) :: l), X.st T (E ++ [X.c t])) := by
    have hal := fun R e => w_alloc X T E (C := Cv) (R := R) (d := false) (e := e) [I 0, I 0, I 0, I 0, I 0, I 0, I 0, I 0, I 0]
    have hst := w_store X T E [[I 0, I 0, I 0, I 0, I 0, I 0, I 0, I 0, I 0]] (q := 0) _ rfl 9 0 (3 + E.length) rfl (.agg (X.c t)) (c9 X t) (by decide) (c_cell X t)
    have hset : [[I 0, I 0, I 0, I 0, I 0, I 0, I 0, I 0, I 0]].set 0 (setAt [I 0, I 0, I 0, I 0, I 0, I 0, I 0, I 0, I 0] 0 (AV.agg (X.c t)).cells) = [X.c t] := rfl
    rw [hset] at hst
    simp (maxSteps := 10000000) [-List.getD_eq_getElem?_getD, -loadA, -storeA, -boxA, -cut, -op_alloc, asg57_3, hal, hst]
  have hbusy : busyA 0 (X.st T (E ++ [X.c t])) = some (X.busy.st T (E ++ [X.c t])) := by
    simp [busyA, WX.st, hL, lpY, WX.busy]
    exact ⟨rfl, rfl⟩
  have hloop : (X.st T E).loops[0]? = some X.L := rfl
  have hl2 : (X.busy.st (T ++ [t]) (E ++ [X.c t])).loops[0]? = some X.busy.L := rfl
  have hcut := w_cut X hX T (T ++ [t]) (fun h => by simp at h) E E [X.c t] rfl hE [.bool true] (fun _ _ => rfl)
  simp only [roundA, hloop]
  rw [show X.L.ps = [64] from by rw [hL]; rfl, show X.L.f = 57 from by rw [hL]; rfl, show X.L.asg = asg57_3 from by rw [hL]; rfl, show X.L.env = mkE 72 z l from by rw [hL]; rfl]
  simp only [List.length_singleton, if_true, List.zip_cons_cons, List.zip_nil_right, List.foldl_cons, List.foldl_nil, mkE_set, hasg, innerA, hbusy, bodyRun]
  rw [show X.L.f = 57 from by rw [hL]; rfl, show X.L.body = body57_3 from by rw [hL]; rfl]
  have hb' : run Cv 57 body57_3 (mkE 72 z ((11, .box (3 + E.length) 0) :: (64, .agg (X.c t)) :: l)) (X.busy.st T (E ++ [X.c t])) = some (.nm, e, X.busy.st (T ++ [t]) (E ++ [X.c t])) := hb
  rw [hb']
  have hput : putLoop 0 (fun L => { L with st := .ready, pend := none }) (.bool true) (X.busy.st (T ++ [t]) (E ++ [X.c t])) = some (.bool true, X.st (T ++ [t]) (E ++ [X.c t])) := by
    simp [putLoop, hl2]
    simp [WX.st, WX.busy, hL, lpY]
    exact ⟨rfl, rfl⟩
  simp only [leaveA, hput, cutR, hcut]
end Go.Ai

set_option maxRecDepth 100000
namespace Go.Ai
open Go.Cold (Mv Hd Bk Tr coughsT illT rightT keptH butF awayL caughtT lineF line_first)
def WX.cp (X : WX) : List AV := oC' X.x X.h .nils
def rightV (X : WX) : AV := .fn (.func 93) [.agg X.cp] []
structure WX.Go (X : WX) : Prop extends WX.Ok X where
  loop : ∃ z l, X.L = lpY z l ∧ gt (mkE 72 z l) 5 = .box 2 0
theorem caughtA_range {X : WX} (hX : X.Ok) {t : Tr} (hb : (t.bed : Int) < X.x.beds) (h0 : 0 ≤ t.day) (hD : t.day < X.x.days) (hg1 : 1 ≤ t.goes) (i : Nat) : -1 ≤ caughtA X.x X.aw t i ∧ caughtA X.x X.aw t i ≤ 100 := by
  unfold caughtA
  split
  · rename_i h
    have hd6 := hX.f.d6
    have h1 := Go.Cold.line_lt (D := X.x.days) (aw := X.aw) (g := t.goes) (day := t.day) (b := t.bed) (B := X.x.beds.toNat) hD (by omega) (i := i) (by omega) (by omega)
    have h2 : -1 ≤ caughtT X.x.beds.toNat X.x.days X.aw t i := by
      by_cases hi : i = t.bed
      · subst hi
        have : caughtT X.x.beds.toNat X.x.days X.aw t t.bed = t.day := line_first
        omega
      · rcases Go.Cold.line_pos (D := X.x.days) (aw := X.aw) (g := t.goes) (day := t.day) (b := t.bed) (B := X.x.beds.toNat) h0 (by omega) (by omega) (i := i) (by omega) hi with h | h
        · have : caughtT X.x.beds.toNat X.x.days X.aw t i = -1 := h
          omega
        · have : t.day < caughtT X.x.beds.toNat X.x.days X.aw t i := h
          omega
    have h3 : caughtT X.x.beds.toNat X.x.days X.aw t i < X.x.days := h1
    omega
  · omega
theorem caught_own {X : WX} {t : Tr} (hb : (t.bed : Int) < X.x.beds) : caughtA X.x X.aw t t.bed = t.day := by
  unfold caughtA
  rw [if_pos hb]
  exact line_first
theorem not_nobody (c : Nat → Int) {b : Nat} (hb : b < 5) (h : c b ≠ -1) : eqCells [I (c 0), I (c 1), I (c 2), I (c 3), I (c 4)] [I (-1), I (-1), I (-1), I (-1), I (-1)] = some false := by
  simp only [eqCells, Option.map_some, Bool.and_true]
  have : b = 0 ∨ b = 1 ∨ b = 2 ∨ b = 3 ∨ b = 4 := by omega
  rcases this with rfl | rfl | rfl | rfl | rfl <;> simp [h]
def head92a (X : WX) (bed : Nat) (day out g : Int) : Env := mkE 97 .any [(29, I day), (28, I (X.x.until_ + 1)), (15, I bed), (14, I X.x.beds), (8, I g), (7, I out), (6, .box 4 0), (4, I bed), (3, rightV X), (1, .box 3 0), (0, .yld 0)]
def spotC (bed : Nat) (day : Int) : List AV := [I bed, I day]
theorem cp_under (X : WX) (hX : X.Ok) (a nc : Nat) (h1 : X.h.ch.length ≤ nc) : X.cp.all (under a nc 1 1 6) = true := by
  have q1 := hX.x.mrow.under a nc 1 1 5
  have q3 := hX.h.un' a nc 1 1 5 h1
  simp [WX.cp, oC', under, q1, q3]
theorem cp_under' (X : WX) (hX : X.Ok) (a nc : Nat) (h1 : X.h.ch.length ≤ nc) : under a nc 1 1 6 (rightV X) = true := by
  have q1 := hX.x.mrow.under a nc 1 1 3
  have q3 := hX.h.un' a nc 1 1 3 h1
  simp [rightV, WX.cp, oC', under, q1, q3]
theorem round92a (X : WX) (hX : X.Go) (T : List Tr) (hT : T.length < 100000) (t : Tr) (hb : (t.bed : Int) < X.x.beds) (h0 : 0 ≤ t.day) (hD : t.day < X.x.days) (ho : 0 ≤ t.out ∧ t.out ≤ 3) (hg1 : 1 ≤ t.goes) (hg : t.goes ≤ X.x.gH) :
    run Cv 92 (.loop keep92_0 body92_0) (head92a X t.bed t.day t.out t.goes) (X.st T [X.cp, spotC t.bed t.day]) = run Cv 92 (.loop keep92_0 body92_0) (head92a X t.bed t.day t.out (t.goes + 1)) (X.st (if rightB X.K t (caughtA X.x X.aw t) then T ++ [t] else T) [X.cp, spotC t.bed t.day]) := by
  obtain ⟨z, l, hL, h5⟩ := hX.loop
  have hX' := hX.toOk
  have hg3 := hX'.f.g3
  have hb5 := hX'.f.b5
  have w1 : IntKind.wrap .i64 (t.goes + 1) = t.goes + 1 := wrap_small (by omega) (by omega)
  have hr := caughtA_range hX' hb h0 hD hg1
  have hS := spread_callA X hX' T [X.cp, spotC t.bed t.day, trC t (fun _ => 0)] t hb h0 hD hg1 (by omega) (fun _ => 0)
  have hR := right_callA X hX' T [X.cp, spotC t.bed t.day, X.c t] t (caughtA X.x X.aw t) (fun i _ => hr i) ⟨ho.1, by omega⟩
  have hE : underE X (3 + 3) [X.cp, spotC t.bed t.day, X.c t] := fun nc hle => by
    have := cp_under X hX' 6 nc hle
    simp only [List.all_cons, this, List.all_nil, Bool.and_true, Bool.true_and]
    rfl
  have hY := round_yield X hX' z l hL h5 T hT [X.cp, spotC t.bed t.day, X.c t] hE t
  have hne := not_nobody (caughtA X.x X.aw t) (b := t.bed) (by omega) (by rw [caught_own hb]; omega)
  have ld1 := fun n off => w_load X T [] [X.cp, spotC t.bed t.day] (q := 0) X.cp rfl n off 3 rfl
  have ld2 := fun n off => w_load X T [] [X.cp, spotC t.bed t.day] (q := 1) (spotC t.bed t.day) rfl n off 4 rfl
  have le1 := fun q n off => w_load X T [] [X.cp, spotC t.bed t.day, q] (q := 0) X.cp rfl n off 3 rfl
  have le3 := fun q n off => w_load X T [] [X.cp, spotC t.bed t.day, q] (q := 2) q rfl n off 5 rfl
  have hal := fun R e => w_alloc X T [X.cp, spotC t.bed t.day] (C := Cv) (R := R) (d := false) (e := e) [I 0, I 0, I 0, I 0, I 0, I 0, I 0, I 0, I 0]
  have st1 := w_store X T [] [X.cp, spotC t.bed t.day, [I 0, I 0, I 0, I 0, I 0, I 0, I 0, I 0, I 0]] (q := 2) _ rfl 9 0 5 rfl (.agg (trC t fun _ => 0)) rfl (by decide) rfl
  have st2 := w_store X T [] [X.cp, spotC t.bed t.day, trC t fun _ => 0] (q := 2) _ rfl 5 4 5 rfl (.agg (arr (caughtA X.x X.aw t))) rfl (by show 4 + 5 ≤ 9; omega) rfl
  have hs1 : [X.cp, spotC t.bed t.day, [I 0, I 0, I 0, I 0, I 0, I 0, I 0, I 0, I 0]].set 2 (setAt [I 0, I 0, I 0, I 0, I 0, I 0, I 0, I 0, I 0] 0 (AV.agg (trC t fun _ => 0)).cells) = [X.cp, spotC t.bed t.day, trC t fun _ => 0] := rfl
  have hs2 : [X.cp, spotC t.bed t.day, trC t fun _ => 0].set 2 (setAt (trC t fun _ => 0) 4 (AV.agg (arr (caughtA X.x X.aw t))).cells) = [X.cp, spotC t.bed t.day, X.c t] := rfl
  rw [hs1] at st1
  rw [hs2] at st2
  have pa1 : partA none X.cp 7 = some (I X.x.gH) := rfl
  have pa2 : partA (some 13) X.cp 0 = some (.agg X.cp) := rfl
  have pa3 : partA (some 9) (trC t fun _ => 0) 0 = some (.agg (trC t fun _ => 0)) := rfl
  have pa4 : partA (some 9) (X.c t) 0 = some (.agg (X.c t)) := rfl
  have pa5 : partA (some 5) (X.c t) 4 = some (.agg (arr (caughtA X.x X.aw t))) := rfl
  have pa6 : partA (some 2) (spotC t.bed t.day) 0 = some (.agg [I t.bed, I t.day]) := rfl
  have hbld : fillA [(0, 2, .agg [I t.bed, I t.day]), (2, 1, I t.out), (3, 1, I t.goes)] [I 0, I 0, I 0, I 0, I 0, I 0, I 0, I 0, I 0] = some (trC t fun _ => 0) := rfl
  have hnb : ∀ σ, loadA σ (some 5) (.rp [I (-1), I (-1), I (-1), I (-1), I (-1)] 0) = some (.agg [I (-1), I (-1), I (-1), I (-1), I (-1)]) := fun _ => rfl
  have harl : (arr (caughtA X.x X.aw t)).length = 5 := rfl
  have hae : eqCells (arr (caughtA X.x X.aw t)) [I (-1), I (-1), I (-1), I (-1), I (-1)] = some false := hne
  have ur : ∀ nc, X.h.ch.length ≤ nc → under 5 nc 1 1 6 (rightV X) = true := fun nc h => cp_under' X hX' 5 nc h
  have hE1 : underE X (3 + 2) [X.cp, spotC t.bed t.day] := fun nc hle => by
    have := cp_under X hX' 5 nc hle
    simp only [List.all_cons, this, List.all_nil, Bool.and_true, Bool.true_and]
    rfl
  have hcut : ∀ (T' : List Tr) (q : List AV) (hTT : T' = [] → T = []) (e : Env) (he : ∀ nc, X.h.ch.length ≤ nc → e.all (under 5 nc 1 1 6) = true), cut (X.st T [X.cp, spotC t.bed t.day]) (X.st T' [X.cp, spotC t.bed t.day, q]) e = X.st T' [X.cp, spotC t.bed t.day] := fun T' q hTT e he =>
    w_cut X hX' T T' hTT [X.cp, spotC t.bed t.day] [X.cp, spotC t.bed t.day] [q] rfl hE1 e he
  simp only [List.nil_append, List.cons_append] at ld1 ld2 le1 le3 hal st1 st2
  have hcp : oC' X.x X.h .nils = X.cp := rfl
  rw [hcp] at hS hR
  have hct : trC t (caughtA X.x X.aw t) = X.c t := rfl
  rw [hct] at hR
  simp only [rightV] at ur
  rw [run_loop]
  generalize MC.loop keep92_0 body92_0 = L
  cases hrb : rightB X.K t (caughtA X.x X.aw t) with
  | false =>
    rw [hrb] at hR
    simp (maxSteps := 10000000) [-List.getD_eq_getElem?_getD, -partA, -loadA, -storeA, -boxA, -op_alloc, -cut, -List.all_eq_true, body92_0, keep92_0, head92a, rightV, ld1, ld2, le1, le3, hal, st1, st2, pa1, pa2, pa3, pa4, pa5, pa6, hbld, hnb, harl, hae, hS, hR, hg, w1, fill2]
    rw [hcut T _ (fun h => h)]
    intro nc hle
    have := ur nc hle
    simp (maxSteps := 10000000) [-List.getD_eq_getElem?_getD, this]
  | true =>
    rw [hrb] at hR
    simp (maxSteps := 10000000) [-List.getD_eq_getElem?_getD, -partA, -loadA, -storeA, -boxA, -op_alloc, -cut, -List.all_eq_true, body92_0, keep92_0, head92a, rightV, ld1, ld2, le1, le3, hal, st1, st2, pa1, pa2, pa3, pa4, pa5, pa6, hbld, hnb, harl, hae, hS, hR, hg, w1, fill2, callA_yld, hY]
    rw [hcut (T ++ [t]) _ (fun h => by simp at h)]
    intro nc hle
    have := ur nc hle
    simp (maxSteps := 10000000) [-List.getD_eq_getElem?_getD, this]
end Go.Ai

set_option maxRecDepth 100000
namespace Go.Ai
open Go.Cold (Mv Hd Bk Tr coughsT illT rightT keptH butF awayL caughtT lineF line_first)
def WX.R (X : WX) (t : Tr) : Bool := rightB X.K t (caughtA X.x X.aw t)
def WX.nG (X : WX) : Nat := (X.x.gH - X.x.gL + 1).toNat
def WX.nO (X : WX) : Nat := (X.x.oH - X.x.oL + 1).toNat
def WX.tG (X : WX) (bed : Nat) (day out : Int) (j n : Nat) : List Tr := ((List.range' j n).map fun (g : Nat) => (⟨bed, day, out, X.x.gL + g⟩ : Tr)).filter X.R
def WX.tO (X : WX) (bed : Nat) (day : Int) (j n : Nat) : List Tr := (List.range' j n).flatMap fun (o : Nat) => X.tG bed day (X.x.oL + o) 0 X.nG
theorem tG_len (X : WX) (bed : Nat) (day out : Int) (j n : Nat) : (X.tG bed day out j n).length ≤ n := by
  have := List.length_filter_le X.R ((List.range' j n).map fun (g : Nat) => (⟨bed, day, out, X.x.gL + g⟩ : Tr))
  simpa [WX.tG] using this
theorem flat_len {α β : Type} (f : α → List β) (m : Nat) : ∀ l : List α, (∀ a ∈ l, (f a).length ≤ m) → (l.flatMap f).length ≤ l.length * m
  | [], _ => by simp
  | a :: l, h => by
    have h1 := h a (.head _)
    have h2 := flat_len f m l fun b hb => h b (.tail _ hb)
    rw [List.flatMap_cons, List.length_append, List.length_cons, Nat.add_mul]
    omega
theorem loop92a (X : WX) (hX : X.Go) (bed : Nat) (hb : (bed : Int) < X.x.beds) (day : Int) (h0 : 0 ≤ day) (hD : day < X.x.days) (out : Int) (ho : 0 ≤ out ∧ out ≤ 3) : ∀ (n j : Nat) (T : List Tr), j + n = X.nG → T.length + n ≤ 10000 → ∃ L g',
    run Cv 92 (.loop keep92_0 body92_0) (head92a X bed day out (X.x.gL + j)) (X.st T [X.cp, spotC bed day]) = some (.ex 6, mkE 97 .any ((69, .bool false) :: L ++ [(29, I day), (28, I (X.x.until_ + 1)), (15, I bed), (14, I X.x.beds), (8, I g'), (7, I out), (6, .box 4 0), (4, I bed), (3, rightV X), (1, .box 3 0), (0, .yld 0)]), X.st (T ++ X.tG bed day out j n) [X.cp, spotC bed day]) ∧ L = [(68, I X.x.gH), (67, .box 3 7), (66, .box 3 6), (65, .box 3 4), (64, .box 3 0), (63, I g')]
  | 0, j, T, hj, hT => by
    have hg1 := hX.f.g1
    have hg2 := hX.f.g2
    have hn : ¬ X.x.gL + j ≤ X.x.gH := by unfold WX.nG at hj; omega
    refine ⟨_, X.x.gL + j, ?_, rfl⟩
    have ld1 := fun n off => w_load X T [] [X.cp, spotC bed day] (q := 0) X.cp rfl n off 3 rfl
    simp only [List.nil_append] at ld1
    have pa1 : partA none X.cp 7 = some (I X.x.gH) := rfl
    rw [run_loop]
    simp (maxSteps := 10000000) [-List.getD_eq_getElem?_getD, -partA, -loadA, body92_0, keep92_0, head92a, rightV, ld1, pa1, hn, WX.tG]
  | n + 1, j, T, hj, hT => by
    have hg1 := hX.f.g1
    have hg2 := hX.f.g2
    have hg3 := hX.f.g3
    have hn : X.x.gL + j ≤ X.x.gH := by unfold WX.nG at hj; omega
    have r := round92a X hX T (by omega) ⟨bed, day, out, X.x.gL + j⟩ hb h0 hD ho (by show 1 ≤ X.x.gL + j; omega) hn
    rw [r]
    have e1 : X.x.gL + (j : Int) + 1 = X.x.gL + ((j + 1 : Nat) : Int) := by omega
    rw [e1]
    obtain ⟨L, g', h1, h2⟩ := loop92a X hX bed hb day h0 hD out ho n (j + 1) (if rightB X.K ⟨bed, day, out, X.x.gL + j⟩ (caughtA X.x X.aw ⟨bed, day, out, X.x.gL + j⟩) then T ++ [⟨bed, day, out, X.x.gL + j⟩] else T) (by omega) (by split <;> (try rw [List.length_append, List.length_singleton]) <;> omega)
    refine ⟨L, g', ?_, h2⟩
    rw [h1]
    have e2 : (if rightB X.K ⟨bed, day, out, X.x.gL + j⟩ (caughtA X.x X.aw ⟨bed, day, out, X.x.gL + j⟩) = true then T ++ [⟨bed, day, out, X.x.gL + j⟩] else T) ++ X.tG bed day out (j + 1) n = T ++ X.tG bed day out j (n + 1) := by
      unfold WX.tG
      rw [List.range'_succ, List.map_cons, List.filter_cons]
      show _ = T ++ if rightB X.K ⟨bed, day, out, X.x.gL + j⟩ (caughtA X.x X.aw ⟨bed, day, out, X.x.gL + j⟩) = true then _ else _
      split
      · rw [List.append_assoc]; rfl
      · rfl
    rw [e2]
def head92b (X : WX) (bed : Nat) (day out : Int) : Env := mkE 97 .any [(29, I day), (28, I (X.x.until_ + 1)), (15, I bed), (14, I X.x.beds), (7, I out), (6, .box 4 0), (4, I bed), (3, rightV X), (1, .box 3 0), (0, .yld 0)]
theorem loop92b (X : WX) (hX : X.Go) (bed : Nat) (hb : (bed : Int) < X.x.beds) (day : Int) (h0 : 0 ≤ day) (hD : day < X.x.days) : ∀ (n j : Nat) (T : List Tr), j + n = X.nO → T.length + n * 3 ≤ 10000 → ∃ g',
    run Cv 92 (.loop keep92_1 body92_1) (head92b X bed day (X.x.oL + j)) (X.st T [X.cp, spotC bed day]) = some (.ex 4, mkE 97 .any [(55, .bool false), (54, I X.x.oH), (53, .box 3 5), (52, .box 3 4), (51, .box 3 4), (50, .box 3 0), (49, I g'), (29, I day), (28, I (X.x.until_ + 1)), (15, I bed), (14, I X.x.beds), (7, I g'), (6, .box 4 0), (4, I bed), (3, rightV X), (1, .box 3 0), (0, .yld 0)], X.st (T ++ X.tO bed day j n) [X.cp, spotC bed day])
  | 0, j, T, hj, hT => by
    have hg2 := hX.f.o2
    have hn : ¬ X.x.oL + j ≤ X.x.oH := by unfold WX.nO at hj; omega
    refine ⟨X.x.oL + j, ?_⟩
    have ld1 := fun n off => w_load X T [] [X.cp, spotC bed day] (q := 0) X.cp rfl n off 3 rfl
    simp only [List.nil_append] at ld1
    have pa1 : partA none X.cp 5 = some (I X.x.oH) := rfl
    rw [run_loop]
    simp (maxSteps := 10000000) [-List.getD_eq_getElem?_getD, -partA, -loadA, body92_1, keep92_1, head92b, rightV, ld1, pa1, hn, WX.tO]
  | n + 1, j, T, hj, hT => by
    have hg1 := hX.f.o1
    have hg2 := hX.f.o2
    have hg3 := hX.f.o3
    have gg1 := hX.f.g1
    have gg2 := hX.f.g2
    have gg3 := hX.f.g3
    have hn : X.x.oL + j ≤ X.x.oH := by unfold WX.nO at hj; omega
    have w1 : IntKind.wrap .i64 (X.x.oL + j + 1) = X.x.oL + j + 1 := wrap_small (by omega) (by omega)
    have hnG : X.nG ≤ 3 := by unfold WX.nG; omega
    obtain ⟨L, g', ha, hL⟩ := loop92a X hX bed hb day h0 hD (X.x.oL + j) (by omega) X.nG 0 T (by omega) (by omega)
    subst hL
    have e0 : X.x.gL + ((0 : Nat) : Int) = X.x.gL := by omega
    rw [e0] at ha
    have ha' := fun E (hE : mask keep92_0 E = _) => run_at ha hE
    have ld1 := fun T n off => w_load X T [] [X.cp, spotC bed day] (q := 0) X.cp rfl n off 3 rfl
    have pa1 : partA none X.cp 5 = some (I X.x.oH) := rfl
    have pa2 : partA none X.cp 6 = some (I X.x.gL) := rfl
    obtain ⟨g2, hr⟩ := loop92b X hX bed hb day h0 hD n (j + 1) (T ++ X.tG bed day (X.x.oL + j) 0 X.nG) (by omega) (by
      have := tG_len X bed day (X.x.oL + j) 0 X.nG
      rw [List.length_append]; omega)
    have e1 : X.x.oL + ((j + 1 : Nat) : Int) = X.x.oL + j + 1 := by omega
    rw [e1] at hr
    refine ⟨g2, ?_⟩
    have e2 : T ++ X.tO bed day j (n + 1) = T ++ X.tG bed day (X.x.oL + j) 0 X.nG ++ X.tO bed day (j + 1) n := by
      unfold WX.tO
      rw [List.range'_succ, List.flatMap_cons, List.append_assoc]
    rw [e2, ← hr, run_loop]
    have hE1 : underE X (3 + 2) [X.cp, spotC bed day] := fun nc hle => by
      have := cp_under X hX.toOk 5 nc hle
      simp only [List.all_cons, this, List.all_nil, Bool.and_true, Bool.true_and]
      rfl
    have ur : ∀ nc, X.h.ch.length ≤ nc → under 5 nc 1 1 6 (rightV X) = true := fun nc h => cp_under' X hX.toOk 5 nc h
    have hcut : ∀ (T' : List Tr) (hTT : T' = [] → T = []) (e : Env) (he : ∀ nc, X.h.ch.length ≤ nc → e.all (under 5 nc 1 1 6) = true), cut (X.st T [X.cp, spotC bed day]) (X.st T' [X.cp, spotC bed day]) e = X.st T' [X.cp, spotC bed day] := fun T' hTT e he => by
      have := w_cut X hX.toOk T T' hTT [X.cp, spotC bed day] [X.cp, spotC bed day] [] rfl hE1 e he
      rwa [List.append_nil] at this
    generalize MC.loop keep92_1 body92_1 = L
    simp only [List.nil_append] at ld1
    simp only [keep92_0, head92a, rightV, List.cons_append, List.nil_append] at ha'
    simp only [rightV] at ur
    simp (maxSteps := 10000000) [-List.getD_eq_getElem?_getD, -partA, -loadA, -cut, -List.all_eq_true, body92_1, keep92_1, keep92_0, head92b, rightV, ld1, pa1, pa2, hn, w1, ha']
    rw [hcut _ (fun h => (List.append_eq_nil_iff.1 h).1)]
    intro nc hle
    have := ur nc hle
    simp (maxSteps := 10000000) [-List.getD_eq_getElem?_getD, this]
end Go.Ai

set_option maxRecDepth 100000
namespace Go.Ai
open Go.Cold (Mv Hd Bk Tr coughsT illT rightT keptH butF awayL caughtT lineF line_first)
def WX.tD (X : WX) (bed : Nat) (j n : Nat) : List Tr := (List.range' j n).flatMap fun (day : Nat) => if X.aw bed day then [] else X.tO bed day 0 X.nO
theorem tO_len (X : WX) (bed : Nat) (day : Int) (n : Nat) (hG : X.nG ≤ 3) : (X.tO bed day 0 n).length ≤ n * 3 := by
  have := flat_len (fun (o : Nat) => X.tG bed day (X.x.oL + o) 0 X.nG) 3 (List.range' 0 n) fun o _ => Nat.le_trans (tG_len X bed day _ 0 X.nG) hG
  simpa [WX.tO] using this
def head92c (X : WX) (bed : Nat) (day : Int) : Env := mkE 97 .any [(29, I day), (28, I (X.x.until_ + 1)), (15, I bed), (14, I X.x.beds), (4, I bed), (3, rightV X), (1, .box 3 0), (0, .yld 0)]
theorem loop92c (X : WX) (hX : X.Go) (bed : Nat) (hb : (bed : Int) < X.x.beds) : ∀ (n j : Nat) (T : List Tr), (j : Int) + n = X.x.until_ + 1 → T.length + n * 9 ≤ 10000 →
    run Cv 92 (.loop keep92_2 body92_2) (head92c X bed j) (X.st T [X.cp]) = some (.ex 2, mkE 97 .any [(30, .bool false), (29, I (X.x.until_ + 1)), (28, I (X.x.until_ + 1)), (15, I bed), (14, I X.x.beds), (4, I bed), (3, rightV X), (1, .box 3 0), (0, .yld 0)], X.st (T ++ X.tD bed j n) [X.cp])
  | 0, j, T, hj, hT => by
    have hj' : (j : Int) = X.x.until_ + 1 := by omega
    rw [hj', run_loop]
    simp (maxSteps := 10000000) [-List.getD_eq_getElem?_getD, body92_2, keep92_2, head92c, rightV, WX.tD]
  | n + 1, j, T, hj, hT => by
    have hX' := hX.toOk
    have f := hX'.f
    have o1 := f.o1; have o2 := f.o2; have o3 := f.o3; have gg1 := f.g1; have gg2 := f.g2; have gg3 := f.g3; have u1 := f.u1; have d6 := f.d6
    have hb5 := f.b5
    have hnG : X.nG ≤ 3 := by unfold WX.nG; omega
    have hnO : X.nO ≤ 3 := by unfold WX.nO; omega
    have hlt : (j : Int) < X.x.until_ + 1 := by omega
    have hD : (j : Int) < X.x.days := by omega
    have w1 : IntKind.wrap .i64 ((j : Int) + 1) = j + 1 := wrap_small (by omega) (by omega)
    have e1 : (j : Int) + 1 = ((j + 1 : Nat) : Int) := by omega
    have hal := fun R e => w_alloc X T [X.cp] (C := Cv) (R := R) (d := false) (e := e) [I 0, I 0]
    have st1 := w_store X T [] [X.cp, [I 0, I 0]] (q := 1) _ rfl 2 0 4 rfl (.agg [I bed, I j]) rfl (by decide) rfl
    have hs1 : [X.cp, [I 0, I 0]].set 1 (setAt [I 0, I 0] 0 (AV.agg [I bed, I j]).cells) = [X.cp, spotC bed j] := rfl
    rw [hs1] at st1
    have ld1 := fun n off => w_load X T [] [X.cp, spotC bed j] (q := 0) X.cp rfl n off 3 rfl
    have ld2 := fun n off => w_load X T [] [X.cp, spotC bed j] (q := 1) (spotC bed j) rfl n off 4 rfl
    have pa1 : partA none X.cp 11 = some (.mp 0) := rfl
    have pa2 : partA none X.cp 4 = some (I X.x.oL) := rfl
    have pa6 : partA (some 2) (spotC bed j) 0 = some (.agg [I bed, I j]) := rfl
    have hnw : ∀ σ, loadA σ (some 2) (.rp [I (-1), I (-1)] 0) = some (.agg [I (-1), I (-1)]) := fun _ => rfl
    have hne : eqCells [I (bed : Int), I (j : Int)] [I (-1), I (-1)] = some false := by
      simp only [eqCells, Option.map_some, Bool.and_true]
      have : ((bed : Int) == -1) = false := by
        rw [beq_eq_false_iff_ne]; omega
      simp [this]
    have hlk := lkp_map (X.st T [X.cp, spotC bed j]) X.am bed j (.mp 0) rfl
    rw [hX'.aw bed j hb (by omega) hD] at hlk
    have hE1 : underE X (3 + 1) [X.cp] := fun nc hle => by
      have := cp_under X hX' 4 nc hle
      simp only [List.all_cons, this, List.all_nil, Bool.and_true]
    have ur : ∀ nc, X.h.ch.length ≤ nc → under 4 nc 1 1 6 (rightV X) = true := fun nc h => cp_under' X hX' 4 nc h
    have hcut : ∀ (T' : List Tr) (hTT : T' = [] → T = []) (e : Env) (he : ∀ nc, X.h.ch.length ≤ nc → e.all (under 4 nc 1 1 6) = true), cut (X.st T [X.cp]) (X.st T' [X.cp, spotC bed j]) e = X.st T' [X.cp] := fun T' hTT e he =>
      w_cut X hX' T T' hTT [X.cp] [X.cp] [spotC bed j] rfl hE1 e he
    simp only [List.nil_append, List.cons_append] at ld1 ld2 hal st1
    simp only [rightV] at ur
    cases ha : X.aw bed j with
    | true =>
      rw [ha] at hlk
      have ih := loop92c X hX bed hb n (j + 1) T (by omega) (by omega)
      have e2 : X.tD bed j (n + 1) = X.tD bed (j + 1) n := by
        unfold WX.tD
        rw [List.range'_succ, List.flatMap_cons, if_pos ha]
        rfl
      rw [e2, ← ih, run_loop]
      generalize MC.loop keep92_2 body92_2 = L
      simp (maxSteps := 10000000) [-List.getD_eq_getElem?_getD, -partA, -loadA, -storeA, -boxA, -op_alloc, -cut, -List.all_eq_true, body92_2, keep92_2, head92c, rightV, hal, st1, ld1, ld2, pa1, pa2, pa6, hnw, hne, hlk, hlt, w1]
      rw [hcut T (fun h => h)]
      intro nc hle
      have := ur nc hle
      simp (maxSteps := 10000000) [-List.getD_eq_getElem?_getD, this]
    | false =>
      rw [ha] at hlk
      obtain ⟨g', hl⟩ := loop92b X hX bed hb j (by omega) hD X.nO 0 T (by omega) (by omega)
      have e0 : X.x.oL + ((0 : Nat) : Int) = X.x.oL := by omega
      rw [e0] at hl
      have hl' := fun E (hE : mask keep92_1 E = _) => run_at hl hE
      have hlen := tO_len X bed j X.nO hnG
      have ih := loop92c X hX bed hb n (j + 1) (T ++ X.tO bed j 0 X.nO) (by omega) (by rw [List.length_append]; omega)
      have e2 : T ++ X.tD bed j (n + 1) = T ++ X.tO bed j 0 X.nO ++ X.tD bed (j + 1) n := by
        unfold WX.tD
        rw [List.range'_succ, List.flatMap_cons, if_neg (by rw [ha]; decide), List.append_assoc]
      rw [e2, ← ih, run_loop]
      generalize MC.loop keep92_2 body92_2 = L
      simp only [keep92_1, head92b, rightV] at hl'
      simp (maxSteps := 10000000) [-List.getD_eq_getElem?_getD, -partA, -loadA, -storeA, -boxA, -op_alloc, -cut, -List.all_eq_true, body92_2, keep92_2, keep92_1, head92c, rightV, hal, st1, ld1, ld2, pa1, pa2, pa6, hnw, hne, hlk, hlt, w1, hl']
      rw [hcut _ (fun h => (List.append_eq_nil_iff.1 h).1)]
      intro nc hle
      have := ur nc hle
      simp (maxSteps := 10000000) [-List.getD_eq_getElem?_getD, this]
end Go.Ai

set_option maxRecDepth 100000
namespace Go.Ai
open Go.Cold (Mv Hd Bk Tr coughsT illT rightT keptH butF awayL caughtT lineF line_first)
def WX.nD (X : WX) : Nat := (X.x.until_ + 1).toNat
def WX.tB (X : WX) (j n : Nat) : List Tr := (List.range' j n).flatMap fun (bed : Nat) => if X.x.begins.toNat.testBit bed then X.tD bed 0 X.nD else []
theorem tD_len (X : WX) (bed n : Nat) (hG : X.nG ≤ 3) (hO : X.nO ≤ 3) : (X.tD bed 0 n).length ≤ n * 9 := by
  have := flat_len (fun (day : Nat) => if X.aw bed day then [] else X.tO bed day 0 X.nO) 9 (List.range' 0 n) fun o _ => by
    split
    · simp
    · have := tO_len X bed o X.nO hG
      omega
  simpa [WX.tD] using this
def head92d (X : WX) (bed : Int) : Env := mkE 97 .any [(15, I bed), (14, I X.x.beds), (3, rightV X), (1, .box 3 0), (0, .yld 0)]
theorem bit_zero (set k : Nat) : (((set : Int) / 2 ^ k % 2) == 0) = !set.testBit k := by
  have h := bit_eq set k
  have e : ((set / 2 ^ k % 2 : Nat) : Int) = (set : Int) / 2 ^ k % 2 := by norm_cast
  rw [e] at h
  rw [← h]
  have : (set : Int) / 2 ^ k % 2 = 0 ∨ (set : Int) / 2 ^ k % 2 = 1 := by omega
  rcases this with h | h <;> rw [h] <;> rfl
theorem loop92d (X : WX) (hX : X.Go) : ∀ (n j : Nat) (T : List Tr), (j : Int) + n = X.x.beds → T.length + n * 63 ≤ 10000 →
    run Cv 92 (.loop keep92_3 body92_3) (head92d X j) (X.st T [X.cp]) = some (.ex 0, mkE 97 .any [(16, .bool false), (15, I X.x.beds), (14, I X.x.beds), (3, rightV X), (1, .box 3 0), (0, .yld 0)], X.st (T ++ X.tB j n) [X.cp])
  | 0, j, T, hj, hT => by
    have hj' : (j : Int) = X.x.beds := by omega
    rw [hj', run_loop]
    simp (maxSteps := 10000000) [-List.getD_eq_getElem?_getD, body92_3, keep92_3, head92d, rightV, WX.tB]
  | n + 1, j, T, hj, hT => by
    have hX' := hX.toOk
    have f := hX'.f
    have o1 := f.o1; have o2 := f.o2; have o3 := f.o3; have gg1 := f.g1; have gg2 := f.g2; have gg3 := f.g3; have u0 := f.u0; have u1 := f.u1; have d6 := f.d6; have n1 := f.n1; have n2 := f.n2
    have hb5 := f.b5
    have hnG : X.nG ≤ 3 := by unfold WX.nG; omega
    have hnO : X.nO ≤ 3 := by unfold WX.nO; omega
    have hnD : X.nD ≤ 7 := by unfold WX.nD; omega
    have hlt : (j : Int) < X.x.beds := by omega
    have w1 : IntKind.wrap .i64 ((j : Int) + 1) = j + 1 := wrap_small (by omega) (by omega)
    have w2 : IntKind.wrap .i64 (X.x.until_ + 1) = X.x.until_ + 1 := wrap_small (by omega) (by omega)
    have e1 : (j : Int) + 1 = ((j + 1 : Nat) : Int) := by omega
    have ld1 := fun n off => w_load X T [] [X.cp] (q := 0) X.cp rfl n off 3 rfl
    have pa1 : partA none X.cp 2 = some (I X.x.begins) := rfl
    have pa2 : partA none X.cp 3 = some (I X.x.until_) := rfl
    obtain ⟨bs, hbs⟩ : ∃ bs : Nat, X.x.begins = bs := ⟨X.x.begins.toNat, by omega⟩
    have hbs2 : X.x.begins.toNat = bs := by omega
    have hp := pow_small (n := X.x.beds.toNat) (by omega)
    have hbl : bs < 2 ^ 62 := by omega
    have hmin : min j 64 = j := by omega
    have hsh : Int.fdiv (bs : Int) (2 ^ j) = ((bs / 2 ^ j : Nat) : Int) := by
      rw [Int.fdiv_eq_ediv_of_nonneg _ (by exact Int.le_of_lt (Int.pow_pos (by decide)))]
      norm_cast
    have hneg : ¬ (j : Int) < 0 := by omega
    have hsa := shr_and bs j hbl
    have hz := bit_zero bs j
    have hE1 : underE X (3 + 1) [X.cp] := fun nc hle => by
      have := cp_under X hX' 4 nc hle
      simp only [List.all_cons, this, List.all_nil, Bool.and_true]
    have ur : ∀ nc, X.h.ch.length ≤ nc → under 4 nc 1 1 6 (rightV X) = true := fun nc h => cp_under' X hX' 4 nc h
    have hcut : ∀ (T' : List Tr) (hTT : T' = [] → T = []) (e : Env) (he : ∀ nc, X.h.ch.length ≤ nc → e.all (under 4 nc 1 1 6) = true), cut (X.st T [X.cp]) (X.st T' [X.cp]) e = X.st T' [X.cp] := fun T' hTT e he => by
      have := w_cut X hX' T T' hTT [X.cp] [X.cp] [] rfl hE1 e he
      rwa [List.append_nil] at this
    simp only [List.nil_append, List.cons_append] at ld1
    simp only [rightV] at ur
    rw [hbs] at pa1
    cases hb : bs.testBit j with
    | false =>
      rw [hb] at hz
      have hz0 : ((bs / 2 ^ j % 2 : Nat) : Int) = 0 := by
        have e : ((bs / 2 ^ j % 2 : Nat) : Int) = (bs : Int) / 2 ^ j % 2 := by norm_cast
        rw [e]; simpa using hz
      have ih := loop92d X hX n (j + 1) T (by omega) (by omega)
      have e2 : X.tB j (n + 1) = X.tB (j + 1) n := by
        unfold WX.tB
        rw [List.range'_succ, List.flatMap_cons, hbs2, hb]
        rfl
      rw [e2, ← ih, run_loop]
      generalize MC.loop keep92_3 body92_3 = L
      simp (maxSteps := 10000000) [-List.getD_eq_getElem?_getD, -partA, -loadA, -storeA, -cut, -List.all_eq_true, body92_3, keep92_3, head92d, rightV, ld1, pa1, pa2, hlt, w1, w2, binI, hneg, IntKind.bits, hmin, hsh]
      refine (if_pos ?_).trans ?_
      · exact (shr_and bs j hbl).trans hz0
      rw [hcut T (fun h => h)]
      intro nc hle
      have := ur nc hle
      simp (maxSteps := 10000000) [-List.getD_eq_getElem?_getD, this]
    | true =>
      rw [hb] at hz
      have hz0 : ¬ ((bs / 2 ^ j % 2 : Nat) : Int) = 0 := by
        have e : ((bs / 2 ^ j % 2 : Nat) : Int) = (bs : Int) / 2 ^ j % 2 := by norm_cast
        rw [e]
        intro h
        rw [h] at hz
        cases hz
      have hl := loop92c X hX j hlt X.nD 0 T (by unfold WX.nD; omega) (by omega)
      have e0 : ((0 : Nat) : Int) = 0 := rfl
      rw [e0] at hl
      have hl' := fun E (hE : mask keep92_2 E = _) => run_at hl hE
      have hlen := tD_len X j X.nD hnG hnO
      have ih := loop92d X hX n (j + 1) (T ++ X.tD j 0 X.nD) (by omega) (by rw [List.length_append]; omega)
      have e2 : T ++ X.tB j (n + 1) = T ++ X.tD j 0 X.nD ++ X.tB (j + 1) n := by
        unfold WX.tB
        rw [List.range'_succ, List.flatMap_cons, hbs2, hb, if_pos rfl, List.append_assoc]
      rw [e2, ← ih, run_loop]
      generalize MC.loop keep92_3 body92_3 = L
      simp only [keep92_2, head92c, rightV] at hl'
      simp (maxSteps := 10000000) [-List.getD_eq_getElem?_getD, -partA, -loadA, -storeA, -cut, -List.all_eq_true, body92_3, keep92_3, keep92_2, head92d, rightV, ld1, pa1, pa2, hlt, w1, w2, binI, hneg, IntKind.bits, hmin, hsh, hl']
      refine (if_neg ?_).trans ?_
      · intro hw
        exact hz0 ((shr_and bs j hbl).symm.trans hw)
      rw [hcut _ (fun h => (List.append_eq_nil_iff.1 h).1)]
      intro nc hle
      have := ur nc hle
      simp (maxSteps := 10000000) [-List.getD_eq_getElem?_getD, this]
theorem whole_callA (X : WX) (hX : X.Go) : callA Cv (run Cv) false (.fn (.func 92) [] [.box 3 0]) [.yld 0] (X.st [] [X.cp]) = some (.tup [], X.st (X.tB 0 X.x.beds.toNat) [X.cp]) := by
  have hX' := hX.toOk
  have f := hX'.f
  have hb1 := f.b1
  have hb5 := f.b5
  have hl := loop92d X hX X.x.beds.toNat 0 [] (by omega) (by simp; omega)
  have e0 : ((0 : Nat) : Int) = 0 := rfl
  rw [e0] at hl
  have hl' := fun E (hE : mask keep92_3 E = _) => run_at hl hE
  have ld1 := fun n off => w_load X [] [] [X.cp] (q := 0) X.cp rfl n off 3 rfl
  have pa1 : partA none X.cp 0 = some (I X.x.beds) := rfl
  have pa2 : partA (some 13) X.cp 0 = some (.agg X.cp) := rfl
  have hE1 : underE X (3 + 1) [X.cp] := fun nc hle => by
    have := cp_under X hX' 4 nc hle
    simp only [List.all_cons, this, List.all_nil, Bool.and_true]
  have hc : cut (X.st [] [X.cp]) (X.st (X.tB 0 X.x.beds.toNat) [X.cp]) [.tup []] = X.st (X.tB 0 X.x.beds.toNat) [X.cp] := by
    have := w_cut X hX' [] (X.tB 0 X.x.beds.toNat) (fun h => rfl) [X.cp] [X.cp] [] rfl hE1 [.tup []] (fun _ _ => rfl)
    rwa [List.append_nil] at this
  simp only [List.nil_append, List.cons_append] at ld1 hl'
  simp only [keep92_3, head92d, rightV] at hl'
  rw [callA_imp rfl, body_run comp92 (Nat.le_of_ble_eq_true rfl)]
  simp (maxSteps := 10000000) [-List.getD_eq_getElem?_getD, -partA, -loadA, -storeA, -cut, -List.all_eq_true, code92, keep92_3, ld1, pa1, pa2, hl', retA, retsA, cutR, hc]
end Go.Ai

set_option maxRecDepth 100000
namespace Go.Ai
open Go.Cold (Mv Hd Bk Tr coughsT illT rightT keptH butF awayL caughtT lineF line_first)
theorem run_range {C : Cfg} {f : FuncId} {g : Opd} {ps} {asg body : MC} {e : Env} {σ : St} : run C f (.range g ps asg body) e σ = if isFn (ev e g) then pendA (run C) σ.loops.length e (callA C (run C) false (ev e g) [.yld σ.loops.length] { σ with loops := σ.loops ++ [{ f, env := e, ps, asg, body, st := .ready, pend := none }] }) else none := by rw [run_eq]; rfl
def envR (x : CB) (cp : List AV) : List (Nat × AV) := [(63, .fn (.func 92) [] [.box 3 0]), (62, .agg cp), (44, .bool false), (43, I x.ms.length), (42, I x.ms.length), (41, x.mr), (5, .box 2 0), (4, .box 1 0), (2, .box 0 0)]
def am0 : BM := [((-1, -1), true)]
def openX (x : CB) (but : List Int) : WX := { x := x, h := hvOf (keptH (butF but) x.hs 0), K := keptH (butF but) x.hs 0, am := putMs x.days x.ms am0, aw := awayL x.ms, L := lpY .any (envR x (oC' x (hvOf (keptH (butF but) x.hs 0)) .nils)) }
theorem kept_sub (out : Nat → Bool) : ∀ (l : List Hd) (k : Nat) (h : Hd), h ∈ keptH out l k → h ∈ l
  | [], _, h, hh => hh
  | a :: l, k, h, hh => by
    rw [keptH, List.mem_append] at hh
    rcases hh with hh | hh
    · split at hh
      · cases hh
      · simp at hh; subst hh; exact List.mem_cons_self ..
    · exact List.mem_cons_of_mem _ (kept_sub out l (k + 1) h hh)
theorem kept_len (out : Nat → Bool) : ∀ (l : List Hd) (k : Nat), (keptH out l k).length ≤ l.length
  | [], _ => Nat.le_refl _
  | a :: l, k => by
    have := kept_len out l (k + 1)
    rw [keptH, List.length_append, List.length_cons]
    split <;> simp <;> omega
theorem openX_go (x : CB) (hx : x.Ok) (f : x.Fine) (but : List Int) : (openX x but).Go where
  x := hx
  f := f
  h := hvOf_ok _
  aw := fun b d hb h0 hD => by
    show BM.get (putMs x.days x.ms am0) (b, d) = awayL x.ms b d
    rw [get_putMs x.days (b, d) hD x.ms am0 fun m hm => by have := f.ms m hm; omega]
    have : BM.get am0 ((b : Int), d) = false := by
      have h1 : ¬ ((-1 : Int), (-1 : Int)) = ((b : Int), d) := by
        intro h
        have := (Prod.mk.inj h).1
        omega
      simp only [am0, BM.get, h1, if_false]
    rw [this, Bool.false_or]
    rfl
  row := by
    obtain ⟨r, h1, h2⟩ := growV_pur 0 3 (hdRow (keptH (butF but) x.hs 0))
    exact ⟨r, h1, h2⟩
  lk := by
    have := kept_len (butF but) x.hs 0
    have := f.lh
    show (keptH (butF but) x.hs 0).length < 1000
    omega
  K := fun h hh => by
    have := f.hs h (kept_sub _ _ _ _ hh)
    have := f.b5
    omega
  L := fun a nc ha hle => by
    have q1 := hx.mrow.under a nc 1 1 5
    have q2 := hx.mrow.under a nc 1 1 4
    have q3 := (hvOf_ok (keptH (butF but) x.hs 0)).un' a nc 1 1 4 hle
    have l1 : (2 < a) := by omega
    have l2 : (1 < a) := by omega
    have l3 : (3 < a) := by omega
    have l4 : (0 < a) := by omega
    show ((mkE 72 .any (envR x (oC' x (hvOf (keptH (butF but) x.hs 0)) .nils))).all _) = true
    simp (maxSteps := 10000000) [-List.getD_eq_getElem?_getD, envR, oC', q1, q2, q3, l1, l2, l3, l4]
  loop := ⟨.any, _, rfl, rfl⟩
def openC (x : CB) (hr : AV) (am : BM) (tr : AV) : List AV := bkC { x with hr := hr } am tr
theorem opened_call (x : CB) (hx : x.Ok) (f : x.Fine) (but : List Int) (r : AV) (hr : IsRow 1 (ints but) r) (hl : but.length < 2 ^ 47) :
    ∃ hv tv, IsRow 3 (hdRow (keptH (butF but) x.hs 0)) hv ∧ IsRow 9 ((openX x but).row' ((openX x but).tB 0 x.beds.toNat)) tv ∧ call Cv 57 [x.av, r] = some (.agg (openC x hv (putMs x.days x.ms am0) tv)) := by
  obtain ⟨hv, g1, g2⟩ := growV_pur 0 3 (hdRow (keptH (butF but) x.hs 0))
  obtain ⟨tv, g3, g4⟩ := growV_pur (hvOf (keptH (butF but) x.hs 0)).ch.length 9 ((openX x but).row' ((openX x but).tB 0 x.beds.toNat))
  refine ⟨hv, tv, g1, g3, ?_⟩
  have hX := openX_go x hx f but
  have hw := whole_callA (openX x but) hX
  have hla := loop57a x hx but r hr hl am0 (by have := f.lh; omega) x.hs 0 [] (Nat.zero_le _) rfl (Nat.le_refl _)
  have hlc := loop57c x hx f.d6 (hvOf (keptH (butF but) x.hs 0)) (hvOf_ok _) (fun m hm => by have := f.ms m hm; omega) x.ms 0 am0 (Nat.zero_le _) rfl
  have e0 : ((0 : Nat) : Int) = 0 := rfl
  rw [List.nil_append, e0] at hla
  rw [e0] at hlc
  have hla' := fun E (hE : mask keep57_0 E = _) => run_at hla hE
  have hlc' := fun E (hE : mask keep57_2 E = _) => run_at hlc hE
  have p1 := hx.mrow.cell
  have p2 := hx.hrow.cell
  have p3 := hr.pur
  have hm := mlen hx
  have hh := hlen hx
  have hr0 : (openX x but).row' [] = [] := rfl
  generalize hK : keptH (butF but) x.hs 0 = K at *
  generalize hAM : putMs x.days x.ms am0 = AM at *
  have hXx : (openX x but).x = x := rfl
  have hXh : (openX x but).h = hvOf K := by rw [← hK]; rfl
  have hXam : (openX x but).am = AM := by rw [← hAM]; rfl
  have hXL : (openX x but).L = lpY .any (envR x (oC' x (hvOf K) .nils)) := by rw [← hK]; rfl
  rw [hXx] at hw
  generalize (openX x but).tB 0 x.beds.toNat = T at *
  simp only [WX.st, WX.base, WX.tv, WX.cp, hr0, hXx, hXh, hXam, hXL] at hw
  generalize (openX x but).row' T = rows at *
  clear hX hr0 hXx hXh hXam hXL
  have u1 := hx.mrow.under
  have u2 := hx.hrow.under
  have u3 := (hvOf_ok K).un'
  have hcl := (hvOf_ok K).cell
  have hgp : (growV 0 3 (hdRow K)) = (hvOf K).v := rfl
  have hgc : (growC 3 (hdRow K)) = (hvOf K).ch := rfl
  simp only [stO, oC, stP, oC', hgp, hgc] at hla' hlc' hw g2
  generalize hHV : hvOf K = H at *
  have hvn : growV 0 3 (hdRow []) = .nils := rfl
  have hcn : growC 3 (hdRow []) = [] := rfl
  simp only [hvn, hcn, growV_nil, growC_nil, List.append_nil, List.cons_append, List.nil_append] at hla' hlc' hw
  simp only [keep57_0, head57a, e0, CB.cells, zero13] at hla'
  simp only [keep57_2, head57c, CB.cells, zero13] at hlc'
  simp only [CB.cells, zero13, lpY, envR] at hw
  obtain ⟨S3, hS3⟩ : ∃ S3 : St, S3 = { boxes := [[I x.beds, I x.days, I x.begins, I x.until_, I x.oL, I x.oH, I x.gL, I x.gH, x.mr, I x.rooms, x.hr], [I 0, I 0, I 0, I 0, I 0, I 0, I 0, I 0, .nils, I 0, .nils, .nilm, .nils], [I x.beds, I x.days, I x.begins, I x.until_, I x.oL, I x.oH, I x.gL, I x.gH, x.mr, I x.rooms, H.v, .mp 0, .nils]], chains := H.ch, maps := [(ksM AM, vsM AM)] } := ⟨_, rfl⟩
  have h83 : callA Cv (run Cv) false (.fn (.func 83) [] []) [.agg [I x.beds, I x.days, I x.begins, I x.until_, I x.oL, I x.oH, I x.gL, I x.gH, x.mr, I x.rooms, H.v, .mp 0, .nils]] S3 = some (.fn (.func 92) [] [.box 3 0], { S3 with boxes := S3.boxes ++ [[I x.beds, I x.days, I x.begins, I x.until_, I x.oL, I x.oH, I x.gL, I x.gH, x.mr, I x.rooms, H.v, .mp 0, .nils]] }) := by
    subst hS3
    rw [callA_imp rfl, body_run comp83 (Nat.le_of_ble_eq_true rfl)]
    simp (maxSteps := 10000000) [-List.getD_eq_getElem?_getD, code83, p1, hcl, cutR]
  subst hS3
  simp only [List.cons_append, List.nil_append] at h83
  have hks0 : ksM am0 = [.agg [I (-1), I (-1)]] := rfl
  have hvs0 : vsM am0 = [.bool true] := rfl
  rw [hks0, hvs0] at hla' hlc'
  have hput : mputA { boxes := [[I x.beds, I x.days, I x.begins, I x.until_, I x.oL, I x.oH, I x.gL, I x.gH, x.mr, I x.rooms, x.hr], [I 0, I 0, I 0, I 0, I 0, I 0, I 0, I 0, .nils, I 0, .nils, .nilm, .nils]], maps := [([], [])] } (some 2) (.mp 0) (.agg [I (-1), I (-1)]) (.bool true) = some { boxes := [[I x.beds, I x.days, I x.begins, I x.until_, I x.oL, I x.oH, I x.gL, I x.gH, x.mr, I x.rooms, x.hr], [I 0, I 0, I 0, I 0, I 0, I 0, I 0, I 0, .nils, I 0, .nils, .nilm, .nils]], maps := [([.agg [I (-1), I (-1)]], [.bool true])] } := by simp [mputA, findA, keyOk, allInt]
  have hnw : ∀ σ, loadA σ (some 2) (.rp [I (-1), I (-1)] 0) = some (.agg [I (-1), I (-1)]) := fun _ => rfl
  have hbld : ∀ m, fillA [(0, 11, .agg [I x.beds, I x.days, I x.begins, I x.until_, I x.oL, I x.oH, I x.gL, I x.gH, x.mr, I x.rooms, x.hr]), (11, 1, .mp m)] [I 0, I 0, I 0, I 0, I 0, I 0, I 0, I 0, .nils, I 0, .nils, .nilm, .nils] = some [I x.beds, I x.days, I x.begins, I x.until_, I x.oL, I x.oH, I x.gL, I x.gH, x.mr, I x.rooms, x.hr, .mp m, .nils] := fun m => by
    have hmc : AV.isCell (.mp m) = true := rfl
    have hic : ∀ n, AV.isCell (I n) = true := fun _ => rfl
    simp [fillA, AV.cells, setAt, p1, p2, hmc]
  have hgcl : ∀ c, (growV c 9 rows).isCell = true := fun c => growV_cell c 9 rows
  rw [call_run comp57 (Nat.le_of_ble_eq_true rfl)]
  simp (maxSteps := 10000000) [-List.getD_eq_getElem?_getD, code57, CB.av, CB.cells, p1, p2, p3, hm, hh, hput, hnw, hbld, keep57_0, keep57_2, hla', hlc', h83, run_range, isFn, hw, pendA, hcl, hgcl, g2, g4, ks_pur, vs_pur, hx.mrow.pur, openC, bkC]
end Go.Ai
