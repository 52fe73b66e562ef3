/- This text shows who is right; rows. No conditions of its own. -/
import Derived.Test.YtknklhodhkohlaaDoorFnB
set_option linter.unusedSimpArgs false
set_option linter.unusedVariables false
set_option maxRecDepth 100000
namespace Go.Ai
open Go.Cold (Mv Hd Bk Tr coughsT illT rightT)
def CB.bk (x : CB) : Bk := { B := x.beds.toNat, D := x.days, begins := fun i => x.begins.toNat.testBit i, u := x.until_, oL := x.oL, oH := x.oH, gL := x.gL, gH := x.gH, ms := x.ms, hs := x.hs }
structure CB.Fine (x : CB) : Prop where
  bk : x.bk.Ok
  b1 : 1 ≤ x.beds
  b5 : x.beds ≤ 5
  d1 : 1 ≤ x.days
  d6 : x.days ≤ 6
  u0 : 0 ≤ x.until_
  u1 : x.until_ ≤ x.days - 1
  o1 : 1 ≤ x.oL
  o2 : x.oL ≤ x.oH
  o3 : x.oH ≤ 3
  g1 : 1 ≤ x.gL
  g2 : x.gL ≤ x.gH
  g3 : x.gH ≤ 3
  o4 : x.oH - x.oL ≤ 1
  g4 : x.gH - x.gL ≤ 1
  n1 : 1 ≤ x.begins
  n2 : x.begins < 2 ^ x.beds.toNat
  r0 : 0 ≤ x.rooms
  r3 : x.rooms ≤ 3
  lm : x.ms.length ≤ 3
  lh : x.hs.length ≤ 4
  ms : ∀ m ∈ x.ms, 0 ≤ m.bed ∧ m.bed < x.beds ∧ 1 ≤ m.day ∧ m.day ≤ x.days - 1
  hs : ∀ h ∈ x.hs, 0 ≤ h.bed ∧ h.bed < x.beds ∧ 0 ≤ h.day ∧ h.day ≤ x.days - 1
theorem movesB_all (x : CB) : ∀ (l : List Mv) (k : Nat), movesB x l k = true → ∀ m ∈ l, spotB x m.bed m.day = true ∧ 0 < m.day
  | [], _, _, m, hm => by cases hm
  | a :: l, k, h, m, hm => by
    simp only [movesB, moveB, Bool.and_eq_true, decide_eq_true_eq] at h
    rcases List.mem_cons.1 hm with rfl | hm
    · exact ⟨h.1.1, h.1.2.1⟩
    · exact movesB_all x l (k + 1) h.2 m hm
theorem pow_small {n : Nat} (h : n ≤ 5) : (2 : Int) ^ n ≤ 32 ∧ 1 ≤ (2 : Int) ^ n := by
  have : n = 0 ∨ n = 1 ∨ n = 2 ∨ n = 3 ∨ n = 4 ∨ n = 5 := by omega
  rcases this with rfl | rfl | rfl | rfl | rfl | rfl <;> decide
theorem check_fine {x : CB} (h : checkB x = true) : x.Fine := by
  simp only [checkB, okOne, Bool.and_eq_true, lie, spanB, decide_eq_true_eq, List.all_eq_true] at h
  obtain ⟨⟨⟨⟨⟨h1, h2⟩, ⟨h3, h4⟩, ⟨h5, h6⟩, ⟨h7, h8, h9, h10⟩, ⟨h11, h12, h13, h14⟩, ⟨h15, h16⟩, h17, h18⟩, h19, h20⟩, hm⟩, hh⟩ := h
  have hp := pow_small (n := x.beds.toNat) (by omega)
  have w1 : IntKind.wrap .i64 (x.days - 1) = x.days - 1 := wrap_small (by omega) (by omega)
  have w2 : IntKind.wrap .i64 (x.beds - 1) = x.beds - 1 := wrap_small (by omega) (by omega)
  have w3 : IntKind.wrap .i64 (2 ^ x.beds.toNat - 1) = 2 ^ x.beds.toNat - 1 := wrap_small (by omega) (by omega)
  have w4 : IntKind.wrap .i64 (x.oH - x.oL) = x.oH - x.oL := wrap_small (by omega) (by omega)
  have w5 : IntKind.wrap .i64 (x.gH - x.gL) = x.gH - x.gL := wrap_small (by omega) (by omega)
  rw [w4] at h10
  rw [w5] at h14
  rw [w1] at h6
  rw [w3] at h20
  have hms : ∀ m ∈ x.ms, 0 ≤ m.bed ∧ m.bed < x.beds ∧ 1 ≤ m.day ∧ m.day ≤ x.days - 1 := fun m hmm => by
    have := movesB_all x x.ms 0 hm m hmm
    simp only [spotB, lie, Bool.and_eq_true, decide_eq_true_eq, w1, w2] at this
    omega
  have hhs : ∀ h ∈ x.hs, 0 ≤ h.bed ∧ h.bed < x.beds ∧ 0 ≤ h.day ∧ h.day ≤ x.days - 1 := fun m hmm => by
    have := hh m hmm
    simp only [hearB, spotB, lie, Bool.and_eq_true, decide_eq_true_eq, w1, w2] at this
    omega
  have hsome : ∃ i, i < x.beds.toNat ∧ x.begins.toNat.testBit i = true := by
    refine Classical.byContradiction fun hc => ?_
    have : x.begins.toNat = 0 := by
      refine Nat.eq_of_testBit_eq fun i => ?_
      rw [Nat.zero_testBit]
      by_cases hi : i < x.beds.toNat
      · cases hb : x.begins.toNat.testBit i with
        | false => rfl
        | true => exact absurd ⟨i, hi, hb⟩ hc
      · refine Nat.testBit_lt_two_pow ?_
        have h1 : x.begins.toNat < 2 ^ x.beds.toNat := by
          have : (x.begins.toNat : Int) < ((2 ^ x.beds.toNat : Nat) : Int) := by
            rw [Int.natCast_pow]
            show (x.begins.toNat : Int) < 2 ^ x.beds.toNat
            omega
          exact_mod_cast this
        exact Nat.lt_of_lt_of_le h1 (Nat.pow_le_pow_right (by decide) (by omega))
    omega
  have e : ((x.beds.toNat : Nat) : Int) = x.beds := by omega
  have hbk : x.bk.Ok :=
    { b1 := by show 1 ≤ x.beds.toNat; omega
      b5 := by show x.beds.toNat ≤ 5; omega
      d1 := h3, d6 := h4, u0 := h5, u1 := h6, o1 := h7, o2 := h8, o3 := h9, g1 := h11, g2 := h12, g3 := h13
      ms := fun m hmm => by
        have := hms m hmm
        show _ ∧ m.bed < ((x.beds.toNat : Nat) : Int) ∧ _
        rw [e]; exact this
      hs := fun m hmm => by
        have := hhs m hmm
        show _ ∧ m.bed < ((x.beds.toNat : Nat) : Int) ∧ _
        rw [e]; exact this
      some_ := hsome }
  exact { bk := hbk, b1 := h1, b5 := h2, d1 := h3, d6 := h4, u0 := h5, u1 := h6, o1 := h7, o2 := h8, o3 := h9, g1 := h11, g2 := h12, g3 := h13, o4 := h10, g4 := h14, n1 := h19, n2 := by omega, r0 := h15, r3 := h16, lm := by omega, lh := by omega, ms := hms, hs := hhs }
theorem tr_get (t : Tr) (c : Nat → Int) {bed : Nat} (hb : bed < 5) : ([I t.bed, I t.day, I t.out, I t.goes, I (c 0), I (c 1), I (c 2), I (c 3), I (c 4)] : List AV)[4 + bed]? = some (I (c bed)) := by
  have : bed = 0 ∨ bed = 1 ∨ bed = 2 ∨ bed = 3 ∨ bed = 4 := by omega
  rcases this with rfl | rfl | rfl | rfl | rfl <;> rfl
theorem ix5 {bed : Nat} (hb : bed < 5) (q off : Nat) : ixaA 5 1 (.box q off) (I bed) = some (.box q (off + bed * 1)) := by
  have h1 : (0 : Int) ≤ bed := by omega
  have h2 : (bed : Int) < ((5 : Nat) : Int) := by omega
  simp only [ixaA, h1, h2, and_self, if_true, ptrAdd, Int.toNat_natCast]
theorem ill_call (t : Tr) (c : Nat → Int) {bed : Nat} (hb : bed < 5) (day : Int) : call Cv 70 [.agg (trC t c), .agg [I bed, I day]] = some (.bool (illT (c bed) day)) := by
  have hik := ix5 hb
  have hg := tr_get t c hb
  have hg2 := tr_get t c hb
  rw [Nat.add_comm] at hg2
  have hw := within_call (c bed) 0 day
  have : lie (c bed) 0 day = illT (c bed) day := rfl
  rw [this] at hw
  rw [call_run comp70 (Nat.le_of_ble_eq_true rfl)]
  simp (maxSteps := 10000000) [-List.getD_eq_getElem?_getD, -ixaA, code70, trC, arr, hik, hg, hg2, hw]
theorem coughs_call (t : Tr) (c : Nat → Int) (hc : ∀ i, i < 5 → -1 ≤ c i ∧ c i ≤ 100) (ho : 0 ≤ t.out ∧ t.out ≤ 100) {bed : Nat} (hb : bed < 5) (day : Int) : call Cv 72 [.agg (trC t c), .agg [I bed, I day]] = some (.bool (coughsT (c bed) t.out day)) := by
  have hik := ix5 hb
  have hg := tr_get t c hb
  have hg2 := tr_get t c hb
  rw [Nat.add_comm] at hg2
  have w1 : IntKind.wrap .i64 (c bed + t.out) = c bed + t.out := wrap_small (by have := hc bed hb; omega) (by have := hc bed hb; omega)
  rw [call_run comp72 (Nat.le_of_ble_eq_true rfl)]
  unfold coughsT
  by_cases h0 : 0 ≤ c bed
  · simp (maxSteps := 10000000) [-List.getD_eq_getElem?_getD, -ixaA, code72, trC, arr, hik, hg, hg2, h0, w1]
  · simp (maxSteps := 10000000) [-List.getD_eq_getElem?_getD, -ixaA, code72, trC, arr, hik, hg, hg2, h0, w1]
theorem tr_pur (t : Tr) (c : Nat → Int) (σ : St) (n : Nat) : purAll (pur σ (n + 1)) (trC t c) = some (trC t c, false) := rfl
theorem not_call (t : Tr) (c : Nat → Int) (hc : ∀ i, i < 5 → -1 ≤ c i ∧ c i ≤ 100) (ho : 0 ≤ t.out ∧ t.out ≤ 100) (h : Hd) (h0 : 0 ≤ h.bed) (h5 : h.bed < 5) : call Cv 107 [.agg (hdC h), .rp (trC t c) 0] = some (.bool (!(coughsT (c h.bed.toNat) t.out h.day == h.cough))) := by
  obtain ⟨m, hm⟩ : ∃ m : Nat, h.bed = m := ⟨h.bed.toNat, by omega⟩
  have hcl := coughs_call t c hc ho (bed := m) (by omega) h.day
  simp only [trC, arr, List.cons_append, List.nil_append] at hcl
  rw [hm, Int.toNat_natCast]
  rw [call_run comp107 (Nat.le_of_ble_eq_true rfl)]
  generalize coughsT (c m) t.out h.day = b1 at *
  simp (maxSteps := 10000000) [-List.getD_eq_getElem?_getD, code107, trC, arr, hdC, hm, hcl]
def rightB (hs : List Hd) (t : Tr) (c : Nat → Int) : Bool := hs.all fun h => coughsT (c h.bed.toNat) t.out h.day == h.cough
theorem right_call (x : CB) (hx : x.Ok) (l : BM) (tr : AV) (ht : ∃ es, IsRow 9 es tr) (hs : List Hd) (r : AV) (hr : IsRow 3 (hs.map fun h => .agg (hdC h)) r) (hl : hs.length < 2 ^ 47) (hh : ∀ h ∈ hs, 0 ≤ h.bed ∧ h.bed < 5) (t : Tr) (c : Nat → Int) (hc : ∀ i, i < 5 → -1 ≤ c i ∧ c i ≤ 100) (ho : 0 ≤ t.out ∧ t.out ≤ 100) :
    call Cv 93 [.agg (bkC { x with hr := r } l tr), .agg (trC t c)] = some (.bool (rightB hs t c)) := by
  have h1 := any106_call hdC (fun _ => rfl) hd_pur (fun h => !(coughsT (c h.bed.toNat) t.out h.day == h.cough)) 107 (.rp (trC t c) 0) (fun _ _ => rfl) (fun _ _ _ _ _ => rfl) rfl hs (fun h hm => not_call t c hc ho h (hh h hm).1 (hh h hm).2) r hr hl
  have h2 : rightB hs t c = !(hs.any fun h => !(coughsT (c h.bed.toNat) t.out h.day == h.cough)) := by
    unfold rightB
    rw [List.not_any_eq_all_not]
    simp
  rw [h2]
  generalize (hs.any fun h => !(coughsT (c h.bed.toNat) t.out h.day == h.cough)) = b at *
  obtain ⟨es, ht⟩ := ht
  have p1 := hx.mrow.cell
  have p2 := hr.cell
  have p3 := ht.cell
  have hmv : ∀ ks vs, AV.isCell (.mapv ks vs) = true := fun _ _ => rfl
  have r1 := hr.pur
  have r2 := hr.under
  simp only [trC, arr, List.cons_append, List.nil_append] at h1
  have hpu : ∀ n, pur ({ boxes := [bkC { x with hr := r } l tr, trC t c] } : St) (n + 3) (.fn (.func 107) [] [.box 1 0]) = some (.fn (.func 107) [] [.rp (trC t c) 0], true) := fun n => by
    simp [pur, purAll, trC, arr]
  simp only [bkC, CB.cells, trC, arr, List.cons_append, List.nil_append] at hpu
  rw [call_run comp93 (Nat.le_of_ble_eq_true rfl)]
  simp (maxSteps := 10000000) [-List.getD_eq_getElem?_getD, code93, bkC, CB.cells, trC, arr, p1, p2, p3, hmv, r1, r2, h1, hpu]
end Go.Ai

set_option maxRecDepth 100000
namespace Go.Ai
open Go.Cold (Mv Hd Bk Tr coughsT illT rightT keptH butF)
def head91 (r : AV) (n v k : Int) : Env := mkE 19 .any [(8, I k), (7, I n), (1, I v), (0, r)]
theorem loop91 (l0 : List Int) (r : AV) (hr : IsRow 1 (ints l0) r) (hl : l0.length < 2 ^ 47) (v : Int) : ∀ (l : List Int) (k : Nat), k ≤ l0.length → l0.drop k = l →
    (v ∉ l ∧ ∃ L, run Cv 91 (.loop keep91_0 body91_0) (head91 r l0.length v k) {} = some (.ex 0, mkE 19 .any L, {})) ∨ ∃ L, ∃ j : Nat, v ∈ l ∧ run Cv 91 (.loop keep91_0 body91_0) (head91 r l0.length v k) {} = some (.rt, mkE 19 .any ((4, I j) :: L), {})
  | [], k, hk, h => by
    obtain rfl := drop_nil hk h
    refine .inl ⟨List.not_mem_nil, ?_⟩
    rw [run_loop]
    simp (maxSteps := 10000000) [-List.getD_eq_getElem?_getD, body91_0, keep91_0, head91]
    exact ⟨_, rfl⟩
  | a :: l, k, hk, h => by
    obtain ⟨hlt, ha, hd⟩ := head_drop h
    have hw := wrap_succ hlt hl
    have hlt' : (k : Int) < (l0.length : Int) := by omega
    have hix : ixsA 1 r (I k) = some (.rp [I a] 0) := by
      obtain ⟨c, hc, hr'⟩ := row_sl hr (by intro hn; rw [hn] at hlt; simp at hlt)
      rw [hr']
      simp [ixsA, AV.cells, hlt, ints, ha]
    have hlr : ∀ σ, loadA σ none (.rp [I a] 0) = some (I a) := fun _ => rfl
    have hru := hr.under
    by_cases hv : v = a
    · right
      have : ∃ L, run Cv 91 (.loop keep91_0 body91_0) (head91 r l0.length v k) {} = some (.rt, mkE 19 .any ((4, I k) :: L), {}) := by
        rw [run_loop]
        simp (maxSteps := 10000000) [-List.getD_eq_getElem?_getD, -loadA, -ixsA, body91_0, keep91_0, head91, hlt', hw, hix, hlr, hv, hru]
        exact ⟨_, rfl⟩
      obtain ⟨L, hL⟩ := this
      exact ⟨L, k, by rw [hv]; exact List.mem_cons_self .., hL⟩
    · have key : run Cv 91 (.loop keep91_0 body91_0) (head91 r l0.length v k) {} = run Cv 91 (.loop keep91_0 body91_0) (head91 r l0.length v ((k : Int) + 1)) {} := by
        rw [run_loop]
        generalize MC.loop keep91_0 body91_0 = L
        simp (maxSteps := 10000000) [-List.getD_eq_getElem?_getD, -loadA, -ixsA, body91_0, keep91_0, head91, hlt', hw, hix, hlr, hv, hru]
      rw [key]
      rcases loop91 l0 r hr hl v l (k + 1) hlt hd with h | ⟨L, j, h1, h2⟩
      · exact .inl ⟨by simp only [List.mem_cons, not_or]; exact ⟨hv, h.1⟩, by simpa using h.2⟩
      · exact .inr ⟨L, j, List.mem_cons_of_mem _ h1, by simpa using h2⟩
theorem contains_call (l0 : List Int) (r : AV) (hr : IsRow 1 (ints l0) r) (hl : l0.length < 2 ^ 47) (v : Int) : call Cv 82 [r, I v] = some (.bool (decide (v ∈ l0))) := by
  have hlen : lenA r = some (I l0.length) := row_len hr
  have hrp := hr.pur
  have e5 : ((0 : Nat) : Int) = 0 := rfl
  rcases loop91 l0 r hr hl v l0 0 (Nat.zero_le _) rfl with ⟨h1, L, hl⟩ | ⟨L, j, h1, hl⟩
  · have hl' := fun E (hE : mask keep91_0 E = _) => run_at hl hE
    simp only [keep91_0, head91, e5] at hl'
    have h2 : call Cv 91 [r, I v] = some (I (-1)) := by
      rw [call_run comp91 (Nat.le_of_ble_eq_true rfl)]
      simp (maxSteps := 10000000) [-List.getD_eq_getElem?_getD, code91, hlen, keep91_0, hl']
    rw [call_run comp82 (Nat.le_of_ble_eq_true rfl)]
    simp (maxSteps := 10000000) [-List.getD_eq_getElem?_getD, code82, hrp, h2, h1]
  · have hl' := fun E (hE : mask keep91_0 E = _) => run_at hl hE
    simp only [keep91_0, head91, e5] at hl'
    have h2 : call Cv 91 [r, I v] = some (I j) := by
      rw [call_run comp91 (Nat.le_of_ble_eq_true rfl)]
      simp (maxSteps := 10000000) [-List.getD_eq_getElem?_getD, code91, hlen, keep91_0, hl']
    have hj : (0 : Int) ≤ j := by omega
    rw [call_run comp82 (Nat.le_of_ble_eq_true rfl)]
    simp (maxSteps := 10000000) [-List.getD_eq_getElem?_getD, code82, hrp, h2, h1, hj]
def growV (c sz : Nat) (es : List AV) : AV := if es = [] then .nils else .sl sz es (.chain c)
def growC (sz : Nat) (es : List AV) : List (Nat × Nat) := if es = [] then [] else [(es.length, sz)]
theorem growV_nil (c sz : Nat) : growV c sz [] = .nils := rfl
theorem growC_nil (sz : Nat) : growC sz [] = [] := rfl
theorem growV_some (c sz : Nat) {es : List AV} (h : es ≠ []) : growV c sz es = .sl sz es (.chain c) := if_neg h
theorem growC_some (sz : Nat) {es : List AV} (h : es ≠ []) : growC sz es = [(es.length, sz)] := if_neg h
theorem growV_cell (c sz : Nat) (es : List AV) : (growV c sz es).isCell = true := by unfold growV; split <;> rfl
theorem growV_cells (c sz : Nat) (es : List AV) : (growV c sz es).cells = [growV c sz es] := by unfold growV; split <;> rfl
theorem growV_pur (c sz : Nat) (es : List AV) : ∃ r, IsRow sz es r ∧ ∀ σ n, pur σ (n + 1) (growV c sz es) = some (r, false) := by
  by_cases h : es = []
  · subst h
    exact ⟨.nils, .inl ⟨rfl, rfl⟩, fun _ _ => rfl⟩
  · rw [growV_some c sz h]
    exact ⟨.sl sz es .no, .inr (.inr ⟨.no, rfl, rfl⟩), fun _ _ => rfl⟩
theorem app_row (bx : List (List AV)) (mp : List (List AV × List AV)) (lp : List Lp) (pre : List (Nat × Nat)) (es : List AV) (e : AV) (sz bytes : Nat) (ag : Bool) (hlen : (es.length + 1) * bytes ≤ 140737488355328) (c : Nat) (hc : c = pre.length) :
    appA { boxes := bx, chains := pre ++ growC sz es, maps := mp, loops := lp } false sz bytes ag (growV c sz es) (.sl sz [e] .full) = some (growV c sz (es ++ [e]), { boxes := bx, chains := pre ++ growC sz (es ++ [e]), maps := mp, loops := lp }) := by
  subst hc
  have hn : es ++ [e] ≠ [] := by simp
  rw [growV_some _ _ hn, growC_some _ hn]
  by_cases h : es = []
  · subst h
    have : (0 + 1) * bytes ≤ 140737488355328 := hlen
    rw [growV_nil, growC_nil]
    have h2 : ([e] : List AV).length * bytes ≤ 140737488355328 := by simpa using hlen
    simp only [appA, elemsA, Option.bind_some, List.cons_ne_nil, if_false, if_true, h2, grown, Bool.false_eq_true, List.append_nil, List.nil_append]
  · rw [growV_some _ _ h, growC_some _ h]
    have h2 : (es ++ [e]).length * bytes ≤ 140737488355328 := by simpa using hlen
    have h3 : (pre ++ [(es.length, sz)])[pre.length]? = some (es.length, sz) := by simp
    simp only [appA, elemsA, Option.bind_some, List.cons_ne_nil, if_false, if_true, h2, and_self, h3]
    congr 3
    rw [List.set_append_right _ _ (Nat.le_refl _), Nat.sub_self]
    rfl
end Go.Ai

set_option maxRecDepth 100000
namespace Go.Ai
open Go.Cold (Mv Hd Bk Tr coughsT illT rightT keptH butF)
def zero13 : List AV := [I 0, I 0, I 0, I 0, I 0, I 0, I 0, I 0, .nils, I 0, .nils, .nilm, .nils]
def hdRow (K : List Hd) : List AV := K.map fun h => .agg (hdC h)
def oC (x : CB) (K : List Hd) (tv : AV) : List AV := [I x.beds, I x.days, I x.begins, I x.until_, I x.oL, I x.oH, I x.gL, I x.gH, x.mr, I x.rooms, growV 0 3 (hdRow K), .mp 0, tv]
def stO (x : CB) (K : List Hd) (am : BM) : St := { boxes := [x.cells, zero13, oC x K .nils], chains := growC 3 (hdRow K), maps := [(ksM am, vsM am)] }
def head57a (x : CB) (r : AV) (k : Int) : Env := mkE 72 .any [(22, I k), (21, I x.hs.length), (20, x.hr), (5, .box 2 0), (4, .box 1 0), (2, .box 0 0), (1, r)]
theorem round57a (x : CB) (hx : x.Ok) (but : List Int) (r : AV) (hr : IsRow 1 (ints but) r) (hl : but.length < 2 ^ 47) (K : List Hd) (hK : K.length < 1000) (am : BM) (k : Nat) (h : Hd) (hlt : k < x.hs.length) (ha : x.hs[k] = h) :
    run Cv 57 (.loop keep57_0 body57_0) (head57a x r k) (stO x K am) = run Cv 57 (.loop keep57_0 body57_0) (head57a x r (k + 1)) (stO x (K ++ if butF but k then [] else [h]) am) := by
  have hw := wrap_succ hlt hx.lh
  have hlt' : (k : Int) < (x.hs.length : Int) := by omega
  have hix := h_ix hx hlt
  rw [ha] at hix
  have hc := contains_call but r hr hl k
  have e1 : decide ((k : Int) ∈ but) = butF but k := rfl
  rw [e1] at hc
  have p1 := hx.mrow.pur
  have p2 := hx.hrow.pur
  have u1 := hx.mrow.under
  have u2 := hx.hrow.under
  have u3 := hr.under
  have r1 := hr.pur
  have hkl : (hdRow K).length = K.length := by simp [hdRow]
  have happ := app_row [x.cells, zero13, oC x K .nils, hdC h] [(ksM am, vsM am)] [] [] (hdRow K) (.agg (hdC h)) 3 24 true (by omega) 0 rfl
  have hn : hdRow K ++ [AV.agg (hdC h)] ≠ [] := by simp
  have hnew : hdRow (K ++ [h]) = hdRow K ++ [AV.agg (hdC h)] := by simp [hdRow]
  rw [growV_some _ _ hn, growC_some _ hn] at happ
  have ks := ks_under
  have vs := vs_under
  rw [run_loop]
  generalize MC.loop keep57_0 body57_0 = L
  by_cases he : hdRow K = []
  · have hv : growV 0 3 (hdRow K) = .nils := by rw [he]; rfl
    have hch : growC 3 (hdRow K) = [] := by rw [he]; rfl
    cases hb : butF but k with
    | true =>
      rw [hb] at hc
      simp (maxSteps := 10000000) [-List.getD_eq_getElem?_getD, -ixsA, body57_0, keep57_0, head57a, stO, oC, zero13, CB.cells, hdC, hv, hch, hlt', hw, hix, hc, r1, u1, u2, u3, ks, vs]
    | false =>
      rw [hb] at hc
      simp only [Bool.false_eq_true, if_false, stO, oC, hnew, growV_some 0 3 hn, growC_some 3 hn]
      simp only [oC, hv, hch, List.nil_append, CB.cells, zero13, hdC] at happ
      simp (maxSteps := 10000000) [-List.getD_eq_getElem?_getD, -ixsA, body57_0, keep57_0, head57a, stO, oC, zero13, CB.cells, hdC, hv, hch, hlt', hw, hix, hc, r1, u1, u2, u3, ks, vs, happ, fillE, depth, AV.isAgg]
  · have hv : growV 0 3 (hdRow K) = .sl 3 (hdRow K) (.chain 0) := growV_some 0 3 he
    have hch : growC 3 (hdRow K) = [((hdRow K).length, 3)] := growC_some 3 he
    cases hb : butF but k with
    | true =>
      rw [hb] at hc
      simp (maxSteps := 10000000) [-List.getD_eq_getElem?_getD, -ixsA, body57_0, keep57_0, head57a, stO, oC, zero13, CB.cells, hdC, hv, hch, hlt', hw, hix, hc, r1, u1, u2, u3, ks, vs]
    | false =>
      rw [hb] at hc
      simp only [Bool.false_eq_true, if_false, stO, oC, hnew, growV_some 0 3 hn, growC_some 3 hn]
      simp only [oC, hv, hch, List.nil_append, CB.cells, zero13, hdC] at happ
      simp (maxSteps := 10000000) [-List.getD_eq_getElem?_getD, -ixsA, body57_0, keep57_0, head57a, stO, oC, zero13, CB.cells, hdC, hv, hch, hlt', hw, hix, hc, r1, u1, u2, u3, ks, vs, happ, fillE, depth, AV.isAgg]
end Go.Ai

set_option maxRecDepth 100000
namespace Go.Ai
open Go.Cold (Mv Hd Bk Tr coughsT illT rightT keptH butF awayL)
theorem loop57a (x : CB) (hx : x.Ok) (but : List Int) (r : AV) (hr : IsRow 1 (ints but) r) (hl : but.length < 2 ^ 47) (am : BM) (h9 : x.hs.length < 500) : ∀ (l : List Hd) (k : Nat) (K : List Hd), k ≤ x.hs.length → x.hs.drop k = l → K.length ≤ k →
    run Cv 57 (.loop keep57_0 body57_0) (head57a x r k) (stO x K am) = some (.ex 0, mkE 72 .any [(23, .bool false), (22, I x.hs.length), (21, I x.hs.length), (20, x.hr), (5, .box 2 0), (4, .box 1 0), (2, .box 0 0), (1, r)], stO x (K ++ keptH (butF but) l k) am)
  | [], k, K, hk, h, _ => by
    obtain rfl := drop_nil hk h
    rw [run_loop, keptH, List.append_nil]
    simp (maxSteps := 10000000) [-List.getD_eq_getElem?_getD, body57_0, keep57_0, head57a]
  | a :: l, k, K, hk, h, hKk => by
    obtain ⟨hlt, ha, hd⟩ := head_drop h
    rw [round57a x hx but r hr hl K (by omega) am k a hlt ha]
    have e1 : (k : Int) + 1 = ((k + 1 : Nat) : Int) := by omega
    rw [e1, loop57a x hx but r hr hl am h9 l (k + 1) _ hlt hd (by split <;> simp <;> omega), keptH, List.append_assoc]
structure HV where
  v : AV
  ch : List (Nat × Nat)
structure HV.Ok (h : HV) : Prop where
  cell : h.v.isCell = true
  un' : ∀ a nc c d n, h.ch.length ≤ nc → under a nc c d (n + 1) h.v = true
theorem HV.Ok.un {h : HV} (hh : h.Ok) (a c d n : Nat) : under a h.ch.length c d (n + 1) h.v = true := hh.un' a _ c d n (Nat.le_refl _)
def hvOf (K : List Hd) : HV := ⟨growV 0 3 (hdRow K), growC 3 (hdRow K)⟩
theorem hvOf_ok (K : List Hd) : (hvOf K).Ok := by
  by_cases h : hdRow K = []
  · exact ⟨growV_cell _ _ _, fun a nc c d n _ => by unfold hvOf; rw [h]; rfl⟩
  · refine ⟨growV_cell _ _ _, fun a nc c d n hle => ?_⟩
    unfold hvOf at hle ⊢
    rw [growC_some _ h] at hle
    rw [growV_some _ _ h]
    simp only [List.length_cons, List.length_nil] at hle
    simp only [under, decide_eq_true_eq]
    omega
def oC' (x : CB) (h : HV) (tv : AV) : List AV := [I x.beds, I x.days, I x.begins, I x.until_, I x.oL, I x.oH, I x.gL, I x.gH, x.mr, I x.rooms, h.v, .mp 0, tv]
def stP (x : CB) (h : HV) (am : BM) (E : List (List AV)) : St := { boxes := [x.cells, zero13, oC' x h .nils] ++ E, chains := h.ch, maps := [(ksM am, vsM am)] }
theorem stO_P (x : CB) (K : List Hd) (am : BM) : stO x K am = stP x (hvOf K) am [] := rfl
def head57b (x : CB) (d k : Int) : Env := mkE 72 .any [(43, I k), (42, I x.ms.length), (41, x.mr), (10, I d), (9, .box 3 0), (5, .box 2 0), (4, .box 1 0), (2, .box 0 0)]
def putD (b : Int) : Nat → Int → BM → BM
  | 0, _, l => l
  | n + 1, d, l => putD b n (d + 1) (BM.put l (b, d) true)
theorem get_putD (b : Int) (k : Int × Int) : ∀ (n : Nat) (d : Int) (l : BM), BM.get (putD b n d l) k = (decide (b = k.1 ∧ d ≤ k.2 ∧ k.2 < d + n) || BM.get l k)
  | 0, d, l => by
    have : ¬ (b = k.1 ∧ d ≤ k.2 ∧ k.2 < d + ((0 : Nat) : Int)) := by omega
    rw [putD, decide_eq_false this, Bool.false_or]
  | n + 1, d, l => by
    rw [putD, get_putD b k n, bm_get_put]
    by_cases h : (b, d) = k
    · subst h
      simp
      omega
    · rw [if_neg h]
      congr 1
      rw [decide_eq_decide]
      have h2 : b = k.1 → d ≠ k.2 := fun e1 e2 => h (by subst e1 e2; rfl)
      constructor
      · rintro ⟨h3, h4, h5⟩; exact ⟨h3, by omega, by omega⟩
      · rintro ⟨h3, h4, h5⟩
        have := h2 h3
        exact ⟨h3, by omega, by omega⟩
theorem loop57b (x : CB) (hx : x.Ok) (hd : x.days ≤ 6) (h : HV) (hh : h.Ok) (m : Mv) (hm : 0 ≤ m.day) (k : Int) : ∀ (n : Nat) (d : Int) (am : BM), 0 ≤ d → (x.days - d).toNat = n → ∃ d', 
    run Cv 57 (.loop keep57_1 body57_1) (head57b x d k) (stP x h am [mvC m]) = some (.ex 4, mkE 72 .any [(52, .bool false), (51, I x.days), (50, .box 0 1), (49, I d'), (43, I k), (42, I x.ms.length), (41, x.mr), (10, I d'), (9, .box 3 0), (5, .box 2 0), (4, .box 1 0), (2, .box 0 0)], stP x h (putD m.bed n d am) [mvC m])
  | 0, d, am, h0, hn => by
    have hge : ¬ d < x.days := by omega
    refine ⟨d, ?_⟩
    rw [run_loop]
    simp (maxSteps := 10000000) [-List.getD_eq_getElem?_getD, body57_1, keep57_1, head57b, stP, CB.cells, zero13, oC', hge, putD]
  | n + 1, d, am, h0, hn => by
    have hlt : d < x.days := by omega
    have w1 : IntKind.wrap .i64 (d + 1) = d + 1 := wrap_small (by omega) (by omega)
    obtain ⟨d', h1⟩ := loop57b x hx hd h hh m hm k n (d + 1) (BM.put am (m.bed, d) true) (by omega) (by omega)
    refine ⟨d', ?_⟩
    rw [putD, ← h1, run_loop]
    generalize MC.loop keep57_1 body57_1 = L
    have u1 := hx.mrow.under
    have u2 := hx.hrow.under
    have u4 := hh.un
    have hput := put_lit [x.cells, zero13, oC' x h .nils, mvC m] h.ch [] am m.bed d true
    simp only [CB.cells, zero13, oC', mvC] at hput
    have ks := ks_under
    have vs := vs_under
    simp (maxSteps := 10000000) [-List.getD_eq_getElem?_getD, body57_1, keep57_1, head57b, stP, CB.cells, zero13, oC', mvC, hlt, w1, hput, u1, u2, u4, ks, vs]
def head57c (x : CB) (k : Int) : Env := mkE 72 .any [(43, I k), (42, I x.ms.length), (41, x.mr), (5, .box 2 0), (4, .box 1 0), (2, .box 0 0)]
def putMs (D : Int) : List Mv → BM → BM
  | [], l => l
  | m :: ms, l => putMs D ms (putD m.bed (D - m.day).toNat m.day l)
theorem get_putMs (D : Int) (k : Int × Int) (hk : k.2 < D) : ∀ (ms : List Mv) (l : BM), (∀ m ∈ ms, m.day ≤ D) → BM.get (putMs D ms l) k = (BM.get l k || ms.any fun m => decide (m.bed = k.1) && decide (m.day ≤ k.2))
  | [], l, _ => by simp [putMs]
  | m :: ms, l, h => by
    have hm := h m (.head _)
    rw [putMs, get_putMs D k hk ms _ fun a ha => h a (.tail _ ha), get_putD]
    have : decide (m.bed = k.1 ∧ m.day ≤ k.2 ∧ k.2 < m.day + ((D - m.day).toNat : Nat)) = (decide (m.bed = k.1) && decide (m.day ≤ k.2)) := by
      rw [Bool.eq_iff_iff]
      simp only [decide_eq_true_eq, Bool.and_eq_true]
      constructor
      · rintro ⟨a, b, _⟩; exact ⟨a, b⟩
      · rintro ⟨a, b⟩; exact ⟨a, b, by omega⟩
    rw [this, List.any_cons]
    generalize (decide (m.bed = k.1) && decide (m.day ≤ k.2)) = b1
    generalize (ms.any fun m => decide (m.bed = k.1) && decide (m.day ≤ k.2)) = b2
    cases b1 <;> cases BM.get l k <;> cases b2 <;> rfl
theorem loop57c (x : CB) (hx : x.Ok) (hd : x.days ≤ 6) (h : HV) (hh : h.Ok) (hms : ∀ m ∈ x.ms, 0 ≤ m.day) : ∀ (l : List Mv) (k : Nat) (am : BM), k ≤ x.ms.length → x.ms.drop k = l →
    run Cv 57 (.loop keep57_2 body57_2) (head57c x k) (stP x h am []) = some (.ex 2, mkE 72 .any [(44, .bool false), (43, I x.ms.length), (42, I x.ms.length), (41, x.mr), (5, .box 2 0), (4, .box 1 0), (2, .box 0 0)], stP x h (putMs x.days l am) [])
  | [], k, am, hk, hq => by
    obtain rfl := drop_nil hk hq
    rw [run_loop]
    simp (maxSteps := 10000000) [-List.getD_eq_getElem?_getD, body57_2, keep57_2, head57c, putMs]
  | a :: l, k, am, hk, hq => by
    obtain ⟨hlt, ha, hdr⟩ := head_drop hq
    have hw := wrap_succ hlt hx.lm
    have hlt' : (k : Int) < (x.ms.length : Int) := by omega
    have hix := m_ix hx hlt
    rw [ha] at hix
    have hday := hms a (by rw [← ha]; exact List.getElem_mem _)
    have e1 : (k : Int) + 1 = ((k + 1 : Nat) : Int) := by omega
    have ih := loop57c x hx hd h hh hms l (k + 1) (putD a.bed (x.days - a.day).toNat a.day am) hlt hdr
    obtain ⟨d', hb⟩ := loop57b x hx hd h hh a hday k (x.days - a.day).toNat a.day am hday rfl
    have hb' := fun E (hE : mask keep57_1 E = _) => run_at hb hE
    simp only [keep57_1, head57b, stP, CB.cells, zero13, oC', mvC, List.cons_append, List.nil_append] at hb'
    have u1 := hx.mrow.under
    have u2 := hx.hrow.under
    have u4 := hh.un
    have ks := ks_under
    have vs := vs_under
    rw [putMs, ← ih, run_loop]
    generalize MC.loop keep57_2 body57_2 = L
    simp (maxSteps := 10000000) [-List.getD_eq_getElem?_getD, -ixsA, body57_2, keep57_2, keep57_1, head57c, stP, CB.cells, zero13, oC', mvC, hlt', hw, hix, hb', u1, u2, u4, ks, vs]
end Go.Ai
