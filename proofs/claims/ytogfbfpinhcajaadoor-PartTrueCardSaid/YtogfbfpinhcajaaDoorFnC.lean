/- This text shows what opened answers: all truths of a book. No conditions of its own. -/
import Derived.Test.YtogfbfpinhcajaaDoorFnB
set_option linter.unusedSimpArgs false
set_option linter.unusedVariables false
set_option maxRecDepth 100000
set_option linter.unusedSimpArgs false
set_option linter.unusedVariables false
/-! The map of what is copied is built. -/
namespace Go.Ai
open Go.Part (Sp Cp)
theorem ks_under (a b c d n : Nat) : ∀ l : PM, l.ks.all (under a b c d (n + 2)) = true
  | [] => rfl
  | e :: l => by
    have := ks_under a b c d n l
    simp only [PM.ks] at this ⊢
    simp only [List.map_cons, List.all_cons, this, Bool.and_true]
    rfl
theorem vs_under (a b c d n : Nat) : ∀ l : PM, l.vs.all (under a b c d (n + 1)) = true
  | [] => rfl
  | e :: l => by
    have := vs_under a b c d n l
    simp only [PM.vs] at this ⊢
    simp only [List.map_cons, List.all_cons, this, Bool.and_true]
    rfl
theorem ks_pur (σ : St) (n : Nat) : ∀ l : PM, purAll (pur σ (n + 2)) l.ks = some (l.ks, false)
  | [] => rfl
  | e :: l => by
    have := ks_pur σ n l
    simp only [PM.ks, keyA] at this ⊢
    simp [purAll, pur, this]
theorem vs_pur (σ : St) (n : Nat) : ∀ l : PM, purAll (pur σ (n + 1)) l.vs = some (l.vs, false)
  | [] => rfl
  | e :: l => by
    have := vs_pur σ n l
    simp only [PM.vs] at this ⊢
    simp [purAll, pur, this]
theorem run_at {C : Cfg} {f : FuncId} {k : Option (List Tmp)} {b : MC} {E e : Env} {σ : St} {r : Option Out} (h : run C f (.loop k b) e σ = r) (hE : mask k E = e) : run C f (.loop k b) E σ = r := by
  rw [run_loop_mask, hE]; exact h
/-- A note of a copy is put. -/
def addM (l : PM) (k : Int × Int) (n : Int) : PM := l.put k (match l.get k with
  | none => n
  | some m => if m = n then n else -1)
def addC (v : Int) : List Int → Nat → PM → PM
  | [], _, l => l
  | n :: ns, i, l => addC v ns (i + 1) (addM l (v, i) n)
def builtM (out : Nat → Bool) : List Cp → Nat → PM → PM
  | [], _, l => l
  | c :: cs, k, l => builtM out cs (k + 1) (if out k then l else addC c.voice c.notes 0 l)
def zero8 : List AV := [I 0, .nils, I 0, I 0, I 0, .nils, .nilm, .nils]
def st65 (x : PB) (lf : AV) (l : PM) (bx : List (List AV)) : St := { boxes := [x.cells, [lf], zero8, x.cells ++ [.mp 0, .nils]] ++ bx, maps := [(l.ks, l.vs)] }
def head65_0 (x : PB) (r : AV) (n k i : Int) : Env := mkE 72 .any [(34, I i), (33, I n), (32, r), (22, I k), (21, I x.copies.length), (20, x.cr), (7, .box 4 0), (5, .box 3 0), (4, .box 2 0), (3, .box 1 0)]
theorem put_lit (bx : List (List AV)) (l : PM) (k : Int × Int) (n : Int) : mputA { boxes := bx, maps := [(l.ks, l.vs)] } (some 2) (.mp 0) (.agg [I k.1, I k.2]) (I n) = some { boxes := bx, maps := [((PM.put l k n).ks, (PM.put l k n).vs)] } :=
  mput_map { boxes := bx, maps := [(l.ks, l.vs)] } l k n 0 rfl (Nat.le_refl _)
theorem lkp_lit (bx : List (List AV)) (l : PM) (k : Int × Int) : lkpA { boxes := bx, maps := [(l.ks, l.vs)] } (some 2) (I 0) (.mp 0) (.agg [I k.1, I k.2]) true = some (.tup [I ((l.get k).getD 0), .bool (l.get k).isSome]) :=
  lkp_map { boxes := bx, maps := [(l.ks, l.vs)] } l k (.mp 0) rfl
theorem loop65_0 (x : PB) (hx : x.Ok) (lf : AV) (hlu : ∀ a b c d n, under a b c d (n + 2) lf = true) (c : CpV) (hc : c.Ok) (k : Nat) : ∀ (ns : List Int) (i : Nat) (l : PM), i ≤ c.cp.notes.length → c.cp.notes.drop i = ns →
    run Cv 65 (.loop keep65_0 body65_0) (head65_0 x c.row c.cp.notes.length k i) (st65 x lf l [[I c.cp.voice, c.row]]) =
      some (.ex 2, mkE 72 .any [(35, .bool false), (34, I c.cp.notes.length), (33, I c.cp.notes.length), (32, c.row), (22, I k), (21, I x.copies.length), (20, x.cr), (7, .box 4 0), (5, .box 3 0), (4, .box 2 0), (3, .box 1 0)], st65 x lf (addC c.cp.voice ns i l) [[I c.cp.voice, c.row]])
  | [], i, l, hi, h => by
    obtain rfl := drop_nil hi h
    rw [run_loop]
    simp (maxSteps := 10000000) [-List.getD_eq_getElem?_getD, body65_0, keep65_0, head65_0, st65, addC]
  | n :: ns, i, l, hi, h => by
    obtain ⟨hlt, ha, hd⟩ := head_drop h
    have hw := wrap_succ hlt (by have := hc.len; omega)
    have hu := hc.row.under
    have hvu := hx.vrow.under
    have hcu := hx.crow.under
    have key : run Cv 65 (.loop keep65_0 body65_0) (head65_0 x c.row c.cp.notes.length k i) (st65 x lf l [[I c.cp.voice, c.row]]) = run Cv 65 (.loop keep65_0 body65_0) (head65_0 x c.row c.cp.notes.length k (i + 1)) (st65 x lf (addM l (c.cp.voice, i) n) [[I c.cp.voice, c.row]]) := by
      obtain ⟨cc, hcc, hr⟩ := hc.row.sl (by intro hn; simp [ints] at hn; rw [hn] at hlt; simp at hlt)
      rw [hr] at hu
      simp only [ints] at hu
      have hl := fun bx => lkp_lit bx l (c.cp.voice, i)
      have hp := fun bx m => put_lit bx l (c.cp.voice, i) m
      have k1 := fun a b c d n l => ks_under a b c d n l
      have k2 := fun a b c d n l => vs_under a b c d n l
      rw [run_loop]
      generalize MC.loop keep65_0 body65_0 = L
      cases hg : l.get (c.cp.voice, i) with
      | none =>
        simp only [hg, Option.getD_none, Option.isSome_none] at hl
        simp (maxSteps := 10000000) [-List.getD_eq_getElem?_getD, body65_0, keep65_0, head65_0, st65, PB.cells, hr, ints, hlt, ha, hw, hu, hvu, hcu, hl, hp, hlu, k1, k2, addM, hg, zero8, fillA, setAt]
      | some m =>
        simp only [hg, Option.getD_some, Option.isSome_some] at hl
        by_cases hm : m = n
        · simp (maxSteps := 10000000) [-List.getD_eq_getElem?_getD, body65_0, keep65_0, head65_0, st65, PB.cells, hr, ints, hlt, ha, hw, hu, hvu, hcu, hl, hp, hlu, k1, k2, addM, hg, hm, zero8, fillA, setAt]
        · simp (maxSteps := 10000000) [-List.getD_eq_getElem?_getD, body65_0, keep65_0, head65_0, st65, PB.cells, hr, ints, hlt, ha, hw, hu, hvu, hcu, hl, hp, hlu, k1, k2, addM, hg, hm, zero8, fillA, setAt]
    rw [key]
    exact loop65_0 x hx lf hlu c hc k ns (i + 1) _ hlt hd
/-- Which copies are left out, as a function. -/
structure Lf (lf : AV) (out : Nat → Bool) (m : Nat) : Prop where
  cell : lf.isCell = true
  cells : lf.cells = [lf]
  under : ∀ a b c d n, under a b c d (n + 2) lf = true
  call : ∀ (k : Nat) (σ : St), k < m → callA Cv (run Cv) false lf [I k] σ = some (.bool (out k), σ)
def head65_1 (x : PB) (k : Int) : Env := mkE 72 .any [(22, I k), (21, I x.copies.length), (20, x.cr), (5, .box 3 0), (4, .box 2 0), (3, .box 1 0)]
theorem loop65_1 (x : PB) (hx : x.Ok) (lf : AV) (out : Nat → Bool) (hlf : Lf lf out x.copies.length) : ∀ (cs : List CpV) (k : Nat) (l : PM), k ≤ x.copies.length → x.copies.drop k = cs →
    run Cv 65 (.loop keep65_1 body65_1) (head65_1 x k) (st65 x lf l []) =
      some (.ex 0, mkE 72 .any [(23, .bool false), (22, I x.copies.length), (21, I x.copies.length), (20, x.cr), (5, .box 3 0), (4, .box 2 0), (3, .box 1 0)], st65 x lf (builtM out (cs.map CpV.cp) k l) [])
  | [], k, l, hk, h => by
    obtain rfl := drop_nil hk h
    rw [run_loop]
    simp (maxSteps := 10000000) [-List.getD_eq_getElem?_getD, body65_1, keep65_1, head65_1, st65, builtM]
  | c :: cs, k, l, hk, h => by
    obtain ⟨hlt, ha, hd⟩ := head_drop h
    have hw := wrap_succ hlt (by have := hx.lc; omega)
    have hc := hx.cp c (ha ▸ List.getElem_mem _)
    have hu := hc.row.under
    have hvu := hx.vrow.under
    have hcu := hx.crow.under
    have hrl := row_len hc.row
    have hcl := hlf.call k
    have hlu := hlf.under
    have k1 := fun a b c d n l => ks_under a b c d n l
    have k2 := fun a b c d n l => vs_under a b c d n l
    have hce := hc.row.cell
    have key : run Cv 65 (.loop keep65_1 body65_1) (head65_1 x k) (st65 x lf l []) = run Cv 65 (.loop keep65_1 body65_1) (head65_1 x (k + 1)) (st65 x lf (if out k then l else addC c.cp.voice c.cp.notes 0 l) []) := by
      obtain ⟨cc, hcc, hr⟩ := hx.crow.sl (by intro hn; simp at hn; rw [hn] at hlt; simp at hlt)
      have hin := fun E (hE : mask keep65_0 E = _) => run_at (loop65_0 x hx lf hlu c hc k c.cp.notes 0 l (Nat.zero_le _) rfl) hE
      simp only [keep65_0, head65_0, st65, PB.cells, zero8, List.cons_append, List.nil_append, hr] at hin
      rw [hr] at hcu
      rw [run_loop]
      generalize MC.loop keep65_1 body65_1 = L
      cases ho : out k with
      | true =>
        rw [ho] at hcl
        simp (maxSteps := 10000000) [-List.getD_eq_getElem?_getD, body65_1, keep65_1, head65_1, st65, PB.cells, hr, hlt, ha, hw, hu, hvu, hcu, hlu, hcl, k1, k2, zero8, CpV.av, hce]
      | false =>
        rw [ho] at hcl
        simp (maxSteps := 10000000) [-List.getD_eq_getElem?_getD, body65_1, keep65_1, head65_1, st65, PB.cells, hr, hlt, ha, hw, hu, hvu, hcu, hlu, hcl, hrl, k1, k2, zero8, CpV.av, hin, keep65_0, hce]
    rw [key]
    exact loop65_1 x hx lf out hlf cs (k + 1) _ hlt hd
end Go.Ai

set_option maxRecDepth 100000
set_option linter.unusedSimpArgs false
set_option linter.unusedVariables false
/-! What is written, as lists. -/
namespace Go.Ai
open Go.Part (Sp Cp Bk at' okP rightK stepOk moveOk)
theorem get_put (k k' : Int × Int) (v : Int) : ∀ l : PM, PM.get (PM.put l k v) k' = if k = k' then some v else PM.get l k'
  | [] => by simp [PM.put, PM.get]
  | e :: l => by
    have ih := get_put k k' v l
    simp only [PM.put]
    by_cases h : e.1 = k
    · simp only [h, if_true, PM.get]
      by_cases h2 : k = k' <;> simp [h2]
    · simp only [h, if_false, PM.get, ih]
      by_cases h2 : e.1 = k'
      · have : ¬ k = k' := fun h3 => h (h2.trans h3.symm)
        simp [h2, this]
      · simp [h2]
theorem right_add (l : PM) (k k' : Int × Int) (m n : Int) (hn : n ≠ -1) : rightM (addM l k m) k' n = (rightM l k' n && (!decide (k = k') || decide (m = n))) := by
  unfold rightM addM
  rw [get_put]
  by_cases h : k = k'
  · subst h
    cases hg : l.get k with
    | none => simp
    | some a =>
      by_cases h2 : a = m
      · subst h2; simp
      · have : ¬ (-1 : Int) = n := fun h => hn h.symm
        simp only [h2, if_false, if_true, this, decide_false, decide_true, Bool.not_true, Bool.false_or]
        by_cases h3 : a = n
        · subst h3
          have : ¬ m = a := fun h => h2 h.symm
          simp [this]
        · simp [h3]
  · simp only [h, if_false, decide_false, Bool.not_false, Bool.true_or, Bool.and_true]
theorem right_addC (v w : Int) (j : Nat) (n : Int) (hn : n ≠ -1) : ∀ (ns : List Int) (i : Nat) (l : PM), rightM (addC v ns i l) (w, j) n = (rightM l (w, j) n && (!decide (v = w) || decide (j < i) || decide (i + ns.length ≤ j) || decide (ns.getD (j - i) 0 = n)))
  | [], i, l => by
    have : j < i ∨ i ≤ j := by omega
    rcases this with h | h <;> simp [addC, h]
  | m :: ns, i, l => by
    rw [addC, right_addC v w j n hn ns (i + 1), right_add l _ _ _ _ hn, Bool.and_assoc]
    congr 1
    by_cases hv : v = w
    · subst hv
      have hk : (((v, (i : Int)) : Int × Int) = (v, (j : Int))) ↔ i = j := by simp; omega
      simp only [hk, decide_true, Bool.not_true, Bool.false_or, List.length_cons]
      rcases Nat.lt_trichotomy i j with h | h | h
      · have h1 : ¬ i = j := by omega
        have h2 : ¬ j < i + 1 := by omega
        have h3 : ¬ j < i := by omega
        have h4 : j - i = (j - (i + 1)) + 1 := by omega
        have h5 : (i + 1 + ns.length ≤ j) ↔ (i + (ns.length + 1) ≤ j) := by omega
        simp [h1, h2, h3, h4, h5]
        try congr 1
      · subst h
        simp; omega
      · have h1 : ¬ i = j := by omega
        have h2 : j < i + 1 := by omega
        simp [h1, h2, h]
    · have hk : ¬ (((v, (i : Int)) : Int × Int) = (w, (j : Int))) := by simp [hv]
      simp [hv, hk]
theorem right_built (out : Nat → Bool) (v i : Nat) (n : Int) (hn : n ≠ -1) {N : Nat} (hi : i < N) : ∀ (cs : List Cp) (k : Nat) (l : PM), (∀ c ∈ cs, c.notes.length = N) → rightM (builtM out cs k l) (v, i) n = (rightM l (v, i) n && rightK out v i n cs k)
  | [], _, l, _ => by simp [builtM, rightK]
  | c :: cs, k, l, h => by
    have hc := h c (.head _)
    rw [builtM, right_built out v i n hn hi cs (k + 1) _ fun d hd => h d (.tail _ hd), rightK]
    cases ho : out k with
    | true => simp
    | false =>
      have := right_addC c.voice v i n hn c.notes 0 l
      simp only [Bool.false_eq_true, if_false, this, hc]
      have h2 : ¬ N ≤ i := by omega
      simp [h2, Bool.and_assoc]
def map0 : PM := [((-1, -1), -1)]
theorem right0 (v i : Nat) (n : Int) : rightM map0 (v, i) n = true := by
  have : ¬ ((-1 : Int) = v) := by omega
  simp [rightM, map0, PM.get, this]
/-! Pieces. -/
def pc (N : Nat) (q : List Int) : List Int := (List.range 9).map fun c => if c / 3 < N ∧ (c % 3) * N + c / 3 < q.length then at' q (c % 3 * N + c / 3) else -1
theorem pc_len (N : Nat) (q : List Int) : (pc N q).length = 9 := by simp [pc]
theorem pc_get {N : Nat} (q : List Int) {v i : Nat} (hv : v < 3) (hi : i < 3) (hN : i < N) : (pc N q).getD (i * 3 + v) 0 = if v * N + i < q.length then at' q (v * N + i) else -1 := by
  have h1 : (i * 3 + v) / 3 = i := by omega
  have h2 : (i * 3 + v) % 3 = v := by omega
  have h3 : i * 3 + v < 9 := by omega
  rw [List.getD_eq_getElem?_getD, pc, List.getElem?_map, List.getElem?_range h3]
  simp only [Option.map_some, Option.getD_some, h1, h2, hN, true_and]
theorem at_app {q r : List Int} {j : Nat} (h : j < q.length) : at' (q ++ r) j = at' q j := by
  simp only [at', List.getD_eq_getElem?_getD]
  rw [List.getElem?_append_left h]
theorem at_last {q : List Int} {n : Int} {j : Nat} (h : j = q.length) : at' (q ++ [n]) j = n := by
  subst h; simp [at']
theorem place_inj {N v i v' i' : Nat} (hi : i < N) (hi' : i' < N) (h : v * N + i = v' * N + i') : v = v' ∧ i = i' := by
  have h1 : (v * N + i) % N = i := by rw [Nat.add_comm, Nat.add_mul_mod_self_right, Nat.mod_eq_of_lt hi]
  have h2 : (v' * N + i') % N = i' := by rw [Nat.add_comm, Nat.add_mul_mod_self_right, Nat.mod_eq_of_lt hi']
  have h3 : i = i' := by rw [← h1, ← h2, h]
  subst h3
  have : v * N = v' * N := by omega
  exact ⟨Nat.eq_of_mul_eq_mul_right (by omega) this, rfl⟩
theorem pc_set {N v i : Nat} (hi : i < N) (hi3 : i < 3) (hv : v < 3) (q r : List Int) (hq : q.length = v * N + i) (hr : r.length ≤ 1) (n : Int) : (pc N (q ++ r)).set (i * 3 + v) n = pc N (q ++ [n]) := by
  refine List.ext_getElem? fun c => ?_
  rw [List.getElem?_set, pc_len]
  by_cases h : i * 3 + v = c
  · subst h
    have h3 : i * 3 + v < 9 := by omega
    rw [if_pos rfl, if_pos h3]
    have := pc_get (N := N) (q ++ [n]) hv hi3 hi
    rw [if_pos (by simp; omega), at_last (by omega)] at this
    rw [List.getD_eq_getElem?_getD, List.getElem?_eq_getElem (by rw [pc_len]; exact h3)] at this
    rw [List.getElem?_eq_getElem (by rw [pc_len]; exact h3)]
    simp at this; rw [this]
  · rw [if_neg h]
    by_cases h9 : c < 9
    · simp only [pc, List.getElem?_map, List.getElem?_range h9, Option.map_some, Option.some.injEq]
      by_cases hc : c / 3 < N
      · have hne : c % 3 * N + c / 3 ≠ q.length := fun he => by
          have := place_inj hc hi (by rw [he, hq])
          omega
        simp only [hc, true_and]
        by_cases hlt : c % 3 * N + c / 3 < q.length
        · rw [if_pos (by rw [List.length_append]; omega), if_pos (by rw [List.length_append]; omega), at_app hlt, at_app hlt]
        · rw [if_neg (by rw [List.length_append]; omega), if_neg (by rw [List.length_append, List.length_singleton]; omega)]
      · rw [if_neg (fun h => hc h.1), if_neg (fun h => hc h.1)]
    · rw [List.getElem?_eq_none (by rw [pc_len]; omega), List.getElem?_eq_none (by rw [pc_len]; omega)]
theorem pc_range {N : Nat} {q : List Int} (h : ∀ n ∈ q, 0 ≤ n ∧ n ≤ 12) : ∀ n ∈ pc N q, -1 ≤ n ∧ n ≤ 12 := by
  intro n hn
  rw [pc, List.mem_map] at hn
  obtain ⟨c, _, rfl⟩ := hn
  split
  · rename_i hc
    have hm : at' q (c % 3 * N + c / 3) ∈ q := by
      simp [at', hc.2]
    have := h _ hm
    omega
  · omega
theorem style_ok {N v i : Nat} (b : Bk) (hb : b.N = N) (out : Nat → Bool) (ch pf : Nat) (hch : b.chords = ch) (hpf : b.perfect = pf) (hi : i < N) (hi3 : i < 3) (hv : v < 3) (q : List Int) (n : Int) (hq : q.length = v * N + i) (hr : ∀ m ∈ q ++ [n], 0 ≤ m ∧ m ≤ 12) :
    okP b out q n = (rightK out v i n b.copies 0 && styleB b.step ch pf (pc N (q ++ [n])) v i) := by
  subst hb
  have hd : (v * b.N + i) / b.N = v := by rw [Nat.add_comm, Nat.add_mul_div_right _ _ (by omega), Nat.div_eq_of_lt hi, Nat.zero_add]
  have hm : (v * b.N + i) % b.N = i := by rw [Nat.add_comm, Nat.add_mul_mod_self_right, Nat.mod_eq_of_lt hi]
  have hrn := hr n (by simp)
  have hrq : ∀ j, j < q.length → 0 ≤ at' q j ∧ at' q j ≤ 12 := fun j hj => hr _ (by simp [at', hj])
  have g1 := pc_get (N := b.N) (q ++ [n]) hv hi3 hi
  rw [if_pos (by simp; omega), at_last (by omega)] at g1
  have g2 : v ≠ 0 → (pc b.N (q ++ [n])).getD (i * 3 + v - 1) 0 = at' q (v * b.N + i - b.N) ∧ v * b.N + i - b.N < q.length := fun h0 => by
    obtain ⟨u, rfl⟩ : ∃ u, v = u + 1 := ⟨v - 1, by omega⟩
    have e : (u + 1) * b.N + i - b.N = u * b.N + i := by rw [Nat.add_mul]; omega
    have e2 : u * b.N + i < q.length := by rw [hq, Nat.add_mul]; omega
    have := pc_get (N := b.N) (q ++ [n]) (v := u) (by omega) hi3 hi
    rw [if_pos (by simp; omega), at_app e2] at this
    rw [e]
    exact ⟨this, e2⟩
  have g3 : i ≠ 0 → (pc b.N (q ++ [n])).getD ((i - 1) * 3 + v) 0 = at' q (v * b.N + i - 1) ∧ v * b.N + i - 1 < q.length := fun h0 => by
    obtain ⟨u, rfl⟩ : ∃ u, i = u + 1 := ⟨i - 1, by omega⟩
    have e : v * b.N + (u + 1) - 1 = v * b.N + u := by omega
    have e2 : v * b.N + u < q.length := by omega
    have := pc_get (N := b.N) (q ++ [n]) hv (i := u) (by omega) (by omega)
    rw [if_pos (by simp; omega), at_app e2] at this
    rw [e]
    exact ⟨this, e2⟩
  have g4 : v ≠ 0 → i ≠ 0 → (pc b.N (q ++ [n])).getD ((i - 1) * 3 + v - 1) 0 = at' q (v * b.N + i - b.N - 1) ∧ v * b.N + i - b.N - 1 < q.length := fun h0 h0' => by
    obtain ⟨u, rfl⟩ : ∃ u, v = u + 1 := ⟨v - 1, by omega⟩
    obtain ⟨j, rfl⟩ : ∃ j, i = j + 1 := ⟨i - 1, by omega⟩
    have e : (u + 1) * b.N + (j + 1) - b.N - 1 = u * b.N + j := by rw [Nat.add_mul]; omega
    have e2 : u * b.N + j < q.length := by rw [hq, Nat.add_mul]; omega
    have := pc_get (N := b.N) (q ++ [n]) (v := u) (i := j) (by omega) (by omega) (by omega)
    rw [if_pos (by simp; omega), at_app e2] at this
    rw [e]
    exact ⟨this, e2⟩
  simp only [okP, hq, hd, hm, styleB, g1]
  congr 1
  by_cases hv0 : v = 0
  · subst hv0
    by_cases hi0 : i = 0
    · subst hi0; simp
    · obtain ⟨g3a, g3b⟩ := g3 hi0
      simp only [hi0, g3a, decide_true, Bool.true_or, Bool.true_and, decide_false, Bool.false_or, Bool.and_true, stepOk, lie]
  · obtain ⟨g2a, g2b⟩ := g2 hv0
    have r2 := hrq _ g2b
    have hlt : n - at' q (v * b.N + i - b.N) < 62 := by omega
    simp only [hv0, g2a, decide_false, Bool.false_or, Part.has, hch, hlt, decide_true, Bool.and_true, Int.toNat_natCast]
    by_cases hch' : (decide (0 ≤ n - at' q (v * b.N + i - b.N)) && ch.testBit (n - at' q (v * b.N + i - b.N)).toNat) = true
    · rw [hch', Bool.true_and, Bool.true_and]
      rw [Bool.and_eq_true, decide_eq_true_eq] at hch'
      by_cases hi0 : i = 0
      · simp [hi0]
      · obtain ⟨g3a, g3b⟩ := g3 hi0
        obtain ⟨g4a, g4b⟩ := g4 hv0 hi0
        have e1 : decide (n - at' q (v * b.N + i - 1) = 0) = decide (n = at' q (v * b.N + i - 1)) := by
          rw [decide_eq_decide]; omega
        have e2 : v * b.N + i - b.N - 1 = v * b.N + i - b.N - 1 := rfl
        simp only [hi0, decide_false, Bool.false_or, stepOk, lie, moveOk, g3a, g4a, e1, Part.has, hpf, hlt, hch'.1, decide_true, Bool.true_and, Bool.and_true, Int.toNat_natCast, Bool.or_assoc]
    · rw [Bool.not_eq_true] at hch'
      rw [hch', Bool.false_and, Bool.false_and]
end Go.Ai

set_option maxRecDepth 100000
set_option linter.unusedSimpArgs false
set_option linter.unusedVariables false
/-! The state while truths are written. -/
namespace Go.Ai
open Go.Part (Sp Cp Bk at' okP rightK stepOk moveOk)
theorem callA_imp {C : Cfg} {R : Rec} {d : Bool} {f : FuncId} {a b args : List AV} {σ : St} (h : C.imp f = true) : callA C R d (.fn (.func f) a b) args σ = cutR σ (bodyA C R f (a ++ args ++ b) σ) := by simp [callA, h]
structure WX where
  x : PB
  lf : AV
  l : PM
  L : Lp
  ch : Nat
  pf : Nat
structure WX.Ok (X : WX) : Prop where
  x : X.x.Ok
  lf : ∀ a b c d n, under a b c d (n + 2) X.lf = true
  L : ∀ n nc, 8 ≤ n → X.L.env.all (under n nc 1 1 6) = true
  ch : X.x.chords = X.ch
  pf : X.x.perfect = X.pf
  step : 0 ≤ X.x.step ∧ X.x.step ≤ 7
  hch : X.ch < 2 ^ 62
  hpf : X.pf < 2 ^ 62
def tV (T : List (List Int)) : AV := if T = [] then .nils else .sl 9 (T.map fun p => .agg (ints p)) (.chain 0)
def chV (T : List (List Int)) : List (Nat × Nat) := if T = [] then [] else [(T.length, 9)]
def rightV (X : WX) : AV := .fn (.func 101) [.agg (X.x.cells ++ [.mp 0, .nils])] []
def writeV : AV := .fn (.func 102) [] [.box 4 0, .box 5 0, .box 6 0, .box 7 0]
def baseW (X : WX) (T : List (List Int)) : List (List AV) := [X.x.cells, [X.lf], zero8, X.x.cells ++ [.mp 0, tV T], X.x.cells ++ [.mp 0, .nils], [.yld 0], [rightV X], [writeV]]
def SW (X : WX) (T : List (List Int)) (ext : List (List AV)) : St := { boxes := baseW X T ++ ext, chains := chV T, maps := [(X.l.ks, X.l.vs)], loops := [X.L] }
theorem base_len (X : WX) (T : List (List Int)) (ext : List (List AV)) : (baseW X T ++ ext).length = 8 + ext.length := by rw [List.length_append]; rfl
theorem base_length (X : WX) (T : List (List Int)) : (baseW X T).length = 8 := rfl
theorem boxes_len (X : WX) (T : List (List Int)) (ext : List (List AV)) : (SW X T ext).boxes.length = 8 + ext.length := by simp only [SW, base_len]
theorem cut_keep (σ σ' : St) (e : Env) (h2 : dryAt σ'.chains.length σ σ' e = true) (h1 : σ'.chains.length = σ.chains.length ∨ dryAt σ.chains.length σ σ' e = false) : cut σ σ' e = cutAt σ'.chains.length σ σ' := by
  unfold cut
  rcases h1 with h | h
  · rw [← h, h2]; rfl
  · rw [h, h2]; rfl
theorem tV_under (T : List (List Int)) (a b c d n : Nat) : under a b c d (n + 1) (tV T) = decide (T = [] ∨ 0 < b) := by
  unfold tV
  by_cases h : T = []
  · simp [h, under]
  · simp [h, under]
theorem base_under (X : WX) (hX : X.Ok) (T : List (List Int)) (a nc : Nat) (ha : 8 ≤ a) (hc : T = [] ∨ 0 < nc) : (baseW X T).all (fun cs => cs.all (under a nc 1 1 6)) = true := by
  have h1 := hX.lf a nc 1 1 4
  have h2 := hX.x.vrow.under a nc 1 1 5
  have h3 := hX.x.crow.under a nc 1 1 5
  have h4 := hX.x.vrow.under a nc 1 1 3
  have h5 := hX.x.crow.under a nc 1 1 3
  have h6 : under a nc 1 1 6 (tV T) = true := by rw [tV_under, decide_eq_true_eq]; exact hc
  have q : ∀ k, k < 8 → k < a := fun k hk => by omega
  simp [baseW, PB.cells, rightV, writeV, zero8, under, h1, h2, h3, h4, h5, h6, q]
theorem chV_len (T : List (List Int)) : (chV T).length = if T = [] then 0 else 1 := by unfold chV; split <;> rfl
theorem cut_SW (X : WX) (hX : X.Ok) (T T' : List (List Int)) (hT : T' = [] → T = []) (ext0 ext more : List (List AV)) (hl : ext0.length = ext.length) (hext : ∀ a b c d n, ext.all (fun cs => cs.all (under a b c d (n + 1))) = true) (e : Env)
    (he : ∀ nc, e.all (under (8 + ext.length) nc 1 1 6) = true) : cut (SW X T ext0) (SW X T' (ext ++ more)) e = SW X T' ext := by
  have ht : (baseW X T' ++ (ext ++ more)).take (8 + ext.length) = baseW X T' ++ ext := by
    rw [← List.append_assoc, List.take_left']
    rw [base_len]
  have hc' : T' = [] ∨ 0 < (chV T').length := by
    rw [chV_len]; by_cases h : T' = [] <;> simp [h]
  have h2 : dryAt (chV T').length (SW X T ext0) (SW X T' (ext ++ more)) e = true := by
    simp only [dryAt, SW, base_len, hl, ht, List.length_singleton, List.take_succ_cons, List.take_zero, List.all_cons, List.all_nil, Bool.and_true, List.all_append, Bool.and_eq_true]
    exact ⟨⟨⟨he _, base_under X hX T' _ _ (by omega) hc', hext _ _ _ _ 5⟩, ks_under _ _ _ _ 4 _, vs_under _ _ _ _ 5 _⟩, hX.L _ _ (by omega)⟩
  have h1 : (chV T').length = (chV T).length ∨ dryAt (chV T).length (SW X T ext0) (SW X T' (ext ++ more)) e = false := by
    by_cases h : T = []
    · by_cases h' : T' = []
      · left; rw [h, h']
      · right
        have hz : under (8 + ext.length) (chV T).length 1 1 6 (tV T') = false := by
          rw [tV_under, chV_len, if_pos h]; simp [h']
        simp only [dryAt, SW, base_len, hl, ht, List.length_singleton, List.take_succ_cons, List.take_zero, List.all_cons, List.all_nil, Bool.and_true, List.all_append]
        have : (baseW X T').all (fun cs => cs.all (under (8 + ext.length) (chV T).length 1 1 6)) = false := by
          simp [baseW, hz]
        rw [this]; simp
    · left
      have h' : T' ≠ [] := fun h' => h (hT h')
      rw [chV_len, chV_len, if_neg h, if_neg h']
  rw [cut_keep _ _ _ h2 h1]
  simp only [cutAt, SW, base_len, hl, ht]
  simp
theorem getE0 (X : WX) (T : List (List Int)) (ext : List (List AV)) (a b : List AV) : (baseW X T ++ (ext ++ [a, b]))[8 + ext.length]? = some a := by
  rw [List.getElem?_append_right (by rw [base_length]; omega), base_length, List.getElem?_append_right (by omega)]
  simp
theorem getE1 (X : WX) (T : List (List Int)) (ext : List (List AV)) (a b : List AV) : (baseW X T ++ (ext ++ [a, b]))[9 + ext.length]? = some b := by
  rw [List.getElem?_append_right (by rw [base_length]; omega), base_length, List.getElem?_append_right (by omega)]
  rw [show 9 + ext.length - 8 - ext.length = 1 by omega]; rfl
theorem setE0 (X : WX) (T : List (List Int)) (ext : List (List AV)) (a b a' : List AV) : (baseW X T ++ (ext ++ [a, b])).set (8 + ext.length) a' = baseW X T ++ (ext ++ [a', b]) := by
  rw [List.set_append_right _ _ (by rw [base_length]; omega), base_length, List.set_append_right _ _ (by omega)]
  simp
theorem setE1 (X : WX) (T : List (List Int)) (ext : List (List AV)) (a b b' : List AV) : (baseW X T ++ (ext ++ [a, b])).set (9 + ext.length) b' = baseW X T ++ (ext ++ [a, b']) := by
  rw [List.set_append_right _ _ (by rw [base_length]; omega), base_length, List.set_append_right _ _ (by omega)]
  rw [show 9 + ext.length - 8 - ext.length = 1 by omega]; rfl
theorem load_p (X : WX) (T : List (List Int)) (ext : List (List AV)) (a b : List AV) (n : Option Nat) (off : Nat) : loadA (SW X T (ext ++ [a, b])) n (.box (8 + ext.length) off) = partA n a off := by
  simp only [loadA, SW, getE0]; rfl
theorem load_s (X : WX) (T : List (List Int)) (ext : List (List AV)) (a b : List AV) (n : Option Nat) (off : Nat) : loadA (SW X T (ext ++ [a, b])) n (.box (9 + ext.length) off) = partA n b off := by
  simp only [loadA, SW, getE1]; rfl
theorem load_1 (X : WX) (T : List (List Int)) (ext : List (List AV)) (a : List AV) (n : Option Nat) (off : Nat) : loadA (SW X T (ext ++ [a])) n (.box (8 + ext.length) off) = partA n a off := by
  simp only [loadA, SW]
  rw [List.getElem?_append_right (by rw [base_length]; omega), base_length, List.getElem?_append_right (by omega)]
  simp
theorem load_base (X : WX) (T : List (List Int)) (ext : List (List AV)) (i : Nat) (hi : i < 8) (n : Option Nat) (off : Nat) : loadA (SW X T ext) n (.box i off) = ((baseW X T)[i]?).bind fun cs => partA n cs off := by
  simp only [loadA, SW]
  rw [List.getElem?_append_left (by rw [base_length]; exact hi)]
theorem set_ints (p : List Int) (off : Nat) (n : Int) (h : off < p.length) : setAt (ints p) off [I n] = ints (p.set off n) := by
  unfold setAt ints
  rw [← List.map_take, List.length_singleton, ← List.map_drop, List.set_eq_take_append_cons_drop, if_pos h]
  simp
theorem store_p (X : WX) (T : List (List Int)) (ext : List (List AV)) (p : List Int) (b : List AV) (off : Nat) (n : Int) (h : off < p.length) : storeA (SW X T (ext ++ [ints p, b])) 1 (.box (8 + ext.length) off) (I n) = some (SW X T (ext ++ [ints (p.set off n), b])) := by
  have hl : off + 1 ≤ (ints p).length := by simp [ints]; omega
  simp only [storeA, SW, getE0, Option.bind_some, cells_int, List.length_singleton, Nat.zero_le, hl, List.all_cons, isCell_int, List.all_nil, Bool.and_true, and_self, if_true, setE0, set_ints _ _ _ h]
theorem store_s (X : WX) (T : List (List Int)) (ext : List (List AV)) (a : List AV) (m n : Int) : storeA (SW X T (ext ++ [a, [I 0, I 0]])) 2 (.box (9 + ext.length) 0) (.agg [I m, I n]) = some (SW X T (ext ++ [a, [I m, I n]])) := by
  have hs : setAt [I 0, I 0] 0 [I m, I n] = [I m, I n] := rfl
  have hc : (AV.agg [I m, I n]).cells = [I m, I n] := rfl
  simp only [storeA, SW, getE1, Option.bind_some, hc, hs, setE1]
  simp
theorem box_SW (X : WX) (T : List (List Int)) (ext : List (List AV)) (x : AV) (h : x.cells.all AV.isCell = true) : boxA (SW X T ext) x = some (.box (8 + ext.length) 0, SW X T (ext ++ [x.cells])) := by
  simp only [boxA, h, if_true, boxes_len]
  simp only [SW, List.append_assoc]
theorem alloc_SW (X : WX) (T : List (List Int)) (ext : List (List AV)) (z : List AV) : { SW X T ext with boxes := (SW X T ext).boxes ++ [z] } = SW X T (ext ++ [z]) := by
  simp only [SW, List.append_assoc]
theorem ints_cell (p : List Int) : (ints p).all AV.isCell = true := by simp [ints, List.all_eq_true]
theorem ints_pur (σ : St) (n : Nat) : ∀ p : List Int, purAll (pur σ (n + 1)) (ints p) = some (ints p, false)
  | [] => rfl
  | a :: p => by
    have := ints_pur σ n p
    simp only [ints] at this ⊢
    simp [purAll, pur, this]
theorem ints_under (a b c d n : Nat) : ∀ p : List Int, (ints p).all (under a b c d (n + 1)) = true
  | [] => rfl
  | k :: p => by
    have := ints_under a b c d n p
    simp only [ints] at this ⊢
    simp [under]
theorem part9 {p : List Int} (h : p.length = 9) : partA (some 9) (ints p) 0 = some (.agg (ints p)) := by
  have : (ints p).length = 9 := by simp [ints, h]
  simp only [partA, this, List.drop_zero, Nat.zero_add, Nat.le_refl, if_true]
  rw [List.take_of_length_le (by omega)]
/-- The rules of the style: all cases. -/
theorem style_call {N step : Int} {ch pf : Nat} {vr cr m t : AV} {p : List Int} {v i : Nat} (hvr : vr.isCell = true) (hcr : cr.isCell = true) (hm : m.isCell = true) (ht : t.isCell = true) (h9 : p.length = 9) (hr : ∀ n ∈ p, -1 ≤ n ∧ n ≤ 12) (hv : v < 3) (hi : i < 3)
    (hs : 0 ≤ step ∧ step ≤ 7) (hch : ch < 2 ^ 62) (hpf : pf < 2 ^ 62) : call Cv 103 [.agg (bkC N vr step ch pf cr m t), .agg (ints p), .agg [I v, I i]] = some (.bool (styleB step ch pf p v i)) := by
  have hp := ints_cell p
  have t3 : ∀ {a b c : Int} {u : Nat}, u < 2 → [a, b, c].getD (u + 1) 0 = trig a b c (u + 1) ∧ [a, b, c].getD u 0 = trig a b c u := fun {a b c u} hu => by
    obtain rfl | rfl : u = 0 ∨ u = 1 := by omega
    · exact ⟨rfl, rfl⟩
    · exact ⟨rfl, rfl⟩
  have tp : ∀ {i u : Nat}, u < 3 → trig (p.getD (i * 3) 0) (p.getD (i * 3 + 1) 0) (p.getD (i * 3 + 2) 0) u = p.getD (i * 3 + u) 0 := fun {i u} hu => by
    obtain rfl | rfl | rfl : u = 0 ∨ u = 1 ∨ u = 2 := by omega
    · rfl
    · rfl
    · rfl
  rcases Nat.eq_zero_or_pos v with rfl | hv0
  · rcases Nat.eq_zero_or_pos i with rfl | hi0
    · rw [style_00 hvr hcr hm ht hp (tri_of h9 hr hi)]
      simp [styleB]
    · obtain ⟨j, rfl⟩ : ∃ j, i = j + 1 := ⟨i - 1, by omega⟩
      rw [style_0j hvr hcr hm ht hp hi (tri_of h9 hr hi) (tri_of h9 hr (i := j) (by omega)) hs]
      simp [styleB]
  · obtain ⟨u, rfl⟩ : ∃ u, v = u + 1 := ⟨v - 1, by omega⟩
    have hu : u < 2 := by omega
    rcases Nat.eq_zero_or_pos i with rfl | hi0
    · rw [style_v0 hvr hcr hm ht hp hu (tri_of h9 hr hi) hch _ rfl]
      rw [(t3 hu).1, (t3 hu).2, tp (by omega), tp (by omega)]
      simp [styleB]
    · obtain ⟨j, rfl⟩ : ∃ j, i = j + 1 := ⟨i - 1, by omega⟩
      rw [style_vj hvr hcr hm ht hp hu hi (tri_of h9 hr hi) (tri_of h9 hr (i := j) (by omega)) hs hch hpf _ _ _ rfl rfl rfl]
      rw [(t3 hu).1, (t3 hu).2, (t3 hu).1, (t3 hu).2, tp (by omega), tp (by omega), tp (by omega), tp (by omega)]
      have e1 : ∀ j : Nat, j * 3 + (u + 1) - 1 = j * 3 + u := fun j => by omega
      simp [styleB, e1, Nat.add_sub_cancel]
      try rfl
theorem right_callA (X : WX) (hX : X.Ok) (T : List (List Int)) (E : List (List AV)) (v i : Nat) (n : Int) :
    callA Cv (run Cv) false (.fn (.func 101) [.agg (X.x.cells ++ [.mp 0, .nils])] []) [.agg [I v, I i], I n] (SW X T E) = some (.bool (rightM X.l (v, i) n), SW X T E) := by
  have hp : purAll (pur (SW X T E) depth) ([.agg (X.x.cells ++ [.mp 0, .nils])] ++ [.agg [I v, I i], I n] ++ []) = some ([.agg (bkC X.x.N X.x.vr X.x.step X.ch X.pf X.x.cr (.mapv X.l.ks X.l.vs) .nils), .agg [I v, I i], I n], true) := by
    have h1 : (SW X T E).maps[0]? = some (X.l.ks, X.l.vs) := rfl
    simp [depth, purAll, pur, PB.cells, h1, ks_pur, vs_pur, hX.x.vrow.pur, hX.x.crow.pur, bkC, hX.ch, hX.pf]
  have := right_call (N := X.x.N) (step := X.x.step) (ch := X.ch) (pf := X.pf) (vr := X.x.vr) (cr := X.x.cr) (t := .nils) X.l hX.x.vrow.cell hX.x.crow.cell rfl v i n
  rw [call_none (by rfl), hp]
  simp only [pureCallA, pureA_call, this, backA, if_true]
  simp [fo, depth]
theorem style_callA (X : WX) (hX : X.Ok) (T : List (List Int)) (E : List (List AV)) (p : List Int) (h9 : p.length = 9) (hr : ∀ n ∈ p, -1 ≤ n ∧ n ≤ 12) (v i : Nat) (hv : v < 3) (hi : i < 3) :
    callA Cv (run Cv) false (.fn (.func 103) [] []) [.agg (X.x.cells ++ [.mp 0, .nils]), .agg (ints p), .agg [I v, I i]] (SW X T E) = some (.bool (styleB X.x.step X.ch X.pf p v i), SW X T E) := by
  have hp : purAll (pur (SW X T E) depth) ([] ++ [.agg (X.x.cells ++ [.mp 0, .nils]), .agg (ints p), .agg [I v, I i]] ++ []) = some ([.agg (bkC X.x.N X.x.vr X.x.step X.ch X.pf X.x.cr (.mapv X.l.ks X.l.vs) .nils), .agg (ints p), .agg [I v, I i]], true) := by
    have h1 : (SW X T E).maps[0]? = some (X.l.ks, X.l.vs) := rfl
    simp [depth, purAll, pur, PB.cells, h1, ks_pur, vs_pur, hX.x.vrow.pur, hX.x.crow.pur, bkC, hX.ch, hX.pf, ints_pur]
  have := style_call (N := X.x.N) (m := .mapv X.l.ks X.l.vs) (t := .nils) hX.x.vrow.cell hX.x.crow.cell rfl rfl h9 hr hv hi hX.step hX.hch hX.hpf
  rw [call_none (by rfl), hp]
  simp only [pureCallA, pureA_call, this, backA, if_true]
  simp [fo, depth]
end Go.Ai

set_option maxRecDepth 100000
set_option linter.unusedSimpArgs false
set_option linter.unusedVariables false
/-! Writing. -/
namespace Go.Ai
open Go.Part (Sp Cp Bk at' okP rightK stepOk moveOk)
def head102 (p v i : Nat) (n k : Int) : Env := mkE 85 .any [(47, I k), (46, I n), (11, .box (9 + p) 0), (7, .box (8 + p) 0), (6, .box 7 0), (5, .box 6 0), (3, .box 4 0), (2, I i), (1, I v)]
theorem exit102 (p v i : Nat) (n : Int) (σ : St) : run Cv 102 (.loop keep102_0 body102_0) (head102 p v i n n) σ = some (.ex 0, mkE 85 .any [(48, .bool false), (47, I n), (46, I n), (11, .box (9 + p) 0), (7, .box (8 + p) 0), (6, .box 7 0), (5, .box 6 0), (3, .box 4 0), (2, I i), (1, I v)], σ) := by
  rw [run_loop]
  simp (maxSteps := 10000000) [-List.getD_eq_getElem?_getD, body102_0, keep102_0, head102]
theorem ixa_lit {p v : Nat} {off : Nat} (h : v < 3) (sz : Nat) : ixaA 3 sz (.box p off) (I v) = some (.box p (off + v * sz)) := by
  have h1 : (0 : Int) ≤ v := by omega
  have h2 : (v : Int) < ((3 : Nat) : Int) := by omega
  simp only [ixaA, h1, h2, and_self, if_true, ptrAdd, Int.toNat_natCast]
theorem round102_skip (X : WX) (hX : X.Ok) (T : List (List Int)) (E : List (List AV)) (hE : ∀ a b c d n, E.all (fun cs => cs.all (under a b c d (n + 1))) = true) (p : List Int) (h9 : p.length = 9) (hr : ∀ n ∈ p, -1 ≤ n ∧ n ≤ 12) (v i : Nat) (hv : v < 3) (hi : i < 3) (lo hi' n k : Int) (hk : k < n) (hk0 : 0 ≤ k) (hn : n ≤ 13) (hlo : 0 ≤ lo) (hlo' : lo + k ≤ 12)
    (hno : (rightM X.l (v, i) (lo + k) && styleB X.x.step X.ch X.pf (p.set (i * 3 + v) (lo + k)) v i) = false) :
    run Cv 102 (.loop keep102_0 body102_0) (head102 E.length v i n k) (SW X T (E ++ [ints p, [I lo, I hi']])) = run Cv 102 (.loop keep102_0 body102_0) (head102 E.length v i n (k + 1)) (SW X T (E ++ [ints (p.set (i * 3 + v) (lo + k)), [I lo, I hi']])) := by
  have w1 : IntKind.wrap .i64 (lo + k) = lo + k := wrap_small (by omega) (by omega)
  have w2 : IntKind.wrap .i64 (k + 1) = k + 1 := wrap_small (by omega) (by omega)
  have hr' : ∀ m ∈ p.set (i * 3 + v) (lo + k), -1 ≤ m ∧ m ≤ 12 := fun m hm => by
    rcases List.mem_or_eq_of_mem_set hm with h | h
    · exact hr m h
    · omega
  have hlen : i * 3 + v < p.length := by omega
  have hR := right_callA X hX T (E ++ [ints (p.set (i * 3 + v) (lo + k)), [I lo, I hi']]) v i (lo + k)
  have hS := style_callA X hX T (E ++ [ints (p.set (i * 3 + v) (lo + k)), [I lo, I hi']]) (p.set (i * 3 + v) (lo + k)) (by simp [h9]) hr' v i hv hi
  have hP : 9 ≤ (ints (p.set (i * 3 + v) (lo + k))).length := by simp [ints, h9]
  have hP2 : List.take 9 (ints (p.set (i * 3 + v) (lo + k))) = ints (p.set (i * 3 + v) (lo + k)) := List.take_of_length_le (by simp [ints, h9])
  have hst := store_p X T E p [I lo, I hi'] (0 + i * 3 + v * 1) (lo + k) (by omega)
  rw [show 0 + i * 3 + v * 1 = i * 3 + v from by omega] at hst
  have x1 := fun q off => ixa_lit (p := q) (off := off) hi 3
  have x2 := fun q off => ixa_lit (p := q) (off := off) hv 1
  have hc : ∀ e : Env, (∀ nc, e.all (under (8 + (E.length + 2)) nc 1 1 6) = true) → cut (SW X T (E ++ [ints p, [I lo, I hi']])) (SW X T (E ++ [ints (p.set (i * 3 + v) (lo + k)), [I lo, I hi']])) e = SW X T (E ++ [ints (p.set (i * 3 + v) (lo + k)), [I lo, I hi']]) := by
    intro e he
    have := cut_SW X hX T T (fun h => h) (E ++ [ints p, [I lo, I hi']]) (E ++ [ints (p.set (i * 3 + v) (lo + k)), [I lo, I hi']]) [] (by simp) (by
      intro a b c d n
      rw [List.all_append, hE]
      simp only [List.all_cons, ints_under, List.all_nil, Bool.and_true, Bool.true_and]
      rfl) e (by simpa using he)
    simpa only [List.append_nil] using this
  have q1 : ∀ k, k < 8 → k < 8 + (E.length + 2) := fun k hk => by omega
  have q2 : 8 + E.length < 8 + (E.length + 2) := by omega
  have q3 : 9 + E.length < 8 + (E.length + 2) := by omega
  have e0 : 0 + i * 3 + v * 1 = i * 3 + v := by omega
  have e1 : i * 3 + v * 1 = i * 3 + v := by omega
  rw [run_loop]
  generalize MC.loop keep102_0 body102_0 = L
  simp only [PB.cells, List.cons_append, List.nil_append] at hR hS
  cases hb : rightM X.l (v, i) (lo + k) with
  | false =>
    rw [hb] at hR
    simp (maxSteps := 10000000) [-List.getD_eq_getElem?_getD, -loadA, -storeA, -boxA, -cut, -ixaA, body102_0, keep102_0, head102, hk, load_p, load_s, load_base, baseW, rightV, PB.cells, x1, x2, e0, e1, w1, w2, hst, hR, fillA, setAt]
    rw [hc]
    intro nc
    simp (maxSteps := 10000000) [-List.getD_eq_getElem?_getD, q1, q2, q3]
  | true =>
    rw [hb] at hR hno
    rw [Bool.true_and] at hno
    rw [hno] at hS
    simp (maxSteps := 10000000) [-List.getD_eq_getElem?_getD, -loadA, -storeA, -boxA, -cut, -ixaA, body102_0, keep102_0, head102, hk, load_p, load_s, load_base, baseW, rightV, PB.cells, x1, x2, e0, e1, w1, w2, hst, hR, hS, hP, hP2, fillA, setAt]
    rw [hc]
    intro nc
    simp (maxSteps := 10000000) [-List.getD_eq_getElem?_getD, q1, q2, q3]
theorem round102_go (X : WX) (hX : X.Ok) (T : List (List Int)) (E : List (List AV)) (hE : ∀ a b c d n, E.all (fun cs => cs.all (under a b c d (n + 1))) = true) (p : List Int) (h9 : p.length = 9) (hr : ∀ n ∈ p, -1 ≤ n ∧ n ≤ 12) (v i : Nat) (hv : v < 3) (hi : i < 3) (lo hi' n k : Int) (hk : k < n) (hk0 : 0 ≤ k) (hn : n ≤ 13) (hlo : 0 ≤ lo) (hlo' : lo + k ≤ 12)
    (hyes : (rightM X.l (v, i) (lo + k) && styleB X.x.step X.ch X.pf (p.set (i * 3 + v) (lo + k)) v i) = true) (T' : List (List Int)) (hT : T' = [] → T = [])
    (hrec : callA Cv (run Cv) false writeV [.agg (ints (p.set (i * 3 + v) (lo + k))), I v, I ((i : Int) + 1)] (SW X T (E ++ [ints (p.set (i * 3 + v) (lo + k)), [I lo, I hi']])) = some (.bool true, SW X T' (E ++ [ints (p.set (i * 3 + v) (lo + k)), [I lo, I hi']]))) :
    run Cv 102 (.loop keep102_0 body102_0) (head102 E.length v i n k) (SW X T (E ++ [ints p, [I lo, I hi']])) = run Cv 102 (.loop keep102_0 body102_0) (head102 E.length v i n (k + 1)) (SW X T' (E ++ [ints (p.set (i * 3 + v) (lo + k)), [I lo, I hi']])) := by
  have w1 : IntKind.wrap .i64 (lo + k) = lo + k := wrap_small (by omega) (by omega)
  have w2 : IntKind.wrap .i64 (k + 1) = k + 1 := wrap_small (by omega) (by omega)
  have hr' : ∀ m ∈ p.set (i * 3 + v) (lo + k), -1 ≤ m ∧ m ≤ 12 := fun m hm => by
    rcases List.mem_or_eq_of_mem_set hm with h | h
    · exact hr m h
    · omega
  have hlen : i * 3 + v < p.length := by omega
  have hR := right_callA X hX T (E ++ [ints (p.set (i * 3 + v) (lo + k)), [I lo, I hi']]) v i (lo + k)
  have hS := style_callA X hX T (E ++ [ints (p.set (i * 3 + v) (lo + k)), [I lo, I hi']]) (p.set (i * 3 + v) (lo + k)) (by simp [h9]) hr' v i hv hi
  have hP : 9 ≤ (ints (p.set (i * 3 + v) (lo + k))).length := by simp [ints, h9]
  have hP2 : List.take 9 (ints (p.set (i * 3 + v) (lo + k))) = ints (p.set (i * 3 + v) (lo + k)) := List.take_of_length_le (by simp [ints, h9])
  have hst := store_p X T E p [I lo, I hi'] (0 + i * 3 + v * 1) (lo + k) (by omega)
  rw [show 0 + i * 3 + v * 1 = i * 3 + v from by omega] at hst
  have x1 := fun q off => ixa_lit (p := q) (off := off) hi 3
  have x2 := fun q off => ixa_lit (p := q) (off := off) hv 1
  have hc : ∀ e : Env, (∀ nc, e.all (under (8 + (E.length + 2)) nc 1 1 6) = true) → cut (SW X T (E ++ [ints p, [I lo, I hi']])) (SW X T' (E ++ [ints (p.set (i * 3 + v) (lo + k)), [I lo, I hi']])) e = SW X T' (E ++ [ints (p.set (i * 3 + v) (lo + k)), [I lo, I hi']]) := by
    intro e he
    have := cut_SW X hX T T' hT (E ++ [ints p, [I lo, I hi']]) (E ++ [ints (p.set (i * 3 + v) (lo + k)), [I lo, I hi']]) [] (by simp) (by
      intro a b c d n
      rw [List.all_append, hE]
      simp only [List.all_cons, ints_under, List.all_nil, Bool.and_true, Bool.true_and]
      rfl) e (by simpa using he)
    simpa only [List.append_nil] using this
  have q1 : ∀ k, k < 8 → k < 8 + (E.length + 2) := fun k hk => by omega
  have q2 : 8 + E.length < 8 + (E.length + 2) := by omega
  have q3 : 9 + E.length < 8 + (E.length + 2) := by omega
  have e0 : 0 + i * 3 + v * 1 = i * 3 + v := by omega
  have e1 : i * 3 + v * 1 = i * 3 + v := by omega
  rw [run_loop]
  generalize MC.loop keep102_0 body102_0 = L
  simp only [PB.cells, List.cons_append, List.nil_append] at hR hS
  rw [Bool.and_eq_true] at hyes
  rw [hyes.1] at hR
  rw [hyes.2] at hS
  have w3 : IntKind.wrap .i64 ((i : Int) + 1) = (i : Int) + 1 := wrap_small (by omega) (by omega)
  simp only [writeV] at hrec
  simp (maxSteps := 10000000) [-List.getD_eq_getElem?_getD, -loadA, -storeA, -boxA, -cut, -ixaA, body102_0, keep102_0, head102, hk, load_p, load_s, load_base, baseW, rightV, writeV, PB.cells, x1, x2, e0, e1, w1, w2, w3, hst, hR, hS, hP, hP2, hrec, fillA, setAt]
  rw [hc]
  intro nc
  simp (maxSteps := 10000000) [-List.getD_eq_getElem?_getD, q1, q2, q3]
end Go.Ai

set_option maxRecDepth 100000
set_option linter.unusedSimpArgs false
set_option linter.unusedVariables false
/-! Writing: all values, and what is yielded. -/
namespace Go.Ai
open Go.Part (Sp Cp Bk at' okP rightK stepOk moveOk dfs places vals)
theorem body_run {C : Cfg} {f : FuncId} {args : List AV} {fn : MF} {σ : St} (h : compF C f = some fn) (hl : args.length ≤ fn.ntmps) : bodyA C (run C) f args σ = endA fn.results (run C f fn.body (mkE fn.ntmps .undef (argL 0 args [])) σ) := by
  unfold bodyA; rw [h, Option.bind_some, startE hl]
def SWc (X : WX) (T : List (List Int)) (ch : List (Nat × Nat)) (ext : List (List AV)) : St := { boxes := baseW X T ++ ext, chains := ch, maps := [(X.l.ks, X.l.vs)], loops := [X.L] }
theorem tV_cell (T : List (List Int)) : (tV T).isCell = true := by unfold tV; split <;> rfl
theorem tV_cells (T : List (List Int)) : (tV T).cells = [tV T] := by unfold tV; split <;> rfl
theorem app_T (X : WX) (T : List (List Int)) (E : List (List AV)) (p : List Int) (hT : T.length < 1000001) : appA (SW X T E) false 9 72 true (tV T) (.sl 9 [.agg (ints p)] .full) = some (tV (T ++ [p]), SWc X T (chV (T ++ [p])) E) := by
  have hn : T ++ [p] ≠ [] := by simp
  have c1 : chV (T ++ [p]) = [(T.length + 1, 9)] := by unfold chV; rw [if_neg hn, List.length_append]; rfl
  have c2 : tV (T ++ [p]) = .sl 9 (T.map (fun p => .agg (ints p)) ++ [.agg (ints p)]) (.chain 0) := by unfold tV; rw [if_neg hn, List.map_append]; rfl
  rw [c1, c2]
  by_cases h : T = []
  · subst h
    simp [appA, elemsA, tV, grown, SW, SWc, chV]
  · have c3 : tV T = .sl 9 (T.map (fun p => .agg (ints p))) (.chain 0) := by unfold tV; rw [if_neg h]
    have c4 : chV T = [(T.length, 9)] := by unfold chV; rw [if_neg h]
    have hb : (T.length + 1) * 72 ≤ 140737488355328 := by omega
    simp [appA, elemsA, c3, SW, SWc, c4, hb]
theorem store_T (X : WX) (T T' : List (List Int)) (ch : List (Nat × Nat)) (E : List (List AV)) : storeA (SWc X T ch E) 1 (.box 3 7) (tV T') = some (SWc X T' ch E) := by
  simp [storeA, SWc, baseW, PB.cells, tV_cell, tV_cells, setAt]
def lpW (z : AV) (l : List (Nat × AV)) : Lp := { f := 65, env := mkE 72 z l, ps := [64], asg := asg65_2, body := body65_2, st := .ready, pend := none }
def WX.busy (X : WX) : WX := { X with L := { X.L with st := .busy } }
theorem WX.busy_ok {X : WX} (h : X.Ok) : X.busy.Ok := { h with L := h.L }
theorem store_last (X : WX) (T : List (List Int)) (E : List (List AV)) (z : List AV) (n : Nat) (y : AV) (h1 : y.cells.length = n) (h2 : z.length = n) (h3 : y.cells.all AV.isCell = true) : storeA (SW X T (E ++ [z])) n (.box (8 + E.length) 0) y = some (SW X T (E ++ [y.cells])) := by
  have g : (baseW X T ++ (E ++ [z]))[8 + E.length]? = some z := by
    rw [List.getElem?_append_right (by rw [base_length]; omega), base_length, List.getElem?_append_right (by omega)]
    simp
  have s : ∀ q, (baseW X T ++ (E ++ [z])).set (8 + E.length) q = baseW X T ++ (E ++ [q]) := by
    intro q
    rw [List.set_append_right _ _ (by rw [base_length]; omega), base_length, List.set_append_right _ _ (by omega)]
    simp
  have hs : setAt z 0 y.cells = y.cells := by
    simp [setAt, h1, h2]
  have g' : (SW X T (E ++ [z])).boxes[8 + E.length]? = some z := g
  have ro : (SW X T (E ++ [z])).ro = 0 := rfl
  simp only [storeA, g', Option.bind_some, ro, Nat.zero_le, h1, h2, Nat.zero_add, Nat.le_refl, h3, and_self, if_true, hs]
  simp only [SW, s]
theorem load_base_T (X : WX) (T : List (List Int)) (E : List (List AV)) : loadA (SW X T E) none (.box 3 7) = some (tV T) := by
  rw [load_base _ _ _ _ (by omega)]; rfl
theorem body_yield (X : WX) (z : AV) (l : List (Nat × AV)) (h5 : gt (mkE 72 z l) 5 = .box 3 0) (T : List (List Int)) (hT : T.length < 1000001) (E : List (List AV)) (p : List Int) (h9 : p.length = 9) :
    ∃ e, run Cv 65 body65_2 (mkE 72 z ((13, .box (8 + E.length) 0) :: (64, .agg (ints p)) :: l)) (SW X T (E ++ [ints p])) = some (.nm, e, SW X (T ++ [p]) (E ++ [ints p])) := by
  have h1 := app_T X T (E ++ [ints p]) p hT
  have h2 := store_T X T (T ++ [p]) (chV (T ++ [p])) (E ++ [ints p])
  have h3 := load_base_T X T (E ++ [ints p])
  have h4 : loadA (SW X T (E ++ [ints p])) (some 9) (.box (8 + E.length) 0) = some (.agg (ints p)) := by rw [load_1]; exact part9 h9
  have hp := ints_pur {} 11 p
  have hl : (ints p).length = 9 := by simp [ints, h9]
  have hc := List.all_eq_true.1 (ints_cell p)
  have hf : fillE 9 true [(0, .agg (ints p))] [.agg [I 0, I 0, I 0, I 0, I 0, I 0, I 0, I 0, I 0]] = some [.agg (ints p)] := by
    have hp' : purAll (pur {} 11) (ints p) = some (ints p, false) := ints_pur {} 10 p
    simp [fillE, depth, pur, hp', AV.cells, AV.isAgg, hl]
    exact hc
  have hr : List.replicate 1 (AV.agg [I 0, I 0, I 0, I 0, I 0, I 0, I 0, I 0, I 0]) = [.agg [I 0, I 0, I 0, I 0, I 0, I 0, I 0, I 0, I 0]] := rfl
  simp (maxSteps := 10000000) [-List.getD_eq_getElem?_getD, -loadA, -storeA, -boxA, -cut, body65_2, h5, h1, h2, h3, h4, hf, hr]
  rfl
end Go.Ai

set_option maxRecDepth 100000
set_option linter.unusedSimpArgs false
set_option linter.unusedVariables false
/-! A round of what is yielded; writing as a whole. -/
namespace Go.Ai
open Go.Part (Sp Cp Bk at' okP rightK stepOk moveOk dfs places vals)
theorem round_yield (X : WX) (hX : X.Ok) (z : AV) (l : List (Nat × AV)) (hL : X.L = lpW z l) (h5 : gt (mkE 72 z l) 5 = .box 3 0) (T : List (List Int)) (hT : T.length < 1000001) (E : List (List AV)) (hE : ∀ a b c d n, E.all (fun cs => cs.all (under a b c d (n + 1))) = true) (p : List Int) (h9 : p.length = 9) :
    roundA (run Cv) 0 [.agg (ints p)] (SW X T E) = some (.bool true, SW X (T ++ [p]) E) := by
  obtain ⟨e, hb⟩ := body_yield X.busy z l h5 T hT E p h9
  have hasg : run Cv 65 asg65_2 (mkE 72 z ((64, .agg (ints p)) :: l)) (SW X T E) = some (.nm, mkE 72 z ((13, .box (8 + E.length) 0) :: (64, .agg (ints p)) :: l), SW X T (E ++ [ints p])) := by
    have hst := store_last X T E [I 0, I 0, I 0, I 0, I 0, I 0, I 0, I 0, I 0] 9 (.agg (ints p)) (by simp [AV.cells, ints, h9]) rfl (ints_cell p)
    simp only [AV.cells] at hst
    simp (maxSteps := 10000000) [-List.getD_eq_getElem?_getD, -loadA, -storeA, -boxA, -cut, asg65_2, alloc_SW, boxes_len, hst]
  have hbusy : busyA 0 (SW X T (E ++ [ints p])) = some (SW X.busy T (E ++ [ints p])) := by
    simp [busyA, SW, hL, lpW, WX.busy]
    rfl
  have hloop : (SW X T E).loops[0]? = some X.L := rfl
  have hl2 : (SW X.busy (T ++ [p]) (E ++ [ints p])).loops[0]? = some X.busy.L := rfl
  have hcut := cut_SW X hX T (T ++ [p]) (fun h => by simp at h) E E [ints p] rfl hE [.bool true] (fun _ => rfl)
  simp only [roundA, hloop]
  rw [show X.L.ps = [64] from by rw [hL]; rfl, show X.L.f = 65 from by rw [hL]; rfl, show X.L.asg = asg65_2 from by rw [hL]; rfl, show X.L.env = mkE 72 z l from by rw [hL]; rfl]
  simp only [List.length_singleton, if_true, List.zip_cons_cons, List.zip_nil_right, List.foldl_cons, List.foldl_nil, mkE_set, hasg, innerA, hbusy, bodyRun]
  rw [show X.L.f = 65 from by rw [hL]; rfl, show X.L.body = body65_2 from by rw [hL]; rfl]
  rw [hb]
  have hput : putLoop 0 (fun L => { L with st := .ready, pend := none }) (.bool true) (SW X.busy (T ++ [p]) (E ++ [ints p])) = some (.bool true, SW X (T ++ [p]) (E ++ [ints p])) := by
    simp [putLoop, hl2]
    simp [SW, WX.busy, hL, lpW]
    rfl
  simp only [leaveA, hput, cutR, hcut]
/-- What holds of a book while its truths are written. -/
structure WB (X : WX) (b : Bk) (out : Nat → Bool) : Prop where
  ok : X.Ok
  N : X.x.N = b.N
  N1 : 1 ≤ b.N
  N3 : b.N ≤ 3
  sp : b.spans = X.x.spans
  V1 : 1 ≤ X.x.spans.length
  V3 : X.x.spans.length ≤ 3
  spans : ∀ s ∈ X.x.spans, 0 ≤ s.low ∧ s.low ≤ s.high ∧ s.high ≤ 12
  step : b.step = X.x.step
  ch : b.chords = X.ch
  pf : b.perfect = X.pf
  right : ∀ (v i : Nat) (n : Int), i < b.N → 0 ≤ n → rightM X.l (v, i) n = rightK out v i n b.copies 0
  loop : ∃ z l, X.L = lpW z l ∧ gt (mkE 72 z l) 5 = .box 3 0
/-- All values of a place. -/
theorem loop102 {X : WX} {b : Bk} {out : Nat → Bool} (h : WB X b out) (s : Sp) (hs : 0 ≤ s.low ∧ s.low ≤ s.high ∧ s.high ≤ 12) (q : List Int) (hqr : ∀ n ∈ q, 0 ≤ n ∧ n ≤ 12) (v i : Nat) (hq : q.length = v * b.N + i) (hi : i < b.N) (hv : v < X.x.spans.length) (Ls : List (List Int)) (E : List (List AV)) (hE : ∀ a b c d n, E.all (fun cs => cs.all (under a b c d (n + 1))) = true)
    (IH : ∀ (n : Int) (T : List (List Int)) (E : List (List AV)), (∀ a b c d n, E.all (fun cs => cs.all (under a b c d (n + 1))) = true) → 0 ≤ n → n ≤ 12 → T.length + (dfs (okP b out) Ls (q ++ [n])).length ≤ 1000000 →
      callA Cv (run Cv) false writeV [.agg (ints (pc b.N (q ++ [n]))), I v, I ((i : Int) + 1)] (SW X T E) = some (.bool true, SW X (T ++ (dfs (okP b out) Ls (q ++ [n])).map (pc b.N)) E)) :
    ∀ (ns : List Int) (k : Nat) (T : List (List Int)) (w : List Int), k ≤ (s.high - s.low + 1).toNat → (vals s).drop k = ns → w.length ≤ 1 → (∀ n ∈ w, 0 ≤ n ∧ n ≤ 12) → T.length + (ns.flatMap fun n => if okP b out q n then dfs (okP b out) Ls (q ++ [n]) else []).length ≤ 1000000 →
      ∃ w' : List Int, run Cv 102 (.loop keep102_0 body102_0) (head102 E.length v i (s.high - s.low + 1) k) (SW X T (E ++ [ints (pc b.N (q ++ w)), [I s.low, I s.high]])) =
        some (.ex 0, mkE 85 .any [(48, .bool false), (47, I (s.high - s.low + 1)), (46, I (s.high - s.low + 1)), (11, .box (9 + E.length) 0), (7, .box (8 + E.length) 0), (6, .box 7 0), (5, .box 6 0), (3, .box 4 0), (2, I i), (1, I v)],
          SW X (T ++ (ns.flatMap fun n => if okP b out q n then dfs (okP b out) Ls (q ++ [n]) else []).map (pc b.N)) (E ++ [ints (pc b.N (q ++ w')), [I s.low, I s.high]]))
  | [], k, T, w, hk, hd, hw, hwr, hT => by
    have hlen : (vals s).length = (s.high - s.low + 1).toNat := by simp [vals]
    have h2 : (vals s).length ≤ k := List.drop_eq_nil_iff.1 hd
    have h3 : ((k : Nat) : Int) = s.high - s.low + 1 := by omega
    refine ⟨w, ?_⟩
    rw [h3, exit102]
    simp
  | n :: ns, k, T, w, hk, hd, hw, hwr, hT => by
    have hlen : (vals s).length = (s.high - s.low + 1).toNat := by simp [vals]
    obtain ⟨hlt, ha, hd'⟩ := head_drop hd
    have hlt' : k < (s.high - s.low + 1).toNat := by omega
    have hn : n = s.low + k := by
      rw [← ha]; simp [vals]
    have hnr : 0 ≤ n ∧ n ≤ 12 := by omega
    have N3 := h.N3
    have V3 := h.V3
    have hqw : ∀ m ∈ q ++ w, 0 ≤ m ∧ m ≤ 12 := fun m hm => by
      rcases List.mem_append.1 hm with hm | hm
      · exact hqr m hm
      · exact hwr m hm
    have hqn : ∀ m ∈ q ++ [n], 0 ≤ m ∧ m ≤ 12 := fun m hm => by
      rcases List.mem_append.1 hm with hm | hm
      · exact hqr m hm
      · simp only [List.mem_singleton] at hm; subst hm; exact hnr
    have hset : (pc b.N (q ++ w)).set (i * 3 + v) (s.low + k) = pc b.N (q ++ [n]) := by
      rw [pc_set hi (by omega) (by omega) q w hq hw, hn]
    have hok : okP b out q n = (rightM X.l (v, i) (s.low + k) && styleB X.x.step X.ch X.pf ((pc b.N (q ++ w)).set (i * 3 + v) (s.low + k)) v i) := by
      rw [hset, style_ok b rfl out X.ch X.pf h.ch h.pf hi (by omega) (by omega) q n hq hqn, h.right v i _ hi (by omega), h.step, hn]
    rw [List.flatMap_cons, List.length_append] at hT
    cases ho : okP b out q n with
    | false =>
      rw [ho] at hok
      simp only [ho, Bool.false_eq_true, if_false, List.length_nil, Nat.zero_add] at hT
      have := round102_skip X h.ok T E hE (pc b.N (q ++ w)) (pc_len _ _) (pc_range hqw) v i (by omega) (by omega) s.low s.high (s.high - s.low + 1) k (by omega) (by omega) (by omega) (by omega) (by omega) hok.symm
      rw [this, hset]
      obtain ⟨w', h'⟩ := loop102 h s hs q hqr v i hq hi hv Ls E hE IH ns (k + 1) T [n] (by omega) hd' (by simp) (by simp; exact hnr) hT
      refine ⟨w', ?_⟩
      rw [List.flatMap_cons, if_neg (by rw [ho]; decide), List.nil_append]
      exact h'
    | true =>
      rw [ho] at hok
      simp only [ho, if_true] at hT
      have hE2 : ∀ a b' c d m, (E ++ [ints (pc b.N (q ++ [n])), [I s.low, I s.high]]).all (fun cs => cs.all (under a b' c d (m + 1))) = true := fun a b' c d m => by
        rw [List.all_append, hE]
        simp only [List.all_cons, ints_under, List.all_nil, Bool.and_true, Bool.true_and]
        rfl
      have hrec := IH n T (E ++ [ints (pc b.N (q ++ [n])), [I s.low, I s.high]]) hE2 hnr.1 hnr.2 (by omega)
      have := round102_go X h.ok T E hE (pc b.N (q ++ w)) (pc_len _ _) (pc_range hqw) v i (by omega) (by omega) s.low s.high (s.high - s.low + 1) k (by omega) (by omega) (by omega) (by omega) (by omega) hok.symm
        (T ++ (dfs (okP b out) Ls (q ++ [n])).map (pc b.N)) (fun h => (List.append_eq_nil_iff.1 h).1) (by rw [hset]; exact hrec)
      rw [this, hset]
      obtain ⟨w', h'⟩ := loop102 h s hs q hqr v i hq hi hv Ls E hE IH ns (k + 1) (T ++ (dfs (okP b out) Ls (q ++ [n])).map (pc b.N)) [n] (by omega) hd' (by simp) (by simp; exact hnr) (by rw [List.length_append, List.length_map]; omega)
      refine ⟨w', ?_⟩
      rw [List.flatMap_cons, if_pos ho, List.map_append, ← List.append_assoc]
      exact h'
end Go.Ai

set_option maxRecDepth 100000
set_option linter.unusedSimpArgs false
set_option linter.unusedVariables false
/-! Writing as a whole. -/
namespace Go.Ai
open Go.Part (Sp Cp Bk at' okP rightK stepOk moveOk dfs places vals)
theorem load_N (X : WX) (T : List (List Int)) (E : List (List AV)) : loadA (SW X T E) none (.box 4 0) = some (I X.x.N) := by
  rw [load_base _ _ _ _ (by omega)]; rfl
theorem load_V (X : WX) (T : List (List Int)) (E : List (List AV)) : loadA (SW X T E) none (.box 4 1) = some X.x.vr := by
  rw [load_base _ _ _ _ (by omega)]; rfl
theorem load_y (X : WX) (T : List (List Int)) (E : List (List AV)) : loadA (SW X T E) none (.box 5 0) = some (.yld 0) := by
  rw [load_base _ _ _ _ (by omega)]; rfl
theorem callA_yld {C : Cfg} {R : Rec} {d : Bool} {l : Nat} {args : List AV} {σ : St} : callA C R d (.yld l) args σ = roundA R l args σ := rfl
theorem load_rp (σ : St) (n : Option Nat) (cs : List AV) (off : Nat) : loadA σ n (.rp cs off) = partA n cs off := rfl
/-- The place of a note: of the next voice, if a line is at its end. -/
theorem write_end {X : WX} {b : Bk} {out : Nat → Bool} (h : WB X b out) (q : List Int) (hq : q.length = X.x.spans.length * b.N) (hqr : ∀ n ∈ q, 0 ≤ n ∧ n ≤ 12) (v i : Nat) (hv : (i = b.N ∧ v + 1 = X.x.spans.length) ∨ (i < b.N ∧ v = X.x.spans.length)) (T : List (List Int)) (hT : T.length < 1000001) (E : List (List AV)) (hE : ∀ a b c d n, E.all (fun cs => cs.all (under a b c d (n + 1))) = true) :
    callA Cv (run Cv) false writeV [.agg (ints (pc b.N q)), I v, I i] (SW X T E) = some (.bool true, SW X (T ++ [pc b.N q]) E) := by
  obtain ⟨z, l, hL, h5⟩ := h.loop
  have hy := round_yield X h.ok z l hL h5 T hT (E ++ [ints (pc b.N q)]) (fun a b c d n => by rw [List.all_append, hE]; simp only [List.all_cons, ints_under, List.all_nil, Bool.and_true]) (pc b.N q) (pc_len _ _)
  have h1 := load_N X T (E ++ [ints (pc b.N q)])
  have h2 := load_V X T (E ++ [ints (pc b.N q)])
  have h3 := load_y X T (E ++ [ints (pc b.N q)])
  have hvl := vlen h.ok.x
  have hbox := box_SW X T E (.agg (ints (pc b.N q))) (ints_cell _)
  simp only [AV.cells] at hbox
  have V1 := h.V1; have V3 := h.V3; have N1 := h.N1; have N3 := h.N3
  have hql : 0 < q.length := by rw [hq]; exact Nat.mul_pos (by omega) (by omega)
  obtain ⟨a, rest, hp, ha⟩ : ∃ a rest, pc b.N q = a :: rest ∧ 0 ≤ a := by
    have hg := pc_get (N := b.N) q (v := 0) (i := 0) (by omega) (by omega) (by omega)
    rw [if_pos (by omega)] at hg
    match hm : pc b.N q, pc_len b.N q with
    | a :: rest, _ =>
      rw [hm] at hg
      simp at hg
      refine ⟨a, rest, rfl, ?_⟩
      rw [hg]
      exact (hqr _ (by simp [at', hql])).1
  have hlen := pc_len b.N q
  have p9 : loadA (SW X T (E ++ [ints (pc b.N q)])) (some 9) (.box (8 + E.length) 0) = some (.agg (ints (pc b.N q))) := by rw [load_1]; exact part9 (pc_len _ _)
  obtain ⟨c, d, rest', hp'⟩ : ∃ c d rest', pc b.N q = a :: c :: d :: rest' := by
    rw [hp] at hlen
    match rest, hlen with
    | c :: d :: rest', _ => exact ⟨c, d, rest', hp⟩
  have p3 : loadA (SW X T (E ++ [ints (pc b.N q)])) (some 3) (.box (8 + E.length) 0) = some (.agg [I a, I c, I d]) := by
    rw [load_1, hp']
    simp [partA, ints]
  have hne : (a == -1) = false := by simp; omega
  have hcut := cut_SW X h.ok T (T ++ [pc b.N q]) (fun h => by simp at h) E E [ints (pc b.N q)] rfl hE [.bool true] (fun _ => rfl)
  rw [writeV, callA_imp (by rfl), body_run comp102 (Nat.le_of_ble_eq_true rfl)]
  rcases hv with ⟨hi, hv⟩ | ⟨hi, hv⟩
  · have e1 : ((i : Int) == X.x.N) = true := by rw [h.N, hi]; simp
    have w1 : IntKind.wrap .i64 ((v : Int) + 1) = X.x.spans.length := by rw [wrap_small (by omega) (by omega)]; omega
    simp (maxSteps := 10000000) [-List.getD_eq_getElem?_getD, -loadA, -storeA, -boxA, -cut, code102, writeV, hbox, h1, h2, h3, e1, hvl, w1, p3, p9, hne, eqCells, callA_yld, hy, load_rp]
    simp only [cutR, hcut]
  · have e1 : ((i : Int) == X.x.N) = false := by rw [h.N]; simp; omega
    have e2 : ((v : Int) == X.x.spans.length) = true := by rw [hv]; simp
    simp (maxSteps := 10000000) [-List.getD_eq_getElem?_getD, -loadA, -storeA, -boxA, -cut, code102, writeV, hbox, h1, h2, h3, e1, e2, hvl, p3, p9, hne, eqCells, callA_yld, hy, load_rp]
    simp only [cutR, hcut]
theorem box_len1 (X : WX) (T : List (List Int)) (E : List (List AV)) (a : List AV) : (SW X T (E ++ [a])).boxes.length = 9 + E.length := by
  rw [boxes_len, List.length_append, List.length_singleton]; omega
theorem write_call {X : WX} {b : Bk} {out : Nat → Bool} (h : WB X b out) : ∀ (m : Nat) (q : List Int) (v i : Nat) (T : List (List Int)) (E : List (List AV)), q.length + m = X.x.spans.length * b.N → v * b.N + i = q.length → i ≤ b.N → (∀ n ∈ q, 0 ≤ n ∧ n ≤ 12) → (∀ a b c d n, E.all (fun cs => cs.all (under a b c d (n + 1))) = true) →
    T.length + (dfs (okP b out) ((places b.N X.x.spans).drop q.length) q).length ≤ 1000000 →
    callA Cv (run Cv) false writeV [.agg (ints (pc b.N q)), I v, I i] (SW X T E) = some (.bool true, SW X (T ++ (dfs (okP b out) ((places b.N X.x.spans).drop q.length) q).map (pc b.N)) E)
  | 0, q, v, i, T, E, hm, hvi, hi, hqr, hE, hT => by
    have N1 := h.N1
    have hd : (places b.N X.x.spans).drop q.length = [] := by
      rw [List.drop_eq_nil_iff, Part.places_len]; omega
    rw [hd] at hT ⊢
    simp only [dfs, List.length_singleton, List.map_cons, List.map_nil] at hT ⊢
    refine write_end h q (by omega) hqr v i ?_ T (by omega) E hE
    rcases Nat.lt_or_ge i b.N with hlt | hge
    · right
      refine ⟨hlt, ?_⟩
      exact (place_inj (N := b.N) (i' := 0) hlt (by omega) (by omega)).1
    · left
      have hiN : i = b.N := by omega
      refine ⟨hiN, ?_⟩
      have e : (v + 1) * b.N = X.x.spans.length * b.N := by rw [Nat.add_mul]; omega
      exact Nat.eq_of_mul_eq_mul_right (by omega) e
  | m + 1, q, v, i, T, E, hm, hvi, hi, hqr, hE, hT => by
    have N1 := h.N1
    have V1 := h.V1; have V3 := h.V3; have N3 := h.N3
    obtain ⟨v', i', hn, hi', hvi', hw⟩ : ∃ v' i', ((i = b.N ∧ v' = v + 1 ∧ i' = 0) ∨ (i < b.N ∧ v' = v ∧ i' = i)) ∧ i' < b.N ∧ v' * b.N + i' = q.length ∧ v' < X.x.spans.length := by
      rcases Nat.lt_or_ge i b.N with hlt | hge
      · refine ⟨v, i, .inr ⟨hlt, rfl, rfl⟩, hlt, hvi, ?_⟩
        have : v * b.N < X.x.spans.length * b.N := by omega
        exact Nat.lt_of_mul_lt_mul_right this
      · have hiN : i = b.N := by omega
        refine ⟨v + 1, 0, .inl ⟨hiN, rfl, rfl⟩, by omega, by rw [Nat.add_mul]; omega, ?_⟩
        have : (v + 1) * b.N < X.x.spans.length * b.N := by rw [Nat.add_mul]; omega
        exact Nat.lt_of_mul_lt_mul_right this
    have hs0 : X.x.spans[v']? = some X.x.spans[v'] := List.getElem?_eq_getElem hw
    generalize X.x.spans[v'] = s at hs0
    have hsm : s ∈ X.x.spans := List.mem_of_getElem? hs0
    have hs := h.spans s hsm
    have hpl : (places b.N X.x.spans)[q.length]? = some (vals s) := by
      rw [← hvi', Part.places_get _ (by omega) _ _ _ hi', hs0]; rfl
    have hlt : q.length < (places b.N X.x.spans).length := (List.getElem?_eq_some_iff.1 hpl).1
    have hdrop : (places b.N X.x.spans).drop q.length = vals s :: (places b.N X.x.spans).drop (q.length + 1) := by
      rw [List.drop_eq_getElem_cons hlt, (List.getElem?_eq_some_iff.1 hpl).2]
    rw [hdrop] at hT ⊢
    simp only [dfs] at hT ⊢
    have hEp : ∀ p a b' c d n, (E ++ [ints p]).all (fun cs => cs.all (under a b' c d (n + 1))) = true := fun p a b' c d n => by rw [List.all_append, hE]; simp only [List.all_cons, ints_under, List.all_nil, Bool.and_true]
    have IH : ∀ (n : Int) (T : List (List Int)) (E : List (List AV)), (∀ a b c d n, E.all (fun cs => cs.all (under a b c d (n + 1))) = true) → 0 ≤ n → n ≤ 12 → T.length + (dfs (okP b out) ((places b.N X.x.spans).drop (q.length + 1)) (q ++ [n])).length ≤ 1000000 →
        callA Cv (run Cv) false writeV [.agg (ints (pc b.N (q ++ [n]))), I v', I ((i' : Int) + 1)] (SW X T E) = some (.bool true, SW X (T ++ (dfs (okP b out) ((places b.N X.x.spans).drop (q.length + 1)) (q ++ [n])).map (pc b.N)) E) := by
      intro n T E hE h0 h12 hT
      have hl : (q ++ [n]).length = q.length + 1 := by simp
      have := write_call h m (q ++ [n]) v' (i' + 1) T E (by rw [hl]; omega) (by rw [hl]; omega) (by omega) (fun k hk => by
        rcases List.mem_append.1 hk with hk | hk
        · exact hqr k hk
        · simp only [List.mem_singleton] at hk; omega) hE (by rw [hl]; exact hT)
      rw [hl] at this
      exact this
    obtain ⟨w', hloop⟩ := loop102 h s hs q hqr v' i' hvi'.symm hi' hw ((places b.N X.x.spans).drop (q.length + 1)) E hE IH (vals s) 0 T [] (Nat.zero_le _) rfl (by simp) (by simp) hT
    have hloop' := fun E' (hE' : mask keep102_0 E' = _) => run_at hloop hE'
    have h1 := load_N X T (E ++ [ints (pc b.N q)])
    have h2 := load_V X T (E ++ [ints (pc b.N q)])
    have hvl := vlen h.ok.x
    have hbox := box_SW X T E (.agg (ints (pc b.N q))) (ints_cell _)
    simp only [AV.cells] at hbox
    have hcut := cut_SW X h.ok T (T ++ ((vals s).flatMap fun n => if okP b out q n then dfs (okP b out) ((places b.N X.x.spans).drop (q.length + 1)) (q ++ [n]) else []).map (pc b.N)) (fun h => (List.append_eq_nil_iff.1 h).1) E E [ints (pc b.N (q ++ w')), [I s.low, I s.high]] rfl hE [.bool true] (fun _ => rfl)
    obtain ⟨cc, hcc, hvr⟩ := h.ok.x.vrow.sl (by intro hn; simp at hn; rw [hn] at hw; simp at hw)
    have hix : ixsA 2 X.x.vr (I v') = some (.rp [I s.low, I s.high] 0) := by
      have e1 : ((v' : Nat) : Int) < ((X.x.spans.map spA).length : Int) := by rw [List.length_map]; omega
      rw [hvr]
      simp only [ixsA, e1, Int.toNat_natCast, List.getElem?_map, hs0, Option.map_some]
      simp [spA, AV.cells]
    have hst := store_s X T E (ints (pc b.N q)) s.low s.high
    have hls := fun n off => load_s X T E (ints (pc b.N q)) [I s.low, I s.high] n off
    have hal := alloc_SW X T (E ++ [ints (pc b.N q)]) [I 0, I 0]
    rw [List.append_assoc] at hal
    simp only [List.cons_append, List.nil_append] at hal
    have hbl := box_len1 X T E (ints (pc b.N q))
    have w2 : IntKind.wrap .i64 (s.high - s.low) = s.high - s.low := wrap_small (by omega) (by omega)
    have w3 : IntKind.wrap .i64 (s.high - s.low + 1) = s.high - s.low + 1 := wrap_small (by omega) (by omega)
    rw [writeV, callA_imp (by rfl), body_run comp102 (Nat.le_of_ble_eq_true rfl)]
    generalize hF : (vals s).flatMap (fun n => if okP b out q n then dfs (okP b out) ((places b.N X.x.spans).drop (q.length + 1)) (q ++ [n]) else []) = F at hloop' hcut ⊢
    simp only [List.append_nil, keep102_0, head102] at hloop'
    rcases hn with ⟨hi0, rfl, rfl⟩ | ⟨hi0, rfl, rfl⟩
    · have e1 : ((i : Int) == X.x.N) = true := by rw [h.N, hi0]; simp
      have w1 : IntKind.wrap .i64 ((v : Int) + 1) = (v : Int) + 1 := wrap_small (by omega) (by omega)
      have e3 : (((v : Int) + 1) == X.x.spans.length) = false := by simp; omega
      have e4 : (((v + 1 : Nat)) : Int) = (v : Int) + 1 := rfl
      have e5 : ((0 : Nat) : Int) = 0 := rfl
      simp only [e4, e5] at hloop' hix
      simp (maxSteps := 10000000) [-List.getD_eq_getElem?_getD, -loadA, -storeA, -boxA, -cut, -ixsA, code102, hbox, h1, h2, e1, e3, hvl, w1, w2, w3, load_rp, hix, hst, hls, hal, hbl, keep102_0, hloop']
      simp only [cutR, hcut]
    · have e1 : ((i' : Int) == X.x.N) = false := by rw [h.N]; simp; omega
      have e2 : ((v' : Int) == X.x.spans.length) = false := by simp; omega
      simp (maxSteps := 10000000) [-List.getD_eq_getElem?_getD, -loadA, -storeA, -boxA, -cut, -ixsA, code102, hbox, h1, h2, e1, e2, hvl, w2, w3, load_rp, hix, hst, hls, hal, hbl, keep102_0, hloop']
      simp only [cutR, hcut]
end Go.Ai

set_option maxRecDepth 100000
set_option linter.unusedSimpArgs false
set_option linter.unusedVariables false
/-! All truths of a book. -/
namespace Go.Ai
open Go.Part (Sp Cp Bk at' okP rightK stepOk moveOk dfs places vals truths)
theorem run_range {C : Cfg} {f : FuncId} {g : Opd} {ps} {asg body : MC} {e : Env} {σ : St} : run C f (.range g ps asg body) e σ = if isFn (ev e g) then pendA (run C) σ.loops.length e (callA C (run C) false (ev e g) [.yld σ.loops.length] { σ with loops := σ.loops ++ [{ f, env := e, ps, asg, body, st := .ready, pend := none }] }) else none := by rw [run_eq]; rfl
theorem retA_nil (e : Env) (σ : St) : retA [] e σ = some (.tup []) := rfl
def base5 (X : WX) (T : List (List Int)) : List (List AV) := [X.x.cells, [X.lf], zero8, X.x.cells ++ [.mp 0, tV T], X.x.cells ++ [.mp 0, .nils]]
def S5 (X : WX) (T : List (List Int)) : St := { boxes := base5 X T, chains := chV T, maps := [(X.l.ks, X.l.vs)], loops := [X.L] }
theorem cut_S5 (X : WX) (hX : X.Ok) (hL : ∀ n nc, 5 ≤ n → X.L.env.all (under n nc 1 1 6) = true) (T T' : List (List Int)) (hT : T' = [] → T = []) (e : Env) (he : ∀ nc, e.all (under 5 nc 1 1 6) = true) :
    cut (S5 X T) (SW X T' []) e = S5 X T' := by
  have ht : (baseW X T' ++ []).take 5 = base5 X T' := rfl
  have hl : (base5 X T).length = 5 := rfl
  have hu : ∀ nc, (T' = [] ∨ 0 < nc) → (base5 X T').all (fun cs => cs.all (under 5 nc 1 1 6)) = true := fun nc hc => by
    have h1 := hX.lf 5 nc 1 1 4
    have h2 := hX.x.vrow.under 5 nc 1 1 5
    have h3 := hX.x.crow.under 5 nc 1 1 5
    have h6 : under 5 nc 1 1 6 (tV T') = true := by rw [tV_under, decide_eq_true_eq]; exact hc
    simp [base5, PB.cells, zero8, under, h1, h2, h3, h6]
  have hc' : T' = [] ∨ 0 < (chV T').length := by
    rw [chV_len]; by_cases h : T' = [] <;> simp [h]
  have h2 : dryAt (chV T').length (S5 X T) (SW X T' []) e = true := by
    simp only [dryAt, S5, SW, hl, ht, List.length_singleton, List.take_succ_cons, List.take_zero, List.all_cons, List.all_nil, Bool.and_true, Bool.and_eq_true]
    exact ⟨⟨⟨he _, hu _ hc'⟩, ks_under _ _ _ _ 4 _, vs_under _ _ _ _ 5 _⟩, hL _ _ (by omega)⟩
  have h1 : (chV T').length = (chV T).length ∨ dryAt (chV T).length (S5 X T) (SW X T' []) e = false := by
    by_cases h : T = []
    · by_cases h' : T' = []
      · left; rw [h, h']
      · right
        have hz : under 5 (chV T).length 1 1 6 (tV T') = false := by
          rw [tV_under, chV_len, if_pos h]; simp [h']
        simp only [dryAt, S5, SW, hl, ht, List.length_singleton, List.take_succ_cons, List.take_zero, List.all_cons, List.all_nil, Bool.and_true]
        have : (base5 X T').all (fun cs => cs.all (under 5 (chV T).length 1 1 6)) = false := by
          simp [base5, hz]
        rw [this]; simp
    · left
      have h' : T' ≠ [] := fun h' => h (hT h')
      rw [chV_len, chV_len, if_neg h, if_neg h']
  rw [cut_keep _ _ _ h2 h1]
  simp only [cutAt, S5, SW, hl, ht]
  simp
theorem f100_call {X : WX} {b : Bk} {out : Nat → Bool} (h : WB X b out) (hL : ∀ n nc, 5 ≤ n → X.L.env.all (under n nc 1 1 6) = true) (hT : (truths b out).length ≤ 1000000) :
    callA Cv (run Cv) false (.fn (.func 100) [] [.box 4 0]) [.yld 0] (S5 X []) = some (.tup [], S5 X ((truths b out).map (pc b.N))) := by
  have hw := write_call h (X.x.spans.length * b.N) [] 0 0 [] [] (by simp) (by simp) (Nat.zero_le _) (by simp) (fun _ _ _ _ _ => rfl)
  rw [← h.sp] at hw
  have hT' : (truths b out).length = _ := rfl
  simp only [truths] at hT hT' ⊢
  simp only [List.length_nil, List.drop_zero, Nat.zero_add, List.nil_append] at hw
  have hw := hw hT
  generalize (dfs (okP b out) (places b.N b.spans) []).map (pc b.N) = F at *
  have hp : ints (pc b.N []) = [I (-1), I (-1), I (-1), I (-1), I (-1), I (-1), I (-1), I (-1), I (-1)] := by
    have : pc b.N [] = List.replicate 9 (-1) := by
      refine List.ext_getElem? fun c => ?_
      by_cases h9 : c < 9
      · rw [List.getElem?_replicate, if_pos h9, pc, List.getElem?_map, List.getElem?_range h9]
        simp
      · rw [List.getElem?_eq_none (by rw [pc_len]; omega), List.getElem?_eq_none (by simp; omega)]
    rw [this]; rfl
  have hc := cut_S5 X h.ok hL [] F (fun _ => rfl) [.tup []] (fun _ => rfl)
  have y1 : (AV.yld 0).cells = [.yld 0] := rfl
  have y2 : (AV.yld 0).isCell = true := rfl
  have hv := h.ok.x.vrow.cell
  have hcr := h.ok.x.crow.cell
  have e5 : ((0 : Nat) : Int) = 0 := rfl
  rw [hp, e5] at hw
  simp only [SW, baseW, List.append_nil, writeV, rightV, PB.cells, List.cons_append, List.nil_append] at hw hc
  simp only [S5, base5, PB.cells, List.cons_append, List.nil_append] at hc ⊢
  rw [callA_imp (by rfl), body_run comp100 (Nat.le_of_ble_eq_true rfl)]
  simp (maxSteps := 10000000) [-List.getD_eq_getElem?_getD, -cut, code100, y1, y2, hv, hcr, hw, fillA, setAt, retA_nil]
  simp only [cutR, hc]
def bkOf (x : PB) : Bk := ⟨x.N.toNat, x.spans, x.step, x.chords, x.perfect, x.copies.map CpV.cp⟩
structure Chk (x : PB) : Prop where
  N : 1 ≤ x.N ∧ x.N ≤ 3
  V : 1 ≤ x.spans.length ∧ x.spans.length ≤ 3
  step : 0 ≤ x.step ∧ x.step ≤ 7
  ch : 0 ≤ x.chords ∧ x.chords ≤ 255
  pf : 0 ≤ x.perfect ∧ x.perfect ≤ 255
  nc : x.copies.length ≤ 4
  spans : ∀ s ∈ x.spans, 0 ≤ s.low ∧ s.low ≤ s.high ∧ s.high ≤ 12
  wide : ∀ s ∈ x.spans, s.high - s.low ≤ 2
  copies : ∀ c ∈ x.copies, 0 ≤ c.cp.voice ∧ c.cp.voice < x.spans.length ∧ (c.cp.notes.length : Int) = x.N ∧ ∀ n ∈ c.cp.notes, 0 ≤ n ∧ n ≤ 12
theorem bad12_false {l : List Int} (h : l.any bad12 = false) : ∀ n ∈ l, 0 ≤ n ∧ n ≤ 12 := by
  intro n hn
  have := List.any_eq_false.1 h n hn
  simp only [bad12, lie, Bool.not_eq_true', Bool.not_eq_false', Bool.not_eq_true, Bool.and_eq_true, decide_eq_true_eq] at this
  simpa using this
theorem copyOk_iff {x : PB} {c : CpV} (h : copyOk x c = true) : 0 ≤ c.cp.voice ∧ c.cp.voice < x.spans.length ∧ (c.cp.notes.length : Int) = x.N ∧ ∀ n ∈ c.cp.notes, 0 ≤ n ∧ n ≤ 12 := by
  simp only [copyOk, lie, Bool.and_eq_true, decide_eq_true_eq, Bool.not_eq_true', beq_iff_eq] at h
  obtain ⟨⟨h1, h2⟩, h3, h4⟩ := h
  exact ⟨h1, by omega, h3, bad12_false h4⟩
theorem chk_of {x : PB} (h : checkOk x = true) : Chk x := by
  simp only [checkOk, lie, Bool.and_eq_true, decide_eq_true_eq, List.all_eq_true] at h
  obtain ⟨⟨⟨h1, h2, h3, h4, h5, h6⟩, h7⟩, h8⟩ := h
  have hs : ∀ s ∈ x.spans, 0 ≤ s.low ∧ s.low ≤ s.high ∧ s.high ≤ 12 ∧ s.high - s.low ≤ 2 := fun s hs => by
    have := h7 s hs
    simp only [spOk, fairB, Bool.and_eq_true, decide_eq_true_eq] at this
    obtain ⟨a, b, c, d⟩ := this
    rw [wrap_small (by omega) (by omega)] at d
    exact ⟨a, b, c, d⟩
  exact ⟨h1, by omega, h3, h4, h5, by omega, fun s h => ⟨(hs s h).1, (hs s h).2.1, (hs s h).2.2.1⟩, fun s h => (hs s h).2.2.2, fun c hc => copyOk_iff (h8 c hc)⟩
end Go.Ai

set_option maxRecDepth 100000
set_option linter.unusedSimpArgs false
set_option linter.unusedVariables false
namespace Go.Ai
open Go.Part (Sp Cp Bk at' okP rightK stepOk moveOk dfs places vals truths)
def tP (T : List (List Int)) : AV := if T = [] then .nils else .sl 9 (T.map fun p => .agg (ints p)) .no
theorem tV_pur (σ : St) (n : Nat) (T : List (List Int)) : pur σ (n + 1) (tV T) = some (tP T, false) := by
  unfold tV tP; split <;> rfl
/-- The cells of a book that is opened. -/
def openedV (x : PB) (out : Nat → Bool) : AV := .agg (x.cells ++ [.mapv (builtM out (x.copies.map CpV.cp) 0 map0).ks (builtM out (x.copies.map CpV.cp) 0 map0).vs, tP ((truths (bkOf x) out).map (pc x.N.toNat))])
theorem dfs_bound {α : Type} (ok : List α → α → Bool) (B : Nat) : ∀ (Ls : List (List α)) (q : List α), (∀ L ∈ Ls, L.length ≤ B) → (dfs ok Ls q).length ≤ B ^ Ls.length
  | [], q, _ => by simp [dfs]
  | L :: Ls, q, h => by
    have hL := h L (.head _)
    have key : ∀ M : List α, (M.flatMap fun n => if ok q n then dfs ok Ls (q ++ [n]) else []).length ≤ M.length * B ^ Ls.length := by
      intro M
      induction M with
      | nil => simp
      | cons n M ih =>
        rw [List.flatMap_cons, List.length_append, List.length_cons, Nat.add_mul, Nat.one_mul]
        have : (if ok q n = true then dfs ok Ls (q ++ [n]) else []).length ≤ B ^ Ls.length := by
          split
          · exact dfs_bound ok B Ls _ fun M hM => h M (.tail _ hM)
          · simp
        omega
    rw [dfs, List.length_cons, Nat.pow_succ, Nat.mul_comm]
    exact Nat.le_trans (key L) (Nat.mul_le_mul_right _ hL)
theorem truths_short {x : PB} (h : Chk x) (out : Nat → Bool) : (truths (bkOf x) out).length ≤ 20000 := by
  have h1 : ∀ L ∈ places (bkOf x).N (bkOf x).spans, L.length ≤ 3 := fun L hL => by
    rw [places, List.mem_flatMap] at hL
    obtain ⟨s, hs, hL⟩ := hL
    rw [(List.mem_replicate.1 hL).2]
    have := h.wide s hs
    simp only [vals, List.length_map, List.length_range]
    omega
  have h2 := dfs_bound (okP (bkOf x) out) 3 _ [] h1
  have h3 : (places (bkOf x).N (bkOf x).spans).length ≤ 9 := by
    rw [Part.places_len]
    have a := h.V; have b := h.N
    have a1 : (bkOf x).spans.length = x.spans.length := rfl
    have a2 : (bkOf x).N = x.N.toNat := rfl
    have : (bkOf x).spans.length * (bkOf x).N ≤ 3 * 3 := Nat.mul_le_mul (by omega) (by omega)
    omega
  have h4 : 3 ^ (places (bkOf x).N (bkOf x).spans).length ≤ 3 ^ 9 := Nat.pow_le_pow_right (by omega) h3
  have : (3 : Nat) ^ 9 = 19683 := by decide
  have h5 : (truths (bkOf x) out).length ≤ _ := h2
  omega
theorem f90_call (x : PB) (hx : x.Ok) (lf : AV) (l : PM) : callA Cv (run Cv) false (.fn (.func 90) [] []) [.agg (x.cells ++ [.mp 0, .nils])] (st65 x lf l []) = some (.fn (.func 100) [] [.box 4 0], { boxes := [x.cells, [lf], zero8, x.cells ++ [.mp 0, .nils], x.cells ++ [.mp 0, .nils]], maps := [(l.ks, l.vs)] }) := by
  have hvc := hx.vrow.cell
  have hcc := hx.crow.cell
  rw [callA_imp (by rfl), body_run comp90 (Nat.le_of_ble_eq_true rfl)]
  simp (maxSteps := 10000000) [-List.getD_eq_getElem?_getD, code90, st65, PB.cells, hvc, hcc]
  simp [cutR, cut, dryAt, under]
theorem put0 (bx : List (List AV)) : mputA { boxes := bx, maps := [([], [])] } (some 2) (.mp 0) (.agg [I (-1), I (-1)]) (I (-1)) = some { boxes := bx, maps := [([.agg [I (-1), I (-1)]], [I (-1)])] } := rfl
theorem opened_call (x : PB) (hx : x.Ok) (h : Chk x) (lf : AV) (out : Nat → Bool) (hlf : Lf lf out x.copies.length) : call Cv 65 [x.av, .agg [lf]] = some (openedV x out) := by
  have hr : ∀ (v i : Nat) (n : Int), i < (bkOf x).N → 0 ≤ n → rightM (builtM out (x.copies.map CpV.cp) 0 map0) (v, i) n = rightK out v i n (bkOf x).copies 0 := fun v i n hi hn => by
    rw [right_built out v i n (by omega) hi (x.copies.map CpV.cp) 0 map0 (fun c hc => by
      obtain ⟨c', hc', rfl⟩ := List.mem_map.1 hc
      have := (h.copies c' hc').2.2.1
      show _ = x.N.toNat
      omega), right0, Bool.true_and]; rfl
  have hV : ∀ l, gt (mkE 72 .any l) 5 = .box 3 0 → (∀ n nc, 5 ≤ n → (lpW .any l).env.all (under n nc 1 1 6) = true) → WB ⟨x, lf, builtM out (x.copies.map CpV.cp) 0 map0, lpW .any l, x.chords.toNat, x.perfect.toNat⟩ (bkOf x) out := fun l h5 hu =>
    { ok := { x := hx, lf := hlf.under, L := fun n nc hn => hu n nc (by omega), ch := by have := h.ch; show x.chords = ((x.chords.toNat : Nat) : Int); omega, pf := by have := h.pf; show x.perfect = ((x.perfect.toNat : Nat) : Int); omega, step := h.step,
              hch := by have := h.ch; show x.chords.toNat < _; omega, hpf := by have := h.pf; show x.perfect.toNat < _; omega }
      N := by have := h.N; show x.N = ((x.N.toNat : Nat) : Int); omega
      N1 := by have := h.N; show 1 ≤ x.N.toNat; omega
      N3 := by have := h.N; show x.N.toNat ≤ 3; omega
      sp := rfl
      V1 := h.V.1
      V3 := h.V.2
      spans := h.spans
      step := rfl
      ch := by have := h.ch; show x.chords = ((x.chords.toNat : Nat) : Int); omega
      pf := by have := h.pf; show x.perfect = ((x.perfect.toNat : Nat) : Int); omega
      right := hr
      loop := ⟨.any, l, rfl, h5⟩ }
  have h100 := fun l h5 hu => f100_call (hV l h5 hu) hu (Nat.le_trans (truths_short h out) (by omega))
  have hl1 := fun E (hE : mask keep65_1 E = _) => run_at (loop65_1 x hx lf out hlf x.copies 0 map0 (Nat.zero_le _) rfl) hE
  have hcl := clen hx
  have hvc := hx.vrow.cell
  have hcc := hx.crow.cell
  have hce := hlf.cell
  have hlu := hlf.under
  have hvu := hx.vrow.under
  have hcu := hx.crow.under
  have hN : (bkOf x).N = x.N.toNat := rfl
  have e5 : ((0 : Nat) : Int) = 0 := rfl
  have hls : lf.cells = [lf] := hlf.cells
  simp only [st65, map0, PM.ks, PM.vs, keyA, List.map_cons, List.map_nil, keep65_1, head65_1, PB.cells, zero8, List.cons_append, List.nil_append, e5] at hl1
  simp only [S5, base5, tV, chV, if_true, PB.cells, zero8, List.cons_append, List.nil_append, lpW, hN, PM.ks, PM.vs, map0, keyA] at h100
  have h90 := f90_call x hx lf (builtM out (x.copies.map CpV.cp) 0 map0)
  simp only [st65, PB.cells, zero8, List.cons_append, List.nil_append, PM.ks, PM.vs, map0, keyA] at h90
  have hkp := fun (σ : St) n => ks_pur σ n (builtM out (x.copies.map CpV.cp) 0 map0)
  have hvp := fun (σ : St) n => vs_pur σ n (builtM out (x.copies.map CpV.cp) 0 map0)
  simp only [PM.ks, PM.vs, map0, keyA] at hkp hvp
  rw [openedV]
  simp only [PM.ks, PM.vs, map0, keyA]
  generalize hF : (truths (bkOf x) out).map (pc x.N.toNat) = F at *
  rw [call_run comp65 (Nat.le_of_ble_eq_true rfl)]
  simp (maxSteps := 10000000) [-List.getD_eq_getElem?_getD, code65, PB.av, PB.cells, hls, hce, hvc, hcc, hcl, keep65_1, hl1, fillA, setAt, put0, h90]
  rw [run_range]
  simp (maxSteps := 10000000) [-List.getD_eq_getElem?_getD, -cut, isFn]
  rw [h100 _ (by simp (maxSteps := 10000000) [-List.getD_eq_getElem?_getD, ]) (by
    intro n nc hn
    have q : ∀ k, k < 5 → k < n := fun k hk => by omega
    simp (maxSteps := 10000000) [-List.getD_eq_getElem?_getD, q, hvu, hcu])]
  have htc := tV_cell F
  have htp := fun σ n => tV_pur σ n F
  simp only [tV] at htc htp
  simp (maxSteps := 10000000) [-List.getD_eq_getElem?_getD, -cut, pendA, hvc, hcc, htc, htp, setAt, hkp, hvp, hx.vrow.pur, hx.crow.pur]
end Go.Ai
