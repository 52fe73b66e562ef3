/- This text shows what opened, asked, Right answer. No conditions of its own. -/
import Derived.Test.YtckbmdbebmkbaaaDoorFnF
set_option linter.unusedSimpArgs false
set_option linter.unusedVariables false
set_option maxRecDepth 100000
namespace Go.Ai
open Go.Office (Ft Rl Us Nt Bk Mt Dy DyK Dy0 Sg addB clrB moveN now0 seas vals mem_vals keptN butF)
def stK (x : OB) (K : List Nt) (E : List (List AV)) : St := { boxes := [x.cells, zero9, bkC x (growV 0 3 (K.map ntA)) .nils] ++ E, chains := growC 3 (K.map ntA) }
def head53_0 (x : OB) (r : AV) (k : Int) : Env := mkE 44 .any [(16, I k), (15, I x.ns.length), (14, x.nr), (5, .box 2 0), (4, .box 1 0), (1, r)]
theorem round53_0 (x : OB) (hx : x.Ok) (but : List Int) (r : AV) (hr : IsRow 1 (ints but) r) (hl : but.length < 2 ^ 47) (K : List Nt) (hK : K.length < 1000) (k : Nat) (h : Nt) (hlt : k < x.ns.length) (ha : x.ns[k] = h) :
    run Cv 53 (.loop keep53_0 body53_0) (head53_0 x r k) (stK x K []) = run Cv 53 (.loop keep53_0 body53_0) (head53_0 x r (k + 1)) (stK x (K ++ if butF but k then [] else [h]) []) := by
  have hw := wrap_succ hlt hx.ln
  have hlt' : (k : Int) < (x.ns.length : Int) := by omega
  have hix := n_ix hx hlt
  rw [ha] at hix
  have hc := contains_call but r hr hl k
  have e1 : decide ((k : Int) ∈ but) = butF but k := rfl
  rw [e1] at hc
  have u1 := hx.fr.under
  have u2 := hx.q0.under
  have u3 := hx.q1.under
  have u4 := hx.nr.under
  have u5 := hr.under
  have r1 := hr.pur
  have happ := app_row [x.cells, zero9, bkC x (growV 0 3 (K.map ntA)) .nils, ntC h] [] [] [] (K.map ntA) (ntA h) 3 24 true (by simp; omega) 0 rfl
  have hn : K.map ntA ++ [ntA h] ≠ [] := by simp
  have hnew : (K ++ [h]).map ntA = K.map ntA ++ [ntA h] := by simp
  rw [growV_some _ _ hn, growC_some _ hn] at happ
  rw [run_loop]
  generalize MC.loop keep53_0 body53_0 = L
  by_cases he : K.map ntA = []
  · have hv : growV 0 3 (K.map ntA) = .nils := by rw [he]; rfl
    have hch : growC 3 (K.map ntA) = [] := by rw [he]; rfl
    cases hb : butF but k with
    | true =>
      rw [hb] at hc
      simp (maxSteps := 10000000) [-List.getD_eq_getElem?_getD, -ixsA, -List.all_eq_true, body53_0, keep53_0, head53_0, stK, bkC, zero9, OB.cells, ntC, hv, hch, hlt', hw, hix, hc, r1, u1, u2, u3, u4, u5]
    | false =>
      rw [hb] at hc
      simp only [Bool.false_eq_true, if_false, stK, hnew, growV_some 0 3 hn, growC_some 3 hn]
      simp only [bkC, hv, hch, List.nil_append, OB.cells, zero9, ntC, ntA, List.length_map, List.length_append, List.length_singleton] at happ
      simp (maxSteps := 10000000) [-List.getD_eq_getElem?_getD, -ixsA, -List.all_eq_true, body53_0, keep53_0, head53_0, stK, bkC, zero9, OB.cells, ntC, ntA, hv, hch, hlt', hw, hix, hc, r1, u1, u2, u3, u4, u5, happ, fillE, depth, AV.isAgg]
  · have hv : growV 0 3 (K.map ntA) = .sl 3 (K.map ntA) (.chain 0) := growV_some 0 3 he
    have hch : growC 3 (K.map ntA) = [((K.map ntA).length, 3)] := growC_some 3 he
    cases hb : butF but k with
    | true =>
      rw [hb] at hc
      simp (maxSteps := 10000000) [-List.getD_eq_getElem?_getD, -ixsA, -List.all_eq_true, body53_0, keep53_0, head53_0, stK, bkC, zero9, OB.cells, ntC, hv, hch, hlt', hw, hix, hc, r1, u1, u2, u3, u4, u5]
    | false =>
      rw [hb] at hc
      simp only [Bool.false_eq_true, if_false, stK, hnew, growV_some 0 3 hn, growC_some 3 hn]
      simp only [bkC, hv, hch, List.nil_append, OB.cells, zero9, ntC, ntA, List.length_map, List.length_append, List.length_singleton] at happ
      simp (maxSteps := 10000000) [-List.getD_eq_getElem?_getD, -ixsA, -List.all_eq_true, body53_0, keep53_0, head53_0, stK, bkC, zero9, OB.cells, ntC, ntA, hv, hch, hlt', hw, hix, hc, r1, u1, u2, u3, u4, u5, happ, fillE, depth, AV.isAgg]
theorem loop53_0 (x : OB) (hx : x.Ok) (but : List Int) (r : AV) (hr : IsRow 1 (ints but) r) (hl : but.length < 2 ^ 47) (h9 : x.ns.length < 500) : ∀ (l : List Nt) (k : Nat) (K : List Nt), k ≤ x.ns.length → x.ns.drop k = l → K.length ≤ k →
    run Cv 53 (.loop keep53_0 body53_0) (head53_0 x r k) (stK x K []) = some (.ex 0, mkE 44 .any [(17, .bool false), (16, I x.ns.length), (15, I x.ns.length), (14, x.nr), (5, .box 2 0), (4, .box 1 0), (1, r)], stK x (K ++ keptN (butF but) l k) [])
  | [], k, K, hk, h, _ => by
    obtain rfl := drop_nil hk h
    rw [run_loop, keptN, List.append_nil]
    simp (maxSteps := 10000000) [-List.getD_eq_getElem?_getD, body53_0, keep53_0, head53_0]
  | a :: l, k, K, hk, h, hKk => by
    obtain ⟨hlt, ha, hd⟩ := head_drop h
    rw [round53_0 x hx but r hr hl K (by omega) k a hlt ha]
    have e1 : (k : Int) + 1 = ((k + 1 : Nat) : Int) := by omega
    rw [e1, loop53_0 x hx but r hr hl h9 l (k + 1) _ hlt hd (by split <;> simp <;> omega), keptN, List.append_assoc]
end Go.Ai

set_option maxRecDepth 100000
namespace Go.Ai
open Go.Office (Ft Rl Us Nt Bk Mt Dy DyK Dy0 Sg addB clrB moveN now0 seas vals mem_vals keptN butF)
structure OB.Fine (x : OB) : Prop where
  bk : x.bk.Ok
  n4 : x.ns.length ≤ 4
theorem lie_iff {a b c : Int} : lie a b c = true ↔ b ≤ a ∧ a ≤ c := by simp [lie]
theorem check_fine {x : OB} (h : checkB x = true) : x.Fine := by
  simp only [checkB, okOne, Bool.and_eq_true, lie_iff, decide_eq_true_eq, List.all_eq_true, useB] at h
  obtain ⟨⟨⟨⟨⟨⟨h1, h2⟩, ⟨h3, h4⟩, h5, h6⟩, hf⟩, hr0, hR0⟩, hr1, hR1⟩, hn⟩ := h
  have w1 : IntKind.wrap .i64 (x.days - 1) = x.days - 1 := wrap_small (by omega) (by omega)
  have w2 : IntKind.wrap .i64 ((x.fs.length : Int) - 1) = x.fs.length - 1 := wrap_small (by omega) (by omega)
  have hrl : ∀ r : Rl, ruleB r = true → 0 ≤ r.rank ∧ r.rank ≤ 3 ∧ 0 ≤ r.to ∧ r.to ≤ 3 ∧ 0 ≤ r.does ∧ r.does ≤ 2 := fun r hr => by
    simp only [ruleB, Bool.and_eq_true, lie_iff] at hr
    omega
  exact
    { n4 := by omega
      bk :=
        { d1 := h1, d6 := h2, f0 := h3, f29 := h4
          n4 := by show x.fs.length ≤ 4; omega
          fs := fun f hff => by
            have := hf f hff
            simp only [featB, Bool.and_eq_true, lie_iff, decide_eq_true_eq] at this
            obtain ⟨⟨a1, a2⟩, a3, a4, a5, a6⟩ := this
            have w3 : IntKind.wrap .i64 (f.hi - f.lo) = f.hi - f.lo := wrap_small (by omega) (by omega)
            rw [w3] at a4
            show _ ∧ _ ∧ f.hi < x.days ∧ _
            omega
          us := fun u => by
            unfold Bk.us
            split
            · exact ⟨by show x.r0.length ≤ 5; omega, fun r hr => hrl r (hR0 r hr)⟩
            · exact ⟨by show x.r1.length ≤ 5; omega, fun r hr => hrl r (hR1 r hr)⟩
          ns := fun n hnn => by
            have := hn n hnn
            simp only [noteB, Bool.and_eq_true, lie_iff, w1, w2] at this
            show _ ∧ _ ∧ _ ∧ n.day < x.days ∧ _ ∧ n.chief < ((x.fs.length : Nat) : Int)
            omega } }
theorem ruleF_does {ry rt : Int} : ∀ (l : List Rl) (k : Nat) (p : Nat × Int), Go.Office.ruleF ry rt l k = some p → ∃ r ∈ l, r.does = p.2
  | [], _, p, h => by cases h
  | r :: l, k, p, h => by
    rw [Go.Office.ruleF] at h
    split at h
    · cases h; exact ⟨r, List.mem_cons_self .., rfl⟩
    · obtain ⟨s, hs, he⟩ := ruleF_does l (k + 1) p h
      exact ⟨s, List.mem_cons_of_mem _ hs, he⟩
theorem does_range {b : Bk} (hb : b.Ok) (u y t : Nat) : 0 ≤ b.does u y t ∧ b.does u y t ≤ 2 := by
  unfold Bk.does
  cases h : b.rule u y t with
  | none => exact ⟨Int.le_refl _, by decide⟩
  | some p =>
    obtain ⟨r, hr, he⟩ := ruleF_does _ _ p h
    have := (hb.us u).2 r hr
    show 0 ≤ p.2 ∧ p.2 ≤ 2
    omega
def envR (x : OB) (cp : List AV) (r : AV) : List (Nat × AV) := [(35, .fn (.func 86) [] [.box 3 0]), (34, .agg cp), (17, .bool false), (16, I x.ns.length), (15, I x.ns.length), (14, x.nr), (5, .box 2 0), (4, .box 1 0), (1, r)]
def openX (x : OB) (but : List Int) (r : AV) : WX := { x := x, h := hvOf (keptN (butF but) x.ns 0), K := keptN (butF but) x.ns 0, L := lpO .any (envR x (bkC x (hvOf (keptN (butF but) x.ns 0)).v .nils) r) }
theorem openX_go (x : OB) (hx : x.Ok) (f : x.Fine) (but : List Int) (r : AV) (hr : IsRow 1 (ints but) r) : (openX x but r).Go where
  x := hx
  n4 := f.bk.n4
  d6 := f.bk.d6
  d1 := f.bk.d1
  f0 := ⟨f.bk.f0, f.bk.f29⟩
  does := does_range f.bk
  fs := fun g hg => by
    have := f.bk.fs g hg
    exact ⟨this.1, this.2.1, this.2.2.1, this.2.2.2.1⟩
  h := hvOf_ok _
  row := by
    obtain ⟨r, h1, h2⟩ := growV_pur 0 3 ((keptN (butF but) x.ns 0).map ntA)
    exact ⟨r, h1, h2⟩
  lk := by
    have := Go.Office.keptN_len (butF but) x.ns 0
    have := f.n4
    show (keptN (butF but) x.ns 0).length < 1000
    omega
  L := fun a nc m ha hle => by
    have q1 := hx.fr.under a nc m 1 4
    have q2 := hx.q0.under a nc m 1 4
    have q3 := hx.q1.under a nc m 1 4
    have q4 := hx.nr.under a nc m 1 5
    have q5 := hr.under a nc m 1 5
    have q6 := (hvOf_ok (keptN (butF but) x.ns 0)).un' a nc m 1 4 hle
    have l1 : (2 < a) := by omega
    have l2 : (1 < a) := by omega
    have l3 : (3 < a) := by omega
    show ((mkE 44 .any (envR x (bkC x (hvOf (keptN (butF but) x.ns 0)).v .nils) r)).all _) = true
    simp (maxSteps := 10000000) [-List.getD_eq_getElem?_getD, envR, bkC, q1, q2, q3, q4, q5, q6, l1, l2, l3]
  loop := ⟨.any, _, rfl, rfl⟩
theorem get_putS (u : Nat) (v d' : Int) : ∀ (l : List Sg) (d : Int) (sm : SM), SM.get (putS u l d sm) (v, d') = if v = u ∧ d ≤ d' ∧ d' < d + l.length then l[(d' - d).toNat]? else SM.get sm (v, d')
  | [], d, sm => by
    rw [putS, if_neg (by rintro ⟨_, h1, h2⟩; rw [List.length_nil] at h2; omega)]
  | s :: l, d, sm => by
    rw [putS, get_putS u v d' l (d + 1)]
    by_cases h : v = u ∧ d + 1 ≤ d' ∧ d' < d + 1 + l.length
    · rw [if_pos h, if_pos ⟨h.1, by omega, by simp; omega⟩]
      have e : (d' - d).toNat = (d' - (d + 1)).toNat + 1 := by omega
      rw [e, List.getElem?_cons_succ]
    · rw [if_neg h, sm_get_put]
      by_cases h1 : v = u ∧ d' = d
      · obtain ⟨rfl, rfl⟩ := h1
        rw [if_pos rfl, if_pos ⟨rfl, Int.le_refl _, by simp; omega⟩]
        simp
      · rw [if_neg (fun e => h1 ⟨(Prod.mk.inj e).1.symm, (Prod.mk.inj e).2.symm⟩), if_neg]
        rintro ⟨a1, a2, a3⟩
        simp only [List.length_cons] at a3
        exact h ⟨a1, by by_cases e : d' = d; exact absurd ⟨a1, e⟩ h1; omega, by omega⟩
theorem sm_get (X : WX) (q : List Int) {u d : Nat} (hu : u < 2) (hd : (d : Int) < X.x.days) : SM.get (X.sm q) ((u : Int), (d : Int)) = some (X.b.at q u d) := by
  have hl : ∀ u, (X.b.sg q u).length = X.x.days.toNat := fun u => Go.Office.sg_len q u
  have ha := Go.Office.at_some (b := X.b) (q := q) (u := u) (d := d) hd
  unfold WX.sm
  rw [get_putS, get_putS]
  have hdd : ((d : Int) - 0).toNat = d := by omega
  have : u = 0 ∨ u = 1 := by omega
  rcases this with rfl | rfl
  · rw [if_neg (by intro h; exact absurd h.1 (by decide)), if_pos ⟨rfl, by omega, by rw [hl]; omega⟩, hdd]; exact ha
  · rw [if_pos ⟨rfl, by omega, by rw [hl]; omega⟩, hdd]; exact ha
theorem rq_is (x : OB) (f : x.Fine) (but : List Int) (r : AV) (q : List Int) : (openX x but r).rq q = (x.bk.left but).right q := by
  unfold WX.rq rightN Bk.right
  rw [List.not_any_eq_all_not]
  have key : ∀ l : List Nt, (∀ n ∈ l, n ∈ x.ns) → (l.all fun a => !(notB ((openX x but r).sm q) a)) = l.all fun n => decide (((x.bk.left but).at q n.use.toNat n.day.toNat).chief = n.chief) := by
    intro l
    induction l with
    | nil => intro _; rfl
    | cons n l ih =>
      intro h
      rw [List.all_cons, List.all_cons, ih fun m hm => h m (List.mem_cons_of_mem _ hm)]
      congr 1
      have hn := f.bk.ns n (h n (List.mem_cons_self ..))
      have hD : n.day < x.days := hn.2.2.2.1
      have := sm_get (openX x but r) q (u := n.use.toNat) (d := n.day.toNat) (by omega) (by show ((n.day.toNat : Nat) : Int) < x.days; omega)
      rw [Int.toNat_of_nonneg hn.1, Int.toNat_of_nonneg hn.2.2.1] at this
      unfold notB
      rw [this]
      simp only [Bool.not_not]
      rfl
  exact key _ fun n hn => by
    obtain ⟨j, hj, h1, _⟩ := (Go.Office.kept_mem _ _).1 hn
    exact h1 ▸ List.getElem_mem _
theorem tr_is (x : OB) (f : x.Fine) (but : List Int) (r : AV) : (openX x but r).Fs [] = (x.bk.left but).tr := by
  unfold WX.Fs Bk.tr
  have : ∀ l : List (List Int), l.map (([] : List Int) ++ ·) = l := fun l => by simp
  rw [this]
  refine List.filter_congr fun q _ => rq_is x f but r q
theorem vals_len {f : Ft} (h : f.lo ≤ f.hi ∧ f.hi - f.lo ≤ 3) : (vals f).length ≤ 4 := by
  unfold vals; rw [List.length_map, List.length_range]; omega
theorem seas_len : ∀ (l : List Ft), (∀ f ∈ l, f.lo ≤ f.hi ∧ f.hi - f.lo ≤ 3) → (seas l).length ≤ 4 ^ l.length
  | [], _ => by simp [seas]
  | f :: l, h => by
    have ih := seas_len l fun g hg => h g (List.mem_cons_of_mem _ hg)
    have hv := vals_len (h f (List.mem_cons_self ..))
    rw [seas, List.length_flatMap]
    have : ∀ v : List Int, (List.map (fun d : Int => ((seas l).map (d :: ·)).length) v).sum = v.length * (seas l).length := by
      intro v
      induction v with
      | nil => simp
      | cons a v ih => rw [List.map_cons, List.sum_cons, ih, List.length_map, List.length_cons, Nat.succ_mul, Nat.add_comm]
    rw [this, List.length_cons, Nat.pow_succ, Nat.mul_comm (4 ^ l.length)]
    exact Nat.mul_le_mul hv ih
theorem tr_len (x : OB) (f : x.Fine) (but : List Int) : (x.bk.left but).tr.length ≤ 256 := by
  have h := seas_len x.fs fun g hg => ⟨(f.bk.fs g hg).2.1, (f.bk.fs g hg).2.2.2.1⟩
  have h1 : (4 : Nat) ^ x.fs.length ≤ 4 ^ 4 := Nat.pow_le_pow_right (by decide) f.bk.n4
  have h2 : (x.bk.left but).tr.length ≤ (seas x.fs).length := List.length_filter_le _ _
  omega
end Go.Ai

set_option maxRecDepth 100000
namespace Go.Ai
open Go.Office (Ft Rl Us Nt Bk Mt Dy DyK Dy0 Sg addB clrB moveN now0 seas vals mem_vals keptN butF)
def smX (x : OB) (q : List Int) : SM := putS 1 (x.bk.sg q 1) 0 (putS 0 (x.bk.sg q 0) 0 sm0)
def cX (x : OB) (q : List Int) : AV := trA (now0 q) (smX x q) (growP 3 ((x.bk.mt q 0).map metA)) (growP 3 ((x.bk.mt q 1).map metA))
theorem c_is (x : OB) (but : List Int) (r : AV) (q : List Int) : (openX x but r).c q = cX x q := by
  have h : ∀ u, (openX x but r).b.sg q u = x.bk.sg q u := fun u => Go.Office.sg_note (b := x.bk) _ q u
  have h2 : ∀ u, (openX x but r).b.mt q u = x.bk.mt q u := fun u => Go.Office.meet_note (b := x.bk) _ u _ _ _
  unfold WX.c cX WX.sm smX WX.m
  rw [h, h, h2, h2]
theorem rows_is (x : OB) (but : List Int) (r : AV) (T : List (List Int)) : (openX x but r).rows T = T.map (cX x) := by
  unfold WX.rows
  exact List.map_congr_left fun q _ => c_is x but r q
theorem opened_call (x : OB) (hx : x.Ok) (f : x.Fine) (but : List Int) (r : AV) (hr : IsRow 1 (ints but) r) (hl : but.length < 2 ^ 47) :
    ∃ hv tv, IsRow 3 ((keptN (butF but) x.ns 0).map ntA) hv ∧ IsRow 7 ((x.bk.left but).tr.map (cX x)) tv ∧ call Cv 53 [x.av, r] = some (.agg (bkC x hv tv)) := by
  obtain ⟨J', hw⟩ := whole_callA (openX_go x hx f but r hr) (by rw [tr_is x f]; have := tr_len x f but; omega)
  obtain ⟨hv, g1, g2⟩ := growV_pur 0 3 ((keptN (butF but) x.ns 0).map ntA)
  obtain ⟨tv, g3, g4⟩ := growV_pur ((hvOf (keptN (butF but) x.ns 0)).ch.length + J'.length) 7 ((x.bk.left but).tr.map (cX x))
  refine ⟨hv, tv, g1, g3, ?_⟩
  have hla := loop53_0 x hx but r hr hl (by have := f.n4; omega) x.ns 0 [] (Nat.zero_le _) rfl (Nat.le_refl _)
  have e0 : ((0 : Nat) : Int) = 0 := rfl
  rw [List.nil_append, e0] at hla
  have hla' := fun E (hE : mask keep53_0 E = _) => run_at hla hE
  have p1 := hx.fr.cell
  have p2 := hx.q0.cell
  have p3 := hx.q1.cell
  have p4 := hx.nr.cell
  have p5 := hr.pur
  have r1 := hx.fr.pur
  have r2 := hx.q0.pur
  have r3 := hx.q1.pur
  have hn := nlen hx
  rw [tr_is x f] at hw
  generalize (x.bk.left but).tr = T at *
  have hrw := rows_is x but r T
  have hr0 : (openX x but r).rows [] = [] := rfl
  simp only [WX.s4, WX.base4, WX.tv, hrw, hr0] at hw
  generalize T.map (cX x) = rows at *
  generalize hK : keptN (butF but) x.ns 0 = K at *
  have hXx : (openX x but r).x = x := rfl
  have hXh : (openX x but r).h = hvOf K := by rw [← hK]; rfl
  have hXL : (openX x but r).L = lpO .any (envR x (bkC x (hvOf K).v .nils) r) := by rw [← hK]; rfl
  simp only [WX.oc, hXx, hXh, hXL] at hw
  clear hXx hXh hXL hrw hr0
  have hcl := (hvOf_ok K).cell
  have hgp : growV 0 3 (K.map ntA) = (hvOf K).v := rfl
  have hgc : growC 3 (K.map ntA) = (hvOf K).ch := rfl
  have hn0 : growV 0 3 (([] : List Nt).map ntA) = .nils := rfl
  have hn1 : growC 3 (([] : List Nt).map ntA) = [] := rfl
  simp only [stK, hgp, hgc, hn0, hn1] at hla'
  simp only [hgp] at g2
  generalize hvOf K = H at *
  simp only [growV_nil, growC_nil, List.append_nil, List.cons_append, List.nil_append, bkC, OB.cells, zero9] at hw
  simp only [growV_nil, growC_nil, List.append_nil, List.cons_append, List.nil_append, keep53_0, head53_0, e0, bkC, OB.cells, zero9] at hla'
  simp only [lpO, envR] at hw
  obtain ⟨S3, hS3⟩ : ∃ S3 : St, S3 = { boxes := [[I x.days, I x.first, x.fr, x.q0, .bool x.g0, x.q1, .bool x.g1, x.nr], [I 0, I 0, .nils, .nils, .bool false, .nils, .bool false, .nils, .nils], [I x.days, I x.first, x.fr, x.q0, .bool x.g0, x.q1, .bool x.g1, H.v, .nils]], chains := H.ch } := ⟨_, rfl⟩
  have h73 : callA Cv (run Cv) false (.fn (.func 73) [] []) [.agg [I x.days, I x.first, x.fr, x.q0, .bool x.g0, x.q1, .bool x.g1, H.v, .nils]] S3 = some (.fn (.func 86) [] [.box 3 0], { S3 with boxes := S3.boxes ++ [[I x.days, I x.first, x.fr, x.q0, .bool x.g0, x.q1, .bool x.g1, H.v, .nils]] }) := by
    subst hS3
    rw [callA_imp (by rfl) (by rfl), body_run comp73 (Nat.le_of_ble_eq_true rfl)]
    simp (maxSteps := 10000000) [-List.getD_eq_getElem?_getD, code73, p1, p2, p3, hcl, cutR]
  subst hS3
  simp only [List.cons_append, List.nil_append] at h73
  have hbld : fillA [(0, 8, .agg [I x.days, I x.first, x.fr, x.q0, .bool x.g0, x.q1, .bool x.g1, x.nr])] [I 0, I 0, .nils, .nils, .bool false, .nils, .bool false, .nils, .nils] = some [I x.days, I x.first, x.fr, x.q0, .bool x.g0, x.q1, .bool x.g1, x.nr, .nils] := by
    simp [fillA, AV.cells, setAt, p1, p2, p3, p4]
  have hgcl : ∀ c, (growV c 7 rows).isCell = true := fun c => growV_cell c 7 rows
  rw [call_run comp53 (Nat.le_of_ble_eq_true rfl)]
  simp (maxSteps := 10000000) [-List.getD_eq_getElem?_getD, code53, OB.av, OB.cells, p1, p2, p3, p4, p5, hn, hbld, keep53_0, hla', h73, run_range, isFn, hw, pendA, hcl, hgcl, g2, g4, r1, r2, r3, bkC]
end Go.Ai

set_option maxRecDepth 100000
namespace Go.Ai
open Go.Office (Ft Rl Us Nt Bk Mt Dy DyK Dy0 Sg addB clrB moveN now0 seas vals mem_vals keptN butF)
theorem left_none (x : OB) : x.bk.left [] = x.bk := by
  unfold Bk.left
  have : keptN (butF []) x.bk.ns 0 = x.bk.ns := by
    have e : butF [] = fun _ => false := by funext k; simp [butF]
    rw [e]
    exact Go.Office.kept_none _ _
  rw [this]; rfl
theorem row_len7 {x : OB} {T : List (List Int)} {tv : AV} (h : IsRow 7 (T.map (cX x)) tv) : lenA tv = some (I T.length) := by rw [h.len]; simp
def errOf (T : List (List Int)) : Int := if T = [] then 12 else 0
def openA (x : OB) (hv tv : AV) : AV := .agg (bkC x hv tv)
theorem asked_bad (x : OB) (hx : x.Ok) (is : Bool) (h : checkB x = false ∨ is = false) : call Cv 46 [x.av, .bool is] = some (.tup [.agg zero9, I (if checkB x then 11 else 10)]) := by
  have hc := check_call x hx
  have p1 := hx.fr.cell
  have p2 := hx.q0.cell
  have p3 := hx.q1.cell
  have p4 := hx.nr.cell
  have r1 := hx.fr.pur
  have r2 := hx.q0.pur
  have r3 := hx.q1.pur
  have r4 := hx.nr.pur
  simp only [OB.av, OB.cells] at hc
  rw [call_run comp46 (Nat.le_of_ble_eq_true rfl)]
  cases hk : checkB x with
  | false =>
    rw [hk] at hc
    simp (maxSteps := 10000000) [-List.getD_eq_getElem?_getD, code46, OB.av, OB.cells, zero9, p1, p2, p3, p4, r1, r2, r3, r4, hc, fillA, ret2, retc2]
  | true =>
    rw [hk] at hc h
    have : is = false := by simpa using h
    subst this
    simp (maxSteps := 10000000) [-List.getD_eq_getElem?_getD, code46, OB.av, OB.cells, zero9, p1, p2, p3, p4, r1, r2, r3, r4, hc, fillA, ret2, retc2]
theorem open_none (x : OB) (hx : x.Ok) (f : x.Fine) : ∃ hv tv, IsRow 3 (x.ns.map ntA) hv ∧ IsRow 7 (x.bk.tr.map (cX x)) tv ∧ call Cv 53 [x.av, .nils] = some (openA x hv tv) := by
  obtain ⟨hv, tv, h1, h2, h3⟩ := opened_call x hx f [] .nils (.inl ⟨rfl, rfl⟩) (by simp)
  rw [left_none] at h2
  have hkn : keptN (butF []) x.ns 0 = x.ns := by
    have e : butF [] = fun _ => false := by funext k; simp [butF]
    rw [e]
    exact Go.Office.kept_none _ _
  rw [hkn] at h1
  exact ⟨hv, tv, h1, h2, h3⟩
theorem asked_ok (x : OB) (hx : x.Ok) (hk : checkB x = true) : ∃ hv tv, IsRow 3 (x.ns.map ntA) hv ∧ IsRow 7 (x.bk.tr.map (cX x)) tv ∧ call Cv 46 [x.av, .bool true] = some (.tup [openA x hv tv, I (errOf x.bk.tr)]) := by
  have f := check_fine hk
  obtain ⟨hv, tv, h1, h2, h3⟩ := open_none x hx f
  refine ⟨hv, tv, h1, h2, ?_⟩
  have hc := check_call x hx
  rw [hk] at hc
  have p1 := hx.fr.cell
  have p2 := hx.q0.cell
  have p3 := hx.q1.cell
  have p4 := hx.nr.cell
  have p5 := h1.cell
  have p6 := h2.cell
  have r1 := hx.fr.pur
  have r2 := hx.q0.pur
  have r3 := hx.q1.pur
  have r4 := hx.nr.pur
  have r5 := h1.pur
  have r6 := h2.pur
  have hl := row_len7 h2
  simp only [OB.av, OB.cells, openA, bkC] at hc h3
  rw [call_run comp46 (Nat.le_of_ble_eq_true rfl)]
  unfold errOf
  by_cases hn : x.bk.tr = []
  · have hl0 : (x.bk.tr.length : Int) = 0 := by rw [hn]; rfl
    rw [hl0] at hl
    simp (maxSteps := 10000000) [-List.getD_eq_getElem?_getD, code46, OB.av, OB.cells, openA, bkC, p1, p2, p3, p4, p5, p6, r1, r2, r3, r4, r5, r6, hc, h3, hl, hn, fillA, ret2, retc2]
  · have hl0 : ((x.bk.tr.length : Int) == 0) = false := by
      rw [beq_eq_false_iff_ne]
      intro h
      exact hn (List.eq_nil_of_length_eq_zero (by omega))
    simp (maxSteps := 10000000) [-List.getD_eq_getElem?_getD, code46, OB.av, OB.cells, openA, bkC, p1, p2, p3, p4, p5, p6, r1, r2, r3, r4, r5, r6, hc, h3, hl, hl0, hn, fillA, ret2, retc2]
theorem Right_call (x : OB) (hx : x.Ok) : call Cv 19 [x.av] = some (.tup [.bool (checkB x && !x.bk.tr.isEmpty), I (if checkB x then 0 else 10)]) := by
  have hc := check_call x hx
  have p1 := hx.fr.cell
  have p2 := hx.q0.cell
  have p3 := hx.q1.cell
  have p4 := hx.nr.cell
  have r1 := hx.fr.pur
  have r2 := hx.q0.pur
  have r3 := hx.q1.pur
  have r4 := hx.nr.pur
  rw [call_run comp19 (Nat.le_of_ble_eq_true rfl)]
  cases hk : checkB x with
  | false =>
    rw [hk] at hc
    simp only [OB.av, OB.cells] at hc
    simp (maxSteps := 10000000) [-List.getD_eq_getElem?_getD, code19, OB.av, OB.cells, p1, p2, p3, p4, r1, r2, r3, r4, hc, ret2]
  | true =>
    rw [hk] at hc
    obtain ⟨hv, tv, h1, h2, h3⟩ := open_none x hx (check_fine hk)
    have hl := row_len7 h2
    simp only [OB.av, OB.cells, openA, bkC] at hc h3
    have hlt : decide (0 < x.bk.tr.length) = !x.bk.tr.isEmpty := by
      cases x.bk.tr with
      | nil => rfl
      | cons a l => simp
    simp (maxSteps := 10000000) [-List.getD_eq_getElem?_getD, code19, OB.av, OB.cells, p1, p2, p3, p4, r1, r2, r3, r4, hc, h3, hl, hlt, ret2]
end Go.Ai
