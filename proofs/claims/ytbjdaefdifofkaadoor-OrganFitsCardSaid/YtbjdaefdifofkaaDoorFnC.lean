/- This text shows what opened, Right, Pitch, Apart, Sharp answer. No conditions of its own. -/
import Derived.Test.YtbjdaefdifofkaaDoorFnB
set_option linter.unusedSimpArgs false
set_option linter.unusedVariables false
set_option maxRecDepth 100000
namespace Go.Ai
open Go.Organ (T4 F3 PM get_put addB Tb upd flat flat_ext fillR told half ofM rowF phF clF Hi Lo Low rowF_low phF_low ph_lo)
section
variable {x : OB} {bt : AV} {out : Nat → Bool} {l : PM} {L : List (Nat × AV)}
def head81_5 (t i k : Int) : Env := mkE 157 .any [(108, I k), (105, I i), (102, I t), (16, I i), (15, I t), (5, .box 2 0), (4, .box 1 0)]
theorem loop81_5 (hx : x.Ok) (hb : But bt out x.tunes.length) (hL : ∀ a b c, 6 ≤ a → 1 ≤ c → (mkE 157 .any L).all (under a b c 1 6) = true) (is : Bool) (t i : Nat) (ht : t < 6) (hi : i < 6) (M : Int) (hM : M ≤ 0) (hM' : -1000000000000 ≤ M) : ∀ (n k : Nat) (m : Tb), k + n = 6 → Low t M m (6 * i + k) → Hi m →
    run Cv 81 (.loop keep81_5 body81_5) (head81_5 t i k) (S9 x bt l L m is) = some (.ex 14, mkE 157 .any [(109, .bool false), (108, I 6), (105, I i), (102, I t), (16, I i), (15, I t), (5, .box 2 0), (4, .box 1 0)], S9 x bt l L (rowF t i n k m) is)
  | 0, k, m, hk, h, hh => by
    obtain rfl : k = 6 := by omega
    have e6 : ((6 : Nat) : Int) = 6 := rfl
    rw [run_loop]
    simp (maxSteps := 10000000) [-List.getD_eq_getElem?_getD, body81_5, keep81_5, head81_5, e6, rowF]
  | n + 1, k, m, hk, h, hh => by
    have hk6 : k < 6 := by omega
    have hlt : (k : Int) < 6 := by omega
    have hw : IntKind.wrap .i64 ((k : Int) + 1) = ((k + 1 : Nat) : Int) := by rw [wrap_small (by omega) (by omega)]; rfl
    have hc := fun (m m' : Tb) (e : Env) (he : e.all (under 6 0 1 1 6) = true) => cut9 (l := l) (m := m) (is := is) (m' := m') (is' := is) hx hb hL he
    obtain ⟨b1, b2, b3⟩ := h.sum hM ht hi hk6
    have c2 := hh i t hi ht
    have c3 := hh t k ht hk6
    have hws : IntKind.wrap .i64 (m i t + m t k) = m i t + m t k := wrap_small (by omega) (by omega)
    have i1 := ixa9 hi
    have i2 := ixa9 ht
    have j1 := fun j => ixb9 (i := j) hk6
    have j2 := fun j => ixb9 (i := j) ht
    have l1 := ld9 (x := x) (bt := bt) (L := L) (l := l) (m := m) (is := is) hi hk6
    have l2 := ld9 (x := x) (bt := bt) (L := L) (l := l) (m := m) (is := is) hi ht
    have l3 := ld9 (x := x) (bt := bt) (L := L) (l := l) (m := m) (is := is) ht hk6
    have hle := least_call (m i k) (m i t + m t k)
    have hf1 : ∀ v, fillE 1 false [(0, I v)] [I 0] = some [I v] := fun _ => rfl
    have hst := st9 (x := x) (bt := bt) (L := L) (l := l) (m := m) (is := is) hi hk6 (min (m i k) (m i t + m t k))
    have hup := Organ.upd_cell t m i k
    have key : run Cv 81 (.loop keep81_5 body81_5) (head81_5 t i k) (S9 x bt l L m is) = run Cv 81 (.loop keep81_5 body81_5) (head81_5 t i ((k + 1 : Nat) : Int)) (S9 x bt l L (Organ.cell t m (i, k)) is) := by
      rw [hup, run_loop]
      generalize MC.loop keep81_5 body81_5 = L'
      simp (maxSteps := 10000000) [-List.getD_eq_getElem?_getD, -loadA, -storeA, -cut, -ixaA, body81_5, keep81_5, head81_5, hlt, hw, hws, i1, i2, j1, j2, l1, l2, l3, hle, hf1, hst]
      rw [hc]
      simp (maxSteps := 10000000) [-List.getD_eq_getElem?_getD, ]
    rw [key]
    exact loop81_5 hx hb hL is t i ht hi M hM hM' n (k + 1) _ (by omega) (h.next ht hi hk6 hM) (hh.cell t _)
def head81_6 (t i : Int) : Env := mkE 157 .any [(105, I i), (102, I t), (15, I t), (5, .box 2 0), (4, .box 1 0)]
theorem loop81_6 (hx : x.Ok) (hb : But bt out x.tunes.length) (hL : ∀ a b c, 6 ≤ a → 1 ≤ c → (mkE 157 .any L).all (under a b c 1 6) = true) (is : Bool) (t : Nat) (ht : t < 6) (M : Int) (hM : M ≤ 0) (hM' : -1000000000000 ≤ M) : ∀ (n i : Nat) (m : Tb), i + n = 6 → Low t M m (6 * i) → Hi m →
    run Cv 81 (.loop keep81_6 body81_6) (head81_6 t i) (S9 x bt l L m is) = some (.ex 12, mkE 157 .any [(106, .bool false), (105, I 6), (102, I t), (15, I t), (5, .box 2 0), (4, .box 1 0)], S9 x bt l L (phF t n i m) is)
  | 0, k, m, hk, h, hh => by
    obtain rfl : k = 6 := by omega
    have e6 : ((6 : Nat) : Int) = 6 := rfl
    rw [run_loop]
    simp (maxSteps := 10000000) [-List.getD_eq_getElem?_getD, body81_6, keep81_6, head81_6, e6, phF]
  | n + 1, i, m, hk, h, hh => by
    have hi : i < 6 := by omega
    have hlt : (i : Int) < 6 := by omega
    have hw : IntKind.wrap .i64 ((i : Int) + 1) = ((i + 1 : Nat) : Int) := by rw [wrap_small (by omega) (by omega)]; rfl
    have hc := fun (m m' : Tb) (e : Env) (he : e.all (under 6 0 1 1 6) = true) => cut9 (l := l) (m := m) (is := is) (m' := m') (is' := is) hx hb hL he
    have hin := fun E (hE : mask keep81_5 E = _) => run_at (loop81_5 (l := l) hx hb hL is t i ht hi M hM hM' 6 0 m (by omega) h hh) hE
    have e5 : ((0 : Nat) : Int) = 0 := rfl
    simp only [keep81_5, head81_5, e5] at hin
    have key : run Cv 81 (.loop keep81_6 body81_6) (head81_6 t i) (S9 x bt l L m is) = run Cv 81 (.loop keep81_6 body81_6) (head81_6 t ((i + 1 : Nat) : Int)) (S9 x bt l L (rowF t i 6 0 m) is) := by
      rw [run_loop]
      generalize MC.loop keep81_6 body81_6 = L'
      simp (maxSteps := 10000000) [-List.getD_eq_getElem?_getD, -loadA, -storeA, -cut, -ixaA, body81_6, keep81_6, head81_6, keep81_5, hlt, hw, hin]
      rw [hc]
      simp (maxSteps := 10000000) [-List.getD_eq_getElem?_getD, ]
    rw [key]
    obtain ⟨g1, g2⟩ := rowF_low ht hi hM 6 0 m (by omega) h hh
    exact loop81_6 hx hb hL is t ht M hM hM' n (i + 1) _ (by omega) g1 g2
def head81_7 (t : Int) : Env := mkE 157 .any [(102, I t), (5, .box 2 0), (4, .box 1 0)]
theorem loop81_7 (hx : x.Ok) (hb : But bt out x.tunes.length) (hL : ∀ a b c, 6 ≤ a → 1 ≤ c → (mkE 157 .any L).all (under a b c 1 6) = true) (is : Bool) : ∀ (n t : Nat) (M : Int) (m : Tb), M ≤ 0 → -1000000000000 ≤ M * 6 ^ n → t + n = 6 → Lo M m → Hi m →
    run Cv 81 (.loop keep81_7 body81_7) (head81_7 t) (S9 x bt l L m is) = some (.ex 10, mkE 157 .any [(103, .bool false), (102, I 6), (5, .box 2 0), (4, .box 1 0)], S9 x bt l L (clF n t m) is)
  | 0, k, M, m, hM, hM', hk, h, hh => by
    obtain rfl : k = 6 := by omega
    have e6 : ((6 : Nat) : Int) = 6 := rfl
    rw [run_loop]
    simp (maxSteps := 10000000) [-List.getD_eq_getElem?_getD, body81_7, keep81_7, head81_7, e6, clF]
  | n + 1, t, M, m, hM, hM', hk, h, hh => by
    have ht : t < 6 := by omega
    have hlt : (t : Int) < 6 := by omega
    have hw : IntKind.wrap .i64 ((t : Int) + 1) = ((t + 1 : Nat) : Int) := by rw [wrap_small (by omega) (by omega)]; rfl
    have hc := fun (m m' : Tb) (e : Env) (he : e.all (under 6 0 1 1 6) = true) => cut9 (l := l) (m := m) (is := is) (m' := m') (is' := is) hx hb hL he
    have hM6 : M * 6 * 6 ^ n = M * 6 ^ (n + 1) := by rw [Int.pow_succ, Int.mul_assoc, Int.mul_comm 6]
    have hp : (1 : Int) ≤ 6 ^ n := by
      have := Int.pow_pos (m := n) (show (0 : Int) < 6 by omega)
      omega
    have hM1 : -1000000000000 ≤ M := by
      have h1 : M * 6 * 6 ^ n ≤ M * 6 * 1 := Int.mul_le_mul_of_nonpos_left (by omega) hp
      omega
    have hin := fun E (hE : mask keep81_6 E = _) => run_at (loop81_6 (l := l) hx hb hL is t ht M hM hM1 6 0 m (by omega) (.start t hM h) hh) hE
    have e5 : ((0 : Nat) : Int) = 0 := rfl
    simp only [keep81_6, head81_6, e5] at hin
    have key : run Cv 81 (.loop keep81_7 body81_7) (head81_7 t) (S9 x bt l L m is) = run Cv 81 (.loop keep81_7 body81_7) (head81_7 ((t + 1 : Nat) : Int)) (S9 x bt l L (phF t 6 0 m) is) := by
      rw [run_loop]
      generalize MC.loop keep81_7 body81_7 = L'
      simp (maxSteps := 10000000) [-List.getD_eq_getElem?_getD, -loadA, -storeA, -cut, -ixaA, body81_7, keep81_7, head81_7, keep81_6, hlt, hw, hin]
      rw [hc]
      simp (maxSteps := 10000000) [-List.getD_eq_getElem?_getD, ]
    rw [key]
    obtain ⟨g1, g2⟩ := ph_lo ht hM h hh
    refine loop81_7 hx hb hL is n (t + 1) (6 * M) _ (by omega) ?_ (by omega) g1 g2
    rw [Int.mul_comm 6 M, hM6]; exact hM'
def diag (m : Tb) : Nat → Nat → Bool → Bool
  | 0, _, is => is
  | n + 1, p, is => diag m n (p + 1) (is && decide (0 ≤ m p p))
def head81_8 (p : Int) : Env := mkE 157 .any [(140, I p), (5, .box 2 0), (4, .box 1 0)]
theorem loop81_8 (hx : x.Ok) (hb : But bt out x.tunes.length) (hL : ∀ a b c, 6 ≤ a → 1 ≤ c → (mkE 157 .any L).all (under a b c 1 6) = true) (m : Tb) : ∀ (n p : Nat) (is : Bool), p + n = 6 →
    run Cv 81 (.loop keep81_8 body81_8) (head81_8 p) (S9 x bt l L m is) = some (.ex 16, mkE 157 .any [(141, .bool false), (140, I 6), (5, .box 2 0), (4, .box 1 0)], S9 x bt l L m (diag m n p is))
  | 0, k, is, hk => by
    obtain rfl : k = 6 := by omega
    have e6 : ((6 : Nat) : Int) = 6 := rfl
    rw [run_loop]
    simp (maxSteps := 10000000) [-List.getD_eq_getElem?_getD, body81_8, keep81_8, head81_8, e6, diag]
  | n + 1, p, is, hk => by
    have hp : p < 6 := by omega
    have hlt : (p : Int) < 6 := by omega
    have hw : IntKind.wrap .i64 ((p : Int) + 1) = ((p + 1 : Nat) : Int) := by rw [wrap_small (by omega) (by omega)]; rfl
    have hc := fun (is is' : Bool) (e : Env) (he : e.all (under 6 0 1 1 6) = true) => cut9 (l := l) (m := m) (is := is) (m' := m) (is' := is') hx hb hL he
    have i1 := ixa9 hp
    have j1 := fun j => ixb9 (i := j) hp
    have l1 := ld9 (x := x) (bt := bt) (L := L) (l := l) (m := m) (is := is) hp hp
    have l2 := is9 (x := x) (bt := bt) (L := L) (l := l) (m := m) (is := is)
    have hst := fun b => stis9 (x := x) (bt := bt) (L := L) (l := l) (m := m) (is := is) b
    have key : run Cv 81 (.loop keep81_8 body81_8) (head81_8 p) (S9 x bt l L m is) = run Cv 81 (.loop keep81_8 body81_8) (head81_8 ((p + 1 : Nat) : Int)) (S9 x bt l L m (is && decide (0 ≤ m p p))) := by
      rw [run_loop]
      generalize MC.loop keep81_8 body81_8 = L'
      generalize hq : decide (0 ≤ m p p) = q at *
      have hq' : decide (m p p ≥ 0) = q := hq
      cases is <;> simp (maxSteps := 10000000) [-List.getD_eq_getElem?_getD, -loadA, -storeA, -cut, -ixaA, body81_8, keep81_8, head81_8, hlt, hw, i1, j1, l1, l2, hst, hq'] <;> (rw [hc]; simp (maxSteps := 10000000) [-List.getD_eq_getElem?_getD, ])
    rw [key]
    exact loop81_8 hx hb hL m n (p + 1) _ (by omega)
end
end Go.Ai

set_option maxRecDepth 100000
namespace Go.Ai
open Go.Organ (T4 F3 PM addB Tb flat BOk builtM townB forkB tuneB bds kept T6 isO FOk TOk)
def OB.N (x : OB) : Nat := x.pipes.toNat
structure Chk0 (x : OB) : Prop where
  b : BOk x.N x.forks x.tunes
  pipes : x.pipes = (x.N : Int)
structure Chk (x : OB) : Prop extends Chk0 x where
  tunes : x.tunes.length ≤ 6
  forks : x.forks.length ≤ 3
  voice : Vc.checkOk x.voice = true
theorem lie_iff {n a b : Int} : lie n a b = true ↔ a ≤ n ∧ n ≤ b := by simp [lie]
theorem isPipe_iff {x : OB} (h : 1 ≤ x.pipes ∧ x.pipes ≤ 5) {n : Int} : isPipe x n = true ↔ 0 ≤ n ∧ n < x.N := by
  rw [isPipe, wrap_small (by omega) (by omega), lie_iff, OB.N]
  omega
theorem tuneOk_iff {x : OB} (h : 1 ≤ x.pipes ∧ x.pipes ≤ 5) {t : T4} : tuneOk x t = true ↔ TOk x.N t := by
  simp only [tuneOk, Bool.and_eq_true, bne_iff_ne, ne_eq, lie_iff, isPipe_iff h]
  constructor
  · rintro ⟨a, b, c, d, e⟩; exact ⟨a, b, c, d, e⟩
  · rintro ⟨a, b, c, d, e⟩; exact ⟨a, b, c, d, e⟩
theorem forkOk_iff {x : OB} (h : 1 ≤ x.pipes ∧ x.pipes ≤ 5) {f : F3} : forkOk x f = true ↔ FOk x.N f := by
  simp only [forkOk, Bool.and_eq_true, lie_iff, isPipe_iff h]
  constructor
  · rintro ⟨a, b, c⟩; exact ⟨a, b, c⟩
  · rintro ⟨a, b, c⟩; exact ⟨a, b, c⟩
theorem chk_iff (x : OB) : checkOk x = true ↔ Chk x := by
  simp only [checkOk, Bool.and_eq_true, lie_iff, decide_eq_true_eq, List.all_eq_true]
  constructor
  · rintro ⟨⟨⟨h1, h2, h3, h4⟩, h5⟩, h6⟩
    exact ⟨⟨⟨by unfold OB.N; omega, by unfold OB.N; omega, fun f hf => (forkOk_iff h1).1 (h6 f hf), fun t ht => (tuneOk_iff h1).1 (h5 t ht)⟩, by unfold OB.N; omega⟩, by omega, by omega, h4⟩
  · rintro ⟨⟨⟨a, b, c, d⟩, e⟩, f, g, h⟩
    have h1 : 1 ≤ x.pipes ∧ x.pipes ≤ 5 := by omega
    exact ⟨⟨⟨h1, by omega, by omega, h⟩, fun t ht => (tuneOk_iff h1).2 (d t ht)⟩, fun t ht => (forkOk_iff h1).2 (c t ht)⟩
theorem Chk0.p {x : OB} (h : Chk0 x) : 1 ≤ x.pipes ∧ x.pipes ≤ 5 := by
  have := h.pipes; have := h.b.one; have := h.b.five; omega
theorem built_app (a b : List Organ.Bd) (l : PM) : builtM (a ++ b) l = builtM b (builtM a l) := List.foldl_append
theorem town_is : ∀ (n k : Nat) (l : PM), townM n k l = builtM ((List.range' k n).flatMap fun p => [(5, p, 60), (p, 5, 60)]) l
  | 0, k, l => rfl
  | n + 1, k, l => by
    rw [townM, town_is n (k + 1), List.range'_succ, List.flatMap_cons, built_app]
    rfl
theorem forks_is : ∀ (fs : List F3) (l : PM), (∀ f ∈ fs, 0 ≤ f.pipe) → forksM fs l = builtM (fs.flatMap forkB) l
  | [], l, _ => rfl
  | f :: fs, l, h => by
    rw [forksM, forks_is fs _ fun g hg => h g (.tail _ hg), List.flatMap_cons, built_app]
    have h0 := h f (.head _)
    have e : ((f.pipe.toNat : Nat) : Int) = f.pipe := by omega
    show _ = builtM _ (Organ.bdB (Organ.bdB l _) _)
    simp only [forkM, Organ.bdB, e]
    rfl
theorem tunes_is (out : Nat → Bool) : ∀ (ts : List T4) (k : Nat) (l : PM), (∀ t ∈ ts, 0 ≤ t.src ∧ 0 ≤ t.dst) → tunesM out ts k l = builtM ((kept out ts k).flatMap tuneB) l
  | [], k, l, _ => rfl
  | t :: ts, k, l, h => by
    rw [tunesM, tunes_is out ts (k + 1) _ fun g hg => h g (.tail _ hg), kept, List.flatMap_append, built_app]
    obtain ⟨h0, h1⟩ := h t (.head _)
    have e : ((t.src.toNat : Nat) : Int) = t.src := by omega
    have e' : ((t.dst.toNat : Nat) : Int) = t.dst := by omega
    cases out k with
    | true => rfl
    | false =>
      show builtM _ (tuneM t l) = builtM _ (Organ.bdB (Organ.bdB l _) _)
      simp only [tuneM, Organ.bdB, e, e']
def mapO (x : OB) (out : Nat → Bool) : PM := builtM (bds x.N x.forks (kept out x.tunes 0)) []
theorem map_is {x : OB} (h : Chk0 x) (out : Nat → Bool) : tunesM out x.tunes 0 (forksM x.forks (townM x.N 0 [])) = mapO x out := by
  rw [tunes_is out _ _ _ (fun t ht => ⟨(h.b.tunes t ht).src.1, (h.b.tunes t ht).dst.1⟩), forks_is _ _ (fun f hf => (h.b.forks f hf).pipe.1), town_is, mapO, bds, built_app, built_app]
  rfl
theorem kept_sub (out : Nat → Bool) : ∀ (ts : List T4) (k : Nat), (∀ t ∈ kept out ts k, t ∈ ts) ∧ (kept out ts k).length ≤ ts.length
  | [], k => ⟨fun _ h => h, Nat.le_refl _⟩
  | t :: ts, k => by
    obtain ⟨h1, h2⟩ := kept_sub out ts (k + 1)
    rw [kept]
    split
    · exact ⟨fun u hu => .tail _ (h1 u (by simpa using hu)), by simp; omega⟩
    · refine ⟨fun u hu => ?_, by simp; omega⟩
      rcases List.mem_cons.1 (by simpa using hu) with rfl | hu
      · exact .head _
      · exact .tail _ (h1 u hu)
theorem Chk0.kept {x : OB} (h : Chk0 x) (out : Nat → Bool) : BOk x.N x.forks (kept out x.tunes 0) := ⟨h.b.one, h.b.five, h.b.forks, fun t ht => h.b.tunes t ((kept_sub out x.tunes 0).1 t ht)⟩
theorem kept_none : ∀ (ts : List T4) (k : Nat), kept (fun _ => false) ts k = ts
  | [], _ => rfl
  | t :: ts, k => by rw [kept, kept_none ts (k + 1)]; rfl
theorem Chk0.fsmall {x : OB} (h : Chk0 x) : ∀ f ∈ x.forks, FSmall f := fun f hf => by
  have := h.b.forks f hf
  have a := this.pipe; have b := this.read; have c := this.err
  exact ⟨a.1, by omega, by omega⟩
theorem Chk0.tsmall {x : OB} (h : Chk0 x) : ∀ t ∈ x.tunes, TSmall t := fun t ht => by
  have := h.b.tunes t ht
  have a := this.src; have b := this.dst; have c := this.off; have d := this.err
  exact ⟨a.1, b.1, by omega, by omega⟩
theorem flat_map {x : OB} (h : Chk0 x) (out : Nat → Bool) : flat (Organ.half (mapO x out) 6) = flat (Organ.tbl (Organ.baseP x.N) (bds x.N x.forks (kept out x.tunes 0))) := by
  rw [Organ.half_six]
  exact Organ.flat_ext fun i k hi hk => Organ.ofM_is (h.kept out).bounds (Organ.small_bds h.b.five h.b.forks (h.kept out).tunes) h.b.one hi hk
theorem tbl_lo : ∀ (bs : List Organ.Bd) (d : Tb), (∀ b ∈ bs, -65 ≤ b.2.2) → Organ.Lo (-65) d → Organ.Lo (-65) (Organ.tbl d bs)
  | [], d, _, h => h
  | b :: bs, d, hb, h => tbl_lo bs (Organ.lower d b) (fun c hc => hb c (.tail _ hc)) fun i k hi hk => by
    have h1 := h i k hi hk
    have h2 := hb b (.head _)
    unfold Organ.lower
    split <;> omega
theorem flat_lo {x : OB} (h : Chk0 x) (out : Nat → Bool) : Organ.Lo (-65) (Organ.tbl (Organ.baseP x.N) (bds x.N x.forks (kept out x.tunes 0))) ∧ Organ.Hi (Organ.tbl (Organ.baseP x.N) (bds x.N x.forks (kept out x.tunes 0))) := by
  constructor
  · refine tbl_lo _ _ (fun b hb => (Organ.small_bds h.b.five h.b.forks (h.kept out).tunes b hb).small.1) fun i k _ _ => ?_
    unfold Organ.baseP; split <;> omega
  · intro i k _ _
    refine Int.le_trans (Organ.tbl_le _ _ i k) ?_
    unfold Organ.baseP; split <;> omega
theorem diag_all (m : Tb) : diag m 6 0 true = (List.range' 0 6).all fun i => decide (0 ≤ m i i) := by
  simp [diag, List.range', Bool.and_assoc]
end Go.Ai

set_option maxRecDepth 100000
namespace Go.Ai
open Go.Organ (T4 F3 PM addB Tb flat BOk builtM townB forkB tuneB bds kept T6 isO FOk TOk)
def openC (x : OB) (l : PM) (m : Tb) (is : Bool) : List AV := x.cells ++ ([.mapv (ksM l) (vsM l)] ++ flatA m ++ [.bool is])
def tabO (x : OB) (out : Nat → Bool) : Tb := T6 x.N x.forks (kept out x.tunes 0)
def canO (x : OB) (out : Nat → Bool) : Bool := isO x.N x.forks (kept out x.tunes 0)
def openV (x : OB) (out : Nat → Bool) : AV := .agg (openC x (mapO x out) (tabO x out) (canO x out))
theorem purAll_app (f : AV → Option (AV × Bool)) : ∀ (l m l' m' : List AV) (s t : Bool), purAll f l = some (l', s) → purAll f m = some (m', t) → purAll f (l ++ m) = some (l' ++ m', s || t)
  | [], m, l', m', s, t, h, h' => by simp only [purAll, Option.some.injEq, Prod.mk.injEq] at h; rw [← h.1, ← h.2, Bool.false_or]; exact h'
  | x :: l, m, l', m', s, t, h, h' => by
    simp only [purAll, Option.bind_eq_some_iff, Option.some.injEq, Prod.mk.injEq] at h
    obtain ⟨r, h1, q, h2, h3, h4⟩ := h
    have := purAll_app f l m q.1 m' q.2 t h2 h'
    simp [purAll, h1, this, ← h3, ← h4, Bool.or_assoc]
theorem flatA_pur (m : Tb) (σ : St) (n : Nat) : purAll (pur σ (n + 1)) (flatA m) = some (flatA m, false) := by
  have : ∀ l : List Int, purAll (pur σ (n + 1)) (l.map fun n => I n) = some (l.map fun n => I n, false) := by
    intro l
    induction l with
    | nil => rfl
    | cons a l ih => simp only [List.map_cons, purAll, ih]; rfl
  exact this _
theorem xcells_pur (x : OB) (hx : x.Ok) (σ : St) (n : Nat) : purAll (pur σ (n + 1)) x.cells = some (x.cells, false) := by
  have q1 := hx.trow.pur σ n
  have q2 := hx.frow.pur σ n
  have q3 := br_pur x σ n
  have q4 := vr_pur x σ n
  simp only [OB.cells, pa_cons, pa_nil, pu_int, q1, q2, q3, q4, Option.bind_some, Bool.or_self]
theorem xcells_cell (x : OB) (hx : x.Ok) : x.cells.all AV.isCell = true := by
  have p1 := hx.trow.cell
  have p2 := hx.frow.cell
  have p3 := br_cell x
  have p4 := vr_cell x
  simp only [OB.cells, List.all_cons, List.all_nil, p1, p2, p3, p4, isCell_int, Bool.and_self]
theorem flatA_cell (m : Tb) : (flatA m).all AV.isCell = true := by
  simp only [flatA, List.all_map, List.all_eq_true]
  exact fun _ _ => rfl
theorem bx_cell (x : OB) (hx : x.Ok) (m : Tb) (is : Bool) : (bx44 x m is).all AV.isCell = true := by
  simp only [bx44, List.all_append, xcells_cell x hx, flatA_cell, List.all_cons, List.all_nil, isCell_mp, isCell_bool, Bool.and_self]
theorem bx_pur (x : OB) (hx : x.Ok) (m : Tb) (is : Bool) (σ : St) (l : PM) (hm : σ.maps[0]? = some (ksM l, vsM l)) : pur σ 12 (.agg (bx44 x m is)) = some (.agg (openC x l m is), true) := by
  have h1 := xcells_pur x hx σ 10
  have h2 : purAll (pur σ 11) [.mp 0] = some ([.mapv (ksM l) (vsM l)], true) := by
    have a := ks_pur σ 8 l
    have b := vs_pur σ 9 l
    simp only [pa_cons, pa_nil, pu_mp, hm, a, b, Option.bind_some]
    rfl
  have h3 := flatA_pur m σ 10
  have h4 : purAll (pur σ 11) [.bool is] = some ([.bool is], false) := rfl
  have h := purAll_app _ _ _ _ _ _ _ h1 (purAll_app _ _ _ _ _ _ _ (purAll_app _ _ _ _ _ _ _ h2 h3) h4)
  rw [pu_agg]
  show (purAll (pur σ 11) (x.cells ++ ([.mp 0] ++ flatA m ++ [.bool is]))).bind _ = _
  rw [h]
  rfl
def S9' (x : OB) (bt : AV) (l : PM) (L : List (Nat × AV)) (m : Tb) (is : Bool) : St := { boxes := [x.cells, bx44 x m is, bx44 x m is, [boundV (b44 x)]] ++ ext81 x bt, maps := [(ksM l, vsM l)], loops := [lpEnd L] }
def L81 (x : OB) (bt : AV) : List (Nat × AV) := [(51, tunesV), (50, bt), (49, .agg (b44 x)), (37, .bool false), (36, I x.forks.length), (35, I x.forks.length), (34, x.fr), (6, .box 3 0), (5, .box 2 0), (4, .box 1 0), (1, bt)]
theorem L81_ok (x : OB) (hx : x.Ok) (bt : AV) {out : Nat → Bool} (hb : But bt out x.tunes.length) (a b c : Nat) (ha : 6 ≤ a) (hc : 1 ≤ c) : (mkE 157 .any (L81 x bt)).all (under a b c 1 6) = true := by
  have h1 := hb.under a b c 1 5
  have h2 := b44_under x hx a b c 1 4 hc
  have h3 := hx.frow.under a b c 1 5
  have a1 : decide (3 < a) = true := by simp; omega
  have a2 : decide (2 < a) = true := by simp; omega
  have a3 : decide (1 < a) = true := by simp; omega
  have a4 : decide (4 < a) = true := by simp; omega
  have a5 : decide (5 < a) = true := by simp; omega
  refine all_A ?_
  simp only [L81, List.all_cons, List.all_nil, tunesV, un_fn, un_box, un_agg, un_bool, un_int, h1, h2, h3, a1, a2, a3, a4, a5, Bool.and_self]
set_option maxHeartbeats 2000000 in
theorem opened_call (x : OB) (hx : x.Ok) (hc : Chk0 x) (bt : AV) (out : Nat → Bool) (hb : But bt out x.tunes.length) : call Cv 81 [x.av, bt] = some (openV x out) := by
  have e5 : ((0 : Nat) : Int) = 0 := rfl
  have hfl := flen hx
  have hpp := hc.pipes
  have h5 := hc.b.five
  have hLo := L81_ok x hx bt hb
  have l0 := fun E (hE : mask keep81_0 E = _) => run_at (loop81_0 x hx bt hb.under x.N (by omega) x.N 0 [] (by omega)) hE
  have l1 := fun E (hE : mask keep81_1 E = _) => run_at (loop81_1 x hx bt hb.under hc.fsmall x.forks 0 (townM x.N 0 []) (Nat.zero_le _) rfl) hE
  have r1 := range81 hx hb hc.tsmall (L := L81 x bt) hLo rfl rfl (forksM x.forks (townM x.N 0 []))
  rw [map_is hc, S9_start, ← Organ.half_zero (mapO x out)] at r1
  have l4 := fun E (hE : mask keep81_4 E = _) => run_at (loop81_4 (l := mapO x out) hx hb hLo true 6 0 (by omega)) hE
  rw [S9_congr (flat_map hc out)] at l4
  obtain ⟨b1, b2⟩ := flat_lo hc out
  have l7 := fun E (hE : mask keep81_7 E = _) => run_at (loop81_7 (l := mapO x out) hx hb hLo true 6 0 (-65) _ (by omega) (by decide) (by omega) b1 b2) hE
  rw [Organ.cl_is] at l7
  have l8 := fun E (hE : mask keep81_8 E = _) => run_at (loop81_8 (l := mapO x out) hx hb hLo (tabO x out) 6 0 true (by omega)) hE
  rw [diag_all] at l8
  have f108 := f108_call hx hb (forksM x.forks (townM x.N 0 []))
  have hbox : boxA {} (.agg x.cells) = some (.box 0 0, { boxes := [x.cells] }) := by
    simp only [boxA, AV.cells, xcells_cell x hx, if_true]; rfl
  have hld0 : ∀ B, loadA { boxes := x.cells :: B, maps := [] } (some 6) (.box 0 0) = some (.agg x.cells) := fun _ => rfl
  have hldp : ∀ l, loadA (SB (base81 x) l []) none (.box 0 0) = some (I x.pipes) := fun _ => rfl
  have hldf : ∀ l, loadA (SB (base81 x) l []) none (.box 0 2) = some x.fr := fun _ => rfl
  have hfill : fillA [(0, 6, .agg x.cells), (6, 1, .mp 0), (43, 1, .bool true)] zero44 = some (b44 x) := by
    have h1 := xcells_cell x hx
    simp only [fillA, cells_agg, cells_mp, cells_bool, h1]
    rfl
  have hst2 : storeA { boxes := [x.cells, zero44, zero44], maps := [([], [])] } 44 (.box 2 0) (.agg (b44 x)) = some { boxes := [x.cells, zero44, b44 x], maps := [([], [])] } := by
    have h1 := b44_cell x hx
    simp only [storeA, cells_agg, h1]
    rfl
  have hld2 : loadA { boxes := [x.cells, zero44, b44 x], maps := [([], [])] } (some 44) (.box 2 0) = some (.agg (b44 x)) := rfl
  have hst3 : storeA { boxes := [x.cells, zero44, b44 x, [.nilf]], maps := [([], [])] } 1 (.box 3 0) (.fn (.func 107) [.agg (b44 x)] []) = some (SB (base81 x) [] []) := rfl
  have hld44 : ∀ l, loadA (SB (base81 x) l []) (some 44) (.box 2 0) = some (.agg (b44 x)) := fun _ => rfl
  have hle : loadA (S9 x bt (mapO x out) (L81 x bt) (tabO x out) (canO x out)) (some 44) (.box 2 0) = some (.agg (bx44 x (tabO x out) (canO x out))) := rfl
  have hse : storeA (S9 x bt (mapO x out) (L81 x bt) (tabO x out) (canO x out)) 44 (.box 1 0) (.agg (bx44 x (tabO x out) (canO x out))) = some (S9' x bt (mapO x out) (L81 x bt) (tabO x out) (canO x out)) := by
    have h1 := bx_cell x hx (tabO x out) (canO x out)
    have h2 : storeA (S9 x bt (mapO x out) (L81 x bt) (tabO x out) (canO x out)) 44 (.box 1 0) (.agg (bx44 x (tabO x out) (canO x out))) = if 0 ≤ 1 ∧ (bx44 x (tabO x out) (canO x out)).length = 44 ∧ 0 + 44 ≤ zero44.length ∧ (bx44 x (tabO x out) (canO x out)).all AV.isCell = true then some { S9 x bt (mapO x out) (L81 x bt) (tabO x out) (canO x out) with boxes := (S9 x bt (mapO x out) (L81 x bt) (tabO x out) (canO x out)).boxes.set 1 (setAt zero44 0 (bx44 x (tabO x out) (canO x out))) } else none := rfl
    rw [h2, if_pos ⟨by omega, rfl, by decide, h1⟩]
    rfl
  have hret : loadA (S9' x bt (mapO x out) (L81 x bt) (tabO x out) (canO x out)) (some 44) (.box 1 0) = some (.agg (bx44 x (tabO x out) (canO x out))) := rfl
  have hpur := bx_pur x hx (tabO x out) (canO x out) (S9' x bt (mapO x out) (L81 x bt) (tabO x out) (canO x out)) (mapO x out) rfl
  have hcan : ((List.range' 0 6).all fun i => decide (0 ≤ tabO x out i i)) = canO x out := rfl
  have htab : Organ.close 6 (Organ.tbl (Organ.baseP x.N) (bds x.N x.forks (kept out x.tunes 0))) = tabO x out := rfl
  rw [hcan] at l8
  rw [htab] at l7
  simp only [keep81_0, head81_0, e5] at l0
  simp only [keep81_1, head81_1, e5] at l1
  simp only [keep81_4, head81_4, e5] at l4
  simp only [keep81_7, head81_7, e5] at l7
  simp only [keep81_8, head81_8, e5] at l8
  generalize S9 x bt (mapO x out) (L81 x bt) (Organ.half (mapO x out) 0) true = σ0 at *
  generalize S9 x bt (mapO x out) (L81 x bt) (Organ.tbl (Organ.baseP x.N) (bds x.N x.forks (kept out x.tunes 0))) true = σ1 at *
  generalize S9 x bt (mapO x out) (L81 x bt) (tabO x out) true = σ2 at *
  generalize S9 x bt (mapO x out) (L81 x bt) (tabO x out) (canO x out) = σ3 at *
  generalize S9' x bt (mapO x out) (L81 x bt) (tabO x out) (canO x out) = σ4 at *
  simp only [L81] at r1
  simp only [zero44, zeros, List.cons_append, List.nil_append] at hfill hst2 hld2 hst3
  rw [hpp] at hldp
  rw [openV]
  rw [call_run comp81 (Nat.le_of_ble_eq_true rfl)]
  simp (maxSteps := 10000000) [-List.getD_eq_getElem?_getD, -loadA, -storeA, -cut, -boxA, code81, OB.av, hbox, hld0, hldp, hldf, hfill, hst2, hld2, hst3, hld44, hfl, keep81_0, keep81_1, keep81_4, keep81_7, keep81_8, l0, l1, f108, r1, l4, l7, l8, hle, hse, hret, hpur]
end Go.Ai

set_option maxRecDepth 100000
namespace Go.Ai
open Go.Organ (T4 F3 PM addB Tb flat BOk builtM townB forkB tuneB bds kept T6 isO FOk TOk)
theorem ret2 {e : Env} {σ : St} {a b : Tmp} : retA [(a, none), (b, none)] e σ = some (.tup [gt e a, gt e b]) := rfl
theorem ret3 {e : Env} {σ : St} {a b c : Tmp} : retA [(a, none), (b, none), (c, none)] e σ = some (.tup [gt e a, gt e b, gt e c]) := rfl
theorem retc2 {e : Env} {σ : St} {a b : Tmp} {n : Option Nat} : retA [(a, some n), (b, none)] e σ = (loadA σ n (gt e a)).map fun v => .tup [v, gt e b] := by
  unfold retA
  rw [rets_cell, rets_val, rets_nil]
  cases loadA σ n (gt e a) <;> rfl
def noF : Nat → Bool := fun _ => false
structure C44 (C : List AV) : Prop where
  len : C.length = 44
  cell : C.all AV.isCell = true
  pur : ∀ σ n, pur σ (n + 2) (.agg C) = some (.agg C, false)
theorem C44.part {C : List AV} (h : C44 C) : partA (some 44) C 0 = some (.agg C) := by
  simp only [partA, h.len, Nat.zero_add, Nat.le_refl, if_true, List.drop_zero]
  rw [List.take_of_length_le (by rw [h.len]; omega)]
theorem C44.set {C Z : List AV} (h : C44 C) (hZ : Z.length = 44) : setAt Z 0 C = C := by
  simp only [setAt, h.len, Nat.zero_add, List.take_zero, List.nil_append]
  rw [List.drop_of_length_le (by omega), List.append_nil]
theorem openC_44 (x : OB) (hx : x.Ok) (l : PM) (m : Tb) (is : Bool) : C44 (openC x l m is) where
  len := rfl
  cell := by
    simp only [openC, List.all_append, xcells_cell x hx, flatA_cell, List.all_cons, List.all_nil, isCell_mapv, isCell_bool, Bool.and_self]
  pur σ n := by
    have h1 := xcells_pur x hx σ n
    have h2 : purAll (Ai.pur σ (n + 1)) [.mapv (ksM l) (vsM l)] = some ([.mapv (ksM l) (vsM l)], false) := rfl
    have h3 := flatA_pur m σ n
    have h4 : purAll (Ai.pur σ (n + 1)) [.bool is] = some ([.bool is], false) := rfl
    have h := purAll_app _ _ _ _ _ _ _ h1 (purAll_app _ _ _ _ _ _ _ (purAll_app _ _ _ _ _ _ _ h2 h3) h4)
    rw [pu_agg]
    show (purAll (Ai.pur σ (n + 1)) (x.cells ++ ([.mapv (ksM l) (vsM l)] ++ flatA m ++ [.bool is]))).bind _ = _
    rw [h]
    rfl
theorem zero_44 : C44 zero44 where
  len := rfl
  cell := rfl
  pur σ n := rfl
theorem but_nil (m : Nat) : But .nils noF m where
  cell := rfl
  cells := rfl
  under _ _ _ _ _ := rfl
  pur _ _ := rfl
  call k _ := by
    rw [Vc.contains_call [] .nils (by simp) (.inl ⟨rfl, rfl⟩) k]
    rfl
theorem opened0 (x : OB) (hx : x.Ok) (hc : Chk x) : call Cv 81 [x.av, .nils] = some (.agg (openC x (mapO x noF) (tabO x noF) (canO x noF))) := opened_call x hx hc.toChk0 .nils noF (but_nil _)
def trueO (x : OB) : Bool := Vc.fine x.voice [] && canO x noF
theorem av_pur (x : OB) (hx : x.Ok) (σ : St) (n : Nat) : pur σ (n + 2) x.av = some (x.av, false) := by
  rw [OB.av, pu_agg, xcells_pur x hx]; rfl
set_option maxHeartbeats 1000000 in
theorem isTrue_call (x : OB) (hx : x.Ok) (hc : Chk x) : call Cv 57 [x.av] = some (.bool (trueO x)) := by
  have h1 := Vc.Right_call x.voice hx.voice
  rw [voice_av, hc.voice] at h1
  have h2 := opened0 x hx hc
  have hcl := xcells_cell x hx
  have hp := av_pur x hx
  have hv : ∀ B, loadA { boxes := x.cells :: B } (some 3) (.box 0 3) = some (.agg [x.br, I x.voice.weeks, x.vr]) := fun _ => rfl
  have h6 : ∀ B, loadA { boxes := x.cells :: B } (some 6) (.box 0 0) = some x.av := fun _ => rfl
  have hvp : ∀ σ n, pur σ (n + 2) (.agg [x.br, I x.voice.weeks, x.vr]) = some (.agg [x.br, I x.voice.weeks, x.vr], false) := fun σ n => by
    rw [pu_agg]; simp only [pa_cons, pa_nil, br_pur, vr_pur, pu_int, Option.bind_some, Bool.or_self]
  have hf : fldA none (.agg (openC x (mapO x noF) (tabO x noF) (canO x noF))) 43 = some (.bool (canO x noF)) := rfl
  have hbox : boxA {} x.av = some (.box 0 0, { boxes := [x.cells] }) := by
    simp only [boxA, OB.av, AV.cells, hcl, if_true]; rfl
  generalize openC x (mapO x noF) (tabO x noF) (canO x noF) = C at *
  simp only [trueO]
  rw [call_run comp57 (Nat.le_of_ble_eq_true rfl)]
  cases hb : Vc.fine x.voice [] with
  | false =>
    rw [hb] at h1
    simp only [Bool.and_false, if_true] at h1
    simp (maxSteps := 10000000) [-List.getD_eq_getElem?_getD, -loadA, -boxA, -fldA, code57, hbox, hv, hvp, h1]
  | true =>
    rw [hb] at h1
    simp only [Bool.and_true, if_true] at h1
    simp (maxSteps := 10000000) [-List.getD_eq_getElem?_getD, -loadA, -boxA, -fldA, code57, hbox, hv, hvp, h1, h6, hp, h2, hf]
def askE (x : OB) (is : Bool) : Int := if checkOk x = false then 80 else if is = false then 81 else if trueO x = false then 82 else 0
def askC (x : OB) (is : Bool) : List AV := if askE x is = 0 then openC x (mapO x noF) (tabO x noF) (canO x noF) else zero44
theorem askC_44 (x : OB) (hx : x.Ok) (is : Bool) : C44 (askC x is) := by
  unfold askC
  split
  · exact openC_44 x hx _ _ _
  · exact zero_44
set_option maxHeartbeats 1000000 in
theorem asked_call (x : OB) (hx : x.Ok) (is : Bool) : call Cv 67 [x.av, .bool is] = some (.tup [.agg (askC x is), I (askE x is)]) := by
  have h1 := check_call x hx
  have hcl := xcells_cell x hx
  have hp := av_pur x hx
  have h6 : ∀ B, loadA { boxes := x.cells :: B } (some 6) (.box 0 0) = some x.av := fun _ => rfl
  have hbox : boxA {} x.av = some (.box 0 0, { boxes := [x.cells] }) := by
    simp only [boxA, OB.av, AV.cells, hcl, if_true]; rfl
  have hst : ∀ C : List AV, C44 C → storeA { boxes := [x.cells, zero44] } 44 (.box 1 0) (.agg C) = some { boxes := [x.cells, C] } := fun C hC => by
    have h2 : storeA { boxes := [x.cells, zero44] } 44 (.box 1 0) (.agg C) = if 0 ≤ 1 ∧ C.length = 44 ∧ 0 + 44 ≤ zero44.length ∧ C.all AV.isCell = true then some { boxes := [x.cells, setAt zero44 0 C] } else none := rfl
    rw [h2, if_pos ⟨by omega, hC.len, by decide, hC.cell⟩, hC.set rfl]
  have hst0 := hst zero44 zero_44
  have hf0 : fillA [] zero44 = some zero44 := rfl
  have hl0 : ∀ C : List AV, C44 C → loadA { boxes := [x.cells, C] } (some 44) (.box 1 0) = some (.agg C) := fun C hC => hC.part
  have hl00 := hl0 zero44 zero_44
  have hz : ∀ σ n, pur σ (n + 2) (.agg zero44) = some (.agg zero44, false) := zero_44.pur
  simp only [zero44, zeros, List.cons_append, List.nil_append] at hst0 hf0 hl00 hz
  cases hc : checkOk x with
  | false =>
    rw [hc] at h1
    have e1 : askE x is = 80 := by simp [askE, hc]
    have e2 : askC x is = zero44 := by simp [askC, e1]
    simp only [Bool.false_eq_true, if_false] at h1
    rw [e1, e2]
    simp only [zero44, zeros, List.cons_append, List.nil_append]
    rw [call_run comp67 (Nat.le_of_ble_eq_true rfl)]
    simp (maxSteps := 10000000) [-List.getD_eq_getElem?_getD, ret2, retc2, -loadA, -storeA, -boxA, code67, hbox, h6, hp, h1, hf0, hst0, hl00, hz]
  | true =>
    rw [hc] at h1
    simp only [if_true] at h1
    have hch := (chk_iff x).1 hc
    cases is with
    | false =>
      have e1 : askE x false = 81 := by simp [askE, hc]
      have e2 : askC x false = zero44 := by simp [askC, e1]
      rw [e1, e2]
      simp only [zero44, zeros, List.cons_append, List.nil_append]
      rw [call_run comp67 (Nat.le_of_ble_eq_true rfl)]
      simp (maxSteps := 10000000) [-List.getD_eq_getElem?_getD, ret2, retc2, -loadA, -storeA, -boxA, code67, hbox, h6, hp, h1, hf0, hst0, hl00, hz]
    | true =>
      have h2 := isTrue_call x hx hch
      cases ht : trueO x with
      | false =>
        rw [ht] at h2
        have e1 : askE x true = 82 := by simp [askE, hc, ht]
        have e2 : askC x true = zero44 := by simp [askC, e1]
        rw [e1, e2]
        simp only [zero44, zeros, List.cons_append, List.nil_append]
        rw [call_run comp67 (Nat.le_of_ble_eq_true rfl)]
        simp (maxSteps := 10000000) [-List.getD_eq_getElem?_getD, ret2, retc2, -loadA, -storeA, -boxA, code67, hbox, h6, hp, h1, h2, hf0, hst0, hl00, hz]
      | true =>
        rw [ht] at h2
        have h3 := opened0 x hx hch
        have e1 : askE x true = 0 := by simp [askE, hc, ht]
        have e2 : askC x true = openC x (mapO x noF) (tabO x noF) (canO x noF) := by simp [askC, e1]
        have h44 := openC_44 x hx (mapO x noF) (tabO x noF) (canO x noF)
        have hs := hst _ h44
        have hl := hl0 _ h44
        have hpu := h44.pur
        rw [e1, e2]
        generalize openC x (mapO x noF) (tabO x noF) (canO x noF) = C at *
        simp only [zero44, zeros, List.cons_append, List.nil_append] at hs
        rw [call_run comp67 (Nat.le_of_ble_eq_true rfl)]
        simp (maxSteps := 10000000) [-List.getD_eq_getElem?_getD, ret2, retc2, -loadA, -storeA, -boxA, code67, hbox, h6, hp, h1, h2, h3, hs, hl, hpu]
def rightE (x : OB) : Int := if checkOk x then 0 else 80
def rightB (x : OB) : Bool := checkOk x && trueO x
theorem Right_call (x : OB) (hx : x.Ok) : call Cv 15 [x.av] = some (.tup [.bool (rightB x), I (rightE x)]) := by
  have h1 := check_call x hx
  have hcl := xcells_cell x hx
  have hp := av_pur x hx
  have h6 : ∀ B, loadA { boxes := x.cells :: B } (some 6) (.box 0 0) = some x.av := fun _ => rfl
  have hbox : boxA {} x.av = some (.box 0 0, { boxes := [x.cells] }) := by
    simp only [boxA, OB.av, AV.cells, hcl, if_true]; rfl
  simp only [rightB, rightE]
  cases hc : checkOk x with
  | false =>
    rw [hc] at h1
    simp only [Bool.false_eq_true, if_false] at h1
    rw [call_run comp15 (Nat.le_of_ble_eq_true rfl)]
    simp (maxSteps := 10000000) [-List.getD_eq_getElem?_getD, ret2, ret3, retc2, -loadA, -boxA, code15, hbox, h6, hp, h1]
  | true =>
    rw [hc] at h1
    simp only [if_true] at h1
    have h2 := isTrue_call x hx ((chk_iff x).1 hc)
    rw [call_run comp15 (Nat.le_of_ble_eq_true rfl)]
    simp (maxSteps := 10000000) [-List.getD_eq_getElem?_getD, ret2, ret3, retc2, -loadA, -boxA, code15, hbox, h6, hp, h1, h2]
end Go.Ai

set_option maxRecDepth 100000
namespace Go.Ai
open Go.Organ (T4 F3 PM addB Tb flat BOk tuneB bds kept T6 isO FOk TOk)
theorem part_none (l : List AV) (off : Nat) : partA none l off = l[off]? := rfl
theorem part_two (a b : AV) : partA (some 2) [a, b] 0 = some (.agg [a, b]) := rfl
theorem part_x (x : OB) : partA (some 6) x.cells 0 = some x.av := rfl
theorem fill_two : fillA [] [I 0, I 0] = some [I 0, I 0] := rfl
theorem fill_span (a b : Int) : fillA [(0, 1, I a), (1, 1, I b)] [I 0, I 0] = some [I a, I b] := rfl
theorem set_two (a b c d : AV) : setAt [a, b] 0 [c, d] = [c, d] := rfl
structure Tab (C : List AV) (m : Tb) : Prop where
  c : C44 C
  get : ∀ i k, i < 6 → k < 6 → C[7 + 6 * i + k]? = some (I (m i k))
theorem openC_get (x : OB) (l : PM) (m : Tb) (is : Bool) {i k : Nat} (hi : i < 6) (hk : k < 6) : (openC x l m is)[7 + 6 * i + k]? = some (I (m i k)) := by
  have : openC x l m is = (x.cells ++ [.mapv (ksM l) (vsM l)]) ++ (flatA m ++ [.bool is]) := by simp [openC]
  rw [this, List.getElem?_append_right (by simp [OB.cells]; omega), List.getElem?_append_left (by rw [flatA_len]; simp [OB.cells]; omega)]
  rw [show 7 + 6 * i + k - (x.cells ++ [AV.mapv (ksM l) (vsM l)]).length = 6 * i + k from by simp [OB.cells]; omega, flatA_get m hi hk]
theorem open_tab (x : OB) (hx : x.Ok) (l : PM) (m : Tb) (is : Bool) : Tab (openC x l m is) m := ⟨openC_44 x hx l m is, fun i k hi hk => openC_get x l m is hi hk⟩
theorem ixaB (b : Nat) {i : Nat} (hi : i < 6) : ixaA 6 6 (.box b 7) (I i) = some (.box b (7 + 6 * i)) := by
  have : (i : Int) < 6 := by omega
  simp [ixaA, this, ptrAdd]; omega
theorem ixbB (b : Nat) {i k : Nat} (hk : k < 6) : ixaA 6 1 (.box b (7 + 6 * i)) (I k) = some (.box b (7 + 6 * i + k)) := by
  have : (k : Int) < 6 := by omega
  simp [ixaA, this, ptrAdd]
theorem low_call {C : List AV} {m : Tb} (h : Tab C m) {i k : Nat} (hi : i < 6) (hk : k < 6) (hw : IntKind.wrap .i64 (-m k i) = -m k i) : call Cv 149 [.agg C, .agg [I i, I k]] = some (I (-m k i)) := by
  have hc := h.c.cell
  have g1 := h.get k i hk hi
  have i1 := ixaB 0 hk
  have i2 := fun j => ixbB 0 (i := j) hi
  rw [call_run comp149 (Nat.le_of_ble_eq_true rfl)]
  simp (maxSteps := 10000000) [-List.getD_eq_getElem?_getD, -ixaA, -List.all_eq_true, code149, hc, g1, i1, i2, hw]
theorem high_call {C : List AV} {m : Tb} (h : Tab C m) {i k : Nat} (hi : i < 6) (hk : k < 6) : call Cv 150 [.agg C, .agg [I i, I k]] = some (I (m i k)) := by
  have hc := h.c.cell
  have g1 := h.get i k hi hk
  have i1 := ixaB 0 hi
  have i2 := fun j => ixbB 0 (i := j) hk
  rw [call_run comp150 (Nat.le_of_ble_eq_true rfl)]
  simp (maxSteps := 10000000) [-List.getD_eq_getElem?_getD, -ixaA, -List.all_eq_true, code150, hc, g1, i1, i2]
theorem apart_call {C : List AV} {m : Tb} (h : Tab C m) {i k : Nat} (hi : i < 6) (hk : k < 6) (hw : IntKind.wrap .i64 (-m k i) = -m k i) : call Cv 69 [.agg C, .agg [I i, I k]] = some (.agg [I (-m k i), I (m i k)]) := by
  have hc := h.c.cell
  have hp := h.c.part
  have hpu := h.c.pur
  have h1 := low_call h hi hk hw
  have h2 := high_call h hi hk
  have hst6 : ∀ v, still Cv (.tmp 6) v = stillV Cv v := fun _ => rfl
  have hst11 : ∀ v, still Cv (.tmp 11) v = stillV Cv v := fun _ => rfl
  have t1 : stillV Cv (.fn (.func 149) [] []) = true := rfl
  have t2 : stillV Cv (.fn (.func 150) [] []) = true := rfl
  have hx0 : ixaA 2 1 (.rp [.fn (.func 149) [] [], .fn (.func 150) [] []] 0) (I 0) = some (.rp [.fn (.func 149) [] [], .fn (.func 150) [] []] 0) := rfl
  have hx1 : ixaA 2 1 (.rp [.fn (.func 149) [] [], .fn (.func 150) [] []] 0) (I 1) = some (.rp [.fn (.func 149) [] [], .fn (.func 150) [] []] 1) := rfl
  rw [call_run comp69 (Nat.le_of_ble_eq_true rfl)]
  simp (maxSteps := 10000000) [-List.getD_eq_getElem?_getD, -partA, part_none, part_two, fill_span, set_two, -List.all_eq_true, -ixaA, code69, hc, hp, hpu, h1, h2, hst6, hst11, t1, t2, hx0, hx1]

def twoV (x : OB) (is : Bool) (i k : Nat) : AV := if askE x is = 0 then .agg [I (-tabO x noF k i), I (tabO x noF i k)] else .agg [I 0, I 0]
theorem ask_zero {x : OB} {is : Bool} (h : askE x is = 0) : Chk x ∧ is = true ∧ trueO x = true := by
  unfold askE at h
  split at h
  · cases h
  · split at h
    · cases h
    · split at h
      · cases h
      · rename_i h1 h2 h3
        exact ⟨(chk_iff x).1 (by simpa using h1), by simpa using h2, by simpa using h3⟩
theorem kept_noF (ts : List T4) (k : Nat) : kept noF ts k = ts := kept_none ts k
theorem true_can {x : OB} (h : trueO x = true) : isO x.N x.forks x.tunes = true := by
  simp only [trueO, Bool.and_eq_true] at h
  have := h.2
  rw [canO, kept_noF] at this
  exact this
theorem tab0 (x : OB) : tabO x noF = T6 x.N x.forks x.tunes := by rw [tabO, kept_noF]
theorem real_lt {x : OB} (hc : Chk x) {i : Nat} (hi : Organ.Real x.N i) : i < 6 := by
  have := hc.b.five
  unfold Organ.Real at hi
  omega
theorem tab_near {x : OB} (hc : Chk x) (ht : trueO x = true) {i k : Nat} (hi : Organ.Real x.N i) (hk : Organ.Real x.N k) : -120 ≤ tabO x noF i k ∧ tabO x noF i k ≤ 120 := by
  rw [tab0]
  have := Organ.T6_near hc.b (true_can ht) hi hk
  exact ⟨this.1, this.2.1⟩
theorem askC_tab {x : OB} (hx : x.Ok) {is : Bool} (h : askE x is = 0) : Tab (askC x is) (tabO x noF) := by
  rw [askC, if_pos h]
  exact open_tab x hx _ _ _
theorem st44 {A R : List AV} {C : List AV} (h : C44 C) : storeA { boxes := [A, R, zero44] } 44 (.box 2 0) (.agg C) = some { boxes := [A, R, C] } := by
  have h2 : storeA { boxes := [A, R, zero44] } 44 (.box 2 0) (.agg C) = if 0 ≤ 2 ∧ C.length = 44 ∧ 0 + 44 ≤ zero44.length ∧ C.all AV.isCell = true then some { boxes := [A, R, setAt zero44 0 C] } else none := rfl
  rw [h2, if_pos ⟨by omega, h.len, by decide, h.cell⟩, h.set rfl]
theorem askE_is {x : OB} {is : Bool} : (askE x is == 0) = decide (askE x is = 0) := rfl
set_option maxHeartbeats 1000000 in
theorem Pitch_call (x : OB) (hx : x.Ok) (p : Int) : call Cv 19 [x.av, I p] = some (.tup [twoV x (isPipe x p) 5 p.toNat, I (askE x (isPipe x p))]) := by
  have h1 := asked_call x hx (isPipe x p)
  have h2 := isPipe_call x hx p
  have hcl := xcells_cell x hx
  have hp := av_pur x hx
  have h6 : ∀ B, loadA { boxes := x.cells :: B } (some 6) (.box 0 0) = some x.av := fun _ => rfl
  have hbox : boxA {} x.av = some (.box 0 0, { boxes := [x.cells] }) := by
    simp only [boxA, OB.av, AV.cells, hcl, if_true]; rfl
  have h44 := askC_44 x hx (isPipe x p)
  have hst := h44.set (Z := zero44) rfl
  have hlen := h44.len
  have hcell := h44.cell
  simp only [zero44, zeros, List.cons_append, List.nil_append] at hst
  unfold twoV
  by_cases h0 : askE x (isPipe x p) = 0
  · obtain ⟨hc, hi, ht⟩ := ask_zero h0
    have hi' := (isPipe_iff hc.p).1 hi
    have hr : Organ.Real x.N p.toNat := .inl (by omega)
    have ep : ((p.toNat : Nat) : Int) = p := by omega
    have hn := tab_near hc ht hr (.inr rfl : Organ.Real x.N 5)
    have ha := apart_call (askC_tab hx h0) (show 5 < 6 by omega) (real_lt hc hr) (wrap_small (by omega) (by omega))
    rw [ep] at ha
    have e5 : ((5 : Nat) : Int) = 5 := rfl
    rw [e5] at ha
    have hC := h44.part
    have hCp := h44.pur
    rw [h0] at h1 ⊢
    rw [hi] at h1 h2 hst ha hC hCp hlen hcell
    generalize askC x true = C at *
    simp only [if_true]
    rw [call_run comp19 (Nat.le_of_ble_eq_true rfl)]
    simp (maxSteps := 10000000) [-List.getD_eq_getElem?_getD, ret2, retc2, -partA, -setAt, -List.all_eq_true, hlen, hcell, part_none, part_two, part_x, fill_two, fill_span, set_two, -boxA, code19, hbox, h6, hp, h1, h2, hst, still, hC, hCp, ha]
  · generalize askE x (isPipe x p) = e at *
    have h0' : (e == 0) = false := by simpa using h0
    generalize askC x (isPipe x p) = C at *
    simp only [h0, if_false]
    rw [call_run comp19 (Nat.le_of_ble_eq_true rfl)]
    simp (maxSteps := 10000000) [-List.getD_eq_getElem?_getD, ret2, retc2, -partA, -setAt, -List.all_eq_true, hlen, hcell, part_none, part_two, part_x, fill_two, fill_span, set_two, -boxA, code19, hbox, h6, hp, h1, h2, hst, still, h0, h0']
end Go.Ai

set_option maxRecDepth 100000
namespace Go.Ai
open Go.Organ (T4 F3 PM addB Tb flat BOk tuneB bds kept T6 isO FOk TOk loF hiF loS hiS shL shH)
set_option maxHeartbeats 2000000 in
theorem Apart_call (x : OB) (hx : x.Ok) (p q : Int) : call Cv 21 [x.av, I p, I q] = some (.tup [twoV x (isPipe x p && isPipe x q) p.toNat q.toNat, I (askE x (isPipe x p && isPipe x q))]) := by
  have h1 := asked_call x hx (isPipe x p && isPipe x q)
  have h2 := isPipe_call x hx p
  have h3 := isPipe_call x hx q
  have hcl := xcells_cell x hx
  have hp := av_pur x hx
  have hbox : boxA {} x.av = some (.box 0 0, { boxes := [x.cells] }) := by
    simp only [boxA, OB.av, AV.cells, hcl, if_true]; rfl
  have h44 := askC_44 x hx (isPipe x p && isPipe x q)
  have hst := h44.set (Z := zero44) rfl
  have hlen := h44.len
  have hcell := h44.cell
  simp only [zero44, zeros, List.cons_append, List.nil_append] at hst
  unfold twoV
  by_cases h0 : askE x (isPipe x p && isPipe x q) = 0
  · obtain ⟨hc, hi, ht⟩ := ask_zero h0
    have hia := hi
    simp only [Bool.and_eq_true] at hi
    have hi1 := (isPipe_iff hc.p).1 hi.1
    have hi2 := (isPipe_iff hc.p).1 hi.2
    have hr1 : Organ.Real x.N p.toNat := .inl (by omega)
    have hr2 : Organ.Real x.N q.toNat := .inl (by omega)
    have ep : ((p.toNat : Nat) : Int) = p := by omega
    have eq : ((q.toNat : Nat) : Int) = q := by omega
    have hn := tab_near hc ht hr2 hr1
    have ha := apart_call (askC_tab hx h0) (real_lt hc hr1) (real_lt hc hr2) (wrap_small (by omega) (by omega))
    rw [ep, eq] at ha
    have hC := h44.part
    have hCp := h44.pur
    rw [h0] at h1 ⊢
    rw [hi.1] at h2
    rw [hi.2] at h3
    rw [hia] at h1 hst ha hC hCp hlen hcell
    generalize askC x true = C at *
    simp only [if_true]
    rw [call_run comp21 (Nat.le_of_ble_eq_true rfl)]
    simp (maxSteps := 10000000) [-List.getD_eq_getElem?_getD, ret2, retc2, -partA, -setAt, -List.all_eq_true, hlen, hcell, part_none, part_two, part_x, fill_two, fill_span, set_two, -boxA, code21, hbox, hp, h1, h2, h3, hst, still, hC, hCp, ha]
  · generalize askE x (isPipe x p && isPipe x q) = e at *
    have h0' : (e == 0) = false := by simpa using h0
    generalize askC x (isPipe x p && isPipe x q) = C at *
    simp only [h0, if_false]
    generalize isPipe x p = b1 at *
    generalize isPipe x q = b2 at *
    rw [call_run comp21 (Nat.le_of_ble_eq_true rfl)]
    cases b1 <;> simp only [Bool.false_and, Bool.true_and] at h1 <;>
      simp (maxSteps := 10000000) [-List.getD_eq_getElem?_getD, ret2, retc2, -partA, -setAt, -List.all_eq_true, hlen, hcell, part_none, part_two, part_x, fill_two, fill_span, set_two, -boxA, code21, hbox, hp, h1, h2, h3, hst, still, h0, h0']
def head72 (N p : Int) : Env := mkE 44 .any [(12, I p), (11, I N), (3, .box 2 0), (2, .box 1 0), (1, .box 0 0)]
def st72 (C : List AV) (a b : Int) : St := { boxes := [C, [I 0, I 0], [I a, I b]] }
theorem loop72 (C : List AV) (m : Tb) (h : Tab C m) (hu : ∀ a b c d n, C.all (under a b c d (n + 2)) = true) (N : Nat) (hN : N ≤ 5) (hb : ∀ p, p < N → -1000 ≤ m p 5 ∧ m p 5 ≤ 1000) : ∀ (n p : Nat) (a b : Int), p + n = N →
    run Cv 72 (.loop keep72_0 body72_0) (head72 N p) (st72 C a b) = some (.ex 0, mkE 44 .any [(13, .bool false), (12, I N), (11, I N), (3, .box 2 0), (2, .box 1 0), (1, .box 0 0)], st72 C (loF m a (List.range' p n)) (hiF m b (List.range' p n)))
  | 0, p, a, b, hp => by
    obtain rfl : p = N := by omega
    rw [run_loop]
    simp (maxSteps := 10000000) [-List.getD_eq_getElem?_getD, body72_0, keep72_0, head72]
    rfl
  | n + 1, p, a, b, hp => by
    have hlt : (p : Int) < (N : Int) := by omega
    have hw : IntKind.wrap .i64 ((p : Int) + 1) = ((p + 1 : Nat) : Int) := by rw [wrap_small (by omega) (by omega)]; rfl
    have hbp := hb p (by omega)
    have ha := apart_call h (show 5 < 6 by omega) (show p < 6 by omega) (wrap_small (by omega) (by omega))
    have e5 : ((5 : Nat) : Int) = 5 := rfl
    rw [e5] at ha
    have hC := h.c.part
    have hCp := h.c.pur
    have hle := least_call a (-m p 5)
    have hf1 : ∀ v, fillE 1 false [(0, I v)] [I 0] = some [I v] := fun _ => rfl
    have hst : ∀ v, still Cv (.cst (.fn (.func 101) [] [])) v = true := fun _ => rfl
    have hmx := fold_max b (m 5 p)
    have hcu := fun a b c d => hu a b c d 4
    have key : run Cv 72 (.loop keep72_0 body72_0) (head72 N p) (st72 C a b) = run Cv 72 (.loop keep72_0 body72_0) (head72 N ((p + 1 : Nat) : Int)) (st72 C (min a (-m p 5)) (max b (m 5 p))) := by
      rw [run_loop]
      generalize MC.loop keep72_0 body72_0 = L
      simp (maxSteps := 10000000) [-List.getD_eq_getElem?_getD, -partA, -setAt, -List.all_eq_true, part_none, part_two, fill_span, set_two, body72_0, keep72_0, head72, st72, hlt, hw, ha, hC, hCp, hle, hf1, hst, hmx, hcu]
    rw [key, List.range'_succ]
    exact loop72 C m h hu N hN hb n (p + 1) _ _ (by omega)
theorem openC_under (x : OB) (hx : x.Ok) (l : PM) (m : Tb) (is : Bool) (a b c d n : Nat) : (openC x l m is).all (under a b c d (n + 2)) = true := by
  have u1 := hx.trow.under a b c d (n + 1)
  have u2 := hx.frow.under a b c d (n + 1)
  have u3 := br_under x a b c d (n + 1)
  have u4 := vr_under x a b c d (n + 1)
  have u5 := flatA_under m a b c d (n + 1)
  simp only [openC, OB.cells, List.cons_append, List.nil_append, List.all_cons, List.all_nil, List.all_append, u1, u2, u3, u4, u5, un_int, un_mapv, un_bool, Bool.and_self]
theorem sharp_call (x : OB) (hx : x.Ok) (hc : Chk x) (ht : trueO x = true) : call Cv 72 [.agg (openC x (mapO x noF) (tabO x noF) (canO x noF))] = some (.agg [I (shL (tabO x noF) x.N), I (shH (tabO x noF) x.N)]) := by
  have hT := open_tab x hx (mapO x noF) (tabO x noF) (canO x noF)
  have hu := openC_under x hx (mapO x noF) (tabO x noF) (canO x noF)
  have hN := hc.b.five
  have h1 := hc.b.one
  have hr0 : Organ.Real x.N 0 := .inl h1
  have hb : ∀ p, p < x.N → -1000 ≤ tabO x noF p 5 ∧ tabO x noF p 5 ≤ 1000 := fun p hp => by
    have := tab_near hc ht (.inl hp : Organ.Real x.N p) (.inr rfl : Organ.Real x.N 5)
    omega
  have hl := fun E (hE : mask keep72_0 E = _) => run_at (loop72 _ _ hT hu x.N hN hb x.N 0 (-tabO x noF 0 5) (tabO x noF 5 0) (by omega)) hE
  have hn0 := hb 0 h1
  have ha := apart_call hT (show 5 < 6 by omega) (show 0 < 6 by omega) (wrap_small (by omega) (by omega))
  have e5 : ((5 : Nat) : Int) = 5 := rfl
  have e0 : ((0 : Nat) : Int) = 0 := rfl
  rw [e5, e0] at ha
  have hcell := hT.c.cell
  have hC := hT.c.part
  have hCp := hT.c.pur
  have h0 : (openC x (mapO x noF) (tabO x noF) (canO x noF))[0]? = some (I x.N) := by
    rw [← hc.pipes]; rfl
  have hne := Organ.sh_near hc.b (true_can ht)
  rw [← tab0] at hne
  obtain ⟨n1, n2, n3⟩ := hne
  have w1 : IntKind.wrap .i64 (loS (tabO x noF) x.N + 60) = loS (tabO x noF) x.N + 60 := wrap_small (by omega) (by omega)
  have w2 : IntKind.wrap .i64 (hiS (tabO x noF) x.N + 60) = hiS (tabO x noF) x.N + 60 := wrap_small (by omega) (by omega)
  have w3 : IntKind.wrap .i64 (hiS (tabO x noF) x.N + 60 + 9) = hiS (tabO x noF) x.N + 60 + 9 := wrap_small (by omega) (by omega)
  have t1 : (loS (tabO x noF) x.N + 60).tdiv 10 = (loS (tabO x noF) x.N + 60) / 10 := Int.tdiv_eq_ediv_of_nonneg (by omega)
  have t2 : (hiS (tabO x noF) x.N + 60 + 9).tdiv 10 = (hiS (tabO x noF) x.N + 60 + 9) / 10 := Int.tdiv_eq_ediv_of_nonneg (by omega)
  have w4 : IntKind.wrap .i64 ((loS (tabO x noF) x.N + 60) / 10) = (loS (tabO x noF) x.N + 60) / 10 := wrap_small (by omega) (by omega)
  have w5 : IntKind.wrap .i64 ((hiS (tabO x noF) x.N + 60 + 9) / 10) = (hiS (tabO x noF) x.N + 60 + 9) / 10 := wrap_small (by omega) (by omega)
  have w6 : IntKind.wrap .i64 ((loS (tabO x noF) x.N + 60) / 10 - 6) = shL (tabO x noF) x.N := by
    rw [wrap_small (by omega) (by omega)]; unfold shL; omega
  have w7 : IntKind.wrap .i64 ((hiS (tabO x noF) x.N + 60 + 9) / 10 - 6) = shH (tabO x noF) x.N := by
    rw [wrap_small (by omega) (by omega)]; unfold shH; omega
  change (∀ E, mask keep72_0 E = _ → run Cv 72 (.loop keep72_0 body72_0) E (st72 _ _ _) = some (.ex 0, mkE 44 .any _, st72 _ (loS (tabO x noF) x.N) (hiS (tabO x noF) x.N))) at hl
  simp only [keep72_0, head72, st72, e0] at hl
  generalize openC x (mapO x noF) (tabO x noF) (canO x noF) = C at *
  generalize loS (tabO x noF) x.N = lo at *
  generalize hiS (tabO x noF) x.N = hi at *
  rw [call_run comp72 (Nat.le_of_ble_eq_true rfl)]
  simp (maxSteps := 10000000) [-List.getD_eq_getElem?_getD, -partA, -setAt, -List.all_eq_true, part_none, part_two, fill_span, set_two, code72, keep72_0, hcell, hC, hCp, ha, h0, hl, w1, w2, w3, t1, t2, w4, w5, w6, w7]
def sharpV (x : OB) : AV := if askE x true = 0 then .agg [I (shL (tabO x noF) x.N), I (shH (tabO x noF) x.N)] else .agg [I 0, I 0]
theorem Sharp_call (x : OB) (hx : x.Ok) : call Cv 23 [x.av] = some (.tup [sharpV x, I (askE x true)]) := by
  have h1 := asked_call x hx true
  have hcl := xcells_cell x hx
  have hp := av_pur x hx
  have hbox : boxA {} x.av = some (.box 0 0, { boxes := [x.cells] }) := by
    simp only [boxA, OB.av, AV.cells, hcl, if_true]; rfl
  have h44 := askC_44 x hx true
  have hst := h44.set (Z := zero44) rfl
  have hlen := h44.len
  have hcell := h44.cell
  simp only [zero44, zeros, List.cons_append, List.nil_append] at hst
  unfold sharpV
  by_cases h0 : askE x true = 0
  · obtain ⟨hc, hi, ht⟩ := ask_zero h0
    have ha := sharp_call x hx hc ht
    have e1 : askC x true = openC x (mapO x noF) (tabO x noF) (canO x noF) := by rw [askC, if_pos h0]
    rw [← e1] at ha
    have hC := h44.part
    have hCp := h44.pur
    rw [h0] at h1 ⊢
    generalize askC x true = C at *
    simp only [if_true]
    rw [call_run comp23 (Nat.le_of_ble_eq_true rfl)]
    simp (maxSteps := 10000000) [-List.getD_eq_getElem?_getD, ret2, retc2, -partA, -setAt, -List.all_eq_true, hlen, hcell, part_none, part_two, part_x, fill_two, fill_span, set_two, -boxA, code23, hbox, hp, h1, hst, hC, hCp, ha]
  · generalize askE x true = e at *
    have h0' : (e == 0) = false := by simpa using h0
    generalize askC x true = C at *
    simp only [h0, if_false]
    rw [call_run comp23 (Nat.le_of_ble_eq_true rfl)]
    simp (maxSteps := 10000000) [-List.getD_eq_getElem?_getD, ret2, retc2, -partA, -setAt, -List.all_eq_true, hlen, hcell, part_none, part_two, part_x, fill_two, fill_span, set_two, -boxA, code23, hbox, hp, h1, hst, h0, h0']
end Go.Ai
