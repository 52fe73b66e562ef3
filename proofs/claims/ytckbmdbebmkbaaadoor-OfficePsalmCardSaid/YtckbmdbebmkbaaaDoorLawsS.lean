/- This text shows the law of psalms, in the interpreter. No conditions of its own. -/
import Derived.Test.YtckbmdbebmkbaaaDoorHelpF
import Derived.Test.YtckbmdbebmkbaaaDoorCodesL9
set_option linter.unusedSimpArgs false
set_option linter.unusedVariables false
set_option maxRecDepth 100000
namespace Go.Ai
open Go.Office (Ft Rl Us Nt Bk)
def zeroR (f : Ft) : Ft := { f with rank := 0 }
def zk (fs : List Ft) (k : Nat) : List Ft := (fs.take k).map zeroR ++ fs.drop k
theorem zk_len (fs : List Ft) (k : Nat) : (zk fs k).length = fs.length := by simp [zk]; omega
theorem zk_step (fs : List Ft) {k : Nat} (hk : k < fs.length) (h : k < (zk fs k).length) : (zk fs k).set k { (zk fs k)[k] with rank := 0 } = zk fs (k + 1) := by
  have hl : ((fs.take k).map zeroR).length = k := by simp; omega
  have e : (zk fs k)[k] = fs[k] := by
    simp only [zk]
    rw [List.getElem_append_right (by omega)]
    have e2 : k + (k - min k fs.length) = k := by omega
    simp [e2]
  rw [e]
  unfold zk
  rw [List.set_append_right _ _ (by omega), hl, Nat.sub_self, List.drop_eq_getElem_cons hk, List.set_cons_zero, List.take_succ_eq_append_getElem hk, List.map_append]
  simp [zeroR]
theorem zk_zero (fs : List Ft) : zk fs 0 = fs := by simp [zk]
theorem zk_all (fs : List Ft) : zk fs fs.length = fs.map zeroR := by simp [zk]
def pc9 (x : OB) (w : AV) : List AV := [I x.days, I x.first, w, x.q0, .bool x.g0, x.q1, .bool x.g1, .nils]
def head9 (u d k : Int) : Env := mkE 105 .any [(8, I k), (7, .box 2 0), (6, I d), (5, I u), (2, .box 0 0)]
theorem loop9 (x : OB) (hx : x.Ok) (h4 : x.fs.length ≤ 4) (A : List AV) (hA : ∀ a b c d, A.all (under a b c d 6) = true) (u d : Int) : ∀ (n k : Nat), k + n = x.fs.length →
    ∃ L, run Cv 9 (.loop keep9_0 body9_0) (head9 u d k) { boxes := [x.cells, A, pc9 x (.wsl 3 0 x.fs.length 3 true), flat (zk x.fs k)] } = some (.ex 0, mkE 105 .any L, { boxes := [x.cells, A, pc9 x (.wsl 3 0 x.fs.length 3 true), flat (zk x.fs x.fs.length)] }) ∧ gt (mkE 105 .any L) 2 = .box 0 0 ∧ gt (mkE 105 .any L) 5 = I u ∧ gt (mkE 105 .any L) 6 = I d ∧ gt (mkE 105 .any L) 7 = .box 2 0
  | 0, k, hk => by
    have hk' : k = x.fs.length := by omega
    subst hk'
    have hld : ∀ (Z Y F : List AV) w, loadA { boxes := [Z, Y, pc9 x w, F] } none (.box 2 2) = some w := fun _ _ _ _ => rfl
    have hlen : lenA (.wsl 3 0 x.fs.length 3 true) = some (I x.fs.length) := rfl
    rw [run_loop]
    simp (maxSteps := 10000000) [-List.getD_eq_getElem?_getD, -loadA, body9_0, keep9_0, head9, hld, hlen]
    exact ⟨_, rfl, by simp (maxSteps := 10000000) [-List.getD_eq_getElem?_getD, ], by simp (maxSteps := 10000000) [-List.getD_eq_getElem?_getD, ], by simp (maxSteps := 10000000) [-List.getD_eq_getElem?_getD, ], by simp (maxSteps := 10000000) [-List.getD_eq_getElem?_getD, ]⟩
  | n + 1, k, hk => by
    have hlt : k < x.fs.length := by omega
    have hlt' : (k : Int) < (x.fs.length : Int) := by omega
    have hz : k < (zk x.fs k).length := by rw [zk_len]; exact hlt
    have w1 : IntKind.wrap .i64 ((k : Int) + 1) = ((k + 1 : Nat) : Int) := by rw [wrap_small (by omega) (by omega)]; omega
    have hld : ∀ (Z Y F : List AV) w, loadA { boxes := [Z, Y, pc9 x w, F] } none (.box 2 2) = some w := fun _ _ _ _ => rfl
    have hlen : lenA (.wsl 3 0 x.fs.length 3 true) = some (I x.fs.length) := rfl
    have hix := wr_ix 3 x.fs.length hlt
    have hst := wr_store (B := [x.cells, A, pc9 x (.wsl 3 0 x.fs.length 3 true), flat (zk x.fs k)]) (P := 3) rfl hz 0
    rw [zk_step x.fs hlt hz] at hst
    have hse : [x.cells, A, pc9 x (.wsl 3 0 x.fs.length 3 true), flat (zk x.fs k)].set 3 (flat (zk x.fs (k + 1))) = [x.cells, A, pc9 x (.wsl 3 0 x.fs.length 3 true), flat (zk x.fs (k + 1))] := rfl
    rw [hse] at hst
    have hcut : ∀ (F : List AV) e, cut { boxes := [x.cells, A, pc9 x (.wsl 3 0 x.fs.length 3 true), F] } { boxes := [x.cells, A, pc9 x (.wsl 3 0 x.fs.length 3 true), flat (zk x.fs (k + 1))] } e = { boxes := [x.cells, A, pc9 x (.wsl 3 0 x.fs.length 3 true), flat (zk x.fs (k + 1))] } := fun F e => cut_size _ _ e rfl rfl rfl rfl (by simp) (by simp)
    obtain ⟨L, ih, g⟩ := loop9 x hx h4 A hA u d n (k + 1) (by omega)
    refine ⟨L, ?_, g⟩
    rw [← ih, run_loop]
    generalize MC.loop keep9_0 body9_0 = LL
    generalize ((k + 1 : Nat) : Int) = K at *
    simp (maxSteps := 10000000) [-List.getD_eq_getElem?_getD, -ixsA, -loadA, -storeA, -cut, -List.all_eq_true, body9_0, keep9_0, head9, hld, hlen, hlt', hix, hst, w1, hcut]
theorem loop9e (x : OB) (A : List AV) (u d : Int) : ∃ L, run Cv 9 (.loop keep9_0 body9_0) (head9 u d 0) { boxes := [x.cells, A, pc9 x (.sl 3 [] .full)] } = some (.ex 0, mkE 105 .any L, { boxes := [x.cells, A, pc9 x (.sl 3 [] .full)] }) ∧ gt (mkE 105 .any L) 2 = .box 0 0 ∧ gt (mkE 105 .any L) 5 = I u ∧ gt (mkE 105 .any L) 6 = I d ∧ gt (mkE 105 .any L) 7 = .box 2 0 := by
  have hld : ∀ (Z Y : List AV) w, loadA { boxes := [Z, Y, pc9 x w] } none (.box 2 2) = some w := fun _ _ _ => rfl
  have hlen : lenA (.sl 3 [] .full) = some (I 0) := rfl
  rw [run_loop]
  simp (maxSteps := 10000000) [-List.getD_eq_getElem?_getD, -loadA, body9_0, keep9_0, head9, hld, hlen]
  exact ⟨_, rfl, by simp (maxSteps := 10000000) [-List.getD_eq_getElem?_getD, ], by simp (maxSteps := 10000000) [-List.getD_eq_getElem?_getD, ], by simp (maxSteps := 10000000) [-List.getD_eq_getElem?_getD, ], by simp (maxSteps := 10000000) [-List.getD_eq_getElem?_getD, ]⟩
end Go.Ai

set_option maxRecDepth 100000
namespace Go.Ai
open Go.Office (Ft Rl Us Nt Bk allI psalms_zero chiefs_none no_notes)
theorem rk_zero {b : Bk} (h : ∀ f ∈ b.fs, f.rank = 0) (k : Nat) : b.rk k = 0 := by
  unfold Bk.rk
  rw [List.getD_eq_getElem?_getD]
  cases hk : b.fs[k]? with
  | none => rfl
  | some f => exact h f (List.mem_of_getElem? hk)
theorem feat_zero {x : OB} {f : Ft} (h : featB x f = true) : featB x (zeroR f) = true := by
  simp only [featB, Bool.and_eq_true, zeroR] at h ⊢
  exact ⟨h.1, h.2.1, h.2.2.1, by decide⟩
theorem psalm_is {y : OB} (hy : y.Ok) (hk : checkB y = true) (hn : y.ns = []) (hr : ∀ f ∈ y.fs, f.rank = 0) {u d : Nat} (hu : u < 2) (hd : (d : Int) < y.days) : ∃ r, IsRow 1 (ints [(y.first + d) % 30]) r ∧ call Cv 27 [y.av, I (u : Nat), I (d : Nat)] = some (.tup [r, I 0]) ∧ y.bk.tr ≠ [] := by
  have f := check_fine hk
  have hT : y.bk.tr ≠ [] := no_notes (fun g hg => (f.bk.fs g hg).2.1) hn
  obtain ⟨r, h1, h2⟩ := Psalm_1 hy hk hT hu hd
  rw [psalms_zero (rk_zero hr) hT hd] at h1
  exact ⟨r, h1, h2, hT⟩
theorem psalm_law (x : OB) (hx : x.Ok) (a b : Int) : call Cv 9 [x.av, .agg [I a, I b]] = some (.bool true) := by
  have hsm := sound_call x hx
  have hs := chanted_call
  have hp := av_pur hx
  have hbox := x_box hx
  have hbox2 : boxA { boxes := [x.cells] } (.agg [I a, I b]) = some (.box 1 0, { boxes := [x.cells, [I a, I b]] }) := rfl
  have l0 := x_load8 (x := x)
  have l1 := x_fr (x := x)
  have l2 := x_days (x := x)
  have l3 : ∀ E, loadA { boxes := x.cells :: E } none (.box 0 1) = some (I x.first) := fun _ => rfl
  have hl := flen hx
  cases hk : checkB x with
  | false =>
    rw [hk] at hsm
    rw [call_run comp9 (Nat.le_of_ble_eq_true rfl)]
    simp (maxSteps := 10000000) [-List.getD_eq_getElem?_getD, -boxA, -loadA, code9, hbox, hbox2, l0, hp, hsm, hs]
  | true =>
    rw [hk] at hsm
    have f := check_fine hk
    obtain ⟨d1, d6, n4⟩ := dim f
    have f0 : 0 ≤ x.first := f.bk.f0
    have f29 : x.first ≤ 29 := f.bk.f29
    obtain ⟨u, u1, t1⟩ := turn_nat a (b := 2) (by omega) (by omega)
    obtain ⟨d, e1, t2⟩ := turn_nat b (b := x.days) (by omega) (by omega)
    have u2 : u < 2 := by omega
    have g0 : ∀ Z E, loadA { boxes := Z :: [I a, I b] :: E } none (.box 1 0) = some (I a) := fun _ _ => rfl
    have g1 : ∀ Z E, loadA { boxes := Z :: [I a, I b] :: E } none (.box 1 1) = some (I b) := fun _ _ => rfl
    have w1 : IntKind.wrap .i64 (x.first + d) = x.first + d := wrap_small (by omega) (by omega)
    have hrem := rem30 (n := x.first + d) (by omega)
    -- the bare book
    obtain ⟨z, hz⟩ : ∃ z, z = x.fst [] .nils [] .nils := ⟨_, rfl⟩
    have hzo : z.Ok := by rw [hz]; exact fst_ok hx (.inl ⟨rfl, rfl⟩) (.inl ⟨rfl, rfl⟩) (by decide) (by decide)
    have hzk : checkB z = true := by rw [hz]; exact fst_check hk _ _ (by decide) (by decide) (fun _ h => by cases h) (fun _ h => by cases h)
    have hzd : z.days = x.days := by rw [hz]; rfl
    have hzf : z.first = x.first := by rw [hz]; rfl
    obtain ⟨rz, hrz, cz, hTz⟩ := psalm_is hzo hzk (by rw [hz]; rfl) (by rw [hz]; intro g hg; cases hg) u2 (d := d) (by rw [hzd]; exact e1)
    obtain ⟨qz, hqz, cq⟩ := Chief_1 hzo hzk hTz u2 (d := d) (by rw [hzd]; exact e1)
    rw [chiefs_none (b := z.bk) (by rw [hz]; rfl) hTz (by show (d : Int) < z.days; rw [hzd]; exact e1)] at hqz
    rw [hzf] at hrz
    have hzp := av_pur hzo
    have hzc : z.av = .agg (pc9 x .nils) := by rw [hz]; rfl
    have pz := hrz.pur
    have pq := hqz.pur
    have ez := equal_call [(x.first + d) % 30] [(x.first + d) % 30] rz (.sl 1 (ints [(x.first + d) % 30]) .full) hrz (.inr (.inr ⟨.full, rfl, rfl⟩)) (by simp) (by simp)
    have eq1 := equal_call [-1] [-1] qz (.sl 1 (ints [-1]) .full) hqz (.inr (.inr ⟨.full, rfl, rfl⟩)) (by decide) (by decide)
    have i1 : ints [-1] = [I (-1)] := rfl
    have i2 : ints [(x.first + d) % 30] = [I ((x.first + d) % 30)] := rfl
    rw [i1] at eq1
    rw [i2] at ez
    have dc1 : decide ([(x.first + (d : Int)) % 30] = [(x.first + (d : Int)) % 30]) = true := by simp
    have dc2 : decide (([-1] : List Int) = [-1]) = true := by simp
    rw [dc1] at ez
    rw [dc2] at eq1
    have hfe : ∀ n : Int, fillE 1 false [(0, I n)] [I 0] = some [I n] := fun n => by simp [fillE, depth, AV.isAgg]
    have hrp : List.replicate 1 (I 0) = [I 0] := rfl
    have hfe0 : fillE 3 true [] [] = some [] := rfl
    have hrp0 : ∀ v : AV, List.replicate 0 v = [] := fun _ => rfl
    have p1 := hx.fr.cell
    have p2 := hx.q0.cell
    have p3 := hx.q1.cell
    have p4 := hx.nr.cell
    have hpc : ∀ w : AV, w.isCell = true → (pc9 x w).all AV.isCell = true := fun w hw => by simp [pc9, p2, p3, hw]
    have hxc := x_cell x hx
    have stx : ∀ (Z Y : List AV), storeA { boxes := [Z, Y, [I 0, I 0, .nils, .nils, .bool false, .nils, .bool false, .nils]] } 8 (.box 2 0) x.av = some { boxes := [Z, Y, x.cells] } := fun Z Y => by
      have h1 : x.av.cells = x.cells := rfl
      have h2 : x.cells.length = 8 := rfl
      have h3 : setAt [I 0, I 0, .nils, .nils, .bool false, .nils, .bool false, .nils] 0 x.cells = x.cells := rfl
      simp [storeA, h1, h2, h3, hxc]
    obtain ⟨cz2, hcz2⟩ : ∃ v, v = (x.first + (d : Int)) % 30 := ⟨_, rfl⟩
    rw [← hcz2] at ez hrem hrz
    have htm : (x.first + (d : Int)).tmod 30 = cz2 := by rw [hcz2, Int.tmod_eq_emod_of_nonneg (by omega)]
    have hz8 : ∀ w, (pc9 x w).length = 8 := fun _ => rfl
    have hset8 : ∀ w, setAt [I 0, I 0, .nils, .nils, .bool false, .nils, .bool false, .nils] 0 (pc9 x w) = pc9 x w := fun _ => rfl
    have e0 : ((0 : Nat) : Int) = 0 := rfl
    by_cases hf : x.fs = []
    · -- no feasts at all
      have hfr := hx.fr
      rw [hf] at hfr
      have happ := wr_app0 [x.cells, [I a, I b], x.cells] hfr
      obtain ⟨y, hy⟩ : ∃ y, y = x.fst [] (.sl 3 [] .full) [] .nils := ⟨_, rfl⟩
      have hyo : y.Ok := by rw [hy]; exact fst_ok hx (.inr (.inr ⟨.full, rfl, rfl⟩)) (.inl ⟨rfl, rfl⟩) (by decide) (by decide)
      have hyk : checkB y = true := by rw [hy]; exact fst_check hk _ _ (by decide) (by decide) (fun _ h => by cases h) (fun _ h => by cases h)
      obtain ⟨ry, hry, cy, hTy⟩ := psalm_is hyo hyk (by rw [hy]; rfl) (by rw [hy]; intro g hg; cases hg) u2 (d := d) (by rw [hy]; exact e1)
      have hyf : y.first = x.first := by rw [hy]; rfl
      rw [hyf, ← hcz2] at hry
      have hyp := av_pur hyo
      have hyc : y.av = .agg (pc9 x (.sl 3 [] .full)) := by rw [hy]; rfl
      have py := hry.pur
      have ey := equal_call [cz2] [cz2] ry (.sl 1 (ints [cz2]) .full) hry (.inr (.inr ⟨.full, rfl, rfl⟩)) (by simp) (by simp)
      have i3 : ints [cz2] = [I cz2] := rfl
      have dc3 : decide ([cz2] = [cz2]) = true := by simp
      rw [i3, dc3] at ey
      obtain ⟨L, l9, a2, a5, a6, a7⟩ := loop9e x [I a, I b] u d
      have l9' := fun E (hE : mask keep9_0 E = _) => run_at l9 hE
      simp only [keep9_0, head9] at l9'
      rw [hyc] at cy hyp
      rw [hzc] at cz cq hzp
      have st7 : ∀ (Z Y : List AV), storeA { boxes := [Z, Y, x.cells] } 1 (.box 2 7) .nils = some { boxes := [Z, Y, pc9 x x.fr] } := fun _ _ => rfl
      have st2 : ∀ (Z Y : List AV), storeA { boxes := [Z, Y, pc9 x x.fr] } 1 (.box 2 2) (.sl 3 [] .full) = some { boxes := [Z, Y, pc9 x (.sl 3 [] .full)] } := fun _ _ => rfl
      have ld8 : ∀ (Z Y : List AV) w E, loadA { boxes := Z :: Y :: pc9 x w :: E } (some 8) (.box 2 0) = some (.agg (pc9 x w)) := fun _ _ _ _ => rfl
      have st8 : ∀ (Z Y X : List AV), storeA { boxes := [Z, Y, X, [I 0, I 0, .nils, .nils, .bool false, .nils, .bool false, .nils]] } 8 (.box 3 0) (.agg (pc9 x (.sl 3 [] .full))) = some { boxes := [Z, Y, X, pc9 x (.sl 3 [] .full)] } := fun Z Y X => by
        have h1 := hpc (.sl 3 [] .full) rfl
        simp [storeA, AV.cells, hz8, hset8, h1]
      have st9 : ∀ (Z Y X : List AV), storeA { boxes := [Z, Y, X, pc9 x (.sl 3 [] .full)] } 1 (.box 3 2) .nils = some { boxes := [Z, Y, X, pc9 x .nils] } := fun _ _ _ => rfl
      have ld9 : ∀ (Z Y X : List AV) w, loadA { boxes := [Z, Y, X, pc9 x w] } (some 8) (.box 3 0) = some (.agg (pc9 x w)) := fun _ _ _ _ => rfl
      rw [call_run comp9 (Nat.le_of_ble_eq_true rfl)]
      simp (maxSteps := 10000000) [-List.getD_eq_getElem?_getD, -boxA, -loadA, -storeA, code9, hbox, hbox2, l0, l1, l2, l3, hp, hsm, hs, g0, g1, t1, t2, w1, htm, stx, hfe0, hrp0, happ, st7, st2, keep9_0, l9', a2, a5, a6, a7, ld8, st8, st9, ld9, hfe, hrp, cy, hyp, cz, cq, hzp, py, pz, pq, ey, ez, eq1]
    · have happ := wr_app [x.cells, [I a, I b], x.cells] x.fs hf n4 hx.fr
      have hl3 : ([x.cells, [I a, I b], x.cells] : List (List AV)).length = 3 := rfl
      rw [hl3] at happ
      simp only [List.cons_append, List.nil_append] at happ
      obtain ⟨y, hy⟩ : ∃ y, y = x.fst (x.fs.map zeroR) (.sl 3 ((x.fs.map zeroR).map ftA) .no) [] .nils := ⟨_, rfl⟩
      have hyo : y.Ok := by rw [hy]; exact fst_ok hx (.inr (.inr ⟨.no, rfl, rfl⟩)) (.inl ⟨rfl, rfl⟩) (by rw [List.length_map]; exact hx.lf) (by decide)
      have hyk : checkB y = true := by
        rw [hy]
        exact fst_check hk _ _ (by rw [List.length_map]; exact n4) (by decide) (fun g hg => by
          obtain ⟨f', hf', rfl⟩ := List.mem_map.1 hg
          exact feat_zero (check_feasts hk f' hf')) (fun _ h => by cases h)
      obtain ⟨ry, hry, cy, hTy⟩ := psalm_is hyo hyk (by rw [hy]; rfl) (by
        rw [hy]
        intro g hg
        obtain ⟨f', hf', rfl⟩ := List.mem_map.1 (show g ∈ x.fs.map zeroR from hg)
        rfl) u2 (d := d) (by rw [hy]; exact e1)
      have hyf : y.first = x.first := by rw [hy]; rfl
      rw [hyf, ← hcz2] at hry
      have hyc : y.av = .agg (pc9 x (.sl 3 ((x.fs.map zeroR).map ftA) .no)) := by rw [hy]; rfl
      have py := hry.pur
      have ey := equal_call [cz2] [cz2] ry (.sl 1 (ints [cz2]) .full) hry (.inr (.inr ⟨.full, rfl, rfl⟩)) (by simp) (by simp)
      have i3 : ints [cz2] = [I cz2] := rfl
      have dc3 : decide ([cz2] = [cz2]) = true := by simp
      rw [i3, dc3] at ey
      obtain ⟨L, l9, a2, a5, a6, a7⟩ := loop9 x hx n4 [I a, I b] (fun _ _ _ _ => rfl) u d x.fs.length 0 (by omega)
      rw [zk_zero, zk_all] at l9
      have l9' := fun E (hE : mask keep9_0 E = _) => run_at l9 hE
      simp only [keep9_0, head9, e0] at l9'
      rw [hyc] at cy
      rw [hzc] at cz cq hzp
      obtain ⟨w, hw⟩ : ∃ w : AV, w = .wsl 3 0 x.fs.length 3 true := ⟨_, rfl⟩
      have hcP : callA Cv (run Cv) false (.fn (.func 27) [] []) [.agg (pc9 x w), I (u : Nat), I (d : Nat)] { boxes := [x.cells, [I a, I b], pc9 x w, flat (x.fs.map zeroR), pc9 x .nils] } = some (.tup [ry, I 0], { boxes := [x.cells, [I a, I b], pc9 x w, flat (x.fs.map zeroR), pc9 x .nils], ro := 5 }) := by
        have hwp := wr_pur (σ := { boxes := [x.cells, [I a, I b], pc9 x w, flat (x.fs.map zeroR), pc9 x .nils] }) (P := 3) (fs := x.fs.map zeroR) rfl
        rw [List.length_map, ← hw] at hwp
        have q2 := hx.q0.pur
        have q3 := hx.q1.pur
        have hpu : purAll (pur { boxes := [x.cells, [I a, I b], pc9 x w, flat (x.fs.map zeroR), pc9 x .nils] } 12) ([] ++ [.agg (pc9 x w), I (u : Nat), I (d : Nat)] ++ []) = some ([.agg (pc9 x (.sl 3 ((x.fs.map zeroR).map ftA) .no)), I (u : Nat), I (d : Nat)], true) := by
          have h1 : pur { boxes := [x.cells, [I a, I b], pc9 x w, flat (x.fs.map zeroR), pc9 x .nils] } 12 (.agg (pc9 x w)) = some (.agg (pc9 x (.sl 3 ((x.fs.map zeroR).map ftA) .no)), true) := by
            have h2 := hwp 9
            generalize ({ boxes := [x.cells, [I a, I b], pc9 x w, flat (x.fs.map zeroR), pc9 x .nils] } : St) = σ at *
            simp [pc9, pur, purAll, h2, q2, q3]
          simp only [List.nil_append, List.append_nil, purAll, h1, Option.bind_some]
          rfl
        have hfo : fo depth (.tup [ry, I 0]) = false := by
          obtain ⟨c, hc, rfl⟩ := row_sl hry (by simp)
          rfl
        rw [ca_none (by rfl), hpu]
        simp only [pureCallA, pureA_call, cy, backA, hfo, if_true, if_false, Bool.false_eq_true]
        rfl
      have hwc : w.isCell = true := by rw [hw]; rfl
      have hwcs : w.cells = [w] := by rw [hw]; rfl
      rw [← hw] at happ l9'
      generalize flat (x.fs.map zeroR) = F1 at *
      generalize flat x.fs = F0 at *
      have st7 : ∀ (Z Y F : List AV), storeA { boxes := [Z, Y, x.cells, F] } 1 (.box 2 7) .nils = some { boxes := [Z, Y, pc9 x x.fr, F] } := fun _ _ _ => rfl
      have st2 : ∀ (Z Y F : List AV), storeA { boxes := [Z, Y, pc9 x x.fr, F] } 1 (.box 2 2) w = some { boxes := [Z, Y, pc9 x w, F] } := fun _ _ _ => by
        simp [storeA, hwcs, hwc, pc9, setAt]
      have ld8 : ∀ (Z Y : List AV) w E r, loadA { boxes := Z :: Y :: pc9 x w :: E, ro := r } (some 8) (.box 2 0) = some (.agg (pc9 x w)) := fun _ _ _ _ _ => rfl
      have st8 : ∀ (Z Y X F : List AV), storeA { boxes := [Z, Y, X, F, [I 0, I 0, .nils, .nils, .bool false, .nils, .bool false, .nils]] } 8 (.box 4 0) (.agg (pc9 x w)) = some { boxes := [Z, Y, X, F, pc9 x w] } := fun Z Y X F => by
        have h1 := hpc w hwc
        simp [storeA, AV.cells, hz8, hset8, h1]
      have st9 : ∀ (Z Y X F : List AV), storeA { boxes := [Z, Y, X, F, pc9 x w] } 1 (.box 4 2) .nils = some { boxes := [Z, Y, X, F, pc9 x .nils] } := fun _ _ _ _ => rfl
      have ld9 : ∀ (Z Y X F : List AV) w r, loadA { boxes := [Z, Y, X, F, pc9 x w], ro := r } (some 8) (.box 4 0) = some (.agg (pc9 x w)) := fun _ _ _ _ _ _ => rfl
      rw [call_run comp9 (Nat.le_of_ble_eq_true rfl)]
      simp (maxSteps := 10000000) [-List.getD_eq_getElem?_getD, -boxA, -loadA, -storeA, code9, hbox, hbox2, l0, l1, l2, l3, hp, hsm, hs, g0, g1, t1, t2, w1, htm, stx, hfe0, hrp0, happ, st7, st2, keep9_0, l9', a2, a5, a6, a7, ld8, st8, st9, ld9, hfe, hrp, hcP, cz, cq, hzp, py, pz, pq, ey, ez, eq1]
end Go.Ai
