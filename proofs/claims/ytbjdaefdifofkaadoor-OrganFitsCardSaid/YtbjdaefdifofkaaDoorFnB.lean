/- This text shows pipes, forks and tunings are put into the map; the table. No conditions of its own. -/
import Derived.Test.YtbjdaefdifofkaaDoorFnA
import Derived.Test.YtbjdaefdifofkaaDoorPlain
set_option linter.unusedSimpArgs false
set_option linter.unusedVariables false
set_option maxRecDepth 100000
namespace Go.Ai
open Go.Organ (T4 F3 PM get_put addB)
def boundV (a : List AV) : AV := .fn (.func 107) [.agg a] []
theorem loop107 (B : List (List AV)) (a : List AV) (l : PM) (lp : List Lp) (hB : Bx (B ++ [a])) (ha : a[6]? = some (.mp 0)) (hL : Lx B.length lp) (p q v u : Int) (hp : 0 ≤ p) (hq : 0 ≤ q) :
    run Cv 107 (.loop keep107_0 body107_0) (head107 B (.agg [I p, I q, I v, I q, I p, I u]) 0) (SB (B ++ [a]) l lp) = some (.ex 0, mkE 61 .any [(30, .bool false), (29, I 2), (28, .agg [I p, I q, I v, I q, I p, I u]), (5, .box B.length 0)], SB (B ++ [a]) (addB (addB l (p, q) v) (q, p) u) lp) := by
  rw [round107 B a l lp hB ha hL _ 0 p q v hp rfl (fun _ _ _ _ => rfl) (by omega) (by rfl)]
  rw [round107 B a _ lp hB ha hL _ (0 + 1) q p u hq rfl (fun _ _ _ _ => rfl) (by omega) (by rfl)]
  rw [run_loop]
  simp (maxSteps := 10000000) [-List.getD_eq_getElem?_getD, body107_0, keep107_0, head107]
theorem callA_imp {C : Cfg} {R : Rec} {d : Bool} {f : FuncId} {a b args : List AV} {σ : St} (h : C.imp f = true) : callA C R d (.fn (.func f) a b) args σ = cutR σ (bodyA C R f (a ++ args ++ b) σ) := by simp [callA, h]
theorem body_run {C : Cfg} {f : FuncId} {args : List AV} {fn : MF} {σ : St} (h : compF C f = some fn) (hl : args.length ≤ fn.ntmps) : bodyA C (run C) f args σ = endA fn.results (run C f fn.body (mkE fn.ntmps .undef (argL 0 args [])) σ) := by
  unfold bodyA; rw [h, Option.bind_some, startE hl]
theorem retA_nil {e : Env} {σ : St} : retA [] e σ = some (.tup []) := rfl
theorem bound_call (B : List (List AV)) (a : List AV) (l : PM) (lp : List Lp) (hB : Bx B) (hau : ∀ x b c d, 1 ≤ c → a.all (under x b c d 6) = true) (hac : a.all AV.isCell = true) (ha : a[6]? = some (.mp 0)) (hL : Lx B.length lp) (p q n e : Int) (hp : 0 ≤ p) (hq : 0 ≤ q) (w1 : IntKind.wrap .i64 (n + e) = n + e) (w2 : IntKind.wrap .i64 (e - n) = e - n) :
    callA Cv (run Cv) false (boundV a) [I p, I q, I n, I e] (SB B l lp) = some (.tup [], SB B (addB (addB l (p, q) (n + e)) (q, p) (e - n)) lp) := by
  have hB' : Bx (B ++ [a]) := fun x b c d h => by
    simp only [List.all_append, List.all_cons, List.all_nil, hB x b c d h, hau x b c d h, Bool.and_self]
  have hl := fun E (hE : mask keep107_0 E = _) => run_at (loop107 B a l lp hB' ha hL p q (n + e) (e - n) hp hq) hE
  have hc := fun (l' : PM) (e : Env) (he : e.all (under B.length 0 1 lp.length 6) = true) => cut_SB (E := [a]) (l := l) (l' := l') hB hL he
  have hbox : boxA (SB B l lp) (.agg a) = some (.box B.length 0, SB (B ++ [a]) l lp) := by
    simp only [boxA, AV.cells, hac, if_true, SB]
  simp only [keep107_0, head107] at hl
  rw [boundV, callA_imp (by rfl), body_run comp107 (Nat.le_of_ble_eq_true rfl)]
  simp (maxSteps := 10000000) [-List.getD_eq_getElem?_getD, -cut, -boxA, code107, hbox, w1, w2, fillA, setAt, keep107_0, hl]
  simp only [retA_nil, Option.map_some, cutR]
  rw [hc]
  rfl
end Go.Ai

set_option maxRecDepth 100000
namespace Go.Ai
open Go.Organ (T4 F3 PM get_put addB)
def zeros : List AV := [I 0, I 0, I 0, I 0, I 0, I 0, I 0, I 0, I 0, I 0, I 0, I 0, I 0, I 0, I 0, I 0, I 0, I 0, I 0, I 0, I 0, I 0, I 0, I 0, I 0, I 0, I 0, I 0, I 0, I 0, I 0, I 0, I 0, I 0, I 0, I 0]
def zero44 : List AV := [I 0, .nils, .nils, .nils, I 0, .nils, .nilm] ++ zeros ++ [.bool false]
def b44 (x : OB) : List AV := x.cells ++ ([.mp 0] ++ zeros ++ [.bool true])
def base81 (x : OB) : List (List AV) := [x.cells, zero44, b44 x, [boundV (b44 x)]]
theorem b44_under (x : OB) (hx : x.Ok) (a b c d n : Nat) (h : 1 ≤ c) : (b44 x).all (under a b c d (n + 1)) = true := by
  have u1 := hx.trow.under a b c d n
  have u2 := hx.frow.under a b c d n
  have u3 := br_under x a b c d n
  have u4 := vr_under x a b c d n
  have h' : decide (0 < c) = true := by simp; omega
  simp only [b44, zeros, OB.cells, List.cons_append, List.nil_append, List.all_cons, List.all_nil, u1, u2, u3, u4, un_int, un_mp, un_bool, h', Bool.and_self]
theorem b44_cell (x : OB) (hx : x.Ok) : (b44 x).all AV.isCell = true := by
  have p1 := hx.trow.cell
  have p2 := hx.frow.cell
  have p3 := br_cell x
  have p4 := vr_cell x
  simp only [b44, zeros, OB.cells, List.cons_append, List.nil_append, List.all_cons, List.all_nil, p1, p2, p3, p4, isCell_int, isCell_bool, isCell_mp, Bool.and_self]
theorem base81_Bx (x : OB) (hx : x.Ok) : Bx (base81 x) := fun a b c d h => by
  have u1 := hx.trow.under a b c d 5
  have u2 := hx.frow.under a b c d 5
  have u3 := br_under x a b c d 5
  have u4 := vr_under x a b c d 5
  have h1 := b44_under x hx a b c d 5 h
  have h2 := b44_under x hx a b c d 3 h
  have hc : (x.cells).all (under a b c d 6) = true := by
    simp only [OB.cells, List.all_cons, List.all_nil, u1, u2, u3, u4, un_int, Bool.and_self]
  have hz : zero44.all (under a b c d 6) = true := rfl
  simp only [base81, List.all_cons, List.all_nil, hc, hz, h1, boundV, un_fn, un_agg, h2, Bool.and_self]
theorem Lx_nil (n : Nat) : Lx n [] := fun _ _ _ _ _ => rfl
theorem put81 (x : OB) (hx : x.Ok) (E : List (List AV)) (hE : Bx E) (l : PM) (lp : List Lp) (hL : Lx (4 + E.length) lp) (p q n e : Int) (hp : 0 ≤ p) (hq : 0 ≤ q) (w1 : IntKind.wrap .i64 (n + e) = n + e) (w2 : IntKind.wrap .i64 (e - n) = e - n) :
    callA Cv (run Cv) false (boundV (b44 x)) [I p, I q, I n, I e] (SB (base81 x ++ E) l lp) = some (.tup [], SB (base81 x ++ E) (addB (addB l (p, q) (n + e)) (q, p) (e - n)) lp) := by
  refine bound_call _ _ l lp ?_ (fun a b c d h => b44_under x hx a b c d 5 h) (b44_cell x hx) rfl ?_ p q n e hp hq w1 w2
  · intro a b c d h
    rw [List.all_append, base81_Bx x hx a b c d h, hE a b c d h]; rfl
  · rw [List.length_append]; exact hL
def townM : Nat → Nat → PM → PM
  | 0, _, l => l
  | n + 1, k, l => townM n (k + 1) (addB (addB l (5, (k : Int)) 60) ((k : Int), 5) 60)
def head81_0 (bt : AV) (N k : Int) : Env := mkE 157 .any [(26, I k), (25, I N), (6, .box 3 0), (5, .box 2 0), (4, .box 1 0), (2, .box 0 0), (1, bt)]
theorem loop81_0 (x : OB) (hx : x.Ok) (bt : AV) (hbt : ∀ a b c d n, under a b c d (n + 1) bt = true) (N : Nat) (hN : N < 100) : ∀ (n k : Nat) (l : PM), k + n = N →
    run Cv 81 (.loop keep81_0 body81_0) (head81_0 bt N k) (SB (base81 x) l []) = some (.ex 0, mkE 157 .any [(27, .bool false), (26, I N), (25, I N), (6, .box 3 0), (5, .box 2 0), (4, .box 1 0), (2, .box 0 0), (1, bt)], SB (base81 x) (townM n k l) [])
  | 0, k, l, hk => by
    obtain rfl : k = N := by omega
    rw [run_loop]
    simp (maxSteps := 10000000) [-List.getD_eq_getElem?_getD, body81_0, keep81_0, head81_0, townM]
  | n + 1, k, l, hk => by
    have hlt : (k : Int) < (N : Int) := by omega
    have hw : IntKind.wrap .i64 ((k : Int) + 1) = ((k + 1 : Nat) : Int) := by rw [wrap_small (by omega) (by omega)]; rfl
    have hb := put81 x hx [] (fun _ _ _ _ _ => rfl) l [] (Lx_nil _) 5 k 0 60 (by omega) (by omega) rfl rfl
    have hld : loadA (SB (base81 x) l []) none (.box 3 0) = some (boundV (b44 x)) := rfl
    have hc := fun (l' : PM) (e : Env) (he : e.all (under 4 0 1 0 6) = true) => cut_SB (B := base81 x) (E := []) (l := l) (l' := l') (lp := []) (base81_Bx x hx) (Lx_nil _) he
    simp only [List.append_nil] at hb hc
    have hbu := fun a b c d => hbt a b c d 5
    have key : run Cv 81 (.loop keep81_0 body81_0) (head81_0 bt N k) (SB (base81 x) l []) = run Cv 81 (.loop keep81_0 body81_0) (head81_0 bt N ((k + 1 : Nat) : Int)) (SB (base81 x) (addB (addB l (5, (k : Int)) 60) ((k : Int), 5) 60) []) := by
      rw [run_loop]
      generalize MC.loop keep81_0 body81_0 = L
      simp (maxSteps := 10000000) [-List.getD_eq_getElem?_getD, -loadA, -cut, body81_0, keep81_0, head81_0, hlt, hw, hld, hb]
      rw [hc]
      simp (maxSteps := 10000000) [-List.getD_eq_getElem?_getD, hbu]
    rw [key]
    exact loop81_0 x hx bt hbt N hN n (k + 1) _ (by omega)
def forkM (f : F3) (l : PM) : PM := addB (addB l (5, f.pipe) (f.read + f.err)) (f.pipe, 5) (f.err - f.read)
def forksM : List F3 → PM → PM
  | [], l => l
  | f :: fs, l => forksM fs (forkM f l)
def head81_1 (x : OB) (bt : AV) (k : Int) : Env := mkE 157 .any [(36, I k), (35, I x.forks.length), (34, x.fr), (6, .box 3 0), (5, .box 2 0), (4, .box 1 0), (1, bt)]
structure FSmall (f : F3) : Prop where
  pipe : 0 ≤ f.pipe
  read : -1000 ≤ f.read ∧ f.read ≤ 1000
  err : -1000 ≤ f.err ∧ f.err ≤ 1000
theorem loop81_1 (x : OB) (hx : x.Ok) (bt : AV) (hbt : ∀ a b c d n, under a b c d (n + 1) bt = true) (hs : ∀ f ∈ x.forks, FSmall f) : ∀ (fs : List F3) (k : Nat) (l : PM), k ≤ x.forks.length → x.forks.drop k = fs →
    run Cv 81 (.loop keep81_1 body81_1) (head81_1 x bt k) (SB (base81 x) l []) = some (.ex 2, mkE 157 .any [(37, .bool false), (36, I x.forks.length), (35, I x.forks.length), (34, x.fr), (6, .box 3 0), (5, .box 2 0), (4, .box 1 0), (1, bt)], SB (base81 x) (forksM fs l) [])
  | [], k, l, hk, h => by
    obtain rfl := drop_nil hk h
    rw [run_loop]
    simp (maxSteps := 10000000) [-List.getD_eq_getElem?_getD, body81_1, keep81_1, head81_1, forksM]
  | f :: fs, k, l, hk, h => by
    obtain ⟨hlt, ha, hd⟩ := head_drop h
    have hw := wrap_succ hlt hx.lf
    have hlt' : (k : Int) < (x.forks.length : Int) := by omega
    have hix : ixsA 3 x.fr (I k) = some (.rp [I f.pipe, I f.read, I f.err] 0) := by
      obtain ⟨c, hc, hr⟩ := hx.frow.sl (by intro hn; simp at hn; rw [hn] at hlt; simp at hlt)
      rw [hr]
      simp [ixsA, hlt, ha, foA, AV.cells]
    have hf := hs f (ha ▸ List.getElem_mem _)
    have h1 := hf.pipe; have h2 := hf.read; have h3 := hf.err
    have hb := put81 x hx [[I f.pipe, I f.read, I f.err]] (fun _ _ _ _ _ => rfl) l [] (Lx_nil _) 5 f.pipe f.read f.err (by omega) (by omega) (wrap_small (by omega) (by omega)) (wrap_small (by omega) (by omega))
    have hld : ∀ E, loadA (SB (base81 x ++ E) l []) none (.box 3 0) = some (boundV (b44 x)) := fun _ => rfl
    have hld4 : ∀ a off, loadA (SB (base81 x ++ [a]) l []) none (.box 4 off) = a[off]? := fun _ _ => rfl
    have hal : ∀ z, { SB (base81 x) l [] with boxes := (SB (base81 x) l []).boxes ++ [z] } = SB (base81 x ++ [z]) l [] := fun _ => rfl
    have hlen : (SB (base81 x) l []).boxes.length = 4 := rfl
    have hst : storeA (SB (base81 x ++ [[I 0, I 0, I 0]]) l []) 3 (.box 4 0) (.agg [I f.pipe, I f.read, I f.err]) = some (SB (base81 x ++ [[I f.pipe, I f.read, I f.err]]) l []) := rfl
    have hc := fun (l' : PM) (e : Env) (he : e.all (under 4 0 1 0 6) = true) => cut_SB (B := base81 x) (E := [[I f.pipe, I f.read, I f.err]]) (l := l) (l' := l') (lp := []) (base81_Bx x hx) (Lx_nil _) he
    have hbu := fun a b c d => hbt a b c d 5
    have hfu := fun a b c d => hx.frow.under a b c d 5
    have hlr : ∀ σ, loadA σ (some 3) (.rp [I f.pipe, I f.read, I f.err] 0) = some (.agg [I f.pipe, I f.read, I f.err]) := fun _ => rfl
    have key : run Cv 81 (.loop keep81_1 body81_1) (head81_1 x bt k) (SB (base81 x) l []) = run Cv 81 (.loop keep81_1 body81_1) (head81_1 x bt ((k : Int) + 1)) (SB (base81 x) (forkM f l) []) := by
      rw [run_loop]
      generalize MC.loop keep81_1 body81_1 = L
      simp (maxSteps := 10000000) [-List.getD_eq_getElem?_getD, -loadA, -storeA, -cut, -ixsA, body81_1, keep81_1, head81_1, hlt', hw, hix, hlr, hal, hlen, hst, hld, hld4, hb]
      rw [hc]
      · rfl
      · simp (maxSteps := 10000000) [-List.getD_eq_getElem?_getD, hbu, hfu]
    rw [key]
    exact loop81_1 x hx bt hbt hs fs (k + 1) _ hlt hd
end Go.Ai

set_option maxRecDepth 100000
namespace Go.Ai
open Go.Organ (T4 F3 PM get_put addB)
def tunesV : AV := .fn (.func 118) [] [.box 4 0, .box 5 0]
def ext81 (x : OB) (bt : AV) : List (List AV) := [b44 x, [bt]]
def lp81 (l : List (Nat × AV)) (s : LoopState) : Lp := { f := 81, env := mkE 157 .any l, ps := [52], asg := asg81_2, body := body81_2, st := s, pend := none }
def tuneM (t : T4) (l : PM) : PM := addB (addB l (t.src, t.dst) (t.off + t.err)) (t.dst, t.src) (t.err - t.off)
structure TSmall (t : T4) : Prop where
  src : 0 ≤ t.src
  dst : 0 ≤ t.dst
  off : -1000 ≤ t.off ∧ t.off ≤ 1000
  err : -1000 ≤ t.err ∧ t.err ≤ 1000
structure But (bt : AV) (out : Nat → Bool) (m : Nat) : Prop where
  cell : bt.isCell = true
  cells : bt.cells = [bt]
  under : ∀ a b c d n, Ai.under a b c d (n + 1) bt = true
  pur : ∀ σ n, Ai.pur σ (n + 1) bt = some (bt, false)
  call : ∀ k : Nat, k < m → call Cv 119 [bt, I k] = some (.bool (out k))
section
variable {x : OB} {bt : AV} {out : Nat → Bool} {L : List (Nat × AV)}
theorem ext_Bx (hx : x.Ok) (hb : But bt out x.tunes.length) (E : List (List AV)) (hE : Bx E) : Bx (base81 x ++ (ext81 x bt ++ E)) := fun a b c d h => by
  have h1 := b44_under x hx a b c d 5 h
  have h2 := hb.under a b c d 5
  have h3 := hE a b c d h
  simp only [List.all_append, base81_Bx x hx a b c d h, ext81, List.all_cons, List.all_nil, h1, h2, h3, Bool.and_self]
theorem lp_Lx (hL : ∀ a b c, 6 ≤ a → 1 ≤ c → (mkE 157 .any L).all (under a b c 1 6) = true) (s : LoopState) (n : Nat) (hn : 6 ≤ n) : Lx n [lp81 L s] := fun a b c h1 h2 => by
  have := hL a b c (by omega) h2
  simp only [List.all_cons, List.all_nil, lp81, List.length_singleton, this, Bool.and_self]
theorem round81 (hx : x.Ok) (hb : But bt out x.tunes.length) (hL : ∀ a b c, 6 ≤ a → 1 ≤ c → (mkE 157 .any L).all (under a b c 1 6) = true) (h6 : gt (mkE 157 .any L) 6 = .box 3 0) (t : T4) (ht : TSmall t) (l : PM) :
    roundA (run Cv) 0 [tuA t] (SB (base81 x ++ (ext81 x bt ++ [[I t.src, I t.dst, I t.off, I t.err]])) l [lp81 L .ready]) = some (.bool true, SB (base81 x ++ (ext81 x bt ++ [[I t.src, I t.dst, I t.off, I t.err]])) (tuneM t l) [lp81 L .ready]) := by
  have ht1 := ht.src; have ht2 := ht.dst; have ht3 := ht.off; have ht4 := ht.err
  have hTx : Bx [[I t.src, I t.dst, I t.off, I t.err]] := fun _ _ _ _ _ => rfl
  have hTx2 : Bx [[I t.src, I t.dst, I t.off, I t.err], [I t.src, I t.dst, I t.off, I t.err]] := fun _ _ _ _ _ => rfl
  have hasg : run Cv 81 asg81_2 (mkE 157 .any ((52, tuA t) :: L)) (SB (base81 x ++ (ext81 x bt ++ [[I t.src, I t.dst, I t.off, I t.err]])) l [lp81 L .ready]) = some (.nm, mkE 157 .any ((10, .box 7 0) :: (52, tuA t) :: L), SB (base81 x ++ (ext81 x bt ++ [[I t.src, I t.dst, I t.off, I t.err], [I t.src, I t.dst, I t.off, I t.err]])) l [lp81 L .ready]) := by
    have hal : ∀ z, { SB (base81 x ++ (ext81 x bt ++ [[I t.src, I t.dst, I t.off, I t.err]])) l [lp81 L .ready] with boxes := (SB (base81 x ++ (ext81 x bt ++ [[I t.src, I t.dst, I t.off, I t.err]])) l [lp81 L .ready]).boxes ++ [z] } = SB (base81 x ++ (ext81 x bt ++ [[I t.src, I t.dst, I t.off, I t.err], z])) l [lp81 L .ready] := fun _ => rfl
    have hlen : (SB (base81 x ++ (ext81 x bt ++ [[I t.src, I t.dst, I t.off, I t.err]])) l [lp81 L .ready]).boxes.length = 7 := rfl
    have hst : storeA (SB (base81 x ++ (ext81 x bt ++ [[I t.src, I t.dst, I t.off, I t.err], [I 0, I 0, I 0, I 0]])) l [lp81 L .ready]) 4 (.box 7 0) (tuA t) = some (SB (base81 x ++ (ext81 x bt ++ [[I t.src, I t.dst, I t.off, I t.err], [I t.src, I t.dst, I t.off, I t.err]])) l [lp81 L .ready]) := rfl
    simp (maxSteps := 10000000) [-List.getD_eq_getElem?_getD, -storeA, asg81_2, hal, hlen, hst]
  have hbusy : busyA 0 (SB (base81 x ++ (ext81 x bt ++ [[I t.src, I t.dst, I t.off, I t.err], [I t.src, I t.dst, I t.off, I t.err]])) l [lp81 L .ready]) = some (SB (base81 x ++ (ext81 x bt ++ [[I t.src, I t.dst, I t.off, I t.err], [I t.src, I t.dst, I t.off, I t.err]])) l [lp81 L .busy]) := by
    simp [busyA, SB, lp81]
  have hput : putLoop 0 (fun L => { L with st := .ready, pend := none }) (.bool true) (SB (base81 x ++ (ext81 x bt ++ [[I t.src, I t.dst, I t.off, I t.err], [I t.src, I t.dst, I t.off, I t.err]])) (tuneM t l) [lp81 L .busy]) = some (.bool true, SB (base81 x ++ (ext81 x bt ++ [[I t.src, I t.dst, I t.off, I t.err], [I t.src, I t.dst, I t.off, I t.err]])) (tuneM t l) [lp81 L .ready]) := by
    simp [putLoop, SB, lp81]
  have hcall := put81 x hx (ext81 x bt ++ [[I t.src, I t.dst, I t.off, I t.err], [I t.src, I t.dst, I t.off, I t.err]]) (fun a b c d h => by
    have h1 := b44_under x hx a b c d 5 h
    have h2 := hb.under a b c d 5
    have h3 := hTx2 a b c d h
    simp only [List.all_append, ext81, List.all_cons, List.all_nil, h1, h2, h3, Bool.and_self, un_int]) l [lp81 L .busy] (lp_Lx hL _ _ (by simp [ext81])) t.src t.dst t.off t.err ht1 ht2 (wrap_small (by omega) (by omega)) (wrap_small (by omega) (by omega))
  have hbody : ∃ e, run Cv 81 body81_2 (mkE 157 .any ((10, .box 7 0) :: (52, tuA t) :: L)) (SB (base81 x ++ (ext81 x bt ++ [[I t.src, I t.dst, I t.off, I t.err], [I t.src, I t.dst, I t.off, I t.err]])) l [lp81 L .busy]) = some (.nm, e, SB (base81 x ++ (ext81 x bt ++ [[I t.src, I t.dst, I t.off, I t.err], [I t.src, I t.dst, I t.off, I t.err]])) (tuneM t l) [lp81 L .busy]) := by
    have hld : loadA (SB (base81 x ++ (ext81 x bt ++ [[I t.src, I t.dst, I t.off, I t.err], [I t.src, I t.dst, I t.off, I t.err]])) l [lp81 L .busy]) none (.box 3 0) = some (boundV (b44 x)) := rfl
    have hl7 : ∀ off, loadA (SB (base81 x ++ (ext81 x bt ++ [[I t.src, I t.dst, I t.off, I t.err], [I t.src, I t.dst, I t.off, I t.err]])) l [lp81 L .busy]) none (.box 7 off) = ([I t.src, I t.dst, I t.off, I t.err] : List AV)[off]? := fun _ => rfl
    simp (maxSteps := 10000000) [-List.getD_eq_getElem?_getD, -loadA, -cut, body81_2, h6, hld, hl7, hcall]
    rfl
  obtain ⟨e, hbody⟩ := hbody
  have hcut := cut_SB (B := base81 x ++ (ext81 x bt ++ [[I t.src, I t.dst, I t.off, I t.err]])) (E := [[I t.src, I t.dst, I t.off, I t.err]]) (l := l) (l' := tuneM t l) (lp := [lp81 L .ready]) (e := [.bool true]) (ext_Bx hx hb _ hTx) (lp_Lx hL _ _ (by simp [base81, ext81])) rfl
  simp only [List.append_assoc, List.cons_append, List.nil_append] at hcut
  have hloop : (SB (base81 x ++ (ext81 x bt ++ [[I t.src, I t.dst, I t.off, I t.err]])) l [lp81 L .ready]).loops[0]? = some (lp81 L .ready) := rfl
  simp only [roundA, hloop]
  simp only [lp81] at hasg hbusy hput hbody hcut ⊢
  simp only [List.length_singleton, if_true, List.zip_cons_cons, List.zip_nil_right, List.foldl_cons, List.foldl_nil, mkE_set, hasg, innerA, hbusy, bodyRun, hbody, leaveA, hput, cutR, hcut]
end
end Go.Ai

set_option maxRecDepth 100000
namespace Go.Ai
open Go.Organ (T4 F3 PM get_put addB)
theorem run_range {C : Cfg} {f : FuncId} {g : Opd} {ps} {asg body : MC} {e : Env} {σ : St} : run C f (.range g ps asg body) e σ = if isFn (ev e g) then pendA (run C) σ.loops.length e (callA C (run C) false (ev e g) [.yld σ.loops.length] { σ with loops := σ.loops ++ [{ f, env := e, ps, asg, body, st := .ready, pend := none }] }) else none := by rw [run_eq]; rfl
theorem callA_yld {C : Cfg} {R : Rec} {d : Bool} {l : Nat} {args : List AV} {σ : St} : callA C R d (.yld l) args σ = roundA R l args σ := rfl
section
variable {x : OB} {bt : AV} {out : Nat → Bool} {L : List (Nat × AV)}
def tunesM (out : Nat → Bool) : List T4 → Nat → PM → PM
  | [], _, l => l
  | t :: ts, k, l => tunesM out ts (k + 1) (if out k then l else tuneM t l)
def head118 (x : OB) (k : Int) : Env := mkE 26 .any [(10, I k), (9, I x.tunes.length), (8, x.tr), (2, .box 5 0), (0, .yld 0)]
theorem loop118 (hx : x.Ok) (hb : But bt out x.tunes.length) (hs : ∀ t ∈ x.tunes, TSmall t) (hL : ∀ a b c, 6 ≤ a → 1 ≤ c → (mkE 157 .any L).all (under a b c 1 6) = true) (h6 : gt (mkE 157 .any L) 6 = .box 3 0) : ∀ (ts : List T4) (k : Nat) (l : PM), k ≤ x.tunes.length → x.tunes.drop k = ts →
    run Cv 118 (.loop keep118_0 body118_0) (head118 x k) (SB (base81 x ++ ext81 x bt) l [lp81 L .ready]) = some (.ex 0, mkE 26 .any [(11, .bool false), (10, I x.tunes.length), (9, I x.tunes.length), (8, x.tr), (2, .box 5 0), (0, .yld 0)], SB (base81 x ++ ext81 x bt) (tunesM out ts k l) [lp81 L .ready])
  | [], k, l, hk, h => by
    obtain rfl := drop_nil hk h
    rw [run_loop]
    simp (maxSteps := 10000000) [-List.getD_eq_getElem?_getD, body118_0, keep118_0, head118, tunesM]
  | t :: ts, k, l, hk, h => by
    obtain ⟨hlt, ha, hd⟩ := head_drop h
    have hw := wrap_succ hlt hx.lt
    have hlt' : (k : Int) < (x.tunes.length : Int) := by omega
    have hix : ixsA 4 x.tr (I k) = some (.rp [I t.src, I t.dst, I t.off, I t.err] 0) := by
      obtain ⟨c, hc, hr⟩ := hx.trow.sl (by intro hn; simp at hn; rw [hn] at hlt; simp at hlt)
      rw [hr]
      simp [ixsA, hlt, ha, tuA, AV.cells]
    have ht := hs t (ha ▸ List.getElem_mem _)
    have hr := round81 hx hb hL h6 t ht l
    have hct := hb.call k hlt
    have hbp := hb.pur
    have htu := fun a b c d => hx.trow.under a b c d 5
    have hlr : ∀ σ, loadA σ (some 4) (.rp [I t.src, I t.dst, I t.off, I t.err] 0) = some (.agg [I t.src, I t.dst, I t.off, I t.err]) := fun _ => rfl
    have hal : ∀ z, { SB (base81 x ++ ext81 x bt) l [lp81 L .ready] with boxes := (SB (base81 x ++ ext81 x bt) l [lp81 L .ready]).boxes ++ [z] } = SB (base81 x ++ (ext81 x bt ++ [z])) l [lp81 L .ready] := fun _ => rfl
    have hlen : (SB (base81 x ++ ext81 x bt) l [lp81 L .ready]).boxes.length = 6 := rfl
    have hst : storeA (SB (base81 x ++ (ext81 x bt ++ [[I 0, I 0, I 0, I 0]])) l [lp81 L .ready]) 4 (.box 6 0) (.agg [I t.src, I t.dst, I t.off, I t.err]) = some (SB (base81 x ++ (ext81 x bt ++ [[I t.src, I t.dst, I t.off, I t.err]])) l [lp81 L .ready]) := rfl
    have hl5 : ∀ z, loadA (SB (base81 x ++ (ext81 x bt ++ [z])) l [lp81 L .ready]) none (.box 5 0) = some bt := fun _ => rfl
    have hl6 : loadA (SB (base81 x ++ (ext81 x bt ++ [[I t.src, I t.dst, I t.off, I t.err]])) l [lp81 L .ready]) (some 4) (.box 6 0) = some (tuA t) := rfl
    have hc := fun (l' : PM) (e : Env) (he : e.all (under (base81 x ++ ext81 x bt).length 0 1 1 6) = true) => cut_SB (B := base81 x ++ ext81 x bt) (E := [[I t.src, I t.dst, I t.off, I t.err]]) (l := l) (l' := l') (lp := [lp81 L .ready]) (by have := ext_Bx hx hb [] (fun _ _ _ _ _ => rfl); simpa using this) (lp_Lx hL _ _ (by simp [base81, ext81])) he
    simp only [List.append_assoc] at hc
    have key : run Cv 118 (.loop keep118_0 body118_0) (head118 x k) (SB (base81 x ++ ext81 x bt) l [lp81 L .ready]) = run Cv 118 (.loop keep118_0 body118_0) (head118 x ((k : Int) + 1)) (SB (base81 x ++ ext81 x bt) (if out k then l else tuneM t l) [lp81 L .ready]) := by
      rw [run_loop]
      generalize MC.loop keep118_0 body118_0 = L'
      cases ho : out k with
      | true =>
        rw [ho] at hct
        simp (maxSteps := 10000000) [-List.getD_eq_getElem?_getD, -loadA, -storeA, -cut, -ixsA, body118_0, keep118_0, head118, hlt', hw, hix, hlr, hal, hlen, hst, hl5, hct, hbp]
        rw [hc]
        simp (maxSteps := 10000000) [-List.getD_eq_getElem?_getD, htu, base81, ext81]
      | false =>
        rw [ho] at hct
        simp (maxSteps := 10000000) [-List.getD_eq_getElem?_getD, -loadA, -storeA, -cut, -ixsA, body118_0, keep118_0, head118, hlt', hw, hix, hlr, hal, hlen, hst, hl5, hl6, hct, hbp, callA_yld, hr]
        rw [hc]
        simp (maxSteps := 10000000) [-List.getD_eq_getElem?_getD, htu, base81, ext81]
    rw [key]
    exact loop118 hx hb hs hL h6 ts (k + 1) _ hlt hd
theorem f118_call (hx : x.Ok) (hb : But bt out x.tunes.length) (hs : ∀ t ∈ x.tunes, TSmall t) (hL : ∀ a b c, 6 ≤ a → 1 ≤ c → (mkE 157 .any L).all (under a b c 1 6) = true) (h6 : gt (mkE 157 .any L) 6 = .box 3 0) (l : PM) :
    callA Cv (run Cv) false tunesV [.yld 0] (SB (base81 x ++ ext81 x bt) l [lp81 L .ready]) = some (.tup [], SB (base81 x ++ ext81 x bt) (tunesM out x.tunes 0 l) [lp81 L .ready]) := by
  have hl := fun E (hE : mask keep118_0 E = _) => run_at (loop118 hx hb hs hL h6 x.tunes 0 l (Nat.zero_le _) rfl) hE
  have e5 : ((0 : Nat) : Int) = 0 := rfl
  simp only [keep118_0, head118, e5] at hl
  have hlen := tlen hx
  have hl4 : loadA (SB (base81 x ++ ext81 x bt) l [lp81 L .ready]) none (.box 4 1) = some x.tr := rfl
  have hc := fun (l' : PM) (e : Env) (he : e.all (under (base81 x ++ ext81 x bt).length 0 1 1 6) = true) => cut_SB (B := base81 x ++ ext81 x bt) (E := []) (l := l) (l' := l') (lp := [lp81 L .ready]) (by have := ext_Bx hx hb [] (fun _ _ _ _ _ => rfl); simpa using this) (lp_Lx hL _ _ (by simp [base81, ext81])) he
  simp only [List.append_nil] at hc
  rw [tunesV, callA_imp (by rfl), body_run comp118 (Nat.le_of_ble_eq_true rfl)]
  simp (maxSteps := 10000000) [-List.getD_eq_getElem?_getD, -cut, -loadA, code118, hl4, hlen, keep118_0, hl]
  simp only [retA_nil, Option.map_some, cutR]
  rw [hc]
  rfl
theorem f108_call (hx : x.Ok) (hb : But bt out x.tunes.length) (l : PM) : callA Cv (run Cv) false (.fn (.func 108) [] []) [.agg (b44 x), bt] (SB (base81 x) l []) = some (tunesV, SB (base81 x ++ ext81 x bt) l []) := by
  have hbc := hb.cell
  have hbs := hb.cells
  have hbox : boxA (SB (base81 x) l []) (.agg (b44 x)) = some (.box 4 0, SB (base81 x ++ [b44 x]) l []) := by
    simp only [boxA, AV.cells, b44_cell x hx, if_true, SB]
    rfl
  have hbox2 : boxA (SB (base81 x ++ [b44 x]) l []) bt = some (.box 5 0, SB (base81 x ++ ext81 x bt) l []) := by
    simp only [boxA, hbs, List.all_cons, hbc, List.all_nil, Bool.and_self, if_true, SB]
    rfl
  have hcut : cut (SB (base81 x) l []) (SB (base81 x ++ ext81 x bt) l []) [.fn (.func 118) [] [.box 4 0, .box 5 0]] = SB (base81 x ++ ext81 x bt) l [] := by
    unfold cut
    rw [if_neg, if_neg]
    · simp [dryAt, SB, base81, under]
    · simp [dryAt, SB, base81, under]
  rw [callA_imp (by rfl), body_run comp108 (Nat.le_of_ble_eq_true rfl)]
  simp (maxSteps := 10000000) [-List.getD_eq_getElem?_getD, -cut, -boxA, code108, hbox, hbox2]
  simp only [cutR, hcut]
  rfl
def lpEnd (L : List (Nat × AV)) : Lp := lp81 L .exhausted
theorem range81 (hx : x.Ok) (hb : But bt out x.tunes.length) (hs : ∀ t ∈ x.tunes, TSmall t) (hL : ∀ a b c, 6 ≤ a → 1 ≤ c → (mkE 157 .any L).all (under a b c 1 6) = true) (h6 : gt (mkE 157 .any L) 6 = .box 3 0) (h51 : gt (mkE 157 .any L) 51 = tunesV) (l : PM) :
    run Cv 81 (.range (.tmp 51) [52] asg81_2 body81_2) (mkE 157 .any L) (SB (base81 x ++ ext81 x bt) l []) = some (.nm, mkE 157 .any L, SB (base81 x ++ ext81 x bt) (tunesM out x.tunes 0 l) [lpEnd L]) := by
  have hev : ev (mkE 157 .any L) (.tmp 51) = tunesV := h51
  have hc := f118_call hx hb hs hL h6 l
  rw [run_range]
  simp only [hev]
  rw [if_pos (by rfl : isFn tunesV = true)]
  have hs' : ({ SB (base81 x ++ ext81 x bt) l [] with loops := (SB (base81 x ++ ext81 x bt) l []).loops ++ [{ f := 81, env := mkE 157 .any L, ps := [52], asg := asg81_2, body := body81_2, st := .ready, pend := none }] } : St) = SB (base81 x ++ ext81 x bt) l [lp81 L .ready] := rfl
  rw [hs', show (SB (base81 x ++ ext81 x bt) l []).loops.length = 0 from rfl, hc]
  rfl
end
end Go.Ai

set_option maxRecDepth 100000
namespace Go.Ai
open Go.Organ (T4 F3 PM get_put addB Tb upd flat flat_get flat_set flat_ext fillR rowAt told half ofM)
def flatA (m : Tb) : List AV := (flat m).map fun n => I n
def bx44 (x : OB) (m : Tb) (is : Bool) : List AV := x.cells ++ ([.mp 0] ++ flatA m ++ [.bool is])
def S9 (x : OB) (bt : AV) (l : PM) (L : List (Nat × AV)) (m : Tb) (is : Bool) : St := { boxes := [x.cells, zero44, bx44 x m is, [boundV (b44 x)]] ++ ext81 x bt, maps := [(ksM l, vsM l)], loops := [lpEnd L] }
theorem S9_start (x : OB) (bt : AV) (l : PM) (L : List (Nat × AV)) : SB (base81 x ++ ext81 x bt) l [lpEnd L] = S9 x bt l L (fun _ _ => 0) true := rfl
theorem S9_congr {x : OB} {bt : AV} {l : PM} {L : List (Nat × AV)} {m m' : Tb} {is : Bool} (h : flat m = flat m') : S9 x bt l L m is = S9 x bt l L m' is := by
  simp only [S9, bx44, flatA, h]
theorem flatA_len (m : Tb) : (flatA m).length = 36 := rfl
theorem flatA_get (m : Tb) {i k : Nat} (hi : i < 6) (hk : k < 6) : (flatA m)[6 * i + k]? = some (I (m i k)) := by
  simp only [flatA, List.getElem?_map, Organ.flat_get m hi hk, Option.map_some]
theorem flatA_set (m : Tb) {i k : Nat} (hi : i < 6) (hk : k < 6) (v : Int) : (flatA m).set (6 * i + k) (I v) = flatA (upd m i k v) := by
  simp only [flatA, ← Organ.flat_set m hi hk v, List.map_set]
theorem bx_get (x : OB) (m : Tb) (is : Bool) {i k : Nat} (hi : i < 6) (hk : k < 6) : (bx44 x m is)[7 + 6 * i + k]? = some (I (m i k)) := by
  have : bx44 x m is = (x.cells ++ [.mp 0]) ++ (flatA m ++ [.bool is]) := by simp [bx44]
  rw [this, List.getElem?_append_right (by simp [OB.cells]; omega), List.getElem?_append_left (by rw [flatA_len]; simp [OB.cells]; omega)]
  rw [show 7 + 6 * i + k - (x.cells ++ [AV.mp 0]).length = 6 * i + k from by simp [OB.cells]; omega, flatA_get m hi hk]
theorem setAt_one (cs : List AV) (n : Nat) (v : AV) (h : n < cs.length) : setAt cs n [v] = cs.set n v := by
  simp only [setAt, List.length_singleton]
  rw [List.set_eq_take_append_cons_drop, if_pos h]
  simp
theorem bx_len (x : OB) (m : Tb) (is : Bool) : (bx44 x m is).length = 44 := rfl
theorem bx_set (x : OB) (m : Tb) (is : Bool) {i k : Nat} (hi : i < 6) (hk : k < 6) (v : Int) : setAt (bx44 x m is) (7 + 6 * i + k) [I v] = bx44 x (upd m i k v) is := by
  rw [setAt_one _ _ _ (by rw [bx_len]; omega)]
  have h1 : ∀ m, bx44 x m is = (x.cells ++ [.mp 0]) ++ (flatA m ++ [.bool is]) := fun m => by simp [bx44]
  rw [h1, h1, List.set_append_right _ _ (by simp [OB.cells]; omega), List.set_append_left _ _ (by rw [flatA_len]; simp [OB.cells]; omega)]
  rw [show 7 + 6 * i + k - (x.cells ++ [AV.mp 0]).length = 6 * i + k from by simp [OB.cells]; omega, flatA_set m hi hk]
section
variable {x : OB} {bt : AV} {l : PM} {L : List (Nat × AV)} {m : Tb} {is : Bool}
theorem ld9 {i k : Nat} (hi : i < 6) (hk : k < 6) : loadA (S9 x bt l L m is) none (.box 2 (7 + 6 * i + k)) = some (I (m i k)) := by
  show (some (bx44 x m is)).bind (fun cs => partA none cs (7 + 6 * i + k)) = _
  rw [Option.bind_some]
  exact bx_get x m is hi hk
theorem st9 {i k : Nat} (hi : i < 6) (hk : k < 6) (v : Int) : storeA (S9 x bt l L m is) 1 (.box 2 (7 + 6 * i + k)) (I v) = some (S9 x bt l L (upd m i k v) is) := by
  have h1 : storeA (S9 x bt l L m is) 1 (.box 2 (7 + 6 * i + k)) (I v) = if 0 ≤ 2 ∧ (I v).cells.length = 1 ∧ 7 + 6 * i + k + 1 ≤ (bx44 x m is).length ∧ (I v).cells.all AV.isCell = true then some { S9 x bt l L m is with boxes := (S9 x bt l L m is).boxes.set 2 (setAt (bx44 x m is) (7 + 6 * i + k) (I v).cells) } else none := rfl
  rw [h1, if_pos ⟨by omega, rfl, by rw [bx_len]; omega, rfl⟩, cells_int, bx_set x m is hi hk]
  rfl
theorem row9 {i : Nat} (hi : i < 6) : loadA (S9 x bt l L m is) (some 6) (.box 2 (7 + 6 * i)) = some (.agg ((List.range' 0 6).map fun k => I (m i k))) := by
  rcases Organ.six hi with rfl | rfl | rfl | rfl | rfl | rfl <;> rfl
theorem fill9 {i : Nat} (hi : i < 6) : storeA (S9 x bt l L m is) 6 (.box 2 (7 + 6 * i)) (.agg [I 1048576, I 1048576, I 1048576, I 1048576, I 1048576, I 1048576]) = some (S9 x bt l L (fillR m i fun _ => 1048576) is) := by
  rcases Organ.six hi with rfl | rfl | rfl | rfl | rfl | rfl <;> rfl
theorem is9 : loadA (S9 x bt l L m is) none (.box 2 43) = some (.bool is) := rfl
theorem stis9 (b : Bool) : storeA (S9 x bt l L m is) 1 (.box 2 43) (.bool b) = some (S9 x bt l L m b) := rfl
theorem mp9 : loadA (S9 x bt l L m is) none (.box 2 6) = some (.mp 0) := rfl
theorem ixa9 {i : Nat} (hi : i < 6) : ixaA 6 6 (.box 2 7) (I i) = some (.box 2 (7 + 6 * i)) := by
  have : (i : Int) < 6 := by omega
  simp [ixaA, this, ptrAdd]; omega
theorem ixb9 {i k : Nat} (hk : k < 6) : ixaA 6 1 (.box 2 (7 + 6 * i)) (I k) = some (.box 2 (7 + 6 * i + k)) := by
  have : (k : Int) < 6 := by omega
  simp [ixaA, this, ptrAdd]
theorem flatA_under (m : Tb) (a b c d n : Nat) : (flatA m).all (under a b c d (n + 1)) = true := by
  simp only [flatA, List.all_map, List.all_eq_true]
  exact fun _ _ => rfl
theorem cut9 (hx : x.Ok) {out : Nat → Bool} (hb : But bt out x.tunes.length) (hL : ∀ a b c, 6 ≤ a → 1 ≤ c → (mkE 157 .any L).all (under a b c 1 6) = true) {m' : Tb} {is' : Bool} {e : Env} (he : e.all (under 6 0 1 1 6) = true) : cut (S9 x bt l L m is) (S9 x bt l L m' is') e = S9 x bt l L m' is' := by
  have u1 := hx.trow.under 6 0 1 1 5
  have u2 := hx.frow.under 6 0 1 1 5
  have u3 := br_under x 6 0 1 1 5
  have u4 := vr_under x 6 0 1 1 5
  have h0 : (x.cells).all (under 6 0 1 1 6) = true := by
    simp only [OB.cells, List.all_cons, List.all_nil, u1, u2, u3, u4, un_int, Bool.and_self]
  have hz : zero44.all (under 6 0 1 1 6) = true := rfl
  have h1 := b44_under x hx 6 0 1 1 5 (Nat.le_refl _)
  have h2 := b44_under x hx 6 0 1 1 3 (Nat.le_refl _)
  have h3 : (bx44 x m' is').all (under 6 0 1 1 6) = true := by
    have : under 6 0 1 1 6 (.mp 0) = true := rfl
    simp only [bx44, List.all_append, h0, List.all_cons, List.all_nil, this, flatA_under, un_bool, Bool.and_self]
  have h4 := hb.under 6 0 1 1 5
  have h5 := hL 6 0 1 (Nat.le_refl _) (Nat.le_refl _)
  have h6 := ks_under 6 0 1 1 4 l
  have h7 := vs_under 6 0 1 1 5 l
  have hd : dryAt 0 (S9 x bt l L m is) (S9 x bt l L m' is') e = true := by
    show (e.all (under 6 0 1 1 6) && List.all [x.cells, zero44, bx44 x m' is', [boundV (b44 x)], b44 x, [bt]] (fun cs => cs.all (under 6 0 1 1 6)) && List.all [(ksM l, vsM l)] (fun es => es.1.all (under 6 0 1 1 6) && es.2.all (under 6 0 1 1 6)) && List.all [lpEnd L] (fun L => L.env.all (under 6 0 1 1 6))) = true
    simp only [he, List.all_cons, List.all_nil, h0, hz, h3, boundV, un_fn, un_agg, h1, h2, h4, h6, h7, lpEnd, lp81, h5, Bool.and_self]
  unfold cut
  rw [if_pos (show dryAt (S9 x bt l L m is).chains.length (S9 x bt l L m is) (S9 x bt l L m' is') e = true from hd)]
  rfl
end
end Go.Ai

set_option maxRecDepth 100000
namespace Go.Ai
open Go.Organ (T4 F3 PM get_put addB Tb upd flat flat_ext fillR told half ofM)
section
variable {x : OB} {bt : AV} {out : Nat → Bool} {l : PM} {L : List (Nat × AV)}
def head81_3 (i k : Int) : Env := mkE 157 .any [(70, I k), (63, I i), (11, I i), (5, .box 2 0), (4, .box 1 0)]
theorem lkp9 (m : Tb) (is : Bool) (i k : Int) : lkpA (S9 x bt l L m is) (some 2) (I 0) (.mp 0) (.agg [I i, I k]) true = some (.tup [I ((Organ.PM.get l (i, k)).getD 0), .bool (Organ.PM.get l (i, k)).isSome]) := lkp_map _ l (i, k) (.mp 0) rfl
theorem loop81_3 (hx : x.Ok) (hb : But bt out x.tunes.length) (hL : ∀ a b c, 6 ≤ a → 1 ≤ c → (mkE 157 .any L).all (under a b c 1 6) = true) (is : Bool) (m0 : Tb) (i : Nat) (hi : i < 6) : ∀ (n k : Nat), k + n = 6 →
    run Cv 81 (.loop keep81_3 body81_3) (head81_3 i k) (S9 x bt l L (fillR m0 i (Organ.rowAt l i k)) is) = some (.ex 8, mkE 157 .any [(71, .bool false), (70, I 6), (63, I i), (11, I i), (5, .box 2 0), (4, .box 1 0)], S9 x bt l L (fillR m0 i (Organ.rowAt l i 6)) is)
  | 0, k, hk => by
    obtain rfl : k = 6 := by omega
    have e6 : ((6 : Nat) : Int) = 6 := rfl
    rw [run_loop]
    simp (maxSteps := 10000000) [-List.getD_eq_getElem?_getD, body81_3, keep81_3, head81_3, e6]
  | n + 1, k, hk => by
    have hk6 : k < 6 := by omega
    have hlt : (k : Int) < 6 := by omega
    have hw : IntKind.wrap .i64 ((k : Int) + 1) = ((k + 1 : Nat) : Int) := by rw [wrap_small (by omega) (by omega)]; rfl
    have hc := fun (m m' : Tb) (e : Env) (he : e.all (under 6 0 1 1 6) = true) => cut9 (l := l) (m := m) (is := is) (m' := m') (is' := is) hx hb hL he
    have hl := fun m => lkp9 (x := x) (bt := bt) (L := L) (l := l) m is i k
    have hmp := fun m => mp9 (x := x) (bt := bt) (L := L) (l := l) (m := m) (is := is)
    have hfill : ∀ a b : Int, fillA [(0, 1, I a), (1, 1, I b)] [I 0, I 0] = some [I a, I b] := fun _ _ => rfl
    have i1 := ixa9 hi
    have i2 := fun i => ixb9 (i := i) hk6
    have key : run Cv 81 (.loop keep81_3 body81_3) (head81_3 i k) (S9 x bt l L (fillR m0 i (Organ.rowAt l i k)) is) = run Cv 81 (.loop keep81_3 body81_3) (head81_3 i ((k + 1 : Nat) : Int)) (S9 x bt l L (fillR m0 i (Organ.rowAt l i (k + 1))) is) := by
      rw [run_loop]
      generalize MC.loop keep81_3 body81_3 = L'
      cases hg : Organ.PM.get l ((i : Int), (k : Int)) with
      | none =>
        simp only [hg, Option.getD_none, Option.isSome_none] at hl
        rw [Organ.rowAt_none hg]
        simp (maxSteps := 10000000) [-List.getD_eq_getElem?_getD, -loadA, -storeA, -cut, -ixaA, body81_3, keep81_3, head81_3, hlt, hw, hl, hmp, hfill, i1, i2]
        rw [hc]
        simp (maxSteps := 10000000) [-List.getD_eq_getElem?_getD, ]
      | some v =>
        simp only [hg, Option.getD_some, Option.isSome_some] at hl
        have hst := fun m => st9 (x := x) (bt := bt) (L := L) (l := l) (m := m) (is := is) hi hk6 v
        have hup := Organ.fillR_upd m0 i k (Organ.rowAt l i k) v
        rw [Organ.rowAt_some hg] at hup
        simp (maxSteps := 10000000) [-List.getD_eq_getElem?_getD, -loadA, -storeA, -cut, -ixaA, body81_3, keep81_3, head81_3, hlt, hw, hl, hmp, hfill, i1, i2, hst, hup]
        rw [hc]
        simp (maxSteps := 10000000) [-List.getD_eq_getElem?_getD, ]
    rw [key]
    exact loop81_3 hx hb hL is m0 i hi n (k + 1) (by omega)
theorem eq_row (f : Nat → Int) : eqCells ((List.range' 0 6).map fun k => I (f k)) [I 1048576, I 1048576, I 1048576, I 1048576, I 1048576, I 1048576] = some (!((List.range' 0 6).map f).any fun n => n != 1048576) := by
  show eqCells [I (f 0), I (f 1), I (f 2), I (f 3), I (f 4), I (f 5)] _ = some (!([f 0, f 1, f 2, f 3, f 4, f 5] : List Int).any fun n => n != 1048576)
  simp [eqCells, bne]
def head81_4 (i : Int) : Env := mkE 157 .any [(63, I i), (5, .box 2 0), (4, .box 1 0)]
theorem loop81_4 (hx : x.Ok) (hb : But bt out x.tunes.length) (hL : ∀ a b c, 6 ≤ a → 1 ≤ c → (mkE 157 .any L).all (under a b c 1 6) = true) (is : Bool) : ∀ (n i : Nat), i + n = 6 →
    run Cv 81 (.loop keep81_4 body81_4) (head81_4 i) (S9 x bt l L (half l i) is) = some (.ex 6, mkE 157 .any [(64, .bool false), (63, I 6), (5, .box 2 0), (4, .box 1 0)], S9 x bt l L (half l 6) is)
  | 0, i, hk => by
    obtain rfl : i = 6 := by omega
    have e6 : ((6 : Nat) : Int) = 6 := rfl
    rw [run_loop]
    simp (maxSteps := 10000000) [-List.getD_eq_getElem?_getD, body81_4, keep81_4, head81_4, e6]
  | n + 1, i, hk => by
    have hi : i < 6 := by omega
    have hlt : (i : Int) < 6 := by omega
    have hw : IntKind.wrap .i64 ((i : Int) + 1) = ((i + 1 : Nat) : Int) := by rw [wrap_small (by omega) (by omega)]; rfl
    have hc := fun (m m' : Tb) (e : Env) (he : e.all (under 6 0 1 1 6) = true) => cut9 (l := l) (m := m) (is := is) (m' := m') (is' := is) hx hb hL he
    have i1 := ixa9 hi
    have i2 := fun j => ixb9 (i := j) hi
    have hfl := fill9 (x := x) (bt := bt) (L := L) (l := l) (m := half l i) (is := is) hi
    have hin := fun E (hE : mask keep81_3 E = _) => run_at (loop81_3 (l := l) hx hb hL is (half l i) i hi 6 0 (by omega)) hE
    have e5 : ((0 : Nat) : Int) = 0 := rfl
    have hr0 : Organ.rowAt l i 0 = fun _ => 1048576 := by funext b; simp [Organ.rowAt]
    simp only [keep81_3, head81_3, e5, hr0] at hin
    have hrow := row9 (x := x) (bt := bt) (L := L) (l := l) (m := fillR (half l i) i (Organ.rowAt l i 6)) (is := is) hi
    have hf : (fun k => I (fillR (half l i) i (Organ.rowAt l i 6) i k)) = fun k => I (Organ.rowAt l i 6 k) := by funext k; simp [fillR]
    rw [hf] at hrow
    have heq := eq_row (Organ.rowAt l i 6)
    rw [← Organ.told_flat l i] at heq
    have hgl : ∀ σ, loadA σ (some 6) (.rp [I 1048576, I 1048576, I 1048576, I 1048576, I 1048576, I 1048576] 0) = some (.agg [I 1048576, I 1048576, I 1048576, I 1048576, I 1048576, I 1048576]) := fun _ => rfl
    have hll : ((List.range' 0 6).map fun k => I (Organ.rowAt l i 6 k)).length = 6 := rfl
    have hst := st9 (x := x) (bt := bt) (L := L) (l := l) (m := fillR (half l i) i (Organ.rowAt l i 6)) (is := is) hi hi 0
    have hup := Organ.fillR_upd (half l i) i i (Organ.rowAt l i 6) 0
    have hnx := Organ.half_next l i
    have key : run Cv 81 (.loop keep81_4 body81_4) (head81_4 i) (S9 x bt l L (half l i) is) = run Cv 81 (.loop keep81_4 body81_4) (head81_4 ((i + 1 : Nat) : Int)) (S9 x bt l L (half l (i + 1)) is) := by
      rw [← S9_congr hnx]
      generalize (List.range' 0 6).map (fun k => I (Organ.rowAt l i 6 k)) = R at *
      rw [run_loop]
      generalize MC.loop keep81_4 body81_4 = L'
      cases ht : told l i with
      | true =>
        rw [ht] at heq
        simp only [and_true]
        simp (maxSteps := 10000000) [-List.getD_eq_getElem?_getD, -loadA, -storeA, -cut, -ixaA, body81_4, keep81_4, head81_4, keep81_3, hlt, hw, i1, i2, hfl, hin, hrow, heq, hgl, hll, hst, hup]
        rw [hc]
        simp (maxSteps := 10000000) [-List.getD_eq_getElem?_getD, ]
      | false =>
        rw [ht] at heq
        simp only [and_false, Bool.false_eq_true, if_false]
        simp (maxSteps := 10000000) [-List.getD_eq_getElem?_getD, -loadA, -storeA, -cut, -ixaA, body81_4, keep81_4, head81_4, keep81_3, hlt, hw, i1, i2, hfl, hin, hrow, heq, hgl, hll]
        rw [hc]
        simp (maxSteps := 10000000) [-List.getD_eq_getElem?_getD, ]
    rw [key]
    exact loop81_4 hx hb hL is n (i + 1) (by omega)
end
end Go.Ai
