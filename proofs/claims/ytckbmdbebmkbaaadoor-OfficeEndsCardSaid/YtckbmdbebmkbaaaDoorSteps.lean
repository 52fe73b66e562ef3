/- This text shows how equations are worked out, one operation at a time. No conditions of its own. -/
import Derived.Test.YtckbmdbebmkbaaaDoorSimp
set_option linter.unusedSimpArgs false
set_option linter.unusedVariables false
namespace Go.Ai
def mkE (n : Nat) (z : AV) : List (Nat × AV) → Env
  | [] => List.replicate n z
  | p :: l => (mkE n z l).set p.1 p.2
def gt (e : Env) (t : Nat) : AV := e.getD t .any
theorem mkE_len (n : Nat) (z : AV) : ∀ l, (mkE n z l).length = n
  | [] => List.length_replicate
  | p :: l => by rw [mkE, List.length_set, mkE_len n z l]
theorem mkE_set (n : Nat) (z : AV) (l : List (Nat × AV)) (i : Nat) (v : AV) : (mkE n z l).set i v = mkE n z ((i, v) :: l) := by rw [mkE]
theorem gt_hit {n i : Nat} {z v : AV} {l : List (Nat × AV)} (h : i < n) : gt (mkE n z ((i, v) :: l)) i = v := by
  have : i < (mkE n z l).length := by rw [mkE_len]; exact h
  simp [gt, mkE, this]
theorem gt_miss {n i j : Nat} {z v : AV} {l : List (Nat × AV)} (h : i ≠ j) : gt (mkE n z ((i, v) :: l)) j = gt (mkE n z l) j := by
  simp [gt, mkE, h]
theorem gt_none {n j : Nat} {z : AV} (h : j < n) : gt (mkE n z []) j = z := by
  simp [gt, mkE, h]
theorem ev_tmp (e : Env) (t : Nat) : ev e (.tmp t) = gt e t := rfl
theorem ev_cst (e : Env) (v : AV) : ev e (.cst v) = v := rfl
def wantV (w : Bool) : AV → Option Bool
  | .bool b => some (b == w)
  | .undef => some false
  | _ => none
theorem wanted_none (e : Env) : wantedA e none = some true := rfl
theorem wanted_some (e : Env) (d : Nat) (w : Bool) : wantedA e (some (some d, w)) = wantV w (gt e d) := by
  unfold wantedA wantV gt
  simp only []
  cases e.getD d .any <;> rfl
theorem wantV_bool (w b : Bool) : wantV w (.bool b) = some (b == w) := rfl
theorem wantV_undef (w : Bool) : wantV w .undef = some false := rfl
theorem wantV_ite (w : Bool) {p : Prop} [Decidable p] (x y : AV) : wantV w (if p then x else y) = if p then wantV w x else wantV w y := by split <;> rfl
theorem putA_some (e : Env) (d : Nat) (v : AV) : putA e (some d) v = e.set d v := rfl
theorem putA_none (e : Env) (v : AV) : putA e none v = e := rfl
theorem rets_nil (e : Env) (σ : St) : retsA e σ [] = some [] := rfl
theorem rets_val (e : Env) (σ : St) (t : Nat) (rs) : retsA e σ ((t, none) :: rs) = (retsA e σ rs).map (gt e t :: ·) := rfl
theorem rets_cell (e : Env) (σ : St) (t : Nat) (n : Option Nat) (rs) : retsA e σ ((t, some n) :: rs) = (loadA σ n (gt e t)).bind fun v => (retsA e σ rs).map (v :: ·) := rfl
theorem mask_none (e : Env) : mask none e = e := rfl
theorem mask_some (n : Nat) (z : AV) (l : List (Nat × AV)) (ks : List Nat) : mask (some ks) (mkE n z l) = ks.foldl (fun a k => a.set k (gt (mkE n z l) k)) (mkE n .any []) := by
  simp only [mask, mkE_len]; rfl
def argL : Nat → List AV → List (Nat × AV) → List (Nat × AV)
  | _, [], acc => acc
  | k, a :: as, acc => argL (k + 1) as ((k, a) :: acc)
theorem argL_get (z : AV) : ∀ (as : List AV) (k n : Nat) (acc : List (Nat × AV)) (pre : List AV), pre.length = k → k + as.length ≤ n → mkE n z acc = pre ++ List.replicate (n - k) z → mkE n z (argL k as acc) = pre ++ as ++ List.replicate (n - k - as.length) z
  | [], k, n, acc, pre, hp, hl, h => by simpa [argL] using h
  | a :: as, k, n, acc, pre, hp, hl, h => by
    simp only [List.length_cons] at hl
    have hs : mkE n z ((k, a) :: acc) = (pre ++ [a]) ++ List.replicate (n - (k + 1)) z := by
      obtain ⟨m, hm⟩ : ∃ m, n - k = m + 1 := ⟨n - k - 1, by omega⟩
      rw [mkE, h, hm, show n - (k + 1) = m from by omega, ← hp, List.set_append_right _ _ (Nat.le_refl _)]
      simp [List.replicate_succ]
    have := argL_get z as (k + 1) n ((k, a) :: acc) (pre ++ [a]) (by simp [hp]) (by omega) hs
    rw [argL, this, show n - (k + 1) - as.length = n - k - (a :: as).length from by simp; omega]
    simp
theorem startE {n : Nat} {args : List AV} (h : args.length ≤ n) : args ++ List.replicate (n - args.length) .undef = mkE n .undef (argL 0 args []) := by
  have := argL_get .undef args 0 n [] [] rfl (by omega) (by simp [mkE])
  simpa using this.symm
theorem call_run {C : Cfg} {f : FuncId} {args : List AV} {fn : MF} (h : compF C f = some fn) (hl : args.length ≤ fn.ntmps) : call C f args = purR (endA fn.results (run C f fn.body (mkE fn.ntmps .undef (argL 0 args [])) {})) := by
  rw [call_def h, startE hl]
end Go.Ai

namespace Go.Ai
section
variable {C : Cfg} {R : Rec} {d : Bool} {f : FuncId} {e : Env} {σ : St}
def gate (x : Option (AV × St)) (σ : St) : Option Bool → Option (AV × St)
  | some b => condA b x σ
  | none => none
theorem st_nil {s} : opsA C R d [] s = s := by rw [opsA_nil]
theorem st_op {dst : Option Tmp} {op : MOp} {l : List MO} : opsA C R d (⟨dst, none, op⟩ :: l) (some (e, σ)) = opsA C R d l (putR e dst (operA C R d e σ op)) := by
  rw [opsA_cons, oneA, wanted_none]; exact id rfl
theorem st_gd {dst : Option Tmp} {t : Tmp} {w : Bool} {op : MOp} {l : List MO} : opsA C R d (⟨dst, some (some t, w), op⟩ :: l) (some (e, σ)) = opsA C R d l (putR e dst (gate (operA C R d e σ op) σ (wantV w (gt e t)))) := by
  rw [opsA_cons, oneA, wanted_some]; cases wantV w (gt e t) <;> exact id rfl
theorem st_gn {dst : Option Tmp} {w : Bool} {op : MOp} {l : List MO} : opsA C R d (⟨dst, some (none, w), op⟩ :: l) (some (e, σ)) = opsA C R d l (putR e dst (some (.undef, σ))) := by
  rw [opsA_cons, oneA]; exact id rfl
theorem gate_t {x : Option (AV × St)} {b : Bool} : gate x σ (wantV true (.bool b)) = if b = true then x else some (.undef, σ) := by cases b <;> exact id rfl
theorem gate_f {x : Option (AV × St)} {b : Bool} : gate x σ (wantV false (.bool b)) = if b = true then some (.undef, σ) else x := by cases b <;> exact id rfl
theorem gate_u {x : Option (AV × St)} {w : Bool} : gate x σ (wantV w .undef) = some (.undef, σ) := id rfl
theorem gate_i {x : Option (AV × St)} {w : Bool} {p : Prop} [Decidable p] {v u : AV} : gate x σ (wantV w (if p then v else u)) = if p then gate x σ (wantV w v) else gate x σ (wantV w u) := by split <;> rfl
theorem putR_s {dst : Tmp} {v : AV} : putR e (some dst) (some (v, σ)) = some (e.set dst v, σ) := id rfl
theorem putR_n {v : AV} : putR e none (some (v, σ)) = some (e, σ) := id rfl
theorem op_mov {x : Opd} : operA C R d e σ (.mov x) = some (ev e x, σ) := id rfl
def pickA (σ : St) (a b : AV) : AV → Option (AV × St)
  | .bool v => some (if v = true then a else b, σ)
  | _ => none
theorem op_pick {c a b : Opd} : operA C R d e σ (.pick c a b) = pickA σ (ev e a) (ev e b) (ev e c) := by
  rw [operA]
  cases h : ev e c <;> exact id rfl
theorem pick_b {a b : AV} {v : Bool} : pickA σ a b (.bool v) = some (if v = true then a else b, σ) := id rfl
theorem op_bld {z ps} : operA C R d e σ (.bld z ps) = (fillA (ps.map fun p => (p.1, p.2.1, ev e p.2.2)) z).map fun cs => (.agg cs, σ) := id rfl
theorem op_bsl {sz ag z n ps} : operA C R d e σ (.bsl sz ag z n ps) = (fillE sz ag (ps.map fun p => (p.1, ev e p.2)) (List.replicate n z)).map fun es => (.sl sz es .full, σ) := id rfl
theorem op_bsw {sz ag z n ps} : operA C R d e σ (.bsw sz ag z n ps) = bswA σ sz ag z n (ps.map fun p => (p.1, ev e p.2)) := id rfl
theorem op_bsf {sz ag z n ps} : operA C R d e σ (.bsf sz ag z n ps) = bsfA σ sz ag z n (ps.map fun p => (p.1, ev e p.2)) := id rfl
theorem op_load {n p} : operA C R d e σ (.load n p) = (loadA σ n (ev e p)).map fun v => (v, σ) := id rfl
theorem op_nck {p} : operA C R d e σ (.nck p) = (match ev e p with | .box b o => some (.box b o, σ) | .rp cs o => some (.rp cs o, σ) | _ => none) := id rfl
theorem op_bin {op x y} : operA C R d e σ (.bin op x y) = (binA op (ev e x) (ev e y)).map fun v => (v, σ) := id rfl
theorem op_beq {ne x y} : operA C R d e σ (.beq ne x y) = (match ev e x, ev e y with | .bool a, .bool b => some (.bool ((a == b) != ne), σ) | _, _ => none) := id rfl
theorem op_eqa {n ne x y} : operA C R d e σ (.eqa n ne x y) = (match ev e x, ev e y with | .agg xs, .agg ys => if xs.length = n ∧ ys.length = n then (eqCells xs ys).map fun r => (.bool (r != ne), σ) else none | _, _ => none) := id rfl
theorem op_eqn {ne x} : operA C R d e σ (.eqn ne x) = (isNil (ev e x)).map fun r => (.bool (r != ne), σ) := id rfl
theorem op_neg {x} : operA C R d e σ (.neg x) = (match ev e x with | .int k n => some (.int k (k.wrap (0 - n)), σ) | _ => none) := id rfl
theorem op_lnot {x} : operA C R d e σ (.lnot x) = (match ev e x with | .bool b => some (.bool !b, σ) | _ => none) := id rfl
theorem op_conv {k x} : operA C R d e σ (.conv k x) = (match ev e x with | .int _ n => some (.int k (k.wrap n), σ) | _ => none) := id rfl
theorem op_mkf {g a b} : operA C R d e σ (.mkf g a b) = some (.fn g (a.map (ev e)) (b.map (ev e)), σ) := id rfl
theorem op_slc {sz x lo hi mx} : operA C R d e σ (.slc sz x lo hi mx) = (slcA sz (ev e x) (lo.map (ev e)) (hi.map (ev e)) (mx.map (ev e))).map fun v => (v, σ) := id rfl
theorem op_arr {n sz ag x} : operA C R d e σ (.arr n sz ag x) = (arrA σ n sz ag (ev e x)).map fun v => (v, σ) := id rfl
theorem op_fad {x off} : operA C R d e σ (.fad x off) = (ptrAdd (ev e x) off).map fun v => (v, σ) := id rfl
theorem op_fld {n x off} : operA C R d e σ (.fld n x off) = (fldA n (ev e x) off).map fun v => (v, σ) := id rfl
theorem op_ixa {len sz x i} : operA C R d e σ (.ixa len sz x i) = (ixaA len sz (ev e x) (ev e i)).map fun v => (v, σ) := id rfl
theorem op_ixs {sz x i} : operA C R d e σ (.ixs sz x i) = (ixsA sz (ev e x) (ev e i)).map fun v => (v, σ) := id rfl
theorem op_ixv {len sz n x i} : operA C R d e σ (.ixv len sz n x i) = (ixvA len sz n (ev e x) (ev e i)).map fun v => (v, σ) := id rfl
theorem op_lkp {kn z m k ok} : operA C R d e σ (.lkp kn z m k ok) = (lkpA σ kn z (ev e m) (ev e k) ok).map fun v => (v, σ) := id rfl
theorem op_ext {x i} : operA C R d e σ (.ext x i) = (match ev e x with | .tup vs => (vs[i]?).map fun v => (v, σ) | _ => none) := id rfl
theorem op_len {x} : operA C R d e σ (.len x) = (lenA (ev e x)).map fun v => (v, σ) := id rfl
theorem op_lenc {n} : operA C R d e σ (.lenc n) = some (I n, σ) := id rfl
theorem op_mn {x xs} : operA C R d e σ (.mn x xs) = (foldA min2 (ev e x) (xs.map (ev e))).map fun v => (v, σ) := id rfl
theorem op_mx {x xs} : operA C R d e σ (.mx x xs) = (foldA max2 (ev e x) (xs.map (ev e))).map fun v => (v, σ) := id rfl
theorem op_alloc {z} : operA C R d e σ (.alloc z) = some (.box σ.boxes.length 0, { σ with boxes := σ.boxes ++ [z] }) := id rfl
theorem op_box {x} : operA C R d e σ (.box x) = boxA σ (ev e x) := id rfl
theorem op_store {n p x} : operA C R d e σ (.store n p x) = (storeA σ n (ev e p) (ev e x)).map fun σ => (.undef, σ) := id rfl
theorem op_mkm : operA C R d e σ .mkm = some (.mp σ.maps.length, { σ with maps := σ.maps ++ [([], [])] }) := id rfl
theorem op_mks {sz bytes ag z n c} : operA C R d e σ (.mks sz bytes ag z n c) = mksA σ sz bytes ag z (ev e n) (ev e c) := id rfl
theorem op_mput {kn m k v} : operA C R d e σ (.mput kn m k v) = (mputA σ kn (ev e m) (ev e k) (ev e v)).map fun σ => (.undef, σ) := id rfl
theorem op_ment {kn z m k} : operA C R d e σ (.ment kn z m k) = mentA σ kn z (ev e m) (ev e k) := id rfl
theorem op_esto {m s v} : operA C R d e σ (.esto m s v) = (estoA σ (ev e m) (ev e s) (ev e v)).map fun σ => (.undef, σ) := id rfl
theorem op_ixt {x i} : operA C R d e σ (.ixt x i) = (ixtA (ev e x) (ev e i)).map fun v => (v, σ) := id rfl
theorem op_clr {sz z x} : operA C R d e σ (.clr sz z x) = (clrA σ sz z (ev e x)).map fun σ => (.tup [], σ) := id rfl
theorem op_app {w sz bytes ag s x} : operA C R d e σ (.app w sz bytes ag s x) = appA σ w sz bytes ag (ev e s) (ev e x) := id rfl
theorem op_call {g xs} : operA C R d e σ (.call g xs) = if (d && !still C g (ev e g)) = true then none else callA C R d (ev e g) (xs.map (ev e)) σ := id rfl
theorem th_nm {b : MC} : thenA R f b (some (.nm, e, σ)) = R f b e σ := id rfl
theorem th_rt {b : MC} : thenA R f b (some (.rt, e, σ)) = some (.rt, e, σ) := id rfl
theorem th_ex {b : MC} {i : Nat} : thenA R f b (some (.ex i, e, σ)) = some (.ex i, e, σ) := id rfl
theorem bl_nm {id' : Nat} : blockA id' (some (.nm, e, σ)) = some (.nm, e, σ) := id rfl
theorem bl_rt {id' : Nat} : blockA id' (some (.rt, e, σ)) = some (.rt, e, σ) := id rfl
theorem bl_ex {id' i : Nat} : blockA id' (some (.ex i, e, σ)) = some (if i = id' then .nm else .ex i, e, σ) := id rfl
theorem nm_some : nmA (some (e, σ)) = some (.nm, e, σ) := id rfl
theorem cond_bool {a b : MC} {c : Bool} : condC R f a b e σ (.bool c) = if c = true then R f a e σ else R f b e σ := id rfl
theorem ag_nm {k L} {σ0 : St} : againA R f k L σ0 (some (.nm, e, σ)) = R f L (mask k e) (cut σ0 σ (mask k e)) := id rfl
theorem ag_rt {k L} {σ0 : St} : againA R f k L σ0 (some (.rt, e, σ)) = some (.rt, e, σ) := id rfl
theorem ag_ex {k L} {σ0 : St} {i : Nat} : againA R f k L σ0 (some (.ex i, e, σ)) = some (.ex i, e, σ) := id rfl
theorem en_nm {rs} : endA rs (some (.nm, e, σ)) = (retA rs e σ).map fun v => (v, σ) := id rfl
theorem en_rt {rs} : endA rs (some (.rt, e, σ)) = (retA rs e σ).map fun v => (v, σ) := id rfl
theorem retA_one {rs} {v : AV} (h : retsA e σ rs = some [v]) : retA rs e σ = some v := by rw [retA, h]; rfl
theorem retA_two {rs} {v w : AV} (h : retsA e σ rs = some [v, w]) : retA rs e σ = some (.tup [v, w]) := by rw [retA, h]; rfl
theorem retA_three {rs} {v w u : AV} (h : retsA e σ rs = some [v, w, u]) : retA rs e σ = some (.tup [v, w, u]) := by rw [retA, h]; rfl
theorem purR_some {r : AV × St} : purR (some r) = (pur r.2 depth r.1).map (·.1) := id rfl
theorem dp : depth = 12 := id rfl
theorem pa_nil {g : AV → Option (AV × Bool)} : purAll g [] = some ([], false) := id rfl
theorem pa_cons {g : AV → Option (AV × Bool)} {v : AV} {vs : List AV} : purAll g (v :: vs) = (g v).bind fun r => (purAll g vs).bind fun s => some (r.1 :: s.1, r.2 || s.2) := id rfl
theorem bind_pa {ws : List AV} {b : Bool} {g : List AV × Bool → Option (List AV × Bool)} : (some (ws, b)).bind g = g (ws, b) := id rfl
theorem pu_int {n : Nat} {k m} : pur σ (n + 1) (.int k m) = some (.int k m, false) := id rfl
theorem pu_bool {n : Nat} {b} : pur σ (n + 1) (.bool b) = some (.bool b, false) := id rfl
theorem pu_str {n : Nat} {b} : pur σ (n + 1) (.str b) = some (.str b, false) := id rfl
theorem pu_any {n : Nat} : pur σ (n + 1) .any = some (.any, false) := id rfl
theorem pu_undef {n : Nat} : pur σ (n + 1) .undef = some (.undef, false) := id rfl
theorem pu_nils {n : Nat} : pur σ (n + 1) .nils = some (.nils, false) := id rfl
theorem pu_esl {n : Nat} : pur σ (n + 1) .esl = some (.esl, false) := id rfl
theorem pu_nilm {n : Nat} : pur σ (n + 1) .nilm = some (.nilm, false) := id rfl
theorem pu_nilp {n : Nat} : pur σ (n + 1) .nilp = some (.nilp, false) := id rfl
theorem pu_nilf {n : Nat} : pur σ (n + 1) .nilf = some (.nilf, false) := id rfl
theorem pu_sl {n : Nat} {sz es c} : pur σ (n + 1) (.sl sz es c) = some (.sl sz es c.pure, false) := id rfl
theorem pu_mapv {n : Nat} {ks vs} : pur σ (n + 1) (.mapv ks vs) = some (.mapv ks vs, false) := id rfl
theorem pu_rp {n : Nat} {cs off} : pur σ (n + 1) (.rp cs off) = some (.rp cs off, false) := id rfl
theorem pu_agg {n : Nat} {cs} : pur σ (n + 1) (.agg cs) = (purAll (pur σ n) cs).bind fun r => some (.agg r.1, r.2) := id rfl
theorem pu_tup {n : Nat} {cs} : pur σ (n + 1) (.tup cs) = (purAll (pur σ n) cs).bind fun r => some (.tup r.1, r.2) := id rfl
theorem pu_wsl {n : Nat} {b off m sz ag} : pur σ (n + 1) (.wsl b off m sz ag) = (σ.boxes[b]?).bind fun cs => (purAll (pur σ n) cs).bind fun r => if off + m * sz ≤ r.1.length ∧ (ag = true ∨ sz = 1) then some (.sl sz (chunk sz ag m (r.1.drop off)) .no, true) else none := id rfl
theorem pu_mp {n m : Nat} : pur σ (n + 1) (.mp m) = (σ.maps[m]?).bind fun es => (purAll (pur σ n) es.1).bind fun r => (purAll (pur σ n) es.2).bind fun s => some (.mapv r.1 s.1, true) := id rfl
theorem pu_fn {n : Nat} {g a b} : pur σ (n + 1) (.fn g a b) = (purAll (pur σ n) a).bind fun r => (purAll (pur σ n) b).bind fun s => some (.fn g r.1 s.1, r.2 || s.2) := id rfl
theorem pu_yld {n l : Nat} : pur σ (n + 1) (.yld l) = none := id rfl
theorem pu_box {n : Nat} {b off} : pur σ (n + 1) (.box b off) = (σ.boxes[b]?).bind fun cs => (purAll (pur σ n) cs).bind fun r => some (.rp r.1 off, true) := id rfl
theorem ca_none {g : FuncId} {a b args : List AV} (h : C.imp g = false) : callA C (run C) d (.fn (.func g) a b) args σ = pureCallA C (run C) d g σ (purAll (pur σ 12) (a ++ args ++ b)) := call_none h
theorem pc_some {g : FuncId} {as : List AV} {t : Bool} : pureCallA C (run C) d g σ (some (as, t)) = backA σ d t (call C g as) := id rfl
theorem ba_f {v : AV} : backA σ d false (some v) = some (v, σ) := id rfl
theorem ba_t {v : AV} : backA σ false true (some v) = some (v, if fo 12 v = true then σ else { σ with ro := σ.boxes.length, mro := σ.maps.length }) := id rfl
theorem th_if {b : MC} {p : Prop} [Decidable p] {x y : Option Out} : thenA R f b (if p then x else y) = if p then thenA R f b x else thenA R f b y := by split <;> rfl
theorem bl_if {id' : Nat} {p : Prop} [Decidable p] {x y : Option Out} : blockA id' (if p then x else y) = if p then blockA id' x else blockA id' y := by split <;> rfl
theorem ag_if {k L} {σ0 : St} {p : Prop} [Decidable p] {x y : Option Out} : againA R f k L σ0 (if p then x else y) = if p then againA R f k L σ0 x else againA R f k L σ0 y := by split <;> rfl
theorem en_if {rs} {p : Prop} [Decidable p] {x y : Option Out} : endA rs (if p then x else y) = if p then endA rs x else endA rs y := by split <;> rfl
theorem pr_if {p : Prop} [Decidable p] {x y : Option (AV × St)} : purR (if p then x else y) = if p then purR x else purR y := by split <;> rfl
theorem pu_if {n : Nat} {p : Prop} [Decidable p] {a b : Bool} : pur σ (n + 1) (if p then .bool a else .bool b) = some (if p then .bool a else .bool b, false) := by split <;> exact id rfl
theorem if_fb {p : Prop} [Decidable p] {b : Bool} : ((if p then AV.bool false else AV.bool b) = AV.bool true) = (¬ p ∧ b = true) := by split <;> simp_all
theorem all_E {n : Nat} {z : AV} {l : List (Nat × AV)} {p : AV → Bool} (h : l.all (fun q => p q.2) = true) (hz : p z = true) : (mkE n z l).all p = true := by
  induction l with
  | nil => rw [mkE, List.all_replicate]; split <;> simp [hz]
  | cons q l ih =>
    rw [List.all_cons, Bool.and_eq_true] at h
    rw [mkE, List.all_eq_true]
    intro x hx
    have := ih h.2
    rw [List.all_eq_true] at this
    rcases List.mem_or_eq_of_mem_set hx with hx | rfl
    · exact this x hx
    · exact h.1
theorem map_some' {α β : Type} {g : α → β} {a : α} : (some a).map g = some (g a) := id rfl
end
end Go.Ai

namespace Go.Ai
theorem mask_mask (k : Option (List Tmp)) (e : Env) : mask k (mask k e) = mask k e := by
  cases k with
  | none => rfl
  | some ks =>
    have len : ∀ (ks : List Tmp) (a e : Env), (ks.foldl (fun a k => a.set k (e.getD k .any)) a).length = a.length := by
      intro ks
      induction ks with
      | nil => exact fun _ _ => rfl
      | cons k ks ih => intro a e; simp only [List.foldl_cons]; rw [ih]; simp
    have get : ∀ (ks : List Tmp) (a e : Env) (i : Nat), i < a.length → (ks.foldl (fun a k => a.set k (e.getD k .any)) a).getD i .any = if i ∈ ks then e.getD i .any else a.getD i .any := by
      intro ks
      induction ks with
      | nil => intro a e i _; simp
      | cons k ks ih =>
        intro a e i hi
        simp only [List.foldl_cons]
        rw [ih _ _ _ (by simpa using hi)]
        by_cases h1 : i ∈ ks
        · simp [h1]
        · by_cases h2 : i = k
          · subst h2
            simp [h1, List.getD_eq_getElem?_getD, hi]
          · simp only [h1, if_false, List.mem_cons, h2, or_self]
            rw [List.getD_eq_getElem?_getD, List.getElem?_set_ne (Ne.symm h2), List.getD_eq_getElem?_getD]
    apply List.ext_getElem?
    intro i
    simp only [mask]
    have l1 : ∀ e : Env, (ks.foldl (fun a k => a.set k (e.getD k .any)) (List.replicate e.length .any)).length = e.length := fun e => by rw [len]; simp
    rcases Nat.lt_or_ge i e.length with hi | hi
    · have g : ∀ (a b : Env), i < a.length → i < b.length → a.getD i .any = b.getD i .any → a[i]? = b[i]? := by
        intro a b ha hb h
        rw [List.getElem?_eq_getElem ha, List.getElem?_eq_getElem hb]
        simp only [List.getD_eq_getElem?_getD, List.getElem?_eq_getElem ha, List.getElem?_eq_getElem hb, Option.getD_some] at h
        rw [h]
      refine g _ _ (by rw [l1, l1]; exact hi) (by rw [l1]; exact hi) ?_
      rw [get _ _ _ _ (by rw [List.length_replicate, l1]; exact hi), get _ _ _ _ (by rw [List.length_replicate]; exact hi)]
      have rep : ∀ n, (List.replicate n AV.any).getD i .any = .any := by
        intro n
        rw [List.getD_eq_getElem?_getD, List.getElem?_replicate]
        split <;> rfl
      by_cases h : i ∈ ks
      · simp only [h, if_true]
      · simp only [h, if_false]
        rw [rep, rep]
    · rw [List.getElem?_eq_none (by rw [l1, l1]; exact hi), List.getElem?_eq_none (by rw [l1]; exact hi)]
theorem run_loop_mask {C : Cfg} {f : FuncId} {k : Option (List Tmp)} {b : MC} {e : Env} {σ : St} : run C f (.loop k b) e σ = run C f (.loop k b) (mask k e) σ := by
  rw [run_loop, run_loop, mask_mask]
theorem all_f {n : Nat} {z : AV} {l : List (Nat × AV)} {p : AV → Bool} (t : Nat) (ht : t < n) (h : p (gt (mkE n z l) t) = false) : (mkE n z l).all p = false := by
  rw [List.all_eq_false]
  have hl : t < (mkE n z l).length := by rw [mkE_len]; exact ht
  refine ⟨(mkE n z l)[t], List.getElem_mem hl, ?_⟩
  have : gt (mkE n z l) t = (mkE n z l)[t] := by
    show (mkE n z l).getD t .any = _
    rw [List.getD_eq_getElem?_getD, List.getElem?_eq_getElem hl]; rfl
  rw [← this, h]; simp
section
variable {b c m l n : Nat}
theorem un_any : under b c m l (n + 1) .any = true := id rfl
theorem un_undef : under b c m l (n + 1) .undef = true := id rfl
theorem un_int {k : IntKind} {i : Int} : under b c m l (n + 1) (.int k i) = true := id rfl
theorem un_bool {x : Bool} : under b c m l (n + 1) (.bool x) = true := id rfl
theorem un_str {x : ByteArray} : under b c m l (n + 1) (.str x) = true := id rfl
theorem un_nils : under b c m l (n + 1) .nils = true := id rfl
theorem un_esl : under b c m l (n + 1) .esl = true := id rfl
theorem un_nilp : under b c m l (n + 1) .nilp = true := id rfl
theorem un_nilm : under b c m l (n + 1) .nilm = true := id rfl
theorem un_nilf : under b c m l (n + 1) .nilf = true := id rfl
theorem un_full {sz : Nat} {es : List AV} : under b c m l (n + 1) (.sl sz es .full) = true := id rfl
theorem un_no {sz : Nat} {es : List AV} : under b c m l (n + 1) (.sl sz es .no) = true := id rfl
theorem un_chain {sz i : Nat} {es : List AV} : under b c m l (n + 1) (.sl sz es (.chain i)) = decide (i < c) := id rfl
theorem un_wsl {i o k sz : Nat} {ag : Bool} : under b c m l (n + 1) (.wsl i o k sz ag) = decide (i < b) := id rfl
theorem un_box {i o : Nat} : under b c m l (n + 1) (.box i o) = decide (i < b) := id rfl
theorem un_mp {i : Nat} : under b c m l (n + 1) (.mp i) = decide (i < m) := id rfl
theorem un_yld {i : Nat} : under b c m l (n + 1) (.yld i) = decide (i < l) := id rfl
theorem un_agg {cs : List AV} : under b c m l (n + 1) (.agg cs) = cs.all (under b c m l n) := id rfl
theorem un_tup {cs : List AV} : under b c m l (n + 1) (.tup cs) = cs.all (under b c m l n) := id rfl
theorem un_fn {f : Fn} {xs ys : List AV} : under b c m l (n + 1) (.fn f xs ys) = (xs.all (under b c m l n) && ys.all (under b c m l n)) := id rfl
theorem un_mapv {ks vs : List AV} : under b c m l (n + 1) (.mapv ks vs) = true := id rfl
theorem un_rp {cs : List AV} {o : Nat} : under b c m l (n + 1) (.rp cs o) = true := id rfl
theorem all_A {k : Nat} {es : List (Nat × AV)} (h : es.all (fun q => under b c m l (n + 1) q.2) = true) : (mkE k .any es).all (under b c m l (n + 1)) = true := all_E h un_any
end
attribute [simp] mkE_set mkE_len gt_hit gt_miss gt_none ev_tmp ev_cst rets_nil rets_val rets_cell mask_none mask_some argL st_nil st_op st_gd st_gn all_A un_any un_undef un_int un_bool un_str un_nils un_esl un_nilp un_nilm un_nilf un_full un_no un_chain un_wsl un_box un_mp un_yld un_agg un_tup un_fn un_mapv un_rp pick_b gate_t gate_f gate_u gate_i putR_s putR_n th_nm th_rt th_ex bl_nm bl_rt bl_ex nm_some cond_bool ag_nm ag_rt ag_ex en_nm en_rt retA_one retA_two retA_three wrap_small purR_some th_if bl_if ag_if en_if pr_if dp pa_nil pa_cons pu_int pu_bool pu_str pu_any pu_undef pu_nils pu_esl pu_nilm pu_nilp pu_nilf pu_sl pu_mapv pu_rp pu_agg pu_tup pu_wsl pu_mp pu_fn pu_yld pu_box pu_if ca_none pc_some ba_f ba_t op_mov op_pick op_bld op_bsl op_bsw op_bsf op_load op_nck op_bin op_beq op_eqa op_eqn op_neg op_lnot op_conv op_mkf op_slc op_arr op_fad op_fld op_ixa op_ixs op_ixv op_lkp op_ext op_len op_lenc op_mn op_mx op_alloc op_box op_store op_mkm op_mks op_mput op_ment op_esto op_clr op_ixt op_app op_call
end Go.Ai
