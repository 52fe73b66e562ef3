/- This text shows how an equation about the interpreter is worked out. No conditions of its own. -/
import Derived.Test.YtckbmdbebmkbaaaDoorFrameE
import Derived.Laws.BitsLemmas
set_option linter.unusedSimpArgs false
set_option linter.unusedVariables false
namespace Go.Ai
theorem pureA_call {C : Cfg} {f : FuncId} {args : List AV} : pureA C (run C) f args = call C f args := rfl
theorem call_none {C : Cfg} {R : Rec} {d : Bool} {f : FuncId} {a b args : List AV} {σ : St} (h : C.imp f = false) : callA C R d (.fn (.func f) a b) args σ = pureCallA C R d f σ (purAll (pur σ depth) (a ++ args ++ b)) := by simp [callA, h]
theorem wrap_small {n : Int} (h : -9223372036854775808 ≤ n) (h' : n ≤ 9223372036854775807) : IntKind.wrap .i64 n = n := by rw [IntKind.wrap_i64]; omega
theorem isCell_int (k : IntKind) (n : Int) : (AV.int k n).isCell = true := rfl
theorem isCell_bool (b : Bool) : (AV.bool b).isCell = true := rfl
theorem isCell_str (b : ByteArray) : (AV.str b).isCell = true := rfl
theorem isCell_nils : AV.nils.isCell = true := rfl
theorem isCell_nilm : AV.nilm.isCell = true := rfl
theorem isCell_nilp : AV.nilp.isCell = true := rfl
theorem isCell_nilf : AV.nilf.isCell = true := rfl
theorem isCell_sl (a b c) : (AV.sl a b c).isCell = true := rfl
theorem isCell_wsl (a b c d e) : (AV.wsl a b c d e).isCell = true := rfl
theorem isCell_box (a b) : (AV.box a b).isCell = true := rfl
theorem isCell_rp (a b) : (AV.rp a b).isCell = true := rfl
theorem isCell_mp (a) : (AV.mp a).isCell = true := rfl
theorem isCell_mapv (a b) : (AV.mapv a b).isCell = true := rfl
theorem isCell_fn (a b c) : (AV.fn a b c).isCell = true := rfl
theorem cells_agg (cs : List AV) : (AV.agg cs).cells = cs := rfl
theorem cells_int (k : IntKind) (n : Int) : (AV.int k n).cells = [.int k n] := rfl
theorem cells_bool (b : Bool) : (AV.bool b).cells = [.bool b] := rfl
theorem cells_str (b : ByteArray) : (AV.str b).cells = [.str b] := rfl
theorem cells_nils : AV.nils.cells = [.nils] := rfl
theorem cells_esl : AV.esl.cells = [.esl] := rfl
theorem isCell_esl : AV.esl.isCell = true := rfl
theorem cells_nilm : AV.nilm.cells = [.nilm] := rfl
theorem cells_nilp : AV.nilp.cells = [.nilp] := rfl
theorem cells_nilf : AV.nilf.cells = [.nilf] := rfl
theorem cells_sl (a b c) : (AV.sl a b c).cells = [.sl a b c] := rfl
theorem cells_wsl (a b c d e) : (AV.wsl a b c d e).cells = [.wsl a b c d e] := rfl
theorem cells_box (a b) : (AV.box a b).cells = [.box a b] := rfl
theorem cells_rp (a b) : (AV.rp a b).cells = [.rp a b] := rfl
theorem cells_mp (a) : (AV.mp a).cells = [.mp a] := rfl
theorem cells_mapv (a b) : (AV.mapv a b).cells = [.mapv a b] := rfl
theorem cells_fn (a b c) : (AV.fn a b c).cells = [.fn a b c] := rfl
theorem lenA_nils : lenA .nils = some (I 0) := rfl
theorem lenA_esl : lenA .esl = some (I 0) := rfl
theorem lenA_sl (a b c) : lenA (.sl a b c) = some (I b.length) := rfl
theorem lenA_wsl (a b c d e) : lenA (.wsl a b c d e) = some (I c) := rfl
@[simp] theorem pure_no : Cap.no.pure = .no := rfl
@[simp] theorem pure_full : Cap.full.pure = .full := rfl
@[simp] theorem pure_chain (c : Nat) : (Cap.chain c).pure = .no := rfl
attribute [simp] isCell_int isCell_bool isCell_str isCell_nils isCell_esl isCell_nilm isCell_nilp isCell_nilf isCell_sl isCell_wsl isCell_box isCell_rp isCell_mp isCell_mapv isCell_fn cells_agg cells_int cells_bool cells_str cells_nils cells_esl cells_nilm cells_nilp cells_nilf cells_sl cells_wsl cells_box cells_rp cells_mp cells_mapv cells_fn lenA_nils lenA_esl lenA_sl lenA_wsl run_seq run_ops run_ret run_cond run_block run_exit run_skip run_scope loadA partA ptrAdd binA binI ite_bool_false ite_bool_true ite_pair boxA storeA setAt ixsA ixaA fldA still stillV cut dryAt cutAt

inductive RK where
  | nil | esl | no | full
  deriving DecidableEq
def RK.e (k : RK) : Prop := k = .nil ∨ k = .esl
def RK.cap : RK → Cap
  | .full => .full
  | _ => .no
@[simp] theorem RK.cap_pure (k : RK) : k.cap.pure = k.cap := by cases k <;> rfl
@[simp] theorem under_cap (b c m l n sz : Nat) (es : List AV) (k : RK) : under b c m l (n + 1) (.sl sz es k.cap) = true := by cases k <;> rfl
def rowV (sz : Nat) (es : List AV) (kd : RK) : AV := match kd with
  | .nil => .nils
  | .esl => .esl
  | k => .sl sz es k.cap
theorem rowV_some {sz : Nat} {es : List AV} {k : RK} (h : ¬ k.e) : rowV sz es k = .sl sz es k.cap := by
  cases k with
  | nil => exact absurd (.inl rfl) h
  | esl => exact absurd (.inr rfl) h
  | no => rfl
  | full => rfl
theorem rowV_len (sz : Nat) (es : List AV) (kd : RK) (h : kd.e → es = []) : lenA (rowV sz es kd) = some (I es.length) := by
  cases kd with
  | nil => rw [h (.inl rfl)]; rfl
  | esl => rw [h (.inr rfl)]; rfl
  | no => rfl
  | full => rfl
@[simp] theorem rowV_cell (sz : Nat) (es : List AV) (kd : RK) : (rowV sz es kd).isCell = true := by cases kd <;> rfl
@[simp] theorem rowV_cells (sz : Nat) (es : List AV) (kd : RK) : (rowV sz es kd).cells = [rowV sz es kd] := by cases kd <;> rfl
@[simp] theorem rowV_pur (σ : St) (n sz : Nat) (es : List AV) (kd : RK) : pur σ (n + 1) (rowV sz es kd) = some (rowV sz es kd, false) := by cases kd <;> rfl
@[simp] theorem rowV_under (b c m l n sz : Nat) (es : List AV) (kd : RK) : under b c m l (n + 1) (rowV sz es kd) = true := by cases kd <;> rfl
end Go.Ai
