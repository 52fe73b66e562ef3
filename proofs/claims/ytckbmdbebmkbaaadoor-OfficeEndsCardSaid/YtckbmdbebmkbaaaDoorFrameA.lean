/- This text shows the interpreter, its run, and how its values tell those of the model. No conditions of its own. -/
import Derived.RangeFuncLeaves
set_option linter.unusedSimpArgs false
set_option linter.unusedVariables false
/-
  AN ABSTRACT INTERPRETER OF THE MODEL'S CODE, over values without addresses. Definitions alone.
-/
namespace Go.Ai

inductive Cap where
  | no | full | chain (c : Nat)
  deriving DecidableEq, Inhabited

/-- Values without addresses. 'esl': an empty slice, of which it is not known where it lies. 'any': nothing is known. A slice that is 'sl' bears its elements; 'box' is a pointer into a variable of the call's own; 'rp' one to cells that stay as they are. -/
inductive AV where
  | any
  | undef
  | int (k : IntKind) (n : Int)
  | bool (b : Bool)
  | str (s : ByteArray)
  | nilp | nilm | nilf | nils | esl
  | agg (cs : List AV)
  | tup (vs : List AV)
  | sl (sz : Nat) (es : List AV) (c : Cap)
  | wsl (b off n sz : Nat) (ag : Bool)
  | mapv (ks vs : List AV)
  | mp (m : Nat)
  | fn (f : Fn) (first cap : List AV)
  | yld (l : Nat)
  | box (b off : Nat)
  | rp (cs : List AV) (off : Nat)
  deriving Inhabited

abbrev I (n : Int) : AV := .int .i64 n
abbrev Env := List AV

def AV.cells : AV → List AV
  | .agg cs => cs
  | v => [v]
def AV.isAgg : AV → Bool
  | .agg _ => true
  | _ => false
/-- What fills one cell. -/
def AV.isCell : AV → Bool
  | .any | .undef | .agg _ | .tup _ => false
  | _ => true

/-! ### The code that is run: types resolved -/
inductive Opd where
  | tmp (t : Tmp)
  | cst (v : AV)
  deriving Inhabited

inductive MOp where
  | mov (x : Opd)
  | pick (c a b : Opd)
  | bld (zero : List AV) (parts : List (Nat × Nat × Opd))
  | bsl (sz : Nat) (ag : Bool) (z : AV) (len : Nat) (parts : List (Nat × Opd))
  | bsw (sz : Nat) (ag : Bool) (zero : List AV) (len : Nat) (parts : List (Nat × Opd))
  | bsf (sz : Nat) (ag : Bool) (z : AV) (len : Nat) (parts : List (Nat × Opd))
  | load (n : Option Nat) (p : Opd)
  | nck (p : Opd)
  | bin (op : BinOp) (x y : Opd)
  | beq (ne : Bool) (x y : Opd)
  | eqa (n : Nat) (ne : Bool) (x y : Opd)
  | eqn (ne : Bool) (x : Opd)
  | neg (x : Opd)
  | lnot (x : Opd)
  | conv (k : IntKind) (x : Opd)
  | mkf (f : Fn) (first cap : List Opd)
  | slc (sz : Nat) (x : Opd) (lo hi mx : Option Opd)
  | arr (n sz : Nat) (ag : Bool) (x : Opd)
  | fad (x : Opd) (off : Nat)
  | fld (n : Option Nat) (x : Opd) (off : Nat)
  | ixa (len sz : Nat) (x i : Opd)
  | ixs (sz : Nat) (x i : Opd)
  | ixv (len sz : Nat) (n : Option Nat) (x i : Opd)
  | lkp (kn : Option Nat) (z : AV) (m k : Opd) (ok : Bool)
  | ext (x : Opd) (i : Nat)
  | len (x : Opd)
  | lenc (n : Nat)
  | mn (x : Opd) (xs : List Opd)
  | mx (x : Opd) (xs : List Opd)
  | alloc (zero : List AV)
  | box (x : Opd)
  | store (n : Nat) (p x : Opd)
  | mkm
  | mks (sz bytes : Nat) (ag : Bool) (zero : List AV) (n c : Opd)
  | mput (kn : Option Nat) (m k v : Opd)
  | ment (kn : Option Nat) (z : AV) (m k : Opd)
  | esto (m s v : Opd)
  | app (w : Bool) (sz bytes : Nat) (ag : Bool) (s x : Opd)
  | clr (sz : Nat) (zero : List AV) (x : Opd)
  | ixt (x i : Opd)
  | bad
  | call (g : Opd) (args : List Opd)
  deriving Inhabited

structure MO where
  dst : Option Tmp
  guard : Option (Option Tmp × Bool)
  op : MOp
  deriving Inhabited

inductive MC where
  | skip
  | ops (draw : Bool) (l : List MO)
  | seq (a b : MC)
  | cond (c : Opd) (a b : MC)
  | block (id : Nat) (c : MC)
  | loop (keep : Option (List Tmp)) (c : MC)
  | scope (c : MC)
  | range (f : Opd) (ps : List Tmp) (asg body : MC)
  | exit (id : Nat)
  | ret
  deriving Inhabited

structure MF where
  ntmps : Nat
  results : List (Tmp × Option (Option Nat))
  body : MC
  deriving Inhabited

/-! ### Out of the model's code -/
inductive TK where
  | int (k : IntKind) | bool | str | ptr | sl (e : TypeId) | arr (n : Nat) (e : TypeId) | st (fs : List (Nat × TypeId)) | map (k e : TypeId) | fn | other
  deriving DecidableEq, Inhabited

structure ATy where
  kind : TK
  size : Nat
  bytes : Nat
  zero : List AV
  deriving Inhabited

def TK.agg : TK → Bool
  | .arr .. | .st _ => true
  | _ => false

/-- What is known of a program beside its code: what global variables hold; where an append or a literal makes a row that is written ('wsite'), or a literal's elements hold maps that stay as they are ('msite'); which functions sort whole numbers ('srt': they are in 'imp', too); which functions run in their caller's state; what a loop (named by a region of its body) needs of the temporaries. Any choice of the last three is sound. -/
structure Cfg where
  P : Program
  glob : Nat → Option (List AV)
  wsite : FuncId → Tmp → Bool
  imp : FuncId → Bool
  keep : FuncId → Nat → Option (List Tmp)
  msite : FuncId → Tmp → Bool := fun _ _ => false
  srt : FuncId → Bool := fun _ => false

def constA : Nat → Value → Option AV
  | 0, _ => none
  | _ + 1, .int k n => some (.int k n)
  | _ + 1, .bool b => some (.bool b)
  | _ + 1, .string s => some (.str s)
  | _ + 1, .pointer none => some .nilp
  | _ + 1, .slice none 0 0 => some .nils
  | _ + 1, .map none => some .nilm
  | _ + 1, .nilFunc => some .nilf
  | n + 1, .agg cs => (cs.toList.mapM (constA n)).map .agg
  | _, _ => none

def kindA : TypeDesc → TK
  | .int k => .int k
  | .bool => .bool
  | .string => .str
  | .pointer _ => .ptr
  | .slice e => .sl e
  | .array n e => .arr n e
  | .struct fs => .st (fs.toList.map fun f => (f.offset, f.type))
  | .map k e => .map k e
  | .func .. => .fn
  | _ => .other

def aggV : Value → Bool
  | .agg _ => true
  | _ => false

def tyA (P : Program) (t : TypeId) : Option ATy :=
  (P.underlying t).bind fun d => (P.info? t).bind fun i => i.zero.bind fun z => (z.cells.toList.mapM (constA 4)).bind fun cs =>
    if cs.length = i.size ∧ aggV z = (kindA d).agg then some { kind := kindA d, size := i.size, bytes := i.bytes, zero := cs } else none

def zeroA (a : ATy) : Option AV := if a.kind.agg then some (.agg a.zero) else a.zero[0]?
def partN (a : ATy) : Option Nat := if a.kind.agg then some a.size else none

def isIntT (P : Program) (t : TypeId) : Bool := match P.underlying t with | some (.int _) => true | _ => false

def eqFs (P : Program) : Nat → List Field → Bool
  | _, [] => true
  | k, f :: fs => f.name != "_" && f.offset == k && isIntT P f.type && eqFs P (k + 1) fs

/-- A struct or an array of whole numbers: how many. -/
def eqTy (P : Program) (t : TypeId) : Option Nat :=
  match P.underlying t with
  | some (.struct fs) => if !P.stoodInHeld t && !P.eqGuardType P.depth t && eqFs P 0 fs.toList then some fs.size else none
  | some (.array n e) => if !P.eqGuardType P.depth t && isIntT P e && (P.info? e).map (·.size) == some 1 then some n else none
  | _ => none

/-- A map's key: a whole number, or so many. -/
def keyTy (P : Program) (t : TypeId) : Option (Option Nat) := if isIntT P t then some none else (eqTy P t).map some

def opdA (C : Cfg) : Operand → Option Opd
  | .tmp t => some (.tmp t)
  | .const v => (constA 4 v).map .cst
  | .global g => (C.glob g).map fun cs => .cst (.rp cs 0)
  | .func f => some (.cst (.fn (.func f) [] []))

def opdsA (C : Cfg) (xs : Array Operand) : Option (List Opd) := xs.toList.mapM (opdA C)
def opdO (C : Cfg) : Option Operand → Option (Option Opd)
  | none => some none
  | some x => (opdA C x).map some

def nilSl : Operand → Bool
  | .const (.slice none 0 0) => true
  | _ => false

def compBin (C : Cfg) (op : BinOp) (t : TypeId) (x y : Operand) : Option MOp :=
  (tyA C.P t).bind fun a => match a.kind with
    | .int _ => (opdA C x).bind fun x => (opdA C y).map (.bin op x)
    | .bool => if op = .eql ∨ op = .neq then (opdA C x).bind fun x => (opdA C y).map (.beq (op == .neq) x) else none
    | .st _ | .arr .. => if op = .eql ∨ op = .neq then (eqTy C.P t).bind fun n => (opdA C x).bind fun x => (opdA C y).map (.eqa n (op == .neq) x) else none
    | .sl _ => if (op = .eql ∨ op = .neq) ∧ nilSl y = true then (opdA C x).map (.eqn (op == .neq)) else none
    | _ => none

def compBuiltin (C : Cfg) (w : Bool) (b : Builtin) (ts : List TypeId) (xs : List Operand) : Option MOp :=
  match b, ts, xs with
  | .len, [t], [x] => (tyA C.P t).bind fun a => (match a.kind with
    | .sl _ => (opdA C x).map .len
    | .arr n _ => some (.lenc n)
    | _ => none)
  | .min, _, x :: xs => (opdA C x).bind fun x => (xs.mapM (opdA C)).map (.mn x)
  | .max, _, x :: xs => (opdA C x).bind fun x => (xs.mapM (opdA C)).map (.mx x)
  | .append, [t, t'], [s, x] => (tyA C.P t).bind fun a => (match a.kind with
    | .sl e => (tyA C.P e).bind fun b => if b.size = 0 ∨ b.bytes = 0 ∨ t ≠ t' then none else (opdA C s).bind fun s => (opdA C x).map (.app w b.size b.bytes b.kind.agg s)
    | _ => none)
  | .clear, [t], [x] => (tyA C.P t).bind fun a => (match a.kind with
    | .sl e => (tyA C.P e).bind fun b => if b.size = 0 ∨ ¬ b.zero.all AV.isCell then none else (opdA C x).map (.clr b.size b.zero)
    | _ => none)
  | _, _, _ => none

def compCall (C : Cfg) (f : FuncId) (dst : Option Tmp) (c : Call) : Option MOp :=
  match c.callee with
  | .value g => (opdA C g).bind fun g => (opdsA C c.args).map (.call g)
  | .builtin b => compBuiltin C ((dst.map (C.wsite f)).getD false) b c.argTypes.toList c.args.toList
  | .invoke .. => none

/-- A slice's literal: is its row written, or are its maps kept? -/
def bslOp (C : Cfg) (f : FuncId) (dst : Option Tmp) (b : ATy) (z : AV) (n : Nat) (ps : List (Nat × Opd)) : MOp :=
  if (dst.map (C.wsite f)).getD false then .bsw b.size b.kind.agg b.zero n ps else if (dst.map (C.msite f)).getD false then .bsf b.size b.kind.agg z n ps else .bsl b.size b.kind.agg z n ps

section
variable {C : Cfg} {f : FuncId} {dst : Option Tmp} {b : ATy} {z : AV} {n : Nat} {ps : List (Nat × Opd)}
@[simp] theorem bslOp_alloc {y} : (bslOp C f dst b z n ps = .alloc y) = False := by unfold bslOp; split <;> (try split) <;> simp
@[simp] theorem bslOp_store {k p x} : (bslOp C f dst b z n ps = .store k p x) = False := by unfold bslOp; split <;> (try split) <;> simp
@[simp] theorem bslOp_call {g xs} : (bslOp C f dst b z n ps = .call g xs) = False := by unfold bslOp; split <;> (try split) <;> simp
end

def compOp (C : Cfg) (f : FuncId) (dst : Option Tmp) : Op → Option MOp
  | .move x | .assign x => (opdA C x).map .mov
  | .pick c a b => (opdA C c).bind fun c => (opdA C a).bind fun a => (opdA C b).map fun b => .pick c a b
  | .build t ps => (tyA C.P t).bind fun a => (match a.kind with
      | .st fs => if !fs.all (fun f => (tyA C.P f.2).isSome) then none else (ps.toList.mapM fun (p : Nat × Operand) => (fs[p.1]?).bind fun fl => (tyA C.P fl.2).bind fun b => (opdA C p.2).map fun x => (fl.1, b.size, x)).map (.bld a.zero)
      | .arr _ e => (tyA C.P e).bind fun b => (ps.toList.mapM fun (p : Nat × Operand) => (opdA C p.2).map fun x => (p.1 * b.size, b.size, x)).map (.bld a.zero)
      | _ => none)
  | .buildSlice t n ps => (tyA C.P t).bind fun a => (match a.kind with
      | .sl e => (tyA C.P e).bind fun b => (zeroA b).bind fun z => if n * b.size ≤ 16777216 ∧ b.size ≠ 0 ∧ b.zero.all AV.isCell then (ps.toList.mapM fun (p : Nat × Operand) => (opdA C p.2).map fun x => (p.1, x)).map (bslOp C f dst b z n) else none
      | _ => none)
  | .load t p => (tyA C.P t).bind fun a => (opdA C p).map (.load (partN a))
  | .nilCheck p => (opdA C p).map .nck
  | .binOp op t x y _ => compBin C op t x y
  | .unOp op _ x => (match op with
      | .neg => (opdA C x).map .neg
      | .not => (opdA C x).map .lnot
      | _ => none)
  | .convert src dst x => (tyA C.P src).bind fun _ => (tyA C.P dst).bind fun a => (match a.kind with
      | .int k => (opdA C x).map (.conv k)
      | _ => none)
  | .makeFunc f a b => (opdsA C a).bind fun a => (opdsA C b).map (.mkf f a)
  | .slice t x lo hi mx => (tyA C.P t).bind fun a => (opdA C x).bind fun x => (match a.kind with
      | .sl e => (tyA C.P e).bind fun b => (opdO C lo).bind fun lo => (opdO C hi).bind fun hi => (opdO C mx).bind fun mx => if mx.isSome ∧ hi.isNone then none else some (.slc b.size x lo hi mx)
      | .arr n e => (tyA C.P e).bind fun b => if lo.isNone ∧ hi.isNone ∧ mx.isNone then some (.arr n b.size b.kind.agg x) else none
      | _ => none)
  | .fieldAddr t x i => (tyA C.P t).bind fun a => (match a.kind with
      | .st fs => (fs[i]?).bind fun p => (tyA C.P p.2).bind fun b => if b.size = 0 then none else (opdA C x).map fun x => .fad x p.1
      | _ => none)
  | .field t x i => (tyA C.P t).bind fun a => (match a.kind with
      | .st fs => (fs[i]?).bind fun p => (tyA C.P p.2).bind fun b => (opdA C x).map fun x => .fld (partN b) x p.1
      | _ => none)
  | .indexAddr t x i => (tyA C.P t).bind fun a => (opdA C x).bind fun x => (opdA C i).bind fun i => (match a.kind with
      | .arr n e => (tyA C.P e).map fun b => .ixa n b.size x i
      | .sl e => (tyA C.P e).map fun b => .ixs b.size x i
      | _ => none)
  | .index t x i => (tyA C.P t).bind fun a => (opdA C x).bind fun x => (opdA C i).bind fun i => (match a.kind with
      | .arr n e => (tyA C.P e).map fun b => .ixv n b.size (partN b) x i
      | .str => some (.ixt x i)
      | _ => none)
  | .lookup t m k ok => (tyA C.P t).bind fun a => (match a.kind with
      | .map kt et => (keyTy C.P kt).bind fun kn => (tyA C.P et).bind fun b => (zeroA b).bind fun z => (opdA C m).bind fun m => (opdA C k).map fun k => .lkp kn z m k ok
      | _ => none)
  | .extract x i => (opdA C x).map fun x => .ext x i
  | .alloc t => (tyA C.P t).bind fun a => if a.zero.all AV.isCell then some (.alloc a.zero) else none
  | .box _ x => (opdA C x).map .box
  | .store t p x => (tyA C.P t).bind fun a => (opdA C p).bind fun p => (opdA C x).map (.store a.size p)
  | .makeMap _ none => some .mkm
  | .makeSlice t n c => (tyA C.P t).bind fun a => (match a.kind with
      | .sl e => (tyA C.P e).bind fun b => if b.size = 0 ∨ ¬ b.zero.all AV.isCell then none else (opdA C n).bind fun n => (opdA C c).map (.mks b.size b.bytes b.kind.agg b.zero n)
      | _ => none)
  | .mapUpdate t m k v | .insert t m k v => (tyA C.P t).bind fun a => (match a.kind with
      | .map kt _ => (keyTy C.P kt).bind fun kn => (opdA C m).bind fun m => (opdA C k).bind fun k => (opdA C v).map (.mput kn m k)
      | _ => none)
  | .mapEntry t m k => (tyA C.P t).bind fun a => (match a.kind with
      | .map kt et => (keyTy C.P kt).bind fun kn => (tyA C.P et).bind fun b => (zeroA b).bind fun z => (opdA C m).bind fun m => (opdA C k).map (.ment kn z m)
      | _ => none)
  | .entryStore _ m s v => (opdA C m).bind fun m => (opdA C s).bind fun s => (opdA C v).map (.esto m s)
  | .panic _ | .makeInterface .. => some .bad
  | .call c => compCall C f dst c
  | _ => none

/-! ### A region whose order is open: which operations must keep theirs -/
def opdT : Opd → List Tmp
  | .tmp t => [t]
  | .cst _ => []
def optT (x : Option Opd) : List Tmp := (x.map opdT).getD []

def MOp.reads : MOp → List Tmp
  | .mov x | .load _ x | .nck x | .eqn _ x | .neg x | .lnot x | .conv _ x | .arr _ _ _ x | .fad x _ | .fld _ x _ | .ext x _ | .len x | .box x | .clr _ _ x => opdT x
  | .pick c a b | .mput _ c a b | .esto c a b => opdT c ++ opdT a ++ opdT b
  | .bld _ ps => ps.flatMap fun p => opdT p.2.2
  | .bsl _ _ _ _ ps | .bsw _ _ _ _ ps | .bsf _ _ _ _ ps => ps.flatMap fun p => opdT p.2
  | .bin _ x y | .beq _ x y | .eqa _ _ x y | .ixa _ _ x y | .ixs _ x y | .ixv _ _ _ x y | .lkp _ _ x y _ | .store _ x y | .mks _ _ _ _ x y | .ment _ _ x y | .app _ _ _ _ x y | .ixt x y => opdT x ++ opdT y
  | .mkf _ a b => (a ++ b).flatMap opdT
  | .slc _ x l h m => opdT x ++ optT l ++ optT h ++ optT m
  | .mn x xs | .mx x xs => opdT x ++ xs.flatMap opdT
  | .call g xs => opdT g ++ xs.flatMap opdT
  | .lenc _ | .alloc _ | .mkm | .bad => []

inductive Cls where
  | plain | reads | makes | writes
  deriving DecidableEq

/-- 'd': what is called leaves all as it was, or the call says nothing. -/
def clsOf (C : Cfg) (d : Bool) : MOp → Cls
  | .load .. | .lkp .. | .arr .. => .reads
  | .call (.cst (.fn (.func f) _ _)) _ => if C.imp f || !d then .writes else .reads
  | .call .. => if d then .reads else .writes
  | .alloc .. | .box .. | .mkm | .mks .. | .bsw .. => .makes
  | .app w .. => if w then .writes else .makes
  | .store .. | .mput .. | .ment .. | .esto .. | .clr .. | .bsf .. => .writes
  | _ => .plain

def clash : Cls → Cls → Bool
  | .writes, .plain | .plain, .writes => false
  | .writes, _ | _, .writes => true
  | .makes, .makes => true
  | _, _ => false

def MO.names (o : MO) : List Tmp := o.dst.toList ++ o.op.reads ++ (match o.guard with | some (some t, _) => [t] | _ => [])

/-- Maps and variables are apart. -/
def isMapW : MOp → Bool
  | .mput .. | .ment .. | .esto .. => true
  | _ => false
def isBoxR : MOp → Bool
  | .load .. | .arr .. => true
  | _ => false
def apart (a b : MOp) : Bool := (isMapW a && isBoxR b) || (isBoxR a && isMapW b)

/-- Must two operations keep their order? -/
def bound (C : Cfg) (d : Bool) (a b : MO) : Bool :=
  (a.dst.toList.any fun t => b.names.contains t) || (b.dst.toList.any fun t => a.names.contains t) || (clash (clsOf C d a.op) (clsOf C d b.op) && !apart a.op b.op)

/-- All that must keep their order are held by edges. -/
def pairsOk (C : Cfg) (d : Bool) (m : Array Nat) (l : List MO) : Bool :=
  (List.range l.length).all fun j => (List.range j).all fun i => (m.getD j 0).testBit i || (match l[i]?, l[j]? with | some a, some b => !bound C d a b | _, _ => false)
/-- What stands in the table of 'before' stands there by an edge. -/
def edgesOk (m : Array Nat) (ops : Array Oper) : Bool :=
  (List.range ops.size).all fun i => match ops[i]? with
    | some o => o.after.all (fun e => !Region.binds .any e || e.on < i) && (List.range ops.size).all fun j => !(m.getD i 0).testBit j || o.after.any fun e => Region.binds .any e && (e.on == j || (m.getD e.on 0).testBit j)
    | none => true
def drawOk (C : Cfg) (d : Bool) (ops : Array Oper) (l : List MO) : Bool :=
  C.P.follows .mixedOrders && edgesOk (Region.before ops) ops && pairsOk C d (Region.before ops) l

/-- A variable that is made and written in a region whose order is open: where, its name, what fills it first, what is written. -/
structure Fr where
  ia : Nat
  is : Nat
  t : Tmp
  z : List AV
  x : Opd

def isStore : MO → Option (Nat × Tmp × Opd)
  | ⟨none, none, .store n (.tmp t) x⟩ => some (n, t, x)
  | _ => none
def isAlloc (t n : Nat) : MO → Option (List AV)
  | ⟨some t', none, .alloc z⟩ => if t' = t ∧ z.length = n then some z else none
  | _ => none
def findAlloc (t n : Nat) : Nat → List MO → Option (Nat × List AV)
  | _, [] => none
  | i, o :: l => match isAlloc t n o with
    | some z => some (i, z)
    | none => findAlloc t n (i + 1) l
def frsFrom (all : List MO) : Nat → List MO → List Fr
  | _, [] => []
  | j, o :: l => match isStore o with
    | some (n, t, x) => (match findAlloc t n 0 all with
      | some (i, z) => ⟨i, j, t, z, x⟩ :: frsFrom all (j + 1) l
      | none => frsFrom all (j + 1) l)
    | none => frsFrom all (j + 1) l
def frs (l : List MO) : List Fr := frsFrom l 0 l

def frAt (ps : List Fr) (k : Nat) : Bool := ps.any fun p => p.ia == k || p.is == k
def placed (l : List MO) : List (Nat × MO) := (List.range' 0 l.length).zip l
def restL (ps : List Fr) (l : List MO) : List (Nat × MO) := (placed l).filter fun q => !frAt ps q.1
/-- The variable is named by its making and its writing alone; what is written is ready. -/
def frOk (m : Array Nat) (l : List MO) (p : Fr) : Bool :=
  (m.getD p.is 0).testBit p.ia && !(opdT p.x).contains p.t &&
    (placed l).all fun q => q.1 == p.ia || q.1 == p.is || (!q.2.names.contains p.t && q.2.dst.toList.all fun u => !(opdT p.x).contains u || (m.getD p.is 0).testBit q.1)
def nodup (l : List Nat) : Bool := decide l.Nodup
def freshOk (C : Cfg) (d : Bool) (ops : Array Oper) (l : List MO) : Bool :=
  C.P.follows .mixedOrders && edgesOk (Region.before ops) ops && (frs l).all (frOk (Region.before ops) l) && nodup ((frs l).map (·.ia)) && nodup ((frs l).map (·.is)) && nodup ((frs l).map (·.t)) &&
    (restL (frs l) l).all fun q => (restL (frs l) l).all fun p => !decide (p.1 < q.1) || ((Region.before ops).getD q.1 0).testBit p.1 || !bound C d p.2 q.2
def clrL (ps : List Fr) : List MO := ps.map fun p => ⟨some p.t, none, .mov (.cst .any)⟩
def finL (ps : List Fr) : List MO := ps.flatMap fun p => [⟨some p.t, none, .alloc p.z⟩, ⟨none, none, .store p.z.length (.tmp p.t) p.x⟩]
/-- The variables are made last. -/
def freshL (l : List MO) : List MO := clrL (frs l) ++ ((restL (frs l) l).map (·.2) ++ finL (frs l))

def compO (C : Cfg) (f : FuncId) (all : List Oper) (o : Oper) : Option MO :=
  (compOp C f o.dst o.op).map fun m => { dst := o.dst, guard := o.guard.map fun g => ((all[g.1]?).bind (·.dst), g.2), op := m }

/-- The first region of a code. -/
def firstId : Code → Option Nat
  | .region id _ _ => some id
  | .seq a b => (firstId a).or (firstId b)
  | .cond _ a b => (firstId a).or (firstId b)
  | .block _ c | .loop c | .scope c => firstId c
  | .rangeFunc _ _ a b => (firstId a).or (firstId b)
  | _ => none

def compC (C : Cfg) (f : FuncId) : Code → Option MC
  | .skip | .label _ => some .skip
  | .region _ ops d => (ops.toList.mapM (compO C f ops.toList)).bind fun l => if !d || drawOk C false ops l then some (.ops false l) else if drawOk C true ops l then some (.ops true l) else if freshOk C true ops l then some (.ops true (freshL l)) else none
  | .seq a b => (compC C f a).bind fun a => (compC C f b).map (.seq a)
  | .cond c a b => (opdA C c).bind fun c => (compC C f a).bind fun a => (compC C f b).map (.cond c a)
  | .block id c => (compC C f c).map (.block id)
  | .loop c => (compC C f c).map (.loop ((firstId c).bind (C.keep f)))
  | .scope c => (compC C f c).map .scope
  | .rangeFunc g ps asg body => (opdA C g).bind fun g => (compC C f asg).bind fun a => (compC C f body).map (.range g ps.toList a)
  | .exit id => some (.exit id)
  | .ret => some .ret
  | _ => none

def compF (C : Cfg) (f : FuncId) : Option MF :=
  (C.P.funcs[f]?).bind fun fn => fn.body.bind fun b => (compC C f b).bind fun m =>
    (fn.results.toList.mapM fun (r : ResultVar) => (match r with
      | .tmp t => some (t, none)
      | .cell a t => (tyA C.P t).map fun y => (a, some (partN y)))).map fun rs => { ntmps := fn.ntmps, results := rs, body := m }

/-! ### The state -/
structure Lp where
  f : FuncId
  env : Env
  ps : List Tmp
  asg : MC
  body : MC
  st : LoopState
  pend : Option MC

structure St where
  boxes : List (List AV) := []
  ro : Nat := 0
  chains : List (Nat × Nat) := []
  maps : List (List AV × List AV) := []
  mro : Nat := 0
  loops : List Lp := []

/-- The temporaries that are not needed are forgotten. -/
def mask (keep : Option (List Tmp)) (e : Env) : Env :=
  match keep with
  | some ks => ks.foldl (fun a k => a.set k (e.getD k .any)) (List.replicate e.length .any)
  | none => e

/-- A value that names none of the variables, rows, maps and loops behind so many. -/
def under (b c m l : Nat) : Nat → AV → Bool
  | 0, _ => false
  | _ + 1, .sl _ _ (.chain i) => decide (i < c)
  | _ + 1, .wsl i .. => decide (i < b)
  | _ + 1, .mp i => decide (i < m)
  | _ + 1, .yld i => decide (i < l)
  | _ + 1, .box i _ => decide (i < b)
  | n + 1, .agg cs => cs.all (under b c m l n)
  | n + 1, .tup cs => cs.all (under b c m l n)
  | n + 1, .fn _ xs ys => xs.all (under b c m l n) && ys.all (under b c m l n)
  | _ + 1, _ => true

def underL (σ : St) (d : Nat) (vs : List AV) : Bool := vs.all (under σ.boxes.length σ.chains.length σ.maps.length σ.loops.length d)

/-- Does the state, as far as it was there before, name nothing that came later? (Rows that grow are counted up to nc.) -/
def dryAt (nc : Nat) (σ σ' : St) (e : Env) : Bool :=
  e.all (under σ.boxes.length nc σ.maps.length σ.loops.length 6) && (σ'.boxes.take σ.boxes.length).all (fun cs => cs.all (under σ.boxes.length nc σ.maps.length σ.loops.length 6)) &&
    (σ'.maps.take σ.maps.length).all (fun es => es.1.all (under σ.boxes.length nc σ.maps.length σ.loops.length 6) && es.2.all (under σ.boxes.length nc σ.maps.length σ.loops.length 6)) &&
    (σ'.loops.take σ.loops.length).all (fun L => L.env.all (under σ.boxes.length nc σ.maps.length σ.loops.length 6))

/-- The state without what came later. -/
def cutAt (nc : Nat) (σ σ' : St) : St := { boxes := σ'.boxes.take σ.boxes.length, ro := min σ'.ro σ.boxes.length, chains := σ'.chains.take nc, maps := σ'.maps.take σ.maps.length, mro := min σ'.mro σ.maps.length, loops := σ'.loops.take σ.loops.length }

/-- What came later is forgotten, if nothing needs it; rows that grow may be needed alone. -/
def cut (σ σ' : St) (e : Env) : St :=
  if dryAt σ.chains.length σ σ' e then cutAt σ.chains.length σ σ' else if dryAt σ'.chains.length σ σ' e then cutAt σ'.chains.length σ σ' else σ'

def ev (e : Env) : Opd → AV
  | .tmp t => e.getD t .any
  | .cst v => v

/-! ### Reading and writing -/
def partA (n : Option Nat) (cs : List AV) (off : Nat) : Option AV :=
  match n with
  | some n => if off + n ≤ cs.length then some (.agg ((cs.drop off).take n)) else none
  | none => cs[off]?

def loadA (σ : St) (n : Option Nat) : AV → Option AV
  | .box b off => (σ.boxes[b]?).bind fun cs => partA n cs off
  | .rp cs off => partA n cs off
  | _ => none

def setAt (cs : List AV) (off : Nat) (vs : List AV) : List AV := cs.take off ++ vs ++ cs.drop (off + vs.length)

def storeA (σ : St) (n : Nat) (p v : AV) : Option St :=
  match p with
  | .box b off => (σ.boxes[b]?).bind fun cs =>
      if σ.ro ≤ b ∧ v.cells.length = n ∧ off + n ≤ cs.length ∧ v.cells.all AV.isCell then some { σ with boxes := σ.boxes.set b (setAt cs off v.cells) } else none
  | _ => none

/-- What one cell holds, as an element. -/
def cellV : AV → AV
  | .agg _ => .any
  | v => v

def chunk (sz : Nat) (ag : Bool) : Nat → List AV → List AV
  | 0, _ => []
  | n + 1, cs => (if ag then .agg (cs.take sz) else cellV (cs.headD .any)) :: chunk sz ag n (cs.drop sz)

/-! ### What a callee, or a slice's element, is given: values that name nothing of the call's own. The second part: was a variable of the call's own looked into? -/
def Cap.pure : Cap → Cap
  | .chain _ => .no
  | c => c

def purAll (f : AV → Option (AV × Bool)) : List AV → Option (List AV × Bool)
  | [] => some ([], false)
  | v :: vs => (f v).bind fun r => (purAll f vs).bind fun s => some (r.1 :: s.1, r.2 || s.2)

def pur (σ : St) : Nat → AV → Option (AV × Bool)
  | 0, _ => none
  | _ + 1, .any => some (.any, false)
  | _ + 1, .undef => some (.undef, false)
  | _ + 1, .int k n => some (.int k n, false)
  | _ + 1, .bool b => some (.bool b, false)
  | _ + 1, .str s => some (.str s, false)
  | _ + 1, .nilp => some (.nilp, false)
  | _ + 1, .nilm => some (.nilm, false)
  | _ + 1, .nilf => some (.nilf, false)
  | _ + 1, .nils => some (.nils, false)
  | _ + 1, .esl => some (.esl, false)
  | n + 1, .agg cs => (purAll (pur σ n) cs).bind fun r => some (.agg r.1, r.2)
  | n + 1, .tup cs => (purAll (pur σ n) cs).bind fun r => some (.tup r.1, r.2)
  | _ + 1, .sl sz es c => some (.sl sz es c.pure, false)
  | n + 1, .wsl b off m sz ag => (σ.boxes[b]?).bind fun cs => (purAll (pur σ n) cs).bind fun r => if off + m * sz ≤ r.1.length ∧ (ag = true ∨ sz = 1) then some (.sl sz (chunk sz ag m (r.1.drop off)) .no, true) else none
  | _ + 1, .mapv ks vs => some (.mapv ks vs, false)
  | n + 1, .mp m => (σ.maps[m]?).bind fun es => (purAll (pur σ n) es.1).bind fun r => (purAll (pur σ n) es.2).bind fun s => some (.mapv r.1 s.1, true)
  | n + 1, .fn f a b => (purAll (pur σ n) a).bind fun r => (purAll (pur σ n) b).bind fun s => some (.fn f r.1 s.1, r.2 || s.2)
  | _ + 1, .yld _ => none
  | n + 1, .box b off => (σ.boxes[b]?).bind fun cs => (purAll (pur σ n) cs).bind fun r => some (.rp r.1 off, true)
  | _ + 1, .rp cs off => some (.rp cs off, false)

def depth : Nat := 12

/-- A value without references. -/
def fo : Nat → AV → Bool
  | 0, _ => false
  | _ + 1, .any | _ + 1, .undef | _ + 1, .int .. | _ + 1, .bool _ | _ + 1, .str _ | _ + 1, .nilp | _ + 1, .nilm | _ + 1, .nilf | _ + 1, .nils | _ + 1, .esl => true
  | n + 1, .agg cs => cs.all (fo n)
  | n + 1, .tup cs => cs.all (fo n)
  | _ + 1, _ => false

/-! ### Operators -/
def binI (op : BinOp) (k : IntKind) (a b : Int) : Option AV :=
  match op with
  | .add => some (.int k (k.wrap (a + b)))
  | .sub => some (.int k (k.wrap (a - b)))
  | .mul => some (.int k (k.wrap (a * b)))
  | .quo => if b = 0 then none else some (.int k (k.wrap (a.tdiv b)))
  | .rem => if b = 0 then none else some (.int k (a.tmod b))
  | .and => some (.int k (k.wrap (BitVec.ofInt k.bits a &&& BitVec.ofInt k.bits b).toNat))
  | .or => some (.int k (k.wrap (BitVec.ofInt k.bits a ||| BitVec.ofInt k.bits b).toNat))
  | .xor => some (.int k (k.wrap (BitVec.ofInt k.bits a ^^^ BitVec.ofInt k.bits b).toNat))
  | .andNot => some (.int k (k.wrap (BitVec.ofInt k.bits a &&& ~~~BitVec.ofInt k.bits b).toNat))
  | .shl => if b < 0 then none else some (.int k (k.wrap (a * 2 ^ (min b.toNat k.bits))))
  | .shr => if b < 0 then none else some (.int k (a.fdiv (2 ^ (min b.toNat k.bits))))
  | .eql => some (.bool (a == b))
  | .neq => some (.bool (a != b))
  | .lss => some (.bool (decide (a < b)))
  | .leq => some (.bool (decide (a ≤ b)))
  | .gtr => some (.bool (decide (a > b)))
  | .geq => some (.bool (decide (a ≥ b)))

def binA (op : BinOp) (x y : AV) : Option AV :=
  match x, y with
  | .int k a, .int k' b => if k = k' ∨ op = .shl ∨ op = .shr then binI op k a b else none
  | _, _ => none

/-- '==' of whole numbers, cell by cell. -/
def eqCells : List AV → List AV → Option Bool
  | [], [] => some true
  | .int k a :: xs, .int k' b :: ys => if k = k' then (eqCells xs ys).map (a == b && ·) else none
  | _, _ => none

def isNil : AV → Option Bool
  | .nils => some true
  | .sl .. | .wsl .. | .esl => some false
  | _ => none

def fillA : List (Nat × Nat × AV) → List AV → Option (List AV)
  | [], cs => some cs
  | p :: rest, cs => if p.2.2.cells.length = p.2.1 ∧ p.1 + p.2.1 ≤ cs.length ∧ p.2.2.cells.all AV.isCell then fillA rest (setAt cs p.1 p.2.2.cells) else none

def fillE (sz : Nat) (ag : Bool) : List (Nat × AV) → List AV → Option (List AV)
  | [], es => some es
  | p :: rest, es => (pur {} depth p.2).bind fun r => if r.1.cells.length = sz ∧ r.1.isAgg = ag ∧ p.1 < es.length ∧ r.1.cells.all AV.isCell then fillE sz ag rest (es.set p.1 r.1) else none

/-- Elements that hold maps. -/
def fillM (τ : St) (sz : Nat) (ag : Bool) : List (Nat × AV) → List AV → Option (List AV)
  | [], es => some es
  | p :: rest, es => (pur τ depth p.2).bind fun r => if r.1.cells.length = sz ∧ r.1.isAgg = ag ∧ p.1 < es.length ∧ r.1.cells.all AV.isCell then fillM τ sz ag rest (es.set p.1 r.1) else none

def ptrAdd (p : AV) (n : Nat) : Option AV :=
  match p with
  | .box b off => some (.box b (off + n))
  | .rp cs off => some (.rp cs (off + n))
  | _ => none

def ixaA (len sz : Nat) (x i : AV) : Option AV :=
  match i with
  | .int _ n => if 0 ≤ n ∧ n < len then ptrAdd x (n.toNat * sz) else none
  | _ => none

def ixsA (sz : Nat) (x i : AV) : Option AV :=
  match x, i with
  | .sl sz' es _, .int _ n => if 0 ≤ n ∧ n < es.length ∧ sz' = sz then (es[n.toNat]?).map fun v => .rp v.cells 0 else none
  | .wsl b off len sz' _, .int _ n => if 0 ≤ n ∧ n < len ∧ sz' = sz then some (.box b (off + n.toNat * sz)) else none
  | _, _ => none

def ixvA (len sz : Nat) (m : Option Nat) (x i : AV) : Option AV :=
  match x, i with
  | .agg cs, .int _ n => if 0 ≤ n ∧ n < len then partA m cs (n.toNat * sz) else none
  | _, _ => none

def fldA (n : Option Nat) (x : AV) (off : Nat) : Option AV :=
  match x with
  | .agg cs => partA n cs off
  | _ => none

def boundA (d : Nat) : Option AV → Option Nat
  | none => some d
  | some (.int _ n) => if 0 ≤ n then some n.toNat else none
  | _ => none

/-- x[lo:hi:max]; no bound reaches beyond the length. -/
def slcA (sz : Nat) (x : AV) (lo hi mx : Option AV) : Option AV :=
  match x with
  | .sl sz' es c => (boundA 0 lo).bind fun l => (boundA es.length hi).bind fun h => (boundA es.length mx).bind fun m =>
      if sz' = sz ∧ l ≤ h ∧ h ≤ m ∧ m ≤ es.length then some (.sl sz ((es.take h).drop l) (if mx.isSome then (if m = h then .full else .no) else if c = .full ∧ h = es.length then .full else .no)) else none
  | .nils => (boundA 0 lo).bind fun l => (boundA 0 hi).bind fun h => (boundA 0 mx).bind fun m => if l = 0 ∧ h = 0 ∧ m = 0 then some .nils else none
  | .esl => (boundA 0 lo).bind fun l => (boundA 0 hi).bind fun h => (boundA 0 mx).bind fun m => if l = 0 ∧ h = 0 ∧ m = 0 then some .esl else none
  | .wsl b off n sz' ag => (boundA 0 lo).bind fun l => (boundA n hi).bind fun h => (boundA n mx).bind fun m => if sz' = sz ∧ l ≤ h ∧ l < m ∧ h ≤ m ∧ m ≤ n then some (.wsl b (off + l * sz) (h - l) sz ag) else none
  | _ => none

def arrA (σ : St) (n sz : Nat) (ag : Bool) (x : AV) : Option AV :=
  match x with
  | .box b off => (σ.boxes[b]?).bind fun cs => if off + n * sz ≤ cs.length ∧ (ag = true ∨ sz = 1) then some (.wsl b off n sz ag) else none
  | .rp cs off => if off + n * sz ≤ cs.length ∧ (ag = true ∨ sz = 1) then some (.sl sz (chunk sz ag n (cs.drop off)) .no) else none
  | _ => none

/-- A byte of a text. -/
def ixtA (x i : AV) : Option AV :=
  match x, i with
  | .str s, .int _ n => if 0 ≤ n then (s[n.toNat]?).map fun b => .int .u8 b.toNat else none
  | _, _ => none

/-! ### Maps -/
def keyEq (kn : Option Nat) (x y : AV) : Option Bool :=
  match kn, x, y with
  | none, .int k a, .int k' b => if k = k' then some (a == b) else none
  | some n, .agg xs, .agg ys => if xs.length = n ∧ ys.length = n then eqCells xs ys else none
  | _, _, _ => none

/-- The place of a key; 'some none': it is not there. -/
def findA (kn : Option Nat) (k : AV) : List AV → Nat → Option (Option Nat)
  | [], _ => some none
  | x :: xs, i => (keyEq kn k x).bind fun r => if r then some (some i) else findA kn k xs (i + 1)

/-- Whole numbers all. -/
def allInt : List AV → Bool
  | [] => true
  | .int .. :: xs => allInt xs
  | _ :: _ => false

/-- A key that can be asked for. -/
def keyOk : Option Nat → AV → Bool
  | none, .int .. => true
  | some n, .agg cs => cs.length == n && allInt cs
  | _, _ => false

def entriesA (σ : St) : AV → Option (List AV × List AV)
  | .nilm => some ([], [])
  | .mapv ks vs => some (ks, vs)
  | .mp m => σ.maps[m]?
  | _ => none

def lkpA (σ : St) (kn : Option Nat) (z m k : AV) (ok : Bool) : Option AV :=
  (entriesA σ m).bind fun es => if keyOk kn k then (findA kn k es.1 0).bind fun r => match r with
    | some i => (es.2[i]?).map fun v => if ok then .tup [v, .bool true] else v
    | none => some (if ok then .tup [z, .bool false] else z) else none

def mputA (σ : St) (kn : Option Nat) (m k v : AV) : Option St :=
  match m with
  | .mp i => (σ.maps[i]?).bind fun es => if σ.mro ≤ i ∧ keyOk kn k then (findA kn k es.1 0).bind fun r => (match r with
        | some j => some { σ with maps := σ.maps.set i (es.1, es.2.set j v) }
        | none => some { σ with maps := σ.maps.set i (es.1 ++ [k], es.2 ++ [v]) }) else none
  | _ => none

def mentA (σ : St) (kn : Option Nat) (z m k : AV) : Option (AV × St) :=
  match m with
  | .mp i => (σ.maps[i]?).bind fun es => if σ.mro ≤ i ∧ keyOk kn k then (findA kn k es.1 0).bind fun r => (match r with
        | some j => (es.2[j]?).map fun v => (.tup [v, I j], σ)
        | none => some (.tup [z, I es.1.length], { σ with maps := σ.maps.set i (es.1 ++ [k], es.2 ++ [z]) })) else none
  | _ => none

def estoA (σ : St) (m s v : AV) : Option St :=
  match m, s with
  | .mp i, .int _ n => (σ.maps[i]?).bind fun es => if 0 ≤ n ∧ n < es.2.length ∧ σ.mro ≤ i then some { σ with maps := σ.maps.set i (es.1, es.2.set n.toNat v) } else none
  | _, _ => none

/-! ### Builtins -/
def elemsA (σ : St) : AV → Option (List AV × Option Nat)
  | .nils | .esl => some ([], none)
  | .sl sz es _ => some (es, some sz)
  | .wsl b off n sz ag => (σ.boxes[b]?).bind fun cs => (purAll (pur {} depth) cs).bind fun r => if off + n * sz ≤ r.1.length ∧ (ag = true ∨ sz = 1) then some (chunk sz ag n (r.1.drop off), some sz) else none
  | _ => none

/-- A new row: one that is written, or one that grows. -/
def grown (σ : St) (w : Bool) (sz : Nat) (ag : Bool) (es : List AV) : Option (AV × St) :=
  if w then (if (es.flatMap AV.cells).all AV.isCell then some (.wsl σ.boxes.length 0 es.length sz ag, { σ with boxes := σ.boxes ++ [es.flatMap AV.cells] }) else none)
  else some (.sl sz es (.chain σ.chains.length), { σ with chains := σ.chains ++ [(es.length, sz)] })

def isSl : AV → Bool
  | .nils | .esl | .sl .. | .wsl .. => true
  | _ => false

def appA (σ : St) (w : Bool) (sz bytes : Nat) (ag : Bool) (s x : AV) : Option (AV × St) :=
  (elemsA σ x).bind fun ys =>
    if ys.1 = [] then (if isSl s then some (s, σ) else none) else
    if ys.2 = some sz then
      (match s with
        | .nils | .esl => if ys.1.length * bytes ≤ 140737488355328 then grown σ w sz ag ys.1 else none
        | .sl sz' es c => if sz' = sz ∧ (es ++ ys.1).length * bytes ≤ 140737488355328 then
            (match c with
              | .full => grown σ w sz ag (es ++ ys.1)
              | .chain c => if σ.chains[c]? = some (es.length, sz) then some (.sl sz (es ++ ys.1) (.chain c), { σ with chains := σ.chains.set c ((es ++ ys.1).length, sz) }) else none
              | .no => none) else none
        | .wsl b off n sz' ag' => (σ.boxes[b]?).bind fun cs => if w = true ∧ 0 < n ∧ sz' = sz ∧ ag' = ag ∧ off = 0 ∧ cs.length = n * sz ∧ σ.ro ≤ b ∧ (n + ys.1.length) * bytes ≤ 140737488355328 ∧ (ys.1.flatMap AV.cells).all AV.isCell = true then
            some (.wsl σ.boxes.length 0 (n + ys.1.length) sz ag, { σ with boxes := σ.boxes.set b [] ++ [cs ++ ys.1.flatMap AV.cells] }) else none
        | _ => none)
    else none

def lenA (x : AV) : Option AV :=
  match x with
  | .nils | .esl => some (I 0)
  | .sl _ es _ => some (I es.length)
  | .wsl _ _ n _ _ => some (I n)
  | _ => none

def min2 : AV → AV → Option AV
  | .int k a, .int _ b => some (.int k (if b < a then b else a))
  | _, _ => none
def max2 : AV → AV → Option AV
  | .int k a, .int _ b => some (.int k (if a < b then b else a))
  | _, _ => none
def foldA (f : AV → AV → Option AV) : AV → List AV → Option AV
  | x, [] => some x
  | x, y :: ys => (f x y).bind fun z => foldA f z ys

def mksA (σ : St) (sz bytes : Nat) (ag : Bool) (zero : List AV) (n c : AV) : Option (AV × St) :=
  match n, c with
  | .int _ n, .int _ c => if n = c ∧ 0 ≤ n ∧ n * bytes ≤ 140737488355328 ∧ n ≤ 9223372036854775807 then
      some (.wsl σ.boxes.length 0 n.toNat sz ag, { σ with boxes := σ.boxes ++ [(List.replicate n.toNat zero).flatten] }) else none
  | _, _ => none

/-- All elements are zero again. -/
def clrA (σ : St) (sz : Nat) (zero : List AV) (x : AV) : Option St :=
  match x with
  | .nils | .esl => some σ
  | .wsl b off n sz' _ => (σ.boxes[b]?).bind fun cs => if 0 < n ∧ sz' = sz ∧ σ.ro ≤ b ∧ off + n * sz ≤ cs.length then some { σ with boxes := σ.boxes.set b (setAt cs off (List.replicate n zero).flatten) } else none
  | _ => none

/-- A literal whose row is written. -/
def bswA (σ : St) (sz : Nat) (ag : Bool) (zero : List AV) (n : Nat) (ps : List (Nat × AV)) : Option (AV × St) :=
  (fillA (ps.map fun p => (p.1 * sz, sz, p.2)) (List.replicate n zero).flatten).bind fun cs => if cs.all AV.isCell then some (.wsl σ.boxes.length 0 n sz ag, { σ with boxes := σ.boxes ++ [cs] }) else none
/-- A literal whose maps stay as they are from now on. -/
def bsfA (σ : St) (sz : Nat) (ag : Bool) (z : AV) (n : Nat) (ps : List (Nat × AV)) : Option (AV × St) :=
  (fillM { maps := σ.maps } sz ag ps (List.replicate n z)).map fun es => (.sl sz es .full, { σ with mro := σ.maps.length })

def boxA (σ : St) (x : AV) : Option (AV × St) := if x.cells.all AV.isCell then some (.box σ.boxes.length 0, { σ with boxes := σ.boxes ++ [x.cells] }) else none

/-! ### Code -/
inductive Ex where
  | nm | ex (id : Nat) | rt
  deriving DecidableEq, Inhabited

abbrev Out := Ex × Env × St
/-- How code runs, in a function. -/
abbrev Rec := FuncId → MC → Env → St → Option Out

def retsA (e : Env) (σ : St) : List (Tmp × Option (Option Nat)) → Option (List AV)
  | [] => some []
  | r :: rs => (match r.2 with
    | none => some (e.getD r.1 .any)
    | some n => loadA σ n (e.getD r.1 .any)).bind fun v => (retsA e σ rs).map (v :: ·)

def retA (rs : List (Tmp × Option (Option Nat))) (e : Env) (σ : St) : Option AV :=
  (retsA e σ rs).map fun vs => match vs with
    | [v] => v
    | vs => .tup vs

/-- What a body has come to. -/
def endA (rs : List (Tmp × Option (Option Nat))) : Option Out → Option (AV × St)
  | some (.nm, e, σ) | some (.rt, e, σ) => (retA rs e σ).map fun v => (v, σ)
  | _ => none

/-- A function's body, from its arguments. -/
def bodyA (C : Cfg) (R : Rec) (f : FuncId) (args : List AV) (σ : St) : Option (AV × St) :=
  (compF C f).bind fun fn => endA fn.results (R f fn.body (args ++ List.replicate (fn.ntmps - args.length) .undef) σ)

def purR : Option (AV × St) → Option AV
  | some r => (pur r.2 depth r.1).map (·.1)
  | none => none

/-- A call that is told by values alone. -/
def pureA (C : Cfg) (R : Rec) (f : FuncId) (args : List AV) : Option AV := purR (bodyA C R f args {})

/-- A loop's record is put anew. -/
def putLoop (l : Nat) (g : Lp → Lp) (v : AV) (σ : St) : Option (AV × St) := (σ.loops[l]?).map fun L => (v, { σ with loops := σ.loops.set l (g L) })

/-- The end of a round of the loop l. -/
def leaveA (l : Nat) : Option Out → Option (AV × St)
  | some (.nm, _, σ) => putLoop l (fun L => { L with st := .ready, pend := none }) (.bool true) σ
  | some (.rt, _, σ) => putLoop l (fun L => { L with st := .done, pend := some .ret }) (.bool false) σ
  | some (.ex id, _, σ) => putLoop l (fun L => { L with st := .done, pend := some (.exit id) }) (.bool false) σ
  | none => none

def busyA (l : Nat) (σ : St) : Option St :=
  match σ.loops[l]? with
  | some L => if L.st = .ready then some { σ with loops := σ.loops.set l { L with st := .busy } } else none
  | none => none

def bodyRun (R : Rec) (l : Nat) (L : Lp) (e : Env) : Option St → Option (AV × St)
  | some σ => leaveA l (R L.f L.body e σ)
  | none => none

/-- A round's body. -/
def innerA (R : Rec) (l : Nat) (L : Lp) : Option Out → Option (AV × St)
  | some (.nm, e, σ) => bodyRun R l L e (busyA l σ)
  | _ => none

/-- What a call in its caller's state leaves behind. -/
def cutR (σ : St) : Option (AV × St) → Option (AV × St)
  | some r => some (r.1, cut σ r.2 [r.1])
  | none => none

/-- A call of 'yield': a round of the loop l. -/
def roundA (R : Rec) (l : Nat) (args : List AV) (σ : St) : Option (AV × St) :=
  match σ.loops[l]? with
  | some L => if args.length = L.ps.length then cutR σ (innerA R l L (R L.f L.asg ((L.ps.zip args).foldl (fun e p => e.set p.1 p.2) L.env) σ)) else none
  | none => none

/-- What the caller of a call by values is left with. -/
def backA (σ : St) (draws touched : Bool) : Option AV → Option (AV × St)
  | some v => if touched then (if draws then none else some (v, if fo depth v then σ else { σ with ro := σ.boxes.length, mro := σ.maps.length })) else some (v, σ)
  | none => none

def pureCallA (C : Cfg) (R : Rec) (draws : Bool) (f : FuncId) (σ : St) : Option (List AV × Bool) → Option (AV × St)
  | some r => backA σ draws r.2 (pureA C R f r.1)
  | none => none

def intsOf : List AV → Option (List Int)
  | [] => some []
  | .int .i64 n :: cs => (intsOf cs).map (n :: ·)
  | _ => none
/-- A row of whole numbers is sorted, in place. -/
def sortA (σ : St) (args : List AV) : Option (AV × St) :=
  match args with
  | [.wsl b 0 n 1 false] => (σ.boxes[b]?).bind fun cs => (intsOf cs).bind fun zs => if zs.length = n ∧ σ.ro ≤ b ∧ zs.length < 4611686018427387904 then some (.tup [], { σ with boxes := σ.boxes.set b ((zs.mergeSort fun x y => decide (x ≤ y)).map I) }) else none
  | _ => none

def callA (C : Cfg) (R : Rec) (draws : Bool) (g : AV) (args : List AV) (σ : St) : Option (AV × St) :=
  match g with
  | .fn (.func f) first cap =>
    if C.imp f then (if C.srt f then sortA σ (first ++ args ++ cap) else cutR σ (bodyA C R f (first ++ args ++ cap) σ)) else pureCallA C R draws f σ (purAll (pur σ depth) (first ++ args ++ cap))
  | .yld l => roundA R l args σ
  | _ => none

/-- In a region whose order is open what is called is named in the text, or leaves all as it was. -/
def stillV (C : Cfg) : AV → Bool
  | .fn (.func f) _ _ => !C.imp f
  | _ => false
def still (C : Cfg) (g : Opd) (v : AV) : Bool :=
  match g with
  | .cst (.fn (.func _) _ _) => true
  | _ => stillV C v

def operA (C : Cfg) (R : Rec) (draws : Bool) (e : Env) (σ : St) : MOp → Option (AV × St)
  | .mov x => some (ev e x, σ)
  | .pick c a b => (match ev e c with | .bool c => some (if c then ev e a else ev e b, σ) | _ => none)
  | .bld z ps => (fillA (ps.map fun p => (p.1, p.2.1, ev e p.2.2)) z).map fun cs => (.agg cs, σ)
  | .bsl sz ag z n ps => (fillE sz ag (ps.map fun p => (p.1, ev e p.2)) (List.replicate n z)).map fun es => (.sl sz es .full, σ)
  | .bsw sz ag z n ps => bswA σ sz ag z n (ps.map fun p => (p.1, ev e p.2))
  | .bsf sz ag z n ps => bsfA σ sz ag z n (ps.map fun p => (p.1, ev e p.2))
  | .load n p => (loadA σ n (ev e p)).map fun v => (v, σ)
  | .nck p => (match ev e p with | .box b o => some (.box b o, σ) | .rp cs o => some (.rp cs o, σ) | _ => none)
  | .bin op x y => (binA op (ev e x) (ev e y)).map fun v => (v, σ)
  | .beq ne x y => (match ev e x, ev e y with | .bool a, .bool b => some (.bool ((a == b) != ne), σ) | _, _ => none)
  | .eqa n ne x y => (match ev e x, ev e y with | .agg xs, .agg ys => if xs.length = n ∧ ys.length = n then (eqCells xs ys).map fun r => (.bool (r != ne), σ) else none | _, _ => none)
  | .eqn ne x => (isNil (ev e x)).map fun r => (.bool (r != ne), σ)
  | .neg x => (match ev e x with | .int k n => some (.int k (k.wrap (0 - n)), σ) | _ => none)
  | .lnot x => (match ev e x with | .bool b => some (.bool !b, σ) | _ => none)
  | .conv k x => (match ev e x with | .int _ n => some (.int k (k.wrap n), σ) | _ => none)
  | .mkf f a b => some (.fn f (a.map (ev e)) (b.map (ev e)), σ)
  | .slc sz x lo hi mx => (slcA sz (ev e x) (lo.map (ev e)) (hi.map (ev e)) (mx.map (ev e))).map fun v => (v, σ)
  | .arr n sz ag x => (arrA σ n sz ag (ev e x)).map fun v => (v, σ)
  | .fad x off => (ptrAdd (ev e x) off).map fun v => (v, σ)
  | .fld n x off => (fldA n (ev e x) off).map fun v => (v, σ)
  | .ixa len sz x i => (ixaA len sz (ev e x) (ev e i)).map fun v => (v, σ)
  | .ixs sz x i => (ixsA sz (ev e x) (ev e i)).map fun v => (v, σ)
  | .ixv len sz n x i => (ixvA len sz n (ev e x) (ev e i)).map fun v => (v, σ)
  | .lkp kn z m k ok => (lkpA σ kn z (ev e m) (ev e k) ok).map fun v => (v, σ)
  | .ext x i => (match ev e x with | .tup vs => (vs[i]?).map fun v => (v, σ) | _ => none)
  | .len x => (lenA (ev e x)).map fun v => (v, σ)
  | .lenc n => some (I n, σ)
  | .mn x xs => (foldA min2 (ev e x) (xs.map (ev e))).map fun v => (v, σ)
  | .mx x xs => (foldA max2 (ev e x) (xs.map (ev e))).map fun v => (v, σ)
  | .alloc z => some (.box σ.boxes.length 0, { σ with boxes := σ.boxes ++ [z] })
  | .box x => boxA σ (ev e x)
  | .store n p x => (storeA σ n (ev e p) (ev e x)).map fun σ => (.undef, σ)
  | .mkm => some (.mp σ.maps.length, { σ with maps := σ.maps ++ [([], [])] })
  | .mks sz bytes ag z n c => mksA σ sz bytes ag z (ev e n) (ev e c)
  | .mput kn m k v => (mputA σ kn (ev e m) (ev e k) (ev e v)).map fun σ => (.undef, σ)
  | .ment kn z m k => mentA σ kn z (ev e m) (ev e k)
  | .esto m s v => (estoA σ (ev e m) (ev e s) (ev e v)).map fun σ => (.undef, σ)
  | .app w sz bytes ag s x => appA σ w sz bytes ag (ev e s) (ev e x)
  | .clr sz z x => (clrA σ sz z (ev e x)).map fun σ => (.tup [], σ)
  | .ixt x i => (ixtA (ev e x) (ev e i)).map fun v => (v, σ)
  | .bad => none
  | .call g xs => if draws && !still C g (ev e g) then none else callA C R draws (ev e g) (xs.map (ev e)) σ

def putA (e : Env) (d : Option Tmp) (v : AV) : Env :=
  match d with
  | some d => e.set d v
  | none => e

def wantedA (e : Env) : Option (Option Tmp × Bool) → Option Bool
  | none => some true
  | some (none, _) => some false
  | some (some d, want) => (match e.getD d .any with
      | .bool b => some (b == want)
      | .undef => some false
      | _ => none)

def condA (w : Bool) (x : Option (AV × St)) (σ : St) : Option (AV × St) := if w then x else some (.undef, σ)

def putR (e : Env) (d : Option Tmp) : Option (AV × St) → Option (Env × St)
  | some r => some (putA e d r.1, r.2)
  | none => none

def oneA (C : Cfg) (R : Rec) (draws : Bool) (o : MO) (e : Env) (σ : St) : Option (Env × St) :=
  match wantedA e o.guard with
  | some w => putR e o.dst (condA w (operA C R draws e σ o.op) σ)
  | none => none

def opsA (C : Cfg) (R : Rec) (draws : Bool) : List MO → Option (Env × St) → Option (Env × St)
  | [], s => s
  | o :: rest, some s => opsA C R draws rest (oneA C R draws o s.1 s.2)
  | _ :: _, none => none

def nmA : Option (Env × St) → Option Out
  | some s => some (.nm, s.1, s.2)
  | none => none

def thenA (R : Rec) (f : FuncId) (b : MC) : Option Out → Option Out
  | some (.nm, e, σ) => R f b e σ
  | x => x

/-- The next round of a loop. -/
def againA (R : Rec) (f : FuncId) (k : Option (List Tmp)) (L : MC) (σ0 : St) : Option Out → Option Out
  | some (.nm, e, σ) => R f L (mask k e) (cut σ0 σ (mask k e))
  | x => x

def blockA (id : Nat) : Option Out → Option Out
  | some (.ex i, e, σ) => some (if i = id then .nm else .ex i, e, σ)
  | x => x

def condC (R : Rec) (f : FuncId) (a b : MC) (e : Env) (σ : St) : AV → Option Out
  | .bool c => if c then R f a e σ else R f b e σ
  | _ => none

/-- What stands behind a range over a function. -/
def pendA (R : Rec) (l : Nat) (e : Env) : Option (AV × St) → Option Out
  | some r => (match r.2.loops[l]? with
    | some L => if L.st = .busy then none else
        (match L.pend with
          | none => some (.nm, e, { r.2 with loops := r.2.loops.set l { L with st := .exhausted } })
          | some c => R L.f c e { r.2 with loops := r.2.loops.set l { L with st := .exhausted } })
    | none => none)
  | none => none

def isFn : AV → Bool
  | .fn .. => true
  | _ => false

/-- One step of the unfolding. -/
def stepA (C : Cfg) (R : Rec) (f : FuncId) (c : MC) (e : Env) (σ : St) : Option Out :=
  match c with
  | .skip => some (.nm, e, σ)
  | .seq a b => thenA R f b (R f a e σ)
  | .cond c a b => condC R f a b e σ (ev e c)
  | .block id b => blockA id (R f b e σ)
  | .loop k b => againA R f k (.loop k b) σ (R f b (mask k e) σ)
  | .scope b => R f b e σ
  | .exit id => some (.ex id, e, σ)
  | .ret => some (.rt, e, σ)
  | .ops d l => nmA (opsA C R d l (some (e, σ)))
  | .range g ps asg body =>
    if isFn (ev e g) then pendA R σ.loops.length e (callA C R false (ev e g) [.yld σ.loops.length] { σ with loops := σ.loops ++ [{ f, env := e, ps, asg, body, st := .ready, pend := none }] }) else none

end Go.Ai

namespace Go.Ai

/-! ### The run: the limit of its unfoldings -/
def runN (C : Cfg) : Nat → Rec
  | 0 => fun _ _ _ _ => none
  | n + 1 => stepA C (runN C n)

open Classical in
noncomputable def run (C : Cfg) : Rec := fun f c e σ =>
  if h : ∃ n r, runN C n f c e σ = some r then runN C h.choose f c e σ else none

def Rec.le (R R' : Rec) : Prop := ∀ f c e σ r, R f c e σ = some r → R' f c e σ = some r

/-- What uses the run as a program can: more of it changes no answer; an answer takes a finite part of it. -/
structure Good (C : Cfg) {α : Type} (g : Rec → Option α) : Prop where
  mono : ∀ R R', Rec.le R R' → ∀ r, g R = some r → g R' = some r
  fin : (∀ n, Rec.le (runN C n) (runN C (n + 1))) → ∀ r, g (run C) = some r → ∃ n, ∀ m, n ≤ m → g (runN C m) = some r

section
variable {C : Cfg} {α β : Type}
theorem Good.const (x : Option α) : Good C (fun _ => x) := ⟨fun _ _ _ _ h => h, fun _ _ h => ⟨0, fun _ _ => h⟩⟩
theorem Good.bind {g : Rec → Option α} {h : α → Rec → Option β} (hg : Good C g) (hh : ∀ a, Good C (h a)) : Good C (fun R => (g R).bind fun a => h a R) where
  mono R R' hR r hr := by
    obtain ⟨a, ha, hb⟩ := Option.bind_eq_some_iff.1 hr
    exact Option.bind_eq_some_iff.2 ⟨a, hg.mono R R' hR a ha, (hh a).mono R R' hR r hb⟩
  fin hm r hr := by
    obtain ⟨a, ha, hb⟩ := Option.bind_eq_some_iff.1 hr
    obtain ⟨n, hn⟩ := hg.fin hm a ha
    obtain ⟨k, hk⟩ := (hh a).fin hm r hb
    exact ⟨n + k, fun m hm' => Option.bind_eq_some_iff.2 ⟨a, hn m (by omega), hk m (by omega)⟩⟩
theorem Good.map {g : Rec → Option α} (f : α → β) (hg : Good C g) : Good C (fun R => (g R).map f) := by
  have := hg.bind (h := fun a _ => some (f a)) fun _ => .const _
  simpa [Option.map_eq_bind, Function.comp_def] using this
theorem le_of_le (hm : ∀ n, Rec.le (runN C n) (runN C (n + 1))) {n m : Nat} (h : n ≤ m) : Rec.le (runN C n) (runN C m) := by
  induction h with
  | refl => exact fun _ _ _ _ _ h => h
  | step _ ih => exact fun f c e σ r h => hm _ f c e σ r (ih f c e σ r h)
theorem Good.run (f : FuncId) (c : MC) (e : Env) (σ : St) : Good C (fun R => R f c e σ) where
  mono R R' hR r hr := hR f c e σ r hr
  fin hm r hr := by
    unfold Ai.run at hr
    split at hr
    · rename_i h
      exact ⟨h.choose, fun m hm' => le_of_le hm hm' f c e σ r hr⟩
    · cases hr

theorem Good.congr {g g' : Rec → Option α} (h : ∀ R, g R = g' R) (hg : Good C g) : Good C g' := by
  have : g = g' := funext h
  exact this ▸ hg
theorem Good.comp {g : Rec → Option α} {k : Rec → Option α → Option β} (hg : Good C g) (h0 : ∀ R, k R none = none) (h1 : ∀ a, Good C (fun R => k R (some a))) : Good C (fun R => k R (g R)) := by
  refine Good.congr (g := fun R => (g R).bind fun a => k R (some a)) (fun R => ?_) (Good.bind hg h1)
  cases h : g R with
  | none => simp [h0]
  | some a => rfl
theorem good_body (f : FuncId) (args : List AV) (σ : St) : Good C (fun R => bodyA C R f args σ) := by
  unfold bodyA
  refine Good.bind (.const _) fun fn => ?_
  exact Good.comp (k := fun _ => endA fn.results) (.run ..) (fun _ => rfl) fun o => .const _
theorem good_pure (f : FuncId) (args : List AV) : Good C (fun R => pureA C R f args) :=
  Good.comp (k := fun _ => purR) (good_body ..) (fun _ => rfl) fun o => .const _
theorem good_round (l : Nat) (args : List AV) (σ : St) : Good C (fun R => roundA R l args σ) := by
  unfold roundA
  split
  · split
    · refine Good.comp (g := fun R => innerA R l _ _) (k := fun _ => cutR σ) (Good.comp (k := fun R => innerA R l _) (.run ..) (fun _ => rfl) ?_) (fun _ => rfl) fun o => .const _
      rintro ⟨x, e, σ⟩
      cases x with
      | nm =>
        simp only [innerA]
        cases busyA l σ with
        | none => exact .const _
        | some σ => exact Good.comp (k := fun R => leaveA l) (.run ..) (fun _ => rfl) fun o => .const _
      | ex id => exact .const _
      | rt => exact .const _
    · exact .const _
  · exact .const _
theorem good_call (d : Bool) (g : AV) (args : List AV) (σ : St) : Good C (fun R => callA C R d g args σ) := by
  unfold callA
  split
  · split
    · split
      · exact .const _
      · exact Good.comp (k := fun _ => cutR σ) (good_body ..) (fun _ => rfl) fun o => .const _
    · unfold pureCallA
      split
      · exact Good.comp (k := fun _ => backA σ d _) (good_pure ..) (fun _ => rfl) fun o => .const _
      · exact .const _
  · exact good_round ..
  · exact .const _
theorem good_oper (d : Bool) (e : Env) (σ : St) (o : MOp) : Good C (fun R => operA C R d e σ o) := by
  cases o with
  | call g xs =>
    simp only [operA]
    split
    · exact .const _
    · exact good_call ..
  | _ => exact .const _
theorem good_one (d : Bool) (o : MO) (e : Env) (σ : St) : Good C (fun R => oneA C R d o e σ) := by
  unfold oneA
  split
  · rename_i w _
    unfold condA
    split
    · exact Good.comp (k := fun _ => putR e o.dst) (good_oper ..) (fun _ => rfl) fun o => .const _
    · exact .const _
  · exact .const _
theorem good_ops (d : Bool) (l : List MO) : ∀ s, Good C (fun R => opsA C R d l s) := by
  induction l with
  | nil => exact fun s => .const _
  | cons o l ih =>
    intro s
    cases s with
    | none => exact .const _
    | some s =>
      refine Good.comp (g := fun R => oneA C R d o s.1 s.2) (k := fun R x => opsA C R d l x) (good_one ..) (fun R => ?_) fun s => ih _
      cases l <;> rfl
theorem good_then (f : FuncId) (b : MC) (o : Out) : Good C (fun R => thenA R f b (some o)) := by
  obtain ⟨x, e, σ⟩ := o
  cases x with
  | nm => exact .run ..
  | ex id => exact .const _
  | rt => exact .const _
theorem good_again (f : FuncId) (k : Option (List Tmp)) (b : MC) (σ : St) (o : Out) : Good C (fun R => againA R f k b σ (some o)) := by
  obtain ⟨x, e, σ'⟩ := o
  cases x with
  | nm => exact .run ..
  | ex id => exact .const _
  | rt => exact .const _
theorem good_step (f : FuncId) (c : MC) (e : Env) (σ : St) : Good C (fun R => stepA C R f c e σ) := by
  cases c with
  | skip => exact .const _
  | exit => exact .const _
  | ret => exact .const _
  | ops d l => exact Good.comp (k := fun _ => nmA) (good_ops ..) (fun _ => rfl) fun o => .const _
  | seq a b => exact Good.comp (k := fun R => thenA R f b) (.run ..) (fun _ => rfl) fun o => good_then ..
  | cond c a b =>
    simp only [stepA, condC]
    split
    · split
      · exact .run ..
      · exact .run ..
    · exact .const _
  | block id b => exact Good.comp (k := fun _ => blockA id) (.run ..) (fun _ => rfl) fun o => .const _
  | scope b => exact .run ..
  | loop k b => exact Good.comp (k := fun R => againA R f k (.loop k b) σ) (.run ..) (fun _ => rfl) fun o => good_again ..
  | range g ps asg body =>
    simp only [stepA]
    split
    · refine Good.comp (k := fun R => pendA R σ.loops.length e) (good_call ..) (fun _ => rfl) fun r => ?_
      simp only [pendA]
      split
      · split
        · exact .const _
        · split
          · exact .const _
          · exact .run ..
      · exact .const _
    · exact .const _

theorem runN_mono : ∀ n, Rec.le (runN C n) (runN C (n + 1))
  | 0 => fun _ _ _ _ _ h => by simp [runN] at h
  | n + 1 => fun f c e σ r h => (good_step (C := C) f c e σ).mono _ _ (runN_mono n) r h

theorem run_iff {f : FuncId} {c : MC} {e : Env} {σ : St} {r : Out} : run C f c e σ = some r ↔ ∃ n, runN C n f c e σ = some r := by
  constructor
  · intro h
    obtain ⟨n, hn⟩ := (Good.run (C := C) f c e σ).fin runN_mono r h
    exact ⟨n, hn n (Nat.le_refl _)⟩
  · rintro ⟨n, hn⟩
    have hex : ∃ n r, runN C n f c e σ = some r := ⟨n, r, hn⟩
    unfold run
    rw [dif_pos hex]
    obtain ⟨r', hr'⟩ := hex.choose_spec
    rw [hr']
    have h1 := le_of_le runN_mono (Nat.le_add_right n hex.choose) f c e σ r hn
    have h2 := le_of_le runN_mono (Nat.le_add_left hex.choose n) f c e σ r' hr'
    rw [h1] at h2
    exact h2.symm

theorem runN_le_run (n : Nat) : Rec.le (runN C n) (run C) := fun _ _ _ _ _ h => run_iff.2 ⟨n, h⟩

/-- The equation of the run. -/
theorem run_eq (f : FuncId) (c : MC) (e : Env) (σ : St) : run C f c e σ = stepA C (run C) f c e σ := by
  apply Option.ext
  intro r
  constructor
  · intro h
    obtain ⟨n, hn⟩ := run_iff.1 h
    cases n with
    | zero => simp [runN] at hn
    | succ n => exact (good_step (C := C) f c e σ).mono _ _ (runN_le_run n) r hn
  · intro h
    obtain ⟨n, hn⟩ := (good_step (C := C) f c e σ).fin runN_mono r h
    exact run_iff.2 ⟨n + 1, hn n (Nat.le_refl _)⟩

/-- A call, told by values alone. -/
noncomputable def call (C : Cfg) (f : FuncId) (args : List AV) : Option AV := pureA C (run C) f args
end
end Go.Ai

namespace Go.Ai
section
variable {C : Cfg} {f : FuncId} {e : Env} {σ : St}
theorem run_skip : run C f .skip e σ = some (.nm, e, σ) := by rw [run_eq]; rfl
theorem run_exit {id : Nat} : run C f (.exit id) e σ = some (.ex id, e, σ) := by rw [run_eq]; rfl
theorem run_ret : run C f .ret e σ = some (.rt, e, σ) := by rw [run_eq]; rfl
theorem run_seq {a b : MC} : run C f (.seq a b) e σ = thenA (run C) f b (run C f a e σ) := by rw [run_eq]; rfl
theorem run_ops {d : Bool} {l : List MO} : run C f (.ops d l) e σ = nmA (opsA C (run C) d l (some (e, σ))) := by rw [run_eq]; rfl
theorem run_block {id : Nat} {b : MC} : run C f (.block id b) e σ = blockA id (run C f b e σ) := by rw [run_eq]; rfl
theorem run_loop {k} {b : MC} : run C f (.loop k b) e σ = againA (run C) f k (.loop k b) σ (run C f b (mask k e) σ) := by rw [run_eq]; rfl
theorem run_scope {b : MC} : run C f (.scope b) e σ = run C f b e σ := by rw [run_eq]; rfl
theorem run_cond {c : Opd} {a b : MC} : run C f (.cond c a b) e σ = condC (run C) f a b e σ (ev e c) := by rw [run_eq]; rfl
theorem opsA_nil {R : Rec} {d : Bool} {s} : opsA C R d [] s = s := by cases s <;> rfl
theorem opsA_cons {R : Rec} {d : Bool} {o : MO} {rest : List MO} : opsA C R d (o :: rest) (some (e, σ)) = opsA C R d rest (oneA C R d o e σ) := rfl
theorem opsA_ite {R : Rec} {d : Bool} {l : List MO} {c : Prop} [Decidable c] {x y} : opsA C R d l (if c then x else y) = if c then opsA C R d l x else opsA C R d l y := by split <;> rfl
theorem thenA_nm {R : Rec} {b : MC} : thenA R f b (some (.nm, e, σ)) = R f b e σ := rfl
theorem thenA_rt {R : Rec} {b : MC} : thenA R f b (some (.rt, e, σ)) = some (.rt, e, σ) := rfl
theorem thenA_ex {R : Rec} {b : MC} {i : Nat} : thenA R f b (some (.ex i, e, σ)) = some (.ex i, e, σ) := rfl
theorem thenA_ite {R : Rec} {b : MC} {c : Prop} [Decidable c] {x y} : thenA R f b (if c then x else y) = if c then thenA R f b x else thenA R f b y := by split <;> rfl
theorem blockA_nm {id : Nat} : blockA id (some (.nm, e, σ)) = some (.nm, e, σ) := rfl
theorem blockA_rt {id : Nat} : blockA id (some (.rt, e, σ)) = some (.rt, e, σ) := rfl
theorem blockA_ex {id i : Nat} : blockA id (some (.ex i, e, σ)) = some (if i = id then .nm else .ex i, e, σ) := rfl
theorem blockA_ite {id : Nat} {c : Prop} [Decidable c] {x y} : blockA id (if c then x else y) = if c then blockA id x else blockA id y := by split <;> rfl
theorem nmA_some {s : Env × St} : nmA (some s) = some (.nm, s.1, s.2) := rfl
theorem condC_bool {R : Rec} {a b : MC} {c : Bool} : condC R f a b e σ (.bool c) = if c then R f a e σ else R f b e σ := rfl
theorem condA_true {x} : condA true x σ = x := rfl
theorem condA_false {x} : condA false x σ = some (.undef, σ) := rfl
theorem condA_some {b : Bool} {v : AV} : condA b (some (v, σ)) σ = some (if b then v else .undef, σ) := by cases b <;> rfl
theorem condA_congr {b b' : Bool} {x y : Option (AV × St)} {σ' : St} (hb : b = b') (h : b' = true → x = y) : condA b x σ' = condA b' y σ' := by
  subst hb
  cases b with
  | false => rfl
  | true => rw [h rfl]
theorem ite_pair {p : Prop} [Decidable p] {x y : AV} {s : St} : (if p then some (x, s) else some (y, s)) = some (if p then x else y, s) := by split <;> rfl
theorem ite_bool_false {p : Prop} [Decidable p] {x : Bool} : (if p then AV.bool x else AV.bool false) = AV.bool (decide p && x) := by split <;> simp_all
theorem ite_bool_true {p : Prop} [Decidable p] {x : Bool} : (if p then AV.bool true else AV.bool x) = AV.bool (decide p || x) := by split <;> simp_all
theorem putR_some {d : Option Tmp} {r : AV × St} : putR e d (some r) = some (putA e d r.1, r.2) := rfl
theorem endA_nm {rs} : endA rs (some (.nm, e, σ)) = (retA rs e σ).map fun v => (v, σ) := rfl
theorem endA_rt {rs} : endA rs (some (.rt, e, σ)) = (retA rs e σ).map fun v => (v, σ) := rfl
theorem endA_ite {rs} {c : Prop} [Decidable c] {x y} : endA rs (if c then x else y) = if c then endA rs x else endA rs y := by split <;> rfl
theorem call_def {args : List AV} {fn : MF} (h : compF C f = some fn) : call C f args = purR (endA fn.results (run C f fn.body (args ++ List.replicate (fn.ntmps - args.length) .undef) {})) := by
  unfold call pureA bodyA; rw [h]; rfl
end
end Go.Ai

namespace Go.Ai

/-- How a value of the model is told by one without addresses: the memory that it leads to is frozen. -/
inductive PRep (w : World) (F : Nat → Nat → Prop) (M : Nat → Prop) : Value → AV → Prop
  | any (v : Value) : PRep w F M v .any
  | undef : PRep w F M undef .undef
  | int (k : IntKind) (n : Int) : PRep w F M (.int k n) (.int k n)
  | bool (b : Bool) : PRep w F M (.bool b) (.bool b)
  | str (s : ByteArray) : PRep w F M (.string s) (.str s)
  | nilp : PRep w F M (.pointer none) .nilp
  | nilm : PRep w F M (.map none) .nilm
  | nilf : PRep w F M .nilFunc .nilf
  | nils : PRep w F M (.slice none 0 0) .nils
  | esl (a : Addr) : PRep w F M (.slice (some a) 0 0) .esl
  | agg (vs : Array Value) (cs : List AV) (hl : vs.size = cs.length) (h : ∀ (i : Nat) (v : Value) (c : AV), vs[i]? = some v → cs[i]? = some c → PRep w F M v c) : PRep w F M (.agg vs) (.agg cs)
  | tup (vs : Array Value) (cs : List AV) (hl : vs.size = cs.length) (h : ∀ (i : Nat) (v : Value) (c : AV), vs[i]? = some v → cs[i]? = some c → PRep w F M v c) : PRep w F M (.tuple vs) (.tup cs)
  | sl (g o cap sz : Nat) (es : List AV) (c : Cap) (val : Nat → Nat → Value) (hc : c = .no ∨ (c = .full ∧ cap = es.length)) (hcap : es.length ≤ cap)
      (hs : ∀ (i : Nat) (e : AV), es[i]? = some e → e.cells.length = sz)
      (hw : ∀ (i : Nat) (e : AV) (j : Nat) (x : AV), es[i]? = some e → e.cells[j]? = some x → w.cell? ⟨g, o + i * sz + j, none⟩ = some (val i j))
      (hF : ∀ (i : Nat) (e : AV) (j : Nat) (x : AV), es[i]? = some e → e.cells[j]? = some x → F g (o + i * sz + j))
      (h1 : ∀ (i : Nat) (e : AV) (j : Nat) (x : AV), es[i]? = some e → e.cells[j]? = some x → (val i j).oneCell' = true)
      (h : ∀ (i : Nat) (e : AV) (j : Nat) (x : AV), es[i]? = some e → e.cells[j]? = some x → PRep w F M (val i j) x) :
      PRep w F M (.slice (some ⟨g, o, none⟩) es.length cap) (.sl sz es c)
  | mapv (r : Nat) (es : Array MapEntry) (clock : Nat) (ks vs : List AV) (hw : w.heap[r]? = some (.map es clock)) (hM : M r) (hk : es.size = ks.length) (hv : es.size = vs.length)
      (h : ∀ (i : Nat) (e : MapEntry) (k : AV), es[i]? = some e → ks[i]? = some k → PRep w F M e.key k) (h' : ∀ (i : Nat) (e : MapEntry) (v : AV), es[i]? = some e → vs[i]? = some v → PRep w F M e.val v) :
      PRep w F M (.map (some r)) (.mapv ks vs)
  | fn (f : Fn) (vs us : Array Value) (a b : List AV) (h1 : vs.size = a.length) (h2 : us.size = b.length)
      (h : ∀ (i : Nat) (v : Value) (c : AV), vs[i]? = some v → a[i]? = some c → PRep w F M v c) (h' : ∀ (i : Nat) (v : Value) (c : AV), us[i]? = some v → b[i]? = some c → PRep w F M v c) :
      PRep w F M (.func f vs us) (.fn f a b)
  | rp (g o off : Nat) (cs : List AV) (val : Nat → Value) (hw : ∀ (j : Nat) (x : AV), cs[j]? = some x → w.cell? ⟨g, o + j, none⟩ = some (val j)) (hF : ∀ (j : Nat) (x : AV), cs[j]? = some x → F g (o + j))
      (h1 : ∀ (j : Nat) (x : AV), cs[j]? = some x → (val j).oneCell' = true)
      (h : ∀ (j : Nat) (x : AV), cs[j]? = some x → PRep w F M (val j) x) : PRep w F M (.pointer (some ⟨g, o + off, none⟩)) (.rp cs off)

/-- What was frozen is as it was; more may be. -/
structure Grew (w w' : World) (F F' : Nat → Nat → Prop) (M M' : Nat → Prop) : Prop where
  cell : ∀ g o, F g o → w'.cell? ⟨g, o, none⟩ = w.cell? ⟨g, o, none⟩
  map : ∀ (r : Nat) (es : Array MapEntry) (c : Nat), M r → w.heap[r]? = some (.map es c) → w'.heap[r]? = some (.map es c)
  F : ∀ g o, F g o → F' g o
  M : ∀ r, M r → M' r

theorem PRep.mono {w w' : World} {F F' : Nat → Nat → Prop} {M M' : Nat → Prop} (h : Grew w w' F F' M M') {v : Value} {a : AV} (r : PRep w F M v a) : PRep w' F' M' v a := by
  induction r with
  | any v => exact .any v
  | undef => exact .undef
  | int k n => exact .int k n
  | bool b => exact .bool b
  | str s => exact .str s
  | nilp => exact .nilp
  | nilm => exact .nilm
  | nilf => exact .nilf
  | nils => exact .nils
  | esl a => exact .esl a
  | agg vs cs hl _ ih => exact .agg vs cs hl ih
  | tup vs cs hl _ ih => exact .tup vs cs hl ih
  | sl g o cap sz es c val hc hcap hs hw hF h1c _ ih =>
    exact .sl g o cap sz es c val hc hcap hs (fun i e j x h1 h2 => (h.cell _ _ (hF i e j x h1 h2)).trans (hw i e j x h1 h2)) (fun i e j x h1 h2 => h.F _ _ (hF i e j x h1 h2)) h1c ih
  | mapv r es clock ks vs hw hM hk hv _ _ ih ih' => exact .mapv r es clock ks vs (h.map _ _ _ hM hw) (h.M _ hM) hk hv ih ih'
  | fn f vs us a b h1 h2 _ _ ih ih' => exact .fn f vs us a b h1 h2 ih ih'
  | rp g o off cs val hw hF h1c _ ih => exact .rp g o off cs val (fun j x h1 => (h.cell _ _ (hF j x h1)).trans (hw j x h1)) (fun j x h1 => h.F _ _ (hF j x h1)) h1c ih

theorem Grew.refl (w : World) (F : Nat → Nat → Prop) (M : Nat → Prop) : Grew w w F F M M := ⟨fun _ _ _ => rfl, fun _ _ _ _ h => h, fun _ _ h => h, fun _ h => h⟩
theorem Grew.trans {w w' w'' : World} {F F' F'' : Nat → Nat → Prop} {M M' M'' : Nat → Prop} (h : Grew w w' F F' M M') (h' : Grew w' w'' F' F'' M' M'') : Grew w w'' F F'' M M'' :=
  ⟨fun g o x => (h'.cell g o (h.F g o x)).trans (h.cell g o x), fun r es c x y => h'.map r es c (h.M r x) (h.map r es c x y), fun g o x => h'.F g o (h.F g o x), fun r x => h'.M r (h.M r x)⟩

/-- Where the call's own things lie, and what is frozen. -/
structure Ctx where
  n0 : Nat
  F : Nat → Nat → Prop
  M : Nat → Prop
  box : Nat → Nat × Nat
  tip : Nat → Nat × Nat
  map : Nat → Nat
  loop : Nat → Nat

inductive Rep (X : Ctx) (σ : St) (w : World) : Value → AV → Prop
  | pure {v : Value} {a : AV} (h : PRep w X.F X.M v a) : Rep X σ w v a
  | agg (vs : Array Value) (cs : List AV) (hl : vs.size = cs.length) (h : ∀ (i : Nat) (v : Value) (c : AV), vs[i]? = some v → cs[i]? = some c → Rep X σ w v c) : Rep X σ w (.agg vs) (.agg cs)
  | tup (vs : Array Value) (cs : List AV) (hl : vs.size = cs.length) (h : ∀ (i : Nat) (v : Value) (c : AV), vs[i]? = some v → cs[i]? = some c → Rep X σ w v c) : Rep X σ w (.tuple vs) (.tup cs)
  | fn (f : Fn) (vs us : Array Value) (a b : List AV) (h1 : vs.size = a.length) (h2 : us.size = b.length)
      (h : ∀ (i : Nat) (v : Value) (c : AV), vs[i]? = some v → a[i]? = some c → Rep X σ w v c) (h' : ∀ (i : Nat) (v : Value) (c : AV), us[i]? = some v → b[i]? = some c → Rep X σ w v c) :
      Rep X σ w (.func f vs us) (.fn f a b)
  | chain (g cap sz : Nat) (es : List AV) (c : Nat) (n s : Nat) (hn : σ.chains[c]? = some (n, s)) (hle : es.length ≤ n) (ht : es.length = n → X.tip c = (g, cap) ∧ s = sz)
      (h : PRep w X.F X.M (.slice (some ⟨g, 0, none⟩) es.length cap) (.sl sz es .no)) : Rep X σ w (.slice (some ⟨g, 0, none⟩) es.length cap) (.sl sz es (.chain c))
  | wsl (b off n cap sz : Nat) (ag : Bool) (cs : List AV) (hb : σ.boxes[b]? = some cs) (hf : off + cap * sz ≤ (X.box b).2) (hn : n ≤ cap) (hag : ag = true ∨ sz = 1) :
      Rep X σ w (.slice (some ⟨(X.box b).1, off, none⟩) n cap) (.wsl b off n sz ag)
  | mp (m : Nat) (hm : m < σ.maps.length) : Rep X σ w (.map (some (X.map m))) (.mp m)
  | yld (l : Nat) (hl : l < σ.loops.length) : Rep X σ w (.func (.yield (X.loop l)) #[] #[]) (.yld l)
  | box (b off : Nat) (hb : b < σ.boxes.length) : Rep X σ w (.pointer (some ⟨(X.box b).1, off, none⟩)) (.box b off)

/-- What is the call's own. -/
def Owned (X : Ctx) (σ : St) (g : Nat) : Prop :=
  (∃ b, b < σ.boxes.length ∧ (X.box b).1 = g) ∨ (∃ c, c < σ.chains.length ∧ (X.tip c).1 = g) ∨ (∃ m, m < σ.maps.length ∧ X.map m = g) ∨ (∃ l, l < σ.loops.length ∧ X.loop l = g)

/-- What values say goes on to be so. -/
structure Keeps (X X' : Ctx) (σ σ' : St) (w w' : World) : Prop where
  grew : Grew w w' X.F X'.F X.M X'.M
  box : ∀ b, b < σ.boxes.length → X'.box b = X.box b
  boxes : ∀ (b : Nat) (cs : List AV), σ.boxes[b]? = some cs → ∃ cs', σ'.boxes[b]? = some cs'
  chains : ∀ (c n s : Nat), σ.chains[c]? = some (n, s) → ∃ n', σ'.chains[c]? = some (n', s) ∧ n ≤ n' ∧ (n' = n → X'.tip c = X.tip c)
  map : ∀ m, m < σ.maps.length → X'.map m = X.map m
  maps : σ.maps.length ≤ σ'.maps.length
  loop : ∀ l, l < σ.loops.length → X'.loop l = X.loop l
  loops : σ.loops.length ≤ σ'.loops.length

structure Ext (X X' : Ctx) (σ σ' : St) (w w' : World) : Prop extends Keeps X X' σ σ' w w' where
  n0 : X'.n0 = X.n0
  size : w.heap.size ≤ w'.heap.size
  owned : ∀ g, g < w.heap.size → Owned X' σ' g → Owned X σ g
  kept : ∀ g, g < w.heap.size → ¬ Owned X σ g → w'.heap[g]? = w.heap[g]?
  os : w'.os = w.os
  tape : w'.tape = w.tape
  output : w'.output = w.output
  newF : ∀ g o, X'.F g o → X.F g o ∨ X.n0 ≤ g
  freshF : ∀ g o, X'.F g o → X.F g o ∨ Owned X σ g ∨ w.heap.size ≤ g
  newM : ∀ r, X'.M r → X.M r ∨ X.n0 ≤ r

theorem Keeps.boxes_le {X X' : Ctx} {σ σ' : St} {w w' : World} (h : Keeps X X' σ σ' w w') : σ.boxes.length ≤ σ'.boxes.length := by
  rcases Nat.lt_or_ge σ'.boxes.length σ.boxes.length with hlt | hge
  · have hs : σ.boxes[σ'.boxes.length]? = some σ.boxes[σ'.boxes.length] := List.getElem?_eq_getElem hlt
    obtain ⟨cs', h1⟩ := h.boxes _ _ hs
    have := (List.getElem?_eq_some_iff.1 h1).1
    omega
  · exact hge

theorem Ext.refl (X : Ctx) (σ : St) (w : World) : Ext X X σ σ w w where
  n0 := rfl
  grew := .refl ..
  box _ _ := rfl
  boxes b cs h := ⟨cs, h⟩
  chains c n s h := ⟨n, h, Nat.le_refl _, fun _ => rfl⟩
  map _ _ := rfl
  maps := Nat.le_refl _
  loop _ _ := rfl
  loops := Nat.le_refl _
  size := Nat.le_refl _
  owned _ _ h := h
  kept _ _ _ := rfl
  os := rfl
  tape := rfl
  output := rfl
  newF _ _ h := .inl h
  freshF _ _ h := .inl h
  newM _ h := .inl h

theorem lt_of_some {α : Type} {l : List α} {i : Nat} {x : α} (h : l[i]? = some x) : i < l.length := (List.getElem?_eq_some_iff.1 h).1

theorem Ext.boxes_le {X X' : Ctx} {σ σ' : St} {w w' : World} (h : Ext X X' σ σ' w w') : σ.boxes.length ≤ σ'.boxes.length := h.toKeeps.boxes_le
theorem Ext.chains_le {X X' : Ctx} {σ σ' : St} {w w' : World} (h : Ext X X' σ σ' w w') : σ.chains.length ≤ σ'.chains.length := by
  rcases Nat.lt_or_ge σ'.chains.length σ.chains.length with hlt | hge
  · have hs : σ.chains[σ'.chains.length]? = some (σ.chains[σ'.chains.length].1, σ.chains[σ'.chains.length].2) := List.getElem?_eq_getElem hlt
    obtain ⟨n', h1, _⟩ := h.chains _ _ _ hs
    have := lt_of_some h1
    omega
  · exact hge

theorem Ext.trans {X X' X'' : Ctx} {σ σ' σ'' : St} {w w' w'' : World} (h : Ext X X' σ σ' w w') (k : Ext X' X'' σ' σ'' w' w'') : Ext X X'' σ σ'' w w'' where
  n0 := k.n0.trans h.n0
  grew := h.grew.trans k.grew
  box b hb := (k.box b (Nat.lt_of_lt_of_le hb h.boxes_le)).trans (h.box b hb)
  boxes b cs hb := by
    obtain ⟨cs', h1⟩ := h.boxes b cs hb
    exact k.boxes b cs' h1
  chains c n s hc := by
    obtain ⟨n', h1, h2, h3⟩ := h.chains c n s hc
    obtain ⟨n'', h4, h5, h6⟩ := k.chains c n' s h1
    refine ⟨n'', h4, Nat.le_trans h2 h5, fun he => ?_⟩
    have e1 : n'' = n' := by omega
    have e2 : n' = n := by omega
    exact (h6 e1).trans (h3 e2)
  map m hm := (k.map m (Nat.lt_of_lt_of_le hm h.maps)).trans (h.map m hm)
  maps := Nat.le_trans h.maps k.maps
  loop l hl := (k.loop l (Nat.lt_of_lt_of_le hl h.loops)).trans (h.loop l hl)
  loops := Nat.le_trans h.loops k.loops
  size := Nat.le_trans h.size k.size
  owned g hg ho := h.owned g hg (k.owned g (Nat.lt_of_lt_of_le hg h.size) ho)
  kept g hg ho := by
    have h1 : ¬ Owned X' σ' g := fun ho' => ho (h.owned g hg ho')
    exact (k.kept g (Nat.lt_of_lt_of_le hg h.size) h1).trans (h.kept g hg ho)
  os := k.os.trans h.os
  tape := k.tape.trans h.tape
  output := k.output.trans h.output
  newF g o hf := (k.newF g o hf).elim (h.newF g o) fun hn => .inr (by rw [← h.n0]; exact hn)
  freshF g o hf := by
    rcases k.freshF g o hf with h1 | h1 | h1
    · exact h.freshF g o h1
    · rcases Nat.lt_or_ge g w.heap.size with hg | hg
      · exact .inr (.inl (h.owned g hg h1))
      · exact .inr (.inr hg)
    · exact .inr (.inr (Nat.le_trans h.size h1))
  newM g hf := (k.newM g hf).elim (h.newM g) fun hn => .inr (by rw [← h.n0]; exact hn)

theorem Rep.keep {X X' : Ctx} {σ σ' : St} {w w' : World} (h : Keeps X X' σ σ' w w') {v : Value} {a : AV} (r : Rep X σ w v a) : Rep X' σ' w' v a := by
  induction r with
  | pure p => exact .pure (p.mono h.grew)
  | agg vs cs hl _ ih => exact .agg vs cs hl ih
  | tup vs cs hl _ ih => exact .tup vs cs hl ih
  | fn f vs us a b h1 h2 _ _ ih ih' => exact .fn f vs us a b h1 h2 ih ih'
  | chain g cap sz es c n s hn hle ht p =>
    obtain ⟨n', h1, h2, h3⟩ := h.chains c n s hn
    refine .chain g cap sz es c n' s h1 (by omega) (fun he => ?_) (p.mono h.grew)
    have e1 : es.length = n := by omega
    have e2 : n' = n := by omega
    rw [h3 e2]
    exact ht e1
  | wsl b off n cap sz ag cs hb hf hn hag =>
    obtain ⟨cs', h1⟩ := h.boxes b cs hb
    have e := h.box b (lt_of_some hb)
    rw [← e]
    exact .wsl b off n cap sz ag cs' h1 (by rw [e]; exact hf) hn hag
  | mp m hm =>
    rw [← h.map m hm]
    exact .mp m (Nat.lt_of_lt_of_le hm h.maps)
  | yld l hl =>
    rw [← h.loop l hl]
    exact .yld l (Nat.lt_of_lt_of_le hl h.loops)
  | box b off hb =>
    rw [← h.box b hb]
    exact .box b off (Nat.lt_of_lt_of_le hb h.boxes_le)

theorem Rep.mono {X X' : Ctx} {σ σ' : St} {w w' : World} (h : Ext X X' σ σ' w w') {v : Value} {a : AV} (r : Rep X σ w v a) : Rep X' σ' w' v a := r.keep h.toKeeps

theorem PRep.one {w : World} {F : Nat → Nat → Prop} {M : Nat → Prop} {v : Value} {a : AV} (h : PRep w F M v a) (ha : a.isCell = true) : v.oneCell' = true := by
  cases h <;> first | rfl | cases ha
theorem Rep.one {X : Ctx} {σ : St} {w : World} {v : Value} {a : AV} (h : Rep X σ w v a) (ha : a.isCell = true) : v.oneCell' = true := by
  cases h with
  | pure p => exact p.one ha
  | _ => first | rfl | cases ha
theorem all_get {l : List AV} (h : l.all AV.isCell = true) {j : Nat} {c : AV} (hj : l[j]? = some c) : c.isCell = true := (List.all_eq_true.1 h) c (List.mem_of_getElem? hj)

/-- Cell by cell. -/
def Reps (X : Ctx) (σ : St) (w : World) (vs : List Value) (as : List AV) : Prop := vs.length = as.length ∧ ∀ (i : Nat) (v : Value) (a : AV), vs[i]? = some v → as[i]? = some a → Rep X σ w v a
def PReps (w : World) (F : Nat → Nat → Prop) (M : Nat → Prop) (vs : List Value) (as : List AV) : Prop := vs.length = as.length ∧ ∀ (i : Nat) (v : Value) (a : AV), vs[i]? = some v → as[i]? = some a → PRep w F M v a

def pendRep (C : Cfg) (f : FuncId) : Option Code → Option MC → Prop
  | none, none => True
  | some c, some m => compC C f c = some m
  | _, _ => False

def BoxOk (X : Ctx) (σ : St) (w : World) (b : Nat) (cs : List AV) : Prop := X.n0 ≤ (X.box b).1 ∧ ∃ (arr : Array Value) (T : TypeId), w.heap[(X.box b).1]? = some (.cells arr T (0, 0)) ∧ (cs.length ≤ arr.size ∧ arr.size = (X.box b).2) ∧ cs.all AV.isCell = true ∧
    (∀ (j : Nat) (v : Value) (c : AV), arr[j]? = some v → cs[j]? = some c → Rep X σ w v c) ∧ (σ.ro ≤ b → ∀ o, ¬ X.F (X.box b).1 o) ∧ (b < σ.ro → ∀ o, o < cs.length → X.F (X.box b).1 o)
def ChainOk (X : Ctx) (w : World) (c n s : Nat) : Prop := X.n0 ≤ (X.tip c).1 ∧ 0 < s ∧ n ≤ (X.tip c).2 ∧ ∃ (arr : Array Value) (T : TypeId), w.heap[(X.tip c).1]? = some (.cells arr T (0, 0)) ∧ arr.size = (X.tip c).2 * s ∧
    (∀ o, n * s ≤ o → ¬ X.F (X.tip c).1 o)
def MapOk (X : Ctx) (σ : St) (w : World) (m : Nat) (es : List AV × List AV) : Prop := X.n0 ≤ X.map m ∧ ∃ arr : Array MapEntry, w.heap[X.map m]? = some (.map arr arr.size) ∧ arr.size = es.1.length ∧ arr.size = es.2.length ∧
    (∀ (i : Nat) (e : MapEntry), arr[i]? = some e → e.born = i) ∧ (∀ (i : Nat) (e : MapEntry) (k : AV), arr[i]? = some e → es.1[i]? = some k → Rep X σ w e.key k) ∧ (∀ (i : Nat) (e : MapEntry) (v : AV), arr[i]? = some e → es.2[i]? = some v → Rep X σ w e.val v) ∧
    (σ.mro ≤ m → ¬ X.M (X.map m)) ∧ (m < σ.mro → X.M (X.map m))
def LoopOk (C : Cfg) (X : Ctx) (σ : St) (w : World) (l : Nat) (L : Lp) : Prop := X.n0 ≤ X.loop l ∧ ∃ lp : Loop, w.heap[X.loop l]? = some (.loop lp) ∧ lp.state = L.st ∧ Reps X σ w lp.tmps.toList L.env ∧ lp.params.toList = L.ps ∧
    compC C L.f lp.assign = some L.asg ∧ compC C L.f lp.body = some L.body ∧ pendRep C L.f lp.pending L.pend

structure Inv (C : Cfg) (X : Ctx) (σ : St) (w : World) : Prop where
  base : X.n0 ≤ w.heap.size
  F : ∀ g o, X.F g o → g < w.heap.size
  M : ∀ r, X.M r → r < w.heap.size
  box : ∀ (b : Nat) (cs : List AV), σ.boxes[b]? = some cs → BoxOk X σ w b cs
  boxInj : ∀ b b', b < σ.boxes.length → b' < σ.boxes.length → σ.boxes[b]? ≠ some [] → σ.boxes[b']? ≠ some [] → (X.box b).1 = (X.box b').1 → b = b'
  chain : ∀ (c n s : Nat), σ.chains[c]? = some (n, s) → ChainOk X w c n s
  tipInj : ∀ c c', c < σ.chains.length → c' < σ.chains.length → (X.tip c).1 = (X.tip c').1 → c = c'
  tipBox : ∀ c b, c < σ.chains.length → b < σ.boxes.length → (X.tip c).1 ≠ (X.box b).1
  map : ∀ (m : Nat) (es : List AV × List AV), σ.maps[m]? = some es → MapOk X σ w m es
  mapInj : ∀ m m', m < σ.maps.length → m' < σ.maps.length → X.map m = X.map m' → m = m'
  loop : ∀ (l : Nat) (L : Lp), σ.loops[l]? = some L → LoopOk C X σ w l L
  loopInj : ∀ l l', l < σ.loops.length → l' < σ.loops.length → X.loop l = X.loop l' → l = l'
  ro : σ.ro ≤ σ.boxes.length
  mro : σ.mro ≤ σ.maps.length
  glob : ∀ (g : Nat) (cs : List AV), C.glob g = some cs → PRep w X.F X.M (.pointer (some ⟨g, 0, none⟩)) (.rp cs 0)

section
variable {C : Cfg} {X X' : Ctx} {σ σ' : St} {w w' : World}
theorem Reps.keep (K : Keeps X X' σ σ' w w') {vs : List Value} {as : List AV} (h : Reps X σ w vs as) : Reps X' σ' w' vs as := ⟨h.1, fun i v a h1 h2 => (h.2 i v a h1 h2).keep K⟩
theorem BoxOk.keep {b : Nat} {cs : List AV} (h : BoxOk X σ w b cs) (K : Keeps X X' σ σ' w w') (hn : X'.n0 = X.n0) (hb : b < σ.boxes.length) (hh : w'.heap[(X.box b).1]? = w.heap[(X.box b).1]?) (hF : ∀ o, X'.F (X.box b).1 o → X.F (X.box b).1 o) (hro : σ'.ro = σ.ro) : BoxOk X' σ' w' b cs := by
  obtain ⟨h1, arr, T, h2, h3, h4, h5, h6, h7⟩ := h
  unfold BoxOk
  rw [K.box b hb, hn, hro]
  exact ⟨h1, arr, T, hh.trans h2, h3, h4, fun j v c hv hc => (h5 j v c hv hc).keep K, fun hr o hf => h6 hr o (hF o hf), fun hr o hlt => K.grew.F _ _ (h7 hr o hlt)⟩
theorem ChainOk.keep {c n s : Nat} (h : ChainOk X w c n s) (hn : X'.n0 = X.n0) (ht : X'.tip c = X.tip c) (hh : w'.heap[(X.tip c).1]? = w.heap[(X.tip c).1]?) (hF : ∀ o, X'.F (X.tip c).1 o → X.F (X.tip c).1 o) : ChainOk X' w' c n s := by
  obtain ⟨h1, h2, h3, arr, T, h4, h5, h6⟩ := h
  unfold ChainOk
  rw [ht, hn]
  exact ⟨h1, h2, h3, arr, T, hh.trans h4, h5, fun o hlt hf => h6 o hlt (hF o hf)⟩
theorem MapOk.keep {m : Nat} {es : List AV × List AV} (h : MapOk X σ w m es) (K : Keeps X X' σ σ' w w') (hn : X'.n0 = X.n0) (hm : m < σ.maps.length) (hh : w'.heap[X.map m]? = w.heap[X.map m]?) (hM : X'.M (X.map m) → X.M (X.map m)) (hro : σ'.mro = σ.mro) : MapOk X' σ' w' m es := by
  obtain ⟨h1, arr, h2, h3, h4, h5, h6, h7, h8, h9⟩ := h
  unfold MapOk
  rw [K.map m hm, hn, hro]
  exact ⟨h1, arr, hh.trans h2, h3, h4, h5, fun i e k he hk => (h6 i e k he hk).keep K, fun i e v he hv => (h7 i e v he hv).keep K, fun hr hf => h8 hr (hM hf), fun hr => K.grew.M _ (h9 hr)⟩
theorem LoopOk.keep {l : Nat} {L : Lp} (h : LoopOk C X σ w l L) (K : Keeps X X' σ σ' w w') (hn : X'.n0 = X.n0) (hl : l < σ.loops.length) (hh : w'.heap[X.loop l]? = w.heap[X.loop l]?) : LoopOk C X' σ' w' l L := by
  obtain ⟨h1, lp, h2, h3, h5, h6, h7, h8, h9⟩ := h
  unfold LoopOk
  rw [K.loop l hl, hn]
  exact ⟨h1, lp, hh.trans h2, h3, h5.keep K, h6, h7, h8, h9⟩
end

end Go.Ai

namespace Go.Ai

theorem cellV_cells (v : AV) : (cellV v).cells = [cellV v] := by cases v <;> rfl

theorem chunk_length (sz : Nat) (ag : Bool) : ∀ n cs, (chunk sz ag n cs).length = n
  | 0, _ => rfl
  | n + 1, cs => by simp [chunk, chunk_length sz ag n]

theorem chunk_get (sz : Nat) (ag : Bool) : ∀ (n : Nat) (cs : List AV) (i : Nat), i < n → (chunk sz ag n cs)[i]? = some (if ag then .agg ((cs.drop (i * sz)).take sz) else cellV ((cs.drop (i * sz)).headD .any))
  | 0, _, _, h => absurd h (Nat.not_lt_zero _)
  | n + 1, cs, 0, _ => by simp [chunk]
  | n + 1, cs, i + 1, h => by
    simp only [chunk, List.getElem?_cons_succ]
    rw [chunk_get sz ag n (cs.drop sz) i (by omega), List.drop_drop]
    have : sz + i * sz = (i + 1) * sz := by rw [Nat.add_mul, Nat.one_mul, Nat.add_comm]
    rw [this]

/-- The cells of an element of a row of cells. -/
theorem chunk_cells {sz : Nat} {ag : Bool} {n : Nat} {cs : List AV} (hl : n * sz ≤ cs.length) (hag : ag = true ∨ sz = 1) {i : Nat} {e : AV} (h : (chunk sz ag n cs)[i]? = some e) :
    i < n ∧ e.cells.length = sz ∧ ∀ (j : Nat) (x : AV), e.cells[j]? = some x → j < sz ∧ ∃ y, cs[i * sz + j]? = some y ∧ (x = y ∨ x = cellV y) := by
  have hi : i < n := by have := lt_of_some h; rwa [chunk_length] at this
  have hle : i * sz + sz ≤ cs.length := by
    have : (i + 1) * sz ≤ n * sz := Nat.mul_le_mul_right _ hi
    rw [Nat.add_mul, Nat.one_mul] at this
    omega
  rw [chunk_get sz ag n cs i hi] at h
  refine ⟨hi, ?_⟩
  cases ag with
  | true =>
    simp only [if_true, Option.some.injEq] at h
    subst h
    refine ⟨by simp [AV.cells]; omega, fun j x hx => ?_⟩
    have hj : j < sz := by have := lt_of_some hx; simp [AV.cells] at this; omega
    refine ⟨hj, x, ?_, .inl rfl⟩
    simp only [AV.cells, List.getElem?_take, hj, if_true, List.getElem?_drop] at hx
    exact hx
  | false =>
    rcases hag with hag | hag
    · cases hag
    subst hag
    simp only [Bool.false_eq_true, if_false, Option.some.injEq] at h
    have hlt : i < cs.length := by omega
    have hd : (cs.drop (i * 1)).headD .any = cs[i] := by
      rw [Nat.mul_one, List.drop_eq_getElem_cons hlt]; rfl
    rw [hd] at h
    subst h
    refine ⟨by rw [cellV_cells]; rfl, fun j x hx => ?_⟩
    rw [cellV_cells] at hx
    have hj : j = 0 := by have := lt_of_some hx; simpa using this
    subst hj
    simp only [List.getElem?_cons_zero, Option.some.injEq] at hx
    exact ⟨by omega, cs[i], by simp [List.getElem?_eq_getElem hlt], .inr hx.symm⟩

theorem PRep.cellV {w : World} {F : Nat → Nat → Prop} {M : Nat → Prop} {v : Value} {y : AV} (h : PRep w F M v y) : PRep w F M v (Ai.cellV y) := by
  cases y <;> first | exact .any _ | exact h
theorem PRep.cell_of {w : World} {F : Nat → Nat → Prop} {M : Nat → Prop} {v : Value} {x y : AV} (h : PRep w F M v y) (hx : x = y ∨ x = Ai.cellV y) : PRep w F M v x := by
  rcases hx with rfl | rfl
  · exact h
  · exact h.cellV

/-- All that a caller's own variables hold, too. -/
def FB (X : Ctx) (σ : St) (g o : Nat) : Prop := X.F g o ∨ ∃ b cs, σ.boxes[b]? = some cs ∧ (X.box b).1 = g ∧ o < cs.length
def MB (X : Ctx) (σ : St) (r : Nat) : Prop := X.M r ∨ ∃ m, m < σ.maps.length ∧ X.map m = r

theorem grew_FB (X : Ctx) (σ : St) (w : World) : Grew w w X.F (FB X σ) X.M (MB X σ) := ⟨fun _ _ _ => rfl, fun _ _ _ _ h => h, fun _ _ h => .inl h, fun _ h => .inl h⟩

theorem cell_at {w : World} {g j : Nat} {arr : Array Value} {T : TypeId} {fr : Nat × Nat} {v : Value} (h : w.heap[g]? = some (.cells arr T fr)) (hv : arr[j]? = some v) : w.cell? ⟨g, j, none⟩ = some v := by
  simp [World.cell?, h, hv]

theorem purAll_spec {f : AV → Option (AV × Bool)} : ∀ {as : List AV} {r : List AV × Bool}, purAll f as = some r →
    r.1.length = as.length ∧ (∀ (i : Nat) (a b : AV), as[i]? = some a → r.1[i]? = some b → ∃ t, f a = some (b, t) ∧ (r.2 = false → t = false))
  | [], r, h => by
    simp only [purAll, Option.some.injEq] at h
    subst h
    exact ⟨rfl, fun i a b h => by simp at h⟩
  | a :: as, r, h => by
    simp only [purAll, Option.bind_eq_some_iff] at h
    obtain ⟨x, hx, s, hs, he⟩ := h
    simp only [Option.some.injEq] at he
    subst he
    obtain ⟨h1, h2⟩ := purAll_spec hs
    refine ⟨by simp [h1], fun i a' b' ha hb => ?_⟩
    cases i with
    | zero =>
      simp only [List.getElem?_cons_zero, Option.some.injEq] at ha hb
      subst ha hb
      exact ⟨x.2, hx, fun ht => by simp only [Bool.or_eq_false_iff] at ht; exact ht.1⟩
    | succ i =>
      simp only [List.getElem?_cons_succ] at ha hb
      obtain ⟨t, e1, e2⟩ := h2 i a' b' ha hb
      exact ⟨t, e1, fun ht => by simp only [Bool.or_eq_false_iff] at ht; exact e2 ht.2⟩

theorem some_of_lt {α : Type} {l : List α} {i : Nat} (h : i < l.length) : ∃ x, l[i]? = some x := ⟨l[i], List.getElem?_eq_getElem h⟩
theorem some_of_size {α : Type} {l : Array α} {i : Nat} (h : i < l.size) : ∃ x, l[i]? = some x := ⟨l[i], Array.getElem?_eq_getElem h⟩
theorem size_of_some {α : Type} {l : Array α} {i : Nat} {x : α} (h : l[i]? = some x) : i < l.size := (Array.getElem?_eq_some_iff.1 h).1

/-- What 'pur' gives leads to frozen memory alone, once a caller's own variables count as frozen; and without that, if none was looked into. -/
theorem pur_rep {C : Cfg} {X : Ctx} {σ : St} {w : World} (H : Inv C X σ w) : ∀ (d : Nat) {v : Value} {a b : AV} {t : Bool}, Rep X σ w v a → pur σ d a = some (b, t) →
    PRep w (FB X σ) (MB X σ) v b ∧ (t = false → PRep w X.F X.M v b)
  | 0, _, _, _, _, _, h => by simp [pur] at h
  | d + 1, v, a, b, t, r, h => by
    have lists : ∀ {vs : Array Value} {as : List AV} {q : List AV × Bool}, vs.size = as.length → (∀ (i : Nat) (v : Value) (c : AV), vs[i]? = some v → as[i]? = some c → Rep X σ w v c) → purAll (pur σ d) as = some q →
        vs.size = q.1.length ∧ (∀ (i : Nat) (v : Value) (c : AV), vs[i]? = some v → q.1[i]? = some c → PRep w (FB X σ) (MB X σ) v c ∧ (q.2 = false → PRep w X.F X.M v c)) := by
      intro vs as q hl hr hq
      obtain ⟨h1, h2⟩ := purAll_spec hq
      refine ⟨by omega, fun i v c hv hc => ?_⟩
      obtain ⟨a', ha'⟩ := some_of_lt (l := as) (i := i) (by have := lt_of_some hc; omega)
      obtain ⟨t', e1, e2⟩ := h2 i a' c ha' hc
      have := pur_rep H d (hr i v a' hv ha') e1
      exact ⟨this.1, fun hq2 => this.2 (e2 hq2)⟩
    have pureCase : ∀ {b}, PRep w X.F X.M v b → PRep w (FB X σ) (MB X σ) v b ∧ (t = false → PRep w X.F X.M v b) := fun p => ⟨p.mono (grew_FB X σ w), fun _ => p⟩
    cases a with
    | any => simp only [pur, Option.some.injEq, Prod.mk.injEq] at h; obtain ⟨rfl, rfl⟩ := h; exact pureCase (.any _)
    | undef => simp only [pur, Option.some.injEq, Prod.mk.injEq] at h; obtain ⟨rfl, rfl⟩ := h; cases r with | pure p => exact pureCase p
    | int => simp only [pur, Option.some.injEq, Prod.mk.injEq] at h; obtain ⟨rfl, rfl⟩ := h; cases r with | pure p => exact pureCase p
    | bool => simp only [pur, Option.some.injEq, Prod.mk.injEq] at h; obtain ⟨rfl, rfl⟩ := h; cases r with | pure p => exact pureCase p
    | str => simp only [pur, Option.some.injEq, Prod.mk.injEq] at h; obtain ⟨rfl, rfl⟩ := h; cases r with | pure p => exact pureCase p
    | nilp => simp only [pur, Option.some.injEq, Prod.mk.injEq] at h; obtain ⟨rfl, rfl⟩ := h; cases r with | pure p => exact pureCase p
    | nilm => simp only [pur, Option.some.injEq, Prod.mk.injEq] at h; obtain ⟨rfl, rfl⟩ := h; cases r with | pure p => exact pureCase p
    | nilf => simp only [pur, Option.some.injEq, Prod.mk.injEq] at h; obtain ⟨rfl, rfl⟩ := h; cases r with | pure p => exact pureCase p
    | nils => simp only [pur, Option.some.injEq, Prod.mk.injEq] at h; obtain ⟨rfl, rfl⟩ := h; cases r with | pure p => exact pureCase p
    | esl => simp only [pur, Option.some.injEq, Prod.mk.injEq] at h; obtain ⟨rfl, rfl⟩ := h; cases r with | pure p => exact pureCase p
    | mapv => simp only [pur, Option.some.injEq, Prod.mk.injEq] at h; obtain ⟨rfl, rfl⟩ := h; cases r with | pure p => exact pureCase p
    | rp => simp only [pur, Option.some.injEq, Prod.mk.injEq] at h; obtain ⟨rfl, rfl⟩ := h; cases r with | pure p => exact pureCase p
    | yld => simp [pur] at h
    | agg cs =>
      simp only [pur, Option.bind_eq_some_iff] at h
      obtain ⟨q, hq, he⟩ := h
      simp only [Option.some.injEq, Prod.mk.injEq] at he
      obtain ⟨rfl, rfl⟩ := he
      have key : ∃ vs : Array Value, v = .agg vs ∧ vs.size = cs.length ∧ ∀ (i : Nat) (v : Value) (c : AV), vs[i]? = some v → cs[i]? = some c → Rep X σ w v c := by
        cases r with
        | pure p => cases p with | agg vs _ hl hp => exact ⟨vs, rfl, hl, fun i v c h1 h2 => .pure (hp i v c h1 h2)⟩
        | agg vs _ hl hp => exact ⟨vs, rfl, hl, hp⟩
      obtain ⟨vs, rfl, hl, hp⟩ := key
      obtain ⟨h1, h2⟩ := lists hl hp hq
      exact ⟨.agg _ _ h1 fun i v c a1 a2 => (h2 i v c a1 a2).1, fun hf => .agg _ _ h1 fun i v c a1 a2 => (h2 i v c a1 a2).2 hf⟩
    | tup cs =>
      simp only [pur, Option.bind_eq_some_iff] at h
      obtain ⟨q, hq, he⟩ := h
      simp only [Option.some.injEq, Prod.mk.injEq] at he
      obtain ⟨rfl, rfl⟩ := he
      have key : ∃ vs : Array Value, v = .tuple vs ∧ vs.size = cs.length ∧ ∀ (i : Nat) (v : Value) (c : AV), vs[i]? = some v → cs[i]? = some c → Rep X σ w v c := by
        cases r with
        | pure p => cases p with | tup vs _ hl hp => exact ⟨vs, rfl, hl, fun i v c h1 h2 => .pure (hp i v c h1 h2)⟩
        | tup vs _ hl hp => exact ⟨vs, rfl, hl, hp⟩
      obtain ⟨vs, rfl, hl, hp⟩ := key
      obtain ⟨h1, h2⟩ := lists hl hp hq
      exact ⟨.tup _ _ h1 fun i v c a1 a2 => (h2 i v c a1 a2).1, fun hf => .tup _ _ h1 fun i v c a1 a2 => (h2 i v c a1 a2).2 hf⟩
    | fn f as bs =>
      simp only [pur, Option.bind_eq_some_iff] at h
      obtain ⟨q, hq, q', hq', he⟩ := h
      simp only [Option.some.injEq, Prod.mk.injEq] at he
      obtain ⟨rfl, rfl⟩ := he
      have key : ∃ vs us : Array Value, v = .func f vs us ∧ vs.size = as.length ∧ us.size = bs.length ∧ (∀ (i : Nat) (v : Value) (c : AV), vs[i]? = some v → as[i]? = some c → Rep X σ w v c) ∧
          ∀ (i : Nat) (v : Value) (c : AV), us[i]? = some v → bs[i]? = some c → Rep X σ w v c := by
        cases r with
        | pure p => cases p with | fn _ vs us _ _ hl hl' hp hp' => exact ⟨vs, us, rfl, hl, hl', fun i v c h1 h2 => .pure (hp i v c h1 h2), fun i v c h1 h2 => .pure (hp' i v c h1 h2)⟩
        | fn _ vs us _ _ hl hl' hp hp' => exact ⟨vs, us, rfl, hl, hl', hp, hp'⟩
      obtain ⟨vs, us, rfl, hl, hl', hp, hp'⟩ := key
      obtain ⟨h1, h2⟩ := lists hl hp hq
      obtain ⟨h3, h4⟩ := lists hl' hp' hq'
      refine ⟨.fn f _ _ _ _ h1 h3 (fun i v c a1 a2 => (h2 i v c a1 a2).1) (fun i v c a1 a2 => (h4 i v c a1 a2).1), fun hf => ?_⟩
      simp only [Bool.or_eq_false_iff] at hf
      exact .fn f _ _ _ _ h1 h3 (fun i v c a1 a2 => (h2 i v c a1 a2).2 hf.1) (fun i v c a1 a2 => (h4 i v c a1 a2).2 hf.2)
    | sl sz es c =>
      simp only [pur, Option.some.injEq, Prod.mk.injEq] at h
      obtain ⟨rfl, rfl⟩ := h
      cases r with
      | pure p =>
        have : c.pure = c := by
          cases p with
          | sl g o cap _ _ _ val hc => rcases hc with rfl | ⟨rfl, _⟩ <;> rfl
        rw [this]
        exact pureCase p
      | chain g cap _ _ c n s hn hle ht p => exact pureCase p
    | wsl b' off m sz ag =>
      simp only [pur, Option.bind_eq_some_iff] at h
      obtain ⟨cs, hcs, q, hq, he⟩ := h
      split at he
      case isFalse => cases he
      rename_i hcond
      simp only [Option.some.injEq, Prod.mk.injEq] at he
      obtain ⟨rfl, rfl⟩ := he
      refine ⟨?_, fun hf => by cases hf⟩
      cases r with
      | pure p => cases p
      | wsl _ _ _ cap _ _ cs' hb hf hn hag =>
        rw [hcs] at hb
        cases hb
        obtain ⟨hn0, arr, T, hw, hsz, hcell1, hrep, hF1, hF2⟩ := H.box b' cs hcs
        obtain ⟨h1, h2⟩ := purAll_spec hq
        have hlen : m * sz ≤ (q.1.drop off).length := by simp only [List.length_drop]; omega
        have hcell : ∀ (i : Nat) (e : AV) (j : Nat) (x : AV), (chunk sz ag m (q.1.drop off))[i]? = some e → e.cells[j]? = some x →
            ∃ y, q.1[off + (i * sz + j)]? = some y ∧ (x = y ∨ x = cellV y) := by
          intro i e j x he hx
          obtain ⟨_, _, h5⟩ := chunk_cells hlen hag he
          obtain ⟨_, y, hy, hxy⟩ := h5 j x hx
          rw [List.getElem?_drop] at hy
          exact ⟨y, hy, hxy⟩
        have hval : ∀ (k : Nat) (y : AV), q.1[k]? = some y → ∃ u, arr[k]? = some u ∧ u.oneCell' = true ∧ PRep w (FB X σ) (MB X σ) u y := by
          intro k y hy
          have hk : k < cs.length := by have := lt_of_some hy; omega
          obtain ⟨u, hu⟩ := some_of_size (l := arr) (i := k) (by omega)
          obtain ⟨a0, ha0⟩ := some_of_lt hk
          obtain ⟨t0, e1, _⟩ := h2 k a0 y ha0 hy
          exact ⟨u, hu, (hrep k u a0 hu ha0).one (all_get hcell1 ha0), (pur_rep H d (hrep k u a0 hu ha0) e1).1⟩
        have e0 : (chunk sz ag m (q.1.drop off)).length = m := chunk_length ..
        have := PRep.sl (w := w) (F := FB X σ) (M := MB X σ) (X.box b').1 off cap sz (chunk sz ag m (q.1.drop off)) .no (fun i j => (arr[off + (i * sz + j)]?).getD undef) (.inl rfl) (by rw [e0]; exact hn)
          (fun i e he => (chunk_cells hlen hag he).2.1)
          (fun i e j x he hx => by
            obtain ⟨y, hy, _⟩ := hcell i e j x he hx
            obtain ⟨u, hu, _⟩ := hval _ y hy
            rw [show off + i * sz + j = off + (i * sz + j) by omega]
            rw [cell_at hw hu, hu]; rfl)
          (fun i e j x he hx => by
            obtain ⟨y, hy, _⟩ := hcell i e j x he hx
            refine .inr ⟨b', cs, hcs, rfl, ?_⟩
            have := lt_of_some hy
            omega)
          (fun i e j x he hx => by
            obtain ⟨y, hy, _⟩ := hcell i e j x he hx
            obtain ⟨u, hu, h1c, _⟩ := hval _ y hy
            rw [hu]
            exact h1c)
          (fun i e j x he hx => by
            obtain ⟨y, hy, hxy⟩ := hcell i e j x he hx
            obtain ⟨u, hu, _, hp⟩ := hval _ y hy
            rw [hu]
            exact hp.cell_of hxy)
        rw [e0] at this
        exact this
    | mp m =>
      simp only [pur, Option.bind_eq_some_iff] at h
      obtain ⟨es, hes, q, hq, q', hq', he⟩ := h
      simp only [Option.some.injEq, Prod.mk.injEq] at he
      obtain ⟨rfl, rfl⟩ := he
      refine ⟨?_, fun hf => by cases hf⟩
      cases r with
      | pure p => cases p
      | mp _ hm =>
        obtain ⟨_, arr, hw, h1, h2, hborn, hk, hv, _, _⟩ := H.map m es hes
        obtain ⟨h3, h4⟩ := purAll_spec hq
        obtain ⟨h5, h6⟩ := purAll_spec hq'
        refine .mapv (X.map m) arr arr.size _ _ hw (.inr ⟨m, hm, rfl⟩) (by omega) (by omega) (fun i e k he hk' => ?_) (fun i e v he hv' => ?_)
        · obtain ⟨k0, hk0⟩ := some_of_lt (l := es.1) (i := i) (by have := lt_of_some hk'; omega)
          obtain ⟨t0, e1, _⟩ := h4 i k0 k hk0 hk'
          exact (pur_rep H d (hk i e k0 he hk0) e1).1
        · obtain ⟨v0, hv0⟩ := some_of_lt (l := es.2) (i := i) (by have := lt_of_some hv'; omega)
          obtain ⟨t0, e1, _⟩ := h6 i v0 v hv0 hv'
          exact (pur_rep H d (hv i e v0 he hv0) e1).1
    | box b' off =>
      simp only [pur, Option.bind_eq_some_iff] at h
      obtain ⟨cs, hcs, q, hq, he⟩ := h
      simp only [Option.some.injEq, Prod.mk.injEq] at he
      obtain ⟨rfl, rfl⟩ := he
      refine ⟨?_, fun hf => by cases hf⟩
      cases r with
      | pure p => cases p
      | box _ _ hb =>
        obtain ⟨_, arr, T, hw, hsz, hcell1, hrep, _, _⟩ := H.box b' cs hcs
        obtain ⟨h1, h2⟩ := purAll_spec hq
        have hval : ∀ (k : Nat) (y : AV), q.1[k]? = some y → ∃ u, arr[k]? = some u ∧ u.oneCell' = true ∧ PRep w (FB X σ) (MB X σ) u y := by
          intro k y hy
          have hk : k < cs.length := by have := lt_of_some hy; omega
          obtain ⟨u, hu⟩ := some_of_size (l := arr) (i := k) (by omega)
          obtain ⟨a0, ha0⟩ := some_of_lt hk
          obtain ⟨t0, e1, _⟩ := h2 k a0 y ha0 hy
          exact ⟨u, hu, (hrep k u a0 hu ha0).one (all_get hcell1 ha0), (pur_rep H d (hrep k u a0 hu ha0) e1).1⟩
        have := PRep.rp (w := w) (F := FB X σ) (M := MB X σ) (X.box b').1 0 off q.1 (fun j => (arr[j]?).getD undef)
          (fun j x hx => by obtain ⟨u, hu, _⟩ := hval j x hx; rw [Nat.zero_add, cell_at hw hu, hu]; rfl)
          (fun j x hx => .inr ⟨b', cs, hcs, rfl, by have := lt_of_some hx; omega⟩)
          (fun j x hx => by obtain ⟨u, hu, h1c, _⟩ := hval j x hx; rw [hu]; exact h1c)
          (fun j x hx => by obtain ⟨u, hu, _, hp⟩ := hval j x hx; rw [hu]; exact hp)
        rw [Nat.zero_add] at this
        exact this

end Go.Ai
