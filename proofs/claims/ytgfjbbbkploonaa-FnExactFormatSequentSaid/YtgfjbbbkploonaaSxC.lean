/-
  The walk over plain data: what each operation does to a state, and what a piece of code asks of a state.
  Conditions: none.
-/
import Derived.Test.YtgfjbbbkploonaaSxB
namespace Go.Proofs.Ytgfjbbbkploonaa
set_option linter.unusedSimpArgs false
set_option linter.unusedVariables false
open Go.RowKit

/- What the types say. -/
def aggT (P : Program) (t : TypeId) : Option Bool := (P.underlying t).map fun d => match d with | .struct _ => true | .array _ _ => true | _ => false
def sizeT (P : Program) (t : TypeId) : Option Nat := (P.info? t).map (·.size)
def bytesT (P : Program) (t : TypeId) : Option Nat := (P.info? t).map (·.bytes)
def elT (P : Program) (t : TypeId) : Option TypeId := match P.underlying t with | some (.slice e) => some e | _ => none
def strT (P : Program) (t : TypeId) : Bool := match P.underlying t with | some .string => true | _ => false
def boolT (P : Program) (t : TypeId) : Bool := match P.underlying t with | some .bool => true | _ => false
def intT (P : Program) (t : TypeId) : Option IntKind := match P.underlying t with | some (.int k) => some k | _ => none
def nlT (P : Program) (t : TypeId) : Nat := ((elT P t).bind (sizeT P)).getD 0
def fldT (P : Program) (t : TypeId) (f : Nat) : Option (Nat × TypeId) := match P.underlying t with | some (.struct fs) => (fs[f]?).map fun x => (x.offset, x.type) | _ => none
def nlsT (P : Program) : Nat → TypeId → List Nat
  | 0, _ => []
  | d + 1, t => match P.underlying t with
    | some (.struct fs) => fs.toList.flatMap fun f => nlsT P d f.type
    | _ => [nlT P t]
/-- A constant cell. -/
def cellOf (s : Nat) : Value → C
  | .int k n => if k.min ≤ n ∧ n ≤ k.max then .t (.int k n) else .cv (.int k n)
  | .bool b => .t (.bool b)
  | .string x => if x.size ≤ maxI then .t (.str x.data.toList) else .cv (.string x)
  | .slice none 0 0 => .nl s
  | v => .cv v
def zeroT (P : Program) (t : TypeId) : Option (List C) := ((P.info? t).bind (·.zero)).map fun z => z.cells.toList.zipIdx.map fun (v, i) => cellOf ((nlsT P 6 t).getD i 0) v
/-- A constant at a type. -/
def ofV (P : Program) (t : TypeId) : Value → V
  | .agg cs => .agg (cs.toList.zipIdx.map fun (v, i) => cellOf ((nlsT P 6 t).getD i 0) v)
  | v => .one (cellOf (nlT P t) v)

def St.get (P : Program) (σ : St) (t : TypeId) : Operand → V
  | .tmp i => if i < 1000000 then σ.sl i else .one .any
  | .const v => ofV P t v
  | .global _ => .one .any
  | .func f => .one (.fn f [])
def St.put (σ : St) (d : Option Nat) (v : V) : St := match d with | some i => { σ with sl := upd σ.sl i v } | none => σ

def V.cells : V → List C
  | .one c => [c]
  | .agg cs => cs
  | .tup _ => []

/-- What a load finds. -/
def ldC (P : Program) (t : TypeId) (cs : List C) (o : Nat) : Option V :=
  match aggT P t with
  | some true => (sizeT P t).bind fun n => if o + n ≤ cs.length then some (.agg ((cs.drop o).take n)) else none
  | some false => (cs[o]?).map .one
  | none => none
/-- The cells that a pointer points at, and the place. -/
def St.at (σ : St) : V → Option (List C × Nat)
  | .one (.bx b o) => (σ.bx b).map fun cs => (cs, o)
  | .one (.el cs o) => some (cs.map .t, o)
  | .one (.t (.ptr cs)) => some (cs.map .t, 0)
  | .one (.eo e g sz i o) => (σ.ev e).bind fun x => if x.gen = g ∧ x.sz = sz then some ((x.rows.getD i []).map .t, o) else none
  | _ => none

/-- A cell that no memory stands behind. -/
def T.flat : T → Bool
  | .int _ _ => true
  | .bool _ => true
  | .str _ => true
  | _ => false
def goodV : Value → Bool
  | .pointer none => true
  | .map none => true
  | .nilFunc => true
  | .nilIface => true
  | _ => false
/-- A cell that may be stored. -/
def C.good : C → Bool
  | .any => false
  | .cv v => goodV v
  | _ => true

def binI (op : BinOp) (k : IntKind) (a b : Int) : Option (Prop × C) :=
  match op with
  | .add => some (True, .t (.int k (k.wrap (a + b))))
  | .sub => some (True, .t (.int k (k.wrap (a - b))))
  | .mul => some (True, .t (.int k (k.wrap (a * b))))
  | .quo => some (b ≠ 0, .t (.int k (k.wrap (a.tdiv b))))
  | .rem => some (b ≠ 0 ∧ k.min ≤ a.tmod b ∧ a.tmod b ≤ k.max, .t (.int k (a.tmod b)))
  | .and => some (True, .t (.int k (k.wrap (BitVec.ofInt k.bits a &&& BitVec.ofInt k.bits b).toNat)))
  | .or => some (True, .t (.int k (k.wrap (BitVec.ofInt k.bits a ||| BitVec.ofInt k.bits b).toNat)))
  | .xor => some (True, .t (.int k (k.wrap (BitVec.ofInt k.bits a ^^^ BitVec.ofInt k.bits b).toNat)))
  | .eql => some (True, .t (.bool (a == b)))
  | .neq => some (True, .t (.bool (a != b)))
  | .lss => some (True, .t (.bool (decide (a < b))))
  | .leq => some (True, .t (.bool (decide (a ≤ b))))
  | .gtr => some (True, .t (.bool (decide (a > b))))
  | .geq => some (True, .t (.bool (decide (a ≥ b))))
  | _ => none
def binS (op : BinOp) (a b : List UInt8) : Option (Prop × C) :=
  match op with
  | .add => some (a.length + b.length ≤ maxI, .t (.str (a ++ b)))
  | .eql => some (True, .t (.bool (a == b)))
  | .neq => some (True, .t (.bool (!(a == b))))
  | .lss => some (True, .t (.bool (Op.bytesLess a b)))
  | .gtr => some (True, .t (.bool (!(Op.bytesLess a b || a == b))))
  | .leq => some (True, .t (.bool (Op.bytesLess a b || a == b)))
  | .geq => some (True, .t (.bool (!(Op.bytesLess a b))))
  | _ => none
def bin (P : Program) (op : BinOp) (t : TypeId) : V → V → Option (Prop × C)
  | .one (.t (.int k a)), .one (.t (.int k' b)) => match op with
    | .shl => some (0 ≤ b, .t (.int k (k.wrap (a * 2 ^ min b.toNat k.bits))))
    | .shr => some (0 ≤ b ∧ k.min ≤ a.fdiv (2 ^ min b.toNat k.bits) ∧ a.fdiv (2 ^ min b.toNat k.bits) ≤ k.max, .t (.int k (a.fdiv (2 ^ min b.toNat k.bits))))
    | op => if k = k' then binI op k a b else none
  | .one (.t (.str a)), .one (.t (.str b)) => binS op a b
  | .one (.t (.bool a)), .one (.t (.bool b)) => match op with
    | .eql => if boolT P t = true then some (True, .t (.bool (a == b))) else none
    | .neq => if boolT P t = true then some (True, .t (.bool (!(a == b)))) else none
    | _ => none
  | _, _ => none
def un (op : UnOp) : V → Option C
  | .one (.t (.bool a)) => match op with | .not => some (.t (.bool (!a))) | _ => none
  | .one (.t (.int k a)) => match op with | .neg => some (.t (.int k (k.wrap (0 - a)))) | _ => none
  | _ => none

/-- What a cell reads as. -/
def CT0 (σ : St) : C → T → Prop
  | .t x, y => x = y
  | .nl _, .sl _ rows => rows = []
  | .ow e g, .sl sz rows => ∃ d o, σ.ev e = some ⟨d, sz, rows, g, o⟩
  | .el cs o, .ptr cs' => o = 0 ∧ cs = cs'
  | _, _ => False
def CT0s (σ : St) : List C → List T → Prop
  | [], ts => ts = []
  | c :: cs, ts => ∃ t ts', ts = t :: ts' ∧ CT0 σ c t ∧ CT0s σ cs ts'
def CTb (σ : St) (b : Nat) (t : T) : Prop := ∃ cs ts, σ.bx b = some cs ∧ t = .ptr ts ∧ CT0s σ cs ts
def CTf (σ : St) : List Nat → List T → Prop
  | [], ts => ts = []
  | b :: bs, ts => ∃ t ts', ts = t :: ts' ∧ CTb σ b t ∧ CTf σ bs ts'
def CT (σ : St) : C → T → Prop
  | .bx b 0, t => CTb σ b t
  | .fn f caps, .fn g ts => f = g ∧ CTf σ caps ts
  | c, t => CT0 σ c t
def CTs (σ : St) : List C → List T → Prop
  | [], ts => ts = []
  | c :: cs, ts => ∃ t ts', ts = t :: ts' ∧ CT σ c t ∧ CTs σ cs ts'

/-- An argument, a result: one cell, or a struct's cells. -/
inductive D where
  | one (t : T)
  | agg (ts : List T)
def RepD (w : World) (A : Nat → Prop) : D → Value → Prop
  | .one t, v => RepV w A t v
  | .agg ts, v => ∃ a, v = .agg ⟨a⟩ ∧ RepAll w A ts a
def RepDs (w : World) (A : Nat → Prop) : List D → List Value → Prop
  | [], vs => vs = []
  | d :: ds, vs => ∃ v vs', vs = v :: vs' ∧ RepD w A d v ∧ RepDs w A ds vs'
def OwnD (w : World) : D → Value → List Nat → Prop
  | .one t, v, fp => OwnV w t v fp
  | .agg ts, v, fp => ∃ a, v = .agg ⟨a⟩ ∧ OwnAll w ts a fp
def OwnDs (w : World) : List D → List Value → List Nat → Prop
  | [], vs, fp => vs = [] ∧ fp = []
  | d :: ds, vs, fp => ∃ v vs' f1 f2, vs = v :: vs' ∧ fp = f1 ++ f2 ∧ OwnD w d v f1 ∧ OwnDs w ds vs' f2
def VD (σ : St) : V → D → Prop
  | .one c, .one t => CT σ c t
  | .agg cs, .agg ts => CTs σ cs ts
  | _, _ => False
def VDs (σ : St) : List V → List D → Prop
  | [], ds => ds = []
  | v :: vs, ds => ∃ d ds', ds = d :: ds' ∧ VD σ v d ∧ VDs σ vs ds'
/-- What a call's result is, put together: one value, or a tuple. -/
def resVal (vs : List Value) : Value := match vs with | [v] => v | _ => .tuple ⟨vs⟩

def Callable (P : Program) (f : FuncId) : Prop := ∀ (args : Array Value) (w : World), (callFunc f args).run P w = .ok (.enter f args) w
/-- A slice's first block. -/
def topT (t : T) (fp : List Nat) : List Nat := match t with | .sl _ _ => fp.head?.toList | _ => []
/- What is owned, with the first blocks of its slices. -/
def GAll (w : World) : List T → List Value → List Nat → List Nat → Prop
  | [], vs, fp, tp => vs = [] ∧ fp = [] ∧ tp = []
  | t :: ts, vs, fp, tp => ∃ v vs' f1 f2 t2, vs = v :: vs' ∧ fp = f1 ++ f2 ∧ tp = topT t f1 ++ t2 ∧ OwnV w t v f1 ∧ GAll w ts vs' f2 t2
def GD (w : World) : D → Value → List Nat → List Nat → Prop
  | .one t, v, fp, tp => OwnV w t v fp ∧ tp = topT t fp
  | .agg ts, v, fp, tp => ∃ a, v = .agg ⟨a⟩ ∧ GAll w ts a fp tp
def GDs (w : World) : List D → List Value → List Nat → List Nat → Prop
  | [], vs, fp, tp => vs = [] ∧ fp = [] ∧ tp = []
  | d :: ds, vs, fp, tp => ∃ v vs' f1 f2 t1 t2, vs = v :: vs' ∧ fp = f1 ++ f2 ∧ tp = t1 ++ t2 ∧ GD w d v f1 t1 ∧ GDs w ds vs' f2 t2
/-- Arguments: some are given away, some are only read. -/
def GArgs (w : World) (A : Nat → Prop) : List (Bool × D) → List Value → List Nat → List Nat → Prop
  | [], vs, fp, tp => vs = [] ∧ fp = [] ∧ tp = []
  | (true, d) :: ds, vs, fp, tp => ∃ v vs' f1 f2 t1 t2, vs = v :: vs' ∧ fp = f1 ++ f2 ∧ tp = t1 ++ t2 ∧ GD w d v f1 t1 ∧ GArgs w A ds vs' f2 t2
  | (false, d) :: ds, vs, fp, tp => ∃ v vs', vs = v :: vs' ∧ RepD w A d v ∧ GArgs w A ds vs' fp tp
/-- The call returns the data; what it returns lies in blocks of what it was given and in new ones, each block once; of what was there, only the given slices' own cells may have turned. -/
def GC (P : Program) (f : FuncId) (args : List (Bool × D)) (res : List D) : Prop := Callable P f ∧ ∀ (w : World) (vs : List Value) (fp tp : List Nat), GArgs w (fun b => b < w.heap.size ∧ b ∉ fp) args vs fp tp → fp.Nodup →
  Calls P f ⟨vs⟩ w fun e w' => ∃ us fp' tp', e = .returned (resVal us) ∧ GDs w' res us fp' tp' ∧ fp'.Nodup ∧ (∀ b ∈ fp', b ∈ fp ∨ w.heap.size ≤ b) ∧ Bk (fun k => k < w.heap.size ∧ k ∉ fp) w w'
def rd (args : List D) : List (Bool × D) := args.map fun d => (false, d)
/-- The call returns the data, in new blocks, each block once; nothing that was there has turned. -/
def FC (P : Program) (f : FuncId) (args res : List D) : Prop := GC P f (rd args) res
/-- The call returns the data; nothing that was there has turned. -/
def RC (P : Program) (f : FuncId) (args res : List D) : Prop := Callable P f ∧ ∀ (w : World) (vs : List Value) (A : Nat → Prop), RepDs w (fun b => b < w.heap.size ∧ A b) args vs →
  Calls P f ⟨vs⟩ w fun e w' => ∃ us, e = .returned (resVal us) ∧ RepDs w' (fun b => b < w'.heap.size ∧ (A b ∨ w.heap.size ≤ b)) res us ∧ Below w.heap.size w w'

/-- The state behind an operation, semantically. -/
def StepSem (P : Program) (o : Oper) (σ σ' : St) : Prop :=
  ∀ n0 N g a w, Rel n0 N σ g a w → LtK n0 w → (∀ d, o.dst = some d → d < N) →
    o.wp P a w (fun a' w' => ∃ g', Rel n0 N σ' g' a' w' ∧ Bk n0 w w' ∧ g'.A0 = g.A0 ∧ g'.R0 = g.R0) (fun _ _ _ => False)

def flatR (rows : List (List T)) : Prop := ∀ r ∈ rows, ∀ c ∈ r, c.flat = true

abbrev Step := Option (Prop × St)
def St.out (σ : St) (d : Option Nat) (v : Option V) : Step := v.map fun v => (True, σ.put d v)
def St.outP (σ : St) (d : Option Nat) (v : Option (Prop × C)) : Step := v.map fun v => (v.1, σ.put d (.one v.2))

def setR {α : Type} (cs : List α) (o : Nat) (vs : List α) : List α := cs.take o ++ vs ++ cs.drop (o + vs.length)
/-- The fields' places and sizes. -/
def plsT (P : Program) (t : TypeId) : Option (List (Nat × Nat)) := match P.underlying t with | some (.struct fs) => fs.toList.mapM (fun f => (P.info? f.type).map fun i => (f.offset, i.size)) | _ => none
def V.isTup : V → Bool
  | .tup _ => true
  | _ => false
/-- A field's type. -/
def ftyT (P : Program) (t : TypeId) (i : Nat) : TypeId := ((fldT P t i).map (·.2)).getD 0
/-- The parts of a struct, one behind the other. -/
def buildC (P : Program) (t : TypeId) (pls : List (Nat × Nat)) (get : TypeId → Operand → V) : List (Nat × Operand) → List C → Option (List C)
  | [], cs => some cs
  | (i, x) :: rest, cs => match pls[i]? with
    | some (q, n) =>
      if (get (ftyT P t i) x).cells.length = n ∧ q + n ≤ cs.length ∧ (get (ftyT P t i) x).cells.all C.good = true ∧ (get (ftyT P t i) x).isTup = false then
        buildC P t pls get rest (setR cs q (get (ftyT P t i) x).cells) else none
    | none => none
/-- The boxes that a function captures. -/
def boxesOf (get : Operand → V) : List Operand → Option (List Nat)
  | [] => some []
  | x :: l => match get x with | .one (.bx b 0) => (boxesOf get l).map (b :: ·) | _ => none

/-- One of two data. -/
def pickT (c : Bool) : T → T → T
  | .bool x, .bool y => .bool (if c = true then x else y)
  | .int k x, .int k' y => if k = k' then .int k (if c = true then x else y) else if c = true then .int k x else .int k' y
  | .str x, .str y => .str (if c = true then x else y)
  | x, y => if c = true then x else y
def pickV (c : Bool) : V → V → V
  | .one (.t x), .one (.t y) => .one (.t (pickT c x y))
  | a, b => match c with | true => a | false => b
/-- What an operation does to a state: under which condition, and the state behind it. -/
def st0 (P : Program) (o : Oper) (σ : St) : Step :=
  match o.op with
  | .move x => σ.out o.dst (some (σ.get P o.type x))
  | .assign x => σ.out o.dst (some (σ.get P o.type x))
  | .pick c x y => match σ.get P 0 c with
    | .one (.t (.bool c)) => σ.out o.dst (some (pickV c (σ.get P o.type x) (σ.get P o.type y)))
    | _ => none
  | .load t x => σ.out o.dst ((σ.at (σ.get P 0 x)).bind fun (cs, q) => ldC P t cs q)
  | .binOp op t x y _ => σ.outP o.dst (bin P op t (σ.get P t x) (σ.get P t y))
  | .unOp op _ x => σ.out o.dst ((un op (σ.get P o.type x)).map .one)
  | .extract x i => match σ.get P 0 x with
    | .tup xs => σ.out o.dst ((xs[i]?).bind fun (a, cs) => if a = true then some (.agg cs) else match cs with | [c] => some (.one c) | _ => none)
    | _ => none
  | .fieldAddr t x f => (fldT P t f).bind fun (q, ft) => (sizeT P ft).bind fun n => if n = 0 then none else match σ.get P 0 x with
    | .one (.bx b p) => σ.out o.dst (some (.one (.bx b (p + q))))
    | .one (.el cs p) => σ.out o.dst (some (.one (.el cs (p + q))))
    | .one (.eo e g z i p) => σ.out o.dst (some (.one (.eo e g z i (p + q))))
    | .one (.t (.ptr cs)) => σ.out o.dst (some (.one (.el cs q)))
    | _ => none
  | .field t x f => (fldT P t f).bind fun (q, ft) => match σ.get P t x with
    | .agg cs => σ.out o.dst (ldC P ft cs q)
    | _ => none
  | .indexAddr t x i => ((elT P t).bind (sizeT P)).bind fun n => match σ.get P t x, σ.get P 0 i with
    | .one (.t (.sl sz rows)), .one (.t (.int _ k)) => some (sz = n ∧ 0 ≤ k ∧ k < rows.length, σ.put o.dst (.one (.el (rows.getD k.toNat []) 0)))
    | .one (.ow e g), .one (.t (.int _ k)) => (σ.ev e).bind fun x => if x.gen = g then some (x.sz = n ∧ 0 ≤ k ∧ k < x.rows.length, σ.put o.dst (.one (.eo e g n k.toNat 0))) else none
    | _, _ => none
  | .index t x i => match σ.get P t x, σ.get P 0 i with
    | .one (.t (.str s)), .one (.t (.int _ k)) => if strT P t = true then some (0 ≤ k ∧ k < s.length, σ.put o.dst (.one (.t (.int .u8 (s.getD k.toNat 0).toNat)))) else none
    | _, _ => none
  | .nilCheck x => match σ.get P 0 x with
    | .one (.bx b p) => σ.out o.dst (some (.one (.bx b p)))
    | .one (.el cs p) => σ.out o.dst (some (.one (.el cs p)))
    | .one (.eo e g z i p) => σ.out o.dst (some (.one (.eo e g z i p)))
    | .one (.t (.ptr cs)) => σ.out o.dst (some (.one (.t (.ptr cs))))
    | .one (.fn f caps) => σ.out o.dst (some (.one (.fn f caps)))
    | _ => none
  | .convert s d x => match intT P s, intT P d, σ.get P s x with
    | some _, some k, .one (.t (.int _ n)) => σ.out o.dst (some (.one (.t (.int k (k.wrap n)))))
    | _, _, _ => none
  | .call { callee := .builtin .len, args, argTypes } => match args.toList, argTypes.toList with
    | [x], [t] => match σ.get P t x with
      | .one (.t (.sl _ rows)) => if (elT P t).isSome = true then σ.out o.dst (some (.one (.t (.int .i64 rows.length)))) else none
      | .one (.t (.str s)) => if strT P t = true then σ.out o.dst (some (.one (.t (.int .i64 s.length)))) else none
      | .one (.nl _) => if (elT P t).isSome = true then σ.out o.dst (some (.one (.t (.int .i64 0)))) else none
      | .one (.ow e g) => if (elT P t).isSome = true then (σ.ev e).bind fun x => if x.gen = g then σ.out o.dst (some (.one (.t (.int .i64 x.rows.length)))) else none else none
      | _ => none
    | _, _ => none
  | .alloc t => match o.dst with
    | some d => if (σ.bx d).isNone = true then (zeroT P t).bind fun z => some (True, { σ with sl := upd σ.sl d (.one (.bx d 0)), bx := upd σ.bx d (some z) }) else none
    | none => none
  | .box t x => match o.dst with
    | some d => if (σ.bx d).isNone = true ∧ (σ.get P t x).isTup = false ∧ (σ.get P t x).cells.all C.good = true then
      some (True, { σ with sl := upd σ.sl d (.one (.bx d 0)), bx := upd σ.bx d (some (σ.get P t x).cells) }) else none
    | none => none
  | .store t a x => match σ.get P 0 a, sizeT P t with
    | .one (.bx b p), some n => (σ.bx b).bind fun cs =>
      if (σ.get P t x).cells.length = n ∧ p + n ≤ cs.length ∧ (σ.get P t x).cells.all C.good = true ∧ (σ.get P t x).isTup = false then some (True, St.put { σ with bx := upd σ.bx b (some (setR cs p (σ.get P t x).cells)) } o.dst (.one .any)) else none
    | _, _ => none
  | .build t parts => (plsT P t).bind fun pls => σ.out o.dst ((zeroT P t).bind fun z => (buildC P t pls (σ.get P) parts.toList z).map .agg)
  | .makeFunc (.func f) first captured => if first.size = 0 then (boxesOf (σ.get P 0) captured.toList).bind fun bs => σ.out o.dst (some (.one (.fn f bs))) else none
  | _ => none

/-- Operations on values alone. -/
def isVop : Op → Bool
  | .call { callee := .builtin .max, .. } => true
  | .call { callee := .builtin .min, .. } => true
  | .slice _ _ _ _ none => true
  | _ => false
def bndV (get : TypeId → Operand → V) (d : Int) : Option Operand → Option Int
  | none => some d
  | some x => match get 0 x with
    | .one (.t (.int _ k)) => some k
    | _ => none
def ints2 (f : Int → Int → Int) : V → V → Option (Prop × V)
  | .one (.t (.int k a)), .one (.t (.int k' b)) => if k = k' then some (True, .one (.t (.int k (f a b)))) else none
  | _, _ => none
def sliceV (P : Program) (get : TypeId → Operand → V) (t : TypeId) (low high : Option Operand) : V → Option (Prop × V)
  | .one (.t (.str s)) => if strT P t = true then (bndV get 0 low).bind fun l => (bndV get s.length high).bind fun h => some (0 ≤ l ∧ l ≤ h ∧ h ≤ s.length, .one (.t (.str ((s.take h.toNat).drop l.toNat)))) else none
  | .one (.t (.sl sz rows)) => ((elT P t).bind (sizeT P)).bind fun n => (bndV get 0 low).bind fun l => (bndV get rows.length high).bind fun h => some (sz = n ∧ 0 ≤ l ∧ l ≤ h ∧ h ≤ rows.length, .one (.t (.sl sz ((rows.take h.toNat).drop l.toNat))))
  | .one (.nl s) => ((elT P t).bind (sizeT P)).bind fun _ => (bndV get 0 low).bind fun l => (bndV get 0 high).bind fun h => some (0 ≤ l ∧ l ≤ h ∧ h ≤ 0, .one (.nl s))
  | _ => none
def vop (P : Program) (get : TypeId → Operand → V) : Op → Option (Prop × V)
  | .call { callee := .builtin .max, args, .. } => match args.toList with
    | [x, y] => ints2 max (get 0 x) (get 0 y)
    | _ => none
  | .call { callee := .builtin .min, args, .. } => match args.toList with
    | [x, y] => ints2 min (get 0 x) (get 0 y)
    | _ => none
  | .slice t x low high none => sliceV P get t low high (get t x)
  | _ => none
def St.outV (σ : St) (d : Option Nat) (v : Option (Prop × V)) : Step := v.map fun v => (v.1, σ.put d v.2)
/-- One operation. -/
def st (P : Program) (o : Oper) (σ : St) : Step := if isVop o.op = true then σ.outV o.dst (vop P (σ.get P) o.op) else st0 P o σ
/-- The values of operands. -/
def St.gets (P : Program) (σ : St) (xs : Array Operand) (ts : Array TypeId) : List V := (xs.toList.zip (ts.toList ++ List.replicate xs.size 0)).map fun (x, t) => σ.get P t x

def resCells : List D → List T
  | [] => []
  | .one t :: ds => t :: resCells ds
  | .agg ts :: ds => ts ++ resCells ds
/-- What a call's fresh result looks like: each slice an owned one. -/
def owC (d j : Nat) : T → C
  | .sl _ _ => .ow (d * 32 + j) 0
  | t => .t t
def owCs (d : Nat) : Nat → List T → List C
  | _, [] => []
  | j, t :: ts => owC d j t :: owCs d (j + 1) ts
def owE1 (d j : Nat) (f : Nat → Option Ev) : T → (Nat → Option Ev)
  | .sl sz rows => upd f (d * 32 + j) (some ⟨true, sz, rows, 0, true⟩)
  | _ => f
def owE (d : Nat) : Nat → List T → (Nat → Option Ev) → (Nat → Option Ev)
  | _, [], f => f
  | j, t :: ts, f => owE d (j + 1) ts (owE1 d j f t)
def free1 (d j : Nat) (f : Nat → Option Ev) : T → Prop
  | .sl _ _ => f (d * 32 + j) = none
  | _ => True
def freeE (d : Nat) : Nat → List T → (Nat → Option Ev) → Prop
  | _, [], _ => True
  | j, t :: ts, f => free1 d j f t ∧ freeE d (j + 1) ts f

/-- Operations that have a step of their own each time. -/
def semO : Op → Bool
  | .call { callee := .value _, .. } => true
  | .call { callee := .builtin .append, .. } => true
  | .call { callee := .builtin .copy, .. } => true
  | .buildSlice .. => true
  | .makeSlice .. => true
  | .makeMap .. => true
  | .lookup .. => true
  | .mapUpdate .. => true
  | .range .. => true
  | .next .. => true
  | _ => false
def isEo : V → Bool
  | .one (.eo _ _ _ _ _) => true
  | _ => false
def isOw : V → Bool
  | .one (.ow _ _) => true
  | _ => false
def semA (P : Program) (σ : St) : Op → Bool
  | .store _ a _ => isEo (σ.get P 0 a)
  | .slice t x _ _ _ => isOw (σ.get P t x)
  | _ => false
/-- Operations that have a step of their own, at a state. -/
def semS (P : Program) (o : Oper) (σ : St) : Bool := semO o.op || semA P σ o.op
def execOp1 (P : Program) (o : Oper) (σ : St) (K : St → Prop) : Prop :=
  if semS P o σ = true then ∃ σ', StepSem P o σ σ' ∧ K σ' else match st P o σ with
  | some (p, σ') => p ∧ K σ'
  | none => False
def exG (P : Program) (ops : Array Oper) (o : Oper) (σ : St) (K : St → Prop) : Prop :=
  match o.guard with
  | none => execOp1 P o σ K
  | some (j, want) => match (ops[j]?).bind (·.dst) with
    | some d => match σ.sl d with
      | .one (.t (.bool c)) => (c = want → execOp1 P o (σ.put (some d) (.one (.t (.bool want)))) K) ∧ (c = !want → K ((σ.put (some d) (.one (.t (.bool !want)))).put o.dst (.tup [])))
      | .tup _ => K (σ.put o.dst (.tup []))
      | _ => False
    | none => False
def execOps (P : Program) (ops : Array Oper) : List Oper → St → (St → Prop) → Prop
  | [], σ, K => K σ
  | o :: os, σ, K => exG P ops o σ fun σ' => execOps P ops os σ' K

def onSome {α : Type} (x : Option α) (K : α → Prop) : Prop := match x with | some a => K a | none => False
theorem onSome_some {α : Type} (a : α) (K : α → Prop) : onSome (some a) K = K a := rfl
theorem onSome_ex {α : Type} {x : Option α} {K : α → Prop} (h : onSome x K) : ∃ a, x = some a ∧ K a := by
  unfold onSome at h
  split at h
  · exact ⟨_, rfl, h⟩
  · exact h.elim
/-- The stage of an owned slice. -/
def genOf (σ : St) (e : Nat) : Option Nat := (σ.ev e).map (·.gen)
def allBx (σ : St) : List Nat → Prop
  | [] => True
  | b :: bs => σ.bx b ≠ none ∧ allBx σ bs
theorem allBx_mem {σ : St} : ∀ {bs : List Nat}, allBx σ bs → ∀ b ∈ bs, σ.bx b ≠ none
  | [], _, b, hb => absurd hb (by simp)
  | c :: bs, h, b, hb => by
    rcases List.mem_cons.1 hb with rfl | hb
    · exact h.1
    · exact allBx_mem h.2 b hb
/-- A cell of one state is a cell of another, in which stages may be counted anew. -/
def CW (σ σ' : St) : C → C → Prop
  | _, .any => True
  | .t x, .t y => x = y
  | .nl s, .nl s' => s = s'
  | .nl _, .ow e' g' => σ.ev e' = none ∧ genOf σ' e' = some g'
  | .ow e g, .ow e' g' => e = e' ∧ genOf σ e = some g ∧ genOf σ' e = some g'
  | .ow e g, .t y => onSome (σ.ev e) fun x => x.gen = g ∧ x.on = false ∧ y = .sl x.sz x.rows
  | .bx b o, .bx b' o' => b = b' ∧ o = o' ∧ σ'.bx b ≠ none
  | .el cs o, .el cs' o' => cs = cs' ∧ o = o'
  | .fn f caps, .fn f' caps' => f = f' ∧ caps = caps' ∧ allBx σ' caps
  | .cv v, .cv v' => v = v'
  | _, _ => False
def CWs (σ σ' : St) : List C → List C → Prop
  | [], [] => True
  | c :: cs, c' :: cs' => CW σ σ' c c' ∧ CWs σ σ' cs cs'
  | _, _ => False
def VW (σ σ' : St) : V → V → Prop
  | _, .one .any => True
  | .one c, .one c' => CW σ σ' c c'
  | .agg cs, .agg cs' => CWs σ σ' cs cs'
  | _, _ => False
/-- What is forgotten. -/
structure Weak (σ σ' : St) : Prop where
  sl : ∀ i, VW σ σ' (σ.sl i) (σ'.sl i)
  bx : ∀ b cs', σ'.bx b = some cs' → ∃ cs, σ.bx b = some cs ∧ CWs σ σ' cs cs'
  ev : ∀ e x', σ'.ev e = some x' → (∃ x, σ.ev e = some x ∧ x' = { x with gen := x'.gen }) ∨ (σ.ev e = none ∧ x'.rows = [] ∧ x'.on = true)
/-- What is forgotten, in memory. -/
def Wk (σ σ' : St) : Prop := ∀ n0 N g a w, Rel n0 N σ g a w → ∃ g', Rel n0 N σ' g' a w ∧ g'.A0 = g.A0 ∧ g'.R0 = g.R0
theorem Wk.trans {σ σ' σ'' : St} (h : Wk σ σ') (k : Wk σ' σ'') : Wk σ σ'' := fun n0 N g a w hR => by
  obtain ⟨g1, h1, h2, h3⟩ := h n0 N g a w hR
  obtain ⟨g2, k1, k2, k3⟩ := k n0 N g1 a w h1
  exact ⟨g2, k1, k2.trans h2, k3.trans h3⟩

/-- An operations' region that may run in any order that the edges leave open. -/
def DrawSem (P : Program) (id : Nat) (ops : Array Oper) (σ : St) (K : St → Prop) : Prop :=
  ∀ n0 N g a w, Rel n0 N σ g a w → LtK n0 w → (∀ o ∈ ops, ∀ d, o.dst = some d → d < N) →
    (Code.region id ops true).wp P (fun e a' w' => e = .normal ∧ ∃ σ' g', K σ' ∧ Rel n0 N σ' g' a' w' ∧ LtK n0 w' ∧ Bk n0 w w' ∧ g'.A0 = g.A0 ∧ g'.R0 = g.R0) a w
theorem DrawSem.mono {P : Program} {id : Nat} {ops : Array Oper} {σ : St} {K K' : St → Prop} (h : ∀ σ, K σ → K' σ) (hh : DrawSem P id ops σ K) : DrawSem P id ops σ K' := fun n0 N g a w h1 h2 h3 =>
  wp_mono (hh n0 N g a w h1 h2 h3) fun e a' w' hq => by obtain ⟨he, σ', g', k, r⟩ := hq; exact ⟨he, σ', g', h _ k, r⟩

def exec (P : Program) : Code → St → (Exit → St → Prop) → Prop
  | .skip, σ, Q => Q .normal σ
  | .region _ ops false, σ, Q => execOps P ops ops.toList σ (Q .normal)
  | .region id ops true, σ, Q => DrawSem P id ops σ (Q .normal)
  | .seq a b, σ, Q => exec P a σ fun e σ' => match e with | .normal => exec P b σ' Q | e => Q e σ'
  | .cond c a b, σ, Q => match σ.get P 0 c with
    | .one (.t (.bool t)) => (t = true → exec P a σ Q) ∧ (t = false → exec P b σ Q)
    | _ => False
  | .block id b, σ, Q => exec P b σ fun e σ' => match e with | .exit j => if j = id then Q .normal σ' else Q (.exit j) σ' | e => Q e σ'
  | .loop b, σ, Q => ∃ I : Nat → St → Prop, (∃ n σ0, Wk σ σ0 ∧ I n σ0) ∧ ∀ n σ1, I n σ1 → exec P b σ1 fun e σ' => match e with | .normal => ∃ m σ2, m < n ∧ Wk σ' σ2 ∧ I m σ2 | e => Q e σ'
  | .exit id, σ, Q => Q (.exit id) σ
  | .ret, σ, Q => Q .ret σ
  | _, _, _ => False

/-- What is still to be done behind a piece of code. -/
inductive Fr where
  | seq (b : Code)
  | blk (id : Nat)
def kont (P : Program) : List Fr → (Exit → St → Prop) → Exit → St → Prop
  | [], Q => Q
  | .seq b :: ks, Q => fun e σ => match e with | .normal => exec P b σ (kont P ks Q) | e => kont P ks Q e σ
  | .blk id :: ks, Q => fun e σ => match e with | .exit j => if j = id then kont P ks Q .normal σ else kont P ks Q (.exit j) σ | e => kont P ks Q e σ
/-- The code, and what comes behind it. -/
def ex (P : Program) (c : Code) (ks : List Fr) (Q : Exit → St → Prop) (σ : St) : Prop := exec P c σ (kont P ks Q)
def exo (P : Program) (ops : Array Oper) (os : List Oper) (ks : List Fr) (Q : Exit → St → Prop) (σ : St) : Prop := execOps P ops os σ (kont P ks Q .normal)
def rt (P : Program) (e : Exit) (ks : List Fr) (Q : Exit → St → Prop) (σ : St) : Prop := kont P ks Q e σ
/-- The condition of a step, and what comes behind. -/
def thn (s : Step) (K : St → Prop) : Prop := match s with | some (p, σ') => p ∧ K σ' | none => False
theorem thn_some (p : Prop) (σ' : St) (K : St → Prop) : thn (some (p, σ')) K = (p ∧ K σ') := rfl
/-- A test, and what comes behind. -/
def tst (v : V) (a b : Prop) : Prop := match v with | .one (.t (.bool t)) => (t = true → a) ∧ (t = false → b) | _ => False
theorem tst_bool (t : Bool) (a b : Prop) : tst (.one (.t (.bool t))) a b = ((t = true → a) ∧ (t = false → b)) := rfl

section
variable (P : Program) (ks : List Fr) (Q : Exit → St → Prop) (σ : St)
theorem ex_seq (a b : Code) : ex P (.seq a b) ks Q σ = ex P a (.seq b :: ks) Q σ := rfl
theorem ex_block (i : Nat) (b : Code) : ex P (.block i b) ks Q σ = ex P b (.blk i :: ks) Q σ := rfl
theorem ex_skip : ex P .skip ks Q σ = rt P .normal ks Q σ := rfl
theorem ex_exit (i : Nat) : ex P (.exit i) ks Q σ = rt P (.exit i) ks Q σ := rfl
theorem ex_ret : ex P .ret ks Q σ = rt P .ret ks Q σ := rfl
theorem ex_region (i : Nat) (ops : Array Oper) : ex P (.region i ops false) ks Q σ = exo P ops ops.toList ks Q σ := rfl
theorem ex_cond (c : Operand) (a b : Code) : ex P (.cond c a b) ks Q σ = tst (σ.get P 0 c) (ex P a ks Q σ) (ex P b ks Q σ) := rfl
theorem rt_seq_normal (b : Code) : rt P .normal (.seq b :: ks) Q σ = ex P b ks Q σ := rfl
theorem rt_seq_exit (i : Nat) (b : Code) : rt P (.exit i) (.seq b :: ks) Q σ = rt P (.exit i) ks Q σ := rfl
theorem rt_seq_ret (b : Code) : rt P .ret (.seq b :: ks) Q σ = rt P .ret ks Q σ := rfl
theorem rt_blk_normal (i : Nat) : rt P .normal (.blk i :: ks) Q σ = rt P .normal ks Q σ := rfl
theorem rt_blk_ret (i : Nat) : rt P .ret (.blk i :: ks) Q σ = rt P .ret ks Q σ := rfl
theorem rt_blk_exit (j i : Nat) : rt P (.exit j) (.blk i :: ks) Q σ = if j = i then rt P .normal ks Q σ else rt P (.exit j) ks Q σ := rfl
theorem rt_nil (e : Exit) : rt P e [] Q σ = Q e σ := rfl
theorem exo_nil (ops : Array Oper) : exo P ops [] ks Q σ = rt P .normal ks Q σ := rfl
variable (ops : Array Oper) (os : List Oper) (d : Option Nat) (ty : TypeId) (ps : String) (af : Array Edge)
theorem exo_move (x : Operand) : exo P ops (⟨d, .move x, ty, ps, af, none⟩ :: os) ks Q σ = exo P ops os ks Q (σ.put d (σ.get P ty x)) := by
  simp [exo, execOps, exG, execOp1, semS, semA, semO, st, st0, isVop, St.out]
theorem exo_assign (x : Operand) : exo P ops (⟨d, .assign x, ty, ps, af, none⟩ :: os) ks Q σ = exo P ops os ks Q (σ.put d (σ.get P ty x)) := by
  simp [exo, execOps, exG, execOp1, semS, semA, semO, st, st0, isVop, St.out]
theorem exo_load (t : TypeId) (x : Operand) : exo P ops (⟨d, .load t x, ty, ps, af, none⟩ :: os) ks Q σ = thn (σ.out d ((σ.at (σ.get P 0 x)).bind fun (cs, q) => ldC P t cs q)) (exo P ops os ks Q) := rfl
theorem exo_binOp (op : BinOp) (t t' : TypeId) (x y : Operand) : exo P ops (⟨d, .binOp op t x y t', ty, ps, af, none⟩ :: os) ks Q σ = thn (σ.outP d (bin P op t (σ.get P t x) (σ.get P t y))) (exo P ops os ks Q) := rfl
theorem exo_unOp (op : UnOp) (t : TypeId) (x : Operand) : exo P ops (⟨d, .unOp op t x, ty, ps, af, none⟩ :: os) ks Q σ = thn (σ.out d ((un op (σ.get P ty x)).map .one)) (exo P ops os ks Q) := rfl
theorem exo_indexAddr (t : TypeId) (x i : Operand) : exo P ops (⟨d, .indexAddr t x i, ty, ps, af, none⟩ :: os) ks Q σ = thn (st P ⟨d, .indexAddr t x i, ty, ps, af, none⟩ σ) (exo P ops os ks Q) := rfl
theorem exo_len (as : Array Operand) (ts : Array TypeId) : exo P ops (⟨d, .call ⟨.builtin .len, as, ts⟩, ty, ps, af, none⟩ :: os) ks Q σ = thn (st P ⟨d, .call ⟨.builtin .len, as, ts⟩, ty, ps, af, none⟩ σ) (exo P ops os ks Q) := rfl
end
attribute [go_sem ↓] ex_seq ex_block ex_skip ex_exit ex_ret ex_region ex_cond rt_seq_normal rt_seq_exit rt_seq_ret rt_blk_normal rt_blk_ret rt_blk_exit rt_nil exo_nil exo_move exo_assign exo_load exo_binOp exo_unOp exo_indexAddr exo_len
attribute [go_sem] tst_bool thn_some St.put St.get ofV cellOf st st0 St.out St.outP bin binI binS isVop vop bndV ints2 sliceV St.outV un ldC St.at upd_same
theorem upd_lit {α : Type} (f : Nat → α) (i j : Nat) (x : α) : upd f i x j = if j = i then x else f j := rfl
attribute [go_sem] upd_lit
end Go.Proofs.Ytgfjbbbkploonaa
