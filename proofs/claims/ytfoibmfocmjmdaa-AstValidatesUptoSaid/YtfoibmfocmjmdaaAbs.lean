/- The abstract machine: an interpreter of the model's code over plain data. -/
import Derived.Orders
import GoSem.Core.Utf8
set_option linter.unusedVariables false
set_option linter.unusedSimpArgs false
set_option linter.all false
set_option linter.deprecated false
namespace Go.Abs

inductive Dat where
  | bool (b : Bool)
  | int (k : IntKind) (n : Int)
  | str (s : List UInt8)
  | slice (rows : List (List Dat))

inductive AV where
  | d (x : Dat)
  | nilS
  | full (rows : List (List Dat))
  | own (tok len : Nat)
  | nilP
  | ptr (id off : Nat)
  | sptr (cells : List Dat)
  | eptr (tok len i off : Nat)
  | nilF
  | nilM
  | func (fn : Fn) (first captured : List AV)
  | mapr (id : Nat)
  | agg (cells : List AV)
  | tuple (vs : List AV)

structure ABuf where
  e : TypeId
  sz : Nat
  rows : List (List Dat)
  frozen : Nat

inductive AObj where
  | cells (cs : List AV)
  | map (es : List (Dat × AV))
  | iter (s : List UInt8) (pos : Nat)

structure AHeap where
  objs : List AObj
  bufs : List ABuf

inductive Slot where
  | v (x : AV)
  | box (cells : List AV)
  | place (s off : Nat)

abbrev AEnv := List (Nat × Slot)

def alook : AEnv → Nat → Option Slot
  | [], _ => none
  | (s, x) :: l, t => if s = t then some x else alook l t

inductive AEx where
  | normal
  | exit (id : Nat)
  | ret

abbrev AFun := List AV → AHeap → Option (AV × AHeap)
abbrev ARes := Option (AEx × AEnv × AHeap)

structure ACtx where
  P : Program
  esc : FuncId → List Nat
  own : FuncId → Bool
  live : FuncId → Nat → Option (List Nat)
  ext : FuncId → Option AFun

/-! values -/

def vcell : Value → Option AV
  | .bool b => some (.d (.bool b))
  | .int k n => some (.d (.int k n))
  | .string s => some (.d (.str s.data.toList))
  | .slice none 0 0 => some .nilS
  | .pointer none => some .nilP
  | .nilFunc => some .nilF
  | .map none => some .nilM
  | _ => none

def vcells : List Value → Option (List AV)
  | [] => some []
  | v :: vs => (vcell v).bind fun a => (vcells vs).map (a :: ·)

def aval : Value → Option AV
  | .agg cs => (vcells cs.toList).map .agg
  | .func fn first captured => if first.size = 0 ∧ captured.size = 0 then some (.func fn [] []) else none
  | .tuple vs => if vs.size = 0 then some (.tuple []) else none
  | v => vcell v

def aeval (env : AEnv) : Operand → Option AV
  | .tmp t => match alook env t with
    | some (.v x) => some x
    | _ => none
  | .const v => aval v
  | .func f => some (.func (.func f) [] [])
  | .global _ => none

def aevals (env : AEnv) : List Operand → Option (List AV)
  | [] => some []
  | x :: xs => (aeval env x).bind fun a => (aevals env xs).map (a :: ·)

def AV.cells : AV → List AV
  | .agg cs => cs
  | v => [v]

/-- the rows that a slice value holds now -/
def arows (A : AHeap) : AV → Option (List (List Dat))
  | .d (.slice rows) => some rows
  | .nilS => some []
  | .full rows => some rows
  | .own tok len => match A.bufs[tok]? with
    | some b => if b.rows.length = len then some b.rows else none
    | none => none
  | _ => none

def AHeap.freeze (A : AHeap) (tok : Nat) : AHeap :=
  { A with bufs := A.bufs.modify tok fun b => { b with frozen := b.rows.length } }

/-- a cell as plain data; an owned slice is frozen -/
def adat (A : AHeap) : AV → Option (Dat × AHeap)
  | .d x => some (x, A)
  | .nilS => some (.slice [], A)
  | .full rows => some (.slice rows, A)
  | .own tok len => (arows A (.own tok len)).map fun rows => (.slice rows, A.freeze tok)
  | _ => none

def adats (A : AHeap) : List AV → Option (List Dat × AHeap)
  | [] => some ([], A)
  | x :: xs => (adat A x).bind fun r => (adats r.2 xs).map fun s => (r.1 :: s.1, s.2)

/-- a value in which no slice is owned: an argument, a result -/
def aclean (A : AHeap) : AV → AV × AHeap
  | .nilS => (.d (.slice []), A)
  | .full rows => (.d (.slice rows), A)
  | .own tok len => match arows A (.own tok len) with
    | some rows => (.d (.slice rows), A.freeze tok)
    | none => (.own tok len, A)
  | v => (v, A)

def acleans (A : AHeap) : List AV → List AV × AHeap
  | [] => ([], A)
  | x :: xs =>
    let r := aclean A x
    let s := acleans r.2 xs
    (r.1 :: s.1, s.2)

def acleanV (A : AHeap) : AV → AV × AHeap
  | .agg cs => let r := acleans A cs; (.agg r.1, r.2)
  | v => aclean A v

def acleanVs (A : AHeap) : List AV → List AV × AHeap
  | [] => ([], A)
  | x :: xs =>
    let r := acleanV A x
    let s := acleanVs r.2 xs
    (r.1 :: s.1, s.2)

def acleanR (A : AHeap) : AV → AV × AHeap
  | .tuple vs => let r := acleanVs A vs; (.tuple r.1, r.2)
  | v => acleanV A v

/-! types -/
/-- how many cells; is it a struct or an array? -/
def kindT (P : Program) (t : TypeId) : Option (Nat × Bool) :=
  match P.info? t, P.underlying t with
  | some i, some d => some (i.size, match d with | .struct _ | .array _ _ => true | _ => false)
  | _, _ => none

def elemT (P : Program) (t : TypeId) : Option (TypeId × Nat) :=
  match P.underlying t with
  | some (.slice e) => (kindT P e).map fun k => (e, k.1)
  | _ => none

def arrT (P : Program) (t : TypeId) : Option (Nat × Nat × Bool) :=
  match P.underlying t with
  | some (.array n e) => (kindT P e).map fun k => (n, k)
  | _ => none

def fieldT (P : Program) (t : TypeId) (i : Nat) : Option (Nat × Nat × Bool) :=
  match P.underlying t with
  | some (.struct fs) => (fs[i]?).bind fun f => (kindT P f.type).map fun k => (f.offset, k)
  | _ => none

def fieldsL (P : Program) : List Field → Option (List (Nat × Nat))
  | [] => some []
  | f :: fs => (kindT P f.type).bind fun k => (fieldsL P fs).map ((f.offset, k.1) :: ·)

/-- where the parts of a struct lie -/
def fieldsT (P : Program) (t : TypeId) : Option (List (Nat × Nat)) :=
  match P.underlying t with
  | some (.struct fs) => fieldsL P fs.toList
  | _ => none

def strT (P : Program) (t : TypeId) : Bool :=
  match P.underlying t with
  | some .string => true
  | _ => false

def boolT (P : Program) (t : TypeId) : Bool :=
  match P.underlying t with
  | some .bool => true
  | _ => false

/-- what len is asked of: 1 a string, 2 a slice, 3 a map -/
def lenT (P : Program) (t : TypeId) : Nat :=
  match P.underlying t with
  | some .string => 1
  | some (.slice _) => 2
  | some (.map _ _) => 3
  | _ => 0

/-- converting integers: the kind that comes out -/
def convT (P : Program) (s t : TypeId) : Option IntKind :=
  match P.underlying s, P.underlying t with
  | some _, some (.int k) => some k
  | _, _ => none

def zeroT (P : Program) (t : TypeId) : Option AV := ((P.info? t).bind (·.zero)).bind aval

/-- a struct of plain fields, one cell each: comparable cell by cell -/
def plainT (P : Program) (t : TypeId) : Option Nat :=
  match P.underlying t with
  | some .bool => some 0
  | some (.int _) => some 1
  | some .string => some 2
  | _ => none

def flatL (P : Program) : Nat → List Field → Option (List Nat)
  | _, [] => some []
  | i, f :: fs => if f.name != "_" && f.offset == i then (plainT P f.type).bind fun k => (flatL P (i + 1) fs).map (k :: ·) else none

def flatT (P : Program) (t : TypeId) : Option (List Nat) :=
  match P.underlying t with
  | some (.struct fs) => if !P.stoodInHeld t && !P.eqGuardType P.depth t then flatL P 0 fs.toList else none
  | _ => none

/-! operations -/
def acmp (op : BinOp) (a b : Int) : Option Dat :=
  match op with
  | .eql => some (.bool (a == b))
  | .neq => some (.bool (a != b))
  | .lss => some (.bool (a < b))
  | .leq => some (.bool (a ≤ b))
  | .gtr => some (.bool (a > b))
  | .geq => some (.bool (a ≥ b))
  | _ => none

def aarith (op : BinOp) (k : IntKind) (a b : Int) : Option Dat :=
  match op with
  | .add => some (.int k (k.wrap (a + b)))
  | .sub => some (.int k (k.wrap (a - b)))
  | .mul => some (.int k (k.wrap (a * b)))
  | .quo => if b = 0 then none else some (.int k (k.wrap (a.tdiv b)))
  | .rem => if b = 0 then none else some (.int k (a.tmod b))
  | .shl | .shr | .and | .or | .xor | .andNot => none
  | _ => acmp op a b

def astr (op : BinOp) (a b : List UInt8) : Option Dat :=
  match op with
  | .add => if a.length + b.length ≤ 1099511627776 then some (.str (a ++ b)) else none
  | .eql => some (.bool (a == b))
  | .neq => some (.bool (!(a == b)))
  | .lss => some (.bool (Op.bytesLess a b))
  | .leq => some (.bool (Op.bytesLess a b || a == b))
  | .gtr => some (.bool (!(Op.bytesLess a b || a == b)))
  | .geq => some (.bool (!(Op.bytesLess a b)))
  | _ => none

def aeqDat : Dat → Dat → Option Bool
  | .int k a, .int k' b => if k = k' then some (a == b) else none
  | .str a, .str b => some (a == b)
  | .bool a, .bool b => some (a == b)
  | _, _ => none

def aeqCells : List Nat → List AV → List AV → Option Bool
  | [], [], [] => some true
  | 0 :: ks, .d (.bool x) :: xs, .d (.bool y) :: ys => (aeqCells ks xs ys).map ((x == y) && ·)
  | 1 :: ks, .d (.int k x) :: xs, .d (.int k' y) :: ys => if k = k' then (aeqCells ks xs ys).map ((x == y) && ·) else none
  | 2 :: ks, .d (.str x) :: xs, .d (.str y) :: ys => (aeqCells ks xs ys).map ((x == y) && ·)
  | _, _, _ => none

def abin (P : Program) (op : BinOp) (t : TypeId) : AV → AV → Option AV
  | .d (.int k a), .d (.int k' b) => if k = k' then (aarith op k a b).map .d else none
  | .d (.str a), .d (.str b) => (astr op a b).map .d
  | .d (.bool a), .d (.bool b) => if boolT P t then
    (match op with
    | .eql => some (.d (.bool (a == b)))
    | .neq => some (.d (.bool (!(a == b))))
    | _ => none) else none
  | .agg xs, .agg ys => match flatT P t, op with
    | some ks, .eql => (aeqCells ks xs ys).map fun b => .d (.bool b)
    | some ks, .neq => (aeqCells ks xs ys).map fun b => .d (.bool (!b))
    | _, _ => none
  | _, _ => none

def aun (op : UnOp) : AV → Option AV
  | .d (.bool b) => match op with | .not => some (.d (.bool (!b))) | _ => none
  | .d (.int k n) => match op with | .neg => some (.d (.int k (k.wrap (0 - n)))) | _ => none
  | _ => none

def aconv (P : Program) (s t : TypeId) : AV → Option AV
  | .d (.int _ n) => (convT P s t).map fun k => .d (.int k (k.wrap n))
  | .d (.str x) => if strT P s && strT P t then some (.d (.str x)) else none
  | _ => none

def asplice (cells : List AV) (off : Nat) (new : List AV) : Option (List AV) :=
  if off + new.length ≤ cells.length then some (cells.take off ++ new ++ cells.drop (off + new.length)) else none

def apart (cells : List AV) (off n : Nat) (agg : Bool) : Option AV :=
  if agg then (if off + n ≤ cells.length then some (.agg ((cells.drop off).take n)) else none)
  else cells[off]?

def aload (A : AHeap) (n : Nat) (agg : Bool) : AV → Option AV
  | .ptr id off => match A.objs[id]? with
    | some (.cells cs) => apart cs off n agg
    | _ => none
  | .sptr ds => apart (ds.map .d) 0 n agg
  | .eptr tok len i off => match A.bufs[tok]? with
    | some b => if b.rows.length = len then (match b.rows[i]? with
      | some row => apart (row.map .d) off n agg
      | none => none) else none
    | none => none
  | _ => none

def astore (A : AHeap) (vs : List AV) : AV → Option AHeap
  | .ptr id off => match A.objs[id]? with
    | some (.cells cs) => (asplice cs off vs).map fun cs' => { A with objs := A.objs.set id (.cells cs') }
    | _ => none
  | .eptr tok len i off => match A.bufs[tok]? with
    | some b => if b.rows.length = len ∧ b.frozen ≤ i then (match b.rows[i]? with
      | some row => (adats A vs).bind fun r =>
          (if off + r.1.length ≤ row.length then
            match r.2.bufs[tok]? with
            | some b' => if b'.frozen ≤ i then some { r.2 with bufs := r.2.bufs.set tok { b' with rows := b'.rows.set i (row.take off ++ r.1 ++ row.drop (off + r.1.length)) } } else none
            | none => none
          else none)
      | none => none) else none
    | none => none
  | _ => none

def alen (A : AHeap) (k : Nat) : AV → Option Nat
  | .d (.slice rows) => if k = 2 then some rows.length else none
  | .d (.str s) => if k = 1 then some s.length else none
  | .nilS => if k = 2 then some 0 else none
  | .full rows => if k = 2 then some rows.length else none
  | .own _ len => if k = 2 then some len else none
  | .mapr id => if k = 3 then (match A.objs[id]? with
    | some (.map es) => some es.length
    | _ => none) else none
  | _ => none

/-- may slices of this element grow? -/
def aroomT (P : Program) (e : TypeId) (sz : Nat) : Bool := decide (0 < sz) && decide (P.bytesOf e ≤ 1048576) && (match zeroT P e with | some z => z.cells.length == sz | none => false)

def aappend (P : Program) (e : TypeId) (sz : Nat) (A : AHeap) (base : AV) (src : List (List Dat)) : Option (AV × AHeap) :=
  if aroomT P e sz = true ∧ src.all (fun r => r.length == sz) = true then
    match base with
    | .nilS => if src = [] then some (.nilS, A) else
        if src.length ≤ 4194304 then some (.own A.bufs.length src.length, { A with bufs := A.bufs ++ [⟨e, sz, src, 0⟩] }) else none
    | .full rows => if src = [] then some (.full rows, A) else
        if rows.length + src.length ≤ 4194304 ∧ rows.all (fun r => r.length == sz) = true then
          some (.own A.bufs.length (rows.length + src.length), { A with bufs := A.bufs ++ [⟨e, sz, rows ++ src, 0⟩] }) else none
    | .own tok len => match A.bufs[tok]? with
      | some b => if b.rows.length = len ∧ b.sz = sz ∧ b.e = e ∧ len + src.length ≤ 4194304 then
          some (.own tok (len + src.length), { A with bufs := A.bufs.set tok { b with rows := b.rows ++ src } }) else none
      | none => none
    | _ => none
  else none

def aindex (sz : Nat) (A : AHeap) (i : Int) : AV → Option AV
  | .own tok len => match A.bufs[tok]? with
    | some b => if b.rows.length = len ∧ 0 ≤ i ∧ i.toNat < len ∧ b.sz = sz then some (.eptr tok len i.toNat 0) else none
    | none => none
  | v => match arows A v with
    | some rows => if 0 ≤ i then (match rows[i.toNat]? with
      | some row => if row.length = sz then some (.sptr row) else none
      | none => none) else none
    | none => none

def amax2 : AV → AV → Option AV
  | .d (.int k x), .d (.int _ y) => some (.d (.int k (if y > x then y else x)))
  | _, _ => none
def amin2 : AV → AV → Option AV
  | .d (.int k x), .d (.int _ y) => some (.d (.int k (if y < x then y else x)))
  | _, _ => none
def afold (f : AV → AV → Option AV) : AV → List AV → Option AV
  | x, [] => some x
  | x, y :: ys => (f x y).bind fun z => afold f z ys

/-- keys of a map: 0 bool, 1 int, 2 string -/
def aeqK : Nat → Dat → Dat → Option Bool
  | 0, .bool a, .bool b => some (a == b)
  | 1, .int k a, .int k' b => if k = k' then some (a == b) else none
  | 2, .str a, .str b => some (a == b)
  | _, _, _ => none

def afind (kd : Nat) (k : Dat) : List (Dat × AV) → Option (Option AV)
  | [] => some none
  | (j, v) :: es => (aeqK kd k j).bind fun b => if b then some (some v) else afind kd k es
def aupd (kd : Nat) (k : Dat) (v : AV) : List (Dat × AV) → Option (List (Dat × AV))
  | [] => some [(k, v)]
  | (j, u) :: es => (aeqK kd k j).bind fun b => if b then some ((k, v) :: es) else (aupd kd k v es).map ((j, u) :: ·)
def adel (kd : Nat) (k : Dat) : List (Dat × AV) → Option (List (Dat × AV))
  | [] => some []
  | (j, u) :: es => (aeqK kd k j).bind fun b => if b then some es else (adel kd k es).map ((j, u) :: ·)

def mapT (P : Program) (t : TypeId) : Option (Nat × TypeId) :=
  match P.underlying t with
  | some (.map k e) => (plainT P k).map (·, e)
  | _ => none

def aplain : AV → Bool
  | .d (.bool _) | .d (.int _ _) | .d (.str _) => true
  | _ => false
/-- what a map may hold: plain cells -/
def aplainV : AV → Bool
  | .agg cs => cs.all aplain
  | v => aplain v

def alookup (P : Program) (t : TypeId) (A : AHeap) (m k : AV) (ok : Bool) : Option AV :=
  match mapT P t, m, k with
  | some (kd, e), .mapr id, .d key => match A.objs[id]? with
    | some (.map es) => (afind kd key es).bind fun r => match r with
      | some v => some (if ok then .tuple [v, .d (.bool true)] else v)
      | none => (zeroT P e).map fun z => if ok then .tuple [z, .d (.bool false)] else z
    | _ => none
  | _, _, _ => none

def amapUpdate (P : Program) (t : TypeId) (A : AHeap) (m k v : AV) : Option AHeap :=
  match mapT P t, m, k with
  | some (kd, _), .mapr id, .d key => match A.objs[id]? with
    | some (.map es) => if aplainV v then (aupd kd key v es).map fun es' => { A with objs := A.objs.set id (.map es') } else none
    | _ => none
  | _, _, _ => none

def adelete (P : Program) (t : TypeId) (A : AHeap) (m k : AV) : Option AHeap :=
  match mapT P t, m, k with
  | some (kd, _), .mapr id, .d key => match A.objs[id]? with
    | some (.map es) => (adel kd key es).map fun es' => { A with objs := A.objs.set id (.map es') }
    | _ => none
  | _, _, _ => none

def abuiltin (P : Program) (b : Builtin) (ts : Array TypeId) (args : List AV) (A : AHeap) : Option (AV × AHeap) :=
  match b, args with
  | .len, [x] => match ts[0]? with
    | some t => (alen A (lenT P t) x).map fun (n : Nat) => (.d (.int .i64 (n : Int)), A)
    | none => none
  | .append, [x, y] => match ts.toList with
    | [t, u] => if t = u then (match elemT P t with
      | some e => (arows A y).bind fun src => aappend P e.1 e.2 A x src
      | none => none) else none
    | _ => none
  | .delete, [m, k] => match ts[0]? with
    | some t => (adelete P t A m k).map fun A' => (.tuple [], A')
    | none => none
  | .max, x :: xs => (afold amax2 x xs).map (·, A)
  | .min, x :: xs => (afold amin2 x xs).map (·, A)
  | _, _ => none

/-- the parts of a struct or an array, laid into its cells -/
def afill (place : Nat → Option (Nat × Nat)) : List AV → List (Nat × AV) → Option (List AV)
  | cells, [] => some cells
  | cells, (i, v) :: rest => (place i).bind fun p => if v.cells.length = p.2 then (asplice cells p.1 v.cells).bind fun cs => afill place cs rest else none

def aparts (env : AEnv) : List (Nat × Operand) → Option (List (Nat × AV))
  | [] => some []
  | (i, x) :: ps => (aeval env x).bind fun a => (aparts env ps).map ((i, a) :: ·)

/-- n rows of sz cells -/
def achunk (sz : Nat) : Nat → List Dat → List (List Dat)
  | 0, _ => []
  | n + 1, l => l.take sz :: achunk sz n (l.drop sz)

/-- a slice, as data, when its memory is stable -/
def AV.plainS : AV → AV
  | .full rows => .d (.slice rows)
  | .nilS => .d (.slice [])
  | v => v

/-- the next letter of a string -/
def anext (A : AHeap) : AV → Option (AV × AHeap)
  | .ptr id 0 => match A.objs[id]? with
    | some (.iter s pos) => if pos < s.length then
        some (.tuple [.d (.bool true), .d (.int .i64 pos), .d (.int .i32 (Utf8.decode ⟨s.toArray⟩ pos).1)], { A with objs := A.objs.set id (.iter s (pos + (Utf8.decode ⟨s.toArray⟩ pos).2)) })
      else some (.tuple [.d (.bool false)], A)
    | _ => none
  | _ => none

/-- operations that yield a value and don't name a box -/
def aval1 (c : ACtx) (call : FuncId → AFun) (env : AEnv) (A : AHeap) : Op → Option (AV × AHeap)
  | .move x | .assign x => (aeval env x).map (·, A)
  | .pick x a b => match aeval env x, aeval env a, aeval env b with
    | some (.d (.bool t)), some va, some vb => some (if t then va else vb, A)
    | _, _, _ => none
  | .build t parts => match zeroT c.P t, fieldsT c.P t, aparts env parts.toList with
    | some z, some fs, some ps => (afill (fun i => fs[i]?) z.cells ps).map fun cs => (.agg cs, A)
    | _, _, _ => none
  | .buildSlice t n parts => match elemT c.P t, aparts env parts.toList with
    | some e, some ps => match zeroT c.P e.1 with
      | some z => if z.cells.length = e.2 ∧ 0 < e.2 ∧ n * e.2 ≤ 16777216 then
          (afill (fun i => some (i * e.2, e.2)) (List.replicate n z.cells).flatten ps).bind fun cs => (adats A cs).map fun r => (.full (achunk e.2 n r.1), r.2) else none
      | none => none
    | _, _ => none
  | .nilCheck x => match aeval env x with
    | some (.ptr id off) => some (.ptr id off, A)
    | some (.sptr cs) => some (.sptr cs, A)
    | some (.eptr a b i o) => some (.eptr a b i o, A)
    | _ => none
  | .binOp op t x y _ => match aeval env x, aeval env y with
    | some a, some b => (abin c.P op t a b).map (·, A)
    | _, _ => none
  | .unOp op _ x => (aeval env x).bind fun a => (aun op a).map (·, A)
  | .convert s t x => (aeval env x).bind fun a => (aconv c.P s t a).map (·, A)
  | .makeFunc fn first captured => match aevals env first.toList, aevals env captured.toList with
    | some a, some b => some (.func fn a b, A)
    | _, _ => none
  | .makeMap t none => match mapT c.P t with
    | some _ => some (.mapr A.objs.length, { A with objs := A.objs ++ [.map []] })
    | none => none
  | .slice t x lo hi none => match (aeval env x).map AV.plainS, lo.map (aeval env), hi.map (aeval env) with
    | some (.d (.str s)), none, some (some (.d (.int _ h))) => if strT c.P t = true ∧ 0 ≤ h ∧ h ≤ s.length then some (.d (.str (s.take h.toNat)), A) else none
    | some (.d (.str s)), some (some (.d (.int _ l))), none => if strT c.P t = true ∧ 0 ≤ l ∧ l ≤ s.length then some (.d (.str (s.drop l.toNat)), A) else none
    | some (.d (.slice rows)), none, some (some (.d (.int _ h))) => if (elemT c.P t).isSome = true ∧ 0 ≤ h ∧ h ≤ rows.length then some (.d (.slice (rows.take h.toNat)), A) else none
    | _, _, _ => none
  | .field t x i => match aeval env x, fieldT c.P t i with
    | some (.agg cs), some (off, n, agg) => (apart cs off n agg).map (·, A)
    | _, _ => none
  | .index t x i => match aeval env x, aeval env i with
    | some (.d (.str s)), some (.d (.int _ n)) => if strT c.P t = true ∧ 0 ≤ n then (s[n.toNat]?).map fun b => (.d (.int .u8 b.toNat), A) else none
    | some (.agg cs), some (.d (.int _ n)) => match arrT c.P t with
      | some (len, sz, agg) => if 0 ≤ n ∧ n < len then (apart cs (n.toNat * sz) sz agg).map (·, A) else none
      | none => none
    | _, _ => none
  | .lookup t m k ok => match aeval env m, aeval env k with
    | some a, some b => (alookup c.P t A a b ok).map (·, A)
    | _, _ => none
  | .mapUpdate t m k x => match aeval env m, aeval env k, aeval env x with
    | some a, some b, some v => (amapUpdate c.P t A a b v).map (.tuple [], ·)
    | _, _, _ => none
  | .range t x => match aeval env x with
    | some (.d (.str s)) => if strT c.P t = true then some (.ptr A.objs.length 0, { A with objs := A.objs ++ [.iter s 0] }) else none
    | _ => none
  | .next x s => if s = true then (aeval env x).bind (anext A) else none
  | .extract t i => match aeval env t with
    | some (.tuple vs) => (vs[i]?).map (·, A)
    | _ => none
  | .call cl => match cl.callee with
    | .value g => match aeval env g, aevals env cl.args.toList with
      | some (.func (.func f) first captured), some args => call f (first ++ args ++ captured) A
      | _, _ => none
    | .builtin b => (aevals env cl.args.toList).bind fun args => abuiltin c.P b cl.argTypes args A
    | _ => none
  | _ => none

/-- a pointer into a box: which box, where -/
def aplace (env : AEnv) : Operand → Option (Nat × Nat)
  | .tmp t => match alook env t with
    | some (.box _) => some (t, 0)
    | some (.place s off) => some (s, off)
    | _ => none
  | _ => none

def abox (env : AEnv) (s : Nat) : Option (List AV) :=
  match alook env s with
  | some (.box cs) => some cs
  | _ => none

/-- no slot holds a pointer into the box of d -/
def noPlaceOf (d : Nat) : AEnv → Bool
  | [] => true
  | (_, .place s _) :: l => s != d && noPlaceOf d l
  | _ :: l => noPlaceOf d l

def Slot.isPlace : Slot → Bool
  | .place _ _ => true
  | _ => false

def dropKey (t : Nat) : AEnv → AEnv
  | [] => []
  | (s, x) :: l => if s = t then dropKey t l else (s, x) :: dropKey t l

def noPlaces : AEnv → AEnv
  | [] => []
  | (t, x) :: l => if x.isPlace then dropKey t (noPlaces l) else (t, x) :: noPlaces l

/-- operations that lay one slot, their own -/
def aslot (c : ACtx) (call : FuncId → AFun) (env : AEnv) (A : AHeap) : Op → Option (Slot × AHeap)
  | .load t x => match kindT c.P t with
    | some (n, agg) => (match aplace env x with
      | some (s, off) => (abox env s).bind fun cs => (apart cs off n agg).map fun v => (.v v, A)
      | none => (aeval env x).bind fun a => (aload A n agg a).map fun v => (.v v, A))
    | none => none
  | .fieldAddr t x i => match fieldT c.P t i with
    | some (off, n, _) => if n = 0 then none else
      match aplace env x with
      | some (s, o') => some (.place s (o' + off), A)
      | none => match aeval env x with
        | some (.ptr id o') => some (.v (.ptr id (o' + off)), A)
        | some (.sptr ds) => some (.v (.sptr (ds.drop off)), A)
        | some (.eptr tok len j o') => some (.v (.eptr tok len j (o' + off)), A)
        | _ => none
    | none => none
  | .indexAddr t x i => match aeval env i with
    | some (.d (.int _ n)) => match arrT c.P t with
      | some (len, sz, _) => (match aplace env x with
        | some (s, o') => if 0 ≤ n ∧ n < len then some (.place s (o' + n.toNat * sz), A) else none
        | none => none)
      | none => match elemT c.P t, aeval env x with
        | some e, some v => (aindex e.2 A n v).map fun p => (.v p, A)
        | _, _ => none
    | _ => none
  | op => (aval1 c call env A op).map fun r => (.v r.1, r.2)

def AV.one : AV → Bool
  | .agg _ | .tuple _ => false
  | _ => true

/-- what an operation lays into a slot, and the heap behind it -/
def aeff (c : ACtx) (call : FuncId → AFun) (f : FuncId) (o : Oper) (env : AEnv) (A : AHeap) : Option (Option (Nat × Slot) × AHeap) :=
  match o.op with
  | .alloc t => match zeroT c.P t, o.dst with
    | some z, some d =>
        (if (c.esc f).contains d then some (some (d, .v (.ptr A.objs.length 0)), { A with objs := A.objs ++ [.cells z.cells] })
        else if noPlaceOf d env then some (some (d, .box z.cells), A) else none)
    | _, _ => none
  | .box _ x => match aeval env x, o.dst with
    | some v, some d =>
        (if (c.esc f).contains d then some (some (d, .v (.ptr A.objs.length 0)), { A with objs := A.objs ++ [.cells v.cells] })
        else if noPlaceOf d env then some (some (d, .box v.cells), A) else none)
    | _, _ => none
  | .store t x y => match o.dst with
    | some _ => none
    | none => (aeval env y).bind fun v => if (kindT c.P t).map (·.1) = some v.cells.length ∧ v.cells.all AV.one = true then
      (match aplace env x with
      | some (s, off) => (abox env s).bind fun cs => (asplice cs off v.cells).map fun cs' => (some (s, .box cs'), A)
      | none => (aeval env x).bind fun a => (astore A v.cells a).map fun A' => (none, A')) else none
  | op => (aslot c call env A op).map fun r => (o.dst.map (·, r.1), r.2)

def alay (nt : Nat) (w : Option (Nat × Slot)) (env : AEnv) : Option AEnv :=
  match w with
  | none => some env
  | some (d, s) => if d < nt then some ((d, s) :: env) else none

def aop (c : ACtx) (call : FuncId → AFun) (f : FuncId) (nt : Nat) (o : Oper) (env : AEnv) (A : AHeap) : Option (AEnv × AHeap) :=
  (aeff c call f o env A).bind fun r => (alay nt r.1 env).map (·, r.2)

def aput (nt : Nat) (dst : Option Tmp) (x : Slot) (env : AEnv) : Option AEnv := alay nt (dst.map (·, x)) env

/-! regions -/
def agt : AV → Bool → Option Bool
  | .d (.bool b), w => some (b == w)
  | .tuple [], _ => some false
  | _, _ => none

def aguard (ops : Array Oper) (env : AEnv) (o : Oper) : Option Bool :=
  match o.guard with
  | none => some true
  | some (j, w) => match (ops[j]?).bind (·.dst) with
    | some t => match alook env t with
      | some (.v x) => agt x w
      | _ => none
    | none => none

def astep (c : ACtx) (call : FuncId → AFun) (f : FuncId) (nt : Nat) (ops : Array Oper) (o : Oper) (env : AEnv) (A : AHeap) : Option (AEnv × AHeap) :=
  (aguard ops env o).bind fun b => if b then aop c call f nt o env A else (aput nt o.dst (.v (.tuple [])) env).map (·, A)

def aops (c : ACtx) (call : FuncId → AFun) (f : FuncId) (nt : Nat) (ops : Array Oper) : List Oper → AEnv → AHeap → Option (AEnv × AHeap)
  | [], env, A => some (env, A)
  | o :: rest, env, A => (astep c call f nt ops o env A).bind fun r => aops c call f nt ops rest r.1 r.2

/-! a region that draws its order: what each operation touches -/
def AV.ownfree : AV → Bool
  | .own _ _ => false
  | _ => true

/-- does the operation look at, or change, the objects ¦ the buffers? -/
def auses (env : AEnv) (f : FuncId) (c : ACtx) (o : Oper) : Bool × Bool :=
  match o.op with
  | .load _ x => match aplace env x, aeval env x with
    | some _, _ => (false, false)
    | none, some (.sptr _) => (false, false)
    | none, some (.ptr _ _) => (true, false)
    | none, some (.eptr _ _ _ _) => (false, true)
    | _, _ => (true, true)
  | .store _ x _ => match aplace env x, aeval env x with
    | some _, _ => (false, false)
    | none, some (.ptr _ _) => (true, false)
    | none, some (.eptr _ _ _ _) => (false, true)
    | _, _ => (true, true)
  | .alloc _ | .box _ _ => match o.dst with
    | some d => ((c.esc f).contains d, false)
    | none => (true, true)
  | .fieldAddr _ _ _ => (false, false)
  | .indexAddr _ x _ => match aeval env x with
    | some (.own _ _) => (false, true)
    | _ => (false, false)
  | .move _ | .assign _ | .pick _ _ _ | .build _ _ | .nilCheck _ | .binOp _ _ _ _ _ | .unOp _ _ _ | .convert _ _ _ | .makeFunc _ _ _ | .slice _ _ _ _ _ | .field _ _ _ | .index _ _ _ | .extract _ _ => (false, false)
  | .buildSlice _ _ parts => match aparts env parts.toList with
    | some ps => (false, !(ps.all fun p => p.2.cells.all AV.ownfree))
    | none => (true, true)
  | .lookup _ _ _ _ | .mapUpdate _ _ _ _ | .makeMap _ _ | .range _ _ | .next _ _ => (true, false)
  | .call cl => match cl.callee with
    | .builtin .len => match aevals env cl.args.toList with
      | some [.mapr _] => (true, false)
      | some _ => (false, false)
      | none => (true, true)
    | .builtin .max | .builtin .min => (false, false)
    | .builtin .append => (false, true)
    | .builtin .delete => (true, false)
    | _ => (true, true)
  | _ => (true, true)

/-- does it write a box of the frame's own? -/
def pstore (env : AEnv) (o : Oper) : Bool :=
  match o.op with
  | .store _ x _ => (aplace env x).isSome
  | _ => false

structure AMark where
  i : Nat
  u : Bool × Bool
  px : Bool
  co : Prop
  cb : Prop

def atrace (c : ACtx) (call : FuncId → AFun) (f : FuncId) (nt : Nat) (ops : Array Oper) : Nat → List Oper → AEnv → AHeap → Option ((AEnv × AHeap) × List AMark)
  | _, [], env, A => some ((env, A), [])
  | i, o :: rest, env, A => (aguard ops env o).bind fun b =>
    if b then (aop c call f nt o env A).bind fun r => (atrace c call f nt ops (i + 1) rest r.1 r.2).map fun s =>
        (s.1, ⟨i, auses env f c o, pstore env o, r.2.objs ≠ A.objs, r.2.bufs ≠ A.bufs⟩ :: s.2)
    else (aput nt o.dst (.v (.tuple [])) env).bind fun env' => atrace c call f nt ops (i + 1) rest env' A

/-- one of two operations comes ahead of the other in every order -/
def aord (ops : Array Oper) (i j : Nat) : Bool := ((Region.before ops).getD (max i j) 0).testBit (min i j)

def adrawn (ops : Array Oper) (ms : List AMark) : Prop :=
  (∀ m ∈ ms, ∀ m' ∈ ms, m.i ≠ m'.i → ((m.co ∧ m'.u.1 = true) ∨ (m.cb ∧ m'.u.2 = true)) → aord ops m.i m'.i = true) ∧
  (∀ m ∈ ms, m.px = true → ∀ j, j < ops.size → j ≠ m.i → aord ops m.i j = true)

def Op.lays : Op → Bool
  | .alloc _ | .box _ _ => true
  | _ => false

/-- nothing escapes: every variable is the frame's own -/
def ACtx.noesc (c : ACtx) : ACtx := { c with esc := fun _ => [] }

/-- the frame's own variables whose address goes elsewhere become objects -/
def apromote (esc : List Nat) : List Oper → AEnv → AHeap → AEnv × AHeap
  | [], env, A => (env, A)
  | o :: rest, env, A => match o.dst with
    | none => apromote esc rest env A
    | some d => if Op.lays o.op && esc.contains d then
        (match alook env d with
        | some (.box cs) => apromote esc rest ((d, .v (.ptr A.objs.length 0)) :: env) { A with objs := A.objs ++ [.cells cs] }
        | _ => apromote esc rest env A) else apromote esc rest env A

open Classical in
noncomputable def aregion (c : ACtx) (call : FuncId → AFun) (f : FuncId) (nt : Nat) (ops : Array Oper) (draw : Bool) (env : AEnv) (A : AHeap) : Option (AEnv × AHeap) :=
  if draw then (atrace c.noesc call f nt ops 0 ops.toList (noPlaces env) A).bind fun r => if adrawn ops r.2 then some (apromote (c.esc f) ops.toList r.1.1 r.1.2) else none
  else aops c call f nt ops ops.toList env A

/-! code -/
def akeep (env : AEnv) : List Nat → AEnv
  | [] => []
  | t :: ts => match alook env t with
    | some x => (t, x) :: akeep env ts
    | none => akeep env ts

def firstRegion : Code → Option Nat
  | .region id _ _ => some id
  | .seq a _ => firstRegion a
  | .block _ b => firstRegion b
  | _ => none

/-- only the slots that are still read -/
def atrim (c : ACtx) (f : FuncId) (r : Option Nat) (env : AEnv) : AEnv :=
  match r.bind (c.live f) with
  | some ts => akeep env ts
  | none => env

def aloop (body : AEnv → AHeap → ARes) (trim : AEnv → AEnv) : Nat → AEnv → AHeap → ARes
  | 0, _, _ => none
  | n + 1, env, A => (body (trim env) A).bind fun r => match r.1 with
    | .normal => aloop body trim n r.2.1 r.2.2
    | _ => some r

noncomputable def acode (c : ACtx) (call : FuncId → AFun) (f : FuncId) (nt lf : Nat) : Code → AEnv → AHeap → ARes
  | .skip, env, A => some (.normal, env, A)
  | .region id ops draw, env, A => (aregion c call f nt ops draw (atrim c f (some id) env) A).map fun r => (.normal, r.1, r.2)
  | .seq a b, env, A => (acode c call f nt lf a env A).bind fun r => match r.1 with
    | .normal => acode c call f nt lf b r.2.1 r.2.2
    | _ => some r
  | .cond x t e, env, A => match aeval env x with
    | some (.d (.bool b)) => if b then acode c call f nt lf t env A else acode c call f nt lf e env A
    | _ => none
  | .block id b, env, A => (acode c call f nt lf b env A).map fun r => match r.1 with
    | .exit j => if j = id then (.normal, r.2) else r
    | _ => r
  | .loop b, env, A => aloop (acode c call f nt lf b) (atrim c f (firstRegion b)) lf env A
  | .exit id, env, A => some (.exit id, env, A)
  | .ret, env, A => some (.ret, env, A)
  | _, _, _ => none

/-! calls -/
def aresult (c : ACtx) (env : AEnv) (A : AHeap) : ResultVar → Option AV
  | .tmp t => aeval env (.tmp t)
  | .cell t T => match kindT c.P T with
    | some (n, agg) => (match aplace env (.tmp t) with
      | some (s, off) => (abox env s).bind fun cs => apart cs off n agg
      | none => (aeval env (.tmp t)).bind fun a => aload A n agg a)
    | none => none

def aresultL (c : ACtx) (env : AEnv) (A : AHeap) : List ResultVar → Option (List AV)
  | [] => some []
  | r :: rs => (aresult c env A r).bind fun v => (aresultL c env A rs).map (v :: ·)

def aresults (c : ACtx) (env : AEnv) (A : AHeap) (rs : List ResultVar) : Option AV :=
  (aresultL c env A rs).map fun vs => match vs with
    | [v] => v
    | vs => .tuple vs

def AV.noptr1 : AV → Bool
  | .d _ | .nilS | .full _ | .nilP | .nilF | .nilM => true
  | _ => false
def AV.noptr2 : AV → Bool
  | .agg cs => cs.all AV.noptr1
  | v => v.noptr1
def AV.noptr : AV → Bool
  | .tuple vs => vs.all AV.noptr2
  | v => v.noptr2

open Classical in
/-- what the call has made and nobody names is forgotten -/
noncomputable def acut (A0 : AHeap) (v : AV) (A : AHeap) : AV × AHeap :=
  if A.objs.take A0.objs.length = A0.objs then
    if v.noptr then (v, ⟨A0.objs, A.bufs.take A0.bufs.length⟩) else
    match v with
    | .own tok len => if tok < A0.bufs.length then (v, ⟨A0.objs, A.bufs.take A0.bufs.length⟩) else
      match A.bufs[tok]? with
      | some b => (.own A0.bufs.length len, ⟨A0.objs, A.bufs.take A0.bufs.length ++ [b]⟩)
      | none => (v, A)
    | _ => (v, A)
  else (v, A)

noncomputable def afinish (c : ACtx) (f : FuncId) (A0 : AHeap) (v : AV) (A : AHeap) : AV × AHeap :=
  if c.own f then acut A0 v A else let r := acleanR A v; acut A0 r.1 r.2

def anames (ops : Array Oper) (o : Oper) : List Tmp := o.looksAt ops ++ o.dst.toList

def Op.addrOf : Op → Option Tmp
  | .fieldAddr _ (.tmp t) _ | .indexAddr _ (.tmp t) _ => some t
  | _ => none

def Op.stores : Op → Bool
  | .store _ _ _ => true
  | _ => false

/-- whoever writes a slot that another operation names is ordered with it; an address is reckoned from a box that the region does not lay -/
def adrawStatic (ops : Array Oper) : Bool :=
  let b := Region.before ops
  let l := ops.toList.zipIdx
  (l.all fun (x, i) => x.after.all (fun e => !Region.binds .any e || decide (e.on < i)) && l.all fun (y, j) => i == j ||
    (match x.dst with
    | some d => !(anames ops y).contains d
    | none => true) || (b.getD (max i j) 0).testBit (min i j)) &&
  (l.all fun (x, i) => match Op.addrOf x.op with
    | none => true
    | some t => l.all fun (y, j) => y.dst != some t || (decide (j < i) && !Op.lays y.op))

def acheck : Code → Bool
  | .region _ ops draw => !draw || (adrawStatic ops)
  | .seq a b => acheck a && acheck b
  | .cond _ a b => acheck a && acheck b
  | .block _ b => acheck b
  | .loop b => acheck b
  | _ => true

def fnOk (P : Program) (f : FuncId) : Bool :=
  match P.funcs[f]? with
  | some fn => fn.name != "runtime.NumGoroutine" && (match fn.body with
    | some code => acheck code
    | none => false)
  | none => false

def aenter : Nat → List AV → AEnv
  | _, [] => []
  | i, v :: vs => (i, .v v) :: aenter (i + 1) vs

noncomputable def abody (c : ACtx) (call : FuncId → AFun) (lf : Nat) (f : FuncId) (args : List AV) (A : AHeap) : Option (AV × AHeap) :=
  match c.ext f with
  | some g => g args A
  | none => match c.P.funcs[f]? with
    | none => none
    | some fn => match fn.body with
      | none => none
      | some code => if fnOk c.P f = true ∧ args.length ≤ fn.ntmps then
          let r := if c.own f then (args, A) else acleanVs A args
          (acode c call f fn.ntmps lf code (aenter 0 r.1) r.2).bind fun x => match x.1 with
            | .exit _ => none
            | _ => (aresults c x.2.1 x.2.2 fn.results.toList).map fun v => afinish c f A v x.2.2
        else none

noncomputable def aclF (c : ACtx) : Nat → FuncId → AFun
  | 0 => fun _ _ _ => none
  | n + 1 => abody c (aclF c n) n

end Go.Abs
