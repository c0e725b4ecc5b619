/- The abstract machine: an interpreter of the model's code over plain data. -/
import Derived.Orders
import GoSem.Core.Utf8
import Derived.Laws.AppendOwn
import Derived.Lib.SliceRun
import Derived.Laws.Cells
import Derived.Laws.Strings
import Derived.Laws.StructEq
import Derived.Laws.Rows
import Derived.Laws.Small
import Derived.RowKit3
import Derived.Carry
import Derived.Lib.AppendStr
import Derived.Laws.CopyRow
import Derived.Laws.MakeOwn
import Derived.Great.BuildSlice
import Derived.MapKept
import Derived.Laws.BytesString
set_option linter.all false
namespace Go.Abs
inductive Dat where
 | bool (b : Bool)
 | int (k : IntKind) (n : Int)
 | str (s : List UInt8)
 | slice (rows : List (List Dat))
 | nil
inductive AV where
 | d (x : Dat)
 | nilS
 | full (rows : List (List Dat))
 | own (tok len : Nat)
 | nilP
 | ptr (id off : Nat)
 | sptr (cells : List Dat)
 | eptr (tok len i off : Nat)
 | nilF
 | nilI
 | nilM
 | func (fn : Fn) (first captured : List AV)
 | mapr (id : Nat)
 | agg (cells : List AV)
 | tuple (vs : List AV)
structure ABuf where
 e : TypeId
 sz : Nat
 rows : List (List Dat)
 frozen : Nat
inductive AObj where
 | cells (cs : List AV)
 | tcells (T : TypeId) (cs : List AV)
 | map (es : List (Dat × AV))
 | iter (s : List UInt8) (pos : Nat)
structure AHeap where
 objs : List AObj
 bufs : List ABuf
inductive Slot where
 | v (x : AV)
 | box (cells : List AV)
 | place (s off : Nat)
abbrev AEnv := List (Nat × Slot)
def alook : AEnv → Nat → Option Slot
 | [], _ => none
 | (s, x) :: l, t => if s = t then some x else alook l t
inductive AEx where
 | normal
 | exit (id : Nat)
 | ret
abbrev AFun := List AV → AHeap → Option (AV × AHeap)
abbrev ARes := Option (AEx × AEnv × AHeap)
structure ACtx where
 P : Program
 esc : FuncId → List Nat
 own : FuncId → Bool
 live : FuncId → Nat → Option (List Nat)
 ext : FuncId → Option AFun
 typed : TypeId → Bool := fun _ => false
 nilT : TypeId → Bool := fun _ => false
def mkObj (c : ACtx) (t : TypeId) (cs : List AV) : AObj := bif c.typed t then .tcells t cs else .cells cs
def vcell : Value → Option AV
 | .bool b => some (.d (.bool b))
 | .int k n => some (.d (.int k n))
 | .string s => some (.d (.str s.data.toList))
 | .slice none 0 0 => some .nilS
 | .pointer none => some .nilP
 | .nilFunc => some .nilF
 | .nilIface => some .nilI
 | .map none => some .nilM
 | _ => none
def vcells : List Value → Option (List AV)
 | [] => some []
 | v :: vs => (vcell v).bind fun a => (vcells vs).map (a :: ·)
def aval : Value → Option AV
 | .agg cs => (vcells cs.toList).map .agg
 | .func fn first captured => if first.size = 0 ∧ captured.size = 0 then some (.func fn [] []) else none
 | .tuple vs => if vs.size = 0 then some (.tuple []) else none
 | v => vcell v
def aeval (env : AEnv) : Operand → Option AV
 | .tmp t => match alook env t with
   | some (.v x) => some x
   | _ => none
 | .const v => aval v
 | .func f => some (.func (.func f) [] [])
 | .global _ => none
def aevals (env : AEnv) : List Operand → Option (List AV)
 | [] => some []
 | x :: xs => (aeval env x).bind fun a => (aevals env xs).map (a :: ·)
def AV.cells : AV → List AV
 | .agg cs => cs
 | v => [v]
def arows (A : AHeap) : AV → Option (List (List Dat))
 | .d (.slice rows) => some rows
 | .nilS => some []
 | .full rows => some rows
 | .own tok len => match A.bufs[tok]? with
   | some b => if b.rows.length = len ∧ b.frozen ≤ len then some b.rows else none
   | none => none
 | _ => none
def AHeap.freeze (A : AHeap) (tok : Nat) : AHeap :=
 { A with bufs := A.bufs.modify tok fun b => { b with frozen := b.rows.length } }
def adat (A : AHeap) : AV → Option (Dat × AHeap)
 | .d x => some (x, A)
 | .nilS => some (.slice [], A)
 | .full rows => some (.slice rows, A)
 | .own tok len => (arows A (.own tok len)).map fun rows => (.slice rows, A.freeze tok)
 | _ => none
def adats (A : AHeap) : List AV → Option (List Dat × AHeap)
 | [] => some ([], A)
 | x :: xs => (adat A x).bind fun r => (adats r.2 xs).map fun s => (r.1 :: s.1, s.2)
def AV.tonil : AV → AV
 | .nilS => .d .nil
 | v => v
def adatsT (b : Bool) (A : AHeap) (l : List AV) : Option (List Dat × AHeap) := adats A (bif b then l.map AV.tonil else l)
def aclean (A : AHeap) : AV → AV × AHeap
 | .nilS => (.d (.slice []), A)
 | .full rows => (.d (.slice rows), A)
 | .own tok len => match arows A (.own tok len) with
   | some rows => (.d (.slice rows), A.freeze tok)
   | none => (.own tok len, A)
 | v => (v, A)
def acleans (A : AHeap) : List AV → List AV × AHeap
 | [] => ([], A)
 | x :: xs =>
   let r := aclean A x
   let s := acleans r.2 xs
   (r.1 :: s.1, s.2)
def acleanV (A : AHeap) : AV → AV × AHeap
 | .agg cs => let r := acleans A cs; (.agg r.1, r.2)
 | v => aclean A v
def acleanVs (A : AHeap) : List AV → List AV × AHeap
 | [] => ([], A)
 | x :: xs =>
   let r := acleanV A x
   let s := acleanVs r.2 xs
   (r.1 :: s.1, s.2)
def acleanR (A : AHeap) : AV → AV × AHeap
 | .tuple vs => let r := acleanVs A vs; (.tuple r.1, r.2)
 | v => acleanV A v
def kindT (P : Program) (t : TypeId) : Option (Nat × Bool) :=
 match P.info? t, P.underlying t with
 | some i, some d => some (i.size, match d with | .struct _ | .array _ _ => true | _ => false)
 | _, _ => none
def elemT (P : Program) (t : TypeId) : Option (TypeId × Nat) :=
 match P.underlying t with
 | some (.slice e) => (kindT P e).map fun k => (e, k.1)
 | _ => none
def arrT (P : Program) (t : TypeId) : Option (Nat × Nat × Bool) :=
 match P.underlying t with
 | some (.array n e) => (kindT P e).map fun k => (n, k)
 | _ => none
def fieldT (P : Program) (t : TypeId) (i : Nat) : Option (Nat × Nat × Bool) :=
 match P.underlying t with
 | some (.struct fs) => (fs[i]?).bind fun f => (kindT P f.type).map fun k => (f.offset, k)
 | _ => none
def fieldsL (P : Program) : List Field → Option (List (Nat × Nat))
 | [] => some []
 | f :: fs => (kindT P f.type).bind fun k => (fieldsL P fs).map ((f.offset, k.1) :: ·)
def fieldsT (P : Program) (t : TypeId) : Option (List (Nat × Nat)) :=
 match P.underlying t with
 | some (.struct fs) => fieldsL P fs.toList
 | _ => none
def strT (P : Program) (t : TypeId) : Bool :=
 match P.underlying t with
 | some .string => true
 | _ => false
def boolT (P : Program) (t : TypeId) : Bool :=
 match P.underlying t with
 | some .bool => true
 | _ => false
def lenT (P : Program) (t : TypeId) : Nat :=
 match P.underlying t with
 | some .string => 1
 | some (.slice _) => 2
 | some (.map _ _) => 3
 | _ => 0
def convT (P : Program) (s t : TypeId) : Option IntKind :=
 match P.underlying s, P.underlying t with
 | some _, some (.int k) => some k
 | _, _ => none
def zeroT (P : Program) (t : TypeId) : Option AV := ((P.info? t).bind (·.zero)).bind aval
def plainT (P : Program) (t : TypeId) : Option Nat :=
 match P.underlying t with
 | some .bool => some 0
 | some (.int _) => some 1
 | some .string => some 2
 | _ => none
def flatL (P : Program) : Nat → List Field → Option (List Nat)
 | _, [] => some []
 | i, f :: fs => if f.name != "_" && f.offset == i then (plainT P f.type).bind fun k => (flatL P (i + 1) fs).map (k :: ·) else none
def flat1T (P : Program) (t : TypeId) : Option (List Nat) :=
 match P.underlying t with
 | some (.struct fs) => if !P.stoodInHeld t && !P.eqGuardType P.depth t then flatL P 0 fs.toList else none
 | _ => none
def flat2L (P : Program) : Nat → List Field → Option (List Nat)
 | _, [] => some []
 | i, f :: fs => if f.name != "_" && f.offset == i then (match plainT P f.type with
   | some k => (flat2L P (i + 1) fs).map (k :: ·)
   | none => (flat1T P f.type).bind fun ks => if (kindT P f.type).map (·.1) = some ks.length then (flat2L P (i + ks.length) fs).map (ks ++ ·) else none) else none
def flat2T (P : Program) (t : TypeId) : Option (List Nat) :=
 match P.underlying t with
 | some (.struct fs) => if !P.stoodInHeld t && !P.eqGuardType P.depth t then flat2L P 0 fs.toList else none
 | _ => none
def flatT (P : Program) (t : TypeId) : Option (List Nat) :=
 match flat1T P t with
 | some ks => some ks
 | none => flat2T P t
def acmp (op : BinOp) (a b : Int) : Option Dat :=
 match op with
 | .eql => some (.bool (a == b))
 | .neq => some (.bool (a != b))
 | .lss => some (.bool (a < b))
 | .leq => some (.bool (a ≤ b))
 | .gtr => some (.bool (a > b))
 | .geq => some (.bool (a ≥ b))
 | _ => none
def aarith (op : BinOp) (k : IntKind) (a b : Int) : Option Dat :=
 match op with
 | .add => some (.int k (k.wrap (a + b)))
 | .sub => some (.int k (k.wrap (a - b)))
 | .mul => some (.int k (k.wrap (a * b)))
 | .quo => if b = 0 then none else some (.int k (k.wrap (a.tdiv b)))
 | .rem => if b = 0 then none else some (.int k (a.tmod b))
 | .shr => if 0 ≤ b ∧ b ≤ 8 then some (.int k (a / 2 ^ b.toNat)) else none
 | .shl | .and | .or | .xor | .andNot => none
 | _ => acmp op a b
def astr (op : BinOp) (a b : List UInt8) : Option Dat :=
 match op with
 | .add => if a.length + b.length ≤ 1099511627776 then some (.str (a ++ b)) else none
 | .eql => some (.bool (a == b))
 | .neq => some (.bool (!(a == b)))
 | .lss => some (.bool (Op.bytesLess a b))
 | .leq => some (.bool (Op.bytesLess a b || a == b))
 | .gtr => some (.bool (!(Op.bytesLess a b || a == b)))
 | .geq => some (.bool (!(Op.bytesLess a b)))
 | _ => none
def aeqCells : List Nat → List AV → List AV → Option Bool
 | [], [], [] => some true
 | 0 :: ks, .d (.bool x) :: xs, .d (.bool y) :: ys => (aeqCells ks xs ys).map ((x == y) && ·)
 | 1 :: ks, .d (.int k x) :: xs, .d (.int k' y) :: ys => if k = k' then (aeqCells ks xs ys).map ((x == y) && ·) else none
 | 2 :: ks, .d (.str x) :: xs, .d (.str y) :: ys => (aeqCells ks xs ys).map ((x == y) && ·)
 | _, _, _ => none
def abin (P : Program) (op : BinOp) (t : TypeId) : AV → AV → Option AV
 | .d (.int k a), .d (.int k' b) => if k = k' then (aarith op k a b).map .d else none
 | .d (.str a), .d (.str b) => (astr op a b).map .d
 | .d (.bool a), .d (.bool b) => if boolT P t then
   (match op with
   | .eql => some (.d (.bool (a == b)))
   | .neq => some (.d (.bool (!(a == b))))
   | _ => none) else none
 | .agg xs, .agg ys => match flatT P t, op with
   | some ks, .eql => (aeqCells ks xs ys).map fun b => .d (.bool b)
   | some ks, .neq => (aeqCells ks xs ys).map fun b => .d (.bool (!b))
   | _, _ => none
 | .d (.slice (_ :: _)), .nilS => if (elemT P t).isSome = true then
   (match op with
   | .eql => some (.d (.bool false))
   | _ => none) else none
 | _, _ => none
def aun (op : UnOp) : AV → Option AV
 | .d (.bool b) => match op with | .not => some (.d (.bool (!b))) | _ => none
 | .d (.int k n) => match op with | .neg => some (.d (.int k (k.wrap (0 - n)))) | _ => none
 | _ => none
def bytesT (P : Program) (s t : TypeId) : Bool :=
 match P.underlying s, P.underlying t with
 | some (.slice e), some .string => (match P.underlying e with
   | some (.int .u8) => true
   | _ => false)
 | _, _ => false
def byteRows : List (List Dat) → Option (List Int)
 | [] => some []
 | [.int .u8 n] :: l => (byteRows l).map (n :: ·)
 | _ => none
def aconv (P : Program) (s t : TypeId) : AV → Option AV
 | .d (.int _ n) => (convT P s t).map fun k => .d (.int k (k.wrap n))
 | .d (.str x) => if strT P s && strT P t then some (.d (.str x)) else none
 | .full rows => if bytesT P s t then (byteRows rows).map fun l => .d (.str (l.map fun n => UInt8.ofNat n.toNat)) else none
 | _ => none
def asplice (cells : List AV) (off : Nat) (new : List AV) : Option (List AV) :=
 if off + new.length ≤ cells.length then some (cells.take off ++ new ++ cells.drop (off + new.length)) else none
def apart (cells : List AV) (off n : Nat) (agg : Bool) : Option AV :=
 if agg then (if off + n ≤ cells.length then some (.agg ((cells.drop off).take n)) else none)
 else cells[off]?
def aload (A : AHeap) (n : Nat) (agg : Bool) : AV → Option AV
 | .ptr id off => match A.objs[id]? with
   | some (.cells cs) => apart cs off n agg
   | some (.tcells _ cs) => apart cs off n agg
   | _ => none
 | .sptr ds => apart (ds.map .d) 0 n agg
 | .eptr tok len i off => match A.bufs[tok]? with
   | some b => if b.rows.length = len ∧ b.frozen ≤ len then (match b.rows[i]? with
     | some row => apart (row.map .d) off n agg
     | none => none) else none
   | none => none
 | _ => none
def astore (A : AHeap) (vs : List AV) : AV → Option AHeap
 | .ptr id off => match A.objs[id]? with
   | some (.cells cs) => (asplice cs off vs).map fun cs' => { A with objs := A.objs.set id (.cells cs') }
   | some (.tcells T cs) => (asplice cs off vs).map fun cs' => { A with objs := A.objs.set id (.tcells T cs') }
   | _ => none
 | .eptr tok len i off => match A.bufs[tok]? with
   | some b => if b.rows.length = len ∧ b.frozen ≤ i then (match b.rows[i]? with
     | some row => (adats A vs).bind fun r =>
       (if off + r.1.length ≤ row.length then
        match r.2.bufs[tok]? with
        | some b' => if b'.frozen ≤ i then some { r.2 with bufs := r.2.bufs.set tok { b' with rows := b'.rows.set i (row.take off ++ r.1 ++ row.drop (off + r.1.length)) } } else none
        | none => none
       else none)
     | none => none) else none
   | none => none
 | _ => none
def alen (A : AHeap) (k : Nat) : AV → Option Nat
 | .d (.slice rows) => if k = 2 then some rows.length else none
 | .d (.str s) => if k = 1 then some s.length else none
 | .nilS => if k = 2 then some 0 else none
 | .full rows => if k = 2 then some rows.length else none
 | .own _ len => if k = 2 then some len else none
 | .mapr id => if k = 3 then (match A.objs[id]? with
   | some (.map es) => some es.length
   | _ => none) else none
 | _ => none
def aroomT (P : Program) (e : TypeId) (sz : Nat) : Bool := decide (0 < sz) && decide (P.bytesOf e ≤ 1048576) && (match zeroT P e with | some z => z.cells.length == sz | none => false)
def aappend (P : Program) (e : TypeId) (sz : Nat) (A : AHeap) (base : AV) (src : List (List Dat)) : Option (AV × AHeap) :=
 if aroomT P e sz = true ∧ src.all (fun r => r.length == sz) = true then
  match base with
  | .nilS | .d .nil => if src = [] then some (.nilS, A) else
    if src.length ≤ 4194304 then some (.own A.bufs.length src.length, { A with bufs := A.bufs ++ [⟨e, sz, src, 0⟩] }) else none
  | .full rows => if src = [] then some (.full rows, A) else
    if rows.length + src.length ≤ 4194304 ∧ rows.all (fun r => r.length == sz) = true then
     some (.own A.bufs.length (rows.length + src.length), { A with bufs := A.bufs ++ [⟨e, sz, rows ++ src, 0⟩] }) else none
  | .own tok len => match A.bufs[tok]? with
    | some b => if b.rows.length = len ∧ b.sz = sz ∧ b.e = e ∧ len + src.length ≤ 4194304 ∧ b.frozen ≤ len then
      some (.own tok (len + src.length), { A with bufs := A.bufs.set tok { b with rows := b.rows ++ src } }) else none
    | none => none
  | _ => none
 else none
def aindex (sz : Nat) (A : AHeap) (i : Int) : AV → Option AV
 | .own tok len => match A.bufs[tok]? with
   | some b => if b.rows.length = len ∧ 0 ≤ i ∧ i.toNat < len ∧ b.sz = sz then some (.eptr tok len i.toNat 0) else none
   | none => none
 | v => match arows A v with
   | some rows => if 0 ≤ i then (match rows[i.toNat]? with
     | some row => if row.length = sz then some (.sptr row) else none
     | none => none) else none
   | none => none
def amax2 : AV → AV → Option AV
 | .d (.int k x), .d (.int _ y) => some (.d (.int k (if y > x then y else x)))
 | _, _ => none
def amin2 : AV → AV → Option AV
 | .d (.int k x), .d (.int _ y) => some (.d (.int k (if y < x then y else x)))
 | _, _ => none
def afold (f : AV → AV → Option AV) : AV → List AV → Option AV
 | x, [] => some x
 | x, y :: ys => (f x y).bind fun z => afold f z ys
def aeqK : Nat → Dat → Dat → Option Bool
 | 0, .bool a, .bool b => some (a == b)
 | 1, .int k a, .int k' b => if k = k' then some (a == b) else none
 | 2, .str a, .str b => some (a == b)
 | _, _, _ => none
def afind (kd : Nat) (k : Dat) : List (Dat × AV) → Option (Option AV)
 | [] => some none
 | (j, v) :: es => (aeqK kd k j).bind fun b => if b then some (some v) else afind kd k es
def aupd (kd : Nat) (k : Dat) (v : AV) : List (Dat × AV) → Option (List (Dat × AV))
 | [] => some [(k, v)]
 | (j, u) :: es => (aeqK kd k j).bind fun b => if b then some ((k, v) :: es) else (aupd kd k v es).map ((j, u) :: ·)
def adel (kd : Nat) (k : Dat) : List (Dat × AV) → Option (List (Dat × AV))
 | [] => some []
 | (j, u) :: es => (aeqK kd k j).bind fun b => if b then some es else (adel kd k es).map ((j, u) :: ·)
def mapT (P : Program) (t : TypeId) : Option (Nat × TypeId) :=
 match P.underlying t with
 | some (.map k e) => (plainT P k).map (·, e)
 | _ => none
def aplain : AV → Bool
 | .d (.bool _) | .d (.int _ _) | .d (.str _) => true
 | _ => false
def aplainV : AV → Bool
 | .agg cs => cs.all aplain
 | v => aplain v
def alookup (P : Program) (t : TypeId) (A : AHeap) (m k : AV) (ok : Bool) : Option AV :=
 match mapT P t, m, k with
 | some (kd, e), .mapr id, .d key => match A.objs[id]? with
   | some (.map es) => (afind kd key es).bind fun r => match r with
     | some v => some (if ok then .tuple [v, .d (.bool true)] else v)
     | none => (zeroT P e).map fun z => if ok then .tuple [z, .d (.bool false)] else z
   | _ => none
 | _, _, _ => none
def amapUpdate (P : Program) (t : TypeId) (A : AHeap) (m k v : AV) : Option AHeap :=
 match mapT P t, m, k with
 | some (kd, _), .mapr id, .d key => match A.objs[id]? with
   | some (.map es) => if aplainV v then (aupd kd key v es).map fun es' => { A with objs := A.objs.set id (.map es') } else none
   | _ => none
 | _, _, _ => none
def adelete (P : Program) (t : TypeId) (A : AHeap) (m k : AV) : Option AHeap :=
 match mapT P t, m, k with
 | some (kd, _), .mapr id, .d key => match A.objs[id]? with
   | some (.map es) => (adel kd key es).map fun es' => { A with objs := A.objs.set id (.map es') }
   | _ => none
 | _, _, _ => none
def strRows (s : List UInt8) : List (List Dat) := s.map fun b => [.int .u8 b.toNat]
def aappStr (P : Program) (A : AHeap) (x y : AV) (su : Bool) (e : Option (TypeId × Nat)) : Option (AV × AHeap) := match y, su, e with
 | .d (.str s), true, some (e, 1) => aappend P e 1 A x (strRows s)
 | _, _, _ => none
def zdats : List AV → Option (List Dat)
 | [] => some []
 | .d x :: l => (zdats l).map (x :: ·)
 | .nilS :: l => (zdats l).map (.slice [] :: ·)
 | _ => none
def acopy (P : Program) (e : TypeId) (sz : Nat) (A : AHeap) (tok len : Nat) (src : List (List Dat)) : Option (AV × AHeap) :=
 match A.bufs[tok]? with
 | some b => if b.rows.length = len ∧ b.frozen = 0 ∧ b.sz = sz ∧ b.e = e ∧ 0 < sz ∧ src.all (fun r => r.length == sz) = true then
   some (.d (.int .i64 (min src.length len : Nat)), { A with bufs := A.bufs.set tok { b with rows := src.take len ++ b.rows.drop src.length } }) else none
 | none => none
def aclear (P : Program) (e : TypeId) (sz : Nat) (A : AHeap) (tok len : Nat) : Option (AV × AHeap) :=
 match A.bufs[tok]?, (zeroT P e).bind fun z => zdats z.cells with
 | some b, some ds => if b.rows.length = len ∧ b.frozen = 0 ∧ b.sz = sz ∧ b.e = e ∧ aroomT P e sz = true ∧ ds.length = sz ∧ 0 < len then
   some (.tuple [], { A with bufs := A.bufs.set tok { b with rows := List.replicate len ds } }) else none
 | _, _ => none
def abuiltin (P : Program) (b : Builtin) (ts : Array TypeId) (args : List AV) (A : AHeap) : Option (AV × AHeap) :=
 match b, args with
 | .len, [x] => match ts[0]? with
   | some t => (alen A (lenT P t) x).map fun (n : Nat) => (.d (.int .i64 (n : Int)), A)
   | none => none
 | .append, [x, y] => match ts.toList with
   | [t, u] => if t = u then (match elemT P t with
     | some e => (arows A y).bind fun src => aappend P e.1 e.2 A x src
     | none => none) else aappStr P A x y (strT P u) (elemT P t)
   | _ => none
 | .copy, [.own tok len, y] => match ts.toList with
   | [t, u] => if t = u then (match elemT P t, arows A y with
     | some e, some src => acopy P e.1 e.2 A tok len src
     | _, _ => none) else none
   | _ => none
 | .clear, [.own tok len] => match ts.toList with
   | [t] => match elemT P t with
     | some e => aclear P e.1 e.2 A tok len
     | none => none
   | _ => none
 | .delete, [m, k] => match ts[0]? with
   | some t => (adelete P t A m k).map fun A' => (.tuple [], A')
   | none => none
 | .max, x :: xs => (afold amax2 x xs).map (·, A)
 | .min, x :: xs => (afold amin2 x xs).map (·, A)
 | _, _ => none
def afill (place : Nat → Option (Nat × Nat)) : List AV → List (Nat × AV) → Option (List AV)
 | cells, [] => some cells
 | cells, (i, v) :: rest => (place i).bind fun p => if v.cells.length = p.2 then (asplice cells p.1 v.cells).bind fun cs => afill place cs rest else none
def aparts (env : AEnv) : List (Nat × Operand) → Option (List (Nat × AV))
 | [] => some []
 | (i, x) :: ps => (aeval env x).bind fun a => (aparts env ps).map ((i, a) :: ·)
def achunk (sz : Nat) : Nat → List Dat → List (List Dat)
 | 0, _ => []
 | n + 1, l => l.take sz :: achunk sz n (l.drop sz)
def AV.plainS : AV → AV
 | .full rows => .d (.slice rows)
 | .nilS => .d (.slice [])
 | v => v
def amake (P : Program) (e : TypeId) (sz : Nat) (A : AHeap) (l c : AV) : Option (AV × AHeap) :=
 match l, c, (zeroT P e).bind fun z => zdats z.cells with
 | .d (.int _ n), .d (.int _ m), some ds => if aroomT P e sz = true ∧ ds.length = sz ∧ 0 ≤ n ∧ n ≤ m ∧ m ≤ 4194304 then
   some (.own A.bufs.length n.toNat, { A with bufs := A.bufs ++ [⟨e, sz, List.replicate n.toNat ds, 0⟩] }) else none
 | _, _, _ => none
def anext (A : AHeap) : AV → Option (AV × AHeap)
 | .ptr id 0 => match A.objs[id]? with
   | some (.iter s pos) => if pos < s.length then
     some (.tuple [.d (.bool true), .d (.int .i64 pos), .d (.int .i32 (Utf8.decode ⟨s.toArray⟩ pos).1)], { A with objs := A.objs.set id (.iter s (pos + (Utf8.decode ⟨s.toArray⟩ pos).2)) })
     else some (.tuple [.d (.bool false)], A)
   | _ => none
 | _ => none
def aval1 (c : ACtx) (call : FuncId → AFun) (env : AEnv) (A : AHeap) : Op → Option (AV × AHeap)
 | .move x | .assign x => (aeval env x).map (·, A)
 | .pick x a b => match aeval env x, aeval env a, aeval env b with
   | some (.d (.bool t)), some va, some vb => some (if t then va else vb, A)
   | _, _, _ => none
 | .build t parts => match zeroT c.P t, fieldsT c.P t, aparts env parts.toList with
   | some z, some fs, some ps => (afill (fun i => fs[i]?) z.cells ps).map fun cs => (.agg cs, A)
   | _, _, _ => none
 | .buildSlice t n parts => match elemT c.P t, aparts env parts.toList with
   | some e, some ps => match zeroT c.P e.1 with
     | some z => if z.cells.length = e.2 ∧ 0 < e.2 ∧ n * e.2 ≤ 16777216 then
       (afill (fun i => some (i * e.2, e.2)) (List.replicate n z.cells).flatten ps).bind fun cs => (adatsT (c.nilT e.1) A cs).map fun r => (.full (achunk e.2 n r.1), r.2) else none
     | none => none
   | _, _ => none
 | .nilCheck x => match aeval env x with
   | some (.ptr id off) => some (.ptr id off, A)
   | some (.sptr cs) => some (.sptr cs, A)
   | some (.eptr a b i o) => some (.eptr a b i o, A)
   | _ => none
 | .binOp op t x y _ => match aeval env x, aeval env y with
   | some a, some b => (abin c.P op t a b).map (·, A)
   | _, _ => none
 | .unOp op _ x => (aeval env x).bind fun a => (aun op a).map (·, A)
 | .convert s t x => (aeval env x).bind fun a => (aconv c.P s t a).map (·, A)
 | .makeFunc fn first captured => match aevals env first.toList, aevals env captured.toList with
   | some a, some b => some (.func fn a b, A)
   | _, _ => none
 | .makeSlice t l k => match elemT c.P t, aeval env l, aeval env k with
   | some e, some a, some b => amake c.P e.1 e.2 A a b
   | _, _, _ => none
 | .makeMap t none => match mapT c.P t with
   | some _ => some (.mapr A.objs.length, { A with objs := A.objs ++ [.map []] })
   | none => none
 | .slice t x lo hi none => match (aeval env x).map AV.plainS, lo.map (aeval env), hi.map (aeval env) with
   | some (.d (.str s)), none, some (some (.d (.int _ h))) => if strT c.P t = true ∧ 0 ≤ h ∧ h ≤ s.length then some (.d (.str (s.take h.toNat)), A) else none
   | some (.d (.str s)), some (some (.d (.int _ l))), none => if strT c.P t = true ∧ 0 ≤ l ∧ l ≤ s.length then some (.d (.str (s.drop l.toNat)), A) else none
   | some (.d (.slice rows)), none, some (some (.d (.int _ h))) => if (elemT c.P t).isSome = true ∧ 0 ≤ h ∧ h ≤ rows.length then some (.d (.slice (rows.take h.toNat)), A) else none
   | some (.d (.slice rows)), some (some (.d (.int _ l))), none => match elemT c.P t with
     | some (_, sz) => if rows.all (fun r => r.length == sz) = true ∧ 0 ≤ l ∧ l ≤ rows.length then some (.d (.slice (rows.drop l.toNat)), A) else none
     | none => none
   | some (.own _ _), none, some (some (.d (.int _ h))) => if (elemT c.P t).isSome = true ∧ h = 0 then some (.d (.slice []), A) else none
   | some (.own tok len), some (some (.d (.int _ l))), none => if (elemT c.P t).isSome = true ∧ l = 0 then some (.own tok len, A) else none
   | some (.d (.str s)), some (some (.d (.int _ l))), some (some (.d (.int _ h))) => if strT c.P t = true ∧ 0 ≤ l ∧ l ≤ h ∧ h ≤ s.length then some (.d (.str ((s.take h.toNat).drop l.toNat)), A) else none
   | _, _, _ => none
 | .field t x i => match aeval env x, fieldT c.P t i with
   | some (.agg cs), some (off, n, agg) => (apart cs off n agg).map (·, A)
   | _, _ => none
 | .index t x i => match aeval env x, aeval env i with
   | some (.d (.str s)), some (.d (.int _ n)) => if strT c.P t = true ∧ 0 ≤ n then (s[n.toNat]?).map fun b => (.d (.int .u8 b.toNat), A) else none
   | some (.agg cs), some (.d (.int _ n)) => match arrT c.P t with
     | some (len, sz, agg) => if 0 ≤ n ∧ n < len then (apart cs (n.toNat * sz) sz agg).map (·, A) else none
     | none => none
   | _, _ => none
 | .lookup t m k ok => match aeval env m, aeval env k with
   | some a, some b => (alookup c.P t A a b ok).map (·, A)
   | _, _ => none
 | .mapUpdate t m k x => match aeval env m, aeval env k, aeval env x with
   | some a, some b, some v => (amapUpdate c.P t A a b v).map (.tuple [], ·)
   | _, _, _ => none
 | .range t x => match aeval env x with
   | some (.d (.str s)) => if strT c.P t = true then some (.ptr A.objs.length 0, { A with objs := A.objs ++ [.iter s 0] }) else none
   | _ => none
 | .next x s => if s = true then (aeval env x).bind (anext A) else none
 | .extract t i => match aeval env t with
   | some (.tuple vs) => (vs[i]?).map (·, A)
   | _ => none
 | .call cl => match cl.callee with
   | .value g => match aeval env g, aevals env cl.args.toList with
     | some (.func (.func f) first captured), some args => call f (first ++ args ++ captured) A
     | _, _ => none
   | .builtin b => (aevals env cl.args.toList).bind fun args => abuiltin c.P b cl.argTypes args A
   | _ => none
 | _ => none
def aplace (env : AEnv) : Operand → Option (Nat × Nat)
 | .tmp t => match alook env t with
   | some (.box _) => some (t, 0)
   | some (.place s off) => some (s, off)
   | _ => none
 | _ => none
def abox (env : AEnv) (s : Nat) : Option (List AV) :=
 match alook env s with
 | some (.box cs) => some cs
 | _ => none
def noPlaceOf (d : Nat) : AEnv → Bool
 | [] => true
 | (_, .place s _) :: l => s != d && noPlaceOf d l
 | _ :: l => noPlaceOf d l
def Slot.isPlace : Slot → Bool
 | .place _ _ => true
 | _ => false
def dropKey (t : Nat) : AEnv → AEnv
 | [] => []
 | (s, x) :: l => if s = t then dropKey t l else (s, x) :: dropKey t l
def noPlaces : AEnv → AEnv
 | [] => []
 | (t, x) :: l => if x.isPlace then dropKey t (noPlaces l) else (t, x) :: noPlaces l
def aslot (c : ACtx) (call : FuncId → AFun) (env : AEnv) (A : AHeap) : Op → Option (Slot × AHeap)
 | .load t x => match kindT c.P t with
   | some (n, agg) => (match aplace env x with
     | some (s, off) => (abox env s).bind fun cs => (apart cs off n agg).map fun v => (.v v, A)
     | none => (aeval env x).bind fun a => (aload A n agg a).map fun v => (.v v, A))
   | none => none
 | .fieldAddr t x i => match fieldT c.P t i with
   | some (off, n, _) => if n = 0 then none else
     match aplace env x with
     | some (s, o') => some (.place s (o' + off), A)
     | none => match aeval env x with
       | some (.ptr id o') => some (.v (.ptr id (o' + off)), A)
       | some (.sptr ds) => some (.v (.sptr (ds.drop off)), A)
       | some (.eptr tok len j o') => some (.v (.eptr tok len j (o' + off)), A)
       | _ => none
   | none => none
 | .indexAddr t x i => match aeval env i with
   | some (.d (.int _ n)) => match arrT c.P t with
     | some (len, sz, _) => (match aplace env x with
       | some (s, o') => if 0 ≤ n ∧ n < len then some (.place s (o' + n.toNat * sz), A) else none
       | none => none)
     | none => match elemT c.P t, aeval env x with
       | some e, some v => (aindex e.2 A n v).map fun p => (.v p, A)
       | _, _ => none
   | _ => none
 | op => (aval1 c call env A op).map fun r => (.v r.1, r.2)
def AV.one : AV → Bool
 | .agg _ | .tuple _ => false
 | _ => true
def aeff (c : ACtx) (call : FuncId → AFun) (f : FuncId) (o : Oper) (env : AEnv) (A : AHeap) : Option (Option (Nat × Slot) × AHeap) :=
 match o.op with
 | .alloc t => match zeroT c.P t, o.dst with
   | some z, some d =>
     (if (c.esc f).contains d then some (some (d, .v (.ptr A.objs.length 0)), { A with objs := A.objs ++ [mkObj c t z.cells] })
     else if noPlaceOf d env then some (some (d, .box z.cells), A) else none)
   | _, _ => none
 | .box t x => match aeval env x, o.dst with
   | some v, some d =>
     (if (c.esc f).contains d then some (some (d, .v (.ptr A.objs.length 0)), { A with objs := A.objs ++ [mkObj c t v.cells] })
     else if noPlaceOf d env then some (some (d, .box v.cells), A) else none)
   | _, _ => none
 | .store t x y => match o.dst with
   | some _ => none
   | none => (aeval env y).bind fun v => if (kindT c.P t).map (·.1) = some v.cells.length ∧ v.cells.all AV.one = true then
     (match aplace env x with
     | some (s, off) => (abox env s).bind fun cs => (asplice cs off v.cells).map fun cs' => (some (s, .box cs'), A)
     | none => (aeval env x).bind fun a => (astore A v.cells a).map fun A' => (none, A')) else none
 | op => (aslot c call env A op).map fun r => (o.dst.map (·, r.1), r.2)
def alay (nt : Nat) (w : Option (Nat × Slot)) (env : AEnv) : Option AEnv :=
 match w with
 | none => some env
 | some (d, s) => if d < nt then some ((d, s) :: env) else none
def aop (c : ACtx) (call : FuncId → AFun) (f : FuncId) (nt : Nat) (o : Oper) (env : AEnv) (A : AHeap) : Option (AEnv × AHeap) :=
 (aeff c call f o env A).bind fun r => (alay nt r.1 env).map (·, r.2)
def aput (nt : Nat) (dst : Option Tmp) (x : Slot) (env : AEnv) : Option AEnv := alay nt (dst.map (·, x)) env
def agt : AV → Bool → Option Bool
 | .d (.bool b), w => some (b == w)
 | .tuple [], _ => some false
 | _, _ => none
def aguard (ops : Array Oper) (env : AEnv) (o : Oper) : Option Bool :=
 match o.guard with
 | none => some true
 | some (j, w) => match (ops[j]?).bind (·.dst) with
   | some t => match alook env t with
     | some (.v x) => agt x w
     | _ => none
   | none => none
def astep (c : ACtx) (call : FuncId → AFun) (f : FuncId) (nt : Nat) (ops : Array Oper) (o : Oper) (env : AEnv) (A : AHeap) : Option (AEnv × AHeap) :=
 (aguard ops env o).bind fun b => if b then aop c call f nt o env A else (aput nt o.dst (.v (.tuple [])) env).map (·, A)
def aops (c : ACtx) (call : FuncId → AFun) (f : FuncId) (nt : Nat) (ops : Array Oper) : List Oper → AEnv → AHeap → Option (AEnv × AHeap)
 | [], env, A => some (env, A)
 | o :: rest, env, A => (astep c call f nt ops o env A).bind fun r => aops c call f nt ops rest r.1 r.2
def AV.ownfree : AV → Bool
 | .own _ _ => false
 | _ => true
def auses (env : AEnv) (f : FuncId) (c : ACtx) (o : Oper) : Bool × Bool :=
 match o.op with
 | .load _ x => match aplace env x, aeval env x with
   | some _, _ => (false, false)
   | none, some (.sptr _) => (false, false)
   | none, some (.ptr _ _) => (true, false)
   | none, some (.eptr _ _ _ _) => (false, true)
   | _, _ => (true, true)
 | .store _ x _ => match aplace env x, aeval env x with
   | some _, _ => (false, false)
   | none, some (.ptr _ _) => (true, false)
   | none, some (.eptr _ _ _ _) => (false, true)
   | _, _ => (true, true)
 | .alloc _ | .box _ _ => match o.dst with
   | some d => ((c.esc f).contains d, false)
   | none => (true, true)
 | .fieldAddr _ _ _ => (false, false)
 | .indexAddr _ x _ => match aeval env x with
   | some (.own _ _) => (false, true)
   | _ => (false, false)
 | .move _ | .assign _ | .pick _ _ _ | .build _ _ | .nilCheck _ | .binOp _ _ _ _ _ | .unOp _ _ _ | .convert _ _ _ | .makeFunc _ _ _ | .slice _ _ _ _ _ | .field _ _ _ | .index _ _ _ | .extract _ _ => (false, false)
 | .buildSlice _ _ parts => match aparts env parts.toList with
   | some ps => (false, !(ps.all fun p => p.2.cells.all AV.ownfree))
   | none => (true, true)
 | .lookup _ _ _ _ | .mapUpdate _ _ _ _ | .makeMap _ _ | .range _ _ | .next _ _ => (true, false)
 | .call cl => match cl.callee with
   | .builtin .len => match aevals env cl.args.toList with
     | some [.mapr _] => (true, false)
     | some _ => (false, false)
     | none => (true, true)
   | .builtin .max | .builtin .min => (false, false)
   | .builtin .append => (false, true)
   | .builtin .delete => (true, false)
   | _ => (true, true)
 | _ => (true, true)
def pstore (env : AEnv) (o : Oper) : Option Nat :=
 match o.op with
 | .store _ x _ => (aplace env x).map (·.1)
 | _ => none
def anames (ops : Array Oper) (o : Oper) : List Tmp := o.looksAt ops ++ o.dst.toList
def atouchL (env : AEnv) : List Nat → List Nat
 | [] => []
 | t :: l => match alook env t with
   | some (.place s _) => t :: s :: atouchL env l
   | _ => t :: atouchL env l
def atouch (ops : Array Oper) (env : AEnv) (o : Oper) : List Nat := atouchL env (anames ops o)
structure AMark where
 i : Nat
 u : Bool × Bool
 px : Option Nat
 tch : List Nat
 co : Prop
 cb : Prop
 ld : Option (Nat × Bool × AV)
 cp : Nat → Bool → AV → Prop
def achg (A' A : AHeap) (n : Nat) (agg : Bool) (p : AV) : Prop := aload A' n agg p ≠ aload A n agg p
def aldOf (env : AEnv) (c : ACtx) (o : Oper) : Option (Nat × Bool × AV) :=
 match o.op with
 | .load t x => match kindT c.P t, aplace env x, aeval env x with
   | some (n, agg), none, some (.ptr id off) => some (n, agg, .ptr id off)
   | _, _, _ => none
 | _ => none
def atrace (c : ACtx) (call : FuncId → AFun) (f : FuncId) (nt : Nat) (ops : Array Oper) : Nat → List Oper → AEnv → AHeap → Option ((AEnv × AHeap) × List AMark)
 | _, [], env, A => some ((env, A), [])
 | i, o :: rest, env, A => (aguard ops env o).bind fun b =>
   if b then (aop c call f nt o env A).bind fun r => (atrace c call f nt ops (i + 1) rest r.1 r.2).map fun s =>
     (s.1, ⟨i, auses env f c o, pstore env o, atouch ops env o, r.2.objs ≠ A.objs, r.2.bufs ≠ A.bufs, aldOf env c o, achg r.2 A⟩ :: s.2)
   else (aput nt o.dst (.v (.tuple [])) env).bind fun env' => (atrace c call f nt ops (i + 1) rest env' A).map fun s =>
     (s.1, ⟨i, (false, false), none, atouch ops env o, False, False, none, fun _ _ _ => False⟩ :: s.2)
def aord (ops : Array Oper) (i j : Nat) : Bool := ((Region.before ops).getD (max i j) 0).testBit (min i j)
def adrawn (ops : Array Oper) (ms : List AMark) : Prop :=
 (∀ m ∈ ms, ∀ m' ∈ ms, m.i ≠ m'.i → ((m.co ∧ m'.u.1 = true ∧ ∀ n agg p, m'.ld = some (n, agg, p) → m.cp n agg p) ∨ (m.cb ∧ m'.u.2 = true)) → aord ops m.i m'.i = true) ∧
 (∀ m ∈ ms, ∀ s, m.px = some s → ∀ m' ∈ ms, m'.i ≠ m.i → s ∈ m'.tch → aord ops m.i m'.i = true)
def Op.lays : Op → Bool
 | .alloc _ | .box _ _ => true
 | _ => false
def ACtx.noesc (c : ACtx) : ACtx := { c with esc := fun _ => [] }
def apromote (esc : List Nat) : List Oper → AEnv → AHeap → AEnv × AHeap
 | [], env, A => (env, A)
 | o :: rest, env, A => match o.dst with
   | none => apromote esc rest env A
   | some d => if Op.lays o.op && esc.contains d then
     (match alook env d with
     | some (.box cs) => apromote esc rest ((d, .v (.ptr A.objs.length 0)) :: env) { A with objs := A.objs ++ [.cells cs] }
     | _ => apromote esc rest env A) else apromote esc rest env A
def swn (m t : Nat) : Nat := if t = m then m + 1 else if t = m + 1 then m else t
mutual
def AV.sw (m : Nat) : AV → AV
 | .own t l => .own (swn m t) l
 | .eptr t l i o => .eptr (swn m t) l i o
 | .func fn a b => .func fn (swL m a) (swL m b)
 | .agg cs => .agg (swL m cs)
 | .tuple vs => .tuple (swL m vs)
 | .d x => .d x
 | .nilS => .nilS
 | .full r => .full r
 | .nilP => .nilP
 | .ptr i o => .ptr i o
 | .sptr ds => .sptr ds
 | .nilF => .nilF
 | .nilI => .nilI
 | .nilM => .nilM
 | .mapr i => .mapr i
def swL (m : Nat) : List AV → List AV
 | [] => []
 | x :: l => x.sw m :: swL m l
end
def AObj.sw (m : Nat) : AObj → AObj
 | .cells cs => .cells (swL m cs)
 | .tcells T cs => .tcells T (swL m cs)
 | .map es => .map (es.map fun e => (e.1, e.2.sw m))
 | .iter s p => .iter s p
def swB (m : Nat) (l : List ABuf) : List ABuf := match l.drop m with
 | x :: y :: r => l.take m ++ y :: x :: r
 | _ => l
def AHeap.sw (m : Nat) (A : AHeap) : AHeap := ⟨A.objs.map (AObj.sw m), swB m A.bufs⟩
def Slot.sw (m : Nat) : Slot → Slot
 | .v x => .v (x.sw m)
 | .box cs => .box (swL m cs)
 | .place s o => .place s o
def aagree (m : Nat) (e : AEnv) (A : AHeap) (e1 : AEnv) (A1 : AHeap) : Prop :=
 (A1 = A ∧ ∀ t x, alook e t = some x → alook e1 t = some x) ∨ (m + 1 < A1.bufs.length ∧ A1.sw m = A ∧ ∀ t x, alook e t = some x → (alook e1 t).map (Slot.sw m) = some x)
def aexp (c : ACtx) (call : FuncId → AFun) (f : FuncId) (nt : Nat) (ops : Array Oper) (q : AEnv → AHeap → Prop) : Nat → Array Bool → AEnv → AHeap → Prop
 | 0, L, env, A => Region.ready .any ops L = [] ∧ q env A
 | n + 1, L, env, A => (Region.ready .any ops L = [] → q env A) ∧ ∀ i ∈ Region.ready .any ops L, ∃ o r, ops[i]? = some o ∧ astep c call f nt ops o env A = some r ∧ aexp c call f nt ops q n (L.setIfInBounds i true) r.1 r.2
open Classical in
noncomputable def aregion (c : ACtx) (call : FuncId → AFun) (f : FuncId) (nt : Nat) (ops : Array Oper) (draw : Bool) (env : AEnv) (A : AHeap) : Option (AEnv × AHeap) :=
 if draw then (atrace c.noesc call f nt ops 0 ops.toList (noPlaces env) A).bind fun r => if adrawn ops r.2 ∨ aexp c.noesc call f nt ops (aagree A.bufs.length r.1.1 r.1.2) ops.size (Array.replicate ops.size false) (noPlaces env) A then some (apromote (c.esc f) ops.toList r.1.1 r.1.2) else none
 else aops c call f nt ops ops.toList env A
def akeep (env : AEnv) : List Nat → AEnv
 | [] => []
 | t :: ts => match alook env t with
   | some x => (t, x) :: akeep env ts
   | none => akeep env ts
def firstRegion : Code → Option Nat
 | .region id _ _ => some id
 | .seq a _ => firstRegion a
 | .block _ b => firstRegion b
 | _ => none
def atrim (c : ACtx) (f : FuncId) (r : Option Nat) (env : AEnv) : AEnv :=
 match r.bind (c.live f) with
 | some ts => akeep env ts
 | none => env
def aloop (body : AEnv → AHeap → ARes) (trim : AEnv → AEnv) : Nat → AEnv → AHeap → ARes
 | 0, _, _ => none
 | n + 1, env, A => (body (trim env) A).bind fun r => match r.1 with
   | .normal => aloop body trim n r.2.1 r.2.2
   | _ => some r
noncomputable def acode (c : ACtx) (call : FuncId → AFun) (f : FuncId) (nt lf : Nat) : Code → AEnv → AHeap → ARes
 | .skip, env, A => some (.normal, env, A)
 | .region id ops draw, env, A => (aregion c call f nt ops draw (atrim c f (some id) env) A).map fun r => (.normal, r.1, r.2)
 | .seq a b, env, A => (acode c call f nt lf a env A).bind fun r => match r.1 with
   | .normal => acode c call f nt lf b r.2.1 r.2.2
   | _ => some r
 | .cond x t e, env, A => match aeval env x with
   | some (.d (.bool b)) => if b then acode c call f nt lf t env A else acode c call f nt lf e env A
   | _ => none
 | .block id b, env, A => (acode c call f nt lf b env A).map fun r => match r.1 with
   | .exit j => if j = id then (.normal, r.2) else r
   | _ => r
 | .loop b, env, A => aloop (acode c call f nt lf b) (atrim c f (firstRegion b)) lf env A
 | .exit id, env, A => some (.exit id, env, A)
 | .ret, env, A => some (.ret, env, A)
 | _, _, _ => none
def aresult (c : ACtx) (env : AEnv) (A : AHeap) : ResultVar → Option AV
 | .tmp t => aeval env (.tmp t)
 | .cell t T => match kindT c.P T with
   | some (n, agg) => (match aplace env (.tmp t) with
     | some (s, off) => (abox env s).bind fun cs => apart cs off n agg
     | none => (aeval env (.tmp t)).bind fun a => aload A n agg a)
   | none => none
def aresultL (c : ACtx) (env : AEnv) (A : AHeap) : List ResultVar → Option (List AV)
 | [] => some []
 | r :: rs => (aresult c env A r).bind fun v => (aresultL c env A rs).map (v :: ·)
def aresults (c : ACtx) (env : AEnv) (A : AHeap) (rs : List ResultVar) : Option AV :=
 (aresultL c env A rs).map fun vs => match vs with
  | [v] => v
  | vs => .tuple vs
def AV.noptr1 : AV → Bool
 | .d _ | .nilS | .full _ | .nilP | .nilF | .nilI | .nilM => true
 | _ => false
def AV.noptr2 : AV → Bool
 | .agg cs => cs.all AV.noptr1
 | v => v.noptr1
def AV.noptr : AV → Bool
 | .tuple vs => vs.all AV.noptr2
 | v => v.noptr2
def AV.under (n m : Nat) : AV → Bool
 | .own t _ => Nat.blt t m
 | .ptr id _ | .mapr id => Nat.blt id n
 | v => v.noptr2
def AObj.under (n m : Nat) : AObj → Bool
 | .cells cs | .tcells _ cs => cs.all (AV.under n m)
 | .map es => es.all fun e => AV.under n m e.2
 | .iter _ _ => true
open Classical in
noncomputable def acut (A0 : AHeap) (v : AV) (A : AHeap) : AV × AHeap :=
 if A.objs.take A0.objs.length = A0.objs then
  if v.noptr then (v, ⟨A0.objs, A.bufs.take A0.bufs.length⟩) else
  match v with
  | .own tok len => if tok < A0.bufs.length then (v, ⟨A0.objs, A.bufs.take A0.bufs.length⟩) else
    match A.bufs[tok]? with
    | some b => (.own A0.bufs.length len, ⟨A0.objs, A.bufs.take A0.bufs.length ++ [b]⟩)
    | none => (v, A)
  | _ => (v, A)
 else (v, A)
open Classical in
noncomputable def acutO (A0 : AHeap) (v : AV) (A : AHeap) : AV × AHeap :=
 if A.objs.take A0.objs.length = A0.objs then acut A0 v A
 else if v.noptr = true ∧ (A.objs.take A0.objs.length).all (AObj.under A0.objs.length A0.bufs.length) = true then (v, ⟨A.objs.take A0.objs.length, A.bufs.take A0.bufs.length⟩) else (v, A)
noncomputable def afinish (c : ACtx) (f : FuncId) (A0 : AHeap) (v : AV) (A : AHeap) : AV × AHeap :=
 if c.own f then acutO A0 v A else let r := acleanR A v; acut A0 r.1 r.2
def Op.addrOf : Op → Option Tmp
 | .fieldAddr _ (.tmp t) _ | .indexAddr _ (.tmp t) _ => some t
 | _ => none
def Op.stores : Op → Bool
 | .store _ _ _ => true
 | _ => false
def adrawStatic (ops : Array Oper) : Bool :=
 let b := Region.before ops
 let l := ops.toList.zipIdx
 (l.all fun (x, i) => x.after.all (fun e => !Region.binds .any e || decide (e.on < i)) && l.all fun (y, j) => i == j ||
  (match x.dst with
  | some d => !(anames ops y).contains d
  | none => true) || (b.getD (max i j) 0).testBit (min i j)) &&
 (l.all fun (x, i) => match Op.addrOf x.op with
  | none => true
  | some t => l.all fun (y, j) => y.dst != some t || (decide (j < i) && !Op.lays y.op))
def acheck : Code → Bool
 | .region _ ops draw => !draw || (adrawStatic ops)
 | .seq a b => acheck a && acheck b
 | .cond _ a b => acheck a && acheck b
 | .block _ b => acheck b
 | .loop b => acheck b
 | _ => true
def fnOk (P : Program) (f : FuncId) : Bool :=
 match P.funcs[f]? with
 | some fn => fn.name != "runtime.NumGoroutine" && (match fn.body with
   | some code => acheck code
   | none => false)
 | none => false
def aenter : Nat → List AV → AEnv
 | _, [] => []
 | i, v :: vs => (i, .v v) :: aenter (i + 1) vs
noncomputable def abody (c : ACtx) (call : FuncId → AFun) (lf : Nat) (f : FuncId) (args : List AV) (A : AHeap) : Option (AV × AHeap) :=
 match c.ext f with
 | some g => g args A
 | none => match c.P.funcs[f]? with
   | none => none
   | some fn => match fn.body with
     | none => none
     | some code => if fnOk c.P f = true ∧ args.length ≤ fn.ntmps then
       let r := if c.own f then (args, A) else acleanVs A args
       (acode c call f fn.ntmps lf code (aenter 0 r.1) r.2).bind fun x => match x.1 with
        | .exit _ => none
        | _ => (aresults c x.2.1 x.2.2 fn.results.toList).map fun v => afinish c f A v x.2.2
       else none
noncomputable def aclF (c : ACtx) : Nat → FuncId → AFun
 | 0 => fun _ _ _ => none
 | n + 1 => abody c (aclF c n) n
end Go.Abs
namespace Go.Abs
def CLe (a b : FuncId → AFun) : Prop := ∀ f args A r, a f args A = some r → b f args A = some r
theorem CLe.refl (a : FuncId → AFun) : CLe a a := fun _ _ _ _ h => h
section mono
variable {c : ACtx} {a b : FuncId → AFun} (h : CLe a b)
include h
theorem aval1_mono {env : AEnv} {A : AHeap} {op : Op} {r} (e : aval1 c a env A op = some r) : aval1 c b env A op = some r := by
 cases op <;> try exact e
 case makeMap t r => cases r <;> exact e
 case slice t x lo hi mx => cases mx <;> exact e
 case call cl =>
  simp only [aval1] at e ⊢
  split
  ·rename_i g hg
   simp only [hg] at e
   split
   ·rename_i f first cap args hf ha
    simp only [hf, ha] at e
    exact h _ _ _ _ e
   ·rename_i hno
    split at e
    ·rename_i f first cap args hf ha
     exact absurd ha (hno f first cap args hf)
    ·cases e
  ·rename_i bb hb
   simp only [hb] at e
   exact e
  ·rename_i hb1 hb2
   split at e
   ·rename_i g hg; exact absurd hg (hb1 g)
   ·rename_i bb hb; exact absurd hb (hb2 bb)
   ·exact e
theorem aslot_mono {env : AEnv} {A : AHeap} {op : Op} {r} (e : aslot c a env A op = some r) : aslot c b env A op = some r := by
 cases op <;> try exact e
 all_goals
  simp only [aslot] at e ⊢
  rw [Option.map_eq_some_iff] at e ⊢
  obtain ⟨s, hs, ht⟩ := e
  exact ⟨s, aval1_mono h hs, ht⟩
theorem aeff_mono {f : Nat} {o : Oper} {env : AEnv} {A : AHeap} {r} (e : aeff c a f o env A = some r) : aeff c b f o env A = some r := by
 obtain ⟨dst, op, type, pos, after, g⟩ := o
 cases op <;> try exact e
 all_goals
  simp only [aeff] at e ⊢
  rw [Option.map_eq_some_iff] at e ⊢
  obtain ⟨s, hs, ht⟩ := e
  exact ⟨s, aslot_mono h hs, ht⟩
theorem aop_mono {f nt : Nat} {o : Oper} {env : AEnv} {A : AHeap} {r} (e : aop c a f nt o env A = some r) : aop c b f nt o env A = some r := by
 unfold aop at e ⊢
 rw [Option.bind_eq_some_iff] at e ⊢
 obtain ⟨s, hs, ht⟩ := e
 exact ⟨s, aeff_mono h hs, ht⟩
theorem astep_mono {f nt : Nat} {ops : Array Oper} {o : Oper} {env : AEnv} {A : AHeap} {r} (e : astep c a f nt ops o env A = some r) : astep c b f nt ops o env A = some r := by
 unfold astep at e ⊢
 rw [Option.bind_eq_some_iff] at e ⊢
 obtain ⟨s, hs, ht⟩ := e
 refine ⟨s, hs, ?_⟩
 cases s
 ·exact ht
 ·exact aop_mono h ht
theorem aops_mono {f nt : Nat} {ops : Array Oper} : ∀ (l : List Oper) {env : AEnv} {A : AHeap} {r}, aops c a f nt ops l env A = some r → aops c b f nt ops l env A = some r
 | [], _, _, _, e => e
 | o :: l, env, A, r, e => by
   simp only [aops] at e ⊢
   rw [Option.bind_eq_some_iff] at e ⊢
   obtain ⟨s, hs, ht⟩ := e
   exact ⟨s, astep_mono h hs, aops_mono l ht⟩
theorem atrace_mono {f nt : Nat} {ops : Array Oper} : ∀ (l : List Oper) {i : Nat} {env : AEnv} {A : AHeap} {r}, atrace c a f nt ops i l env A = some r → atrace c b f nt ops i l env A = some r
 | [], _, _, _, _, e => e
 | o :: l, i, env, A, r, e => by
   simp only [atrace] at e ⊢
   rw [Option.bind_eq_some_iff] at e ⊢
   obtain ⟨s, hs, ht⟩ := e
   refine ⟨s, hs, ?_⟩
   cases s
   ·simp only [Bool.false_eq_true, if_false] at ht ⊢
    rw [Option.bind_eq_some_iff] at ht ⊢
    obtain ⟨u, hu, hv⟩ := ht
    rw [Option.map_eq_some_iff] at hv
    obtain ⟨w, hw, hx⟩ := hv
    exact ⟨u, hu, by rw [Option.map_eq_some_iff]; exact ⟨w, atrace_mono l hw, hx⟩⟩
   ·simp only [if_true] at ht ⊢
    rw [Option.bind_eq_some_iff] at ht ⊢
    obtain ⟨u, hu, hv⟩ := ht
    rw [Option.map_eq_some_iff] at hv
    obtain ⟨w, hw, hx⟩ := hv
    refine ⟨u, aop_mono h hu, ?_⟩
    rw [Option.map_eq_some_iff]
    exact ⟨w, atrace_mono l hw, hx⟩
theorem aexp_mono {f nt : Nat} {ops : Array Oper} {q : AEnv → AHeap → Prop} : ∀ (n : Nat) {L : Array Bool} {env : AEnv} {A : AHeap}, aexp c a f nt ops q n L env A → aexp c b f nt ops q n L env A
 | 0, _, _, _, e => e
 | n + 1, L, env, A, e => ⟨e.1, fun i hi => by
   obtain ⟨o, r, h1, h2, h3⟩ := e.2 i hi
   exact ⟨o, r, h1, astep_mono h h2, aexp_mono n h3⟩⟩
theorem aregion_mono {f nt : Nat} {ops : Array Oper} {draw : Bool} {env : AEnv} {A : AHeap} {r} (e : aregion c a f nt ops draw env A = some r) : aregion c b f nt ops draw env A = some r := by
 unfold aregion at e ⊢
 cases draw
 ·simp only [Bool.false_eq_true, if_false] at e ⊢
  exact aops_mono h _ e
 ·simp only [if_true] at e ⊢
  rw [Option.bind_eq_some_iff] at e ⊢
  obtain ⟨s, hs, ht⟩ := e
  refine ⟨s, atrace_mono h _ hs, ?_⟩
  split at ht
  case isFalse => cases ht
  rename_i hd
  cases ht
  rw [if_pos]
  rcases hd with hd | hd
  ·exact .inl hd
  ·exact .inr (aexp_mono h _ hd)
end mono
theorem aloop_mono {p q : AEnv → AHeap → ARes} {t : AEnv → AEnv} (h : ∀ env A r, p env A = some r → q env A = some r) :
  ∀ {n m : Nat}, n ≤ m → ∀ {env : AEnv} {A : AHeap} {r}, aloop p t n env A = some r → aloop q t m env A = some r
 | 0, _, _, _, _, _, e => by simp [aloop] at e
 | n + 1, 0, hn, _, _, _, _ => by omega
 | n + 1, m + 1, hn, env, A, r, e => by
   simp only [aloop] at e ⊢
   rw [Option.bind_eq_some_iff] at e ⊢
   obtain ⟨s, hs, ht⟩ := e
   refine ⟨s, h _ _ _ hs, ?_⟩
   split
   ·rename_i hx
    simp only [hx] at ht
    exact aloop_mono h (by omega) ht
   ·rename_i hx
    split at ht
    ·rename_i hy; exact absurd hy hx
    ·exact ht
theorem acode_mono {c : ACtx} {a b : FuncId → AFun} (h : CLe a b) {f nt n m : Nat} (hn : n ≤ m) : ∀ (code : Code) {env : AEnv} {A : AHeap} {r},
  acode c a f nt n code env A = some r → acode c b f nt m code env A = some r := by
 intro code
 induction code with
 | region id ops draw =>
   intro env A r e
   simp only [acode] at e ⊢
   rw [Option.map_eq_some_iff] at e ⊢
   obtain ⟨s, hs, ht⟩ := e
   exact ⟨s, aregion_mono h hs, ht⟩
 | seq x y ihx ihy =>
   intro env A r e
   simp only [acode] at e ⊢
   rw [Option.bind_eq_some_iff] at e ⊢
   obtain ⟨s, hs, ht⟩ := e
   refine ⟨s, ihx hs, ?_⟩
   split
   ·rename_i hx
    simp only [hx] at ht
    exact ihy ht
   ·rename_i hx
    split at ht
    ·rename_i hy; exact absurd hy hx
    ·exact ht
 | cond v x y ihx ihy =>
   intro env A r e
   simp only [acode] at e ⊢
   split
   ·rename_i bb hb
    simp only [hb] at e
    cases bb
    ·exact ihy e
    ·exact ihx e
   ·rename_i hno
    split at e
    ·rename_i bb hb; exact absurd hb (hno bb)
    ·exact e
 | block id x ih =>
   intro env A r e
   simp only [acode] at e ⊢
   rw [Option.map_eq_some_iff] at e ⊢
   obtain ⟨s, hs, ht⟩ := e
   exact ⟨s, ih hs, ht⟩
 | loop x ih =>
   intro env A r e
   simp only [acode] at e ⊢
   exact aloop_mono (fun _ _ _ => ih) hn e
 | _ => intro env A r e; first | exact e | (simp [acode] at e; done)
theorem abody_mono {c : ACtx} {a b : FuncId → AFun} (h : CLe a b) {n m : Nat} (hn : n ≤ m) {f args A r} (e : abody c a n f args A = some r) : abody c b m f args A = some r := by
 unfold abody at e ⊢
 split
 ·rename_i g hg; simp only [hg] at e; exact e
 ·rename_i hg
  simp only [hg] at e
  split
  ·rename_i hf; simp only [hf] at e; exact e
  ·rename_i fn hf
   simp only [hf] at e
   split
   ·rename_i hb; simp only [hb] at e; exact e
   ·rename_i code hb
    simp only [hb] at e
    split
    ·rename_i hc
     rw [if_pos hc] at e
     dsimp only at e ⊢
     rw [Option.bind_eq_some_iff] at e ⊢
     obtain ⟨s, hs, ht⟩ := e
     exact ⟨s, acode_mono h hn _ hs, ht⟩
    ·rename_i hc
     rw [if_neg hc] at e
     exact e
theorem aclF_mono {c : ACtx} : ∀ {n m : Nat}, n ≤ m → CLe (aclF c n) (aclF c m)
 | 0, _, _ => fun _ _ _ _ e => by simp [aclF] at e
 | n + 1, 0, h => by omega
 | n + 1, m + 1, h => fun f args A r e => by
   simp only [aclF] at e ⊢
   exact abody_mono (aclF_mono (by omega)) (by omega) e
open Classical in
noncomputable def alim {α : Type} (g : Nat → Option α) : Option α := if h : ∃ r n, g n = some r then some h.choose else none
theorem alim_some {α : Type} {g : Nat → Option α} (hg : ∀ {n m r}, n ≤ m → g n = some r → g m = some r) {r : α} : alim g = some r ↔ ∃ n, g n = some r := by
 unfold alim
 constructor
 ·intro e
  split at e
  ·rename_i h
   cases e
   exact h.choose_spec
  ·cases e
 ·rintro ⟨n, hn⟩
  have hex : ∃ r n, g n = some r := ⟨r, n, hn⟩
  rw [dif_pos hex]
  obtain ⟨m, hm⟩ := hex.choose_spec
  have h1 := hg (Nat.le_max_left n m) hn
  have h2 := hg (Nat.le_max_right n m) hm
  rw [h1] at h2
  exact congrArg some (Option.some.inj h2).symm
noncomputable def acl (c : ACtx) (f : FuncId) : AFun := fun args A => alim fun n => aclF c n f args A
theorem acl_some {c : ACtx} {f args A r} : acl c f args A = some r ↔ ∃ n, aclF c n f args A = some r :=
 alim_some fun h e => aclF_mono h _ _ _ _ e
theorem aclF_le (c : ACtx) (n : Nat) : CLe (aclF c n) (acl c) := fun _ _ _ _ e => acl_some.2 ⟨n, e⟩
noncomputable def ax (c : ACtx) (f nt : Nat) (code : Code) (env : AEnv) (A : AHeap) : ARes := alim fun n => acode c (aclF c n) f nt n code env A
theorem ax_some {c : ACtx} {f nt : Nat} {code : Code} {env A r} : ax c f nt code env A = some r ↔ ∃ n, acode c (aclF c n) f nt n code env A = some r :=
 alim_some fun h e => acode_mono (aclF_mono h) h _ e
section cont
variable {c c0 : ACtx}
theorem aval1_cont {env : AEnv} {A : AHeap} {op : Op} {r} (e : aval1 c0 (acl c) env A op = some r) : ∃ n, aval1 c0 (aclF c n) env A op = some r := by
 cases op <;> try exact ⟨0, e⟩
 case makeMap t r => cases r <;> exact ⟨0, e⟩
 case slice t x lo hi mx => cases mx <;> exact ⟨0, e⟩
 case call cl =>
  simp only [aval1] at e ⊢
  split at e
  ·rename_i g hg
   split at e
   ·rename_i f first cap args hf ha
    exact acl_some.1 e
   ·cases e
  ·exact ⟨0, e⟩
  ·cases e
theorem aslot_cont {env : AEnv} {A : AHeap} {op : Op} {r} (e : aslot c0 (acl c) env A op = some r) : ∃ n, aslot c0 (aclF c n) env A op = some r := by
 cases op <;> try exact ⟨0, e⟩
 all_goals
  simp only [aslot] at e ⊢
  rw [Option.map_eq_some_iff] at e
  obtain ⟨s, hs, ht⟩ := e
  obtain ⟨n, hn⟩ := aval1_cont hs
  exact ⟨n, by rw [Option.map_eq_some_iff]; exact ⟨s, hn, ht⟩⟩
theorem aeff_cont {f : Nat} {o : Oper} {env : AEnv} {A : AHeap} {r} (e : aeff c0 (acl c) f o env A = some r) : ∃ n, aeff c0 (aclF c n) f o env A = some r := by
 obtain ⟨dst, op, type, pos, after, g⟩ := o
 cases op <;> try exact ⟨0, e⟩
 all_goals
  simp only [aeff] at e ⊢
  rw [Option.map_eq_some_iff] at e
  obtain ⟨s, hs, ht⟩ := e
  obtain ⟨n, hn⟩ := aslot_cont hs
  exact ⟨n, by rw [Option.map_eq_some_iff]; exact ⟨s, hn, ht⟩⟩
theorem aop_cont {f nt : Nat} {o : Oper} {env : AEnv} {A : AHeap} {r} (e : aop c0 (acl c) f nt o env A = some r) : ∃ n, aop c0 (aclF c n) f nt o env A = some r := by
 unfold aop at e ⊢
 rw [Option.bind_eq_some_iff] at e
 obtain ⟨s, hs, ht⟩ := e
 obtain ⟨n, hn⟩ := aeff_cont hs
 exact ⟨n, by rw [Option.bind_eq_some_iff]; exact ⟨s, hn, ht⟩⟩
theorem aops_cont {f nt : Nat} {ops : Array Oper} : ∀ (l : List Oper) {env : AEnv} {A : AHeap} {r}, aops c0 (acl c) f nt ops l env A = some r → ∃ n, aops c0 (aclF c n) f nt ops l env A = some r
 | [], _, _, _, e => ⟨0, e⟩
 | o :: l, env, A, r, e => by
   simp only [aops] at e ⊢
   rw [Option.bind_eq_some_iff] at e
   obtain ⟨s, hs, ht⟩ := e
   have h1 : ∃ n, astep c0 (aclF c n) f nt ops o env A = some s := by
    unfold astep at hs ⊢
    rw [Option.bind_eq_some_iff] at hs
    obtain ⟨b, hb, hs⟩ := hs
    cases b
    ·exact ⟨0, by rw [Option.bind_eq_some_iff]; exact ⟨_, hb, hs⟩⟩
    ·obtain ⟨n, hn⟩ := aop_cont hs
     exact ⟨n, by rw [Option.bind_eq_some_iff]; exact ⟨_, hb, hn⟩⟩
   obtain ⟨n, hn⟩ := h1
   obtain ⟨m, hm⟩ := aops_cont l ht
   exact ⟨max n m, by
    rw [Option.bind_eq_some_iff]
    exact ⟨s, astep_mono (aclF_mono (Nat.le_max_left _ _)) hn, aops_mono (aclF_mono (Nat.le_max_right _ _)) _ hm⟩⟩
theorem atrace_cont {f nt : Nat} {ops : Array Oper} : ∀ (l : List Oper) {i : Nat} {env : AEnv} {A : AHeap} {r}, atrace c0 (acl c) f nt ops i l env A = some r → ∃ n, atrace c0 (aclF c n) f nt ops i l env A = some r
 | [], _, _, _, _, e => ⟨0, e⟩
 | o :: l, i, env, A, r, e => by
   simp only [atrace] at e ⊢
   rw [Option.bind_eq_some_iff] at e
   obtain ⟨s, hs, ht⟩ := e
   cases s
   ·simp only [Bool.false_eq_true, if_false] at ht
    rw [Option.bind_eq_some_iff] at ht
    obtain ⟨u, hu, hv⟩ := ht
    rw [Option.map_eq_some_iff] at hv
    obtain ⟨w, hw, hx⟩ := hv
    obtain ⟨n, hn⟩ := atrace_cont l hw
    refine ⟨n, ?_⟩
    rw [Option.bind_eq_some_iff]
    refine ⟨_, hs, ?_⟩
    simp only [Bool.false_eq_true, if_false]
    rw [Option.bind_eq_some_iff]
    refine ⟨_, hu, ?_⟩
    rw [Option.map_eq_some_iff]
    exact ⟨_, hn, hx⟩
   ·simp only [if_true] at ht
    rw [Option.bind_eq_some_iff] at ht
    obtain ⟨u, hu, hv⟩ := ht
    rw [Option.map_eq_some_iff] at hv
    obtain ⟨w, hw, hx⟩ := hv
    obtain ⟨n, hn⟩ := aop_cont hu
    obtain ⟨m, hm⟩ := atrace_cont l hw
    refine ⟨max n m, ?_⟩
    rw [Option.bind_eq_some_iff]
    refine ⟨_, hs, ?_⟩
    simp only [if_true]
    rw [Option.bind_eq_some_iff]
    refine ⟨_, aop_mono (aclF_mono (Nat.le_max_left _ _)) hn, ?_⟩
    rw [Option.map_eq_some_iff]
    exact ⟨_, atrace_mono (aclF_mono (Nat.le_max_right _ _)) _ hm, hx⟩
theorem astep_cont {f nt : Nat} {ops : Array Oper} {o : Oper} {env : AEnv} {A : AHeap} {r} (e : astep c0 (acl c) f nt ops o env A = some r) : ∃ n, astep c0 (aclF c n) f nt ops o env A = some r := by
 unfold astep at e ⊢
 rw [Option.bind_eq_some_iff] at e
 obtain ⟨b, hb, hs⟩ := e
 cases b
 ·exact ⟨0, by rw [Option.bind_eq_some_iff]; exact ⟨_, hb, hs⟩⟩
 ·obtain ⟨n, hn⟩ := aop_cont hs
  exact ⟨n, by rw [Option.bind_eq_some_iff]; exact ⟨_, hb, hn⟩⟩
theorem aexp_cont {f nt : Nat} {ops : Array Oper} {q : AEnv → AHeap → Prop} : ∀ (n : Nat) {L : Array Bool} {env : AEnv} {A : AHeap}, aexp c0 (acl c) f nt ops q n L env A → ∃ k, aexp c0 (aclF c k) f nt ops q n L env A
 | 0, _, _, _, e => ⟨0, e⟩
 | n + 1, L, env, A, e => by
   have all : ∀ l : List Nat, (∀ i ∈ l, i ∈ Region.ready .any ops L) → ∃ k, ∀ i ∈ l, ∃ o r, ops[i]? = some o ∧ astep c0 (aclF c k) f nt ops o env A = some r ∧ aexp c0 (aclF c k) f nt ops q n (L.setIfInBounds i true) r.1 r.2 := by
    intro l
    induction l with
    | nil => exact fun _ => ⟨0, fun i hi => by cases hi⟩
    | cons j l ih =>
      intro hl
      obtain ⟨k, hk⟩ := ih fun i hi => hl i (List.mem_cons_of_mem _ hi)
      obtain ⟨o, r, h1, h2, h3⟩ := e.2 j (hl j List.mem_cons_self)
      obtain ⟨k1, h2⟩ := astep_cont h2
      obtain ⟨k2, h3⟩ := aexp_cont n h3
      refine ⟨max k (max k1 k2), fun i hi => ?_⟩
      rcases List.mem_cons.1 hi with rfl | hi
      ·exact ⟨o, r, h1, astep_mono (aclF_mono (by omega)) h2, aexp_mono (aclF_mono (by omega)) n h3⟩
      ·obtain ⟨o, r, h1, h2, h3⟩ := hk i hi
       exact ⟨o, r, h1, astep_mono (aclF_mono (by omega)) h2, aexp_mono (aclF_mono (by omega)) n h3⟩
   obtain ⟨k, hk⟩ := all _ fun i hi => hi
   exact ⟨k, e.1, hk⟩
theorem aregion_cont {f nt : Nat} {ops : Array Oper} {draw : Bool} {env : AEnv} {A : AHeap} {r} (e : aregion c (acl c) f nt ops draw env A = some r) : ∃ n, aregion c (aclF c n) f nt ops draw env A = some r := by
 unfold aregion at e ⊢
 cases draw
 ·simp only [Bool.false_eq_true, if_false] at e ⊢
  exact aops_cont _ e
 ·simp only [if_true] at e ⊢
  rw [Option.bind_eq_some_iff] at e
  obtain ⟨s, hs, ht⟩ := e
  obtain ⟨n, hn⟩ := atrace_cont _ hs
  split at ht
  case isFalse => cases ht
  rename_i hd
  cases ht
  rcases hd with hd | hd
  ·exact ⟨n, by rw [Option.bind_eq_some_iff]; exact ⟨s, hn, by rw [if_pos (.inl hd)]⟩⟩
  ·obtain ⟨k, hk⟩ := aexp_cont _ hd
   refine ⟨max n k, ?_⟩
   rw [Option.bind_eq_some_iff]
   exact ⟨s, atrace_mono (aclF_mono (Nat.le_max_left _ _)) _ hn, by rw [if_pos (.inr (aexp_mono (aclF_mono (Nat.le_max_right _ _)) _ hk))]⟩
end cont
section eqs
variable {c : ACtx} {f nt : Nat} {env : AEnv} {A : AHeap}
theorem ax_skip : ax c f nt .skip env A = some (.normal, env, A) := ax_some.2 ⟨0, rfl⟩
theorem ax_exit {id : Nat} : ax c f nt (.exit id) env A = some (.exit id, env, A) := ax_some.2 ⟨0, rfl⟩
theorem ax_ret : ax c f nt .ret env A = some (.ret, env, A) := ax_some.2 ⟨0, rfl⟩
theorem ax_region {id : Nat} {ops : Array Oper} {draw : Bool} :
  ax c f nt (.region id ops draw) env A = (aregion c (acl c) f nt ops draw (atrim c f (some id) env) A).map fun r => (.normal, r.1, r.2) := by
 apply Option.ext
 intro r
 rw [ax_some]
 simp only [acode, Option.map_eq_some_iff]
 constructor
 ·rintro ⟨n, s, hs, ht⟩
  exact ⟨s, aregion_mono (aclF_le c n) hs, ht⟩
 ·rintro ⟨s, hs, ht⟩
  obtain ⟨n, hn⟩ := aregion_cont hs
  exact ⟨n, s, hn, ht⟩
theorem ax_seq {x y : Code} : ax c f nt (.seq x y) env A = (ax c f nt x env A).bind fun r => match r.1 with
  | .normal => ax c f nt y r.2.1 r.2.2
  | _ => some r := by
 apply Option.ext
 intro r
 rw [ax_some]
 simp only [acode, Option.bind_eq_some_iff]
 constructor
 ·rintro ⟨n, s, hs, ht⟩
  refine ⟨s, ax_some.2 ⟨n, hs⟩, ?_⟩
  split
  ·rename_i hx; simp only [hx] at ht; exact ax_some.2 ⟨n, ht⟩
  ·rename_i hx
   split at ht
   ·rename_i hy; exact absurd hy hx
   ·exact ht
 ·rintro ⟨s, hs, ht⟩
  obtain ⟨n, hn⟩ := ax_some.1 hs
  split at ht
  ·rename_i hx
   obtain ⟨m, hm⟩ := ax_some.1 ht
   refine ⟨max n m, s, acode_mono (aclF_mono (Nat.le_max_left _ _)) (Nat.le_max_left _ _) _ hn, ?_⟩
   simp only [hx]
   exact acode_mono (aclF_mono (Nat.le_max_right _ _)) (Nat.le_max_right _ _) _ hm
  ·rename_i hx
   refine ⟨n, s, hn, ?_⟩
   split
   ·rename_i hy; exact absurd hy hx
   ·exact ht
theorem ax_cond {v : Operand} {x y : Code} {b : Bool} (hb : aeval env v = some (.d (.bool b))) :
  ax c f nt (.cond v x y) env A = if b = true then ax c f nt x env A else ax c f nt y env A := by
 apply Option.ext
 intro r
 rw [ax_some]
 simp only [acode, hb]
 cases b
 ·simp only [Bool.false_eq_true, if_false]; rw [ax_some]
 ·simp only [if_true]; rw [ax_some]
theorem ax_block {id : Nat} {x : Code} : ax c f nt (.block id x) env A = (ax c f nt x env A).map fun r => match r.1 with
  | .exit j => if j = id then (.normal, r.2) else r
  | _ => r := by
 apply Option.ext
 intro r
 rw [ax_some]
 simp only [acode, Option.map_eq_some_iff]
 constructor
 ·rintro ⟨n, s, hs, ht⟩
  exact ⟨s, ax_some.2 ⟨n, hs⟩, ht⟩
 ·rintro ⟨s, hs, ht⟩
  obtain ⟨n, hn⟩ := ax_some.1 hs
  exact ⟨n, s, hn, ht⟩
theorem ax_loop {x : Code} : ax c f nt (.loop x) env A = (ax c f nt x (atrim c f (firstRegion x) env) A).bind fun r => match r.1 with
  | .normal => ax c f nt (.loop x) r.2.1 r.2.2
  | _ => some r := by
 apply Option.ext
 intro r
 rw [ax_some]
 simp only [Option.bind_eq_some_iff]
 constructor
 ·rintro ⟨n, hn⟩
  simp only [acode] at hn
  cases n with
  | zero => simp [aloop] at hn
  | succ n =>
    simp only [aloop, Option.bind_eq_some_iff] at hn
    obtain ⟨s, hs, ht⟩ := hn
    refine ⟨s, ax_some.2 ⟨n + 1, hs⟩, ?_⟩
    split
    ·rename_i hx
     simp only [hx] at ht
     refine ax_some.2 ⟨n + 1, ?_⟩
     simp only [acode]
     exact aloop_mono (fun _ _ _ e => e) (by omega) ht
    ·rename_i hx
     split at ht
     ·rename_i hy; exact absurd hy hx
     ·exact ht
 ·rintro ⟨s, hs, ht⟩
  obtain ⟨n, hn⟩ := ax_some.1 hs
  split at ht
  ·rename_i hx
   obtain ⟨m, hm⟩ := ax_some.1 ht
   refine ⟨max n m + 1, ?_⟩
   simp only [acode, aloop, Option.bind_eq_some_iff]
   refine ⟨s, acode_mono (aclF_mono (by omega)) (by omega) _ hn, ?_⟩
   simp only [hx]
   simp only [acode] at hm
   exact aloop_mono (fun _ _ _ e => acode_mono (aclF_mono (by omega)) (by omega) _ e) (by omega) hm
  ·rename_i hx
   refine ⟨n + 1, ?_⟩
   simp only [acode, aloop, Option.bind_eq_some_iff]
   refine ⟨s, acode_mono (aclF_mono (by omega)) (by omega) _ hn, ?_⟩
   split
   ·rename_i hy; exact absurd hy hx
   ·exact ht
theorem acl_ext {g : AFun} {args : List AV} (hg : c.ext f = some g) : acl c f args A = g args A := by
 apply Option.ext
 intro r
 rw [acl_some]
 constructor
 ·rintro ⟨n, hn⟩
  cases n with
  | zero => simp [aclF] at hn
  | succ n => simpa [aclF, abody, hg] using hn
 ·intro e
  exact ⟨1, by simpa [aclF, abody, hg] using e⟩
theorem acl_eq {fn : Func} {code : Code} {args : List AV} (hg : c.ext f = none) (hf : c.P.funcs[f]? = some fn) (hb : fn.body = some code) (hk : fnOk c.P f = true) (hn : args.length ≤ fn.ntmps) :
  acl c f args A = (ax c f fn.ntmps code (aenter 0 (if c.own f then (args, A) else acleanVs A args).1) (if c.own f then (args, A) else acleanVs A args).2).bind fun x => match x.1 with
   | .exit _ => none
   | _ => (aresults c x.2.1 x.2.2 fn.results.toList).map fun v => afinish c f A v x.2.2 := by
 apply Option.ext
 intro r
 rw [acl_some]
 simp only [Option.bind_eq_some_iff]
 constructor
 ·rintro ⟨n, e⟩
  cases n with
  | zero => simp [aclF] at e
  | succ n =>
    simp only [aclF, abody, hg, hf, hb, hk, hn, and_self, if_true, Option.bind_eq_some_iff] at e
    obtain ⟨s, hs, ht⟩ := e
    exact ⟨s, ax_some.2 ⟨n, hs⟩, ht⟩
 ·rintro ⟨s, hs, ht⟩
  obtain ⟨n, hn'⟩ := ax_some.1 hs
  refine ⟨n + 1, ?_⟩
  simp only [aclF, abody, hg, hf, hb, hk, hn, and_self, if_true, Option.bind_eq_some_iff]
  exact ⟨s, hn', ht⟩
end eqs
end Go.Abs
namespace Go.Abs
inductive Owner where
 | obj (id : Nat)
 | buf (tok : Nat)
structure Gh where
 S : Nat → Nat → Prop
 ob : Nat → Nat
 bf : Nat → Value
 own : Nat → Option Owner
inductive RelD (W : World) (S : Nat → Nat → Prop) : Dat → Value → Prop where
 | bool (b : Bool) : RelD W S (.bool b) (.bool b)
 | int (k : IntKind) (n : Int) : RelD W S (.int k n) (.int k n)
 | str (s : ByteArray) : RelD W S (.str s.data.toList) (.string s)
 | nil : RelD W S .nil (.slice none 0 0)
 | empty (a : Option Addr) (cap : Nat) : RelD W S (.slice []) (.slice a 0 cap)
 | slice (rows : List (List Dat)) (b o cap sz : Nat) (val : Nat → Nat → Value) (hcap : rows.length ≤ cap)
   (hlen : ∀ (i : Nat) (row : List Dat), rows[i]? = some row → row.length = sz)
   (hcell : ∀ (i j : Nat) (row : List Dat) (c : Dat), rows[i]? = some row → row[j]? = some c → S b (o + i * sz + j) ∧ W.cell? ⟨b, o + i * sz + j, none⟩ = some (val i j))
   (hval : ∀ (i j : Nat) (row : List Dat) (c : Dat), rows[i]? = some row → row[j]? = some c → RelD W S c (val i j)) :
   RelD W S (.slice rows) (.slice (some ⟨b, o, none⟩) rows.length cap)
theorem RelD.mono {W W' : World} {S S' : Nat → Nat → Prop} (h : ∀ b o, S b o → S' b o ∧ W'.cell? ⟨b, o, none⟩ = W.cell? ⟨b, o, none⟩) {d : Dat} {v : Value} (r : RelD W S d v) : RelD W' S' d v := by
 induction r with
 | bool b => exact .bool b
 | int k n => exact .int k n
 | str s => exact .str s
 | nil => exact .nil
 | empty a cap => exact .empty a cap
 | slice rows b o cap sz val hcap hlen hcell hval ih =>
   exact .slice rows b o cap sz val hcap hlen (fun i j row c h1 h2 => by
    obtain ⟨hs, hc⟩ := hcell i j row c h1 h2
    exact ⟨(h _ _ hs).1, (h _ _ hs).2.trans hc⟩) ih
inductive RelV (W : World) (g : Gh) (A : AHeap) : AV → Value → Prop where
 | d (x : Dat) (v : Value) (h : RelD W g.S x v) : RelV W g A (.d x) v
 | nilS : RelV W g A .nilS (.slice none 0 0)
 | full (rows : List (List Dat)) (a : Addr) (h : RelD W g.S (.slice rows) (.slice (some a) rows.length rows.length)) : RelV W g A (.full rows) (.slice (some a) rows.length rows.length)
 | own (tok len : Nat) (a : Option Addr) (cap : Nat) (ht : tok < A.bufs.length)
   (h : ∀ b, A.bufs[tok]? = some b → len ≤ b.rows.length ∧ (b.rows.length = len → Value.slice a len cap = g.bf tok)) : RelV W g A (.own tok len) (.slice a len cap)
 | nilP : RelV W g A .nilP (.pointer none)
 | ptr (id off : Nat) (h : id < A.objs.length) : RelV W g A (.ptr id off) (.pointer (some ⟨g.ob id, off, none⟩))
 | sptr (ds : List Dat) (b o : Nat) (val : Nat → Value)
   (hcell : ∀ (j : Nat) (c : Dat), ds[j]? = some c → g.S b (o + j) ∧ W.cell? ⟨b, o + j, none⟩ = some (val j))
   (hval : ∀ (j : Nat) (c : Dat), ds[j]? = some c → RelD W g.S c (val j)) : RelV W g A (.sptr ds) (.pointer (some ⟨b, o, none⟩))
 | eptr (tok len i off : Nat) (p : Addr) (ht : tok < A.bufs.length)
   (h : ∀ b, A.bufs[tok]? = some b → len ≤ b.rows.length ∧ (b.rows.length = len → ∃ blk cap, g.bf tok = .slice (some ⟨blk, 0, none⟩) len cap ∧ p = ⟨blk, i * b.sz + off, none⟩)) :
   RelV W g A (.eptr tok len i off) (.pointer (some p))
 | nilF : RelV W g A .nilF .nilFunc
 | nilI : RelV W g A .nilI .nilIface
 | nilM : RelV W g A .nilM (.map none)
 | func (fn : Fn) (first captured : List AV) (vs us : List Value) (h1 : first.length = vs.length) (h2 : captured.length = us.length)
   (r1 : ∀ (i : Nat) (x : AV) (v : Value), first[i]? = some x → vs[i]? = some v → RelV W g A x v)
   (r2 : ∀ (i : Nat) (x : AV) (v : Value), captured[i]? = some x → us[i]? = some v → RelV W g A x v) : RelV W g A (.func fn first captured) (.func fn vs.toArray us.toArray)
 | mapr (id : Nat) (h : id < A.objs.length) : RelV W g A (.mapr id) (.map (some (g.ob id)))
 | agg (cs : List AV) (vs : List Value) (h : cs.length = vs.length)
   (r : ∀ (i : Nat) (x : AV) (v : Value), cs[i]? = some x → vs[i]? = some v → RelV W g A x v) : RelV W g A (.agg cs) (.agg vs.toArray)
 | tuple (cs : List AV) (vs : List Value) (h : cs.length = vs.length)
   (r : ∀ (i : Nat) (x : AV) (v : Value), cs[i]? = some x → vs[i]? = some v → RelV W g A x v) : RelV W g A (.tuple cs) (.tuple vs.toArray)
def RelL (W : World) (g : Gh) (A : AHeap) (cs : List AV) (vs : List Value) : Prop :=
 cs.length = vs.length ∧ ∀ (i : Nat) (x : AV) (v : Value), cs[i]? = some x → vs[i]? = some v → RelV W g A x v
structure Rest (W W' : World) : Prop where
 os : W'.os = W.os
 out : W'.output = W.output
theorem Rest.refl (W : World) : Rest W W := ⟨rfl, rfl⟩
theorem Rest.trans {W W' W'' : World} (h : Rest W W') (h' : Rest W' W'') : Rest W W'' := ⟨h'.os.trans h.os, h'.out.trans h.out⟩
structure EvV (W : World) (g : Gh) (A : AHeap) (W' : World) (g' : Gh) (A' : AHeap) : Prop where
 size : W.heap.size ≤ W'.heap.size
 stab : ∀ b o, g.S b o → g'.S b o ∧ W'.cell? ⟨b, o, none⟩ = W.cell? ⟨b, o, none⟩
 ob : ∀ id, id < A.objs.length → g'.ob id = g.ob id
 objs : A.objs.length ≤ A'.objs.length
 bufs : ∀ (tok : Nat) (b : ABuf), A.bufs[tok]? = some b → ∃ b', A'.bufs[tok]? = some b' ∧ b'.sz = b.sz ∧ b.rows.length ≤ b'.rows.length ∧ (b'.rows.length = b.rows.length → g'.bf tok = g.bf tok)
 rest : Rest W W'
structure Ev (W : World) (g : Gh) (A : AHeap) (W' : World) (g' : Gh) (A' : AHeap) : Prop extends EvV W g A W' g' A' where
 free : ∀ b, b < W.heap.size → g.own b = none → W'.heap[b]? = W.heap[b]? ∧ g'.own b = none ∧ ∀ o, g'.S b o → g.S b o
theorem EvV.refl (W : World) (g : Gh) (A : AHeap) : EvV W g A W g A :=
 ⟨Nat.le_refl _, fun _ _ h => ⟨h, rfl⟩, fun _ _ => rfl, Nat.le_refl _, fun _ b h => ⟨b, h, rfl, Nat.le_refl _, fun _ => rfl⟩, .refl W⟩
theorem Ev.refl (W : World) (g : Gh) (A : AHeap) : Ev W g A W g A :=
 ⟨.refl W g A, fun _ _ h => ⟨rfl, h, fun _ x => x⟩⟩
theorem EvV.trans {W W' W'' : World} {g g' g'' : Gh} {A A' A'' : AHeap} (h : EvV W g A W' g' A') (h' : EvV W' g' A' W'' g'' A'') : EvV W g A W'' g'' A'' where
 size := Nat.le_trans h.size h'.size
 stab b o hs := by
  obtain ⟨e1, e2⟩ := h.stab b o hs
  obtain ⟨f1, f2⟩ := h'.stab b o e1
  exact ⟨f1, f2.trans e2⟩
 ob id hi := (h'.ob id (Nat.lt_of_lt_of_le hi h.objs)).trans (h.ob id hi)
 objs := Nat.le_trans h.objs h'.objs
 bufs tok b hb := by
  obtain ⟨b1, e1, e2, e3, e4⟩ := h.bufs tok b hb
  obtain ⟨b2, f1, f2, f3, f4⟩ := h'.bufs tok b1 e1
  refine ⟨b2, f1, f2.trans e2, Nat.le_trans e3 f3, fun he => ?_⟩
  rw [f4 (by omega), e4 (by omega)]
 rest := h.rest.trans h'.rest
theorem Ev.trans {W W' W'' : World} {g g' g'' : Gh} {A A' A'' : AHeap} (h : Ev W g A W' g' A') (h' : Ev W' g' A' W'' g'' A'') : Ev W g A W'' g'' A'' where
 toEvV := h.toEvV.trans h'.toEvV
 free b hb ho := by
  obtain ⟨e1, e2, e3⟩ := h.free b hb ho
  obtain ⟨f1, f2, f3⟩ := h'.free b (Nat.lt_of_lt_of_le hb h.size) e2
  exact ⟨f1.trans e1, f2, fun o x => e3 o (f3 o x)⟩
theorem EvV.relD {W W' : World} {g g' : Gh} {A A' : AHeap} (h : EvV W g A W' g' A') {d : Dat} {v : Value} (r : RelD W g.S d v) : RelD W' g'.S d v := r.mono h.stab
theorem lt_of_get {α : Type} {l : List α} {i : Nat} {x : α} (h : l[i]? = some x) : i < l.length := by
 rcases Nat.lt_or_ge i l.length with h' | h'
 ·exact h'
 ·rw [List.getElem?_eq_none h'] at h; cases h
theorem EvV.lenBufs {W W' : World} {g g' : Gh} {A A' : AHeap} (h : EvV W g A W' g' A') {tok : Nat} (ht : tok < A.bufs.length) : tok < A'.bufs.length := by
 obtain ⟨b, hb⟩ : ∃ b, A.bufs[tok]? = some b := ⟨_, List.getElem?_eq_getElem ht⟩
 obtain ⟨b', hb', _⟩ := h.bufs tok b hb
 exact lt_of_get hb'
theorem EvV.relV {W W' : World} {g g' : Gh} {A A' : AHeap} (h : EvV W g A W' g' A') {x : AV} {v : Value} (r : RelV W g A x v) : RelV W' g' A' x v := by
 induction r with
 | d x v hx => exact .d x v (h.relD hx)
 | nilS => exact .nilS
 | full rows a hx => exact .full rows a (h.relD hx)
 | own tok len a cap ht hx =>
   refine .own tok len a cap (h.lenBufs ht) fun b' hb' => ?_
   obtain ⟨b, hb⟩ : ∃ b, A.bufs[tok]? = some b := ⟨_, List.getElem?_eq_getElem ht⟩
   obtain ⟨b'', hb'', _, hl, hbf⟩ := h.bufs tok b hb
   rw [hb'] at hb''
   cases hb''
   obtain ⟨h1, h2⟩ := hx b hb
   exact ⟨by omega, fun he => by rw [hbf (by omega)]; exact h2 (by omega)⟩
 | nilP => exact .nilP
 | ptr id off hi =>
   have := RelV.ptr (W := W') (g := g') (A := A') id off (Nat.lt_of_lt_of_le hi h.objs)
   rwa [h.ob id hi] at this
 | sptr ds b o val hcell hval =>
   refine .sptr ds b o val (fun j c hj => ?_) (fun j c hj => h.relD (hval j c hj))
   obtain ⟨h1, h2⟩ := hcell j c hj
   exact ⟨(h.stab _ _ h1).1, (h.stab _ _ h1).2.trans h2⟩
 | eptr tok len i off v ht hx =>
   refine .eptr tok len i off v (h.lenBufs ht) fun b' hb' => ?_
   obtain ⟨b, hb⟩ : ∃ b, A.bufs[tok]? = some b := ⟨_, List.getElem?_eq_getElem ht⟩
   obtain ⟨b'', hb'', hsz, hl, hbf⟩ := h.bufs tok b hb
   rw [hb'] at hb''
   cases hb''
   obtain ⟨h1, h2⟩ := hx b hb
   refine ⟨by omega, fun he => ?_⟩
   obtain ⟨blk, cap, e1, e2⟩ := h2 (by omega)
   exact ⟨blk, cap, (hbf (by omega)).trans e1, by rw [hsz]; exact e2⟩
 | nilF => exact .nilF
 | nilI => exact .nilI
 | nilM => exact .nilM
 | func fn first captured vs us h1 h2 r1 r2 ih1 ih2 => exact .func fn first captured vs us h1 h2 ih1 ih2
 | mapr id hi =>
   have := RelV.mapr (W := W') (g := g') (A := A') id (Nat.lt_of_lt_of_le hi h.objs)
   rwa [h.ob id hi] at this
 | agg cs vs hl r ih => exact .agg cs vs hl ih
 | tuple cs vs hl r ih => exact .tuple cs vs hl ih
theorem EvV.relL {W W' : World} {g g' : Gh} {A A' : AHeap} (h : EvV W g A W' g' A') {cs : List AV} {vs : List Value} (r : RelL W g A cs vs) : RelL W' g' A' cs vs :=
 ⟨r.1, fun i x v h1 h2 => h.relV (r.2 i x v h1 h2)⟩
def ObjAt (W : World) (g : Gh) (A : AHeap) (blk : Nat) : AObj → Prop
 | .cells cs => ∃ vs T, W.heap[blk]? = some (.cells vs T (0, 0)) ∧ RelL W g A cs vs.toList
 | .tcells T cs => ∃ vs, W.heap[blk]? = some (.cells vs T (0, 0)) ∧ RelL W g A cs vs.toList
 | .map es => ∃ mes clock, W.heap[blk]? = some (.map mes clock) ∧ mes.size = es.length ∧
   ∀ (i : Nat) (k : Dat) (x : AV) (m : MapEntry), es[i]? = some (k, x) → mes[i]? = some m → RelD W g.S k m.key ∧ RelV W g A x m.val
 | .iter s pos => W.heap[blk]? = some (.stringIter ⟨s.toArray⟩ pos)
def BufL (W : World) (g : Gh) (tok : Nat) (b : ABuf) : Prop :=
 ∃ blk cap vs, g.bf tok = .slice (some ⟨blk, 0, none⟩) b.rows.length cap ∧ g.own blk = some (.buf tok) ∧ W.heap[blk]? = some (.cells vs b.e (0, 0)) ∧
   vs.size = cap * b.sz ∧ b.rows.length ≤ cap ∧ cap ≤ maxLen ∧ b.frozen ≤ b.rows.length ∧
   (∀ (i : Nat) (row : List Dat), b.rows[i]? = some row → row.length = b.sz) ∧
   (∀ (i j : Nat) (row : List Dat) (c : Dat), b.rows[i]? = some row → row[j]? = some c → ∃ v, vs[i * b.sz + j]? = some v ∧ RelD W g.S c v) ∧
   (∀ k, g.S blk k → k < b.frozen * b.sz)
structure BufAt (W : World) (g : Gh) (tok : Nat) (b : ABuf) : Prop where
 ex' : (b.frozen ≤ b.rows.length ∧ BufL W g tok b) ∨ (b.rows.length < b.frozen ∧ ∃ blk cap, g.bf tok = .slice (some ⟨blk, 0, none⟩) b.rows.length cap ∧ g.own blk = some (.buf tok))
theorem BufAt.ex {W : World} {g : Gh} {tok : Nat} {b : ABuf} (h : BufAt W g tok b) (hf : b.frozen ≤ b.rows.length) : BufL W g tok b := by
 rcases h.ex' with h | h
 ·exact h.2
 ·omega
theorem BufAt.of {W : World} {g : Gh} {tok : Nat} {b : ABuf} (h : BufL W g tok b) : BufAt W g tok b := by
 have h' := h
 obtain ⟨blk, cap, vs, h1, h2, h3, h4, h5, h6, h7, _⟩ := h'
 exact ⟨.inl ⟨h7, h⟩⟩
theorem BufAt.bf {W : World} {g : Gh} {tok : Nat} {b : ABuf} (h : BufAt W g tok b) : ∃ blk cap, g.bf tok = .slice (some ⟨blk, 0, none⟩) b.rows.length cap ∧ g.own blk = some (.buf tok) := by
 rcases h.ex' with ⟨_, blk, cap, vs, h1, h2, _⟩ | ⟨_, h⟩
 ·exact ⟨blk, cap, h1, h2⟩
 ·exact h
structure WRel (W : World) (g : Gh) (A : AHeap) : Prop where
 obj : ∀ (id : Nat) (o : AObj), A.objs[id]? = some o → g.own (g.ob id) = some (.obj id) ∧ ObjAt W g A (g.ob id) o
 buf : ∀ (tok : Nat) (b : ABuf), A.bufs[tok]? = some b → BufAt W g tok b
 lt : ∀ blk o, g.own blk = some o → blk < W.heap.size
 stab : ∀ b o, g.S b o → b < W.heap.size
 sobj : ∀ blk id o, g.own blk = some (.obj id) → ¬ g.S blk o
inductive SlotRel (W : World) (g : Gh) (A : AHeap) (β : Nat → Nat) (a : Act) (t : Nat) : Slot → Prop where
 | v (x : AV) (u : Value) (h : a.tmps[t]? = some u) (r : RelV W g A x u) : SlotRel W g A β a t (.v x)
 | box (cs : List AV) (h : a.tmps[t]? = some (.pointer (some ⟨β t, 0, none⟩))) (vs : Array Value) (T : TypeId) (hw : W.heap[β t]? = some (.cells vs T (0, 0))) (r : RelL W g A cs vs.toList)
   (ho : g.own (β t) = none) (hs : ∀ o, ¬ g.S (β t) o) : SlotRel W g A β a t (.box cs)
 | place (s off : Nat) (h : a.tmps[t]? = some (.pointer (some ⟨β s, off, none⟩))) : SlotRel W g A β a t (.place s off)
structure ERel (W : World) (g : Gh) (A : AHeap) (N nt : Nat) (β : Nat → Nat) (env : AEnv) (a : Act) : Prop where
 size : a.tmps.size = nt
 slot : ∀ (t : Nat) (s : Slot), alook env t = some s → SlotRel W g A β a t s
 inj : ∀ (s t : Nat) (cs ds : List AV), alook env s = some (.box cs) → alook env t = some (.box ds) → β s = β t → s = t
 young : ∀ (t : Nat) (cs : List AV), alook env t = some (.box cs) → N ≤ β t
theorem lt_heap {W : World} {b : Nat} {o : Obj} (h : W.heap[b]? = some o) : b < W.heap.size := by
 rcases Nat.lt_or_ge b W.heap.size with h' | h'
 ·exact h'
 ·rw [Array.getElem?_eq_none h'] at h; cases h
theorem ERel.ev {W W' : World} {g g' : Gh} {A A' : AHeap} {N nt : Nat} {β : Nat → Nat} {env : AEnv} {a : Act} (h : ERel W g A N nt β env a) (e : Ev W g A W' g' A') : ERel W' g' A' N nt β env a where
 size := h.size
 slot t s hs := by
  cases h.slot t s hs with
  | v x u h1 r => exact .v x u h1 (e.relV r)
  | box cs h1 vs T hw r ho hS =>
    obtain ⟨e1, e2, e3⟩ := e.free _ (lt_heap hw) ho
    exact .box cs h1 vs T (e1.trans hw) (e.relL r) e2 (fun o x => hS o (e3 o x))
  | place s off h1 => exact .place s off h1
 inj := h.inj
 young := h.young
theorem alook_cons_eq (env : AEnv) (d t : Nat) (s : Slot) : alook ((d, s) :: env) t = if d = t then some s else alook env t := rfl
theorem ERel.put {W : World} {g : Gh} {A : AHeap} {N nt : Nat} {β : Nat → Nat} {env : AEnv} {a : Act} (h : ERel W g A N nt β env a) {d : Nat} {s : Slot} {u : Value}
  (hs : SlotRel W g A β { a with tmps := a.tmps.setIfInBounds d u } d s) (hb : ∀ cs, s ≠ .box cs) : ERel W g A N nt β ((d, s) :: env) { a with tmps := a.tmps.setIfInBounds d u } where
 size := by simpa using h.size
 slot t s' hs' := by
  rw [alook_cons_eq] at hs'
  split at hs'
  ·rename_i he; subst he; cases hs'; exact hs
  ·rename_i he
   cases h.slot t s' hs' with
   | v x u' h1 r => exact .v x u' (by rw [Array.getElem?_setIfInBounds_ne he]; exact h1) r
   | box cs h1 vs T hw r ho hS => exact .box cs (by rw [Array.getElem?_setIfInBounds_ne he]; exact h1) vs T hw r ho hS
   | place q off h1 => exact .place q off (by rw [Array.getElem?_setIfInBounds_ne he]; exact h1)
 inj x y cs ds hx hy he := by
  rw [alook_cons_eq] at hx hy
  split at hx
  ·cases hx; exact absurd rfl (hb cs)
  ·split at hy
   ·cases hy; exact absurd rfl (hb ds)
   ·exact h.inj x y cs ds hx hy he
 young t cs ht := by
  rw [alook_cons_eq] at ht
  split at ht
  ·cases ht; exact absurd rfl (hb cs)
  ·exact h.young t cs ht
section
variable {P : Program} {W : World} {g : Gh} {A : AHeap} {N nt : Nat} {β : Nat → Nat} {env : AEnv} {a : Act}
theorem vcell_rel {v : Value} {x : AV} (h : vcell v = some x) : RelV W g A x v := by
 unfold vcell at h
 split at h <;> cases h
 ·exact .d _ _ (.bool _)
 ·exact .d _ _ (.int _ _)
 ·exact .d _ _ (.str _)
 ·exact .nilS
 ·exact .nilP
 ·exact .nilF
 ·exact .nilI
 ·exact .nilM
theorem vcells_rel : ∀ {vs : List Value} {xs : List AV}, vcells vs = some xs → RelL W g A xs vs
 | [], _, h => by cases h; exact ⟨rfl, fun i x v h1 => by simp at h1⟩
 | v :: vs, xs, h => by
   simp only [vcells, Option.bind_eq_some_iff, Option.map_eq_some_iff] at h
   obtain ⟨x, hx, ys, hy, rfl⟩ := h
   have ih : RelL W g A ys vs := vcells_rel hy
   refine ⟨by simp [ih.1], fun i z u h1 h2 => ?_⟩
   cases i with
   | zero => simp at h1 h2; subst h1; subst h2; exact vcell_rel hx
   | succ i => simp at h1 h2; exact ih.2 i z u h1 h2
theorem RelL.agg {cs : List AV} {vs : List Value} (h : RelL W g A cs vs) : RelV W g A (.agg cs) (.agg vs.toArray) := .agg cs vs h.1 h.2
theorem RelL.aggA {cs : List AV} {vs : Array Value} (h : RelL W g A cs vs.toList) : RelV W g A (.agg cs) (.agg vs) := by
 have := h.agg; simpa using this
theorem aval_rel {v : Value} {x : AV} (h : aval v = some x) : RelV W g A x v := by
 unfold aval at h
 split at h
 ·rename_i cs
  rw [Option.map_eq_some_iff] at h
  obtain ⟨xs, hx, rfl⟩ := h
  exact (vcells_rel hx).aggA
 ·rename_i fn first captured
  split at h
  ·rename_i h1
   cases h
   obtain rfl : first = #[] := Array.eq_empty_of_size_eq_zero h1.1
   obtain rfl : captured = #[] := Array.eq_empty_of_size_eq_zero h1.2
   exact .func _ [] [] [] [] rfl rfl (fun i x v h1 => by simp at h1) (fun i x v h1 => by simp at h1)
  ·cases h
 ·rename_i vs
  split at h
  ·rename_i h1
   cases h
   obtain rfl : vs = #[] := Array.eq_empty_of_size_eq_zero h1
   exact .tuple [] [] rfl (fun i x v h1 => by simp at h1)
  ·cases h
 ·exact vcell_rel h
theorem aeval_rel (he : ERel W g A N nt β env a) {x : Operand} {v : AV} (h : aeval env x = some v) : RelV W g A v (a.eval x) := by
 cases x with
 | tmp t =>
   simp only [aeval] at h
   split at h
   ·rename_i y hy
    cases h
    cases he.slot t _ hy with
    | v _ u hu r => simpa [Act.eval, Array.getD_eq_getD_getElem?, hu] using r
   ·cases h
 | const c => exact aval_rel h
 | func f => cases h; exact .func _ [] [] [] [] rfl rfl (fun i x v h1 => by simp at h1) (fun i x v h1 => by simp at h1)
 | global i => cases h
theorem aevals_rel (he : ERel W g A N nt β env a) : ∀ {xs : List Operand} {vs : List AV}, aevals env xs = some vs → RelL W g A vs (xs.map a.eval)
 | [], _, h => by cases h; exact ⟨rfl, fun i x v h1 => by simp at h1⟩
 | x :: xs, vs, h => by
   simp only [aevals, Option.bind_eq_some_iff, Option.map_eq_some_iff] at h
   obtain ⟨y, hy, ys, hys, rfl⟩ := h
   have ih := aevals_rel he hys
   refine ⟨by simp [ih.1], fun i z u h1 h2 => ?_⟩
   cases i with
   | zero => simp at h1 h2; subst h1; subst h2; exact aeval_rel he hy
   | succ i =>
     simp only [List.map_cons, List.getElem?_cons_succ] at h1 h2
     exact ih.2 i z u h1 h2
theorem aplace_rel (he : ERel W g A N nt β env a) {x : Operand} {s off : Nat} (h : aplace env x = some (s, off)) : a.eval x = .pointer (some ⟨β s, off, none⟩) := by
 cases x with
 | tmp t =>
   simp only [aplace] at h
   split at h
   ·rename_i cs hc
    cases h
    cases he.slot _ _ hc with
    | box _ hu vs T hw r ho hs => simp [Act.eval, Array.getD_eq_getD_getElem?, hu]
   ·rename_i s' off' hp
    cases h
    cases he.slot _ _ hp with
    | place _ _ hu => simp [Act.eval, Array.getD_eq_getD_getElem?, hu]
   ·cases h
 | _ => simp [aplace] at h
theorem abox_rel (he : ERel W g A N nt β env a) {s : Nat} {cs : List AV} (h : abox env s = some cs) :
  ∃ vs T, W.heap[β s]? = some (.cells vs T (0, 0)) ∧ RelL W g A cs vs.toList ∧ g.own (β s) = none ∧ (∀ o, ¬ g.S (β s) o) ∧ N ≤ β s ∧ alook env s = some (.box cs) := by
 unfold abox at h
 split at h
 ·rename_i ds hd
  cases h
  cases he.slot s _ hd with
  | box _ hu vs T hw r ho hs => exact ⟨vs, T, hw, r, ho, hs, he.young _ _ hd, hd⟩
 ·cases h
theorem cells_rel {x : AV} {v : Value} (h : RelV W g A x v) : RelL W g A x.cells v.cells.toList := by
 have one : ∀ {x : AV} {v : Value}, x.cells = [x] → v.cells = #[v] → RelV W g A x v → RelL W g A x.cells v.cells.toList := by
  intro x v h1 h2 r
  rw [h1, h2]
  refine ⟨rfl, fun i y u e1 e2 => ?_⟩
  cases i with
  | zero => simp at e1 e2; subst e1; subst e2; exact r
  | succ i => simp at e1
 cases h with
 | agg cs vs hl r => exact ⟨by simpa [AV.cells, Value.cells] using hl, by simpa [AV.cells, Value.cells] using r⟩
 | d x v hd => exact one rfl (by cases hd <;> rfl) (.d _ _ hd)
 | nilS => exact one rfl rfl .nilS
 | full rows a h => exact one rfl rfl (.full rows a h)
 | own tok len a cap ht h => exact one rfl rfl (.own tok len a cap ht h)
 | nilP => exact one rfl rfl .nilP
 | ptr id off h => exact one rfl rfl (.ptr id off h)
 | sptr ds b o val hc hv => exact one rfl rfl (.sptr ds b o val hc hv)
 | eptr tok len i off p ht h => exact one rfl rfl (.eptr tok len i off p ht h)
 | nilF => exact one rfl rfl .nilF
 | nilI => exact one rfl rfl .nilI
 | nilM => exact one rfl rfl .nilM
 | func fn f c vs us h1 h2 r1 r2 => exact one rfl rfl (.func fn f c vs us h1 h2 r1 r2)
 | mapr id h => exact one rfl rfl (.mapr id h)
 | tuple cs vs h r => exact one rfl rfl (.tuple cs vs h r)
theorem addr_add (b o n : Nat) : (⟨b, o, none⟩ : Addr).add n = ⟨b, o + n, none⟩ := by
 unfold Addr.add
 by_cases h : n = 0 <;> simp [h]
def CellsAt (W : World) (g : Gh) (A : AHeap) (cs : List AV) (b o : Nat) : Prop :=
 ∀ (j : Nat) (c : AV), cs[j]? = some c → ∃ v, W.cell? ⟨b, o + j, none⟩ = some v ∧ RelV W g A c v
theorem RelL.cellsAt {cs : List AV} {vs : Array Value} {b : Nat} {T : TypeId} {fz : Nat × Nat} (h : RelL W g A cs vs.toList) (hw : W.heap[b]? = some (.cells vs T fz)) : CellsAt W g A cs b 0 := by
 intro j c hj
 have hlt : j < vs.toList.length := h.1 ▸ lt_of_get hj
 have hv : vs.toList[j]? = some (vs.toList[j]) := List.getElem?_eq_getElem hlt
 refine ⟨_, ?_, h.2 j c _ hj hv⟩
 rw [cell_of_row W b (0 + j) vs T fz hw, Nat.zero_add, ← Array.getElem?_toList]
 exact hv
theorem kindT_some {t : TypeId} {n : Nat} {agg : Bool} (h : kindT P t = some (n, agg)) :
  ∃ i d, P.info? t = some i ∧ P.underlying t = some d ∧ i.size = n ∧ agg = (match d with | .struct _ | .array _ _ => true | _ => false) := by
 unfold kindT at h
 split at h
 ·rename_i i d hi hd
  cases h
  exact ⟨i, d, hi, hd, rfl, rfl⟩
 ·cases h
theorem run_sizeOf {t : TypeId} {n : Nat} {agg : Bool} (h : kindT P t = some (n, agg)) (w : World) : (sizeOf t).run P w = .ok n w := by
 obtain ⟨i, d, hi, hd, hs, ha⟩ := kindT_some h
 simp [sizeOf, typeInfo, hi, hs]
theorem run_isAgg {t : TypeId} {n : Nat} {agg : Bool} (h : kindT P t = some (n, agg)) (w : World) : (isAgg t).run P w = .ok agg w := by
 obtain ⟨i, d, hi, hd, hs, ha⟩ := kindT_some h
 subst ha
 cases d <;> simp [isAgg, underlying, hd]
theorem run_loadVar {t : TypeId} {n : Nat} {agg : Bool} (hk : kindT P t = some (n, agg)) {cs : List AV} {b o off : Nat} (hc : CellsAt W g A cs b o) {x : AV} (h : apart cs off n agg = some x) :
  ∃ v, (loadVar t ⟨b, o + off, none⟩).run P W = .ok v W ∧ RelV W g A x v := by
 cases agg with
 | false =>
   simp only [apart, Bool.false_eq_true, if_false] at h
   obtain ⟨v, hv, hr⟩ := hc off x h
   refine ⟨v, ?_, hr⟩
   simp only [loadVar, Sem.run_bind, run_isAgg hk, Result.andThen_ok, Bool.false_eq_true, if_false, run_load, hv]
 | true =>
   simp only [apart, if_true] at h
   split at h
   ·rename_i hle
    cases h
    have hex : ∀ j, j < n → ∃ v, W.cell? ⟨b, o + off + j, none⟩ = some v ∧ ∀ c, cs[off + j]? = some c → RelV W g A c v := by
     intro j hj
     obtain ⟨v, hv, hr⟩ := hc (off + j) _ (List.getElem?_eq_getElem (by omega))
     refine ⟨v, by rw [Nat.add_assoc]; exact hv, fun c hcc => ?_⟩
     rw [List.getElem?_eq_getElem (by omega)] at hcc
     cases hcc
     exact hr
    let f : Nat → Value := fun j => if hj : j < n then (hex j hj).choose else undef
    have hf : ∀ j, j < n → W.cell? ⟨b, o + off + j, none⟩ = some (f j) ∧ ∀ c, cs[off + j]? = some c → RelV W g A c (f j) := by
     intro j hj
     simp only [f, hj, dif_pos]
     exact (hex j hj).choose_spec
    have hrun := run_loadCells (P := P) W ⟨b, o + off, none⟩ n f (fun j hj => by rw [addr_add]; exact (hf j hj).1)
    refine ⟨.agg ((List.range n).map f).toArray, ?_, ?_⟩
    ·simp only [loadVar, Sem.run_bind, run_isAgg hk, Result.andThen_ok, if_true, run_sizeOf hk, hrun, Sem.run_pure]
    ·refine .agg _ _ (by simp; omega) fun i c v h1 h2 => ?_
     rw [List.getElem?_take] at h1
     split at h1
     ·rename_i hi
      rw [List.getElem?_drop] at h1
      rw [List.getElem?_map, List.getElem?_range hi] at h2
      cases h2
      exact (hf i hi).2 c h1
     ·cases h1
   ·cases h
theorem WRel.cellsObj (hw : WRel W g A) {id : Nat} {cs : List AV} (h : A.objs[id]? = some (.cells cs)) : CellsAt W g A cs (g.ob id) 0 := by
 obtain ⟨_, vs, T, h1, h2⟩ := hw.obj id _ h
 exact h2.cellsAt h1
theorem WRel.tcellsObj (hw : WRel W g A) {id : Nat} {T : TypeId} {cs : List AV} (h : A.objs[id]? = some (.tcells T cs)) : CellsAt W g A cs (g.ob id) 0 := by
 obtain ⟨_, vs, h1, h2⟩ := hw.obj id _ h
 exact h2.cellsAt h1
theorem BufAt.cells {tok : Nat} {b : ABuf} (h : BufAt W g tok b) (hfr : b.frozen ≤ b.rows.length) {blk cap : Nat} (hb : g.bf tok = .slice (some ⟨blk, 0, none⟩) b.rows.length cap) {i : Nat} {row : List Dat} (hi : b.rows[i]? = some row) :
  CellsAt W g A (row.map .d) blk (i * b.sz) := by
 obtain ⟨blk', cap', vs, h1, h2, h3, h4, h5, hm, h6, h7, h8, h9⟩ := h.ex hfr
 rw [hb] at h1
 cases h1
 intro j c hj
 rw [List.getElem?_map, Option.map_eq_some_iff] at hj
 obtain ⟨d, hd, rfl⟩ := hj
 obtain ⟨v, hv, hr⟩ := h8 i j row d hi hd
 refine ⟨v, ?_, .d _ _ hr⟩
 rw [cell_of_row W blk _ vs _ (0, 0) h3]
 exact hv
theorem aload_rel (hw : WRel W g A) {t : TypeId} {n : Nat} {agg : Bool} (hk : kindT P t = some (n, agg)) {p : AV} {u : Value} (hr : RelV W g A p u) {x : AV} (h : aload A n agg p = some x) :
  ∃ ad v, u = .pointer (some ad) ∧ (loadVar t ad).run P W = .ok v W ∧ RelV W g A x v := by
 cases hr with
 | ptr id off hid =>
   simp only [aload] at h
   split at h
   ·rename_i cs hcs
    obtain ⟨v, h1, h2⟩ := run_loadVar hk (hw.cellsObj hcs) h
    exact ⟨_, v, rfl, by simpa using h1, h2⟩
   ·rename_i T cs hcs
    obtain ⟨v, h1, h2⟩ := run_loadVar hk (hw.tcellsObj hcs) h
    exact ⟨_, v, rfl, by simpa using h1, h2⟩
   ·cases h
 | sptr ds b o val hcell hval =>
   simp only [aload] at h
   have hc : CellsAt W g A (ds.map .d) b o := by
    intro j c hj
    rw [List.getElem?_map, Option.map_eq_some_iff] at hj
    obtain ⟨d, hd, rfl⟩ := hj
    exact ⟨_, (hcell j d hd).2, .d _ _ (hval j d hd)⟩
   obtain ⟨v, h1, h2⟩ := run_loadVar hk hc h
   exact ⟨_, v, rfl, by simpa using h1, h2⟩
 | eptr tok len i off p ht hp =>
   simp only [aload] at h
   split at h
   ·rename_i b hb
    split at h
    ·rename_i hlen0
     obtain ⟨hlen, hfr0⟩ := hlen0
     have hfr : b.frozen ≤ b.rows.length := by rw [hlen]; exact hfr0
     split at h
     ·rename_i row hrow
      obtain ⟨blk, cap, e1, e2⟩ := (hp b hb).2 hlen
      have hbuf := hw.buf tok b hb
      rw [← hlen] at e1
      obtain ⟨v, h1, h2⟩ := run_loadVar hk (hbuf.cells (A := A) hfr e1 hrow) h
      exact ⟨p, v, rfl, by rw [e2]; exact h1, h2⟩
     ·cases h
    ·cases h
   ·cases h
 | _ => simp [aload] at h
theorem foldl_set_get (new : List Value) : ∀ (k off : Nat) (vs : Array Value) (i : Nat), off + k + new.length ≤ vs.size →
  ((new.zipIdx k).foldl (fun cs (p : Value × Nat) => cs.setIfInBounds (off + p.2) p.1) vs).size = vs.size ∧
  ((new.zipIdx k).foldl (fun cs (p : Value × Nat) => cs.setIfInBounds (off + p.2) p.1) vs)[i]? = if off + k ≤ i ∧ i < off + k + new.length then new[i - (off + k)]? else vs[i]? := by
 induction new with
 | nil => intro k off vs i h; simp; omega
 | cons v new ih =>
   intro k off vs i h
   simp only [List.length_cons] at h
   simp only [List.zipIdx_cons, List.foldl_cons]
   have h2 := ih (k + 1) off (vs.setIfInBounds (off + k) v) i (by simp; omega)
   refine ⟨by rw [h2.1]; simp, ?_⟩
   rw [h2.2]
   by_cases hi : i = off + k
   ·subst hi
    have hlt : off + k < vs.size := by omega
    rw [if_neg (by omega), if_pos (by simp only [List.length_cons]; omega)]
    simp [hlt]
   ·have hne : off + k ≠ i := fun e => hi e.symm
    rw [Array.getElem?_setIfInBounds_ne hne]
    by_cases hc : off + (k + 1) ≤ i ∧ i < off + (k + 1) + new.length
    ·rw [if_pos hc, if_pos (by simp only [List.length_cons]; omega)]
     rw [show i - (off + k) = (i - (off + (k + 1))) + 1 by omega, List.getElem?_cons_succ]
    ·rw [if_neg hc, if_neg (by simp only [List.length_cons]; omega)]
theorem asplice_get {cs new cs' : List AV} {off : Nat} (h : asplice cs off new = some cs') : off + new.length ≤ cs.length ∧ cs'.length = cs.length ∧
  ∀ i, cs'[i]? = if off ≤ i ∧ i < off + new.length then new[i - off]? else cs[i]? := by
 unfold asplice at h
 split at h
 ·rename_i hle
  cases h
  refine ⟨hle, by simp; omega, fun i => ?_⟩
  by_cases h1 : i < off
  ·rw [if_neg (by omega), List.append_assoc, List.getElem?_append_left (by simp; omega), List.getElem?_take, if_pos h1]
  ·by_cases h2 : i < off + new.length
   ·rw [if_pos (by omega), List.append_assoc, List.getElem?_append_right (by simp; omega), List.getElem?_append_left (by simp; omega)]
    congr 1
    simp; omega
   ·rw [if_neg (by omega), List.getElem?_append_right (by simp; omega), List.getElem?_drop]
    congr 1
    simp; omega
 ·cases h
theorem asplice_rel {cs new cs' : List AV} {off : Nat} {vs vn vs' : List Value} (hc : RelL W g A cs vs) (hn : RelL W g A new vn) (h : asplice cs off new = some cs') (hl : vs'.length = vs.length)
  (hv : ∀ i, vs'[i]? = if off ≤ i ∧ i < off + vn.length then vn[i - off]? else vs[i]?) : RelL W g A cs' vs' := by
 obtain ⟨h1, h2, h3⟩ := asplice_get h
 refine ⟨by rw [h2, hl]; exact hc.1, fun i x v e1 e2 => ?_⟩
 rw [h3] at e1
 rw [hv, ← hn.1] at e2
 split at e1
 ·rename_i hi
  rw [if_pos hi] at e2
  exact hn.2 _ x v e1 e2
 ·rename_i hi
  rw [if_neg hi] at e2
  exact hc.2 _ x v e1 e2
theorem fill_rel {place : Nat → Option (Nat × Nat)} : ∀ {ps : List (Nat × AV)} {qs : List (Nat × Value)} {cs cs' : List AV} {vs : Array Value}, RelL W g A cs vs.toList →
  ps.length = qs.length → (∀ (i : Nat) (p : Nat × AV) (q : Nat × Value), ps[i]? = some p → qs[i]? = some q → p.1 = q.1 ∧ RelV W g A p.2 q.2) →
  afill place cs ps = some cs' → ∃ vs', Instr.fill place vs qs = some vs' ∧ RelL W g A cs' vs'.toList
 | [], [], cs, cs', vs, hc, _, _, h => by
   simp only [afill] at h
   cases h
   exact ⟨vs, rfl, hc⟩
 | [], _ :: _, _, _, _, _, hl, _, _ => by simp at hl
 | _ :: _, [], _, _, _, _, hl, _, _ => by simp at hl
 | (i, x) :: ps, (j, v) :: qs, cs, cs', vs, hc, hl, hr, h => by
   obtain ⟨e1, e2⟩ := hr 0 _ _ rfl rfl
   simp only at e1 e2
   subst e1
   simp only [afill, Option.bind_eq_some_iff] at h
   obtain ⟨⟨off, n⟩, hp, h⟩ := h
   simp only at h
   split at h
   ·rename_i hlen
    rw [Option.bind_eq_some_iff] at h
    obtain ⟨cs1, hs, h⟩ := h
    have hcells := cells_rel e2
    obtain ⟨g1, g2, g3⟩ := asplice_get hs
    have hvl : v.cells.toList.length = n := by rw [← hcells.1]; exact hlen
    have hvs : v.cells.size = n := by simpa using hvl
    have hsz : off + 0 + v.cells.toList.length ≤ vs.size := by
     have := hc.1
     simp only [Array.length_toList] at this hvl ⊢
     omega
    have hget := fun i => foldl_set_get v.cells.toList 0 off vs i hsz
    have hfold : (v.cells.zipIdx.foldl (fun (cs : Array Value) (p : Value × Nat) => cs.setIfInBounds (off + p.2) p.1) vs) = ((v.cells.toList.zipIdx 0).foldl (fun cs (p : Value × Nat) => cs.setIfInBounds (off + p.2) p.1) vs) := by
     rw [← Array.foldl_toList, Array.toList_zipIdx]
    have hrel : RelL W g A cs1 ((v.cells.toList.zipIdx 0).foldl (fun cs (p : Value × Nat) => cs.setIfInBounds (off + p.2) p.1) vs).toList := by
     refine asplice_rel hc hcells hs (by simpa using (hget 0).1) fun i => ?_
     rw [Array.getElem?_toList, (hget i).2]
     simp only [Nat.add_zero, Array.getElem?_toList]
    obtain ⟨vs', hf, hr'⟩ := fill_rel hrel (by simpa using hl) (fun i p q h1 h2 => hr (i + 1) p q h1 h2) h
    refine ⟨vs', ?_, hr'⟩
    unfold Instr.fill
    simp only [hp]
    have hn : ¬ ((decide (v.cells.size ≠ n) || decide (off + v.cells.size > vs.size)) = true) := by
     simp only [Array.length_toList] at hsz
     simp only [Bool.or_eq_true, decide_eq_true_eq]
     omega
    rw [if_neg hn, ← hf, ← hfold]
   ·cases h
theorem aparts_rel (he : ERel W g A N nt β env a) : ∀ {ps : List (Nat × Operand)} {qs : List (Nat × AV)}, aparts env ps = some qs →
  qs.length = ps.length ∧ ∀ (i : Nat) (p : Nat × AV) (q : Nat × Operand), qs[i]? = some p → ps[i]? = some q → p.1 = q.1 ∧ RelV W g A p.2 (a.eval q.2)
 | [], _, h => by cases h; exact ⟨rfl, fun i p q h1 => by simp at h1⟩
 | (j, x) :: ps, qs, h => by
   simp only [aparts, Option.bind_eq_some_iff, Option.map_eq_some_iff] at h
   obtain ⟨y, hy, ys, hys, rfl⟩ := h
   have ih := aparts_rel he hys
   refine ⟨by simp [ih.1], fun i p q h1 h2 => ?_⟩
   cases i with
   | zero => simp at h1 h2; subst h1; subst h2; exact ⟨rfl, aeval_rel he hy⟩
   | succ i =>
     simp only [List.getElem?_cons_succ] at h1 h2
     exact ih.2 i p q h1 h2
def Out (P : Program) (W : World) (g : Gh) (A A' : AHeap) (x : AV) (s : Sem Next) : Prop :=
 ∃ v W' g', s.run P W = .ok (.value v) W' ∧ RelV W' g' A' x v ∧ WRel W' g' A' ∧ Ev W g A W' g' A'
theorem Out.pure (hw : WRel W g A) {s : Sem Next} {v : Value} {x : AV} (h : s.run P W = .ok (.value v) W) (r : RelV W g A x v) : Out P W g A A x s :=
 ⟨v, W, g, h, r, hw, .refl W g A⟩
theorem Out.sem (hw : WRel W g A) {s : Sem Value} {v : Value} {x : AV} (h : s.run P W = .ok v W) (r : RelV W g A x v) : Out P W g A A x (do Pure.pure (.value (← s))) :=
 .pure hw (by simp [h]) r
theorem RelV.dInt {k : IntKind} {n : Int} {v : Value} (h : RelV W g A (.d (.int k n)) v) : v = .int k n := by
 cases h with | d _ _ h => cases h; rfl
theorem RelV.dBool {b : Bool} {v : Value} (h : RelV W g A (.d (.bool b)) v) : v = .bool b := by
 cases h with | d _ _ h => cases h; rfl
theorem RelV.dStr {s : List UInt8} {v : Value} (h : RelV W g A (.d (.str s)) v) : ∃ b : ByteArray, v = .string b ∧ b.data.toList = s := by
 cases h with | d _ _ h => cases h; exact ⟨_, rfl, rfl⟩
theorem RelV.int (k : IntKind) (n : Int) : RelV W g A (.d (.int k n)) (.int k n) := .d _ _ (.int k n)
theorem RelV.bool (b : Bool) : RelV W g A (.d (.bool b)) (.bool b) := .d _ _ (.bool b)
theorem RelV.str (s : ByteArray) : RelV W g A (.d (.str s.data.toList)) (.string s) := .d _ _ (.str s)
theorem part_rel {t : TypeId} {n : Nat} {agg : Bool} (hk : kindT P t = some (n, agg)) {cs : List AV} {vs : Array Value} (hc : RelL W g A cs vs.toList) {off : Nat} {x : AV} (h : apart cs off n agg = some x) (w : World) :
  ∃ v, (part t vs off).run P w = .ok v w ∧ RelV W g A x v := by
 cases agg with
 | false =>
   simp only [apart, Bool.false_eq_true, if_false] at h
   have hlt : off < vs.toList.length := hc.1 ▸ lt_of_get h
   have hv : vs.toList[off]? = some (vs.toList[off]) := List.getElem?_eq_getElem hlt
   refine ⟨_, ?_, hc.2 off x _ h hv⟩
   have hv' : vs[off]? = some (vs.toList[off]) := by rw [← Array.getElem?_toList]; exact hv
   simp only [part, Sem.run_bind, run_isAgg hk, Result.andThen_ok, Bool.false_eq_true, if_false, hv', Sem.run_pure]
 | true =>
   simp only [apart, if_true] at h
   split at h
   ·rename_i hle
    cases h
    refine ⟨.agg (vs.extract off (off + n)), ?_, ?_⟩
    ·simp only [part, Sem.run_bind, run_isAgg hk, Result.andThen_ok, if_true, run_sizeOf hk, Sem.run_pure]
    ·have hle' : off + n ≤ vs.size := by have := hc.1; simp only [Array.length_toList] at this; omega
     refine RelL.aggA ⟨by simp; omega, fun i c v h1 h2 => ?_⟩
     rw [List.getElem?_take] at h1
     split at h1
     ·rename_i hi
      rw [List.getElem?_drop] at h1
      rw [Array.getElem?_toList, Array.getElem?_extract] at h2
      split at h2
      ·exact hc.2 (off + i) c v h1 (by rw [Array.getElem?_toList]; exact h2)
      ·cases h2
     ·cases h1
   ·cases h
theorem fieldT_some {t : TypeId} {i off n : Nat} {agg : Bool} (h : fieldT P t i = some (off, n, agg)) :
  ∃ fs f, P.underlying t = some (.struct fs) ∧ fs[i]? = some f ∧ f.offset = off ∧ kindT P f.type = some (n, agg) := by
 unfold fieldT at h
 split at h
 ·rename_i fs hu
  rw [Option.bind_eq_some_iff] at h
  obtain ⟨f, hf, h⟩ := h
  rw [Option.map_eq_some_iff] at h
  obtain ⟨k, hk, h⟩ := h
  cases h
  exact ⟨fs, f, hu, hf, rfl, hk⟩
 ·cases h
theorem arrT_some {t : TypeId} {m n : Nat} {agg : Bool} (h : arrT P t = some (m, n, agg)) : ∃ e, P.underlying t = some (.array m e) ∧ kindT P e = some (n, agg) := by
 unfold arrT at h
 split at h
 ·rename_i m' e hu
  rw [Option.map_eq_some_iff] at h
  obtain ⟨k, hk, h⟩ := h
  cases h
  exact ⟨e, hu, hk⟩
 ·cases h
theorem elemT_some {t e : TypeId} {n : Nat} (h : elemT P t = some (e, n)) : P.underlying t = some (.slice e) ∧ ∃ agg, kindT P e = some (n, agg) := by
 unfold elemT at h
 split at h
 ·rename_i e' hu
  rw [Option.map_eq_some_iff] at h
  obtain ⟨k, hk, h⟩ := h
  cases h
  exact ⟨hu, k.2, hk⟩
 ·cases h
theorem strT_true {t : TypeId} (h : strT P t = true) : P.underlying t = some .string := by
 unfold strT at h
 split at h
 ·assumption
 ·cases h
theorem boolT_true {t : TypeId} (h : boolT P t = true) : P.underlying t = some .bool := by
 unfold boolT at h
 split at h
 ·assumption
 ·cases h
theorem eqGuard_plain (op : BinOp) (t : TypeId) (x y : Operand) (a b : Value) (h1 : a ≠ .nilIface) (h2 : ∀ cs, a ≠ .agg cs) (w : World) : (eqGuard op t x y a b).run P w = .ok () w := by
 unfold eqGuard
 by_cases hop : op = .eql ∨ op = .neq
 ·rcases hop with rfl | rfl <;> cases a <;> first | exact absurd rfl h1 | exact absurd rfl (h2 _) | (cases b <;> simp)
 ·cases op <;> first | exact absurd (.inl rfl) hop | exact absurd (.inr rfl) hop | simp_all
theorem bin_int {op : BinOp} {t : TypeId} {k : IntKind} {p q : Int} {d : Dat} (h : aarith op k p q = some d) : ∃ v, (binOp op t (.int k p) (.int k q)).run P W = .ok v W ∧ RelD W g.S d v := by
 cases op <;> simp only [aarith, acmp] at h <;> try (cases h; done)
 case quo => split at h <;> cases h; rename_i hq; exact ⟨_, by simp [binOp, Op.intDiv, hq], .int _ _⟩
 case rem => split at h <;> cases h; rename_i hq; exact ⟨_, by simp [binOp, Op.intDiv, hq], .int _ _⟩
 case shr =>
  split at h <;> cases h
  rename_i hq
  have hb : (8 : Int) ≤ k.bits := by cases k <;> decide
  exact ⟨_, by simp only [binOp]; rw [shift_shr k k p q hq.1 (Int.le_trans hq.2 hb)]; simp, .int _ _⟩
 all_goals
  cases h
  exact ⟨_, by simp [binOp, Op.intArith, Op.intCmp] <;> rfl, by first | exact .int _ _ | exact .bool _⟩
theorem bin_str {op : BinOp} {t : TypeId} {p q : ByteArray} {d : Dat} (h : astr op p.data.toList q.data.toList = some d) : ∃ v, (binOp op t (.string p) (.string q)).run P W = .ok v W ∧ RelD W g.S d v := by
 cases op <;> simp only [astr] at h <;> try (cases h; done)
 case add =>
  split at h <;> cases h
  rename_i hle
  have hp : p.data.toList.length = p.size := by rw [Array.length_toList]; rfl
  have hq : q.data.toList.length = q.size := by rw [Array.length_toList]; rfl
  rw [hp, hq] at hle
  have hn : ¬ (((p.size + q.size : Nat) : Int) > IntKind.i64.max) := by
   simp only [IntKind.max, IntKind.signed, IntKind.bits, if_true]
   omega
  refine ⟨.string (p ++ q), ?_, ?_⟩
  ·simp only [binOp, Op.stringOp, if_neg hn, Sem.run_pure]
  ·have e : (p ++ q).data.toList = p.data.toList ++ q.data.toList := by simp
   rw [← e]
   exact .str _
 all_goals
  cases h
  refine ⟨_, by simp only [binOp, Op.stringOp, Sem.run_pure, ByteArray.toList_eq]; rfl, ?_⟩
  first | exact .bool _
theorem bin_bool {op : BinOp} {t : TypeId} {p q : Bool} {x : AV} (ht : boolT P t = true)
  (h : (match op with | .eql => some (AV.d (.bool (p == q))) | .neq => some (.d (.bool (!(p == q)))) | _ => none) = some x) :
  ∃ v, (binOp op t (.bool p) (.bool q)).run P W = .ok v W ∧ RelV W g A x v := by
 cases op <;> simp only at h <;> try (cases h; done)
 ·cases h; exact ⟨_, run_eql_bool W t p q (boolT_true ht), .bool _⟩
 ·cases h; exact ⟨_, run_neq_bool W t p q (boolT_true ht), .bool _⟩
theorem kind_plain {t : TypeId} {k : Nat} (h : plainT P t = some k) : ∃ n, kindT P t = some (n, false) := by
 unfold plainT at h
 have hi : ∃ i, P.info? t = some i := by
  cases hi : P.info? t with
  | some i => exact ⟨i, rfl⟩
  | none =>
    have : P.underlying t = none := by unfold Program.underlying; simp [hi]
    simp [this] at h
 obtain ⟨i, hi⟩ := hi
 refine ⟨i.size, ?_⟩
 unfold kindT
 rw [hi]
 split at h <;> rename_i hu <;> first | (rw [hu]; done) | cases h
theorem run_part_plain {t : TypeId} {k : Nat} (h : plainT P t = some k) {xs : Array Value} {i : Nat} {v : Value} (hv : xs[i]? = some v) (w : World) : (part t xs i).run P w = .ok v w := by
 obtain ⟨n, hn⟩ := kind_plain h
 simp only [part, Sem.run_bind, run_isAgg hn, Result.andThen_ok, Bool.false_eq_true, if_false, hv, Sem.run_pure]
theorem eqFields_rel (d : Nat) : ∀ {fs : List Field} {ks : List Nat} {i : Nat} {cs ds : List AV} {xs ys : Array Value} {b : Bool}, flatL P i fs = some ks →
  aeqCells ks cs ds = some b → RelL W g A cs (xs.toList.drop i) → RelL W g A ds (ys.toList.drop i) → (Op.eqFields (d + 1) xs ys fs).run P W = .ok b W
 | [], ks, i, cs, ds, xs, ys, b, hf, h, hx, hy => by
   cases hf
   cases cs <;> cases ds <;> simp only [aeqCells] at h <;> cases h
   simp [Op.eqFields]
 | f :: fs, ks, i, cs, ds, xs, ys, b, hf, h, hx, hy => by
   unfold flatL at hf
   split at hf
   ·rename_i hc
    rw [Option.bind_eq_some_iff] at hf
    obtain ⟨k, hk, hf⟩ := hf
    rw [Option.map_eq_some_iff] at hf
    obtain ⟨ks', hks, rfl⟩ := hf
    simp only [Bool.and_eq_true, bne_iff_ne, ne_eq, beq_iff_eq] at hc
    obtain ⟨hname, hoff⟩ := hc
    -- one field's step
    have key : ∀ {x y : Value} {cs' ds' : List AV} {c e : AV} {q r : Bool}, cs = c :: cs' → ds = e :: ds' → (RelV W g A c x → RelV W g A e y → (Op.equalIn (d + 1) f.type x y).run P W = .ok q W) →
      aeqCells ks' cs' ds' = some r → xs[i]? = some x → ys[i]? = some y → RelV W g A c x → RelV W g A e y → (Op.eqFields (d + 1) xs ys (f :: fs)).run P W = .ok (q && r) W := by
     intro x y cs' ds' c e q r hcs hds heq hr hxi hyi hcx hey
     have hx' : RelL W g A cs' (xs.toList.drop (i + 1)) := by
      subst hcs
      refine ⟨by have := hx.1; simp at this ⊢; omega, fun j z v h1 h2 => hx.2 (j + 1) z v (by simpa using h1) ?_⟩
      rw [List.getElem?_drop] at h2 ⊢
      rw [← h2]; congr 1; omega
     have hy' : RelL W g A ds' (ys.toList.drop (i + 1)) := by
      subst hds
      refine ⟨by have := hy.1; simp at this ⊢; omega, fun j z v h1 h2 => hy.2 (j + 1) z v (by simpa using h1) ?_⟩
      rw [List.getElem?_drop] at h2 ⊢
      rw [← h2]; congr 1; omega
     have ih := eqFields_rel d hks hr hx' hy'
     simp only [Op.eqFields, hname, ne_eq, not_false_eq_true, if_true, hoff, Sem.run_bind, run_part_plain hk hxi, run_part_plain hk hyi, Result.andThen_ok, heq hcx hey]
     cases q
     ·simp
     ·simpa using ih
    have get : ∀ {c : AV} {cs' : List AV} {vs : Array Value}, RelL W g A (c :: cs') (vs.toList.drop i) → ∃ v, vs[i]? = some v ∧ RelV W g A c v := by
     intro c cs' vs hr
     have hlt : 0 < (vs.toList.drop i).length := by rw [← hr.1]; simp
     have hv : (vs.toList.drop i)[0]? = some ((vs.toList.drop i)[0]) := List.getElem?_eq_getElem hlt
     refine ⟨_, ?_, hr.2 0 c _ rfl hv⟩
     rw [List.getElem?_drop, Nat.add_zero] at hv
     rw [← Array.getElem?_toList]; exact hv
    unfold aeqCells at h
    split at h
    ·rename_i heq; cases heq
    ·rename_i ks2 bx cs' bz ds' heq
     cases heq
     rw [Option.map_eq_some_iff] at h
     obtain ⟨r, hr, rfl⟩ := h
     obtain ⟨x, hxi, hcx⟩ := get hx
     obtain ⟨y, hyi, hey⟩ := get hy
     refine key rfl rfl (fun h1 h2 => ?_) hr hxi hyi hcx hey
     rw [h1.dBool, h2.dBool]
     unfold plainT at hk
     split at hk <;> cases hk
     rename_i hu
     exact run_equalIn_bool W d _ _ _ hu
    ·rename_i ks2 k1 nx cs' k2 ny ds' heq
     cases heq
     split at h
     ·rename_i hkk
      subst hkk
      rw [Option.map_eq_some_iff] at h
      obtain ⟨r, hr, rfl⟩ := h
      obtain ⟨x, hxi, hcx⟩ := get hx
      obtain ⟨y, hyi, hey⟩ := get hy
      refine key rfl rfl (fun h1 h2 => ?_) hr hxi hyi hcx hey
      rw [h1.dInt, h2.dInt]
      unfold plainT at hk
      split at hk <;> cases hk
      rename_i hu
      exact run_equalIn_int W d _ _ _ _ _ hu
     ·cases h
    ·rename_i ks2 bx cs' bz ds' heq
     cases heq
     rw [Option.map_eq_some_iff] at h
     obtain ⟨r, hr, rfl⟩ := h
     obtain ⟨x, hxi, hcx⟩ := get hx
     obtain ⟨y, hyi, hey⟩ := get hy
     refine key rfl rfl (fun h1 h2 => ?_) hr hxi hyi hcx hey
     obtain ⟨u, rfl, hu1⟩ := h1.dStr
     obtain ⟨v, rfl, hv1⟩ := h2.dStr
     unfold plainT at hk
     split at hk <;> cases hk
     rename_i hu
     have := run_equalIn_string (P := P) W d _ u v hu
     rw [this, ByteArray.toList_eq, ByteArray.toList_eq, hu1, hv1]
    ·cases h
   ·cases hf
theorem eqCells_cons {k : Nat} {ks : List Nat} {cs ds : List AV} {b : Bool} (h : aeqCells (k :: ks) cs ds = some b) : ∃ c cs' e ds' q r, cs = c :: cs' ∧ ds = e :: ds' ∧ aeqCells ks cs' ds' = some r ∧ b = (q && r) ∧
  ∀ (d : Nat) (T : TypeId) (x y : Value), plainT P T = some k → RelV W g A c x → RelV W g A e y → (Op.equalIn (d + 1) T x y).run P W = .ok q W := by
 unfold aeqCells at h
 split at h
 ·rename_i heq; cases heq
 ·rename_i ks2 bx cs' bz ds' heq
  cases heq
  rw [Option.map_eq_some_iff] at h
  obtain ⟨r, hr, rfl⟩ := h
  refine ⟨_, _, _, _, _, r, rfl, rfl, hr, rfl, fun d T x y hk h1 h2 => ?_⟩
  rw [h1.dBool, h2.dBool]
  unfold plainT at hk
  split at hk <;> cases hk
  rename_i hu
  exact run_equalIn_bool W d _ _ _ hu
 ·rename_i ks2 k1 nx cs' k2 ny ds' heq
  cases heq
  split at h
  ·rename_i hkk
   subst hkk
   rw [Option.map_eq_some_iff] at h
   obtain ⟨r, hr, rfl⟩ := h
   refine ⟨_, _, _, _, _, r, rfl, rfl, hr, rfl, fun d T x y hk h1 h2 => ?_⟩
   rw [h1.dInt, h2.dInt]
   unfold plainT at hk
   split at hk <;> cases hk
   rename_i hu
   exact run_equalIn_int W d _ _ _ _ _ hu
  ·cases h
 ·rename_i ks2 bx cs' bz ds' heq
  cases heq
  rw [Option.map_eq_some_iff] at h
  obtain ⟨r, hr, rfl⟩ := h
  refine ⟨_, _, _, _, _, r, rfl, rfl, hr, rfl, fun d T x y hk h1 h2 => ?_⟩
  obtain ⟨u, rfl, hu1⟩ := h1.dStr
  obtain ⟨v, rfl, hv1⟩ := h2.dStr
  unfold plainT at hk
  split at hk <;> cases hk
  rename_i hu
  have := run_equalIn_string (P := P) W d _ u v hu
  rw [this, ByteArray.toList_eq, ByteArray.toList_eq, hu1, hv1]
 ·cases h
theorem eqCells_app : ∀ {ks ks' : List Nat} {cs ds : List AV} {b : Bool}, aeqCells (ks ++ ks') cs ds = some b → ∃ q r, aeqCells ks (cs.take ks.length) (ds.take ks.length) = some q ∧ aeqCells ks' (cs.drop ks.length) (ds.drop ks.length) = some r ∧ b = (q && r)
 | [], ks', cs, ds, b, h => ⟨true, b, by simp [aeqCells], by simpa using h, by simp⟩
 | k :: ks, ks', cs, ds, b, h => by
   rw [List.cons_append] at h
   unfold aeqCells at h
   split at h
   ·rename_i heq; cases heq
   ·rename_i ks2 bx cs' bz ds' heq
    cases heq
    rw [Option.map_eq_some_iff] at h
    obtain ⟨r0, hr, rfl⟩ := h
    obtain ⟨q, r, h1, h2, rfl⟩ := eqCells_app hr
    exact ⟨(bx == bz) && q, r, by simp [aeqCells, h1], by simpa using h2, by simp [Bool.and_assoc]⟩
   ·rename_i ks2 k1 nx cs' k2 ny ds' heq
    cases heq
    split at h
    ·rename_i hkk
     rw [Option.map_eq_some_iff] at h
     obtain ⟨r0, hr, rfl⟩ := h
     obtain ⟨q, r, h1, h2, rfl⟩ := eqCells_app hr
     exact ⟨(nx == ny) && q, r, by simp [aeqCells, h1, hkk], by simpa using h2, by simp [Bool.and_assoc]⟩
    ·cases h
   ·rename_i ks2 bx cs' bz ds' heq
    cases heq
    rw [Option.map_eq_some_iff] at h
    obtain ⟨r0, hr, rfl⟩ := h
    obtain ⟨q, r, h1, h2, rfl⟩ := eqCells_app hr
    exact ⟨(bx == bz) && q, r, by simp [aeqCells, h1], by simpa using h2, by simp [Bool.and_assoc]⟩
   ·cases h
theorem eqCells_len : ∀ {ks : List Nat} {cs ds : List AV} {b : Bool}, aeqCells ks cs ds = some b → cs.length = ks.length ∧ ds.length = ks.length
 | [], cs, ds, b, h => by cases cs <;> cases ds <;> simp only [aeqCells] at h <;> cases h; exact ⟨rfl, rfl⟩
 | k :: ks, cs, ds, b, h => by
   obtain ⟨c, cs', e, ds', q, r, rfl, rfl, hr, _, _⟩ := eqCells_cons (P := default) (W := default) (g := ⟨fun _ _ => False, fun _ => 0, fun _ => undef, fun _ => none⟩) (A := ⟨[], []⟩) h
   have := eqCells_len hr
   simp [this.1, this.2]
theorem relL_drop {cs : List AV} {vs : List Value} (h : RelL W g A cs vs) (n : Nat) : RelL W g A (cs.drop n) (vs.drop n) :=
 ⟨by simp [h.1], fun j x v h1 h2 => h.2 (n + j) x v (by rwa [List.getElem?_drop] at h1) (by rwa [List.getElem?_drop] at h2)⟩
theorem eqFields_rel2 (d : Nat) : ∀ {fs : List Field} {ks : List Nat} {i : Nat} {cs ds : List AV} {xs ys : Array Value} {b : Bool}, flat2L P i fs = some ks →
  aeqCells ks cs ds = some b → RelL W g A cs (xs.toList.drop i) → RelL W g A ds (ys.toList.drop i) → (Op.eqFields (d + 2) xs ys fs).run P W = .ok b W
 | [], ks, i, cs, ds, xs, ys, b, hf, h, hx, hy => by
   cases hf
   cases cs <;> cases ds <;> simp only [aeqCells] at h <;> cases h
   simp [Op.eqFields]
 | f :: fs, ks, i, cs, ds, xs, ys, b, hf, h, hx, hy => by
   unfold flat2L at hf
   split at hf
   case isFalse => cases hf
   rename_i hc
   simp only [Bool.and_eq_true, bne_iff_ne, ne_eq, beq_iff_eq] at hc
   obtain ⟨hname, hoff⟩ := hc
   split at hf
   ·rename_i k hk
    rw [Option.map_eq_some_iff] at hf
    obtain ⟨ks', hks, rfl⟩ := hf
    obtain ⟨c, cs', e, ds', q, r, rfl, rfl, hr, rfl, hq⟩ := eqCells_cons (P := P) (W := W) (g := g) (A := A) h
    have get : ∀ {c : AV} {cs' : List AV} {vs : Array Value}, RelL W g A (c :: cs') (vs.toList.drop i) → ∃ v, vs[i]? = some v ∧ RelV W g A c v := by
     intro c cs' vs hr
     have hlt : 0 < (vs.toList.drop i).length := by rw [← hr.1]; simp
     have hv : (vs.toList.drop i)[0]? = some ((vs.toList.drop i)[0]) := List.getElem?_eq_getElem hlt
     refine ⟨_, ?_, hr.2 0 c _ rfl hv⟩
     rw [List.getElem?_drop, Nat.add_zero] at hv
     rw [← Array.getElem?_toList]; exact hv
    obtain ⟨x, hxi, hcx⟩ := get hx
    obtain ⟨y, hyi, hey⟩ := get hy
    have hx' := relL_drop hx 1
    have hy' := relL_drop hy 1
    rw [List.drop_drop] at hx' hy'
    have ih := eqFields_rel2 d hks hr (by simpa using hx') (by simpa using hy')
    simp only [Op.eqFields, hname, ne_eq, not_false_eq_true, if_true, hoff, Sem.run_bind, run_part_plain hk hxi, run_part_plain hk hyi, Result.andThen_ok, hq (d + 1) _ _ _ hk hcx hey]
    cases q
    ·simp
    ·simpa using ih
   ·rw [Option.bind_eq_some_iff] at hf
    obtain ⟨k1, hk1, hf⟩ := hf
    split at hf
    case isFalse => cases hf
    rename_i hkind
    rw [Option.map_eq_some_iff] at hf
    obtain ⟨ks', hks, rfl⟩ := hf
    obtain ⟨q, r, hq, hr, rfl⟩ := eqCells_app h
    have hk1' := hk1
    unfold flat1T at hk1'
    split at hk1'
    case h_2 => cases hk1'
    rename_i gs hu
    split at hk1'
    case isFalse => cases hk1'
    rename_i hc2
    simp only [Bool.and_eq_true, Bool.not_eq_true'] at hc2
    have hfo : P.fieldsOf f.type = gs := by simp [Program.fieldsOf, hu]
    have hu' : P.underlying f.type = some (.struct (P.fieldsOf f.type)) := by rw [hfo]; exact hu
    have hkt : kindT P f.type = some (k1.length, true) := by
     rw [Option.map_eq_some_iff] at hkind
     obtain ⟨⟨n, a⟩, h1, h2⟩ := hkind
     simp only at h2
     subst h2
     have h1' := h1
     unfold kindT at h1'
     rw [hu] at h1'
     split at h1'
     ·rename_i hd; simp at hd; subst hd; simp at h1'; rw [h1, ← h1'.2]
     ·cases h1'
    have hlen := eqCells_len hq
    have get : ∀ {cs : List AV} {vs : Array Value}, (cs.take k1.length).length = k1.length → RelL W g A cs (vs.toList.drop i) → ∃ us : Array Value, (part f.type vs i).run P W = .ok (.agg us) W ∧ RelL W g A (cs.take k1.length) us.toList := by
     intro cs vs hl hr
     have hle : k1.length ≤ cs.length := by simp at hl; omega
     have hv : RelL W g A (List.replicate i (AV.nilP) ++ cs) (vs.toList) → True := fun _ => trivial
     refine ⟨vs.extract i (i + k1.length), ?_, ?_, fun j x v h1 h2 => hr.2 j x v ?_ ?_⟩
     ·simp only [part, Sem.run_bind, run_isAgg hkt, run_sizeOf hkt, Result.andThen_ok, if_true, Sem.run_pure]
     ·have := hr.1
      simp at this ⊢
      omega
     ·rw [List.getElem?_take] at h1
      split at h1
      ·exact h1
      ·cases h1
     ·rw [Array.getElem?_toList, Array.getElem?_extract] at h2
      rw [List.getElem?_drop, Array.getElem?_toList]
      split at h2
      ·exact h2
      ·cases h2
    obtain ⟨us, hpx, hux⟩ := get hlen.1 hx
    obtain ⟨vs, hpy, huy⟩ := get hlen.2 hy
    have heq : (Op.equalIn (d + 2) f.type (.agg us) (.agg vs)).run P W = .ok q W := by
     rw [run_equalIn_agg W (d + 1) f.type us vs hu' hc2.1, hfo]
     exact eqFields_rel d hk1' hq (by simpa using hux) (by simpa using huy)
    have hx' := relL_drop hx k1.length
    have hy' := relL_drop hy k1.length
    rw [List.drop_drop] at hx' hy'
    have ih := eqFields_rel2 d hks hr hx' hy'
    simp only [Op.eqFields, hname, ne_eq, not_false_eq_true, if_true, hoff, Sem.run_bind, hpx, hpy, Result.andThen_ok, heq]
    cases q
    ·simp
    ·simpa using ih
theorem bin_agg {op : BinOp} {t : TypeId} {xs ys : List AV} {us vs : Array Value} {z : AV} (hx : RelL W g A xs us.toList) (hy : RelL W g A ys vs.toList) (h : abin P op t (.agg xs) (.agg ys) = some z) (x y : Operand) :
  (eqGuard op t x y (.agg us) (.agg vs)).run P W = .ok () W ∧ ∃ v, (binOp op t (.agg us) (.agg vs)).run P W = .ok v W ∧ RelV W g A z v := by
 simp only [abin] at h
 cases hf : flatT P t with
 | none => simp [hf] at h
 | some ks =>
   have main : ∀ {fs : Array Field}, P.underlying t = some (.struct fs) → P.stoodInHeld t = false → P.eqGuardType P.depth t = false → (∀ {b : Bool}, aeqCells ks xs ys = some b → (Op.equalIn 10000 t (.agg us) (.agg vs)).run P W = .ok b W) →
     (eqGuard op t x y (.agg us) (.agg vs)).run P W = .ok () W ∧ ∃ v, (binOp op t (.agg us) (.agg vs)).run P W = .ok v W ∧ RelV W g A z v := by
    intro fs hu hc1 hc2 heq
    refine ⟨run_eqGuard_agg W op t x y us vs hc2, ?_⟩
    cases op <;> simp only [hf] at h <;> try (cases h; done)
    ·rw [Option.map_eq_some_iff] at h
     obtain ⟨b, hb, rfl⟩ := h
     exact ⟨.bool b, by rw [run_eql_struct, heq hb]; rfl, .bool _⟩
    ·rw [Option.map_eq_some_iff] at h
     obtain ⟨b, hb, rfl⟩ := h
     exact ⟨.bool (!b), by rw [run_neq_struct, heq hb]; rfl, .bool _⟩
   have hf2 := hf
   unfold flatT at hf2
   split at hf2
   ·rename_i ks1 hf1
    cases hf2
    unfold flat1T at hf1
    split at hf1
    ·rename_i fs hu
     split at hf1
     ·rename_i hc
      simp only [Bool.and_eq_true, Bool.not_eq_true'] at hc
      have hfo : P.fieldsOf t = fs := by simp [Program.fieldsOf, hu]
      have hu' : P.underlying t = some (.struct (P.fieldsOf t)) := by rw [hfo]; exact hu
      refine main hu hc.1 hc.2 fun hb => ?_
      rw [run_equalIn_agg W 9999 t us vs hu' hc.1, hfo]
      exact eqFields_rel 9998 hf1 hb (by simpa using hx) (by simpa using hy)
     ·cases hf1
    ·cases hf1
   ·unfold flat2T at hf2
    split at hf2
    ·rename_i fs hu
     split at hf2
     ·rename_i hc
      simp only [Bool.and_eq_true, Bool.not_eq_true'] at hc
      have hfo : P.fieldsOf t = fs := by simp [Program.fieldsOf, hu]
      have hu' : P.underlying t = some (.struct (P.fieldsOf t)) := by rw [hfo]; exact hu
      refine main hu hc.1 hc.2 fun hb => ?_
      rw [run_equalIn_agg W 9999 t us vs hu' hc.1, hfo]
      exact eqFields_rel2 9997 hf2 hb (by simpa using hx) (by simpa using hy)
     ·cases hf2
    ·cases hf2
theorem bin_rel {op : BinOp} {t : TypeId} {p q z : AV} {u v : Value} (hp : RelV W g A p u) (hq : RelV W g A q v) (h : abin P op t p q = some z) (x y : Operand) :
  (eqGuard op t x y u v).run P W = .ok () W ∧ ∃ r, (binOp op t u v).run P W = .ok r W ∧ RelV W g A z r := by
 unfold abin at h
 split at h
 ·rename_i k a k' b
  split at h
  ·rename_i hk
   subst hk
   rw [Option.map_eq_some_iff] at h
   obtain ⟨d, hd, rfl⟩ := h
   rw [hp.dInt, hq.dInt]
   refine ⟨eqGuard_plain _ _ _ _ _ _ (by simp) (by simp) W, ?_⟩
   obtain ⟨r, h1, h2⟩ := bin_int (P := P) (W := W) (g := g) (t := t) hd
   exact ⟨r, h1, .d _ _ h2⟩
  ·cases h
 ·rename_i a b
  rw [Option.map_eq_some_iff] at h
  obtain ⟨d, hd, rfl⟩ := h
  obtain ⟨u', rfl, hu⟩ := hp.dStr
  obtain ⟨v', rfl, hv⟩ := hq.dStr
  refine ⟨eqGuard_plain _ _ _ _ _ _ (by simp) (by simp) W, ?_⟩
  rw [← hu, ← hv] at hd
  obtain ⟨r, h1, h2⟩ := bin_str (P := P) (W := W) (g := g) (t := t) hd
  exact ⟨r, h1, .d _ _ h2⟩
 ·rename_i a b
  split at h
  ·rename_i ht
   rw [hp.dBool, hq.dBool]
   exact ⟨eqGuard_plain _ _ _ _ _ _ (by simp) (by simp) W, bin_bool ht h⟩
  ·cases h
 ·rename_i xs ys
  cases hp with
  | agg _ us hl1 r1 =>
    cases hq with
    | agg _ vs hl2 r2 =>
      exact bin_agg (xs := xs) (ys := ys) ⟨by simpa using hl1, by simpa using r1⟩ ⟨by simpa using hl2, by simpa using r2⟩ (by unfold abin; exact h) x y
 ·rename_i r rs
  split at h
  case isFalse => cases h
  rename_i he
  obtain ⟨⟨e, sz⟩, hel⟩ := Option.isSome_iff_exists.1 he
  obtain ⟨hu, agg, hk⟩ := elemT_some hel
  obtain ⟨bo, n, cap, rfl⟩ : ∃ (bo : Addr) (n cap : Nat), u = .slice (some bo) n cap := by
   cases hp with
   | d _ _ hd =>
   generalize hdd : Dat.slice (r :: rs) = dd at hd
   cases hd with
   | bool => cases hdd
   | int => cases hdd
   | str => cases hdd
   | nil => cases hdd
   | empty => cases hdd
   | slice => exact ⟨_, _, _, rfl⟩
  cases hq
  refine ⟨eqGuard_plain _ _ _ _ _ _ (by simp) (by simp) W, ?_⟩
  split at h
  case h_2 => cases h
  cases h
  exact ⟨_, Lib.run_eql_slice_nil W t e _ _ _ _ _ hu, .bool false⟩
 ·cases h
end
section
variable {P : Program} {W W' : World} {g g' : Gh} {A A' : AHeap}
theorem ObjAt.ev (e : EvV W g A W' g' A') {blk : Nat} (h : W'.heap[blk]? = W.heap[blk]?) {o : AObj} (r : ObjAt W g A blk o) : ObjAt W' g' A' blk o := by
 cases o with
 | cells cs =>
   obtain ⟨vs, T, h1, h2⟩ := r
   exact ⟨vs, T, h.trans h1, e.relL h2⟩
 | tcells T cs =>
   obtain ⟨vs, h1, h2⟩ := r
   exact ⟨vs, h.trans h1, e.relL h2⟩
 | map es =>
   obtain ⟨mes, clock, h1, h2, h3⟩ := r
   refine ⟨mes, clock, h.trans h1, h2, fun i k x m e1 e2 => ?_⟩
   obtain ⟨a2, a4⟩ := h3 i k x m e1 e2
   exact ⟨e.relD a2, e.relV a4⟩
 | iter s pos => exact h.trans r
theorem BufAt.keep {tok : Nat} {b : ABuf} (h : BufAt W g tok b) (hbf : g'.bf tok = g.bf tok) (hown : ∀ blk, g.own blk = some (.buf tok) → g'.own blk = some (.buf tok))
  (hheap : ∀ blk, g.own blk = some (.buf tok) → W'.heap[blk]? = W.heap[blk]?) (hS : ∀ blk k, g.own blk = some (.buf tok) → g'.S blk k → g.S blk k)
  (hD : ∀ d v, RelD W g.S d v → RelD W' g'.S d v) : BufAt W' g' tok b := by
 rcases h.ex' with ⟨_, blk, cap, vs, h1, h2, h3, h4, h5, h6, h7, h8, h9, h10⟩ | ⟨hd, blk, cap, h1, h2⟩
 case inr => exact ⟨.inr ⟨hd, blk, cap, hbf.trans h1, hown _ h2⟩⟩
 refine .of ⟨blk, cap, vs, hbf.trans h1, hown _ h2, (hheap _ h2).trans h3, h4, h5, h6, h7, h8, fun i j row c e1 e2 => ?_, fun k hk => h10 k (hS _ _ h2 hk)⟩
 obtain ⟨v, hv, hr⟩ := h9 i j row c e1 e2
 exact ⟨v, hv, hD _ _ hr⟩
theorem Ev.same (h : W'.heap = W.heap) (hr : Rest W W') : Ev W g A W' g A where
 rest := hr
 size := by rw [h]; exact Nat.le_refl _
 free b _ ho := ⟨by rw [h], ho, fun _ x => x⟩
 stab b o hs := ⟨hs, by simp [World.cell?, h]⟩
 ob _ _ := rfl
 objs := Nat.le_refl _
 bufs tok b hb := ⟨b, hb, rfl, Nat.le_refl _, fun _ => rfl⟩
theorem WRel.same (hw : WRel W g A) (h : W'.heap = W.heap) (hr : Rest W W') : WRel W' g A where
 obj id o ho := ⟨(hw.obj id o ho).1, ((hw.obj id o ho).2).ev (Ev.same (g := g) (A := A) h hr).toEvV (by rw [h])⟩
 buf tok b hb := (hw.buf tok b hb).keep rfl (fun _ x => x) (fun _ _ => by rw [h]) (fun _ _ _ x => x) (fun _ _ r => (Ev.same (g := g) (A := A) h hr).relD r)
 lt blk o ho := by rw [h]; exact hw.lt blk o ho
 stab b o hs := by rw [h]; exact hw.stab b o hs
 sobj := hw.sobj
theorem heap_alloc_get {o : Obj} {b : Nat} (hb : b < W.heap.size) : (W.alloc o).heap[b]? = W.heap[b]? := heap_alloc_old W o b hb
theorem cell_alloc {o : Obj} {b k : Nat} (hb : b < W.heap.size) : (W.alloc o).cell? ⟨b, k, none⟩ = W.cell? ⟨b, k, none⟩ := World.cell?_alloc_lt W o ⟨b, k, none⟩ hb
def Gh.addS (g : Gh) (n : Nat) : Gh := { g with S := fun b o => g.S b o ∨ b = n }
def plainObj : Obj → Prop
 | .cells _ _ fz => fz = (0, 0)
 | .map _ _ => True
 | .stringIter _ _ => True
 | _ => False
theorem Rest.alloc (W : World) {o : Obj} (h : plainObj o) : Rest W (W.alloc o) := by
 exact ⟨rfl, rfl⟩
theorem Ev.alloc (hw : WRel W g A) {o : Obj} (hp : plainObj o) : Ev W g A (W.alloc o) g A where
 rest := .alloc W hp
 size := by simp
 free b hb ho := ⟨heap_alloc_get hb, ho, fun _ x => x⟩
 stab b k hs := ⟨hs, cell_alloc (hw.stab b k hs)⟩
 ob _ _ := rfl
 objs := Nat.le_refl _
 bufs tok b hb := ⟨b, hb, rfl, Nat.le_refl _, fun _ => rfl⟩
theorem WRel.alloc (hw : WRel W g A) {o : Obj} (hp : plainObj o) : WRel (W.alloc o) g A where
 obj id x hx := ⟨(hw.obj id x hx).1, ((hw.obj id x hx).2).ev (Ev.alloc hw hp).toEvV (heap_alloc_get (hw.lt _ _ (hw.obj id x hx).1))⟩
 buf tok b hb := (hw.buf tok b hb).keep rfl (fun _ x => x) (fun blk h => heap_alloc_get (hw.lt _ _ h)) (fun _ _ _ x => x) (fun _ _ r => (Ev.alloc hw hp).relD r)
 lt blk x hx := by have := hw.lt blk x hx; simp; omega
 stab b k hs := by have := hw.stab b k hs; simp; omega
 sobj := hw.sobj
theorem Ev.addS (n : Nat) (hn : W.heap.size ≤ n) : Ev W g A W (g.addS n) A where
 rest := .refl W
 size := Nat.le_refl _
 free b hb ho := ⟨rfl, ho, fun o x => by rcases x with x | x <;> first | exact x | omega⟩
 stab b k hs := ⟨.inl hs, rfl⟩
 ob _ _ := rfl
 objs := Nat.le_refl _
 bufs tok b hb := ⟨b, hb, rfl, Nat.le_refl _, fun _ => rfl⟩
theorem Ev.allocS (hw : WRel W g A) {o : Obj} (hp : plainObj o) : Ev W g A (W.alloc o) (g.addS W.heap.size) A where
 rest := .alloc W hp
 size := by simp
 free b hb ho := ⟨heap_alloc_get hb, ho, fun o x => by rcases x with x | x <;> first | exact x | omega⟩
 stab b k hs := ⟨.inl hs, cell_alloc (hw.stab b k hs)⟩
 ob _ _ := rfl
 objs := Nat.le_refl _
 bufs tok b hb := ⟨b, hb, rfl, Nat.le_refl _, fun _ => rfl⟩
theorem WRel.allocS (hw : WRel W g A) {o : Obj} (hp : plainObj o) : WRel (W.alloc o) (g.addS W.heap.size) A where
 obj id x hx := ⟨(hw.obj id x hx).1, ((hw.obj id x hx).2).ev (Ev.allocS hw hp).toEvV (heap_alloc_get (hw.lt _ _ (hw.obj id x hx).1))⟩
 buf tok b hb := (hw.buf tok b hb).keep rfl (fun _ x => x) (fun blk h => heap_alloc_get (hw.lt _ _ h))
  (fun blk k h x => by have := hw.lt _ _ h; rcases x with x | x <;> first | exact x | omega) (fun _ _ r => (Ev.allocS hw hp).relD r)
 lt blk x hx := by have := hw.lt blk x hx; simp; omega
 stab b k hs := by
  rcases hs with hs | hs
  ·have := hw.stab b k hs; simp; omega
  ·simp; omega
 sobj blk id k h x := by
  rcases x with x | x
  ·exact hw.sobj blk id k h x
  ·have := hw.lt _ _ h; omega
def Gh.freeze (g : Gh) (blk n : Nat) : Gh := { g with S := fun b o => g.S b o ∨ (b = blk ∧ o < n) }
theorem freeze_get (A : AHeap) (tok t : Nat) : (A.freeze tok).bufs[t]? = if t = tok then (A.bufs[t]?).map (fun b => { b with frozen := b.rows.length }) else A.bufs[t]? := by
 unfold AHeap.freeze
 simp only [List.getElem?_modify]
 by_cases h : t = tok
 ·subst h
  cases A.bufs[t]? <;> simp
 ·have h' : ¬ tok = t := fun e => h e.symm
  cases A.bufs[t]? <;> simp [h, h']
theorem frozen_rel (hw : WRel W g A) {tok : Nat} {b : ABuf} (hb : A.bufs[tok]? = some b) (hfr : b.frozen ≤ b.rows.length) {cap : Nat} {blk : Nat} (hbf : g.bf tok = .slice (some ⟨blk, 0, none⟩) b.rows.length cap) :
  RelD W (g.freeze blk (b.rows.length * b.sz)).S (.slice b.rows) (.slice (some ⟨blk, 0, none⟩) b.rows.length cap) ∧ WRel W (g.freeze blk (b.rows.length * b.sz)) (A.freeze tok) ∧
   Ev W g A W (g.freeze blk (b.rows.length * b.sz)) (A.freeze tok) := by
 obtain ⟨blk', cap', vs, h1, h2, h3, h4, h5, h6, h7, h8, h9, h10⟩ := (hw.buf tok b hb).ex hfr
 rw [hbf] at h1
 cases h1
 have hev : Ev W g A W (g.freeze blk (b.rows.length * b.sz)) (A.freeze tok) := by
  refine ⟨⟨Nat.le_refl _, fun c o hs => ⟨.inl hs, rfl⟩, fun _ _ => rfl, Nat.le_refl _, fun t c hc => ?_, .refl W⟩, fun c hc ho => ⟨rfl, ho, fun o x => ?_⟩⟩
  ·rw [freeze_get]
   by_cases ht : t = tok
   ·rw [if_pos ht, hc]
    exact ⟨_, rfl, rfl, Nat.le_refl _, fun _ => rfl⟩
   ·rw [if_neg ht]
    exact ⟨c, hc, rfl, Nat.le_refl _, fun _ => rfl⟩
  ·rcases x with x | ⟨rfl, _⟩
   ·exact x
   ·rw [h2] at ho; cases ho
 have hbound : ∀ (i j : Nat) (row : List Dat) (c : Dat), b.rows[i]? = some row → row[j]? = some c → i * b.sz + j < b.rows.length * b.sz := by
  intro i j row c e1 e2
  have hj := lt_of_get e2
  rw [h8 i row e1] at hj
  have hi := lt_of_get e1
  calc i * b.sz + j < i * b.sz + b.sz := by omega
   _ = (i + 1) * b.sz := by rw [Nat.add_mul, Nat.one_mul]
   _ ≤ b.rows.length * b.sz := Nat.mul_le_mul_right _ hi
 refine ⟨?_, ?_, hev⟩
 ·have := RelD.slice (W := W) (S := (g.freeze blk (b.rows.length * b.sz)).S) b.rows blk 0 cap b.sz (fun i j => vs.getD (i * b.sz + j) undef) h5 h8 (fun i j row c e1 e2 => ?_) (fun i j row c e1 e2 => ?_)
  ·exact this
  ·obtain ⟨v, hv, hr⟩ := h9 i j row c e1 e2
   refine ⟨.inr ⟨rfl, by rw [Nat.zero_add]; exact hbound i j row c e1 e2⟩, ?_⟩
   rw [Nat.zero_add, cell_of_row W blk _ vs b.e (0, 0) h3, Array.getD_eq_getD_getElem?, hv]
   rfl
  ·obtain ⟨v, hv, hr⟩ := h9 i j row c e1 e2
   rw [Array.getD_eq_getD_getElem?, hv]
   exact hev.relD hr
 ·refine ⟨fun id o ho => ⟨(hw.obj id o ho).1, ((hw.obj id o ho).2).ev hev.toEvV rfl⟩, fun t c hc => ?_, hw.lt, fun c o x => ?_, fun c id o hc x => ?_⟩
  ·rw [freeze_get] at hc
   by_cases ht : t = tok
   ·subst ht
    rw [if_pos rfl, hb] at hc
    cases hc
    refine .of ⟨blk, cap, vs, hbf, h2, h3, h4, h5, h6, Nat.le_refl _, h8, fun i j row c e1 e2 => ?_, fun k x => ?_⟩
    ·obtain ⟨v, hv, hr⟩ := h9 i j row c e1 e2
     exact ⟨v, hv, hev.relD hr⟩
    ·rcases x with x | ⟨_, x⟩
     ·have := h10 k x
      exact Nat.lt_of_lt_of_le this (Nat.mul_le_mul_right _ h7)
     ·exact x
   ·rw [if_neg ht] at hc
    refine (hw.buf t c hc).keep rfl (fun _ x => x) (fun _ _ => rfl) (fun d k hd x => ?_) (fun _ _ r => hev.relD r)
    rcases x with x | ⟨rfl, _⟩
    ·exact x
    ·rw [h2] at hd; cases hd; exact absurd rfl ht
  ·rcases x with x | ⟨rfl, _⟩
   ·exact hw.stab c o x
   ·exact hw.lt _ _ h2
  ·rcases x with x | ⟨rfl, _⟩
   ·exact hw.sobj c id o hc x
   ·have hc' : g.own c = some (.obj id) := hc
    rw [h2] at hc'; cases hc'
theorem arows_own {tok len : Nat} {rows : List (List Dat)} (h : arows A (.own tok len) = some rows) : ∃ b, A.bufs[tok]? = some b ∧ b.rows.length = len ∧ rows = b.rows ∧ b.frozen ≤ b.rows.length := by
 simp only [arows] at h
 split at h
 ·rename_i b hb
  split at h
  ·rename_i hl; cases h; exact ⟨b, hb, hl.1, rfl, by rw [hl.1]; exact hl.2⟩
  ·cases h
 ·cases h
theorem own_bf (hw : WRel W g A) {tok len : Nat} {v : Value} (hr : RelV W g A (.own tok len) v) {b : ABuf} (hb : A.bufs[tok]? = some b) (hl : b.rows.length = len) :
  ∃ blk cap, v = .slice (some ⟨blk, 0, none⟩) b.rows.length cap ∧ g.bf tok = .slice (some ⟨blk, 0, none⟩) b.rows.length cap := by
 cases hr with
 | own _ _ a cap ht h =>
   have h1 := (h b hb).2 hl
   obtain ⟨blk, cap', e1, _⟩ := (hw.buf tok b hb).bf
   refine ⟨blk, cap', ?_, e1⟩
   rw [h1, e1]
theorem adat_rel (hw : WRel W g A) {x : AV} {v : Value} (hr : RelV W g A x v) {d : Dat} {A' : AHeap} (h : adat A x = some (d, A')) :
  ∃ g', RelD W g'.S d v ∧ WRel W g' A' ∧ Ev W g A W g' A' := by
 cases x <;> simp only [adat] at h <;> try (cases h; done)
 case d y => cases h; cases hr with | d _ _ hd => exact ⟨g, hd, hw, .refl _ _ _⟩
 case nilS => cases h; cases hr; exact ⟨g, .empty none 0, hw, .refl _ _ _⟩
 case full rows => cases h; cases hr with | full _ a hd => exact ⟨g, hd, hw, .refl _ _ _⟩
 case own tok len =>
  rw [Option.map_eq_some_iff] at h
  obtain ⟨rows, hrows, h⟩ := h
  cases h
  obtain ⟨b, hb, hl, rfl, hfr⟩ := arows_own hrows
  obtain ⟨blk, cap, rfl, hbf⟩ := own_bf hw hr hb hl
  obtain ⟨h1, h2, h3⟩ := frozen_rel hw hb hfr hbf
  exact ⟨_, h1, h2, h3⟩
def RelDs (W : World) (S : Nat → Nat → Prop) (ds : List Dat) (vs : List Value) : Prop :=
 ds.length = vs.length ∧ ∀ (i : Nat) (d : Dat) (v : Value), ds[i]? = some d → vs[i]? = some v → RelD W S d v
theorem adats_rel : ∀ {xs : List AV} {vs : List Value} {ds : List Dat} {A A' : AHeap} {g : Gh}, WRel W g A → RelL W g A xs vs → adats A xs = some (ds, A') →
  ∃ g', RelDs W g'.S ds vs ∧ WRel W g' A' ∧ Ev W g A W g' A'
 | [], vs, ds, A, A', g, hw, hr, h => by
   simp only [adats] at h
   cases h
   exact ⟨g, ⟨hr.1, fun i d v h1 => by simp at h1⟩, hw, .refl _ _ _⟩
 | x :: xs, [], ds, A, A', g, hw, hr, h => by have := hr.1; simp at this
 | x :: xs, v :: vs, ds, A, A', g, hw, hr, h => by
   simp only [adats, Option.bind_eq_some_iff, Option.map_eq_some_iff] at h
   obtain ⟨⟨d, A1⟩, h1, ⟨ds', A2⟩, h2, h3⟩ := h
   cases h3
   obtain ⟨g1, r1, w1, e1⟩ := adat_rel hw (hr.2 0 x v rfl rfl) h1
   have hr' : RelL W g1 A1 xs vs := ⟨by have := hr.1; simpa using this, fun i y u a1 a2 => e1.relV (hr.2 (i + 1) y u (by simpa using a1) (by simpa using a2))⟩
   obtain ⟨g2, r2, w2, e2⟩ := adats_rel w1 hr' h2
   refine ⟨g2, ⟨by simp [r2.1], fun i y u a1 a2 => ?_⟩, w2, e1.trans e2⟩
   cases i with
   | zero => simp at a1 a2; subst a1; subst a2; exact e2.relD r1
   | succ i => simp at a1 a2; exact r2.2 i y u a1 a2
theorem aclean_rel (hw : WRel W g A) {x : AV} {v : Value} (hr : RelV W g A x v) : ∃ g', RelV W g' (aclean A x).2 (aclean A x).1 v ∧ WRel W g' (aclean A x).2 ∧ Ev W g A W g' (aclean A x).2 := by
 unfold aclean
 split
 ·cases hr; exact ⟨g, .d _ _ (.empty none 0), hw, .refl _ _ _⟩
 ·cases hr with | full _ a hd => exact ⟨g, .d _ _ hd, hw, .refl _ _ _⟩
 ·rename_i tok len
  split
  ·rename_i rows hrows
   obtain ⟨b, hb, hl, rfl, hfr⟩ := arows_own hrows
   obtain ⟨blk, cap, rfl, hbf⟩ := own_bf hw hr hb hl
   obtain ⟨h1, h2, h3⟩ := frozen_rel hw hb hfr hbf
   exact ⟨_, .d _ _ h1, h2, h3⟩
  ·exact ⟨g, hr, hw, .refl _ _ _⟩
 ·exact ⟨g, hr, hw, .refl _ _ _⟩
theorem acleans_rel : ∀ {xs : List AV} {vs : List Value} {A : AHeap} {g : Gh}, WRel W g A → RelL W g A xs vs →
  ∃ g', RelL W g' (acleans A xs).2 (acleans A xs).1 vs ∧ WRel W g' (acleans A xs).2 ∧ Ev W g A W g' (acleans A xs).2
 | [], vs, A, g, hw, hr => ⟨g, hr, hw, .refl _ _ _⟩
 | x :: xs, [], A, g, hw, hr => by have := hr.1; simp at this
 | x :: xs, v :: vs, A, g, hw, hr => by
   obtain ⟨g1, r1, w1, e1⟩ := aclean_rel hw (hr.2 0 x v rfl rfl)
   have hr' : RelL W g1 (aclean A x).2 xs vs := ⟨by have := hr.1; simpa using this, fun i y u a1 a2 => e1.relV (hr.2 (i + 1) y u (by simpa using a1) (by simpa using a2))⟩
   obtain ⟨g2, r2, w2, e2⟩ := acleans_rel w1 hr'
   refine ⟨g2, ⟨by simp [acleans, r2.1], fun i y u a1 a2 => ?_⟩, w2, e1.trans e2⟩
   simp only [acleans] at a1 ⊢
   cases i with
   | zero => simp at a1 a2; subst a1; subst a2; exact e2.relV r1
   | succ i => simp at a1 a2; exact r2.2 i y u a1 a2
theorem acleanV_rel (hw : WRel W g A) {x : AV} {v : Value} (hr : RelV W g A x v) : ∃ g', RelV W g' (acleanV A x).2 (acleanV A x).1 v ∧ WRel W g' (acleanV A x).2 ∧ Ev W g A W g' (acleanV A x).2 := by
 unfold acleanV
 split
 ·rename_i cs
  cases hr with
  | agg _ vs hl r =>
    obtain ⟨g', r', w', e'⟩ := acleans_rel hw (show RelL W g A cs vs from ⟨hl, r⟩)
    exact ⟨g', r'.agg, w', e'⟩
 ·exact aclean_rel hw hr
theorem acleanVs_rel : ∀ {xs : List AV} {vs : List Value} {A : AHeap} {g : Gh}, WRel W g A → RelL W g A xs vs →
  ∃ g', RelL W g' (acleanVs A xs).2 (acleanVs A xs).1 vs ∧ WRel W g' (acleanVs A xs).2 ∧ Ev W g A W g' (acleanVs A xs).2
 | [], vs, A, g, hw, hr => ⟨g, hr, hw, .refl _ _ _⟩
 | x :: xs, [], A, g, hw, hr => by have := hr.1; simp at this
 | x :: xs, v :: vs, A, g, hw, hr => by
   obtain ⟨g1, r1, w1, e1⟩ := acleanV_rel hw (hr.2 0 x v rfl rfl)
   have hr' : RelL W g1 (acleanV A x).2 xs vs := ⟨by have := hr.1; simpa using this, fun i y u a1 a2 => e1.relV (hr.2 (i + 1) y u (by simpa using a1) (by simpa using a2))⟩
   obtain ⟨g2, r2, w2, e2⟩ := acleanVs_rel w1 hr'
   refine ⟨g2, ⟨by simp [acleanVs, r2.1], fun i y u a1 a2 => ?_⟩, w2, e1.trans e2⟩
   simp only [acleanVs] at a1 ⊢
   cases i with
   | zero => simp at a1 a2; subst a1; subst a2; exact e2.relV r1
   | succ i => simp at a1 a2; exact r2.2 i y u a1 a2
theorem acleanR_rel (hw : WRel W g A) {x : AV} {v : Value} (hr : RelV W g A x v) : ∃ g', RelV W g' (acleanR A x).2 (acleanR A x).1 v ∧ WRel W g' (acleanR A x).2 ∧ Ev W g A W g' (acleanR A x).2 := by
 unfold acleanR
 split
 ·rename_i cs
  cases hr with
  | tuple _ vs hl r =>
    obtain ⟨g', r', w', e'⟩ := acleanVs_rel hw (show RelL W g A cs vs from ⟨hl, r⟩)
    exact ⟨g', .tuple _ _ r'.1 r'.2, w', e'⟩
 ·exact acleanV_rel hw hr
end
section
variable {P : Program} {W W' W0 : World} {g g' g0 : Gh} {A A' A0 : AHeap}
theorem cell_same {b k : Nat} (h : W'.heap[b]? = W.heap[b]?) : W'.cell? ⟨b, k, none⟩ = W.cell? ⟨b, k, none⟩ := by simp [World.cell?, h]
structure Local (W W' : World) (b0 : Nat) : Prop where
 size : W'.heap.size = W.heap.size
 heap : ∀ b, b ≠ b0 → W'.heap[b]? = W.heap[b]?
 rest : Rest W W'
theorem EvV.loc {b0 : Nat} (h : Local W W' b0) (hs : ∀ o, ¬ g.S b0 o) : EvV W g A W' g A where
 size := Nat.le_of_eq h.size.symm
 stab b o x := ⟨x, cell_same (h.heap b fun e => hs o (e ▸ x))⟩
 ob _ _ := rfl
 objs := Nat.le_refl _
 bufs tok b hb := ⟨b, hb, rfl, Nat.le_refl _, fun _ => rfl⟩
 rest := h.rest
theorem WRel.loc (hw : WRel W g A) {b0 : Nat} (h : Local W W' b0) (hs : ∀ o, ¬ g.S b0 o) (ho : g.own b0 = none) : WRel W' g A where
 obj id o hid := ⟨(hw.obj id o hid).1, ((hw.obj id o hid).2).ev (.loc h hs) (h.heap _ fun e => by have := (hw.obj id o hid).1; rw [e, ho] at this; cases this)⟩
 buf tok b hb := (hw.buf tok b hb).keep rfl (fun _ x => x) (fun blk hblk => h.heap _ fun e => by rw [e, ho] at hblk; cases hblk) (fun _ _ _ x => x) (fun _ _ r => (EvV.loc (g := g) (A := A) h hs).relD r)
 lt blk o hb := by rw [h.size]; exact hw.lt blk o hb
 stab b o x := by rw [h.size]; exact hw.stab b o x
 sobj := hw.sobj
theorem Ev.loc (e : Ev W0 g0 A0 W g A) {b0 : Nat} (h : Local W W' b0) (hs : ∀ o, ¬ g.S b0 o) (hN : W0.heap.size ≤ b0) : Ev W0 g0 A0 W' g A where
 toEvV := e.toEvV.trans (.loc h hs)
 free b hb ho := by
  obtain ⟨h1, h2, h3⟩ := e.free b hb ho
  exact ⟨(h.heap b (by omega)).trans h1, h2, h3⟩
theorem WRel.setObj (hw : WRel W g A) {id : Nat} {o' : AObj}
  (hbufs : A'.bufs = A.bufs) (hother : ∀ i, i ≠ id → A'.objs[i]? = A.objs[i]?) (hat : A'.objs[id]? = some o') (hlen : A.objs.length ≤ A'.objs.length)
  (hrest : Rest W W') (hsize : W.heap.size ≤ W'.heap.size) (hheap : ∀ blk, blk < W.heap.size → blk ≠ g'.ob id → W'.heap[blk]? = W.heap[blk]?)
  (hS : g'.S = g.S) (hbf : g'.bf = g.bf) (hob : ∀ i, i < A.objs.length → g'.ob i = g.ob i) (hown : ∀ blk, blk < W.heap.size → g'.own blk = g.own blk)
  (hownid : g'.own (g'.ob id) = some (.obj id)) (hlt : g'.ob id < W'.heap.size) (hownnew : ∀ blk o, W.heap.size ≤ blk → g'.own blk = some o → o = .obj id ∧ blk < W'.heap.size)
  (hnew : EvV W g A W' g' A' → ObjAt W' g' A' (g'.ob id) o') : WRel W' g' A' ∧ Ev W g A W' g' A' := by
 have hne : ∀ b o, b < W.heap.size → g.own b = o → o ≠ some (.obj id) → b ≠ g'.ob id := by
  intro b o hb h1 h2 e
  rw [← hown b hb, e, hownid] at h1
  exact h2 h1.symm
 have hSne : ∀ b o, g.S b o → b ≠ g'.ob id := by
  intro b o hs e
  have hb := hw.stab b o hs
  have := hown b hb
  rw [e, hownid] at this
  exact hw.sobj b id o (by rw [e]; exact this.symm) hs
 have hev : EvV W g A W' g' A' := by
  refine ⟨hsize, fun b o hs => ⟨by rw [hS]; exact hs, cell_same (hheap b (hw.stab b o hs) (hSne b o hs))⟩, hob, hlen, fun t b hb => ⟨b, by rw [hbufs]; exact hb, rfl, Nat.le_refl _, fun _ => by rw [hbf]⟩, hrest⟩
 refine ⟨⟨fun i o ho => ?_, fun t b hb => ?_, fun blk o ho => ?_, fun b o hs => ?_, fun blk i o ho hs => ?_⟩, ⟨hev, fun b hb ho => ?_⟩⟩
 ·by_cases hi : i = id
  ·subst hi
   rw [hat] at ho
   cases ho
   exact ⟨hownid, hnew hev⟩
  ·rw [hother i hi] at ho
   obtain ⟨h1, h2⟩ := hw.obj i o ho
   have hil := lt_of_get ho
   have hb := hw.lt _ _ h1
   rw [hob i hil, hown _ hb]
   refine ⟨h1, h2.ev hev (hheap _ hb (hne _ _ hb h1 fun e => ?_))⟩
   cases e; exact hi rfl
 ·rw [hbufs] at hb
  refine (hw.buf t b hb).keep (by rw [hbf]) (fun blk h => by rw [hown _ (hw.lt _ _ h)]; exact h) (fun blk h => hheap _ (hw.lt _ _ h) (hne _ _ (hw.lt _ _ h) h fun e => by cases e)) (fun _ _ _ x => by rw [hS] at x; exact x) (fun _ _ r => hev.relD r)
 ·rcases Nat.lt_or_ge blk W.heap.size with h | h
  ·omega
  ·exact (hownnew blk o h ho).2
 ·rw [hS] at hs
  have := hw.stab b o hs
  omega
 ·rw [hS] at hs
  have hb := hw.stab _ _ hs
  rw [hown _ hb] at ho
  exact hw.sobj _ _ _ ho hs
 ·refine ⟨hheap b hb (hne b _ hb ho fun e => by cases e), by rw [hown b hb]; exact ho, fun o x => by rw [hS] at x; exact x⟩
theorem WRel.setBuf (hw : WRel W g A) {tok : Nat} {b' : ABuf}
  (hobjs : A'.objs = A.objs) (hother : ∀ t, t ≠ tok → A'.bufs[t]? = A.bufs[t]?) (hat : A'.bufs[tok]? = some b')
  (hold : ∀ b, A.bufs[tok]? = some b → b'.sz = b.sz ∧ b.rows.length ≤ b'.rows.length ∧ (b'.rows.length = b.rows.length → g'.bf tok = g.bf tok))
  (hrest : Rest W W') (hsize : W.heap.size ≤ W'.heap.size) (hheap : ∀ blk, blk < W.heap.size → g.own blk ≠ some (.buf tok) → W'.heap[blk]? = W.heap[blk]?)
  (hS : g'.S = g.S) (hob : g'.ob = g.ob) (hbf : ∀ t, t ≠ tok → g'.bf t = g.bf t) (hown : ∀ blk, blk < W.heap.size → g'.own blk = g.own blk)
  (hownnew : ∀ blk o, W.heap.size ≤ blk → g'.own blk = some o → o = .buf tok ∧ blk < W'.heap.size)
  (hstab : ∀ blk k, g.own blk = some (.buf tok) → g.S blk k → W'.cell? ⟨blk, k, none⟩ = W.cell? ⟨blk, k, none⟩)
  (hnew : EvV W g A W' g' A' → BufAt W' g' tok b') : WRel W' g' A' ∧ Ev W g A W' g' A' := by
 have hev : EvV W g A W' g' A' := by
  refine ⟨hsize, fun b o hs => ⟨by rw [hS]; exact hs, ?_⟩, fun _ _ => by rw [hob], by rw [hobjs]; exact Nat.le_refl _, fun t b hb => ?_, hrest⟩
  ·by_cases h : g.own b = some (.buf tok)
   ·exact hstab b o h hs
   ·exact cell_same (hheap b (hw.stab b o hs) h)
  ·by_cases ht : t = tok
   ·subst ht
    obtain ⟨h1, h2, h3⟩ := hold b hb
    exact ⟨b', hat, h1, h2, h3⟩
   ·exact ⟨b, by rw [hother t ht]; exact hb, rfl, Nat.le_refl _, fun _ => hbf t ht⟩
 refine ⟨⟨fun i o ho => ?_, fun t b hb => ?_, fun blk o ho => ?_, fun b o hs => ?_, fun blk i o ho hs => ?_⟩, ⟨hev, fun b hb ho => ?_⟩⟩
 ·rw [hobjs] at ho
  obtain ⟨h1, h2⟩ := hw.obj i o ho
  have hb := hw.lt _ _ h1
  rw [hob, hown _ hb]
  exact ⟨h1, h2.ev hev (hheap _ hb (by rw [h1]; intro e; cases e))⟩
 ·by_cases ht : t = tok
  ·subst ht
   rw [hat] at hb
   cases hb
   exact hnew hev
  ·rw [hother t ht] at hb
   refine (hw.buf t b hb).keep (hbf t ht) (fun blk h => by rw [hown _ (hw.lt _ _ h)]; exact h) (fun blk h => hheap _ (hw.lt _ _ h) (by rw [h]; intro e; cases e; exact ht rfl)) (fun _ _ _ x => by rw [hS] at x; exact x) (fun _ _ r => hev.relD r)
 ·rcases Nat.lt_or_ge blk W.heap.size with h | h
  ·omega
  ·exact (hownnew blk o h ho).2
 ·rw [hS] at hs
  have := hw.stab b o hs
  omega
 ·rw [hS] at hs
  have hb := hw.stab _ _ hs
  rw [hown _ hb] at ho
  exact hw.sobj _ _ _ ho hs
 ·refine ⟨hheap b hb (by rw [ho]; intro e; cases e), by rw [hown b hb]; exact ho, fun o x => by rw [hS] at x; exact x⟩
def Gh.newObj (g : Gh) (id blk : Nat) : Gh := { g with ob := fun i => if i = id then blk else g.ob i, own := fun b => if b = blk then some (.obj id) else g.own b }
theorem WRel.pushObj (hw : WRel W g A) (o : AObj) (ob : Obj) (hp : plainObj ob) (hnew : ∀ g' A', EvV W g A (W.alloc ob) g' A' → ObjAt (W.alloc ob) g' A' W.heap.size o) :
  WRel (W.alloc ob) (g.newObj A.objs.length W.heap.size) { A with objs := A.objs ++ [o] } ∧ Ev W g A (W.alloc ob) (g.newObj A.objs.length W.heap.size) { A with objs := A.objs ++ [o] } := by
 refine hw.setObj (id := A.objs.length) (o' := o) rfl (fun i hi => ?_) (by simp) (by simp) (.alloc W hp) (by simp) (fun blk hb _ => heap_alloc_get hb) rfl rfl (fun i hi => ?_) (fun blk hb => ?_) ?_ ?_ (fun blk o' h1 h2 => ?_) (fun e => ?_)
 ·rcases Nat.lt_or_ge i A.objs.length with h | h
  ·rw [List.getElem?_append_left h]
  ·rw [List.getElem?_eq_none h, List.getElem?_eq_none (by simp; omega)]
 ·simp [Gh.newObj]; omega
 ·simp [Gh.newObj]; omega
 ·simp [Gh.newObj]
 ·simp [Gh.newObj]
 ·simp only [Gh.newObj] at h2
  split at h2
  ·rename_i hb; cases h2; exact ⟨rfl, by rw [hb]; simp⟩
  ·have := hw.lt _ _ h2; omega
 ·have := hnew _ _ e
  simpa [Gh.newObj] using this
theorem oneCell_rel {x : AV} {v : Value} (h : RelV W g A x v) (h1 : x.one = true) : v.oneCell' = true := by
 cases h <;> first | rfl | (simp [AV.one] at h1; done) | skip
 rename_i hd
 cases hd <;> rfl
theorem oneCells_rel {xs : List AV} {vs : List Value} (h : RelL W g A xs vs) (h1 : xs.all AV.one = true) : ∀ v ∈ vs, v.oneCell' = true := by
 intro v hv
 obtain ⟨i, hi, rfl⟩ := List.getElem_of_mem hv
 have hx : xs[i]? = some (xs[i]'(h.1 ▸ hi)) := List.getElem?_eq_getElem _
 refine oneCell_rel (h.2 i _ _ hx (List.getElem?_eq_getElem hi)) ?_
 exact List.all_eq_true.1 h1 _ (List.getElem_mem _)
theorem run_storeVar_at {t : TypeId} {n : Nat} {agg : Bool} (hk : kindT P t = some (n, agg)) {b o : Nat} {vs : Array Value} {T : TypeId} (hb : W.heap[b]? = some (.cells vs T (0, 0))) {v : Value} (hn : v.cells.size = n) (hfit : o + n ≤ vs.size)
  (h1 : ∀ u ∈ v.cells.toList, u.oneCell' = true) :
  (storeVar t ⟨b, o, none⟩ v).run P W = .ok () (W.setRow b (vs.toList.take o ++ v.cells.toList ++ vs.toList.drop (o + n)).toArray) := by
 have h := run_storeCells_at P b o T v.cells.toList 0 vs W hb (by simpa [hn] using hfit) h1
 simp only [Nat.add_zero, Array.length_toList, hn] at h
 simp only [storeVar, Sem.run_bind, run_sizeOf hk, Result.andThen_ok, hn, ne_eq, not_true_eq_false, if_false, Sem.run_pure, h]
theorem Rest.setRow (W : World) (b : Nat) (cs : Array Value) : Rest W (W.setRow b cs) := by
 exact ⟨rfl, rfl⟩
theorem setRow_local (b : Nat) (cs : Array Value) : Local W (W.setRow b cs) b := ⟨setRow_size W b cs, fun k h => setRow_other W b k cs h, .setRow W b cs⟩
theorem spliceV_rel {cs new cs' : List AV} {off : Nat} {vs vn : List Value} (hc : RelL W g A cs vs) (hn : RelL W g A new vn) (h : asplice cs off new = some cs') :
  RelL W g A cs' (vs.take off ++ vn ++ vs.drop (off + vn.length)) := by
 have h1 := (asplice_get h).1
 have e1 := hc.1
 have e2 := hn.1
 have hs : asplice (cs.take cs.length) off new = some cs' := by simpa using h
 refine asplice_rel hc hn h (by simp; omega) fun i => ?_
 by_cases h1' : i < off
 ·rw [if_neg (by omega), List.append_assoc, List.getElem?_append_left (by simp; omega), List.getElem?_take, if_pos h1']
 ·by_cases h2 : i < off + vn.length
  ·rw [if_pos (by omega), List.append_assoc, List.getElem?_append_right (by simp; omega), List.getElem?_append_left (by simp; omega)]
   congr 1
   simp; omega
  ·rw [if_neg (by omega), List.getElem?_append_right (by simp; omega), List.getElem?_drop]
   congr 1
   simp; omega
end
section
variable {P : Program} {W W' W0 : World} {g g' g0 : Gh} {A A' A0 : AHeap}
theorem RelD.one {S : Nat → Nat → Prop} {d : Dat} {v : Value} (h : RelD W S d v) : v.oneCell' = true := by cases h <;> rfl
structure RowVals (W : World) (S : Nat → Nat → Prop) (rows : List (List Dat)) (sz : Nat) (a : Addr) (news : List Value) : Prop where
 len : news.length = rows.length * sz
 at' : ∀ j v, news[j]? = some v → W.cell? (a.add j) = some v
 one : ∀ v ∈ news, v.oneCell' = true
 rel : ∀ (i j : Nat) (row : List Dat) (c : Dat), rows[i]? = some row → row[j]? = some c → ∃ v, news[i * sz + j]? = some v ∧ RelD W S c v
theorem idx_lt {i n j sz : Nat} (hi : i < n) (hj : j < sz) : i * sz + j < n * sz := by
 calc i * sz + j < i * sz + sz := by omega
  _ = (i + 1) * sz := by rw [Nat.add_mul, Nat.one_mul]
  _ ≤ n * sz := Nat.mul_le_mul_right _ hi
theorem rows_at {rows : List (List Dat)} {sz k : Nat} (hsz : 0 < sz) (hlen : ∀ (i : Nat) (row : List Dat), rows[i]? = some row → row.length = sz) (hk : k < rows.length * sz) :
  ∃ row c, rows[k / sz]? = some row ∧ row[k % sz]? = some c := by
 have hi : k / sz < rows.length := (Nat.div_lt_iff_lt_mul hsz).2 hk
 have h1 : rows[k / sz]? = some (rows[k / sz]) := List.getElem?_eq_getElem hi
 have hl := hlen _ _ h1
 have hj : k % sz < (rows[k / sz]).length := by rw [hl]; exact Nat.mod_lt _ hsz
 exact ⟨_, _, h1, List.getElem?_eq_getElem hj⟩
theorem rowVals_of_data {S : Nat → Nat → Prop} {rows : List (List Dat)} {a : Addr} {n cap sz : Nat} (hsz : 0 < sz) (h : RelD W S (.slice rows) (.slice (some a) n cap)) (hall : rows.all (fun r => r.length == sz) = true) :
  n = rows.length ∧ ∃ news, RowVals W S rows sz a news := by
 have hlen : ∀ (i : Nat) (row : List Dat), rows[i]? = some row → row.length = sz := by
  intro i row hi
  have := List.all_eq_true.1 hall row (List.mem_of_getElem? hi)
  simpa using this
 generalize hd : Dat.slice rows = d at h
 generalize hv : Value.slice (some a) n cap = v at h
 cases h with
 | bool b => cases hd
 | int k n => cases hd
 | str s => cases hd
 | nil => cases hd
 | empty a' cap' =>
   cases hd; cases hv
   exact ⟨rfl, [], by simp, fun j v h => by simp at h, fun v h => by simp at h, fun i j row c h => by simp at h⟩
 | slice rows' b o cap' sz' val hcap hlen' hcell hval =>
   cases hd; cases hv
   refine ⟨rfl, ?_⟩
   have hszz : ∀ (i : Nat) (row : List Dat), rows[i]? = some row → sz' = sz := fun i row hi => by rw [← hlen i row hi, hlen' i row hi]
   refine ⟨(List.range (rows.length * sz)).map fun k => val (k / sz) (k % sz), by simp, fun j v hj => ?_, fun v hv => ?_, fun i j row c h1 h2 => ?_⟩
   ·rw [List.getElem?_map, Option.map_eq_some_iff] at hj
    obtain ⟨k, hk, rfl⟩ := hj
    obtain ⟨hk1, hk2⟩ := List.getElem?_eq_some_iff.1 hk
    simp at hk1 hk2
    subst hk2
    obtain ⟨row, c, e1, e2⟩ := rows_at hsz hlen hk1
    have hc := (hcell _ _ row c e1 e2).2
    rw [hszz _ row e1] at hc
    rw [addr_add]
    have : o + j / sz * sz + j % sz = o + j := by have := Nat.div_add_mod' j sz; omega
    rw [this] at hc
    exact hc
   ·obtain ⟨k, hk, rfl⟩ := List.mem_map.1 hv
    obtain ⟨row, c, e1, e2⟩ := rows_at hsz hlen (List.mem_range.1 hk)
    exact (hval _ _ row c e1 e2).one
   ·have hi := lt_of_get h1
    have hj := lt_of_get h2
    rw [hlen i row h1] at hj
    refine ⟨val i j, ?_, hval i j row c h1 h2⟩
    rw [List.getElem?_map, List.getElem?_range (idx_lt hi hj)]
    have e1 : (i * sz + j) / sz = i := by rw [Nat.mul_comm, Nat.mul_add_div hsz, Nat.div_eq_of_lt hj, Nat.add_zero]
    have e2 : (i * sz + j) % sz = j := by rw [Nat.mul_comm, Nat.mul_add_mod, Nat.mod_eq_of_lt hj]
    simp [e1, e2]
theorem rowVals_of_buf {tok : Nat} {b : ABuf} (h : BufAt W g tok b) (hfr : b.frozen ≤ b.rows.length) (hsz : 0 < b.sz) {blk cap n : Nat} (hb : g.bf tok = .slice (some ⟨blk, 0, none⟩) n cap) :
  ∃ vs, W.heap[blk]? = some (.cells vs b.e (0, 0)) ∧ vs.size = cap * b.sz ∧ b.rows.length ≤ cap ∧ n = b.rows.length ∧ RowVals W g.S b.rows b.sz ⟨blk, 0, none⟩ (vs.toList.take (b.rows.length * b.sz)) := by
 obtain ⟨blk', cap', vs, h1, h2, h3, h4, h5, h6, h7, h8, h9, h10⟩ := h.ex hfr
 rw [hb] at h1
 cases h1
 have hle : b.rows.length * b.sz ≤ vs.size := by rw [h4]; exact Nat.mul_le_mul_right _ h5
 refine ⟨vs, h3, h4, h5, rfl, by simp [hle], fun j v hj => ?_, fun v hv => ?_, fun i j row c e1 e2 => ?_⟩
 ·rw [List.getElem?_take] at hj
  split at hj
  ·rw [addr_add, Nat.zero_add, cell_of_row W blk _ vs b.e (0, 0) h3, ← Array.getElem?_toList]
   exact hj
  ·cases hj
 ·obtain ⟨k, hk⟩ := List.getElem?_of_mem hv
  rw [List.getElem?_take] at hk
  split at hk
  ·rename_i hlt
   obtain ⟨row, c, e1, e2⟩ := rows_at hsz h8 hlt
   obtain ⟨v', hv', hr⟩ := h9 _ _ row c e1 e2
   have : k / b.sz * b.sz + k % b.sz = k := Nat.div_add_mod' k b.sz
   rw [this, ← Array.getElem?_toList, hk] at hv'
   cases hv'
   exact hr.one
  ·cases hk
 ·have hi := lt_of_get e1
  have hj := lt_of_get e2
  rw [h8 i row e1] at hj
  obtain ⟨v, hv, hr⟩ := h9 i j row c e1 e2
  refine ⟨v, ?_, hr⟩
  rw [List.getElem?_take, if_pos (idx_lt hi hj), Array.getElem?_toList]
  exact hv
theorem src_vals (hw : WRel W g A) {y : AV} {u : Value} (hr : RelV W g A y u) {src : List (List Dat)} (h : arows A y = some src) {sz : Nat} (hsz : 0 < sz) (hall : src.all (fun r => r.length == sz) = true) :
  ∃ oa c, u = .slice oa src.length c ∧ (src ≠ [] → ∃ a news, oa = some a ∧ RowVals W g.S src sz a news) := by
 have data : ∀ {v : Value}, RelD W g.S (.slice src) v → ∃ oa c, v = .slice oa src.length c ∧ (src ≠ [] → ∃ a news, oa = some a ∧ RowVals W g.S src sz a news) := by
  intro v hd
  generalize hd' : Dat.slice src = d at hd
  cases hd with
  | empty a cap => cases hd'; exact ⟨a, cap, rfl, fun h => absurd rfl h⟩
  | slice rows b o cap sz' val hcap hlen hcell hval =>
    cases hd'
    refine ⟨_, cap, rfl, fun _ => ⟨⟨b, o, none⟩, ?_⟩⟩
    obtain ⟨_, news, hn⟩ := rowVals_of_data hsz (.slice src b o cap sz' val hcap hlen hcell hval) hall
    exact ⟨news, rfl, hn⟩
  | _ => cases hd'
 cases y <;> simp only [arows] at h <;> try (cases h; done)
 case d x =>
  cases x <;> simp only [arows] at h <;> try (cases h; done)
  cases h
  cases hr with
  | d _ _ hd => exact data hd
 case nilS => cases h; cases hr; exact ⟨none, 0, rfl, fun h => absurd rfl h⟩
 case full rows =>
  cases h
  cases hr with
  | full _ a hd => exact data hd
 case own tok len =>
  obtain ⟨b, hb, hl, rfl, hfr⟩ := arows_own h
  obtain ⟨blk, cap, rfl, hbf⟩ := own_bf hw hr hb hl
  refine ⟨_, cap, rfl, fun hne => ⟨⟨blk, 0, none⟩, ?_⟩⟩
  have hbs : b.sz = sz := by
   obtain ⟨blk', cap', vs, h1, h2, h3, h4, h5, h6, h7, h8, h9, h10⟩ := (hw.buf tok b hb).ex hfr
   cases hrows : b.rows with
   | nil => exact absurd hrows hne
   | cons r rs =>
     have := h8 0 r (by rw [hrows]; rfl)
     have h2 := List.all_eq_true.1 hall r (by rw [hrows]; simp)
     simp at h2
     omega
  obtain ⟨vs, _, _, _, _, hv⟩ := rowVals_of_buf (hw.buf tok b hb) hfr (by omega) hbf
  rw [hbs] at hv
  exact ⟨_, rfl, hv⟩
theorem run_append_none (t ty e : TypeId) {n : Nat} {agg : Bool} (ht : P.underlying t = some (.slice e)) (hk : kindT P e = some (n, agg)) (s : Option Addr) (len cap : Nat) (hc : len ≤ cap) (oa : Option Addr) (c : Nat) :
  (Builtin.append_ #[t, t] ty #[.slice s len cap, .slice oa 0 c]).run P W = .ok (.slice s len cap) W := by
 have hf : (Builtin.firstCells n 0 (.slice oa 0 c)).run P W = .ok #[] W := by
  cases oa <;> simp [Builtin.firstCells, loadCells, loadCellsFrom]
 cases s <;> simp [Builtin.append_, run_underlying ht, run_sizeOf hk, Builtin.lenOf, hc, hf, storeCells]
def Gh.newBuf (g : Gh) (tok blk : Nat) (v : Value) : Gh := { g with bf := fun t => if t = tok then v else g.bf t, own := fun b => if b = blk then some (.buf tok) else g.own b }
theorem drewAlloc (W : World) (c : Array Value) (t : TypeId) : Rest W (W.drew.alloc (.cells c t)) :=
 ⟨rfl, rfl⟩
theorem WRel.newBlock (hw : WRel W g A) {tok : Nat} {b' : ABuf} {vs : Array Value} {cap : Nat} (hbufs : ∀ t, t ≠ tok → A'.bufs[t]? = A.bufs[t]?) (hobjs : A'.objs = A.objs) (hat : A'.bufs[tok]? = some b')
  (hold : ∀ b, A.bufs[tok]? = some b → b'.sz = b.sz ∧ b.rows.length < b'.rows.length)
  (hcap : b'.rows.length ≤ cap) (hm : cap ≤ maxLen) (hsz : vs.size = cap * b'.sz) (hfz : b'.frozen ≤ b'.rows.length)
  (hlen : ∀ (i : Nat) (row : List Dat), b'.rows[i]? = some row → row.length = b'.sz)
  (hrel : ∀ (i j : Nat) (row : List Dat) (c : Dat), b'.rows[i]? = some row → row[j]? = some c → ∃ v, vs[i * b'.sz + j]? = some v ∧ RelD W g.S c v) (hW : W'.heap = (W.alloc (.cells vs b'.e)).heap) (hrest : Rest W W') :
  WRel W' (g.newBuf tok W.heap.size (.slice (some ⟨W.heap.size, 0, none⟩) b'.rows.length cap)) A' ∧
  Ev W g A W' (g.newBuf tok W.heap.size (.slice (some ⟨W.heap.size, 0, none⟩) b'.rows.length cap)) A' ∧
  RelV W' (g.newBuf tok W.heap.size (.slice (some ⟨W.heap.size, 0, none⟩) b'.rows.length cap)) A' (.own tok b'.rows.length) (.slice (some ⟨W.heap.size, 0, none⟩) b'.rows.length cap) := by
 have hsize : W'.heap.size = W.heap.size + 1 := by rw [hW]; simp
 have h := hw.setBuf (W' := W') (g' := g.newBuf tok W.heap.size (.slice (some ⟨W.heap.size, 0, none⟩) b'.rows.length cap)) (A' := A') (tok := tok) (b' := b') hobjs hbufs hat
  (fun b hb => ⟨(hold b hb).1, Nat.le_of_lt (hold b hb).2, fun e => by have := (hold b hb).2; omega⟩) hrest (by omega) (fun blk hb _ => by rw [hW]; exact heap_alloc_get hb) rfl rfl
  (fun t ht => by simp [Gh.newBuf, ht]) (fun blk hb => by simp [Gh.newBuf]; omega) (fun blk o h1 h2 => by
   simp only [Gh.newBuf] at h2
   split at h2
   ·rename_i hb; cases h2; exact ⟨rfl, by omega⟩
   ·have := hw.lt _ _ h2; omega) (fun blk k h1 _ => cell_same (by rw [hW]; exact heap_alloc_get (hw.lt _ _ h1))) (fun e => ?_)
 ·refine ⟨h.1, h.2, .own tok _ _ _ (lt_of_get hat) fun b hb => ?_⟩
  rw [hat] at hb
  cases hb
  exact ⟨Nat.le_refl _, fun _ => by simp [Gh.newBuf]⟩
 ·refine .of ⟨W.heap.size, cap, vs, by simp [Gh.newBuf], by simp [Gh.newBuf], by rw [hW]; exact heap_alloc_new W _, hsz, hcap, hm, hfz, hlen, fun i j row c e1 e2 => ?_, fun k hk => ?_⟩
  ·obtain ⟨v, hv, hr⟩ := hrel i j row c e1 e2
   exact ⟨v, hv, e.relD hr⟩
  ·have := hw.stab _ _ hk
   omega
theorem kind_info {e : TypeId} {sz : Nat} {agg : Bool} (hk : kindT P e = some (sz, agg)) {z : AV} (hz : zeroT P e = some z) (hzl : z.cells.length = sz) :
  ∃ i v, P.info? e = some i ∧ i.size = sz ∧ i.zero = some v ∧ v.cells.size = sz ∧ i.bytes = P.bytesOf e ∧ aval v = some z := by
 obtain ⟨i, d, hi, hd, hs, _⟩ := kindT_some hk
 simp only [zeroT, hi, Option.bind_some, Option.bind_eq_some_iff] at hz
 obtain ⟨v, hv, hz⟩ := hz
 refine ⟨i, v, hi, hs, hv, ?_, by simp [Program.bytesOf, hi], hz⟩
 have := (cells_rel (aval_rel (W := default) (g := ⟨fun _ _ => False, fun _ => 0, fun _ => undef, fun _ => none⟩) (A := ⟨[], []⟩) hz)).1
 simp at this
 omega
theorem set_same {α : Type} {l : List α} {k : Nat} {x : α} (h : l[k]? = some x) : l.set k x = l := by
 apply List.ext_getElem?
 intro q
 rw [List.getElem?_set]
 split
 ·rename_i hk
  subst hk
  rw [if_pos (lt_of_get h), h]
 ·rfl
structure AppSrc (P : Program) (W : World) (S : Nat → Nat → Prop) (ts : Array TypeId) (ty e : TypeId) (i : TypeInfo) (zc : Value) (u2 : Value) (src : List (List Dat)) (news : List Value) : Prop where
 len : news.length = src.length * i.size
 one : ∀ v ∈ news, v.oneCell' = true
 rel : ∀ (k j : Nat) (row : List Dat) (c : Dat), src[k]? = some row → row[j]? = some c → ∃ v, news[k * i.size + j]? = some v ∧ RelD W S c v
 non : src = [] → ∀ (s : Option Addr) (len cap : Nat), len ≤ cap → (Builtin.append_ ts ty #[.slice s len cap, u2]).run P W = .ok (.slice s len cap) W
 nil : 0 < src.length → (src.length : Int) ≤ 9223372036854775807 → src.length * i.bytes ≤ 281474976710656 → (Builtin.append_ ts ty #[.slice none 0 0, u2]).run P W =
     .ok (.slice (some ⟨W.heap.size, 0, none⟩) src.length (grownCap W src.length 0 e)) (W.drew.alloc (.cells (news.toArray ++ Builtin.zeroCells zc.cells (grownCap W src.length 0 e - src.length)) e))
 room : 0 < src.length → ∀ (g sLen sCap : Nat) (cur : Array Value), W.heap[g]? = some (.cells cur e (0, 0)) → sLen + src.length ≤ sCap → sLen * i.size + news.length ≤ cur.size → (Builtin.append_ ts ty #[.slice (some ⟨g, 0, none⟩) sLen sCap, u2]).run P W =
   .ok (.slice (some ⟨g, 0, none⟩) (sLen + src.length) sCap) (W.setRow g (cur.toList.take (sLen * i.size) ++ news ++ cur.toList.drop (sLen * i.size + news.length)).toArray)
 grow : 0 < src.length → ∀ (b : Addr) (sLen sCap : Nat) (olds : List Value), olds.length = sLen * i.size → (∀ (j : Nat) (v : Value), olds[j]? = some v → W.cell? (b.add j) = some v) → sCap < sLen + src.length → ((sLen + src.length : Nat) : Int) ≤ 9223372036854775807 →
   Builtin.nextslicecap (sLen + src.length) sCap * i.bytes ≤ 281474976710656 → (Builtin.append_ ts ty #[.slice (some b) sLen sCap, u2]).run P W =
   .ok (.slice (some ⟨W.heap.size, 0, none⟩) (sLen + src.length) (grownCap W (sLen + src.length) sCap e))
    (W.drew.alloc (.cells (olds.toArray ++ news.toArray ++ Builtin.zeroCells zc.cells (grownCap W (sLen + src.length) sCap e - (sLen + src.length))) e))
theorem rowVals_app {S : Nat → Nat → Prop} {r1 r2 : List (List Dat)} {sz : Nat} {a : Addr} {n1 n2 : List Value} (h1 : RowVals W S r1 sz a n1) (h2 : n2.length = r2.length * sz) (h3 : ∀ (i j : Nat) (row : List Dat) (c : Dat), r2[i]? = some row → row[j]? = some c → ∃ v, n2[i * sz + j]? = some v ∧ RelD W S c v) :
  (n1 ++ n2).length = (r1 ++ r2).length * sz ∧ ∀ (i j : Nat) (row : List Dat) (c : Dat), (r1 ++ r2)[i]? = some row → row[j]? = some c → row.length = sz → ∃ v, (n1 ++ n2)[i * sz + j]? = some v ∧ RelD W S c v := by
 refine ⟨by simp [h1.len, h2, Nat.add_mul], fun i j row c e1 e2 e3 => ?_⟩
 have hj := lt_of_get e2
 rw [e3] at hj
 by_cases hi : i < r1.length
 ·rw [List.getElem?_append_left hi] at e1
  obtain ⟨v, hv, hr⟩ := h1.rel i j row c e1 e2
  exact ⟨v, by rw [List.getElem?_append_left (by rw [h1.len]; exact idx_lt hi hj)]; exact hv, hr⟩
 ·rw [List.getElem?_append_right (by omega)] at e1
  obtain ⟨v, hv, hr⟩ := h3 _ j row c e1 e2
  have hge : r1.length * sz ≤ i * sz := Nat.mul_le_mul_right _ (by omega)
  refine ⟨v, ?_, hr⟩
  rw [List.getElem?_append_right (by rw [h1.len]; omega), h1.len]
  have : i * sz + j - r1.length * sz = (i - r1.length) * sz + j := by rw [Nat.sub_mul]; omega
  rw [this]
  exact hv
set_option maxHeartbeats 2000000 in
theorem append_gen (hw : WRel W g A) {ts : Array TypeId} {ty e : TypeId} {sz : Nat} {agg : Bool} (hk : kindT P e = some (sz, agg)) {x z : AV} {u u2 : Value} (hx : RelV W g A x u)
  {src : List (List Dat)} (hS : ∀ (i : TypeInfo) (zc : Value), P.info? e = some i → i.zero = some zc → i.size = sz → i.bytes = P.bytesOf e → src.all (fun r => r.length == sz) = true → ∃ news, AppSrc P W g.S ts ty e i zc u2 src news) (h : aappend P e sz A x src = some (z, A')) :
  ∃ v W' g', (Builtin.append_ ts ty #[u, u2]).run P W = .ok v W' ∧ RelV W' g' A' z v ∧ WRel W' g' A' ∧ Ev W g A W' g' A' := by
 unfold aappend at h
 split at h
 case isFalse => cases h
 rename_i hc
 obtain ⟨hroom, hall⟩ := hc
 simp only [aroomT, Bool.and_eq_true, decide_eq_true_eq] at hroom
 obtain ⟨⟨hsz, hbytes⟩, hz⟩ := hroom
 split at hz
 case h_2 => cases hz
 rename_i zv hzt
 obtain ⟨i, zc, hi, his, hiz, hzs, hib, _⟩ := kind_info hk hzt (by simpa using hz)
 subst his
 obtain ⟨news, hv⟩ := hS i zc hi hiz rfl hib hall
 have hlenS : ∀ (k : Nat) (row : List Dat), src[k]? = some row → row.length = i.size := by
  intro k row hk'
  have := List.all_eq_true.1 hall row (List.mem_of_getElem? hk')
  simpa using this
 -- the new block
 have make : ∀ (n old : Nat) (xs ys : List Value), old < n → n ≤ 4194304 → (xs ++ ys).length = n * i.size →
   grownCap W n old e ≤ maxLen ∧ n ≤ grownCap W n old e ∧ (xs.toArray ++ ys.toArray ++ Builtin.zeroCells zc.cells (grownCap W n old e - n)).size = grownCap W n old e * i.size ∧
   (∀ (k : Nat) (v : Value), (xs ++ ys)[k]? = some v → (xs.toArray ++ ys.toArray ++ Builtin.zeroCells zc.cells (grownCap W n old e - n))[k]? = some v) := by
  intro n old xs ys h1 h2 h3
  have hge := grownCap_ge W n old e
  refine ⟨grownCap_le_maxLen W n old e (by simp only [maxLen]; omega), hge, ?_, fun k v hkv => ?_⟩
  ·simp only [Array.size_append, List.size_toArray, size_zeroCells, hzs]
   rw [← List.length_append, h3, ← Nat.add_mul]
   congr 1
   omega
  ·have hkl := lt_of_get hkv
   rw [← Array.getElem?_toList]
   simp only [Array.toList_append]
   rw [List.getElem?_append_left hkl]
   exact hkv
 have fits : ∀ n old, old < n → n ≤ 4194304 → Builtin.nextslicecap n old * i.bytes ≤ 281474976710656 := by
  intro n old h1 h2
  refine growslice_fits h1 ?_
  rw [hib]
  calc n * P.bytesOf e ≤ 4194304 * 1048576 := Nat.mul_le_mul h2 hbytes
   _ ≤ 140737488355328 := by omega
 split at h
 ·-- onto nil
  cases hx
  split at h
  ·rename_i hnil
   cases h
   subst hnil
   exact ⟨_, W, g, hv.non rfl none 0 0 (Nat.le_refl _), .nilS, hw, .refl _ _ _⟩
  ·rename_i hne
   split at h
   case isFalse => cases h
   rename_i hle
   cases h
   have hpos : 0 < src.length := by cases src with | nil => exact absurd rfl hne | cons _ _ => simp
   obtain ⟨m1, m2, m3, m4⟩ := make src.length 0 [] news hpos hle (by simpa using hv.len)
   have hr := hv.nil hpos (by omega) (by
    rw [hib]
    calc src.length * P.bytesOf e ≤ 4194304 * 1048576 := Nat.mul_le_mul hle hbytes
     _ ≤ 281474976710656 := by omega)
   obtain ⟨w1, w2, w3⟩ := hw.newBlock (A' := { A with bufs := A.bufs ++ [⟨e, i.size, src, 0⟩] }) (W' := W.drew.alloc (.cells (news.toArray ++ Builtin.zeroCells zc.cells (grownCap W src.length 0 e - src.length)) e)) (tok := A.bufs.length) (b' := ⟨e, i.size, src, 0⟩)
    (vs := (news.toArray ++ Builtin.zeroCells zc.cells (grownCap W src.length 0 e - src.length))) (cap := grownCap W src.length 0 e)
    (fun t ht => by
     rcases Nat.lt_or_ge t A.bufs.length with h | h
     ·simp [List.getElem?_append_left h]
     ·rw [List.getElem?_eq_none (by simp; omega), List.getElem?_eq_none h]) rfl (by simp) (fun b hb => by simp at hb) m2 m1 (by simpa using m3) (Nat.zero_le _) hlenS
    (fun k j row c' e1 e2 => by
     obtain ⟨v, hv1, hv2⟩ := hv.rel k j row c' e1 e2
     exact ⟨v, by simpa using m4 _ v (by simpa using hv1), hv2⟩) rfl (drewAlloc W _ _)
   exact ⟨_, _, _, hr, w3, w1, w2⟩
 ·-- onto what is known to be nil
  have hu : u = .slice none 0 0 := by
   cases hx with
   | d _ _ hd => cases hd; rfl
  subst hu
  split at h
  ·rename_i hnil
   cases h
   subst hnil
   exact ⟨_, W, g, hv.non rfl none 0 0 (Nat.le_refl _), .nilS, hw, .refl _ _ _⟩
  ·rename_i hne
   split at h
   case isFalse => cases h
   rename_i hle
   cases h
   have hpos : 0 < src.length := by cases src with | nil => exact absurd rfl hne | cons _ _ => simp
   obtain ⟨m1, m2, m3, m4⟩ := make src.length 0 [] news hpos hle (by simpa using hv.len)
   have hr := hv.nil hpos (by omega) (by
    rw [hib]
    calc src.length * P.bytesOf e ≤ 4194304 * 1048576 := Nat.mul_le_mul hle hbytes
     _ ≤ 281474976710656 := by omega)
   obtain ⟨w1, w2, w3⟩ := hw.newBlock (A' := { A with bufs := A.bufs ++ [⟨e, i.size, src, 0⟩] }) (W' := W.drew.alloc (.cells (news.toArray ++ Builtin.zeroCells zc.cells (grownCap W src.length 0 e - src.length)) e)) (tok := A.bufs.length) (b' := ⟨e, i.size, src, 0⟩)
    (vs := (news.toArray ++ Builtin.zeroCells zc.cells (grownCap W src.length 0 e - src.length))) (cap := grownCap W src.length 0 e)
    (fun t ht => by
     rcases Nat.lt_or_ge t A.bufs.length with h | h
     ·simp [List.getElem?_append_left h]
     ·rw [List.getElem?_eq_none (by simp; omega), List.getElem?_eq_none h]) rfl (by simp) (fun b hb => by simp at hb) m2 m1 (by simpa using m3) (Nat.zero_le _) hlenS
    (fun k j row c' e1 e2 => by
     obtain ⟨v, hv1, hv2⟩ := hv.rel k j row c' e1 e2
     exact ⟨v, by simpa using m4 _ v (by simpa using hv1), hv2⟩) rfl (drewAlloc W _ _)
   exact ⟨_, _, _, hr, w3, w1, w2⟩
 ·-- onto a full slice
  rename_i rows
  cases hx with
  | full _ a0 hd =>
  split at h
  ·rename_i hnil
   cases h
   subst hnil
   exact ⟨_, W, g, hv.non rfl _ _ _ (Nat.le_refl _), .full rows a0 hd, hw, .refl _ _ _⟩
  ·rename_i hne
   split at h
   case isFalse => cases h
   rename_i hle
   obtain ⟨hle, hrall⟩ := hle
   cases h
   obtain ⟨_, olds, ho⟩ := rowVals_of_data hsz hd hrall
   have hpos : 0 < src.length := by cases src with | nil => exact absurd rfl hne | cons _ _ => simp
   obtain ⟨l1, l2⟩ := rowVals_app ho hv.len hv.rel
   obtain ⟨m1, m2, m3, m4⟩ := make (rows.length + src.length) rows.length olds news (by omega) hle (by simpa using l1)
   have hr := hv.grow hpos a0 rows.length rows.length olds ho.len ho.at' (by omega) (by omega) (fits _ _ (by omega) hle)
   have hlenR : ∀ (k : Nat) (row : List Dat), rows[k]? = some row → row.length = i.size := by
    intro k row hk'
    have := List.all_eq_true.1 hrall row (List.mem_of_getElem? hk')
    simpa using this
   have hlen2 : ∀ (k : Nat) (row : List Dat), (rows ++ src)[k]? = some row → row.length = i.size := by
    intro k row hk'
    rcases List.mem_append.1 (List.mem_of_getElem? hk') with h | h
    ·obtain ⟨q, hq⟩ := List.getElem?_of_mem h; exact hlenR q row hq
    ·obtain ⟨q, hq⟩ := List.getElem?_of_mem h; exact hlenS q row hq
   obtain ⟨w1, w2, w3⟩ := hw.newBlock (A' := { A with bufs := A.bufs ++ [⟨e, i.size, rows ++ src, 0⟩] }) (W' := W.drew.alloc (.cells (olds.toArray ++ news.toArray ++ Builtin.zeroCells zc.cells (grownCap W (rows.length + src.length) rows.length e - (rows.length + src.length))) e)) (tok := A.bufs.length) (b' := ⟨e, i.size, rows ++ src, 0⟩)
    (vs := (olds.toArray ++ news.toArray ++ Builtin.zeroCells zc.cells (grownCap W (rows.length + src.length) rows.length e - (rows.length + src.length)))) (cap := grownCap W (rows.length + src.length) rows.length e)
    (fun t ht => by
     rcases Nat.lt_or_ge t A.bufs.length with h | h
     ·simp [List.getElem?_append_left h]
     ·rw [List.getElem?_eq_none (by simp; omega), List.getElem?_eq_none h]) rfl (by simp) (fun b hb => by simp at hb) (by simpa using m2) m1 m3 (Nat.zero_le _) hlen2
    (fun k j row c' e1 e2 => by
     obtain ⟨v, hv1, hv2⟩ := l2 k j row c' e1 e2 (hlen2 k row e1)
     exact ⟨v, m4 _ v hv1, hv2⟩) rfl (drewAlloc W _ _)
   simp only [List.length_append] at w3 w1 w2
   exact ⟨_, _, _, hr, w3, w1, w2⟩
 ·-- onto an owned slice
  rename_i tok len
  split at h
  case h_2 => cases h
  rename_i b hb
  split at h
  case isFalse => cases h
  rename_i hcond
  obtain ⟨hl, hbsz, hbe, hle, hfr'⟩ := hcond
  have hfr : b.frozen ≤ b.rows.length := by rw [hl]; exact hfr'
  cases h
  subst hbe
  obtain ⟨blk, cap, rfl, hbf⟩ := own_bf hw hx hb hl
  have hbuf := hw.buf tok b hb
  by_cases hne : src = []
  ·subst hne
   have hset : ({ A with bufs := A.bufs.set tok { b with rows := b.rows ++ [] } } : AHeap) = A := by
    have h1 : ({ b with rows := b.rows ++ [] } : ABuf) = b := by simp
    rw [h1]
    have h2 : A.bufs.set tok b = A.bufs := set_same hb
    rw [h2]
   obtain ⟨vs, _, _, hcap, _, _⟩ := rowVals_of_buf hbuf hfr (by omega) hbf
   refine ⟨_, W, g, hv.non rfl _ _ _ hcap, ?_, by rw [hset]; exact hw, by rw [hset]; exact .refl _ _ _⟩
   rw [hset]
   simpa [← hl] using hx
  ·obtain ⟨vs, g1, g2, g3, _, ho⟩ := rowVals_of_buf hbuf hfr (by omega) hbf
   rw [hbsz] at ho g2
   have hpos : 0 < src.length := by cases src with | nil => exact absurd rfl hne | cons _ _ => simp
   obtain ⟨l1, l2⟩ := rowVals_app ho hv.len hv.rel
   obtain ⟨blk', cap', vs', k1, k2, k3, k4, k5, k6, k7, k8, k9, k10⟩ := hbuf.ex hfr
   rw [hbf] at k1
   cases k1
   rw [g1] at k3
   cases k3
   have hlen2 : ∀ (k : Nat) (row : List Dat), (b.rows ++ src)[k]? = some row → row.length = i.size := by
    intro k row hk'
    rcases List.mem_append.1 (List.mem_of_getElem? hk') with h | h
    ·obtain ⟨q, hq⟩ := List.getElem?_of_mem h; rw [k8 q row hq, hbsz]
    ·obtain ⟨q, hq⟩ := List.getElem?_of_mem h; exact hlenS q row hq
   have htl := lt_of_get hb
   have hother : ∀ t, t ≠ tok → (A.bufs.set tok { b with rows := b.rows ++ src })[t]? = A.bufs[t]? := fun t ht => by rw [List.getElem?_set_ne (fun e => ht e.symm)]
   have hat : (A.bufs.set tok { b with rows := b.rows ++ src })[tok]? = some { b with rows := b.rows ++ src } := by simp [htl]
   by_cases hfit : b.rows.length + src.length ≤ cap
   ·-- in place
    have hfit2 : b.rows.length * i.size + news.length ≤ vs.size := by rw [hv.len, g2, ← Nat.add_mul]; exact Nat.mul_le_mul_right _ hfit
    have hr := hv.room hpos blk b.rows.length cap vs g1 hfit hfit2
    have hloc := setRow_local (W := W) blk (vs.toList.take (b.rows.length * i.size) ++ news ++ vs.toList.drop (b.rows.length * i.size + news.length)).toArray
    have hrow := setRow_heap W blk vs (vs.toList.take (b.rows.length * i.size) ++ news ++ vs.toList.drop (b.rows.length * i.size + news.length)).toArray b.e (0, 0) g1
    have hget : ∀ (k : Nat) (v : Value), (vs.toList.take (b.rows.length * i.size) ++ news)[k]? = some v → ((vs.toList.take (b.rows.length * i.size) ++ news ++ vs.toList.drop (b.rows.length * i.size + news.length)).toArray)[k]? = some v := by
     intro k v hkv
     rw [List.getElem?_toArray, List.getElem?_append_left (lt_of_get hkv)]
     exact hkv
    have hset := hw.setBuf (W' := W.setRow blk (vs.toList.take (b.rows.length * i.size) ++ news ++ vs.toList.drop (b.rows.length * i.size + news.length)).toArray)
     (g' := { g with bf := fun t => if t = tok then .slice (some ⟨blk, 0, none⟩) (b.rows.length + src.length) cap else g.bf t })
     (A' := { A with bufs := A.bufs.set tok { b with rows := b.rows ++ src } }) (tok := tok) (b' := { b with rows := b.rows ++ src }) rfl hother hat
     (fun b2 hb2 => by
      rw [hb] at hb2; cases hb2
      exact ⟨rfl, by simp, fun e => by simp at e; exact absurd e hne⟩) hloc.rest (Nat.le_of_eq hloc.size.symm)
     (fun blk2 _ h2 => hloc.heap blk2 fun e => h2 (e ▸ k2)) rfl rfl (fun t ht => by simp [ht]) (fun _ _ => rfl) (fun blk2 o h1 h2 => by have := hw.lt _ _ h2; omega)
     (fun blk2 k h1 h2 => by
      by_cases hbb : blk2 = blk
      ·subst hbb
       have hk := k10 k h2
       have hkk : k < b.rows.length * i.size := Nat.lt_of_lt_of_le hk (by rw [hbsz]; exact Nat.mul_le_mul_right _ k7)
       rw [cell_setRow_same W blk2 k vs _ b.e (0, 0) g1, cell_of_row W blk2 k vs b.e (0, 0) g1, List.getElem?_toArray, List.append_assoc, List.getElem?_append_left (by simp; omega), List.getElem?_take, if_pos hkk]
       simp
      ·exact cell_same (hloc.heap _ hbb))
     (fun ev => by
      refine .of ⟨blk, cap, _, by simp, k2, hrow, ?_, by simpa using hfit, k6, by simp; omega, fun q row hq => by rw [hbsz]; exact hlen2 q row hq, fun q j row c' e1 e2 => ?_, fun k hk => k10 k hk⟩
      ·simp only [List.size_toArray, List.length_append, List.length_take, List.length_drop, Array.length_toList, hbsz]
       omega
      ·obtain ⟨v, hv1, hv2⟩ := l2 q j row c' e1 e2 (hlen2 q row e1)
       rw [hbsz]
       exact ⟨v, hget _ v hv1, ev.relD hv2⟩)
    refine ⟨_, _, _, hr, ?_, hset.1, hset.2⟩
    rw [← hl]
    refine .own tok _ _ _ (by simpa using htl) fun b2 hb2 => ?_
    rw [show ({ A with bufs := A.bufs.set tok { b with rows := b.rows ++ src } } : AHeap).bufs[tok]? = _ from hat] at hb2
    cases hb2
    exact ⟨by simp, fun _ => by simp⟩
   ·-- somewhere else
    obtain ⟨m1, m2, m3, m4⟩ := make (b.rows.length + src.length) cap (vs.toList.take (b.rows.length * i.size)) news (by omega) (by omega) (by rw [l1, List.length_append])
    have hr := hv.grow hpos ⟨blk, 0, none⟩ b.rows.length cap _ ho.len ho.at' (by omega) (by omega) (fits _ _ (by omega) (by omega))
    obtain ⟨w1, w2, w3⟩ := hw.newBlock (A' := { A with bufs := A.bufs.set tok { b with rows := b.rows ++ src } })
     (W' := W.drew.alloc (.cells ((vs.toList.take (b.rows.length * i.size)).toArray ++ news.toArray ++ Builtin.zeroCells zc.cells (grownCap W (b.rows.length + src.length) cap b.e - (b.rows.length + src.length))) b.e)) (tok := tok) (b' := { b with rows := b.rows ++ src })
     (vs := ((vs.toList.take (b.rows.length * i.size)).toArray ++ news.toArray ++ Builtin.zeroCells zc.cells (grownCap W (b.rows.length + src.length) cap b.e - (b.rows.length + src.length)))) (cap := grownCap W (b.rows.length + src.length) cap b.e)
     hother rfl hat (fun b2 hb2 => by rw [hb] at hb2; cases hb2; exact ⟨rfl, by simp; omega⟩) (by simpa using m2) m1 (by rw [m3, hbsz]) (by simp; omega) (fun q row hq => by rw [hbsz]; exact hlen2 q row hq)
     (fun k j row c' e1 e2 => by
      obtain ⟨v, hv1, hv2⟩ := l2 k j row c' e1 e2 (hlen2 k row e1)
      rw [hbsz]
      exact ⟨v, m4 _ v hv1, hv2⟩) rfl (drewAlloc W _ _)
    simp only [List.length_append] at w3 w1 w2
    rw [← hl]
    exact ⟨_, _, _, hr, w3, w1, w2⟩
 ·cases h
theorem append_str (hw : WRel W g A) {t u ty e : TypeId} (ht : P.underlying t = some (.slice e)) (hu : P.underlying u = some .string) {agg : Bool} (hk : kindT P e = some (1, agg)) {x z : AV} {v : Value} (hx : RelV W g A x v) (s : ByteArray)
  (h : aappend P e 1 A x (strRows s.data.toList) = some (z, A')) :
  ∃ v' W' g', (Builtin.append_ #[t, u] ty #[v, .string s]).run P W = .ok v' W' ∧ RelV W' g' A' z v' ∧ WRel W' g' A' ∧ Ev W g A W' g' A' := by
 refine append_gen hw hk hx (fun i zc hi hiz his hib hall => ?_) h
 have hl : (strRows s.data.toList).length = s.size := by unfold strRows; rw [List.length_map, Array.length_toList]; rfl
 have hc := Lib.strCells_length s
 refine ⟨Lib.strCells s, by rw [hc, hl, his, Nat.mul_one], Lib.strCells_oneCell s, fun k j row c e1 e2 => ?_, fun h0 s' len cap hcap => ?_, fun h0 h63 h48 => ?_, fun h0 g sLen sCap cur hg h1 h2 => ?_, fun h0 b sLen sCap olds h1 h2 h3 h4 h5 => ?_⟩
 ·simp only [strRows, List.getElem?_map, Option.map_eq_some_iff] at e1
  obtain ⟨b, hb, rfl⟩ := e1
  cases j with
  | zero =>
    simp at e2
    subst e2
    refine ⟨.int .u8 b.toNat, ?_, .int .u8 _⟩
    rw [his, Nat.mul_one, Nat.add_zero]
    simp only [Lib.strCells, List.getElem?_map, hb, Option.map_some]
  | succ j => simp at e2
 ·have hs0 : s.size = 0 := by rw [← hl, h0]; rfl
  have hf := Lib.run_firstCells_string (P := P) W 1 s
  have hz : Lib.strCells s = [] := List.eq_nil_of_length_eq_zero (by rw [hc]; exact hs0)
  rw [hz, hs0] at hf
  have hf0 : (Builtin.firstCells 1 0 (.string s)).run P W = .ok #[] W := hf
  cases s' <;> simp [Builtin.append_, run_underlying ht, run_underlying hu, sizeOf, typeInfo, hi, his, Builtin.lenOf, hs0, hcap, hf0, storeCells]
 ·rw [hl] at h0 h63 h48 ⊢
  have hn : ¬ s.size = 0 := by omega
  have h63' : ¬ (9223372036854775807 < (s.size : Int)) := by omega
  have h48' : ¬ (281474976710656 < Builtin.nextslicecap s.size 0 * i.bytes) := by rw [nextslicecap_zero h0]; omega
  have hf := Lib.run_firstCells_string (P := P) W.drew i.size s
  simp [Builtin.append_, run_underlying ht, run_underlying hu, sizeOf, typeInfo, zeroValue, hi, hiz, Builtin.lenOf, hn, h63', h48', Question.forced, run_firstCells_none, hf, newRow, grownCap]
 ·rw [hl] at h1 ⊢
  rw [hc] at h2
  have := Lib.run_append_room_string (P := P) W t u ty e i ht hu hi his g sLen sCap cur hg s h1 (by rw [his, Nat.mul_one] at h2; exact h2)
  rw [his, Nat.mul_one, hc]
  exact this
 ·rw [hl] at h3 h4 h5 ⊢
  exact Lib.run_append_grow_string (P := P) W t u ty e i zc ht hu hi hiz b sLen sCap olds h1 h2 s h3 h4 h5
theorem append_rel (hw : WRel W g A) {t ty e : TypeId} {sz : Nat} {agg : Bool} (ht : P.underlying t = some (.slice e)) (hk : kindT P e = some (sz, agg)) {x y z : AV} {u u2 : Value} (hx : RelV W g A x u) (hy : RelV W g A y u2)
  {src : List (List Dat)} (hs : arows A y = some src) (h : aappend P e sz A x src = some (z, A')) :
  ∃ v W' g', (Builtin.append_ #[t, t] ty #[u, u2]).run P W = .ok v W' ∧ RelV W' g' A' z v ∧ WRel W' g' A' ∧ Ev W g A W' g' A' := by
 have hsz : 0 < sz := by
  unfold aappend at h
  split at h
  case isFalse => cases h
  rename_i hc
  have := hc.1
  simp only [aroomT, Bool.and_eq_true, decide_eq_true_eq] at this
  exact this.1.1
 refine append_gen hw hk hx (fun i zc hi hiz his hib hall => ?_) h
 subst his
 obtain ⟨oa, c, rfl, hsrc⟩ := src_vals hw hy hs hsz hall
 by_cases hne : src = []
 ·subst hne
  exact ⟨[], by simp, by simp, by simp, fun _ s len cap hc => run_append_none t ty e ht hk s len cap hc oa c, fun h => by simp at h, fun h => by simp at h, fun h => by simp at h⟩
 ·obtain ⟨a, news, rfl, hv⟩ := hsrc hne
  exact ⟨news, hv.len, hv.one, hv.rel, fun h => absurd h hne, fun h0 h63 h48 => run_append_nil (P := P) W t ty e i zc ht hi hiz a src.length c news hv.len hv.at' h0 h63 h48,
   fun _ g sLen sCap cur hg h1 h2 => run_append_room (P := P) W t ty e i ht hi g sLen sCap cur hg a src.length c news hv.len hv.at' hv.one h1 h2,
   fun _ b sLen sCap olds h1 h2 h3 h4 h5 => run_append_grow (P := P) W t ty e i zc ht hi hiz b sLen sCap olds h1 h2 a src.length c news hv.len hv.at' h3 h4 h5⟩
theorem zdats_rel : ∀ {cs : List AV} {ds : List Dat} {vs : List Value}, zdats cs = some ds → RelL W g A cs vs → ds.length = vs.length ∧ ∀ (j : Nat) (c : Dat), ds[j]? = some c → ∃ v, vs[j]? = some v ∧ RelD W g.S c v
 | [], ds, vs, h, hr => by
   cases h
   have := hr.1
   exact ⟨by simpa using this, fun j c hj => by simp at hj⟩
 | x :: l, ds, vs, h, hr => by
   cases vs with
   | nil => have := hr.1; simp at this
   | cons v vs =>
     have hv := hr.2 0 x v rfl rfl
     have hl : RelL W g A l vs := ⟨by have := hr.1; simpa using this, fun i p q h1 h2 => hr.2 (i + 1) p q (by simpa using h1) (by simpa using h2)⟩
     have step : ∀ {c0 : Dat} {ds' : List Dat}, zdats l = some ds' → RelD W g.S c0 v → (c0 :: ds').length = (v :: vs).length ∧ ∀ (j : Nat) (c : Dat), (c0 :: ds')[j]? = some c → ∃ u, (v :: vs)[j]? = some u ∧ RelD W g.S c u := by
      intro c0 ds' h1 h2
      obtain ⟨e1, e2⟩ := zdats_rel h1 hl
      refine ⟨by simp [e1], fun j c hj => ?_⟩
      cases j with
      | zero => simp at hj; subst hj; exact ⟨v, rfl, h2⟩
      | succ j => exact e2 j c (by simpa using hj)
     cases x <;> simp only [zdats] at h <;> try (cases h; done)
     ·rw [Option.map_eq_some_iff] at h
      obtain ⟨ds', h1, rfl⟩ := h
      cases hv with
      | d _ _ hd => exact step h1 hd
     ·rw [Option.map_eq_some_iff] at h
      obtain ⟨ds', h1, rfl⟩ := h
      cases hv
      exact step h1 (.empty none 0)
theorem make_rel (hw : WRel W g A) {t e : TypeId} {sz : Nat} (he : P.underlying t = some (.slice e)) {agg : Bool} (hk : kindT P e = some (sz, agg)) {l c y : AV} {u1 u2 : Value} (h1 : RelV W g A l u1) (h2 : RelV W g A c u2) (h : amake P e sz A l c = some (y, A')) :
  ∃ v W' g', (Instr.makeSlice t u1 u2).run P W = .ok v W' ∧ RelV W' g' A' y v ∧ WRel W' g' A' ∧ Ev W g A W' g' A' := by
 unfold amake at h
 split at h
 case h_2 => cases h
 rename_i kl n kc m ds hz
 split at h
 case isFalse => cases h
 rename_i hc
 obtain ⟨hroom, hdl, h0, hnm, hm⟩ := hc
 cases h
 rw [Option.bind_eq_some_iff] at hz
 obtain ⟨z, hzt, hzd⟩ := hz
 simp only [aroomT, Bool.and_eq_true, decide_eq_true_eq] at hroom
 obtain ⟨⟨hsz, hbytes⟩, hz2⟩ := hroom
 rw [hzt] at hz2
 obtain ⟨i, zc, hi, his, hiz, hzs, hib, hav⟩ := kind_info hk hzt (by simpa using hz2)
 rw [h1.dInt, h2.dInt]
 have hzr : RelL W g A z.cells zc.cells.toList := cells_rel (aval_rel hav)
 obtain ⟨z1, z2⟩ := zdats_rel hzd hzr
 have hr := run_make (P := P) W t e i zc he hi hiz kl kc n m h0 hnm (by
  rw [hib]
  have : (P.bytesOf e : Int) ≤ 1048576 := by omega
  calc (P.bytesOf e : Int) * m ≤ 1048576 * m := Int.mul_le_mul_of_nonneg_right this (by omega)
   _ ≤ 281474976710656 := by omega) (by omega)
 subst his
 have hget : ∀ (q j : Nat) (row : List Dat) (c : Dat), (List.replicate n.toNat ds)[q]? = some row → row[j]? = some c → ∃ v, (madeCells zc.cells (m.toNat * i.size))[q * i.size + j]? = some v ∧ RelD W g.S c v := by
  intro q j row c e1 e2
  rw [List.getElem?_replicate] at e1
  split at e1
  case isFalse => cases e1
  rename_i hq
  cases e1
  obtain ⟨v, hv, hvr⟩ := z2 j c e2
  have hj := lt_of_get e2
  rw [hdl] at hj
  refine ⟨v, ?_, hvr⟩
  have hlt : q * i.size + j < m.toNat * i.size := idx_lt (by omega) hj
  have hmod : (q * i.size + j) % zc.cells.size = j := by
   rw [hzs, Nat.mul_comm, Nat.mul_add_mod, Nat.mod_eq_of_lt hj]
  rw [Array.getElem?_toList] at hv
  obtain ⟨hj2, hv2⟩ := Array.getElem?_eq_some_iff.1 hv
  unfold madeCells
  rw [Array.getElem?_map, Array.getElem?_range, if_pos hlt]
  simp only [Option.map_some, hmod]
  rw [getElem!_pos zc.cells j hj2, hv2]
 obtain ⟨w1, w2, w3⟩ := hw.newBlock (A' := { A with bufs := A.bufs ++ [⟨e, i.size, List.replicate n.toNat ds, 0⟩] }) (W' := W.alloc (.cells (madeCells zc.cells (m.toNat * i.size)) e)) (tok := A.bufs.length) (b' := ⟨e, i.size, List.replicate n.toNat ds, 0⟩)
  (vs := madeCells zc.cells (m.toNat * i.size)) (cap := m.toNat)
  (fun t ht => by
   rcases Nat.lt_or_ge t A.bufs.length with h | h
   ·simp [List.getElem?_append_left h]
   ·rw [List.getElem?_eq_none (by simp; omega), List.getElem?_eq_none h]) rfl (by simp) (fun b hb => by simp at hb) (by simp; omega) (by simp only [maxLen]; omega) (by simp [size_madeCells]) (Nat.zero_le _)
  (fun q row hq => by
   rw [List.getElem?_replicate] at hq
   split at hq
   ·cases hq; exact hdl
   ·cases hq) hget rfl ⟨rfl, rfl⟩
 simp only [List.length_replicate] at w1 w2 w3
 exact ⟨_, _, _, hr, w3, w1, w2⟩
set_option maxHeartbeats 1000000 in
theorem copy_rel (hw : WRel W g A) {t ty e : TypeId} {sz : Nat} (ht : P.underlying t = some (.slice e)) {agg : Bool} (hk : kindT P e = some (sz, agg)) {tok len : Nat} {y z : AV} {u u2 : Value} (hx : RelV W g A (.own tok len) u) (hy : RelV W g A y u2)
  {src : List (List Dat)} (hs : arows A y = some src) (h : acopy P e sz A tok len src = some (z, A')) :
  ∃ v W' g', (Builtin.copy_ #[t, t] ty #[u, u2]).run P W = .ok v W' ∧ RelV W' g' A' z v ∧ WRel W' g' A' ∧ Ev W g A W' g' A' := by
 unfold acopy at h
 split at h
 case h_2 => cases h
 rename_i b hb
 split at h
 case isFalse => cases h
 rename_i hc
 obtain ⟨hl, hfz, hbsz, hbe, hsz, hall⟩ := hc
 cases h
 obtain ⟨oa, c, rfl, hsrc⟩ := src_vals hw hy hs hsz hall
 obtain ⟨blk, cap, rfl, hbf⟩ := own_bf hw hx hb hl
 have hbuf := hw.buf tok b hb
 have hfr : b.frozen ≤ b.rows.length := by omega
 obtain ⟨blk', cap', vs, k1, k2, k3, k4, k5, k6, k7, k8, k9, k10⟩ := hbuf.ex hfr
 rw [hbf] at k1
 cases k1
 have hlenS : ∀ (k : Nat) (row : List Dat), src[k]? = some row → row.length = sz := by
  intro k row hk'
  have := List.all_eq_true.1 hall row (List.mem_of_getElem? hk')
  simpa using this
 by_cases hz : min src.length len = 0
 ·have hsame : src.take len ++ b.rows.drop src.length = b.rows := by
   rcases Nat.eq_zero_or_pos len with h0 | h0
   ·have hr0 : b.rows = [] := List.eq_nil_of_length_eq_zero (by omega)
    simp [h0, hr0]
   ·have hs0 : src = [] := List.eq_nil_of_length_eq_zero (by omega)
    simp [hs0]
  have hA : ({ A with bufs := A.bufs.set tok { b with rows := src.take len ++ b.rows.drop src.length } } : AHeap) = A := by
   rw [hsame, set_same hb]
  refine ⟨_, W, g, ?_, by rw [hz]; exact .d _ _ (.int .i64 _), by rw [hA]; exact hw, by rw [hA]; exact .refl _ _ _⟩
  have hmin : Nat.min src.length b.rows.length = 0 := by rw [hl]; exact hz
  have hf : (Builtin.firstCells sz 0 (.slice oa src.length c)).run P W = .ok #[] W := by
   cases oa <;> simp [Builtin.firstCells, loadCells, loadCellsFrom]
  simp [Builtin.copy_, run_underlying ht, Builtin.lenOf, run_sizeOf hk, hmin, hf, storeCells, goInt]
 ·have hne : src ≠ [] := by intro e; rw [e] at hz; simp at hz
  obtain ⟨a, news, rfl, hv⟩ := hsrc hne
  have hsz' : b.sz = sz := hbsz
  rw [hsz'] at k4 k8 k9 k10
  have hn1 : min src.length len ≤ src.length := Nat.min_le_left _ _
  have hn2 : min src.length len ≤ len := Nat.min_le_right _ _
  have hnl : news.length = src.length * sz := hv.len
  have hcl : (news.take (min src.length len * sz)).length = min src.length len * sz := by
   rw [List.length_take, hnl]
   have : min src.length len * sz ≤ src.length * sz := Nat.mul_le_mul_right _ hn1
   omega
  have hle : min src.length len * sz ≤ vs.size := by
   rw [k4]
   exact Nat.mul_le_mul_right _ (by omega)
  have hld := run_loadCells_list (P := P) W a (news.take (min src.length len * sz)) (fun j v hj => by
   rw [List.getElem?_take] at hj
   split at hj
   ·exact hv.at' j v hj
   ·cases hj)
  have hst := run_storeCells_at P blk 0 b.e (news.take (min src.length len * sz)) 0 vs W k3 (by rw [hcl]; omega) (fun x hx => hv.one x (List.mem_of_mem_take hx))
  rw [hcl] at hld hst
  simp only [Nat.zero_add, List.take_zero, List.nil_append] at hst
  have hloc := setRow_local (W := W) blk (news.take (min src.length len * sz) ++ vs.toList.drop (min src.length len * sz)).toArray
  have hrow := setRow_heap W blk vs (news.take (min src.length len * sz) ++ vs.toList.drop (min src.length len * sz)).toArray b.e (0, 0) k3
  have htl := lt_of_get hb
  have hrl : (src.take len ++ b.rows.drop src.length).length = b.rows.length := by simp; omega
  have hat : (A.bufs.set tok { b with rows := src.take len ++ b.rows.drop src.length })[tok]? = some { b with rows := src.take len ++ b.rows.drop src.length } := by simp [htl]
  have hset := hw.setBuf (W' := W.setRow blk (news.take (min src.length len * sz) ++ vs.toList.drop (min src.length len * sz)).toArray) (g' := g)
   (A' := { A with bufs := A.bufs.set tok { b with rows := src.take len ++ b.rows.drop src.length } }) (tok := tok) (b' := { b with rows := src.take len ++ b.rows.drop src.length }) rfl
   (fun t ht => by rw [List.getElem?_set_ne (fun e => ht e.symm)]) hat
   (fun b2 hb2 => by rw [hb] at hb2; cases hb2; exact ⟨rfl, by rw [hrl]; exact Nat.le_refl _, fun _ => rfl⟩) hloc.rest (Nat.le_of_eq hloc.size.symm)
   (fun blk2 _ h2 => hloc.heap blk2 fun e => h2 (e ▸ k2)) rfl rfl (fun _ _ => rfl) (fun _ _ => rfl) (fun blk2 o h1 h2 => by have := hw.lt _ _ h2; omega)
   (fun blk2 k h1 h2 => by
    by_cases hbb : blk2 = blk
    ·subst hbb
     have := k10 k h2
     rw [hfz] at this
     omega
    ·exact cell_same (hloc.heap _ hbb))
   (fun ev => by
    refine .of ⟨blk, cap, _, by rw [hrl]; exact hbf, k2, hrow, ?_, by rw [hrl]; exact k5, k6, by rw [hrl]; exact k7, fun q row hq => ?_, fun q j row c' e1 e2 => ?_, fun k hk => by rw [hsz']; exact k10 k hk⟩
    ·simp only [List.size_toArray, List.length_append, hcl, List.length_drop, Array.length_toList, hsz']
     omega
    ·rw [hsz']
     rcases List.mem_append.1 (List.mem_of_getElem? hq) with h | h
     ·obtain ⟨p, hp⟩ := List.getElem?_of_mem (List.mem_of_mem_take h); exact hlenS p row hp
     ·obtain ⟨p, hp⟩ := List.getElem?_of_mem (List.mem_of_mem_drop h); exact k8 p row hp
    ·rw [hsz']
     by_cases hq : q < min src.length len
     ·rw [List.getElem?_append_left (by simp; omega), List.getElem?_take, if_pos (by omega)] at e1
      obtain ⟨v, hv1, hv2⟩ := hv.rel q j row c' e1 e2
      have hj := lt_of_get e2
      rw [hlenS q row e1] at hj
      have hlt := idx_lt hq hj
      refine ⟨v, ?_, ev.relD hv2⟩
      rw [List.getElem?_toArray, List.getElem?_append_left (by rw [hcl]; exact hlt), List.getElem?_take, if_pos hlt]
      exact hv1
     ·have hqlt : q < len := by
       have := lt_of_get e1
       rw [hrl] at this
       omega
      have hq2 : src.length ≤ q := by omega
      rw [List.getElem?_append_right (by simp; omega), List.getElem?_drop] at e1
      have hidx : src.length + (q - (List.take len src).length) = q := by simp; omega
      rw [hidx] at e1
      obtain ⟨v, hv1, hv2⟩ := k9 q j row c' e1 e2
      refine ⟨v, ?_, ev.relD hv2⟩
      have hge : min src.length len * sz ≤ q * sz := Nat.mul_le_mul_right _ (by omega)
      rw [List.getElem?_toArray, List.getElem?_append_right (by rw [hcl]; omega), hcl, List.getElem?_drop, Array.getElem?_toList]
      rw [← hv1]
      congr 1
      omega)
  refine ⟨_, _, g, ?_, .d _ _ (.int .i64 _), hset.1, hset.2⟩
  have hmin : Nat.min src.length b.rows.length = min src.length len := by rw [hl]
  simp [Builtin.copy_, run_underlying ht, Builtin.lenOf, run_sizeOf hk, hmin, Builtin.firstCells, hld, hst, goInt]
set_option maxHeartbeats 1000000 in
theorem clear_rel (hw : WRel W g A) {t ty e : TypeId} {sz : Nat} (ht : P.underlying t = some (.slice e)) {agg : Bool} (hk : kindT P e = some (sz, agg)) {tok len : Nat} {z : AV} {u : Value} (hx : RelV W g A (.own tok len) u)
  (h : aclear P e sz A tok len = some (z, A')) :
  ∃ v W' g', (Builtin.clear_ #[t] ty #[u]).run P W = .ok v W' ∧ RelV W' g' A' z v ∧ WRel W' g' A' ∧ Ev W g A W' g' A' := by
 unfold aclear at h
 split at h
 case h_2 => cases h
 rename_i b ds hb hz
 split at h
 case isFalse => cases h
 rename_i hc
 obtain ⟨hl, hfz, hbsz, hbe, hroom, hdl, hlen⟩ := hc
 cases h
 rw [Option.bind_eq_some_iff] at hz
 obtain ⟨z, hzt, hzd⟩ := hz
 simp only [aroomT, Bool.and_eq_true, decide_eq_true_eq] at hroom
 obtain ⟨⟨hsz, hbytes⟩, hz2⟩ := hroom
 rw [hzt] at hz2
 obtain ⟨i, zc, hi, his, hiz, hzs, hib, hav⟩ := kind_info hk hzt (by simpa using hz2)
 have hzr : RelL W g A z.cells zc.cells.toList := cells_rel (aval_rel hav)
 obtain ⟨z1, z2⟩ := zdats_rel hzd hzr
 obtain ⟨blk, cap, rfl, hbf⟩ := own_bf hw hx hb hl
 have hbuf := hw.buf tok b hb
 have hfr : b.frozen ≤ b.rows.length := by omega
 obtain ⟨blk', cap', vs, k1, k2, k3, k4, k5, k6, k7, k8, k9, k10⟩ := hbuf.ex hfr
 rw [hbf] at k1
 cases k1
 have hsz' : b.sz = sz := hbsz
 rw [hsz'] at k4 k8 k9 k10
 have hget : ∀ (q j : Nat) (row : List Dat) (c : Dat), (List.replicate len ds)[q]? = some row → row[j]? = some c → ∃ v, (Builtin.zeroCells zc.cells len)[q * sz + j]? = some v ∧ RelD W g.S c v := by
  intro q j row c e1 e2
  rw [List.getElem?_replicate] at e1
  split at e1
  case isFalse => cases e1
  rename_i hq
  cases e1
  obtain ⟨v, hv, hvr⟩ := z2 j c e2
  have hj := lt_of_get e2
  rw [hdl] at hj
  refine ⟨v, ?_, hvr⟩
  have hlt : q * sz + j < len * zc.cells.size := by rw [hzs]; exact idx_lt hq hj
  have hmod : (q * sz + j) % zc.cells.size = j := by
   rw [hzs, Nat.mul_comm, Nat.mul_add_mod, Nat.mod_eq_of_lt hj]
  rw [Array.getElem?_toList] at hv
  obtain ⟨hj2, hv2⟩ := Array.getElem?_eq_some_iff.1 hv
  unfold Builtin.zeroCells
  rw [Array.getElem?_map, Array.getElem?_range, if_pos hlt]
  simp only [Option.map_some, hmod]
  rw [getElem!_pos zc.cells j hj2, hv2]
 have hsize : (Builtin.zeroCells zc.cells len).size = len * sz := by simp [Builtin.zeroCells, hzs]
 have hone : ∀ x ∈ (Builtin.zeroCells zc.cells len).toList, x.oneCell' = true := by
  intro x hx
  obtain ⟨p, hp⟩ := List.getElem?_of_mem hx
  rw [Array.getElem?_toList] at hp
  have hpl : p < len * sz := by
   have := (Array.getElem?_eq_some_iff.1 hp).1
   rw [hsize] at this
   exact this
  have hq : p / sz < len := Nat.div_lt_of_lt_mul (by rw [Nat.mul_comm]; exact hpl)
  have hj : p % sz < sz := Nat.mod_lt _ hsz
  obtain ⟨v, hv, hr⟩ := hget (p / sz) (p % sz) ds (ds[p % sz]'(by rw [hdl]; exact hj)) (by rw [List.getElem?_replicate, if_pos hq]) (List.getElem?_eq_getElem _)
  rw [Nat.mul_comm, Nat.div_add_mod] at hv
  rw [hv] at hp
  cases hp
  exact hr.one
 have hle : len * sz ≤ vs.size := by
  rw [k4]
  exact Nat.mul_le_mul_right _ (by omega)
 have hll : (Builtin.zeroCells zc.cells len).toList.length = len * sz := by rw [Array.length_toList]; exact hsize
 have hst := run_storeCells_at P blk 0 b.e (Builtin.zeroCells zc.cells len).toList 0 vs W k3 (by rw [hll]; omega) hone
 rw [hll] at hst
 simp only [Nat.zero_add, List.take_zero, List.nil_append] at hst
 have hloc := setRow_local (W := W) blk ((Builtin.zeroCells zc.cells len).toList ++ vs.toList.drop (len * sz)).toArray
 have hrow := setRow_heap W blk vs ((Builtin.zeroCells zc.cells len).toList ++ vs.toList.drop (len * sz)).toArray b.e (0, 0) k3
 have htl := lt_of_get hb
 have hrl : (List.replicate len ds).length = b.rows.length := by simp; omega
 have hat : (A.bufs.set tok { b with rows := List.replicate len ds })[tok]? = some { b with rows := List.replicate len ds } := by simp [htl]
 have hset := hw.setBuf (W' := W.setRow blk ((Builtin.zeroCells zc.cells len).toList ++ vs.toList.drop (len * sz)).toArray) (g' := g)
  (A' := { A with bufs := A.bufs.set tok { b with rows := List.replicate len ds } }) (tok := tok) (b' := { b with rows := List.replicate len ds }) rfl
  (fun t ht => by rw [List.getElem?_set_ne (fun e => ht e.symm)]) hat
  (fun b2 hb2 => by rw [hb] at hb2; cases hb2; exact ⟨rfl, by rw [hrl]; exact Nat.le_refl _, fun _ => rfl⟩) hloc.rest (Nat.le_of_eq hloc.size.symm)
  (fun blk2 _ h2 => hloc.heap blk2 fun e => h2 (e ▸ k2)) rfl rfl (fun _ _ => rfl) (fun _ _ => rfl) (fun blk2 o h1 h2 => by have := hw.lt _ _ h2; omega)
  (fun blk2 k h1 h2 => by
   by_cases hbb : blk2 = blk
   ·subst hbb
    have := k10 k h2
    rw [hfz] at this
    omega
   ·exact cell_same (hloc.heap _ hbb))
  (fun ev => by
   refine .of ⟨blk, cap, _, by rw [hrl]; exact hbf, k2, hrow, ?_, by rw [hrl]; exact k5, k6, by rw [hrl]; exact k7, fun q row hq => ?_, fun q j row c' e1 e2 => ?_, fun k hk => by rw [hsz']; exact k10 k hk⟩
   ·simp only [List.size_toArray, List.length_append, hll, List.length_drop, Array.length_toList, hsz']
    omega
   ·rw [hsz']
    rw [List.getElem?_replicate] at hq
    split at hq
    ·cases hq; exact hdl
    ·cases hq
   ·rw [hsz']
    obtain ⟨v, hv1, hv2⟩ := hget q j row c' e1 e2
    refine ⟨v, ?_, ev.relD hv2⟩
    have hq : q < len := by
     rw [List.getElem?_replicate] at e1
     split at e1
     ·assumption
     ·cases e1
    have hrow : row = ds := by
     rw [List.getElem?_replicate, if_pos hq] at e1
     cases e1; rfl
    have hj := lt_of_get e2
    rw [hrow, hdl] at hj
    have hlt := idx_lt hq hj
    rw [List.getElem?_toArray, List.getElem?_append_left (by rw [hll]; exact hlt), Array.getElem?_toList]
    exact hv1)
 refine ⟨.tuple #[], _, g, ?_, .tuple [] [] rfl (fun i x v h1 h2 => by simp at h1), hset.1, hset.2⟩
 have hzv : (zeroValue e).run P W = .ok zc W := by simp [zeroValue, typeInfo, hi, hiz]
 obtain ⟨n, hn⟩ : ∃ n, b.rows.length = n + 1 := ⟨b.rows.length - 1, by omega⟩
 have hln : len = n + 1 := by omega
 rw [hln] at hst
 rw [hln, hn]
 simp [Builtin.clear_, run_underlying ht, hzv, hst]
end
section
variable {P : Program} {W W' W0 : World} {g g' g0 : Gh} {A A' A0 : AHeap}
theorem adat_bufs {x : AV} {d : Dat} (h : adat A x = some (d, A')) : A'.objs = A.objs ∧ ∀ (tok : Nat) (b : ABuf), A.bufs[tok]? = some b → ∃ fz, A'.bufs[tok]? = some { b with frozen := fz } := by
 have same : A.objs = A.objs ∧ ∀ (tok : Nat) (b : ABuf), A.bufs[tok]? = some b → ∃ fz, A.bufs[tok]? = some { b with frozen := fz } := ⟨rfl, fun tok b hb => ⟨b.frozen, hb⟩⟩
 cases x <;> simp only [adat] at h <;> try (cases h; done)
 case d y => cases h; exact same
 case nilS => cases h; exact same
 case full rows => cases h; exact same
 case own tok len =>
  rw [Option.map_eq_some_iff] at h
  obtain ⟨rows, hrows, h⟩ := h
  cases h
  refine ⟨rfl, fun t b hb => ?_⟩
  rw [freeze_get]
  split
  ·rw [hb]; exact ⟨_, rfl⟩
  ·exact ⟨b.frozen, hb⟩
theorem adats_bufs : ∀ {xs : List AV} {ds : List Dat} {A A' : AHeap}, adats A xs = some (ds, A') → A'.objs = A.objs ∧ ∀ (tok : Nat) (b : ABuf), A.bufs[tok]? = some b → ∃ fz, A'.bufs[tok]? = some { b with frozen := fz }
 | [], ds, A, A', h => by cases h; exact ⟨rfl, fun tok b hb => ⟨b.frozen, hb⟩⟩
 | x :: xs, ds, A, A', h => by
   simp only [adats, Option.bind_eq_some_iff, Option.map_eq_some_iff] at h
   obtain ⟨⟨d, A1⟩, h1, ⟨ds', A2⟩, h2, h3⟩ := h
   cases h3
   obtain ⟨o1, b1⟩ := adat_bufs h1
   obtain ⟨o2, b2⟩ := adats_bufs h2
   refine ⟨o2.trans o1, fun tok b hb => ?_⟩
   obtain ⟨f1, e1⟩ := b1 tok b hb
   obtain ⟨f2, e2⟩ := b2 tok _ e1
   exact ⟨f2, e2⟩
theorem list_splice_get {α : Type} (vs vn : List α) (off k : Nat) (h : off + vn.length ≤ vs.length) : (vs.take off ++ vn ++ vs.drop (off + vn.length))[k]? = if off ≤ k ∧ k < off + vn.length then vn[k - off]? else vs[k]? := by
 by_cases h1 : k < off
 ·rw [if_neg (by omega), List.append_assoc, List.getElem?_append_left (by simp; omega), List.getElem?_take, if_pos h1]
 ·by_cases h2 : k < off + vn.length
  ·rw [if_pos (by omega), List.append_assoc, List.getElem?_append_right (by simp; omega), List.getElem?_append_left (by simp; omega)]
   congr 1
   simp; omega
  ·rw [if_neg (by omega), List.getElem?_append_right (by simp; omega), List.getElem?_drop]
   congr 1
   simp; omega
theorem idx_apart {i i' j sz off n : Nat} (hj : j < sz) (hfit : off + n ≤ sz) (h1 : i * sz + off ≤ i' * sz + j) (h2 : i' * sz + j < i * sz + off + n) : i' = i := by
 rcases Nat.lt_trichotomy i' i with h | h | h
 ·have : (i' + 1) * sz ≤ i * sz := Nat.mul_le_mul_right _ h
  rw [Nat.add_mul, Nat.one_mul] at this
  omega
 ·exact h
 ·have : (i + 1) * sz ≤ i' * sz := Nat.mul_le_mul_right _ h
  rw [Nat.add_mul, Nat.one_mul] at this
  omega
set_option maxHeartbeats 1000000 in
theorem astore_rel (hw : WRel W g A) {t : TypeId} {n : Nat} {agg : Bool} (hk : kindT P t = some (n, agg)) {p v : AV} {up uv : Value} (hp : RelV W g A p up) (hv : RelV W g A v uv) (hn : v.cells.length = n)
  (h1 : v.cells.all AV.one = true) (h : astore A v.cells p = some A') : ∃ ad W' g', up = .pointer (some ad) ∧ (storeVar t ad uv).run P W = .ok () W' ∧ WRel W' g' A' ∧ Ev W g A W' g' A' := by
 have hc := cells_rel hv
 have huv : uv.cells.size = n := by have := hc.1; simp at this; omega
 have hone := oneCells_rel hc h1
 cases p <;> simp only [astore] at h <;> try (cases h; done)
 case ptr id off =>
  split at h
  case h_3 => cases h
  case h_1 =>
   rename_i cs hcs
   rw [Option.map_eq_some_iff] at h
   obtain ⟨cs', hsp, h⟩ := h
   cases h
   cases hp with
   | ptr _ _ hid =>
   obtain ⟨ho, vs, T, hb, hrel⟩ := hw.obj id _ hcs
   have hg := asplice_get hsp
   have hl := hrel.1
   simp only [Array.length_toList] at hl
   have hrun := run_storeVar_at (W := W) hk (o := off) hb huv (by omega) hone
   have hloc := setRow_local (W := W) (g.ob id) (vs.toList.take off ++ uv.cells.toList ++ vs.toList.drop (off + n)).toArray
   have hnr := spliceV_rel hrel hc hsp
   rw [Array.length_toList, huv] at hnr
   obtain ⟨w1, w2⟩ := hw.setObj (W' := W.setRow (g.ob id) (vs.toList.take off ++ uv.cells.toList ++ vs.toList.drop (off + n)).toArray) (g' := g) (A' := { A with objs := A.objs.set id (.cells cs') }) (id := id) (o' := .cells cs')
    rfl (fun i hi => by rw [List.getElem?_set_ne (fun e => hi e.symm)]) (by simp [hid]) (by simp) hloc.rest (Nat.le_of_eq hloc.size.symm) (fun blk _ h2 => hloc.heap blk h2) rfl rfl (fun _ _ => rfl) (fun _ _ => rfl) ho (by rw [hloc.size]; exact hw.lt _ _ ho)
    (fun blk o h1 h2 => by have := hw.lt _ _ h2; omega) (fun ev => ⟨_, T, setRow_heap W _ vs _ T (0, 0) hb, by simpa using ev.relL hnr⟩)
   exact ⟨_, _, g, rfl, hrun, w1, w2⟩
  case h_2 =>
   rename_i T cs hcs
   rw [Option.map_eq_some_iff] at h
   obtain ⟨cs', hsp, h⟩ := h
   cases h
   cases hp with
   | ptr _ _ hid =>
   obtain ⟨ho, vs, hb, hrel⟩ := hw.obj id _ hcs
   have hg := asplice_get hsp
   have hl := hrel.1
   simp only [Array.length_toList] at hl
   have hrun := run_storeVar_at (W := W) hk (o := off) hb huv (by omega) hone
   have hloc := setRow_local (W := W) (g.ob id) (vs.toList.take off ++ uv.cells.toList ++ vs.toList.drop (off + n)).toArray
   have hnr := spliceV_rel hrel hc hsp
   rw [Array.length_toList, huv] at hnr
   obtain ⟨w1, w2⟩ := hw.setObj (W' := W.setRow (g.ob id) (vs.toList.take off ++ uv.cells.toList ++ vs.toList.drop (off + n)).toArray) (g' := g) (A' := { A with objs := A.objs.set id (.tcells T cs') }) (id := id) (o' := .tcells T cs')
    rfl (fun i hi => by rw [List.getElem?_set_ne (fun e => hi e.symm)]) (by simp [hid]) (by simp) hloc.rest (Nat.le_of_eq hloc.size.symm) (fun blk _ h2 => hloc.heap blk h2) rfl rfl (fun _ _ => rfl) (fun _ _ => rfl) ho (by rw [hloc.size]; exact hw.lt _ _ ho)
    (fun blk o h1 h2 => by have := hw.lt _ _ h2; omega) (fun ev => ⟨_, setRow_heap W _ vs _ T (0, 0) hb, by simpa using ev.relL hnr⟩)
   exact ⟨_, _, g, rfl, hrun, w1, w2⟩
 case eptr tok len i off =>
  split at h
  case h_2 => cases h
  rename_i b hb
  split at h
  case isFalse => cases h
  rename_i hcond
  obtain ⟨hlen, hfz⟩ := hcond
  split at h
  case h_2 => cases h
  rename_i row hrow
  rw [Option.bind_eq_some_iff] at h
  obtain ⟨⟨ds, A1⟩, had, h⟩ := h
  simp only at h
  split at h
  case isFalse => cases h
  rename_i hfit
  split at h
  case h_2 => cases h
  rename_i b' hb'
  split at h
  case isFalse => cases h
  rename_i hfz'
  cases h
  obtain ⟨g1, hds, w1, e1⟩ := adats_rel hw hc had
  obtain ⟨fz, hb2⟩ := (adats_bufs had).2 tok b hb
  rw [hb'] at hb2
  cases hb2
  have hp1 := e1.relV hp
  generalize hup : up = upv at hp1
  cases hp1 with
  | eptr _ _ _ _ ad ht he =>
  obtain ⟨_, he2⟩ := he _ hb'
  obtain ⟨blk, cap, hbf, rfl⟩ := he2 hlen
  obtain ⟨blk', cap', vs, k1, k2, k3, k4, k5, k6, k7, k8, k9, k10⟩ := (w1.buf tok _ hb').ex (by have h0 := lt_of_get hrow; exact Nat.le_of_lt (Nat.lt_of_le_of_lt hfz' h0))
  rw [hbf] at k1
  cases k1
  simp only at k3 k4 k5 k7 k8 k9 k10 hfz'
  have hil := lt_of_get hrow
  have hrl := k8 i row hrow
  have hdl : ds.length = n := by have := hds.1; simp at this; omega
  have hend : i * b.sz + b.sz ≤ vs.size := by
   rw [k4]
   calc i * b.sz + b.sz = (i + 1) * b.sz := by rw [Nat.add_mul, Nat.one_mul]
    _ ≤ cap * b.sz := Nat.mul_le_mul_right _ (by omega)
  have hrun := run_storeVar_at (W := W) hk (o := i * b.sz + off) k3 huv (by omega) hone
  have hloc := setRow_local (W := W) blk (vs.toList.take (i * b.sz + off) ++ uv.cells.toList ++ vs.toList.drop (i * b.sz + off + n)).toArray
  have hget : ∀ k : Nat, (vs.toList.take (i * b.sz + off) ++ uv.cells.toList ++ vs.toList.drop (i * b.sz + off + n)).toArray[k]? = if i * b.sz + off ≤ k ∧ k < i * b.sz + off + n then uv.cells[k - (i * b.sz + off)]? else vs[k]? := by
   intro k
   have := list_splice_get vs.toList uv.cells.toList (i * b.sz + off) k (by simp; omega)
   simp only [Array.length_toList, huv, Array.getElem?_toList] at this
   rw [List.getElem?_toArray]
   exact this
  have htl := lt_of_get hb'
  obtain ⟨w2, e2⟩ := w1.setBuf (W' := W.setRow blk (vs.toList.take (i * b.sz + off) ++ uv.cells.toList ++ vs.toList.drop (i * b.sz + off + n)).toArray) (g' := g1)
   (A' := { A1 with bufs := A1.bufs.set tok { ({ b with frozen := fz } : ABuf) with rows := b.rows.set i (row.take off ++ ds ++ row.drop (off + ds.length)) } }) (tok := tok)
   (b' := { ({ b with frozen := fz } : ABuf) with rows := b.rows.set i (row.take off ++ ds ++ row.drop (off + ds.length)) }) rfl (fun t ht => by rw [List.getElem?_set_ne (fun e => ht e.symm)]) (by simp [htl])
   (fun b2 hb2 => by rw [hb'] at hb2; cases hb2; exact ⟨rfl, by simp, fun _ => rfl⟩) hloc.rest (Nat.le_of_eq hloc.size.symm) (fun blk2 _ h2 => hloc.heap blk2 fun e => h2 (e ▸ k2)) rfl rfl (fun _ _ => rfl) (fun _ _ => rfl)
   (fun blk2 o h1 h2 => by have := w1.lt _ _ h2; omega)
   (fun blk2 k q1 q2 => by
    by_cases hbb : blk2 = blk
    ·subst hbb
     have hkk := k10 k q2
     have hle : fz * b.sz ≤ i * b.sz := Nat.mul_le_mul_right _ hfz'
     rw [cell_setRow_same W blk2 k vs _ b.e (0, 0) k3, cell_of_row W blk2 k vs b.e (0, 0) k3, hget, if_neg (by omega)]
    ·exact cell_same (hloc.heap _ hbb))
   (fun ev => by
    refine .of ⟨blk, cap, _, by simpa using hbf, k2, setRow_heap W blk vs _ b.e (0, 0) k3, ?_, by simpa using k5, k6, by simpa using k7, fun q r hq => ?_, fun q j r c q1 q2 => ?_, k10⟩
    ·rw [List.size_toArray]
     simp only [List.length_append, List.length_take, List.length_drop, Array.length_toList, huv]
     omega
    ·simp only [List.getElem?_set] at hq
     split at hq
     ·cases hq; simp; omega
     ·exact k8 q r hq
    ·simp only [hget]
     simp only [List.getElem?_set] at q1
     split at q1
     ·rename_i hq
      subst hq
      ·cases q1
       rw [list_splice_get row ds off j hfit] at q2
       have hjl : j < row.length := by
        split at q2
        ·have := lt_of_get q2; omega
        ·exact lt_of_get q2
       split at q2
       ·rename_i hj
        rw [if_pos (by omega)]
        have hlt : j - off < uv.cells.toList.length := by simp; omega
        refine ⟨uv.cells.toList[j - off], ?_, ev.relD (hds.2 (j - off) c _ q2 (List.getElem?_eq_getElem hlt))⟩
        have hidx : i * b.sz + j - (i * b.sz + off) = j - off := by omega
        rw [hidx, ← Array.getElem?_toList]
        exact List.getElem?_eq_getElem hlt
       ·rename_i hj
        rw [if_neg (by omega)]
        obtain ⟨v', hv', hr'⟩ := k9 i j row c hrow q2
        exact ⟨v', hv', ev.relD hr'⟩
     ·rename_i hne
      obtain ⟨v', hv', hr'⟩ := k9 q j r c q1 q2
      have hjl := lt_of_get q2
      rw [k8 q r q1] at hjl
      rw [if_neg (fun hh => hne (idx_apart hjl (by omega) hh.1 hh.2).symm)]
      exact ⟨v', hv', ev.relD hr'⟩)
  exact ⟨_, _, g1, rfl, hrun, w2, e1.trans e2⟩
end
section
variable {P : Program} {W W' W0 : World} {g g' g0 : Gh} {A A' A0 : AHeap} {N nt : Nat} {β : Nat → Nat} {env : AEnv} {a : Act}
def Outs (P : Program) (W : World) (g : Gh) (A A' : AHeap) (x : AV) (s : Sem Next) : Prop :=
 ∃ v W' g', (s.run P W = .ok (.value v) W' ∨ (s.run P W = .ok .skip W' ∧ v = undef)) ∧ RelV W' g' A' x v ∧ WRel W' g' A' ∧ Ev W g A W' g' A'
theorem Outs.val (hw : WRel W g A) {s : Sem Next} {v : Value} {x : AV} (h : s.run P W = .ok (.value v) W) (r : RelV W g A x v) : Outs P W g A A x s :=
 ⟨v, W, g, .inl h, r, hw, .refl W g A⟩
theorem Outs.sem (hw : WRel W g A) {s : Sem Value} {v : Value} {x : AV} (h : s.run P W = .ok v W) (r : RelV W g A x v) : Outs P W g A A x (do Pure.pure (.value (← s))) :=
 .val hw (by simp [h]) r
theorem Outs.semW {s : Sem Value} {v : Value} {x : AV} (h : s.run P W = .ok v W') (r : RelV W' g' A' x v) (hw : WRel W' g' A') (e : Ev W g A W' g' A') : Outs P W g A A' x (do Pure.pure (.value (← s))) :=
 ⟨v, W', g', .inl (by simp [h]), r, hw, e⟩
theorem undef_rel : RelV W g A (.tuple []) undef := .tuple [] [] rfl (fun i x v h => by simp at h)
theorem fieldsL_places : ∀ {l : List Field} {fs : List (Nat × Nat)}, fieldsL P l = some fs → l.mapM (fun f => (P.info? f.type).map fun i => (f.offset, i.size)) = some fs
 | [], fs, h => by cases h; rfl
 | f :: l, fs, h => by
   simp only [fieldsL, Option.bind_eq_some_iff, Option.map_eq_some_iff] at h
   obtain ⟨⟨n, agg⟩, hk, fs', hf, rfl⟩ := h
   obtain ⟨i, d, hi, hd, hs, _⟩ := kindT_some hk
   simp [List.mapM_cons, hi, hs, fieldsL_places hf]
theorem zeroT_some {t : TypeId} {z : AV} (h : zeroT P t = some z) : ∃ i v, P.info? t = some i ∧ i.zero = some v ∧ aval v = some z := by
 simp only [zeroT, Option.bind_eq_some_iff] at h
 obtain ⟨v, ⟨i, hi, hv⟩, hz⟩ := h
 exact ⟨i, v, hi, hv, hz⟩
theorem run_zeroValue {t : TypeId} {z : AV} (h : zeroT P t = some z) (w : World) : ∃ v, (zeroValue t).run P w = .ok v w ∧ aval v = some z := by
 obtain ⟨i, v, hi, hv, hz⟩ := zeroT_some h
 exact ⟨v, by simp [zeroValue, typeInfo, hi, hv], hz⟩
theorem replicate_get {α : Type} (l : List α) (hl : 0 < l.length) : ∀ (n k : Nat), k < n * l.length → (List.replicate n l).flatten[k]? = l[k % l.length]?
 | 0, k, h => by omega
 | n + 1, k, h => by
   simp only [List.replicate_succ, List.flatten_cons]
   by_cases hk : k < l.length
   ·rw [List.getElem?_append_left hk, Nat.mod_eq_of_lt hk]
   ·rw [List.getElem?_append_right (by omega), replicate_get l hl n (k - l.length) (by rw [Nat.add_mul] at h; omega)]
    congr 1
    exact (Nat.mod_eq_sub_mod (by omega)).symm
theorem afill_length {place : Nat → Option (Nat × Nat)} : ∀ {ps : List (Nat × AV)} {cs cs' : List AV}, afill place cs ps = some cs' → cs'.length = cs.length
 | [], cs, cs', h => by cases h; rfl
 | (i, x) :: ps, cs, cs', h => by
   simp only [afill, Option.bind_eq_some_iff] at h
   obtain ⟨p, hp, h⟩ := h
   split at h
   ·rw [Option.bind_eq_some_iff] at h
    obtain ⟨c1, h1, h2⟩ := h
    rw [afill_length h2, (asplice_get h1).2.1]
   ·cases h
theorem achunk_length (sz : Nat) : ∀ (n : Nat) (l : List Dat), (achunk sz n l).length = n
 | 0, l => rfl
 | n + 1, l => by simp [achunk, achunk_length sz n]
theorem achunk_get (sz : Nat) : ∀ (n : Nat) (l : List Dat) (i : Nat) (row : List Dat), (achunk sz n l)[i]? = some row → i < n ∧ row = (l.drop (i * sz)).take sz
 | 0, l, i, row, h => by simp [achunk] at h
 | n + 1, l, i, row, h => by
   cases i with
   | zero => simp [achunk] at h; exact ⟨by omega, by simp [h]⟩
   | succ i =>
     simp only [achunk, List.getElem?_cons_succ] at h
     obtain ⟨h1, h2⟩ := achunk_get sz n (l.drop sz) i row h
     refine ⟨by omega, ?_⟩
     rw [h2, List.drop_drop]
     congr 2
     rw [Nat.add_mul]; omega
theorem tonil_rel {cs : List AV} {vs : List Value} (h : RelL W g A cs vs) (nb : Bool) : RelL W g A (bif nb then cs.map AV.tonil else cs) vs := by
 cases nb with
 | false => exact h
 | true =>
   refine ⟨by simpa using h.1, fun i x v h1 h2 => ?_⟩
   simp only [cond_true, List.getElem?_map, Option.map_eq_some_iff] at h1
   obtain ⟨y, hy, rfl⟩ := h1
   have := h.2 i y v hy h2
   cases y <;> simp only [AV.tonil] <;> first | exact this | (cases this; exact .d _ _ .nil)
theorem buildSlice_rel (hw : WRel W g A) {t e : TypeId} {sz n : Nat} (he : elemT P t = some (e, sz)) {z : AV} (hz : zeroT P e = some z) (hzl : z.cells.length = sz) (hsz : 0 < sz) (hle : n * sz ≤ 16777216)
  {ps : List (Nat × AV)} {qs : Array (Nat × Value)} (hl : ps.length = qs.toList.length) (hps : ∀ (i : Nat) (p : Nat × AV) (q : Nat × Value), ps[i]? = some p → qs.toList[i]? = some q → p.1 = q.1 ∧ RelV W g A p.2 q.2)
  {cs : List AV} (hf : afill (fun i => some (i * sz, sz)) (List.replicate n z.cells).flatten ps = some cs) {nb : Bool} {ds : List Dat} (hd : adatsT nb A cs = some (ds, A')) :
  ∃ v W' g', (Instr.buildSlice t n qs).run P W = .ok v W' ∧ RelV W' g' A' (.full (achunk sz n ds)) v ∧ WRel W' g' A' ∧ Ev W g A W' g' A' := by
 obtain ⟨hu, agg, hk⟩ := elemT_some he
 obtain ⟨i, d, hi, hd', his, _⟩ := kindT_some hk
 obtain ⟨i2, zv, hi2, hzv, hza⟩ := zeroT_some hz
 rw [hi] at hi2
 cases hi2
 have hzr : RelV W g A z zv := aval_rel hza
 have hzc := cells_rel hzr
 have hzs : zv.cells.size = sz := by have := hzc.1; simp at this; omega
 have hflen : ((List.replicate n z.cells).flatten).length = n * sz := by simp [hzl]
 have hrel0 : RelL W g A (List.replicate n z.cells).flatten ((Array.range (n * sz)).map (zv.cells[· % zv.cells.size]!)).toList := by
  refine ⟨by simp [hzl], fun k x v h1 h2 => ?_⟩
  have hk' := lt_of_get h1
  rw [hflen] at hk'
  rw [replicate_get z.cells (by omega) n k (by rw [hzl]; exact hk'), hzl] at h1
  have hm : k % sz < zv.cells.size := by rw [hzs]; exact Nat.mod_lt _ hsz
  have h3 : v = zv.cells[k % sz] := by
   rw [Array.getElem?_toList, Array.getElem?_map, Array.getElem?_range, if_pos hk'] at h2
   simp only [Option.map_some, Option.some.injEq, hzs] at h2
   rw [← h2, getElem!_pos zv.cells (k % sz) hm]
  refine hzc.2 (k % sz) x v h1 ?_
  rw [h3, Array.getElem?_toList]
  exact Array.getElem?_eq_getElem hm
 obtain ⟨vs', hfill, hvr⟩ := fill_rel hrel0 hl hps hf
 obtain ⟨g1, hds, w1, e1⟩ := adats_rel hw (tonil_rel hvr nb) hd
 have hrun : (Instr.buildSlice t n qs).run P W = .ok (.slice (some ⟨W.heap.size, 0, none⟩) n n) (W.alloc (.cells vs' e)) := by
  by_cases hn : n = 0
  ·subst hn
   have h0 : ∀ f : Nat → Value, (Array.range 0).map f = #[] := fun f => by simp
   rw [Nat.zero_mul, h0] at hfill
   simp [Instr.buildSlice, run_underlying hu, sizeOf, typeInfo, hi, his, h0, hfill, newRow]
  ·exact run_buildSlice W t e n qs vs' i zv hu hi hzv (by rw [his]; omega) (by rw [his]; exact Nat.mul_ne_zero hn (by omega)) (by simpa [his] using hfill)
 have w2 := w1.allocS (o := .cells vs' e) rfl
 have e2 := Ev.allocS w1 (o := .cells vs' e) rfl
 refine ⟨_, _, _, hrun, ?_, w2, e1.trans e2⟩
 have hcl : (achunk sz n ds).length = n := achunk_length sz n ds
 have hdl : ds.length = n * sz := by
  have h1 := hds.1
  have h2 := hvr.1
  have h3 := afill_length hf
  omega
 have hnew := heap_alloc_new W (.cells vs' e)
 have key : RelD (W.alloc (.cells vs' e)) (g1.addS W.heap.size).S (.slice (achunk sz n ds)) (.slice (some ⟨W.heap.size, 0, none⟩) (achunk sz n ds).length (achunk sz n ds).length) := by
  have hget : ∀ (i j : Nat) (row : List Dat) (c : Dat), (achunk sz n ds)[i]? = some row → row[j]? = some c → j < sz ∧ i < n ∧ ds[i * sz + j]? = some c := by
   intro i j row c q1 q2
   obtain ⟨r1, rfl⟩ := achunk_get sz n ds i row q1
   rw [List.getElem?_take] at q2
   split at q2
   ·rename_i hj
    rw [List.getElem?_drop] at q2
    exact ⟨hj, r1, q2⟩
   ·cases q2
  refine .slice (achunk sz n ds) W.heap.size 0 _ sz (fun i j => vs'.getD (i * sz + j) undef) (Nat.le_refl _) (fun i row q => ?_) (fun i j row c q1 q2 => ?_) (fun i j row c q1 q2 => ?_)
  ·obtain ⟨r1, rfl⟩ := achunk_get sz n ds i row q
   have : (i + 1) * sz ≤ n * sz := Nat.mul_le_mul_right _ r1
   rw [Nat.add_mul] at this
   simp
   omega
  ·obtain ⟨hj, hi', hc⟩ := hget i j row c q1 q2
   refine ⟨.inr rfl, ?_⟩
   have hlt := lt_of_get hc
   rw [hds.1] at hlt
   rw [cell_of_row _ _ _ vs' e (0, 0) hnew, Nat.zero_add, Array.getD_eq_getD_getElem?, ← Array.getElem?_toList, List.getElem?_eq_getElem hlt]
   rfl
  ·obtain ⟨hj, hi', hc⟩ := hget i j row c q1 q2
   have hlt := lt_of_get hc
   rw [hds.1] at hlt
   rw [Array.getD_eq_getD_getElem?, ← Array.getElem?_toList, List.getElem?_eq_getElem hlt]
   exact e2.relD (hds.2 _ c _ hc (List.getElem?_eq_getElem hlt))
 have := RelV.full (A := A') _ _ key
 rw [hcl] at this
 exact this
theorem aeqK_rel {kd : Nat} {k j : Dat} {vk vj : Value} {b : Bool} {S : Nat → Nat → Prop} {kt : TypeId} {d : TypeDesc} (hd : P.underlying kt = some d) (hp : plainT P kt = some kd) (hk : RelD W S k vk) (hj : RelD W S j vj) (h : aeqK kd k j = some b) :
  Instr.sameNow d vk vj = some b ∧ (b = true → Instr.sameBits 10000 vj vk = true) := by
 unfold plainT at hp
 rw [hd] at hp
 unfold aeqK at h
 split at h
 ·cases h
  cases hk; cases hj
  split at hp <;> cases hp
  rename_i hdd; cases hdd
  exact ⟨by simp [Instr.sameNow], fun h => by simp at h; subst h; simp [Instr.sameBits]⟩
 ·split at h
  ·rename_i hkk
   subst hkk
   cases h
   cases hk; cases hj
   split at hp <;> cases hp
   rename_i hdd; cases hdd
   exact ⟨by simp [Instr.sameNow], fun h => by simp at h; subst h; simp [Instr.sameBits]⟩
  ·cases h
 ·rename_i x y
  cases h
  generalize hx : Dat.str x = dx at hk
  generalize hy : Dat.str y = dy at hj
  cases hk <;> cases hx
  cases hj <;> cases hy
  rename_i s1 s2
  split at hp <;> cases hp
  rename_i hdd; cases hdd
  have hb : (s1 == s2) = (s1.data.toList == s2.data.toList) := by
   rw [Bool.eq_iff_iff, MapKept.bytes_beq, beq_iff_eq]
   constructor
   ·intro h; rw [h]
   ·intro h
    obtain ⟨d1⟩ := s1
    obtain ⟨d2⟩ := s2
    have : d1 = d2 := Array.toList_inj.1 h
    rw [this]
  refine ⟨by simp [Instr.sameNow, hb], fun h => ?_⟩
  rw [← hb, MapKept.bytes_beq] at h
  subst h
  simp only [Instr.sameBits]
  exact (MapKept.bytes_beq _ _).2 rfl
 ·cases h
def RelM (W : World) (g : Gh) (A : AHeap) (es : List (Dat × AV)) (ms : List MapEntry) : Prop :=
 ms.length = es.length ∧ ∀ (i : Nat) (k : Dat) (x : AV) (m : MapEntry), es[i]? = some (k, x) → ms[i]? = some m → RelD W g.S k m.key ∧ RelV W g A x m.val
theorem RelM.tail {e : Dat × AV} {es : List (Dat × AV)} {m : MapEntry} {ms : List MapEntry} (h : RelM W g A (e :: es) (m :: ms)) : RelM W g A es ms :=
 ⟨by have := h.1; simpa using this, fun i k x m h1 h2 => h.2 (i + 1) k x m (by simpa using h1) (by simpa using h2)⟩
theorem afind_rel {kd : Nat} {kt : TypeId} {d : TypeDesc} (hd : P.underlying kt = some d) (hp : plainT P kt = some kd) {k : Dat} {vk : Value} (hk : RelD W g.S k vk) : ∀ {es : List (Dat × AV)} {ms : List MapEntry} {r : Option AV} (i : Nat), RelM W g A es ms → afind kd k es = some r →
  match r with
  | none => Instr.findNow d vk ms i = some none
  | some x => ∃ j v, Instr.findNow d vk ms i = some (some (j, v)) ∧ RelV W g A x v
 | [], [], r, i, h, hf => by cases hf; rfl
 | [], m :: ms, r, i, h, hf => by have := h.1; simp at this
 | e :: es, [], r, i, h, hf => by have := h.1; simp at this
 | (j, x) :: es, m :: ms, r, i, h, hf => by
   simp only [afind, Option.bind_eq_some_iff] at hf
   obtain ⟨b, hb, hf⟩ := hf
   obtain ⟨h1, h2⟩ := h.2 0 j x m rfl rfl
   obtain ⟨hs, _⟩ := aeqK_rel hd hp hk h1 hb
   cases b with
   | true =>
     simp at hf
     subst hf
     exact ⟨i, m.val, by simp [Instr.findNow, hs], h2⟩
   | false =>
     have ih := afind_rel hd hp hk (i + 1) h.tail (by simpa using hf)
     simpa [Instr.findNow, hs] using ih
def amatch (kd : Nat) (k : Dat) : List (Dat × AV) → Option (Option Nat)
 | [] => some none
 | (j, _) :: es => (aeqK kd k j).bind fun b => if b then some (some 0) else (amatch kd k es).map fun r => r.map (· + 1)
theorem aupd_match {kd : Nat} {k : Dat} {v : AV} : ∀ {es es' : List (Dat × AV)}, aupd kd k v es = some es' → ∃ r, amatch kd k es = some r ∧ es' = (match r with | none => es ++ [(k, v)] | some j => es.set j (k, v))
 | [], es', h => by cases h; exact ⟨none, rfl, rfl⟩
 | (j, x) :: es, es', h => by
   simp only [aupd, Option.bind_eq_some_iff] at h
   obtain ⟨b, hb, h⟩ := h
   cases b with
   | true => simp at h; subst h; exact ⟨some 0, by simp [amatch, hb], rfl⟩
   | false =>
     simp only [Bool.false_eq_true, if_false, Option.map_eq_some_iff] at h
     obtain ⟨es1, h1, rfl⟩ := h
     obtain ⟨r, hr, rfl⟩ := aupd_match h1
     refine ⟨r.map (· + 1), by simp [amatch, hb, hr], ?_⟩
     cases r <;> rfl
theorem adel_match {kd : Nat} {k : Dat} : ∀ {es es' : List (Dat × AV)}, adel kd k es = some es' → ∃ r, amatch kd k es = some r ∧ es' = (match r with | none => es | some j => es.eraseIdx j)
 | [], es', h => by cases h; exact ⟨none, rfl, rfl⟩
 | (j, x) :: es, es', h => by
   simp only [adel, Option.bind_eq_some_iff] at h
   obtain ⟨b, hb, h⟩ := h
   cases b with
   | true => simp at h; subst h; exact ⟨some 0, by simp [amatch, hb], rfl⟩
   | false =>
     simp only [Bool.false_eq_true, if_false, Option.map_eq_some_iff] at h
     obtain ⟨es1, h1, rfl⟩ := h
     obtain ⟨r, hr, rfl⟩ := adel_match h1
     refine ⟨r.map (· + 1), by simp [amatch, hb, hr], ?_⟩
     cases r <;> rfl
theorem amatch_rel {kd : Nat} {kt : TypeId} {d : TypeDesc} (hd : P.underlying kt = some d) (hp : plainT P kt = some kd) {k : Dat} {vk : Value} (hk : RelD W g.S k vk) : ∀ {es : List (Dat × AV)} {ms : List MapEntry} {r : Option Nat} (i : Nat), RelM W g A es ms → amatch kd k es = some r →
  match r with
  | none => Instr.findNow d vk ms i = some none
  | some j => ∃ m, ms[j]? = some m ∧ Instr.findNow d vk ms i = some (some (i + j, m.val)) ∧ Instr.sameBits 10000 m.key vk = true
 | [], [], r, i, h, hf => by cases hf; rfl
 | [], m :: ms, r, i, h, hf => by have := h.1; simp at this
 | e :: es, [], r, i, h, hf => by have := h.1; simp at this
 | (j, x) :: es, m :: ms, r, i, h, hf => by
   simp only [amatch, Option.bind_eq_some_iff] at hf
   obtain ⟨b, hb, hf⟩ := hf
   obtain ⟨h1, h2⟩ := h.2 0 j x m rfl rfl
   obtain ⟨hs, hsb⟩ := aeqK_rel hd hp hk h1 hb
   cases b with
   | true =>
     simp at hf
     subst hf
     exact ⟨m, rfl, by simp [Instr.findNow, hs], hsb rfl⟩
   | false =>
     simp only [Bool.false_eq_true, if_false, Option.map_eq_some_iff] at hf
     obtain ⟨r', hr', rfl⟩ := hf
     have ih := amatch_rel hd hp hk (i + 1) h.tail hr'
     cases r' with
     | none => simpa [Instr.findNow, hs] using ih
     | some q =>
       obtain ⟨m', e1, e2, e3⟩ := ih
       refine ⟨m', by simpa using e1, ?_, e3⟩
       simp only [Instr.findNow, hs, e2]
       congr 3
       omega
theorem mapT_some {t e : TypeId} {kd : Nat} (h : mapT P t = some (kd, e)) : ∃ kt d, P.underlying t = some (.map kt e) ∧ plainT P kt = some kd ∧ P.underlying kt = some d := by
 unfold mapT at h
 split at h
 ·rename_i kt e' hu
  rw [Option.map_eq_some_iff] at h
  obtain ⟨kd', hk, h⟩ := h
  cases h
  cases hd : P.underlying kt with
  | none => simp [plainT, hd] at hk
  | some d => exact ⟨kt, d, hu, hk, hd⟩
 ·cases h
theorem run_checkKey_plain {kt : TypeId} {d : TypeDesc} {kd : Nat} (hd : P.underlying kt = some d) (hp : plainT P kt = some kd) (e : Bool) (k : Value) (w : World) : (Instr.checkKey e 10000 kt k).run P w = .ok () w := by
 unfold plainT at hp
 rw [hd] at hp
 unfold Instr.checkKey
 simp only [Sem.run_bind, run_underlying hd, Result.andThen_ok]
 split at hp <;> cases hp <;> (rename_i hdd; cases hdd; simp)
theorem lookup_rel (hw : WRel W g A) {t : TypeId} {m k x : AV} {um uk : Value} {ok : Bool} (hm : RelV W g A m um) (hk : RelV W g A k uk) (h : alookup P t A m k ok = some x) :
  ∃ v, (Instr.lookup t um uk ok).run P W = .ok v W ∧ RelV W g A x v := by
 unfold alookup at h
 split at h
 case h_2 => cases h
 rename_i kd e id key hmt
 obtain ⟨kt, d, hu, hp, hd⟩ := mapT_some hmt
 split at h
 case h_2 => cases h
 rename_i es hes
 rw [Option.bind_eq_some_iff] at h
 obtain ⟨r, hr, h⟩ := h
 cases hm with
 | mapr _ hid =>
 cases hk with
 | d _ _ hkd =>
 obtain ⟨_, mes, clock, hb, hsz, hrel⟩ := hw.obj id _ hes
 have hM : RelM W g A es mes.toList := ⟨by simpa using hsz, fun i k x m h1 h2 => hrel i k x m h1 (by simpa using h2)⟩
 have hf := afind_rel hd hp hkd 0 hM hr
 have hg := MapKept.run_getObj_map (P := P) hb
 have hck : ∀ b : Bool, (Instr.checkKey b 10000 kt uk).run P W = .ok () W := fun b => run_checkKey_plain hd hp b uk W
 cases r with
 | none =>
   simp only at h hf
   rw [Option.map_eq_some_iff] at h
   obtain ⟨z, hz, h⟩ := h
   obtain ⟨zv, hzr, hza⟩ := run_zeroValue hz W
   have hfk := MapKept.run_findKey (P := P) (w := W) hd hf
   refine ⟨if ok then .tuple #[zv, .bool false] else zv, by simp [Instr.lookup, run_underlying hu, hg, hck, hfk, hzr], ?_⟩
   subst h
   cases ok with
   | false => exact aval_rel hza
   | true =>
     refine .tuple _ [zv, .bool false] rfl fun i x v h1 h2 => ?_
     match i with
     | 0 => simp at h1 h2; subst h1; subst h2; exact aval_rel hza
     | 1 => simp at h1 h2; subst h1; subst h2; exact .bool _
     | i + 2 => simp at h1
 | some y =>
   simp only at h hf
   obtain ⟨j, v, hfn, hv⟩ := hf
   have hfk := MapKept.run_findKey (P := P) (w := W) hd hfn
   refine ⟨if ok then .tuple #[v, .bool true] else v, by simp [Instr.lookup, run_underlying hu, hg, hck, hfk], ?_⟩
   cases h
   cases ok with
   | false => exact hv
   | true =>
     refine .tuple _ [v, .bool true] rfl fun i x v' h1 h2 => ?_
     match i with
     | 0 => simp at h1 h2; subst h1; subst h2; exact hv
     | 1 => simp at h1 h2; subst h1; subst h2; exact .bool _
     | i + 2 => simp at h1
theorem restMap {W : World} {r : Nat} {es es' : Array MapEntry} {k k' : Nat} (hb : W.heap[r]? = some (.map es k)) : Rest W { W with heap := W.heap.setIfInBounds r (.map es' k') } := by
 obtain ⟨s1, s2⟩ := MapKept.heap_set (o' := .map es' k') hb
 exact ⟨rfl, rfl⟩
theorem restIter {W : World} {r : Nat} {s : ByteArray} {k k' : Nat} (hb : W.heap[r]? = some (.stringIter s k)) : Rest W { W with heap := W.heap.setIfInBounds r (.stringIter s k') } := by
 obtain ⟨s1, s2⟩ := MapKept.heap_set (o' := .stringIter s k') hb
 exact ⟨rfl, rfl⟩
theorem next_rel (hw : WRel W g A) {ty : TypeId} {p x : AV} {u : Value} (hp : RelV W g A p u) (h : anext A p = some (x, A')) :
  ∃ v W', (Instr.next u true ty).run P W = .ok v W' ∧ RelV W' g A' x v ∧ WRel W' g A' ∧ Ev W g A W' g A' := by
 unfold anext at h
 split at h
 case h_2 => cases h
 rename_i id
 split at h
 case h_2 => cases h
 rename_i s pos hid
 cases hp with
 | ptr _ _ hlt =>
 obtain ⟨ho, hb⟩ := hw.obj id _ hid
 have hb' : W.heap[g.ob id]? = some (.stringIter ⟨s.toArray⟩ pos) := hb
 have hsz : (⟨s.toArray⟩ : ByteArray).size = s.length := by simp [ByteArray.size]
 split at h
 ·rename_i hpos
  cases h
  obtain ⟨s1, s2⟩ := MapKept.heap_set (o' := .stringIter ⟨s.toArray⟩ (pos + (Utf8.decode ⟨s.toArray⟩ pos).2)) hb'
  obtain ⟨w1, w2⟩ := hw.setObj (W' := { W with heap := W.heap.setIfInBounds (g.ob id) (.stringIter ⟨s.toArray⟩ (pos + (Utf8.decode ⟨s.toArray⟩ pos).2)) }) (g' := g)
   (A' := { A with objs := A.objs.set id (.iter s (pos + (Utf8.decode ⟨s.toArray⟩ pos).2)) }) (id := id) (o' := .iter s (pos + (Utf8.decode ⟨s.toArray⟩ pos).2)) rfl
   (fun i hi => by rw [List.getElem?_set_ne (fun e => hi e.symm)]) (by simp [hlt]) (by simp) (restIter hb') (by simp) (fun blk _ h2 => s2 blk h2) rfl rfl (fun _ _ => rfl) (fun _ _ => rfl) ho
   (by have := hw.lt _ _ ho; simpa using this) (fun blk o h1 h2 => by have := hw.lt _ _ h2; omega) (fun ev => s1)
  refine ⟨.tuple #[.bool true, .int .i64 pos, .int .i32 (Utf8.decode ⟨s.toArray⟩ pos).1], _, ?_, ?_, w1, w2⟩
  ·simp [Instr.next, getObj, setObj, Sem.run, hb', hsz, hpos, goInt]
  ·refine .tuple _ [.bool true, .int .i64 pos, .int .i32 (Utf8.decode ⟨s.toArray⟩ pos).1] rfl fun i y v h1 h2 => ?_
   match i with
   | 0 => simp at h1 h2; subst h1; subst h2; exact .bool _
   | 1 => simp at h1 h2; subst h1; subst h2; exact .int _ _
   | 2 => simp at h1 h2; subst h1; subst h2; exact .int _ _
   | i + 3 => simp at h1
 ·rename_i hpos
  cases h
  refine ⟨.tuple #[.bool false], W, ?_, ?_, hw, .refl _ _ _⟩
  ·simp [Instr.next, getObj, Sem.run, hb', hsz, hpos]
  ·refine .tuple _ [.bool false] rfl fun i y v h1 h2 => ?_
   match i with
   | 0 => simp at h1 h2; subst h1; subst h2; exact .bool _
   | i + 1 => simp at h1
theorem WRel.setMap (hw : WRel W g A) {id : Nat} {es es' : List (Dat × AV)} {mes mes' : Array MapEntry} {clock clock' : Nat} (hes : A.objs[id]? = some (.map es)) (hb : W.heap[g.ob id]? = some (.map mes clock))
  (hM : RelM W g A es' mes'.toList) : WRel { W with heap := W.heap.setIfInBounds (g.ob id) (.map mes' clock') } g { A with objs := A.objs.set id (.map es') } ∧
   Ev W g A { W with heap := W.heap.setIfInBounds (g.ob id) (.map mes' clock') } g { A with objs := A.objs.set id (.map es') } := by
 have hid := lt_of_get hes
 have ho := (hw.obj id _ hes).1
 obtain ⟨s1, s2⟩ := MapKept.heap_set (o' := .map mes' clock') hb
 refine hw.setObj (id := id) (o' := .map es') rfl (fun i hi => by rw [List.getElem?_set_ne (fun e => hi e.symm)]) (by simp [hid]) (by simp) (restMap hb) (by simp) (fun blk _ h2 => s2 blk h2) rfl rfl (fun _ _ => rfl) (fun _ _ => rfl) ho
  (by have := hw.lt _ _ ho; simpa using this) (fun blk o h1 h2 => by have := hw.lt _ _ h2; omega) (fun ev => ⟨mes', clock', s1, by have := hM.1; simpa using this, fun i k x m h1 h2 => ?_⟩)
 obtain ⟨r1, r2⟩ := hM.2 i k x m h1 (by simpa using h2)
 exact ⟨ev.relD r1, ev.relV r2⟩
theorem mapUpdate_rel (hw : WRel W g A) {t : TypeId} {m k x : AV} {um uk ux : Value} (hm : RelV W g A m um) (hk : RelV W g A k uk) (hx : RelV W g A x ux) (h : amapUpdate P t A m k x = some A') :
  ∃ W', (Instr.mapUpdate t um uk ux).run P W = .ok () W' ∧ WRel W' g A' ∧ Ev W g A W' g A' := by
 unfold amapUpdate at h
 split at h
 case h_2 => cases h
 rename_i kd e id key hmt
 obtain ⟨kt, d, hu, hp, hd⟩ := mapT_some hmt
 split at h
 case h_2 => cases h
 rename_i es hes
 split at h
 case isFalse => cases h
 rw [Option.map_eq_some_iff] at h
 obtain ⟨es', hup, h⟩ := h
 cases h
 cases hm with
 | mapr _ hid =>
 cases hk with
 | d _ _ hkd =>
 obtain ⟨_, mes, clock, hb, hsz, hrel⟩ := hw.obj id _ hes
 have hM : RelM W g A es mes.toList := ⟨by simpa using hsz, fun i k x m h1 h2 => hrel i k x m h1 (by simpa using h2)⟩
 obtain ⟨r, hr, rfl⟩ := aupd_match hup
 have hf := amatch_rel hd hp hkd 0 hM hr
 have hg := MapKept.run_getObj_map (P := P) hb
 have hck : ∀ b : Bool, (Instr.checkKey b 10000 kt uk).run P W = .ok () W := fun b => run_checkKey_plain hd hp b uk W
 cases r with
 | none =>
   simp only at hf ⊢
   have hfk := MapKept.run_findKey (P := P) (w := W) hd hf
   have hst := fun o => MapKept.run_setObj_map (P := P) o hb
   have hM' : RelM W g A (es ++ [(key, x)]) (mes.push { key := uk, val := ux, born := clock }).toList := by
    refine ⟨by simp [hsz], fun i k' x' m h1 h2 => ?_⟩
    simp only [Array.toList_push] at h2
    rcases Nat.lt_trichotomy i es.length with h | h | h
    ·rw [List.getElem?_append_left h] at h1
     rw [List.getElem?_append_left (by simp [hsz]; exact h)] at h2
     exact hM.2 i k' x' m h1 h2
    ·subst h
     rw [List.getElem?_append_right (Nat.le_refl _)] at h1
     rw [List.getElem?_append_right (by simp [hsz])] at h2
     simp [hsz] at h1 h2
     obtain ⟨rfl, rfl⟩ := h1
     subst h2
     exact ⟨hkd, hx⟩
    ·rw [List.getElem?_eq_none (by simp; omega)] at h1
     cases h1
   obtain ⟨w1, w2⟩ := hw.setMap (clock' := clock + 1) hes hb hM'
   exact ⟨_, by simp [Instr.mapUpdate, run_underlying hu, hg, hck, hfk, hst], w1, w2⟩
 | some j =>
   simp only at hf ⊢
   obtain ⟨m, hmj, hfn, hsb⟩ := hf
   have hfk := MapKept.run_findKey (P := P) (w := W) hd hfn
   have hst := fun o => MapKept.run_setObj_map (P := P) o hb
   have hmj' : mes[j]? = some m := by simpa using hmj
   have hjl := lt_of_get hmj
   have hM' : RelM W g A (es.set j (key, x)) (mes.modify j fun e => { e with key := uk, val := ux }).toList := by
    refine ⟨by simp [hsz], fun i k' x' m' h1 h2 => ?_⟩
    simp only [Array.toList_modify, List.getElem?_modify] at h2
    rw [List.getElem?_set] at h1
    by_cases hji : j = i
    ·subst hji
     have hjl' : j < es.length := by rw [← hM.1]; exact hjl
     simp only [if_true, hjl'] at h1
     cases h1
     rw [hmj] at h2
     simp at h2
     subst h2
     exact ⟨hkd, hx⟩
    ·rw [if_neg hji] at h1
     have h2' : mes.toList[i]? = some m' := by
      cases hq : mes.toList[i]? with
      | none => simp [hq] at h2
      | some q => simp [hq, hji] at h2; rw [h2]
     exact hM.2 i k' x' m' h1 h2'
   obtain ⟨w1, w2⟩ := hw.setMap (clock' := clock) hes hb hM'
   refine ⟨_, ?_, w1, w2⟩
   have hks : (Instr.keyThatStays m.key uk).run P W = .ok uk W := by simp [Instr.keyThatStays, hsb]
   simp [Instr.mapUpdate, run_underlying hu, hg, hck, hfk, hmj', hks, hst]
theorem delete_rel (hw : WRel W g A) {t ty : TypeId} {ts : Array TypeId} (hts : ts[0]? = some t) {m k : AV} {um uk : Value} (hm : RelV W g A m um) (hk : RelV W g A k uk) (h : adelete P t A m k = some A') :
  ∃ W', (Builtin.delete_ ts ty #[um, uk]).run P W = .ok (.tuple #[]) W' ∧ WRel W' g A' ∧ Ev W g A W' g A' := by
 unfold adelete at h
 split at h
 case h_2 => cases h
 rename_i kd e id key hmt
 obtain ⟨kt, d, hu, hp, hd⟩ := mapT_some hmt
 split at h
 case h_2 => cases h
 rename_i es hes
 rw [Option.map_eq_some_iff] at h
 obtain ⟨es', hup, h⟩ := h
 cases h
 cases hm with
 | mapr _ hid =>
 cases hk with
 | d _ _ hkd =>
 obtain ⟨_, mes, clock, hb, hsz, hrel⟩ := hw.obj id _ hes
 have hM : RelM W g A es mes.toList := ⟨by simpa using hsz, fun i k x m h1 h2 => hrel i k x m h1 (by simpa using h2)⟩
 obtain ⟨r, hr, rfl⟩ := adel_match hup
 have hf := amatch_rel hd hp hkd 0 hM hr
 have hg := MapKept.run_getObj_map (P := P) hb
 have hck : ∀ b : Bool, (Instr.checkKey b 10000 kt uk).run P W = .ok () W := fun b => run_checkKey_plain hd hp b uk W
 have hst := fun o => MapKept.run_setObj_map (P := P) o hb
 cases r with
 | none =>
   simp only at hf ⊢
   have hfk := MapKept.run_findKey (P := P) (w := W) hd hf
   obtain ⟨w1, w2⟩ := hw.setMap (clock' := clock) hes hb hM
   exact ⟨_, by simp [Builtin.delete_, hts, run_underlying hu, hg, hck, hfk, hst], w1, w2⟩
 | some j =>
   simp only at hf ⊢
   obtain ⟨m, hmj, hfn, hsb⟩ := hf
   have hfk := MapKept.run_findKey (P := P) (w := W) hd hfn
   have hjl := lt_of_get hmj
   have hM' : RelM W g A (es.eraseIdx j) (mes.eraseIdxIfInBounds j).toList := by
    have hjs : j < mes.size := by simpa using hjl
    have he : (mes.eraseIdxIfInBounds j).toList = mes.toList.eraseIdx j := by simp [Array.eraseIdxIfInBounds, hjs]
    rw [he]
    refine ⟨by rw [List.length_eraseIdx, List.length_eraseIdx, hM.1], fun i k' x' m' h1 h2 => ?_⟩
    rw [List.getElem?_eraseIdx] at h1 h2
    split at h1
    ·rename_i hi
     rw [if_pos hi] at h2
     exact hM.2 _ _ _ _ h1 h2
    ·rename_i hi
     rw [if_neg hi] at h2
     exact hM.2 _ _ _ _ h1 h2
   obtain ⟨w1, w2⟩ := hw.setMap (clock' := clock) hes hb hM'
   exact ⟨_, by simp [Builtin.delete_, hts, run_underlying hu, hg, hck, hfk, hst], w1, w2⟩
end
section
variable {P : Program} {W W' W0 : World} {g g' g0 : Gh} {A A' A0 : AHeap} {N nt : Nat} {β : Nat → Nat} {env : AEnv} {a : Act}
theorem nilCheck_rel {x : AV} {v : Value} (h : RelV W g A x v) (hx : (∃ id off, x = .ptr id off) ∨ (∃ cs, x = .sptr cs) ∨ ∃ t l i o, x = .eptr t l i o) : ∃ ad, v = .pointer (some ad) := by
 rcases hx with ⟨id, off, rfl⟩ | ⟨cs, rfl⟩ | ⟨t, l, i, o, rfl⟩ <;> cases h <;> exact ⟨_, rfl⟩
theorem unary_rel (hw : WRel W g A) {op : UnOp} {x y : AV} {v : Value} (hv : RelV W g A x v) (h : aun op x = some y) : ∃ r, (Op.unary op v).run P W = .ok r W ∧ RelV W g A y r := by
 unfold aun at h
 split at h
 ·cases op <;> simp only at h <;> try (cases h; done)
  cases h
  rw [hv.dBool]
  exact ⟨_, by simp [Op.unary] <;> rfl, .bool _⟩
 ·cases op <;> simp only at h <;> try (cases h; done)
  cases h
  rw [hv.dInt]
  exact ⟨_, by simp [Op.unary, Op.intArith] <;> rfl, .int _ _⟩
 ·cases h
theorem bytesT_true {s t : TypeId} (h : bytesT P s t = true) : ∃ e, P.underlying s = some (.slice e) ∧ P.underlying e = some (.int .u8) ∧ P.underlying t = some .string := by
 unfold bytesT at h
 split at h
 ·rename_i e h1 h2
  split at h
  ·rename_i h3
   exact ⟨e, h1, h3, h2⟩
  ·cases h
 ·cases h
theorem byteRows_len : ∀ {rows : List (List Dat)} {l : List Int}, byteRows rows = some l → l.length = rows.length
 | [], l, h => by cases h; rfl
 | [.int .u8 n] :: rs, l, h => by
   rw [byteRows, Option.map_eq_some_iff] at h
   obtain ⟨l', h1, rfl⟩ := h
   rw [List.length_cons, List.length_cons, byteRows_len h1]
theorem byteRows_get : ∀ {rows : List (List Dat)} {l : List Int}, byteRows rows = some l → ∀ (j : Nat) (n : Int), l[j]? = some n → rows[j]? = some [.int .u8 n]
 | [], l, h, j, n, hj => by cases h; simp at hj
 | [.int .u8 n] :: rs, l, h, j, m, hj => by
   rw [byteRows, Option.map_eq_some_iff] at h
   obtain ⟨l', h1, rfl⟩ := h
   cases j with
   | zero => simp at hj; subst hj; rfl
   | succ j => exact byteRows_get h1 j m (by simpa using hj)
theorem byteRows_cell {S : Nat → Nat → Prop} {rows : List (List Dat)} {a : Addr} {n c : Nat} (hd : RelD W S (.slice rows) (.slice (some a) n c)) {l : List Int} (hl : byteRows rows = some l) (j : Nat) (v : Value) (hj : (l.map (Value.int .u8))[j]? = some v) : W.cell? (a.add j) = some v := by
 rw [List.getElem?_map, Option.map_eq_some_iff] at hj
 obtain ⟨m, hm, rfl⟩ := hj
 have hr := byteRows_get hl j m hm
 generalize hq : Dat.slice rows = q at hd
 cases hd with
 | empty a cap => cases hq; simp at hr
 | slice rs b o cap sz val hcap hlen hcell hval =>
   cases hq
   have hsz := hlen j _ hr
   simp only [List.length_cons, List.length_nil, Nat.zero_add] at hsz
   subst hsz
   obtain ⟨_, h2⟩ := hcell j 0 _ _ hr rfl
   have h3 := hval j 0 _ _ hr rfl
   generalize hq : Dat.int .u8 m = d at h3
   generalize val j 0 = w at h3 h2
   cases h3 with
   | int k n => cases hq; rw [addr_add]; simpa using h2
   | _ => cases hq
theorem conv_rel {s t : TypeId} {x y : AV} {v : Value} (hv : RelV W g A x v) (h : aconv P s t x = some y) : ∃ r, (convert s t v).run P W = .ok r W ∧ RelV W g A y r := by
 unfold aconv at h
 split at h
 ·rename_i k n
  rw [Option.map_eq_some_iff] at h
  obtain ⟨k', hk, rfl⟩ := h
  rw [hv.dInt]
  unfold convT at hk
  split at hk
  ·rename_i d k2 hs ht
   cases hk
   exact ⟨_, by simp only [convert, Sem.run_bind, run_underlying hs, run_underlying ht, Result.andThen_ok]; rfl, .int _ _⟩
  ·cases hk
 ·rename_i z
  split at h
  ·rename_i hc
   cases h
   simp only [Bool.and_eq_true] at hc
   obtain ⟨b, rfl, hb⟩ := hv.dStr
   have hs := strT_true hc.1
   have ht := strT_true hc.2
   exact ⟨.string b, by simp only [convert, Sem.run_bind, run_underlying hs, run_underlying ht, Result.andThen_ok]; rfl, hv⟩
  ·cases h
 ·rename_i rows
  split at h
  ·rename_i hb
   rw [Option.map_eq_some_iff] at h
   obtain ⟨l, hl, rfl⟩ := h
   obtain ⟨e, h1, h2, h3⟩ := bytesT_true hb
   cases hv with
   | full _ a hd =>
   have hrun : (loadCells a rows.length).run P W = .ok (l.map (Value.int .u8)).toArray W := by
    have hlen := byteRows_len hl
    have := run_loadCells_list (P := P) (w := W) a (l.map (Value.int .u8)) (fun j v hj => byteRows_cell hd hl j v hj)
    rw [List.length_map, hlen] at this
    exact this
   refine ⟨_, by rw [run_convert_bytes_string W s t e (some a) rows.length rows.length h1 h2 h3]; exact run_bytesToString W a rows.length rows.length l hrun, ?_⟩
   have : ∀ (l : List Int) (b : ByteArray), (l.foldl (fun r n => r.push (UInt8.ofNat n.toNat)) b).data.toList = b.data.toList ++ l.map fun n => UInt8.ofNat n.toNat := by
    intro l
    induction l with
    | nil => intro b; simp
    | cons x l ih => intro b; rw [List.foldl_cons, ih]; simp
   have h9 := this l ByteArray.empty
   have : (ByteArray.empty).data.toList = [] := rfl
   rw [this, List.nil_append] at h9
   rw [← h9]
   exact .d _ _ (.str _)
  ·cases h
 ·cases h
theorem build_rel (hw : WRel W g A) {t : TypeId} {z : AV} {fs : List (Nat × Nat)} (hz : zeroT P t = some z) (hf : fieldsT P t = some fs) {ps : List (Nat × AV)} {qs : Array (Nat × Value)} (hl : ps.length = qs.toList.length)
  (hps : ∀ (i : Nat) (p : Nat × AV) (q : Nat × Value), ps[i]? = some p → qs.toList[i]? = some q → p.1 = q.1 ∧ RelV W g A p.2 q.2) {cs : List AV} (hc : afill (fun i => fs[i]?) z.cells ps = some cs) :
  ∃ v, (Instr.build t qs).run P W = .ok v W ∧ RelV W g A (.agg cs) v := by
 obtain ⟨i, zv, hi, hzv, hza⟩ := zeroT_some hz
 have hzc := cells_rel (aval_rel (W := W) (g := g) (A := A) hza)
 obtain ⟨vs', hfill, hr⟩ := fill_rel hzc hl hps hc
 unfold fieldsT at hf
 split at hf
 ·rename_i fields hu
  have hp := fieldsL_places hf
  refine ⟨.agg vs', run_build W t qs vs' ?_, hr.aggA⟩
  unfold Program.built
  simp only [hi, hu, hzv, hp]
  simpa using hfill
 ·cases hf
theorem sliceAt_rel (hw : WRel W g A) {t : TypeId} {x y : AV} {u : Value} (hx : RelV W g A x u) {lo hi : Option AV} {vlo vhi : Option Value} (hlo : (lo = none ∧ vlo = none) ∨ ∃ p q, lo = some p ∧ vlo = some q ∧ RelV W g A p q) (hhi : (hi = none ∧ vhi = none) ∨ ∃ p q, hi = some p ∧ vhi = some q ∧ RelV W g A p q)
  (h : (match some x, lo.map some, hi.map some with
  | some (.d (.str s)), none, some (some (.d (.int _ h))) => if strT P t = true ∧ 0 ≤ h ∧ h ≤ s.length then some (AV.d (.str (s.take h.toNat)), A) else none
  | some (.d (.str s)), some (some (.d (.int _ l))), none => if strT P t = true ∧ 0 ≤ l ∧ l ≤ s.length then some (.d (.str (s.drop l.toNat)), A) else none
  | some (.d (.slice rows)), none, some (some (.d (.int _ h))) => if (elemT P t).isSome = true ∧ 0 ≤ h ∧ h ≤ rows.length then some (.d (.slice (rows.take h.toNat)), A) else none
  | some (.d (.slice rows)), some (some (.d (.int _ l))), none => match elemT P t with
    | some (_, sz) => if rows.all (fun r => r.length == sz) = true ∧ 0 ≤ l ∧ l ≤ rows.length then some (.d (.slice (rows.drop l.toNat)), A) else none
    | none => none
  | some (.own _ _), none, some (some (.d (.int _ h))) => if (elemT P t).isSome = true ∧ h = 0 then some (.d (.slice []), A) else none
  | some (.own tok len), some (some (.d (.int _ l))), none => if (elemT P t).isSome = true ∧ l = 0 then some (.own tok len, A) else none
  | some (.d (.str s)), some (some (.d (.int _ l))), some (some (.d (.int _ h))) => if strT P t = true ∧ 0 ≤ l ∧ l ≤ h ∧ h ≤ s.length then some (.d (.str ((s.take h.toNat).drop l.toNat)), A) else none
  | _, _, _ => none) = some (y, A')) : A' = A ∧ ∃ r, (Instr.sliceAt t u vlo vhi none).run P W = .ok r W ∧ RelV W g A y r := by
 split at h
 ·rename_i s k n hx' hlo' hhi'
  split at h
  case isFalse => cases h
  rename_i hc
  cases h
  cases hx'
  have hlo1 : lo = none := by cases lo <;> simp at hlo' ⊢
  subst hlo1
  have hhi1 : hi = some (.d (.int k n)) := by cases hi <;> simp at hhi'; rw [hhi']
  subst hhi1
  obtain rfl : vlo = none := by rcases hlo with ⟨_, h⟩ | ⟨p, q, h, _⟩; exact h; cases h
  obtain rfl : vhi = some (.int k n) := by
   rcases hhi with ⟨h, _⟩ | ⟨p, q, h, h2, hr⟩
   ·cases h
   ·cases h; rw [h2, hr.dInt]
  obtain ⟨b, rfl, hb⟩ := hx.dStr
  subst hb
  have hsz : b.data.toList.length = b.size := by rw [Array.length_toList]; rfl
  rw [hsz] at hc
  have hu := strT_true hc.1
  refine ⟨rfl, .string (b.extract 0 n.toNat), ?_, ?_⟩
  ·simp [Instr.sliceAt, Instr.slice, run_underlying hu, Instr.sliceBounds, Instr.sliceBound, asIntOf, hc.2.1, hc.2.2]
  ·have e : (b.extract 0 n.toNat).data.toList = b.data.toList.take n.toNat := by simp
   rw [← e]
   exact .str _
 ·rename_i s k n hx' hlo' hhi'
  split at h
  case isFalse => cases h
  rename_i hc
  cases h
  cases hx'
  have hhi1 : hi = none := by cases hi <;> simp at hhi' ⊢
  subst hhi1
  have hlo1 : lo = some (.d (.int k n)) := by cases lo <;> simp at hlo'; rw [hlo']
  subst hlo1
  obtain rfl : vhi = none := by rcases hhi with ⟨_, h⟩ | ⟨p, q, h, _⟩; exact h; cases h
  obtain rfl : vlo = some (.int k n) := by
   rcases hlo with ⟨h, _⟩ | ⟨p, q, h, h2, hr⟩
   ·cases h
   ·cases h; rw [h2, hr.dInt]
  obtain ⟨b, rfl, hb⟩ := hx.dStr
  subst hb
  have hsz : b.data.toList.length = b.size := by rw [Array.length_toList]; rfl
  rw [hsz] at hc
  have hu := strT_true hc.1
  refine ⟨rfl, .string (b.extract n.toNat b.size), ?_, ?_⟩
  ·simp [Instr.sliceAt, Instr.slice, run_underlying hu, Instr.sliceBounds, Instr.sliceBound, asIntOf, hc.2.1, hc.2.2]
  ·have e : (b.extract n.toNat b.size).data.toList = b.data.toList.drop n.toNat := by
    simp only [ByteArray.data_extract, Array.toList_extract, List.extract_eq_take_drop]
    rw [List.take_of_length_le]
    simp [hsz]
   rw [← e]
   exact .str _
 ·rename_i rows k n hx' hlo' hhi'
  split at h
  case isFalse => cases h
  rename_i hc
  cases h
  cases hx'
  have hlo1 : lo = none := by cases lo <;> simp at hlo' ⊢
  subst hlo1
  have hhi1 : hi = some (.d (.int k n)) := by cases hi <;> simp at hhi'; rw [hhi']
  subst hhi1
  obtain rfl : vlo = none := by rcases hlo with ⟨_, h⟩ | ⟨p, q, h, _⟩; exact h; cases h
  obtain rfl : vhi = some (.int k n) := by
   rcases hhi with ⟨h, _⟩ | ⟨p, q, h, h2, hr⟩
   ·cases h
   ·cases h; rw [h2, hr.dInt]
  obtain ⟨he, h0, hle⟩ := hc
  obtain ⟨⟨e, sz⟩, hel⟩ := Option.isSome_iff_exists.1 he
  obtain ⟨hu, agg, hk⟩ := elemT_some hel
  have key : ∀ (ad : Option Addr) (cap len : Nat), len ≤ cap → n.toNat ≤ cap → (Instr.sliceAt t (.slice ad len cap) none (some (.int k n)) none).run P W = .ok (.slice ad n.toNat cap) W := by
   intro ad cap len h1 h2
   have h3 : n ≤ (cap : Int) := by omega
   have h4 : (if cap = 0 then ad else Option.map (fun x => x.add 0) ad) = ad := by
    have : ∀ x : Addr, x.add 0 = x := fun x => by simp [Addr.add]
    cases ad <;> simp [this]
   simp [Instr.sliceAt, Instr.slice, run_underlying hu, Instr.sliceBounds, Instr.sliceBound, asIntOf, h0, h3, run_sizeOf hk, h4]
  cases hx with
  | d _ _ hd =>
  refine ⟨rfl, ?_⟩
  generalize hdd : Dat.slice rows = dd at hd
  cases hd with
  | bool => cases hdd
  | int => cases hdd
  | str => cases hdd
  | nil => cases hdd
  | empty ad cap =>
    cases hdd
    have : n.toNat = 0 := by simp at hle; omega
    refine ⟨_, key ad cap 0 (Nat.zero_le _) (by omega), ?_⟩
    rw [this]
    exact .d _ _ (.empty ad cap)
  | slice rows' b o cap sz' val hcap hlen hcell hval =>
    cases hdd
    have hn : n.toNat ≤ rows.length := by omega
    refine ⟨_, key (some ⟨b, o, none⟩) cap rows.length hcap (by omega), ?_⟩
    have hget : ∀ (i : Nat) (row : List Dat), (rows.take n.toNat)[i]? = some row → rows[i]? = some row := by
     intro i row h
     rw [List.getElem?_take] at h
     split at h
     ·exact h
     ·cases h
    have := RelD.slice (W := W) (S := g.S) (rows.take n.toNat) b o cap sz' val (by simp; omega) (fun i row h => hlen i row (hget i row h)) (fun i j row c h1 h2 => hcell i j row c (hget i row h1) h2) (fun i j row c h1 h2 => hval i j row c (hget i row h1) h2)
    rw [List.length_take, Nat.min_eq_left hn] at this
    exact .d _ _ this
 ·rename_i rows k n hx' hlo' hhi'
  split at h
  case h_2 => cases h
  rename_i e sz hel
  split at h
  case isFalse => cases h
  rename_i hc
  cases h
  cases hx'
  have hhi1 : hi = none := by cases hi <;> simp at hhi' ⊢
  subst hhi1
  have hlo1 : lo = some (.d (.int k n)) := by cases lo <;> simp at hlo'; rw [hlo']
  subst hlo1
  obtain rfl : vhi = none := by rcases hhi with ⟨_, h⟩ | ⟨p, q, h, _⟩; exact h; cases h
  obtain rfl : vlo = some (.int k n) := by
   rcases hlo with ⟨h, _⟩ | ⟨p, q, h, h2, hr⟩
   ·cases h
   ·cases h; rw [h2, hr.dInt]
  obtain ⟨hall, h0, hle⟩ := hc
  obtain ⟨hu, agg, hk⟩ := elemT_some hel
  have key : ∀ (ad : Option Addr) (cap len : Nat), len ≤ cap → n.toNat ≤ len → (Instr.sliceAt t (.slice ad len cap) (some (.int k n)) none none).run P W = .ok (.slice (if cap = n.toNat then ad else ad.map (·.add (n.toNat * sz))) (len - n.toNat) (cap - n.toNat)) W := by
   intro ad cap len h1 h2
   have h3 : n ≤ (len : Int) := by omega
   simp [Instr.sliceAt, Instr.slice, run_underlying hu, Instr.sliceBounds, Instr.sliceBound, asIntOf, h0, h3, run_sizeOf hk]
  cases hx with
  | d _ _ hd =>
  refine ⟨rfl, ?_⟩
  generalize hdd : Dat.slice rows = dd at hd
  cases hd with
  | bool => cases hdd
  | int => cases hdd
  | str => cases hdd
  | nil => cases hdd
  | empty ad cap =>
    cases hdd
    have : n.toNat = 0 := by simp at hle; omega
    refine ⟨_, key ad cap 0 (Nat.zero_le _) (by omega), ?_⟩
    rw [this]
    exact .d _ _ (.empty _ _)
  | slice rows' b o cap sz' val hcap hlen hcell hval =>
    cases hdd
    have hn : n.toNat ≤ rows.length := by omega
    refine ⟨_, key (some ⟨b, o, none⟩) cap rows.length hcap hn, ?_⟩
    by_cases hend : n.toNat = rows.length
    ·have e1 : rows.drop n.toNat = [] := by rw [hend]; simp
     have e2 : rows.length - n.toNat = 0 := by omega
     rw [e1, e2]
     exact .d _ _ (.empty _ _)
    ·have hlt : n.toNat < rows.length := by omega
     have hsz : sz' = sz := by
      have h1 := hlen n.toNat _ (List.getElem?_eq_getElem hlt)
      have h2 := List.all_eq_true.1 hall _ (List.getElem_mem hlt)
      rw [← h1]
      simpa using h2
     subst hsz
     have e3 : (if cap = n.toNat then (some (⟨b, o, none⟩ : Addr)) else Option.map (fun x : Addr => x.add (n.toNat * sz')) (some (⟨b, o, none⟩ : Addr))) = some (⟨b, o + n.toNat * sz', none⟩ : Addr) := by
      rw [if_neg (by omega)]
      show some (Addr.add ⟨b, o, none⟩ (n.toNat * sz')) = _
      unfold Addr.add
      split
      ·rename_i h0; rw [h0]; rfl
      ·rfl
     rw [e3]
     have hget : ∀ (i : Nat) (row : List Dat), (rows.drop n.toNat)[i]? = some row → rows[n.toNat + i]? = some row := by
      intro i row h
      rw [List.getElem?_drop] at h
      exact h
     have := RelD.slice (W := W) (S := g.S) (rows.drop n.toNat) b (o + n.toNat * sz') (cap - n.toNat) sz' (fun i j => val (n.toNat + i) j) (by simp; omega) (fun i row h => hlen _ row (hget i row h))
      (fun i j row c h1 h2 => by
       have := hcell (n.toNat + i) j row c (hget i row h1) h2
       rw [Nat.add_mul, ← Nat.add_assoc] at this
       exact this)
      (fun i j row c h1 h2 => hval _ j row c (hget i row h1) h2)
     rw [List.length_drop] at this
     exact .d _ _ this
 ·rename_i tok len k n hx' hlo' hhi'
  split at h
  case isFalse => cases h
  rename_i hc
  obtain ⟨he, rfl⟩ := hc
  cases h
  cases hx'
  have hlo1 : lo = none := by cases lo <;> simp at hlo' ⊢
  subst hlo1
  have hhi1 : hi = some (.d (.int k 0)) := by cases hi <;> simp at hhi'; rw [hhi']
  subst hhi1
  obtain rfl : vlo = none := by rcases hlo with ⟨_, h⟩ | ⟨p, q, h, _⟩; exact h; cases h
  obtain rfl : vhi = some (.int k 0) := by
   rcases hhi with ⟨h, _⟩ | ⟨p, q, h, h2, hr⟩
   ·cases h
   ·cases h; rw [h2, hr.dInt]
  obtain ⟨⟨e, sz⟩, hel⟩ := Option.isSome_iff_exists.1 he
  obtain ⟨hu, agg, hk⟩ := elemT_some hel
  cases hx with
  | own _ _ ad cap ht h =>
  refine ⟨rfl, .slice ad 0 cap, ?_, .d _ _ (.empty ad cap)⟩
  have h4 : (if cap = 0 then ad else Option.map (fun x => x.add 0) ad) = ad := by
   have : ∀ x : Addr, x.add 0 = x := fun x => by simp [Addr.add]
   cases ad <;> simp [this]
  simp [Instr.sliceAt, Instr.slice, run_underlying hu, Instr.sliceBounds, Instr.sliceBound, asIntOf, run_sizeOf hk, h4]
 ·rename_i tok len k n hx' hlo' hhi'
  split at h
  case isFalse => cases h
  rename_i hc
  cases h
  obtain ⟨he, rfl⟩ := hc
  cases hx'
  have hhi1 : hi = none := by cases hi <;> simp at hhi' ⊢
  subst hhi1
  have hlo1 : lo = some (.d (.int k 0)) := by cases lo <;> simp at hlo'; rw [hlo']
  subst hlo1
  obtain rfl : vhi = none := by rcases hhi with ⟨_, h⟩ | ⟨p, q, h, _⟩; exact h; cases h
  obtain rfl : vlo = some (.int k 0) := by
   rcases hlo with ⟨h, _⟩ | ⟨p, q, h, h2, hr⟩
   ·cases h
   ·cases h; rw [h2, hr.dInt]
  obtain ⟨⟨e, sz⟩, hel⟩ := Option.isSome_iff_exists.1 he
  obtain ⟨hu, agg, hk⟩ := elemT_some hel
  cases hx with
  | own _ _ ad cap ht h =>
  refine ⟨rfl, .slice ad len cap, ?_, .own _ _ ad cap ht h⟩
  have h4 : (if cap = 0 then ad else Option.map (fun x => x.add 0) ad) = ad := by
   have : ∀ x : Addr, x.add 0 = x := fun x => by simp [Addr.add]
   cases ad <;> simp [this]
  simp [Instr.sliceAt, Instr.slice, run_underlying hu, Instr.sliceBounds, Instr.sliceBound, asIntOf, run_sizeOf hk, h4]
 ·rename_i s k n k2 n2 hx' hlo' hhi'
  split at h
  case isFalse => cases h
  rename_i hc
  cases h
  cases hx'
  have hhi1 : hi = some (.d (.int k2 n2)) := by cases hi <;> simp at hhi'; rw [hhi']
  subst hhi1
  have hlo1 : lo = some (.d (.int k n)) := by cases lo <;> simp at hlo'; rw [hlo']
  subst hlo1
  obtain rfl : vhi = some (.int k2 n2) := by
   rcases hhi with ⟨h, _⟩ | ⟨p, q, h, h2, hr⟩
   ·cases h
   ·cases h; rw [h2, hr.dInt]
  obtain rfl : vlo = some (.int k n) := by
   rcases hlo with ⟨h, _⟩ | ⟨p, q, h, h2, hr⟩
   ·cases h
   ·cases h; rw [h2, hr.dInt]
  obtain ⟨b, rfl, hb⟩ := hx.dStr
  subst hb
  have hsz : b.data.toList.length = b.size := by rw [Array.length_toList]; rfl
  rw [hsz] at hc
  have hu := strT_true hc.1
  have h2 : 0 ≤ n2 := by omega
  have h3 : n ≤ ((n2.toNat : Nat) : Int) := by omega
  refine ⟨rfl, .string (b.extract n.toNat n2.toNat), ?_, ?_⟩
  ·simp [Instr.sliceAt, Instr.slice, run_underlying hu, Instr.sliceBounds, Instr.sliceBound, asIntOf, hc.2.1, hc.2.2.2, h2]
   intro h4
   omega
  ·have e : (b.extract n.toNat n2.toNat).data.toList = (b.data.toList.take n2.toNat).drop n.toNat := by
    simp only [ByteArray.data_extract, Array.toList_extract, List.extract_eq_take_drop]
    rw [List.drop_take]
   rw [← e]
   exact .str _
 ·cases h
theorem afold_rel (mx : Bool) : ∀ {xs : List AV} {vs : List Value} {x y : AV} {v : Value}, RelV W g A x v → RelL W g A xs vs → afold (if mx then amax2 else amin2) x xs = some y →
  ∃ r, (vs.foldlM (if mx then Builtin.max2 else Builtin.min2) v).run P W = .ok r W ∧ RelV W g A y r
 | [], [], x, y, v, hx, hl, h => by cases h; exact ⟨v, by simp, hx⟩
 | [], _ :: _, x, y, v, hx, hl, h => by have := hl.1; simp at this
 | _ :: _, [], x, y, v, hx, hl, h => by have := hl.1; simp at this
 | z :: xs, w :: vs, x, y, v, hx, hl, h => by
   simp only [afold, Option.bind_eq_some_iff] at h
   obtain ⟨q, hq, h⟩ := h
   have hz := hl.2 0 z w rfl rfl
   have hl' : RelL W g A xs vs := ⟨by have := hl.1; simpa using this, fun i p r h1 h2 => hl.2 (i + 1) p r (by simpa using h1) (by simpa using h2)⟩
   have step : ∃ r, ((if mx then Builtin.max2 else Builtin.min2) v w).run P W = .ok r W ∧ RelV W g A q r := by
    cases mx
    ·simp only [Bool.false_eq_true, if_false] at hq ⊢
     unfold amin2 at hq
     split at hq
     ·cases hq
      rw [hx.dInt, hz.dInt]
      exact ⟨_, rfl, .int _ _⟩
     ·cases hq
    ·simp only [if_true] at hq ⊢
     unfold amax2 at hq
     split at hq
     ·cases hq
      rw [hx.dInt, hz.dInt]
      exact ⟨_, rfl, .int _ _⟩
     ·cases hq
   obtain ⟨r, hr, hr2⟩ := step
   obtain ⟨s, hs, hs2⟩ := afold_rel mx hr2 hl' h
   exact ⟨s, by simp [List.foldlM_cons, hr, hs], hs2⟩
theorem len_rel (hw : WRel W g A) {t ty : TypeId} {ts : Array TypeId} (hts : ts[0]? = some t) {x : AV} {v : Value} (hx : RelV W g A x v) {n : Nat} (h : alen A (lenT P t) x = some n) :
  (Builtin.len_ ts ty #[v]).run P W = .ok (.int .i64 n) W := by
 have hlt : ∀ k, lenT P t = k → k ≠ 0 → ∃ d, P.underlying t = some d ∧ (k = 1 → d = .string) ∧ (k = 2 → ∃ e, d = .slice e) ∧ (k = 3 → ∃ a b, d = .map a b) := by
  intro k hk h0
  unfold lenT at hk
  split at hk <;> rename_i hu
  ·exact ⟨_, hu, fun _ => rfl, fun h => by omega, fun h => by omega⟩
  ·exact ⟨_, hu, fun h => by omega, fun _ => ⟨_, rfl⟩, fun h => by omega⟩
  ·exact ⟨_, hu, fun h => by omega, fun h => by omega, fun _ => ⟨_, _, rfl⟩⟩
  ·omega
 cases hx with
 | d y v hd =>
   cases hd with
   | str s =>
     simp only [alen] at h
     split at h <;> cases h
     rename_i hk
     obtain ⟨d, hu, h1, _, _⟩ := hlt 1 hk (by omega)
     have := h1 rfl; subst this
     have hsz : s.data.toList.length = s.size := by rw [Array.length_toList]; rfl
     simp [Builtin.len_, hts, run_underlying hu, goInt, hsz]
   | empty ad cap =>
     simp only [alen] at h
     split at h <;> cases h
     rename_i hk
     obtain ⟨d, hu, _, h1, _⟩ := hlt 2 hk (by omega)
     obtain ⟨e, rfl⟩ := h1 rfl
     simp [Builtin.len_, hts, run_underlying hu, goInt]
   | slice rows b o cap sz val hcap hlen hcell hval =>
     simp only [alen] at h
     split at h <;> cases h
     rename_i hk
     obtain ⟨d, hu, _, h1, _⟩ := hlt 2 hk (by omega)
     obtain ⟨e, rfl⟩ := h1 rfl
     simp [Builtin.len_, hts, run_underlying hu, goInt]
   | _ => simp [alen] at h
 | nilS =>
   simp only [alen] at h
   split at h <;> cases h
   rename_i hk
   obtain ⟨d, hu, _, h1, _⟩ := hlt 2 hk (by omega)
   obtain ⟨e, rfl⟩ := h1 rfl
   simp [Builtin.len_, hts, run_underlying hu, goInt]
 | full rows ad hd =>
   simp only [alen] at h
   split at h <;> cases h
   rename_i hk
   obtain ⟨d, hu, _, h1, _⟩ := hlt 2 hk (by omega)
   obtain ⟨e, rfl⟩ := h1 rfl
   simp [Builtin.len_, hts, run_underlying hu, goInt]
 | own tok len ad cap ht hh =>
   simp only [alen] at h
   split at h <;> cases h
   rename_i hk
   obtain ⟨d, hu, _, h1, _⟩ := hlt 2 hk (by omega)
   obtain ⟨e, rfl⟩ := h1 rfl
   simp [Builtin.len_, hts, run_underlying hu, goInt]
 | mapr id hid =>
   simp only [alen] at h
   split at h
   case isFalse => cases h
   rename_i hk
   split at h
   case h_2 => cases h
   rename_i es hes
   cases h
   obtain ⟨d, hu, _, _, h1⟩ := hlt 3 hk (by omega)
   obtain ⟨k, e, rfl⟩ := h1 rfl
   obtain ⟨_, mes, clock, hb, hsz, _⟩ := hw.obj id _ hes
   have hg := MapKept.run_getObj_map (P := P) hb
   simp [Builtin.len_, hts, run_underlying hu, hg, goInt, hsz]
 | _ => simp [alen] at h
theorem builtin_rel (hw : WRel W g A) {b : Builtin} {ts : Array TypeId} {ty : TypeId} {xs : List AV} {vs : Array Value} {cn : Array Bool} (hx : RelL W g A xs vs.toList) {y : AV} (h : abuiltin P b ts xs A = some (y, A')) : Outs P W g A A' y (builtin b ts ty cn vs) := by
 unfold abuiltin at h
 split at h
 ·rename_i x
  split at h
  case h_2 => cases h
  rename_i t ht
  rw [Option.map_eq_some_iff] at h
  obtain ⟨n, hn, h⟩ := h
  cases h
  obtain ⟨v, rfl⟩ : ∃ v, vs = #[v] := by
   have := hx.1
   obtain ⟨l⟩ := vs
   match l, this with
   | [v], _ => exact ⟨v, rfl⟩
  have hr := len_rel (P := P) (ty := ty) hw ht (hx.2 0 x v rfl rfl) hn
  exact .sem hw hr (.int _ _)
 ·rename_i x y'
  split at h
  case h_2 => cases h
  rename_i t u hts
  split at h
  case isFalse =>
   unfold aappStr at h
   split at h
   case h_2 => cases h
   rename_i s0 e0 hsu he
   obtain ⟨v1, v2, rfl⟩ : ∃ v1 v2, vs = #[v1, v2] := by
    have := hx.1
    obtain ⟨l⟩ := vs
    match l, this with
    | [v1, v2], _ => exact ⟨v1, v2, rfl⟩
   have hts' : ts = #[t, u] := by obtain ⟨l⟩ := ts; simp at hts; rw [hts]
   subst hts'
   obtain ⟨hu, agg, hk⟩ := elemT_some he
   have hst : P.underlying u = some .string := by
    unfold strT at hsu
    split at hsu
    ·assumption
    ·cases hsu
   have r2 := hx.2 1 _ v2 rfl rfl
   obtain ⟨s, rfl, hs⟩ : ∃ s : ByteArray, v2 = .string s ∧ s.data.toList = s0 := by
    cases r2 with
    | d _ _ h2 => cases h2 with
      | str s => exact ⟨s, rfl, rfl⟩
   subst hs
   obtain ⟨v, W', g', hr, q1, q2, q3⟩ := append_str (ty := ty) hw hu hst hk (hx.2 0 x v1 rfl rfl) s h
   exact .semW hr q1 q2 q3
  rename_i htu
  subst htu
  split at h
  case h_2 => cases h
  rename_i e he
  rw [Option.bind_eq_some_iff] at h
  obtain ⟨src, hs, h⟩ := h
  obtain ⟨v1, v2, rfl⟩ : ∃ v1 v2, vs = #[v1, v2] := by
   have := hx.1
   obtain ⟨l⟩ := vs
   match l, this with
   | [v1, v2], _ => exact ⟨v1, v2, rfl⟩
  have hts' : ts = #[t, t] := by obtain ⟨l⟩ := ts; simp at hts; rw [hts]
  subst hts'
  obtain ⟨hu, agg, hk⟩ := elemT_some he
  obtain ⟨v, W', g', hr, r1, r2, r3⟩ := append_rel (ty := ty) hw hu hk (hx.2 0 x v1 rfl rfl) (hx.2 1 y' v2 rfl rfl) hs h
  exact .semW hr r1 r2 r3
 ·rename_i tok len y'
  split at h
  case h_2 => cases h
  rename_i t u hts
  split at h
  case isFalse => cases h
  rename_i htu
  subst htu
  split at h
  case h_2 => cases h
  rename_i e src he hs
  obtain ⟨v1, v2, rfl⟩ : ∃ v1 v2, vs = #[v1, v2] := by
   have := hx.1
   obtain ⟨l⟩ := vs
   match l, this with
   | [v1, v2], _ => exact ⟨v1, v2, rfl⟩
  have hts' : ts = #[t, t] := by obtain ⟨l⟩ := ts; simp at hts; rw [hts]
  subst hts'
  obtain ⟨hu, agg, hk⟩ := elemT_some he
  obtain ⟨v, W', g', hr, r1, r2, r3⟩ := copy_rel (ty := ty) hw hu hk (hx.2 0 _ v1 rfl rfl) (hx.2 1 y' v2 rfl rfl) hs h
  exact .semW hr r1 r2 r3
 ·rename_i tok len
  split at h
  case h_2 => cases h
  rename_i t hts
  split at h
  case h_2 => cases h
  rename_i e he
  obtain ⟨v1, rfl⟩ : ∃ v1, vs = #[v1] := by
   have := hx.1
   obtain ⟨l⟩ := vs
   match l, this with
   | [v1], _ => exact ⟨v1, rfl⟩
  have hts' : ts = #[t] := by obtain ⟨l⟩ := ts; simp at hts; rw [hts]
  subst hts'
  obtain ⟨hu, agg, hk⟩ := elemT_some he
  obtain ⟨v, W', g', hr, r1, r2, r3⟩ := clear_rel (ty := ty) hw hu hk (hx.2 0 _ v1 rfl rfl) h
  exact .semW hr r1 r2 r3
 ·rename_i m k
  split at h
  case h_2 => cases h
  rename_i t ht
  rw [Option.map_eq_some_iff] at h
  obtain ⟨A1, hd, h⟩ := h
  cases h
  obtain ⟨v1, v2, rfl⟩ : ∃ v1 v2, vs = #[v1, v2] := by
   have := hx.1
   obtain ⟨l⟩ := vs
   match l, this with
   | [v1, v2], _ => exact ⟨v1, v2, rfl⟩
  obtain ⟨W', hr, r2, r3⟩ := delete_rel (ty := ty) hw ht (hx.2 0 m v1 rfl rfl) (hx.2 1 k v2 rfl rfl) hd
  exact .semW hr undef_rel r2 r3
 ·rename_i x xs
  rw [Option.map_eq_some_iff] at h
  obtain ⟨y', hy, h⟩ := h
  cases h
  obtain ⟨v, vl, rfl⟩ : ∃ v vl, vs = (v :: vl).toArray := by
   have := hx.1
   obtain ⟨l⟩ := vs
   match l, this with
   | v :: vl, _ => exact ⟨v, vl, rfl⟩
  obtain ⟨r, hr, hr2⟩ := afold_rel (P := P) true (hx.2 0 x v rfl rfl) (show RelL W g A xs vl from ⟨by have := hx.1; simpa using this, fun i p q h1 h2 => hx.2 (i + 1) p q (by simpa using h1) (by simpa using h2)⟩) hy
  exact .sem hw (by simpa [Builtin.max_] using hr) hr2
 ·rename_i x xs
  rw [Option.map_eq_some_iff] at h
  obtain ⟨y', hy, h⟩ := h
  cases h
  obtain ⟨v, vl, rfl⟩ : ∃ v vl, vs = (v :: vl).toArray := by
   have := hx.1
   obtain ⟨l⟩ := vs
   match l, this with
   | v :: vl, _ => exact ⟨v, vl, rfl⟩
  obtain ⟨r, hr, hr2⟩ := afold_rel (P := P) false (hx.2 0 x v rfl rfl) (show RelL W g A xs vl from ⟨by have := hx.1; simpa using this, fun i p q h1 h2 => hx.2 (i + 1) p q (by simpa using h1) (by simpa using h2)⟩) hy
  exact .sem hw (by simpa [Builtin.min_] using hr) hr2
 ·cases h
end
end Go.Abs
