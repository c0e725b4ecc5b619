/- Expressions, statements and procedures as Lean trees, and the cells in which they lie. -/
import Derived.Test.YtfoibmfocmjmdaaAbs
set_option linter.unusedVariables false
set_option linter.unusedSimpArgs false
set_option linter.all false
set_option linter.deprecated false
namespace Go.Abs

abbrev Bytes := List UInt8

inductive E where
  | mk (op n : Int) (s : Bytes) (args : List E)

@[reducible] def E.op : E → Int | .mk op _ _ _ => op
@[reducible] def E.n : E → Int | .mk _ n _ _ => n
@[reducible] def E.s : E → Bytes | .mk _ _ s _ => s
@[reducible] def E.args : E → List E | .mk _ _ _ l => l

theorem E.eta (e : E) : E.mk e.op e.n e.s e.args = e := by cases e; rfl

theorem E.ind {P : E → Prop} (h : ∀ op n s args, (∀ x, x ∈ args → P x) → P (.mk op n s args)) : ∀ e, P e
  | .mk op n s args => h op n s args fun x _ => E.ind h x

mutual
def E.row : E → List Dat
  | .mk op n s args => [.int .i64 op, .int .i64 n, .str s, .slice (E.rows args)]
def E.rows : List E → List (List Dat)
  | [] => []
  | x :: l => x.row :: E.rows l
end
theorem E.rows_map : ∀ l, E.rows l = l.map E.row
  | [] => by simp [E.rows]
  | x :: l => by simp [E.rows, E.rows_map l]
theorem E.row_mk (op n : Int) (s : Bytes) (args : List E) : (E.mk op n s args).row = [.int .i64 op, .int .i64 n, .str s, .slice (args.map E.row)] := by
  rw [E.row, E.rows_map]
theorem E.row_eq (e : E) : e.row = [.int .i64 e.op, .int .i64 e.n, .str e.s, .slice (e.args.map E.row)] := by
  cases e; exact E.row_mk _ _ _ _

/-- an integer of 64 bits -/
def i64 (n : Int) : Prop := -9223372036854775808 ≤ n ∧ n ≤ 9223372036854775807

/-- nothing is longer than a slice may be -/
inductive E.Ok : E → Prop where
  | mk (op n : Int) (s : Bytes) (args : List E) (ho : i64 op) (hn : i64 n) (hs : s.length ≤ 1099511627776) (ha : args.length ≤ 1099511627776) (h : ∀ x, x ∈ args → E.Ok x) : E.Ok (.mk op n s args)

theorem E.Ok.s {op n : Int} {s : Bytes} {args : List E} : E.Ok (.mk op n s args) → s.length ≤ 1099511627776 := fun h => by cases h; assumption
theorem E.Ok.len {op n : Int} {s : Bytes} {args : List E} : E.Ok (.mk op n s args) → args.length ≤ 1099511627776 := fun h => by cases h; assumption
theorem E.Ok.arg {op n : Int} {s : Bytes} {args : List E} : E.Ok (.mk op n s args) → ∀ x, x ∈ args → E.Ok x := fun h => by cases h; assumption
theorem E.Ok.op {op n : Int} {s : Bytes} {args : List E} : E.Ok (.mk op n s args) → i64 op := fun h => by cases h; assumption
theorem E.Ok.n {op n : Int} {s : Bytes} {args : List E} : E.Ok (.mk op n s args) → i64 n := fun h => by cases h; assumption

/-- statements -/
inductive Stm where
  | mk (op : Int) (name : Bytes) (max : Int) (a b : E) (body els : List Stm)

@[reducible] def Stm.op : Stm → Int | .mk op _ _ _ _ _ _ => op
@[reducible] def Stm.name : Stm → Bytes | .mk _ x _ _ _ _ _ => x
@[reducible] def Stm.max : Stm → Int | .mk _ _ x _ _ _ _ => x
@[reducible] def Stm.a : Stm → E | .mk _ _ _ x _ _ _ => x
@[reducible] def Stm.b : Stm → E | .mk _ _ _ _ x _ _ => x
@[reducible] def Stm.body : Stm → List Stm | .mk _ _ _ _ _ x _ => x
@[reducible] def Stm.els : Stm → List Stm | .mk _ _ _ _ _ _ x => x

theorem Stm.eta (e : Stm) : Stm.mk e.op e.name e.max e.a e.b e.body e.els = e := by cases e; rfl

theorem Stm.ind {P : Stm → Prop} (h : ∀ op name max a b body els, (∀ x, x ∈ body → P x) → (∀ x, x ∈ els → P x) → P (.mk op name max a b body els)) : ∀ e, P e
  | .mk op name max a b body els => h op name max a b body els (fun x _ => Stm.ind h x) (fun x _ => Stm.ind h x)

mutual
def Stm.row : Stm → List Dat
  | .mk op name max a b body els => .int .i64 op :: .str name :: .int .i64 max :: (a.row ++ (b.row ++ [.slice (Stm.rows body), .slice (Stm.rows els)]))
def Stm.rows : List Stm → List (List Dat)
  | [] => []
  | x :: l => x.row :: Stm.rows l
end
theorem Stm.rows_map : ∀ l, Stm.rows l = l.map Stm.row
  | [] => by simp [Stm.rows]
  | x :: l => by simp [Stm.rows, Stm.rows_map l]
theorem Stm.row_eq (x : Stm) : x.row = [.int .i64 x.op, .str x.name, .int .i64 x.max, .int .i64 x.a.op, .int .i64 x.a.n, .str x.a.s, .slice (x.a.args.map E.row),
    .int .i64 x.b.op, .int .i64 x.b.n, .str x.b.s, .slice (x.b.args.map E.row), .slice (x.body.map Stm.row), .slice (x.els.map Stm.row)] := by
  cases x
  rw [Stm.row, Stm.rows_map, Stm.rows_map, E.row_eq, E.row_eq]
  rfl

inductive Stm.Ok : Stm → Prop where
  | mk (op : Int) (name : Bytes) (max : Int) (a b : E) (body els : List Stm) (ho : i64 op) (hm : i64 max) (hn : name.length ≤ 1099511627776) (ha : a.Ok) (hb : b.Ok)
      (h1 : body.length ≤ 1099511627776) (h2 : els.length ≤ 1099511627776) (h3 : ∀ x, x ∈ body → Stm.Ok x) (h4 : ∀ x, x ∈ els → Stm.Ok x) : Stm.Ok (.mk op name max a b body els)

structure Pm where
  name : Bytes
  type : Int
def Pm.row (p : Pm) : List Dat := [.str p.name, .int .i64 p.type]
structure Pm.Ok (p : Pm) : Prop where
  name : p.name.length ≤ 1099511627776
  type : i64 p.type

structure Pr where
  name : Bytes
  params : List Pm
  body : List Stm
def Pr.row (p : Pr) : List Dat := [.str p.name, .slice (p.params.map Pm.row), .slice (p.body.map Stm.row)]
structure Pr.Ok (p : Pr) : Prop where
  name : p.name.length ≤ 1099511627776
  plen : p.params.length ≤ 1099511627776
  params : ∀ x, x ∈ p.params → x.Ok
  blen : p.body.length ≤ 1099511627776
  body : ∀ x, x ∈ p.body → x.Ok
end Go.Abs
