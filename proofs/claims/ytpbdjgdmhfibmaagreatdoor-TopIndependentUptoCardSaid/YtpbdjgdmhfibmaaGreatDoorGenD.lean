/- Expressions, statements and procedures as Lean trees, and the cells in which they lie. -/
import Derived.Deep.Slices
import Derived.WideKeyArgs
import Derived.ChangeSame
import Derived.OpenShut
import Derived.WalkKit
import Derived.ProofKit
import Derived.Deep.Frames
import Derived.Test.YtpbdjgdmhfibmaaGreatDoorGenA
import Derived.Test.YtpbdjgdmhfibmaaGreatDoorGenB
set_option linter.all false
namespace Go.Abs
abbrev Bytes := List UInt8
inductive E where
 | mk (op n : Int) (s : Bytes) (args : List E)
@[reducible] def E.op : E → Int | .mk op _ _ _ => op
@[reducible] def E.n : E → Int | .mk _ n _ _ => n
@[reducible] def E.s : E → Bytes | .mk _ _ s _ => s
@[reducible] def E.args : E → List E | .mk _ _ _ l => l
theorem E.ind {P : E → Prop} (h : ∀ op n s args, (∀ x, x ∈ args → P x) → P (.mk op n s args)) : ∀ e, P e
 | .mk op n s args => h op n s args fun x _ => E.ind h x
mutual
def E.row : E → List Dat
 | .mk op n s args => [.int .i64 op, .int .i64 n, .str s, .slice (E.rows args)]
def E.rows : List E → List (List Dat)
 | [] => []
 | x :: l => x.row :: E.rows l
end
theorem E.rows_map : ∀ l, E.rows l = l.map E.row
 | [] => by simp [E.rows]
 | x :: l => by simp [E.rows, E.rows_map l]
theorem E.row_mk (op n : Int) (s : Bytes) (args : List E) : (E.mk op n s args).row = [.int .i64 op, .int .i64 n, .str s, .slice (args.map E.row)] := by
 rw [E.row, E.rows_map]
theorem E.row_eq (e : E) : e.row = [.int .i64 e.op, .int .i64 e.n, .str e.s, .slice (e.args.map E.row)] := by
 cases e; exact E.row_mk _ _ _ _
def i64 (n : Int) : Prop := -9223372036854775808 ≤ n ∧ n ≤ 9223372036854775807
inductive E.Ok : E → Prop where
 | mk (op n : Int) (s : Bytes) (args : List E) (ho : i64 op) (hn : i64 n) (hs : s.length ≤ 1099511627776) (ha : args.length ≤ 1099511627776) (hf : args.length ≤ 4194303) (h : ∀ x, x ∈ args → E.Ok x) : E.Ok (.mk op n s args)
theorem E.Ok.s {op n : Int} {s : Bytes} {args : List E} : E.Ok (.mk op n s args) → s.length ≤ 1099511627776 := fun h => by cases h; assumption
theorem E.Ok.len {op n : Int} {s : Bytes} {args : List E} : E.Ok (.mk op n s args) → args.length ≤ 1099511627776 := fun h => by cases h; assumption
theorem E.Ok.fit {op n : Int} {s : Bytes} {args : List E} : E.Ok (.mk op n s args) → args.length ≤ 4194303 := fun h => by cases h; assumption
theorem E.Ok.arg {op n : Int} {s : Bytes} {args : List E} : E.Ok (.mk op n s args) → ∀ x, x ∈ args → E.Ok x := fun h => by cases h; assumption
theorem E.Ok.op {op n : Int} {s : Bytes} {args : List E} : E.Ok (.mk op n s args) → i64 op := fun h => by cases h; assumption
theorem E.Ok.n {op n : Int} {s : Bytes} {args : List E} : E.Ok (.mk op n s args) → i64 n := fun h => by cases h; assumption
inductive Stm where
 | mk (op : Int) (name : Bytes) (max : Int) (a b : E) (body els : List Stm)
@[reducible] def Stm.op : Stm → Int | .mk op _ _ _ _ _ _ => op
@[reducible] def Stm.name : Stm → Bytes | .mk _ x _ _ _ _ _ => x
@[reducible] def Stm.max : Stm → Int | .mk _ _ x _ _ _ _ => x
@[reducible] def Stm.a : Stm → E | .mk _ _ _ x _ _ _ => x
@[reducible] def Stm.b : Stm → E | .mk _ _ _ _ x _ _ => x
@[reducible] def Stm.body : Stm → List Stm | .mk _ _ _ _ _ x _ => x
@[reducible] def Stm.els : Stm → List Stm | .mk _ _ _ _ _ _ x => x
theorem Stm.ind {P : Stm → Prop} (h : ∀ op name max a b body els, (∀ x, x ∈ body → P x) → (∀ x, x ∈ els → P x) → P (.mk op name max a b body els)) : ∀ e, P e
 | .mk op name max a b body els => h op name max a b body els (fun x _ => Stm.ind h x) (fun x _ => Stm.ind h x)
mutual
def Stm.row : Stm → List Dat
 | .mk op name max a b body els => .int .i64 op :: .str name :: .int .i64 max :: (a.row ++ (b.row ++ [.slice (Stm.rows body), .slice (Stm.rows els)]))
def Stm.rows : List Stm → List (List Dat)
 | [] => []
 | x :: l => x.row :: Stm.rows l
end
theorem Stm.rows_map : ∀ l, Stm.rows l = l.map Stm.row
 | [] => by simp [Stm.rows]
 | x :: l => by simp [Stm.rows, Stm.rows_map l]
theorem Stm.row_eq (x : Stm) : x.row = [.int .i64 x.op, .str x.name, .int .i64 x.max, .int .i64 x.a.op, .int .i64 x.a.n, .str x.a.s, .slice (x.a.args.map E.row),
  .int .i64 x.b.op, .int .i64 x.b.n, .str x.b.s, .slice (x.b.args.map E.row), .slice (x.body.map Stm.row), .slice (x.els.map Stm.row)] := by
 cases x
 rw [Stm.row, Stm.rows_map, Stm.rows_map, E.row_eq, E.row_eq]
 rfl
inductive Stm.Ok : Stm → Prop where
 | mk (op : Int) (name : Bytes) (max : Int) (a b : E) (body els : List Stm) (ho : i64 op) (hm : i64 max) (hn : name.length ≤ 1099511627776) (ha : a.Ok) (hb : b.Ok)
   (h1 : body.length ≤ 1099511627776) (h2 : els.length ≤ 1099511627776) (h5 : body.length ≤ 4194303) (h6 : els.length ≤ 4194303) (h3 : ∀ x, x ∈ body → Stm.Ok x) (h4 : ∀ x, x ∈ els → Stm.Ok x) : Stm.Ok (.mk op name max a b body els)
structure Pm where
 name : Bytes
 type : Int
def Pm.row (p : Pm) : List Dat := [.str p.name, .int .i64 p.type]
structure Pm.Ok (p : Pm) : Prop where
 name : p.name.length ≤ 1099511627776
 type : i64 p.type
structure Pr where
 name : Bytes
 params : List Pm
 body : List Stm
def Pr.row (p : Pr) : List Dat := [.str p.name, .slice (p.params.map Pm.row), .slice (p.body.map Stm.row)]
structure Pr.Ok (p : Pr) : Prop where
 name : p.name.length ≤ 1099511627776
 plen : p.params.length ≤ 1099511627776
 params : ∀ x, x ∈ p.params → x.Ok
 blen : p.body.length ≤ 1099511627776
 body : ∀ x, x ∈ p.body → x.Ok
 pfit : p.params.length ≤ 4194303
 bfit : p.body.length ≤ 4194303
open Go.ChangeShapes Go.WideShapes
def rowB (P : Program) : Nat → List Field → Option Nat
 | off, [] => some off
 | off, f :: fs => if f.offset = off then rowB P (off + P.cellsOf f.type) fs else none
def planT (P : Program) (T : List TypeId) : Bool := T.all fun t => match P.underlying t with
 | some .bool => true
 | some (.int _) => true
 | some .string => true
 | some (.slice e) => T.contains e && decide (0 < P.cellsOf e)
 | some (.struct fs) => (fs.toList.all fun f => T.contains f.type) && (rowB P 0 fs.toList == some (P.cellsOf t))
 | _ => false
def shapeT (P : Program) (N : Nat) : Nat → TypeId → List Dat → Prop
 | 0, _, _ => False
 | n + 1, t, ds => match P.underlying t with
   | some .bool => ∃ b, ds = [.bool b]
   | some (.int k) => ∃ m, ds = [.int k m] ∧ (Lit.int k m).wf = true
   | some .string => ∃ s, ds = [.str s] ∧ s.length ≤ N
   | some (.slice e) => ∃ rows, ds = [.slice rows] ∧ rows.length ≤ N ∧ ∀ r ∈ rows, r.length = P.cellsOf e ∧ shapeT P N n e r
   | some (.struct fs) => ds.length = P.cellsOf t ∧ ∀ f ∈ fs.toList, shapeT P N n f.type ((ds.drop f.offset).take (P.cellsOf f.type))
   | _ => False
def ReadDs (W : World) (S : Nat → Nat → Prop) (ds : List Dat) (cs : List Value) : Prop :=
 ds.length = cs.length ∧ ∀ (i : Nat) (c : Dat) (v : Value), ds[i]? = some c → cs[i]? = some v → RelD W S c v
theorem ReadDs.one {W : World} {S : Nat → Nat → Prop} {d : Dat} {v : Value} (h : RelD W S d v) : ReadDs W S [d] [v] :=
 ⟨rfl, fun i c u h1 h2 => by
  cases i with
  | zero => simp at h1 h2; subst h1; subst h2; exact h
  | succ i => simp at h1⟩
theorem ReadDs.append {W : World} {S : Nat → Nat → Prop} {ds es : List Dat} {cs us : List Value} (h : ReadDs W S ds cs) (h' : ReadDs W S es us) : ReadDs W S (ds ++ es) (cs ++ us) :=
 ⟨by simp [h.1, h'.1], fun i c v h1 h2 => by
  rcases Nat.lt_or_ge i ds.length with hi | hi
  ·rw [List.getElem?_append_left hi] at h1
   rw [List.getElem?_append_left (by rw [← h.1]; exact hi)] at h2
   exact h.2 i c v h1 h2
  ·rw [List.getElem?_append_right hi] at h1
   rw [List.getElem?_append_right (by rw [← h.1]; exact hi), ← h.1] at h2
   exact h'.2 _ c v h1 h2⟩
theorem rowB_le {P : Program} : ∀ {fs : List Field} {off tot : Nat}, rowB P off fs = some tot → off ≤ tot
 | [], off, tot, h => by simp [rowB] at h; omega
 | f :: fs, off, tot, h => by
   simp only [rowB] at h
   split at h
   ·have := rowB_le h; omega
   ·cases h
theorem rowB_off {P : Program} : ∀ {fs : List Field} {off tot : Nat}, rowB P off fs = some tot → ∀ f ∈ fs, off ≤ f.offset
 | [], _, _, _, f, hf => by cases hf
 | g :: fs, off, tot, h, f, hf => by
   simp only [rowB] at h
   split at h
   ·rename_i he
    rcases List.mem_cons.1 hf with rfl | hf
    ·omega
    ·have := rowB_off h f hf; omega
   ·cases h
structure Bulk {H : Type} (B : DataW H → Nat) : Prop where
 str : ∀ s, s.length ≤ B (.lit (.string s))
 agg : ∀ l, ∀ d ∈ l, B d ≤ B (.agg l)
 len : ∀ l sp, l.length ≤ B (.slice l sp)
 elem : ∀ l sp, ∀ d ∈ l, B d ≤ B (.slice l sp)
theorem mapM_some {α β : Type} {f : α → Option β} : ∀ {l : List α} {r : List β}, l.mapM f = some r → r.length = l.length ∧ ∀ (i : Nat) (x : α) (y : β), l[i]? = some x → r[i]? = some y → f x = some y
 | [], r, h => by
   simp only [List.mapM_nil, Option.pure_def, Option.some.injEq] at h
   subst h
   exact ⟨rfl, fun i x y h => by simp at h⟩
 | a :: l, r, h => by
   rw [List.mapM_cons] at h
   simp only [Option.bind_eq_bind, Option.bind_eq_some_iff, Option.pure_def, Option.some.injEq] at h
   obtain ⟨b, hb, rs, hr, rfl⟩ := h
   obtain ⟨h1, h2⟩ := mapM_some hr
   refine ⟨by simp [h1], fun i x y hx hy => ?_⟩
   cases i with
   | zero => simp at hx hy; subst hx; subst hy; exact hb
   | succ i => simp at hx hy; exact h2 i x y hx hy
theorem cells_spot {W : World} {base : Nat} {a : Addr} {n : Nat} {cs : List Value} (hn : 0 < n) (h : W.cells? base a n = some cs) :
  a.spot = none ∧ cs.length = n ∧ ∀ (j : Nat) (v : Value), cs[j]? = some v → W.cell? ⟨a.block, a.off + j, none⟩ = some v := by
 unfold World.cells? at h
 split at h
 ·obtain ⟨h1, h2⟩ := mapM_some h
  rw [List.length_range] at h1
  have hs : a.spot = none := by
   have h0 := h2 0 0 (cs[0]'(by omega)) (by simp [hn]) (List.getElem?_eq_getElem (by omega))
   simp only [Addr.add, if_true] at h0
   unfold World.cell? at h0
   split at h0
   ·split at h0
    ·cases h0
    ·rename_i hx; simpa using hx
   ·cases h0
  refine ⟨hs, h1, fun j v hj => ?_⟩
  have := h2 j j v (List.getElem?_range (by have := lt_of_get hj; omega)) hj
  rw [← this]
  unfold Addr.add
  split
  ·rename_i h0; subst h0; cases a; simp at hs; subst hs; rfl
  ·rfl
 ·cases h
section
variable {H : Type} {enc : TypeId × Value → H} {P : Program} {W : World} {base N : Nat} {sp : Nat → Bool} {held : Bool} {T : List TypeId} {B : DataW H → Nat}
theorem cell_lt {a : Addr} {v : Value} (h : W.cell? a = some v) : a.block < W.heap.size := by
 unfold World.cell? at h
 split at h
 ·rename_i hx; exact lt_heap hx
 ·cases h
end
end Go.Abs
namespace Go.Abs
theorem choose_list {α β : Type} {p : α → β → Prop} : ∀ {l : List α}, (∀ x ∈ l, ∃ y, p x y) → ∃ m : List β, m.length = l.length ∧ ∀ (i : Nat) (x : α) (y : β), l[i]? = some x → m[i]? = some y → p x y
 | [], _ => ⟨[], rfl, fun i x y h => by simp at h⟩
 | a :: l, h => by
   obtain ⟨b, hb⟩ := h a (List.mem_cons_self ..)
   obtain ⟨m, h1, h2⟩ := choose_list (l := l) fun x hx => h x (List.mem_cons_of_mem _ hx)
   refine ⟨b :: m, by simp [h1], fun i x y hx hy => ?_⟩
   cases i with
   | zero => simp at hx hy; subst hx; subst hy; exact hb
   | succ i => simp at hx hy; exact h2 i x y hx hy
theorem rows_of {β : Type} {rows : List (List Dat)} {ok : β → Prop} {row : β → List Dat} (h : ∀ r ∈ rows, ∃ y, ok y ∧ r = row y) : ∃ l : List β, rows = l.map row ∧ l.length = rows.length ∧ ∀ x ∈ l, ok x := by
 obtain ⟨m, h1, h2⟩ := choose_list h
 refine ⟨m, ?_, h1, fun x hx => ?_⟩
 ·apply List.ext_getElem?
  intro i
  rcases Nat.lt_or_ge i rows.length with hi | hi
  ·have e1 := List.getElem?_eq_getElem hi
   have e2 := List.getElem?_eq_getElem (show i < m.length by omega)
   rw [List.getElem?_map, e2, e1, (h2 i _ _ e1 e2).2]
   rfl
  ·rw [List.getElem?_eq_none hi, List.getElem?_eq_none (by simp; omega)]
 ·obtain ⟨i, hi, rfl⟩ := List.getElem_of_mem hx
  exact (h2 i _ _ (List.getElem?_eq_getElem (show i < rows.length by omega)) (List.getElem?_eq_getElem hi)).1
def fieldsAre (P : Program) (t : TypeId) (l : List (TypeId × Nat)) : Prop := ∃ fs, P.underlying t = some (.struct fs) ∧ fs.toList.map (fun f => (f.type, f.offset)) = l
structure ExprTy (P : Program) (tE tInt tI tStr tEs : TypeId) : Prop where
 e : fieldsAre P tE [(tInt, 0), (tI, 1), (tStr, 2), (tEs, 3)]
 int : P.underlying tInt = some (.int .i64)
 i : P.underlying tI = some (.int .i64)
 str : P.underlying tStr = some .string
 es : P.underlying tEs = some (.slice tE)
 ce : P.cellsOf tE = 4
 cint : P.cellsOf tInt = 1
 ci : P.cellsOf tI = 1
 cstr : P.cellsOf tStr = 1
 ces : P.cellsOf tEs = 1
section
variable {P : Program} {N n : Nat} {t e : TypeId} {ds : List Dat} {d : Dat}
theorem i64_of_wf {m : Int} (h : (Lit.int .i64 m).wf = true) : i64 m := by
 have h1 : IntKind.i64.min = -9223372036854775808 := by decide
 have h2 : IntKind.i64.max = 9223372036854775807 := by decide
 simp only [Lit.wf, Bool.and_eq_true, decide_eq_true_eq, h1, h2] at h
 exact h
theorem shape_int {k : IntKind} (hu : P.underlying t = some (.int k)) (h : shapeT P N n t ds) : ∃ m, ds = [.int k m] ∧ (Lit.int k m).wf = true := by
 cases n with
 | zero => cases h
 | succ n => simp only [shapeT, hu] at h; exact h
theorem shape_i64 (hu : P.underlying t = some (.int .i64)) (h : shapeT P N n t [d]) : ∃ m, d = .int .i64 m ∧ i64 m := by
 obtain ⟨m, h1, h2⟩ := shape_int hu h
 cases h1
 exact ⟨m, rfl, i64_of_wf h2⟩
theorem shape_str (hu : P.underlying t = some .string) (h : shapeT P N n t [d]) : ∃ s, d = .str s ∧ s.length ≤ N := by
 cases n with
 | zero => cases h
 | succ n =>
   simp only [shapeT, hu] at h
   obtain ⟨s, h1, h2⟩ := h
   cases h1
   exact ⟨s, rfl, h2⟩
theorem shape_slice (hu : P.underlying t = some (.slice e)) (h : shapeT P N n t [d]) : ∃ k rows, n = k + 1 ∧ d = .slice rows ∧ rows.length ≤ N ∧ ∀ r ∈ rows, r.length = P.cellsOf e ∧ shapeT P N k e r := by
 cases n with
 | zero => cases h
 | succ n =>
   simp only [shapeT, hu] at h
   obtain ⟨rows, h1, h2, h3⟩ := h
   cases h1
   exact ⟨n, rows, rfl, rfl, h2, h3⟩
theorem shape_struct {l : List (TypeId × Nat)} (hu : fieldsAre P t l) (h : shapeT P N n t ds) : ∃ k, n = k + 1 ∧ ds.length = P.cellsOf t ∧ ∀ x ∈ l, shapeT P N k x.1 ((ds.drop x.2).take (P.cellsOf x.1)) := by
 obtain ⟨fs, hu, rfl⟩ := hu
 cases n with
 | zero => cases h
 | succ n =>
   simp only [shapeT, hu] at h
   refine ⟨n, rfl, h.1, fun x hx => ?_⟩
   obtain ⟨f, hf, rfl⟩ := List.mem_map.1 hx
   exact h.2 f hf
theorem len4 {α : Type} {l : List α} (h : l.length = 4) : ∃ a b c d, l = [a, b, c, d] := by
 match l, h with
 | [a, b, c, d], _ => exact ⟨a, b, c, d, rfl⟩
theorem len2 {α : Type} {l : List α} (h : l.length = 2) : ∃ a b, l = [a, b] := by
 match l, h with
 | [a, b], _ => exact ⟨a, b, rfl⟩
theorem len3 {α : Type} {l : List α} (h : l.length = 3) : ∃ a b c, l = [a, b, c] := by
 match l, h with
 | [a, b, c], _ => exact ⟨a, b, c, rfl⟩
theorem len13 {α : Type} {l : List α} (h : l.length = 13) : ∃ a b c d e f g h i j k m n, l = [a, b, c, d, e, f, g, h, i, j, k, m, n] := by
 match l, h with
 | [a, b, c, d, e, f, g, h, i, j, k, m, n], _ => exact ⟨a, b, c, d, e, f, g, h, i, j, k, m, n, rfl⟩
theorem readE {tE tInt tI tStr tEs : TypeId} (X : ExprTy P tE tInt tI tStr tEs) (hN : N ≤ 4194303) : ∀ (n : Nat) (ds : List Dat), shapeT P N n tE ds → ∃ e : E, E.Ok e ∧ ds = e.row := by
 intro n
 induction n using Nat.strongRecOn with
 | ind n ih =>
   intro ds h
   obtain ⟨k, rfl, hl, hf⟩ := shape_struct X.e h
   rw [X.ce] at hl
   obtain ⟨a, b, c, d, rfl⟩ := len4 hl
   have h0 := hf (tInt, 0) (by simp)
   have h1 := hf (tI, 1) (by simp)
   have h2 := hf (tStr, 2) (by simp)
   have h3 := hf (tEs, 3) (by simp)
   simp only [X.cint, X.ci, X.cstr, X.ces, List.drop_zero, List.drop_succ_cons, List.take_succ_cons, List.take_zero] at h0 h1 h2 h3
   obtain ⟨op, rfl, ho⟩ := shape_i64 X.int h0
   obtain ⟨m, rfl, hm⟩ := shape_i64 X.i h1
   obtain ⟨s, rfl, hs⟩ := shape_str X.str h2
   obtain ⟨j, rows, rfl, rfl, hr, hrows⟩ := shape_slice X.es h3
   obtain ⟨l, rfl, hll, hok⟩ := rows_of (ok := E.Ok) (row := E.row) fun r hr => ih j (by omega) r (hrows r hr).2
   exact ⟨.mk op m s l, .mk op m s l ho hm (by omega) (by omega) (by omega) hok, by rw [E.row_mk]⟩
structure StmtTy (P : Program) (tS tE tInt tI tStr tEs tSs : TypeId) : Prop extends ExprTy P tE tInt tI tStr tEs where
 s : fieldsAre P tS [(tInt, 0), (tStr, 1), (tInt, 2), (tE, 3), (tE, 7), (tSs, 11), (tSs, 12)]
 ss : P.underlying tSs = some (.slice tS)
 cs : P.cellsOf tS = 13
 css : P.cellsOf tSs = 1
theorem readS {tS tE tInt tI tStr tEs tSs : TypeId} (X : StmtTy P tS tE tInt tI tStr tEs tSs) (hN : N ≤ 4194303) : ∀ (n : Nat) (ds : List Dat), shapeT P N n tS ds → ∃ e : Stm, Stm.Ok e ∧ ds = e.row := by
 intro n
 induction n using Nat.strongRecOn with
 | ind n ih =>
   intro ds h
   obtain ⟨k, rfl, hl, hf⟩ := shape_struct X.s h
   rw [X.cs] at hl
   obtain ⟨d0, d1, d2, d3, d4, d5, d6, d7, d8, d9, d10, d11, d12, rfl⟩ := len13 hl
   have h0 := hf (tInt, 0) (by simp)
   have h1 := hf (tStr, 1) (by simp)
   have h2 := hf (tInt, 2) (by simp)
   have h3 := hf (tE, 3) (by simp)
   have h4 := hf (tE, 7) (by simp)
   have h5 := hf (tSs, 11) (by simp)
   have h6 := hf (tSs, 12) (by simp)
   simp only [X.ce, X.cint, X.cstr, X.css, List.drop_zero, List.drop_succ_cons, List.take_succ_cons, List.take_zero] at h0 h1 h2 h3 h4 h5 h6
   obtain ⟨op, rfl, ho⟩ := shape_i64 X.int h0
   obtain ⟨s, rfl, hs⟩ := shape_str X.str h1
   obtain ⟨m, rfl, hm⟩ := shape_i64 X.int h2
   obtain ⟨a, ha, ea⟩ := readE X.toExprTy hN _ _ h3
   obtain ⟨b, hb, eb⟩ := readE X.toExprTy hN _ _ h4
   obtain ⟨j, rows, rfl, rfl, hr, hrows⟩ := shape_slice X.ss h5
   obtain ⟨j', rows', hj, rfl, hr', hrows'⟩ := shape_slice X.ss h6
   obtain ⟨l, rfl, hll, hok⟩ := rows_of (ok := Stm.Ok) (row := Stm.row) fun r hr => ih j (by omega) r (hrows r hr).2
   obtain ⟨l', rfl, hll', hok'⟩ := rows_of (ok := Stm.Ok) (row := Stm.row) fun r hr => ih j' (by omega) r (hrows' r hr).2
   refine ⟨.mk op s m a b l l', .mk op s m a b l l' ho hm (by omega) ha hb (by omega) (by omega) (by omega) (by omega) hok hok', ?_⟩
   rw [E.row_eq] at ea eb
   simp only [List.cons.injEq, and_true] at ea eb
   obtain ⟨rfl, rfl, rfl, rfl⟩ := ea
   obtain ⟨rfl, rfl, rfl, rfl⟩ := eb
   rw [Stm.row_eq]
structure ProcTy (P : Program) (tP tPm tPms tS tE tInt tI tStr tEs tSs : TypeId) : Prop extends StmtTy P tS tE tInt tI tStr tEs tSs where
 p : fieldsAre P tP [(tStr, 0), (tPms, 1), (tSs, 2)]
 pm : fieldsAre P tPm [(tStr, 0), (tInt, 1)]
 pms : P.underlying tPms = some (.slice tPm)
 cp : P.cellsOf tP = 3
 cpm : P.cellsOf tPm = 2
 cpms : P.cellsOf tPms = 1
theorem readPm {tPm tInt tStr : TypeId} (pm : fieldsAre P tPm [(tStr, 0), (tInt, 1)]) (int : P.underlying tInt = some (.int .i64)) (str : P.underlying tStr = some .string) (cpm : P.cellsOf tPm = 2) (cint : P.cellsOf tInt = 1) (cstr : P.cellsOf tStr = 1)
  (hN : N ≤ 4194303) (n : Nat) (ds : List Dat) (h : shapeT P N n tPm ds) : ∃ p : Pm, p.Ok ∧ ds = p.row := by
 obtain ⟨k, rfl, hl, hf⟩ := shape_struct pm h
 rw [cpm] at hl
 obtain ⟨d0, d1, rfl⟩ := len2 hl
 have h0 := hf (tStr, 0) (by simp)
 have h1 := hf (tInt, 1) (by simp)
 simp only [cint, cstr, List.drop_zero, List.drop_succ_cons, List.take_succ_cons, List.take_zero] at h0 h1
 obtain ⟨s, rfl, hs⟩ := shape_str str h0
 obtain ⟨m, rfl, hm⟩ := shape_i64 int h1
 exact ⟨⟨s, m⟩, ⟨by show s.length ≤ _; omega, hm⟩, rfl⟩
theorem readP {tP tPm tPms tS tE tInt tI tStr tEs tSs : TypeId} (X : ProcTy P tP tPm tPms tS tE tInt tI tStr tEs tSs) (hN : N ≤ 4194303) (n : Nat) (ds : List Dat) (h : shapeT P N n tP ds) : ∃ p : Pr, p.Ok ∧ ds = p.row := by
 obtain ⟨k, rfl, hl, hf⟩ := shape_struct X.p h
 rw [X.cp] at hl
 obtain ⟨d0, d1, d2, rfl⟩ := len3 hl
 have h0 := hf (tStr, 0) (by simp)
 have h1 := hf (tPms, 1) (by simp)
 have h2 := hf (tSs, 2) (by simp)
 simp only [X.cstr, X.cpms, X.css, List.drop_zero, List.drop_succ_cons, List.take_succ_cons, List.take_zero] at h0 h1 h2
 obtain ⟨s, rfl, hs⟩ := shape_str X.str h0
 obtain ⟨j, rows, rfl, rfl, hr, hrows⟩ := shape_slice X.pms h1
 obtain ⟨j', rows', hj, rfl, hr', hrows'⟩ := shape_slice X.ss h2
 obtain ⟨l, rfl, hll, hok⟩ := rows_of (ok := Pm.Ok) (row := Pm.row) fun r hr => readPm X.pm X.int X.str X.cpm X.cint X.cstr hN j r (hrows r hr).2
 obtain ⟨l', rfl, hll', hok'⟩ := rows_of (ok := Stm.Ok) (row := Stm.row) fun r hr => readS X.toStmtTy hN j' r (hrows' r hr).2
 exact ⟨⟨s, l, l'⟩, ⟨by show s.length ≤ _; omega, by show l.length ≤ _; omega, hok, by show l'.length ≤ _; omega, hok', by show l.length ≤ _; omega, by show l'.length ≤ _; omega⟩, rfl⟩
theorem rel_agg {W : World} {A : AHeap} {ds : List Dat} {cs : Array Value} (h : ReadDs W (fun b _ => b < W.heap.size) ds cs.toList) : RelV W (gh0 W) A (.agg (ds.map .d)) (.agg cs) := by
 have := RelV.agg (W := W) (g := gh0 W) (A := A) (ds.map .d) cs.toList (by simp [h.1]) (fun i x v h1 h2 => by
  rw [List.getElem?_map, Option.map_eq_some_iff] at h1
  obtain ⟨d, h1, rfl⟩ := h1
  exact .d d v (h.2 i d v h1 h2))
 simpa using this
theorem rel_one {W : World} {A : AHeap} {d : Dat} {v : Value} (h : ReadDs W (fun b _ => b < W.heap.size) [d] [v]) : RelV W (gh0 W) A (.d d) v := .d d v (h.2 0 d v rfl rfl)
end
open Go.ChangeShapes Go.WideShapes
mutual
def wD : Dat → Nat
 | .slice rows => wRows rows + 1
 | .str s => s.length + 1
 | .bool _ => 1
 | .int _ _ => 1
 | .nil => 1
def wRow : List Dat → Nat
 | [] => 0
 | d :: l => wD d + wRow l
def wRows : List (List Dat) → Nat
 | [] => 0
 | r :: l => wRow r + wRows l
end
theorem wRow_append : ∀ (l m : List Dat), wRow (l ++ m) = wRow l + wRow m
 | [], m => by simp [wRow]
 | x :: l, m => by simp only [List.cons_append, wRow, wRow_append l m]; omega
def sumB {H : Type} (B : DataW H → Nat) : List (DataW H) → Nat
 | [] => 0
 | d :: l => B d + sumB B l
structure BulkW {H : Type} (B : DataW H → Nat) : Prop extends Bulk B where
 pos : ∀ d, 1 ≤ B d
 wstr : ∀ s, s.length + 1 ≤ B (.lit (.string s))
 wagg : ∀ l, sumB B l ≤ B (.agg l)
 wslice : ∀ l sp, sumB B l + 1 ≤ B (.slice l sp)
theorem wRows_le {H : Type} {B : DataW H → Nat} : ∀ (l : List (List Dat)) (m : List (DataW H)), l.length ≤ m.length → (∀ (i : Nat) r d, l[i]? = some r → m[i]? = some d → wRow r ≤ B d) → wRows l ≤ sumB B m
 | [], m, _, _ => by simp [wRows]
 | r :: l, [], h, _ => by simp at h
 | r :: l, d :: m, h, hw => by
   have h1 := hw 0 r d rfl rfl
   have h2 := wRows_le l m (by simpa using h) (fun i r d a b => hw (i + 1) r d (by simpa using a) (by simpa using b))
   simp only [wRows, sumB]
   omega
section
variable {H : Type} {enc : TypeId × Value → H} {P : Program} {W : World} {base N : Nat} {sp : Nat → Bool} {held : Bool} {T : List TypeId} {B : DataW H → Nat}
theorem readW (hp : planT P T = true) (hB : BulkW B) : ∀ (n : Nat) (t : TypeId) (cs : List Value) (x : DataW H × List MemPlace), T.contains t = true → DataW.trod enc P W base sp held n t cs = some x → B x.1 ≤ N →
  ∃ ds, ReadDs W (fun b _ => b < W.heap.size) ds cs ∧ shapeT P N n t ds ∧ wRow ds ≤ B x.1 := by
 intro n
 induction n with
 | zero => intro t cs x _ h; unfold DataW.trod at h; cases h
 | succ n ih =>
   intro t cs x ht h hN
   have hk := List.all_eq_true.1 hp t (by simpa using ht)
   cases hu : P.underlying t with
   | none => rw [hu] at hk; cases hk
   | some u =>
     rw [hu] at hk
     cases u with
     | bool =>
       obtain ⟨b, rfl, _⟩ := DataW.trod_bool hu h
       exact ⟨[.bool b], .one (.bool b), by simp only [shapeT, hu]; exact ⟨b, rfl⟩, by simpa [wRow, wD] using hB.pos _⟩
     | int k =>
       obtain ⟨m, rfl, _, hw⟩ := DataW.trod_int hu h
       exact ⟨[.int k m], .one (.int k m), by simp only [shapeT, hu]; exact ⟨m, rfl, hw⟩, by simpa [wRow, wD] using hB.pos _⟩
     | string =>
       obtain ⟨s, rfl, rfl, _⟩ := DataW.trod_string hu h
       exact ⟨[.str s.data.toList], .one (.str s), by simp only [shapeT, hu]; exact ⟨_, rfl, Nat.le_trans (hB.toBulk.str _) hN⟩, by simp only [wRow, wD, Nat.add_zero]; exact hB.wstr _⟩
     | slice e =>
       simp only [Bool.and_eq_true, decide_eq_true_eq] at hk
       rcases DataW.trod_slice hu h with ⟨rfl, _⟩ | ⟨a, len, cap, elems, rest, n', hn', rfl, rfl, _, hl, hm, hlen, hel, _⟩
       ·exact ⟨[.slice []], .one (.empty none 0), by simp only [shapeT, hu]; exact ⟨[], rfl, Nat.zero_le _, fun r hr => by cases hr⟩, by simpa [wRow, wD, wRows] using hB.pos _⟩
       ·cases hn'
        have hone : ∀ i, i < len → ∃ r : List Value × List Dat, W.cells? base (a.add (i * P.cellsOf e)) (P.cellsOf e) = some r.1 ∧ ReadDs W (fun b _ => b < W.heap.size) r.2 r.1 ∧ shapeT P N n e r.2 ∧ ∀ d, (elems.map Prod.fst)[i]? = some d → wRow r.2 ≤ B d := by
         intro i hi
         have he := hel i hi
         rw [List.getElem?_eq_getElem (by omega)] at he
         obtain ⟨us, h1, h2⟩ := Option.bind_eq_some_iff.1 he
         obtain ⟨ds, h3, h4, h5⟩ := ih e us _ hk.1 h2 (Nat.le_trans (hB.toBulk.elem _ _ _ (List.mem_map.2 ⟨_, List.getElem_mem (by omega), rfl⟩)) hN)
         refine ⟨(us, ds), h1, h3, h4, fun d hd => ?_⟩
         rw [List.getElem?_map, List.getElem?_eq_getElem (by omega)] at hd
         simp only [Option.map_some, Option.some.injEq] at hd
         subst hd
         exact h5
        obtain ⟨F, hF⟩ := Go.Deep.choose_lt (p := fun i (r : List Value × List Dat) => W.cells? base (a.add (i * P.cellsOf e)) (P.cellsOf e) = some r.1 ∧ ReadDs W (fun b _ => b < W.heap.size) r.2 r.1 ∧ shapeT P N n e r.2 ∧ ∀ d, (elems.map Prod.fst)[i]? = some d → wRow r.2 ≤ B d) hone
        have hlN : len ≤ N := by
         have := Nat.le_trans (hB.toBulk.len _ _) hN
         simp at this
         omega
        cases len with
        | zero => exact ⟨[.slice []], .one (.empty _ _), by simp only [shapeT, hu]; exact ⟨[], rfl, Nat.zero_le _, fun r hr => by cases hr⟩, by simpa [wRow, wD, wRows] using hB.pos _⟩
        | succ m =>
          have hsp : a.spot = none := by
           have := (cells_spot hk.2 (hF 0 (by omega)).1).1
           simpa [Addr.add] using this
          have hcell : ∀ i, i < m + 1 → ∀ j v, (F i).1[j]? = some v → W.cell? ⟨a.block, a.off + i * P.cellsOf e + j, none⟩ = some v := by
           intro i hi j v hj
           have := (cells_spot hk.2 (hF i hi).1).2.2 j v hj
           unfold Addr.add at this
           split at this
           ·rename_i h0; rw [h0]; exact this
           ·exact this
          have hlenF : ∀ i, i < m + 1 → (F i).2.length = P.cellsOf e := fun i hi => by
           rw [(hF i hi).2.1.1]; exact (cells_spot hk.2 (hF i hi).1).2.1
          have hrow : ∀ (i : Nat) (row : List Dat), ((List.range (m + 1)).map fun i => (F i).2)[i]? = some row → i < m + 1 ∧ row = (F i).2 := by
           intro i row hr
           simp only [List.getElem?_map, Option.map_eq_some_iff] at hr
           obtain ⟨k, hk1, hk2⟩ := hr
           obtain ⟨hk3, hk4⟩ := List.getElem?_eq_some_iff.1 hk1
           simp at hk3 hk4
           subst hk4
           exact ⟨hk3, hk2.symm⟩
          refine ⟨[.slice ((List.range (m + 1)).map fun i => (F i).2)], ?_, ?_, ?_⟩
          ·refine .one ?_
           have := RelD.slice (W := W) (S := fun b _ => b < W.heap.size) ((List.range (m + 1)).map fun i => (F i).2) a.block a.off cap (P.cellsOf e) (fun i j => ((F i).1[j]?).getD .nilFunc)
            (by simpa using hl) (fun i row hr => by obtain ⟨h1, rfl⟩ := hrow i row hr; exact hlenF i h1)
            (fun i j row c hr hc => by
             obtain ⟨h1, rfl⟩ := hrow i row hr
             have hj : j < (F i).1.length := by rw [← (hF i h1).2.1.1]; exact lt_of_get hc
             have hv : (F i).1[j]? = some ((F i).1[j]'hj) := List.getElem?_eq_getElem hj
             have hx := hcell i h1 j _ hv
             refine ⟨cell_lt (a := ⟨a.block, a.off + i * P.cellsOf e + j, none⟩) hx, ?_⟩
             rw [hx, hv]
             rfl)
            (fun i j row c hr hc => by
             obtain ⟨h1, rfl⟩ := hrow i row hr
             have hj : j < (F i).1.length := by rw [← (hF i h1).2.1.1]; exact lt_of_get hc
             have hv : (F i).1[j]? = some ((F i).1[j]'hj) := List.getElem?_eq_getElem hj
             have := (hF i h1).2.1.2 j c _ hc hv
             show RelD W _ c (((F i).1[j]?).getD .nilFunc)
             rw [hv]
             exact this)
           have ha : a = ⟨a.block, a.off, none⟩ := by cases a; simp at hsp; subst hsp; rfl
           rw [ha]
           simpa using this
          ·simp only [shapeT, hu]
           refine ⟨_, rfl, by simpa using hlN, fun r hr => ?_⟩
           obtain ⟨i, hi, rfl⟩ := List.mem_map.1 hr
           have hi' : i < m + 1 := by simpa using hi
           exact ⟨hlenF i hi', (hF i hi').2.2.1⟩
          ·have hw := wRows_le (B := B) ((List.range (m + 1)).map fun i => (F i).2) (elems.map Prod.fst) (by simp; omega) (fun i r d hr hd => by
            obtain ⟨h1, rfl⟩ := hrow i r hr
            exact (hF i h1).2.2.2 d hd)
           refine Nat.le_trans ?_ (hB.wslice _ _)
           simp only [wRow, wD, Nat.add_zero]
           exact Nat.add_le_add_right hw 1
     | struct fs =>
       simp only [Bool.and_eq_true, beq_iff_eq] at hk
       obtain ⟨xs, n', hn', rfl, hlen, hxs, hf⟩ := DataW.trod_struct hu h
       cases hn'
       have key : ∀ (l : List Field) (k off : Nat), (∀ (i : Nat) (f : Field), l[i]? = some f → fs[k + i]? = some f) → rowB P off l = some (P.cellsOf t) →
         ∃ ds, ReadDs W (fun b _ => b < W.heap.size) ds (cs.drop off) ∧ (∀ f ∈ l, shapeT P N n f.type ((ds.drop (f.offset - off)).take (P.cellsOf f.type))) ∧ wRow ds ≤ sumB B ((xs.map Prod.fst).drop k) := by
        intro l
        induction l with
        | nil =>
          intro k off _ hr
          simp only [rowB, Option.some.injEq] at hr
          refine ⟨[], ⟨?_, fun i c v h => by simp at h⟩, (fun f hf => by cases hf), by simp [wRow]⟩
          simp; omega
        | cons f l ihl =>
          intro k off hi hr
          have hr' := hr
          simp only [rowB] at hr
          split at hr
          ·rename_i hoff
           have hle := rowB_le hr
           obtain ⟨ds2, h3, h4, h6⟩ := ihl (k + 1) (off + P.cellsOf f.type) (fun i g hg => by have := hi (i + 1) g (by simpa using hg); rw [show k + 1 + i = k + (i + 1) by omega]; exact this) hr
           have hfk := hi 0 f rfl
           simp only [Nat.add_zero] at hfk
           have hx := hf k f hfk
           have hks : k < xs.length := by
            rw [hxs]
            rcases Nat.lt_or_ge k fs.size with h' | h'
            ·exact h'
            ·rw [Array.getElem?_eq_none h'] at hfk; cases hfk
           rw [List.getElem?_eq_getElem hks] at hx
           have hfm : f ∈ fs.toList := by
            have : fs.toList[k]? = some f := by simpa using hfk
            exact List.mem_of_getElem? this
           obtain ⟨ds1, h1, h2, h5⟩ := ih f.type _ _ (List.all_eq_true.1 hk.1 f hfm) hx (Nat.le_trans (hB.toBulk.agg _ _ (List.mem_map.2 ⟨_, List.getElem_mem hks, rfl⟩)) hN)
           have hl1 : ds1.length = P.cellsOf f.type := by
            rw [h1.1, List.length_take, List.length_drop]; omega
           refine ⟨ds1 ++ ds2, ?_, ?_, ?_⟩
           ·have := h1.append h3
            rw [hoff] at this
            have he : (cs.drop off).take (P.cellsOf f.type) ++ cs.drop (off + P.cellsOf f.type) = cs.drop off := by
             rw [← List.drop_drop, List.take_append_drop]
            rwa [he] at this
           ·intro g hg
            rcases List.mem_cons.1 hg with rfl | hg
            ·rw [hoff, Nat.sub_self, List.drop_zero, ← hl1, List.take_left']
             ·exact h2
             ·rfl
            ·have hgo := rowB_off hr g hg
             have := h4 g hg
             rw [List.drop_append, List.drop_eq_nil_of_le (by omega), List.nil_append, hl1, show g.offset - off - P.cellsOf f.type = g.offset - (off + P.cellsOf f.type) by omega]
             exact this
           ·rw [wRow_append, List.drop_eq_getElem_cons (by simpa using hks)]
            simp only [sumB, List.getElem_map]
            omega
          ·cases hr
       obtain ⟨ds, h1, h2, h3⟩ := key fs.toList 0 0 (fun i f hi => by rw [Nat.zero_add]; simpa using hi) hk.2
       refine ⟨ds, by simpa using h1, ?_, ?_⟩
       ·simp only [shapeT, hu]
        refine ⟨?_, fun f hf => by simpa using h2 f hf⟩
        rw [h1.1, List.drop_zero, hlen]
       ·simp only [List.drop_zero] at h3
        exact Nat.le_trans h3 (hB.wagg _)
     | _ => cases hk
end
end Go.Abs
namespace Go.Abs
open Go.ChangeShapes Go.WideShapes Go.WideElems Go.ChangeAt Go.RowKit
section
variable {H : Type} {enc : TypeId × Value → H} {P : Program}
theorem TrodAll_stays (hl : laidOutB P = true) {W W' : World} {sp' : Nat → Bool} : ∀ {ts : List TypeId} {vs : List Value} {ds : List (DataW H)} {ps : List MemPlace}, (∀ t ∈ ts, P.readableRec t = true ∧ t < P.types.size) →
  DataW.TrodAll enc P W 0 (fun _ => true) true ts vs ds ps → (∀ p ∈ ps, W.sameAt W' p) → (∀ p ∈ ps, sp' p.block = true) → DataW.TrodAll enc P W' 0 sp' true ts vs ds ps
 | [], [], [], ps, _, h, _, _ => h
 | t :: ts, v :: vs, d :: ds, ps, hT, ⟨p, q, h1, h2, e⟩, hsame, hs => by
   subst e
   exact ⟨p, q, Trod_stays hl (hT t (List.mem_cons_self ..)).1 (hT t (List.mem_cons_self ..)).2 h1 (fun x hx => hsame x (List.mem_append_left _ hx)) (fun x hx => hs x (List.mem_append_left _ hx)),
    TrodAll_stays hl (fun t ht => hT t (List.mem_cons_of_mem _ ht)) h2 (fun x hx => hsame x (List.mem_append_right _ hx)) (fun x hx => hs x (List.mem_append_right _ hx)), rfl⟩
 | [], _ :: _, _, _, _, h, _, _ => by cases h
 | [], [], _ :: _, _, _, h, _, _ => by cases h
 | _ :: _, [], _, _, _, h, _, _ => by cases h
 | _ :: _, _ :: _, [], _, _, h, _, _ => by cases h
theorem same_of_stands {W W' : World} (h : Stands W W') {p : MemPlace} (hb : p.block < W.heap.size) : W.sameAt W' p := by
 cases p with
 | cell b o =>
   show W'.cell? _ = W.cell? _
   unfold World.cell?
   rw [h b hb]
 | map b => exact h b hb
theorem law_post {f : FuncId} {fn : Func} {s : ChangeSpec} {tb : TypeId} {W : World} {args : Array Value} {ds gs : List (DataW H)} {before : List MemPlace}
  (hl : laidOutB P = true) (hread : ∀ t ∈ fn.params.toList, P.readableRec t = true ∧ t < P.types.size) (hvars : s.vars = []) (hres : fn.resultTypes = #[tb]) (htb : P.underlying tb = some .bool) (hone : P.cellsOf tb = 1)
  (hW : DataW.Whole enc P fn.params.toList s.vars false W args.toList ds gs before)
  (hfn : s.fn H ds = { results := [.lit (.bool true)], args := ds })
  (hrun : Calls P f args W fun e W' => e = .returned (.bool true) ∧ Grown W W' ∧ Stands W W') :
  Calls P f args W fun e W' => ∃ v, e = .returned v ∧ s.post enc P fn false true false false W args v W' := by
 have hlt := hW.lt
 have hW' := hW
 obtain ⟨p, q, hA, hV, rfl, hz, hn⟩ := hW
 rw [hvars] at hV
 obtain ⟨rfl, rfl⟩ := trodVars_none hV
 refine hrun.mono fun e W' ⟨he, hg, hst⟩ => ⟨.bool true, he, ?_⟩
 have hsame : ∀ x ∈ p, W.sameAt W' x := fun x hx => same_of_stands hst (hlt x (by simpa using hx))
 have hr : (Value.bool true).resultList fn.resultTypes.size = [.bool true] := by rw [hres]; rfl
 have hfn' : s.fn H (ds ++ []) = { results := [.lit (.bool true)], args := ds } := by rw [List.append_nil]; exact hfn
 have hres' : ∀ b sp hd, DataW.TrodAll enc P W' b sp hd fn.resultTypes.toList ((Value.bool true).resultList fn.resultTypes.size) (s.fn H (ds ++ [])).results [] := fun b sp hd => by
  rw [hr, hres, hfn']
  exact trodAll_cons_mk (shut_bool htb _) trodAll_mk0
 have hargs : ∀ sp : Nat → Bool, (∀ x ∈ p, sp x.block = true) → DataW.TrodAll enc P W' 0 sp true fn.params.toList args.toList (s.fn H (ds ++ [])).args p := fun sp hs => by
  rw [hfn']
  exact TrodAll_stays hl hread hA hsame hs
 have hvs : ∀ sp : Nat → Bool, DataW.TrodVars enc P W' sp s.vars (s.fn H (ds ++ [])).vars [] := fun sp => by
  rw [hfn', hvars]
  rfl
 have hlt' : ∀ x ∈ p, x.block < W.heap.size := fun x hx => hlt x (by simpa using hx)
 refine ⟨ds, [], p ++ [], [], p, [], hW', hres' _ _ _, hargs _ (fun x hx => by simpa using hlt' x hx), hvs _, World.keptBut_mono (fun _ h => h.elim) hg.1, fun _ => ⟨?_, _, _, ([] ++ p) ++ [], ⟨[] ++ p, [], trodAll_append (hargs _ (fun _ _ => rfl)) (hres' _ _ _), hvs _, rfl, ?_, fun h => by cases h⟩, fun x hx _ => by simpa using hx⟩⟩
 ·rw [hr, hres]
  intro j t r h1 h2
  match j with
  | 0 =>
    simp at h1 h2
    subst h1; subst h2
    exact okWide_bool_mk htb _
  | j + 1 => simp at h1
 ·intro b off hp
  have hp' : MemPlace.cell b off ∈ p := by simpa using hp
  rw [hg.2.1 _ (hlt' (.cell b off) hp')]
  exact hz b off (by simpa using hp')
end
def goods (Good : TypeId → AV → Prop) : List TypeId → List AV → Prop
 | [], [] => True
 | t :: ts, x :: xs => Good t x ∧ goods Good ts xs
 | _, _ => False
section
variable {H : Type} {enc : TypeId × Value → H} {P : Program}
theorem trod_rel {W : World} {base N : Nat} {B : DataW H → Nat} {Good : TypeId → AV → Prop} {T : List TypeId}
  (rd : ∀ t v d ps, t ∈ T → Value.okWide P W .any base t v → DataW.Trod enc P W 0 (fun _ => true) true t v d ps → B d ≤ N → ∃ x, Good t x ∧ ∀ A, RelV W (gh0 W) A x v) :
  ∀ (ts : List TypeId) (vs : List Value) (ds : List (DataW H)) (ps : List MemPlace), (∀ t ∈ ts, t ∈ T) → DataW.TrodAll enc P W 0 (fun _ => true) true ts vs ds ps →
    (∀ (j : Nat) t v, ts[j]? = some t → vs[j]? = some v → Value.okWide P W .any base t v) → (∀ d ∈ ds, B d ≤ N) →
    ds.length = ts.length ∧ ∃ xs, goods Good ts xs ∧ xs.length = vs.length ∧ ∀ A (i : Nat) x v, xs[i]? = some x → vs[i]? = some v → RelV W (gh0 W) A x v
 | [], [], [], ps, _, _, _, _ => ⟨rfl, [], trivial, rfl, fun A i x v h => by simp at h⟩
 | t :: ts, v :: vs, d :: ds, ps, hT, h, hv, hb => by
   obtain ⟨p, q, h1, h2, e⟩ := h
   obtain ⟨x, hx, hr⟩ := rd t v d p (hT t (List.mem_cons_self ..)) (hv 0 t v rfl rfl) h1 (hb d (List.mem_cons_self ..))
   obtain ⟨hl, xs, hg, hlen, hrel⟩ := trod_rel rd ts vs ds q (fun t ht => hT t (List.mem_cons_of_mem _ ht)) h2 (fun j t v a b => hv (j + 1) t v (by simpa using a) (by simpa using b)) (fun d hd => hb d (List.mem_cons_of_mem _ hd))
   refine ⟨by simp [hl], x :: xs, ⟨hx, hg⟩, by simp [hlen], fun A i y w a b => ?_⟩
   cases i with
   | zero => simp at a b; subst a; subst b; exact hr A
   | succ i => exact hrel A i y w (by simpa using a) (by simpa using b)
 | [], _ :: _, _, _, _, h, _, _ => by cases h
 | [], [], _ :: _, _, _, h, _, _ => by cases h
 | _ :: _, [], _, _, _, h, _, _ => by cases h
 | _ :: _, _ :: _, [], _, _, h, _, _ => by cases h
end
end Go.Abs
namespace Go.Abs
def mkE : Dat → Dat → Dat → Option (List E) → Option E
 | .int .i64 op, .int .i64 n, .str s, some l => some (.mk op n s l)
 | _, _, _, _ => none
theorem mkE_inv {a b c : Dat} {o : Option (List E)} {e : E} (h : mkE a b c o = some e) : ∃ op n s l, a = .int .i64 op ∧ b = .int .i64 n ∧ c = .str s ∧ o = some l ∧ e = .mk op n s l := by
 unfold mkE at h
 split at h
 ·cases h; exact ⟨_, _, _, _, rfl, rfl, rfl, rfl, rfl⟩
 ·cases h
def mkS : Dat → Dat → Dat → Option E → Option E → Option (List Stm) → Option (List Stm) → Option Stm
 | .int .i64 op, .str name, .int .i64 max, some a, some b, some l, some k => some (.mk op name max a b l k)
 | _, _, _, _, _, _, _ => none
theorem mkS_inv {o m y : Dat} {a b : Option E} {d e : Option (List Stm)} {x : Stm} (h : mkS o m y a b d e = some x) : ∃ op name max a' b' l k, o = .int .i64 op ∧ m = .str name ∧ y = .int .i64 max ∧ a = some a' ∧ b = some b' ∧ d = some l ∧ e = some k ∧ x = .mk op name max a' b' l k := by
 unfold mkS at h
 split at h
 ·cases h; exact ⟨_, _, _, _, _, _, _, rfl, rfl, rfl, rfl, rfl, rfl, rfl, rfl⟩
 ·cases h
mutual
def rdDat : Dat → Option (List E)
 | .slice rows => rdRows rows
 | _ => none
def rdRow : List Dat → Option E
 | [a, b, c, d] => mkE a b c (rdDat d)
 | _ => none
def rdRows : List (List Dat) → Option (List E)
 | [] => some []
 | r :: rs => match rdRow r, rdRows rs with
   | some x, some l => some (x :: l)
   | _, _ => none
end
mutual
theorem rdDat_inv : ∀ (d : Dat) (l : List E), rdDat d = some l → d = .slice (l.map E.row)
 | .slice rows, l, h => by rw [rdDat] at h; rw [rdRows_inv rows l h]
 | .bool _, l, h => by simp [rdDat] at h
 | .nil, l, h => by simp [rdDat] at h
 | .int _ _, l, h => by simp [rdDat] at h
 | .str _, l, h => by simp [rdDat] at h
theorem rdRow_inv : ∀ (r : List Dat) (e : E), rdRow r = some e → r = e.row
 | [a, b, c, d], e, h => by
   rw [rdRow] at h
   obtain ⟨op, n, s, l, rfl, rfl, rfl, hl, rfl⟩ := mkE_inv h
   rw [E.row_mk, rdDat_inv d l hl]
 | [], e, h => by simp [rdRow] at h
 | [_], e, h => by simp [rdRow] at h
 | [_, _], e, h => by simp [rdRow] at h
 | [_, _, _], e, h => by simp [rdRow] at h
 | _ :: _ :: _ :: _ :: _ :: _, e, h => by simp [rdRow] at h
theorem rdRows_inv : ∀ (rs : List (List Dat)) (l : List E), rdRows rs = some l → rs = l.map E.row
 | [], l, h => by rw [rdRows] at h; cases h; rfl
 | r :: rs, l, h => by
   rw [rdRows] at h
   split at h
   ·rename_i x m hx hm
    cases h
    rw [List.map_cons, ← rdRow_inv r x hx, ← rdRows_inv rs m hm]
   ·cases h
end
mutual
theorem rdRow_row : ∀ e : E, rdRow e.row = some e
 | .mk op n s args => by
   rw [E.row_mk, rdRow, rdDat, rdRows_rows args]
   rfl
theorem rdRows_rows : ∀ l : List E, rdRows (l.map E.row) = some l
 | [] => rfl
 | x :: l => by rw [List.map_cons, rdRows, rdRow_row x, rdRows_rows l]
end
mutual
def rdSDat : Dat → Option (List Stm)
 | .slice rows => rdSRows rows
 | _ => none
def rdSRow : List Dat → Option Stm
 | [o, m, x, a0, a1, a2, a3, b0, b1, b2, b3, d, e] => mkS o m x (rdRow [a0, a1, a2, a3]) (rdRow [b0, b1, b2, b3]) (rdSDat d) (rdSDat e)
 | _ => none
def rdSRows : List (List Dat) → Option (List Stm)
 | [] => some []
 | r :: rs => match rdSRow r, rdSRows rs with
   | some x, some l => some (x :: l)
   | _, _ => none
end
mutual
theorem rdSDat_inv : ∀ (d : Dat) (l : List Stm), rdSDat d = some l → d = .slice (l.map Stm.row)
 | .slice rows, l, h => by rw [rdSDat] at h; rw [rdSRows_inv rows l h]
 | .bool _, l, h => by simp [rdSDat] at h
 | .nil, l, h => by simp [rdSDat] at h
 | .int _ _, l, h => by simp [rdSDat] at h
 | .str _, l, h => by simp [rdSDat] at h
theorem rdSRow_inv : ∀ (r : List Dat) (e : Stm), rdSRow r = some e → r = e.row
 | [o, m, y, a0, a1, a2, a3, b0, b1, b2, b3, d, e], x, h => by
   rw [rdSRow] at h
   obtain ⟨op, name, max, a, b, l, k, rfl, rfl, rfl, ha, hb, hl, hk, rfl⟩ := mkS_inv h
   have e1 := rdRow_inv _ a ha
   have e2 := rdRow_inv _ b hb
   have e3 := rdSDat_inv d l hl
   have e4 := rdSDat_inv e k hk
   rw [Stm.row, Stm.rows_map, Stm.rows_map, ← e1, ← e2, e3, e4]
   rfl
 | [], e, h => by simp [rdSRow] at h
 | [_], e, h => by simp [rdSRow] at h
 | [_, _], e, h => by simp [rdSRow] at h
 | [_, _, _], e, h => by simp [rdSRow] at h
 | [_, _, _, _], e, h => by simp [rdSRow] at h
 | [_, _, _, _, _], e, h => by simp [rdSRow] at h
 | [_, _, _, _, _, _], e, h => by simp [rdSRow] at h
 | [_, _, _, _, _, _, _], e, h => by simp [rdSRow] at h
 | [_, _, _, _, _, _, _, _], e, h => by simp [rdSRow] at h
 | [_, _, _, _, _, _, _, _, _], e, h => by simp [rdSRow] at h
 | [_, _, _, _, _, _, _, _, _, _], e, h => by simp [rdSRow] at h
 | [_, _, _, _, _, _, _, _, _, _, _], e, h => by simp [rdSRow] at h
 | [_, _, _, _, _, _, _, _, _, _, _, _], e, h => by simp [rdSRow] at h
 | _ :: _ :: _ :: _ :: _ :: _ :: _ :: _ :: _ :: _ :: _ :: _ :: _ :: _ :: _, e, h => by simp [rdSRow] at h
theorem rdSRows_inv : ∀ (rs : List (List Dat)) (l : List Stm), rdSRows rs = some l → rs = l.map Stm.row
 | [], l, h => by rw [rdSRows] at h; cases h; rfl
 | r :: rs, l, h => by
   rw [rdSRows] at h
   split at h
   ·rename_i x m hx hm
    cases h
    rw [List.map_cons, ← rdSRow_inv r x hx, ← rdSRows_inv rs m hm]
   ·cases h
end
mutual
theorem rdSRow_row : ∀ e : Stm, rdSRow e.row = some e
 | .mk op name max a b body els => by
   have ha := rdRow_row a
   have hb := rdRow_row b
   rw [E.row_eq] at ha hb
   rw [Stm.row_eq, rdSRow]
   simp only [Stm.a, Stm.b, Stm.body, Stm.els]
   rw [ha, hb, rdSDat, rdSDat, rdSRows_rows body, rdSRows_rows els]
   rfl
theorem rdSRows_rows : ∀ l : List Stm, rdSRows (l.map Stm.row) = some l
 | [] => rfl
 | x :: l => by rw [List.map_cons, rdSRows, rdSRow_row x, rdSRows_rows l]
end
def rdPms : List (List Dat) → Option (List Pm)
 | [] => some []
 | [.str n, .int .i64 t] :: rs => (rdPms rs).map (⟨n, t⟩ :: ·)
 | _ => none
theorem rdPms_inv : ∀ (rs : List (List Dat)) (l : List Pm), rdPms rs = some l → rs = l.map Pm.row
 | [], l, h => by simp [rdPms] at h; subst h; rfl
 | r :: rs, l, h => by
   unfold rdPms at h
   split at h
   ·rename_i h0; cases h0
   ·rename_i n t rs' h0
    cases h0
    rw [Option.map_eq_some_iff] at h
    obtain ⟨m, hm, rfl⟩ := h
    rw [List.map_cons, ← rdPms_inv rs m hm]
    rfl
   ·cases h
theorem rdPms_rows : ∀ l : List Pm, rdPms (l.map Pm.row) = some l
 | [] => rfl
 | x :: l => by
   show rdPms ([.str x.name, .int .i64 x.type] :: l.map Pm.row) = _
   rw [rdPms, rdPms_rows l]
   rfl
def rdPr : List Dat → Option Pr
 | [.str n, .slice ps, .slice b] => match rdPms ps, rdSRows b with
   | some l, some k => some ⟨n, l, k⟩
   | _, _ => none
 | _ => none
theorem rdPr_inv {r : List Dat} {p : Pr} (h : rdPr r = some p) : r = p.row := by
 unfold rdPr at h
 split at h
 ·split at h
  ·rename_i l k hl hk
   cases h
   rw [rdPms_inv _ _ hl, rdSRows_inv _ _ hk]
   rfl
  ·cases h
 ·cases h
theorem rdPr_row (p : Pr) : rdPr p.row = some p := by
 rw [Pr.row, rdPr, rdPms_rows, rdSRows_rows]
def okI (n : Int) : Bool := decide (-9223372036854775808 ≤ n) && decide (n ≤ 9223372036854775807)
theorem okI_iff {n : Int} : okI n = true ↔ i64 n := by simp [okI, i64]
mutual
def okE : E → Bool
 | .mk op n s args => okI op && (okI n && (decide (s.length ≤ 1099511627776) && (decide (args.length ≤ 4194303) && okEs args)))
def okEs : List E → Bool
 | [] => true
 | x :: l => okE x && okEs l
end
mutual
theorem okE_ok : ∀ e : E, okE e = true → e.Ok
 | .mk op n s args, h => by
   simp only [okE, Bool.and_eq_true, decide_eq_true_eq] at h
   obtain ⟨h1, h2, h3, h4, h5⟩ := h
   exact .mk _ _ _ _ (okI_iff.1 h1) (okI_iff.1 h2) h3 (by omega) h4 (okEs_ok args h5)
theorem okEs_ok : ∀ l : List E, okEs l = true → ∀ x ∈ l, x.Ok
 | [], _, x, hx => by cases hx
 | y :: l, h, x, hx => by
   simp only [okEs, Bool.and_eq_true] at h
   rcases List.mem_cons.1 hx with e | hx
   ·rw [e]; exact okE_ok y h.1
   ·exact okEs_ok l h.2 x hx
end
mutual
theorem ok_okE : ∀ e : E, e.Ok → okE e = true
 | .mk op n s args, h => by
   simp only [okE, Bool.and_eq_true, decide_eq_true_eq]
   exact ⟨okI_iff.2 h.op, okI_iff.2 h.n, h.s, h.fit, ok_okEs args h.arg⟩
theorem ok_okEs : ∀ l : List E, (∀ x ∈ l, x.Ok) → okEs l = true
 | [], _ => rfl
 | y :: l, h => by
   simp only [okEs, Bool.and_eq_true]
   exact ⟨ok_okE y (h y (List.mem_cons_self ..)), ok_okEs l fun x hx => h x (List.mem_cons_of_mem _ hx)⟩
end
mutual
def okS : Stm → Bool
 | .mk op name max a b body els => okI op && (okI max && (decide (name.length ≤ 1099511627776) && (okE a && (okE b && (decide (body.length ≤ 4194303) && (decide (els.length ≤ 4194303) && (okSs body && okSs els)))))))
def okSs : List Stm → Bool
 | [] => true
 | x :: l => okS x && okSs l
end
mutual
theorem okS_ok : ∀ e : Stm, okS e = true → e.Ok
 | .mk op name max a b body els, h => by
   simp only [okS, Bool.and_eq_true, decide_eq_true_eq] at h
   obtain ⟨h1, h2, h3, h4, h5, h6, h7, h8, h9⟩ := h
   exact .mk _ _ _ _ _ _ _ (okI_iff.1 h1) (okI_iff.1 h2) h3 (okE_ok _ h4) (okE_ok _ h5) (by omega) (by omega) h6 h7 (okSs_ok body h8) (okSs_ok els h9)
theorem okSs_ok : ∀ l : List Stm, okSs l = true → ∀ x ∈ l, x.Ok
 | [], _, x, hx => by cases hx
 | y :: l, h, x, hx => by
   simp only [okSs, Bool.and_eq_true] at h
   rcases List.mem_cons.1 hx with e | hx
   ·rw [e]; exact okS_ok y h.1
   ·exact okSs_ok l h.2 x hx
end
mutual
theorem ok_okS : ∀ e : Stm, e.Ok → okS e = true
 | .mk op name max a b body els, h => by
   cases h with
   | mk _ _ _ _ _ _ _ ho hm hn ha hb h1 h2 h5 h6 h3 h4 =>
   simp only [okS, Bool.and_eq_true, decide_eq_true_eq]
   exact ⟨okI_iff.2 ho, okI_iff.2 hm, hn, ok_okE a ha, ok_okE b hb, h5, h6, ok_okSs body h3, ok_okSs els h4⟩
theorem ok_okSs : ∀ l : List Stm, (∀ x ∈ l, x.Ok) → okSs l = true
 | [], _ => rfl
 | y :: l, h => by
   simp only [okSs, Bool.and_eq_true]
   exact ⟨ok_okS y (h y (List.mem_cons_self ..)), ok_okSs l fun x hx => h x (List.mem_cons_of_mem _ hx)⟩
end
def okPms : List Pm → Bool
 | [] => true
 | x :: l => (decide (x.name.length ≤ 1099511627776) && okI x.type) && okPms l
theorem okPms_iff : ∀ l : List Pm, okPms l = true ↔ ∀ x ∈ l, x.Ok
 | [] => by simp [okPms]
 | y :: l => by
   simp only [okPms, Bool.and_eq_true, decide_eq_true_eq, okPms_iff l, okI_iff, List.forall_mem_cons]
   exact ⟨fun h => ⟨⟨h.1.1, h.1.2⟩, h.2⟩, fun h => ⟨⟨h.1.name, h.1.type⟩, h.2⟩⟩
def okP (p : Pr) : Bool := decide (p.name.length ≤ 1099511627776) && (decide (p.params.length ≤ 4194303) && (okPms p.params && (decide (p.body.length ≤ 4194303) && okSs p.body)))
theorem okP_iff {p : Pr} : okP p = true ↔ p.Ok := by
 simp only [okP, Bool.and_eq_true, decide_eq_true_eq]
 constructor
 ·rintro ⟨h1, h2, h3, h4, h5⟩
  exact ⟨h1, by omega, (okPms_iff _).1 h3, by omega, okSs_ok _ h5, h2, h4⟩
 ·intro h
  exact ⟨h.name, h.pfit, (okPms_iff _).2 h.params, h.bfit, ok_okSs _ h.body⟩
end Go.Abs
