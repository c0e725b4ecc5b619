/- Statements: the tests of one statement. -/
import Derived.Test.YtjmghomnbmbjnaaSeatB
import Derived.Test.YtjmghomnbmbjnaaSeatA
set_option linter.unusedVariables false
set_option linter.unusedSimpArgs false
set_option linter.all false
set_option linter.deprecated false
set_option linter.all false
namespace Go.Proofs.Ytjmghomnbmbjnaa
open Go.Abs
attribute [local congr] ite_congr
set_option maxRecDepth 10000
def uN (op : Int) : Bool := decide (op = 1) || decide (op = 2) || decide (op = 6)
def uA (op : Int) : Bool := decide (1 ≤ op) && decide (op ≤ 7)
def uB (op : Int) : Bool := decide (op = 3) || decide (op = 6)
def uM (op : Int) : Bool := decide (op = 6) || decide (op = 8)
def uBo (op : Int) : Bool := decide (op = 5) || decide (op = 6)
def uO (op : Int) : Bool := decide (op = 5)
def kn (op : Int) : Bool := decide (1 ≤ op) && decide (op ≤ 8)
theorem usesOf (op : Int) (A : AHeap) : acl C 96 [.d (.int .i64 op)] A =
    some (.tuple [.agg [.d (.bool (uN op)), .d (.bool (uA op)), .d (.bool (uB op)), .d (.bool (uM op)), .d (.bool (uBo op)), .d (.bool (uO op))], .d (.bool (kn op))], A) := by
  rw [k_call (c := C) (f := 96) rfl Try.func96 rfl (ok 96 (by kernel_rfl)) rfl Try.ntmps96 Try.results96 (by simp)]
  simp (maxSteps := 1000000) only [go_sem, acB_merge, Nat.reduceLT, Nat.reduceLeDiff, Nat.reduceEqDiff, Nat.reduceAdd, Nat.reduceSub, Nat.reduceMul, Nat.reduceBEq, Nat.reduceBNe, Nat.reduceBneDiff, Nat.reduceBeqDiff, Int.reduceToNat, Int.reduceLE, Int.reduceLT, Int.reduceEq, Int.reduceNe, Int.reduceNeg, Int.reduceAdd, Int.reduceSub, ↓reduceIte, reduceCtorEq]
  repeat' (refine wayK (fun h => ?_) (fun h => ?_) <;> (try simp (maxSteps := 1000000) only [go_sem, acB_merge, Nat.reduceLT, Nat.reduceLeDiff, Nat.reduceEqDiff, Nat.reduceAdd, Nat.reduceSub, Nat.reduceMul, Nat.reduceBEq, Nat.reduceBNe, Nat.reduceBneDiff, Nat.reduceBeqDiff, Int.reduceToNat, Int.reduceLE, Int.reduceLT, Int.reduceEq, Int.reduceNe, Int.reduceNeg, Int.reduceAdd, Int.reduceSub, ↓reduceIte, reduceCtorEq, h]))
  all_goals
    simp only [Option.some.injEq, Prod.mk.injEq, AV.tuple.injEq, AV.agg.injEq, List.cons.injEq, AV.d.injEq, Dat.bool.injEq, and_true]
    simp at *
    simp only [uN, uA, uB, uM, uBo, uO, kn]
    first
      | (subst_vars; decide)
      | (refine ⟨⟨?_, ?_, ?_, ?_, ?_, ?_⟩, ?_⟩ <;> simp <;> omega)
/-- ref: max as it says -/
def uM' (op : Int) : Bool := decide (op = 6) || !(decide (1 ≤ op) && decide (op ≤ 7))
/-- a field that the operator does not use is set -/
def badF (n a b m bo o : Bool) (x : Stm) : Bool :=
  !n && !(x.name == []) || !a && !absE x.a || !b && !absE x.b || !m && !decide (x.max = 0) || !bo && decide (0 < (x.body.length : Int)) || !o && decide (0 < (x.els.length : Int))
def maxOk (x : Stm) : Bool := if decide (x.op = 6) = true then decide (1 ≤ x.max) && decide (x.max ≤ 16) else if decide (x.op = 8) = true then decide (0 ≤ x.max) && decide (x.max ≤ 999) else true
theorem shape (x : Stm) (n a b m bo o : Bool) (A : AHeap) : acl C 97 [Stm.av x, .agg [.d (.bool n), .d (.bool a), .d (.bool b), .d (.bool m), .d (.bool bo), .d (.bool o)]] A = some (.d (.bool (!badF n a b m bo o x && maxOk x)), A) := by
  rw [k_call (c := C) (f := 97) rfl Try.func97 rfl (ok 97 (by kernel_rfl)) rfl Try.ntmps97 Try.results97 (by simp)]
  simp (maxSteps := 1000000) only [go_sem, acondK_bool, acB_merge, Nat.reduceLT, Nat.reduceLeDiff, Nat.reduceEqDiff, Nat.reduceAdd, Nat.reduceSub, Nat.reduceMul, Nat.reduceBEq, Nat.reduceBNe, Nat.reduceBneDiff, Nat.reduceBeqDiff, Int.reduceToNat, Int.reduceLE, Int.reduceLT, Int.reduceEq, Int.reduceNe, Int.reduceNeg, Int.reduceAdd, Int.reduceSub, ↓reduceIte, reduceCtorEq, badF, maxOk, absE, ifnot]
/-- the error of one statement at a depth -/
def stmtS (x : Stm) (d : Int) : Int :=
  if (!kn x.op || !(!badF (uN x.op) (uA x.op) (uB x.op) (uM x.op) (uBo x.op) (uO x.op) x && maxOk x)) = true then 1
  else if (uN x.op && !isName x.name) = true then 7
  else if (uA x.op && !decide (chkE x.a 1 = 0)) = true then chkE x.a 1
  else if (uB x.op && !decide (chkE x.b 1 = 0)) = true then chkE x.b 1
  else if 12 < d then 2 else 0
theorem Stm.Ok.name {x : Stm} (h : x.Ok) : x.name.length ≤ 1099511627776 := by cases h; assumption
theorem statement (x : Stm) (hx : x.Ok) (d : Int) (A : AHeap) : acl C 80 [Stm.av x, .d (.int .i64 d)] A = some (.d (.int .i64 (stmtS x d)), A) := by
  rw [k_call (c := C) (f := 80) rfl Try.func80 rfl (ok 80 (by kernel_rfl)) rfl Try.ntmps80 Try.results80 (by simp)]
  have h1 := Stm.Ok.name hx
  simp (maxSteps := 1000000) only [go_sem, acondK_bool, acB_merge, Nat.reduceLT, Nat.reduceLeDiff, Nat.reduceEqDiff, Nat.reduceAdd, Nat.reduceSub, Nat.reduceMul, Nat.reduceBEq, Nat.reduceBNe, Nat.reduceBneDiff, Nat.reduceBeqDiff, Int.reduceToNat, Int.reduceLE, Int.reduceLT, Int.reduceEq, Int.reduceNe, Int.reduceNeg, Int.reduceAdd, Int.reduceSub, ↓reduceIte, reduceCtorEq, usesOf, shape, h1, validExpr x.a (Stm.Ok.a hx), validExpr x.b (Stm.Ok.b hx)]
  refine leafI ?_
  simp only [stmtS]
  generalize (!badF (uN x.op) (uA x.op) (uB x.op) (uM x.op) (uBo x.op) (uO x.op) x && maxOk x) = p
  cases kn x.op <;> cases p <;> cases uA x.op <;> cases uB x.op <;> simp
end Go.Proofs.Ytjmghomnbmbjnaa
set_option linter.all false
namespace Go.Proofs.Ytjmghomnbmbjnaa
open Go.Abs
attribute [local congr] ite_congr
set_option maxRecDepth 10000
def idxF {α : Type} (q : α → Bool) : List α → Nat → Int
  | [], _ => -1
  | x :: l, i => if q x = true then (i : Int) else idxF q l (i + 1)
theorem idxF_nonneg {α : Type} (q : α → Bool) : ∀ (l : List α) (i : Nat), decide (0 ≤ idxF q l i) = l.any q
  | [], i => by simp [idxF]
  | x :: l, i => by
    have ih := idxF_nonneg q l (i + 1)
    by_cases h : q x = true
    · simp [idxF, h]
    · simp [idxF, h] at ih ⊢
      exact ih
/-- the cells of a parameter -/
abbrev Pm.av (x : Pm) : AV := .agg [.d (.str x.name), .d (.int .i64 x.type)]
theorem indexFunc (l : List Pm) (hl : l.length ≤ 1099511627776) (f : FuncId) (cs : List AV) (q : Pm → Bool) (A : AHeap) (hq : ∀ x ∈ l, acl C f (Pm.av x :: cs) A = some (.d (.bool (q x)), A)) :
    acl C 103 [.d (.slice (l.map Pm.row)), .func (.func f) [] cs] A = some (.d (.int .i64 (idxF q l 0)), A) := by
  rw [k_call (c := C) (f := 103) rfl Try.func103 rfl (ok 103 (by kernel_rfl)) rfl Try.ntmps103 Try.results103 (by simp)]
  simp (maxSteps := 1000000) +contextual only [go_sem, acondK_bool, acB_merge, Nat.reduceLT, Nat.reduceLeDiff, Nat.reduceEqDiff, Nat.reduceAdd, Nat.reduceSub, Nat.reduceMul, Nat.reduceBEq, Nat.reduceBNe, Nat.reduceBneDiff, Nat.reduceBeqDiff, Int.reduceToNat, Int.reduceLE, Int.reduceLT, Int.reduceEq, Int.reduceNe, Int.reduceNeg, Int.reduceAdd, Int.reduceSub, ↓reduceIte, reduceCtorEq]
  refine loop_list (fun i => [(7, .v (.d (.int .i64 (l.length : Nat)))), (1, .v (.func (.func f) [] cs)), (0, .v (.d (.slice (l.map Pm.row)))), (8, .v (.d (.int .i64 (i : Nat))))])
    (fun pre suf => some (.d (.int .i64 (idxF q suf pre.length)), A)) l rfl rfl ?_
  intro pre suf h ih
  have hb : pre.length < 9223372036854775807 := by rw [h] at hl; simp at hl; omega
  cases suf with
  | nil => rw [List.append_nil] at h; subst h; simp (maxSteps := 1000000) +contextual only [go_sem, acondK_bool, acB_merge, Nat.reduceLT, Nat.reduceLeDiff, Nat.reduceEqDiff, Nat.reduceAdd, Nat.reduceSub, Nat.reduceMul, Nat.reduceBEq, Nat.reduceBNe, Nat.reduceBneDiff, Nat.reduceBeqDiff, Int.reduceToNat, Int.reduceLE, Int.reduceLT, Int.reduceEq, Int.reduceNe, Int.reduceNeg, Int.reduceAdd, Int.reduceSub, ↓reduceIte, reduceCtorEq, idxF]
  | cons x suf =>
    have e1 := hq x (by rw [h]; simp)
    have e2 := ih x suf rfl
    rw [List.length_append, List.length_cons, List.length_nil] at e2
    have e3 : (l.map Pm.row)[pre.length]? = some [.str x.name, .int .i64 x.type] := by rw [h]; exact map_mid
    have e4 : decide ((pre.length : Int) < (l.length : Int)) = true := by rw [h]; simp; omega
    simp (maxSteps := 1000000) +contextual only [go_sem, acondK_bool, acB_merge, Nat.reduceLT, Nat.reduceLeDiff, Nat.reduceEqDiff, Nat.reduceAdd, Nat.reduceSub, Nat.reduceMul, Nat.reduceBEq, Nat.reduceBNe, Nat.reduceBneDiff, Nat.reduceBeqDiff, Int.reduceToNat, Int.reduceLE, Int.reduceLT, Int.reduceEq, Int.reduceNe, Int.reduceNeg, Int.reduceAdd, Int.reduceSub, ↓reduceIte, reduceCtorEq, e3, e4, e1, e2, wrap_nat hb, idxF]
theorem containsFunc (l : List Pm) (hl : l.length ≤ 1099511627776) (f : FuncId) (cs : List AV) (q : Pm → Bool) (A : AHeap) (hq : ∀ x ∈ l, acl C f (Pm.av x :: cs) A = some (.d (.bool (q x)), A)) :
    acl C 94 [.d (.slice (l.map Pm.row)), .func (.func f) [] cs] A = some (.d (.bool (l.any q)), A) := by
  rw [k_call (c := C) (f := 94) rfl Try.func94 rfl (ok 94 (by kernel_rfl)) rfl Try.ntmps94 Try.results94 (by simp)]
  have e1 := indexFunc l hl f cs q A hq
  simp (maxSteps := 1000000) +contextual only [go_sem, acondK_bool, acB_merge, Nat.reduceLT, Nat.reduceLeDiff, Nat.reduceEqDiff, Nat.reduceAdd, Nat.reduceSub, Nat.reduceMul, Nat.reduceBEq, Nat.reduceBNe, Nat.reduceBneDiff, Nat.reduceBeqDiff, Int.reduceToNat, Int.reduceLE, Int.reduceLT, Int.reduceEq, Int.reduceNe, Int.reduceNeg, Int.reduceAdd, Int.reduceSub, ↓reduceIte, reduceCtorEq, e1, idxF_nonneg]
theorem sameName (y : Pm) (id : Nat) (n : Bytes) (t : Int) (A : AHeap) (h : A.objs[id]? = some (.cells [.d (.str n), .d (.int .i64 t)])) : acl C 95 [Pm.av y, .ptr id 0] A = some (.d (.bool (y.name == n)), A) := by
  rw [k_call (c := C) (f := 95) rfl Try.func95 rfl (ok 95 (by kernel_rfl)) rfl Try.ntmps95 Try.results95 (by simp)]
  simp (maxSteps := 1000000) +contextual only [go_sem, acondK_bool, acB_merge, Nat.reduceLT, Nat.reduceLeDiff, Nat.reduceEqDiff, Nat.reduceAdd, Nat.reduceSub, Nat.reduceMul, Nat.reduceBEq, Nat.reduceBNe, Nat.reduceBneDiff, Nat.reduceBeqDiff, Int.reduceToNat, Int.reduceLE, Int.reduceLT, Int.reduceEq, Int.reduceNe, Int.reduceNeg, Int.reduceAdd, Int.reduceSub, ↓reduceIte, reduceCtorEq, h]
/-- the error of the parameters -/
def prmF : List Pm → List Pm → Int
  | _, [] => 0
  | pre, x :: l => if (!isName x.name) = true then 7 else if (decide (x.type < 1) || decide (3 < x.type)) = true then 10 else if (pre.any fun y => y.name == x.name) = true then 8 else prmF (pre ++ [x]) l
def prmS (l : List Pm) : Int := if decide (6 < (l.length : Int)) = true then 2 else prmF [] l
def prmC (x : Pm) : AObj := .cells [.d (.str x.name), .d (.int .i64 x.type)]
theorem get_map_behind {α β : Type} {f : α → β} {pre : List α} {m : List β} : (pre.map f ++ m)[pre.length]? = m[0]? := by
  have := get_behind0 (l := pre.map f) (m := m)
  rwa [List.length_map] at this
theorem set_map_behind {α β : Type} {f : α → β} {pre : List α} {m : List β} {x : β} : (pre.map f ++ m).set pre.length x = pre.map f ++ m.set 0 x := by
  have := set_behind0 (l := pre.map f) (m := m) (x := x)
  rwa [List.length_map] at this
theorem elem_some {e : Option (TypeId × Nat)} {x : TypeId × Nat} (h : e = some x) : e.isSome = true := by rw [h]; rfl
theorem params (l : List Pm) (hl : l.length ≤ 1099511627776) (hok : ∀ x ∈ l, x.Ok) (A : AHeap) : acl C 78 [.d (.slice (l.map Pm.row))] A = some (.d (.int .i64 (prmS l)), A) := by
  rw [k_call (c := C) (f := 78) rfl Try.func78 rfl (ok 78 (by kernel_rfl)) rfl Try.ntmps78 Try.results78 (by simp)]
  simp (maxSteps := 1000000) only [go_sem, acB_merge, Nat.reduceLT, Nat.reduceLeDiff, Nat.reduceEqDiff, Nat.reduceAdd, Nat.reduceSub, Nat.reduceMul, Nat.reduceBEq, Nat.reduceBNe, Nat.reduceBneDiff, Nat.reduceBeqDiff, Int.reduceToNat, Int.reduceLE, Int.reduceLT, Int.reduceEq, Int.reduceNe, Int.reduceNeg, Int.reduceAdd, Int.reduceSub, ↓reduceIte, reduceCtorEq]
  refine wayK (fun h6 => ?_) (fun h6 => ?_)
  · simp (maxSteps := 1000000) +contextual only [go_sem, acondK_bool, acB_merge, Nat.reduceLT, Nat.reduceLeDiff, Nat.reduceEqDiff, Nat.reduceAdd, Nat.reduceSub, Nat.reduceMul, Nat.reduceBEq, Nat.reduceBNe, Nat.reduceBneDiff, Nat.reduceBeqDiff, Int.reduceToNat, Int.reduceLE, Int.reduceLT, Int.reduceEq, Int.reduceNe, Int.reduceNeg, Int.reduceAdd, Int.reduceSub, ↓reduceIte, reduceCtorEq, h6, prmS]
  simp (maxSteps := 1000000) +contextual only [go_sem, acondK_bool, acB_merge, Nat.reduceLT, Nat.reduceLeDiff, Nat.reduceEqDiff, Nat.reduceAdd, Nat.reduceSub, Nat.reduceMul, Nat.reduceBEq, Nat.reduceBNe, Nat.reduceBneDiff, Nat.reduceBeqDiff, Int.reduceToNat, Int.reduceLE, Int.reduceLT, Int.reduceEq, Int.reduceNe, Int.reduceNeg, Int.reduceAdd, Int.reduceSub, ↓reduceIte, reduceCtorEq, prmS, h6]
  refine loop_any (fun pre => [(9, .v (.d (.int .i64 (l.length : Nat)))), (8, .v (.d (.slice (l.map Pm.row)))), (0, .v (.d (.slice (l.map Pm.row)))), (10, .v (.d (.int .i64 (pre.length : Nat))))])
    (fun pre => ⟨A.objs ++ pre.map prmC, A.bufs⟩) (fun pre suf => some (.d (.int .i64 (prmF pre suf)), A)) l rfl (by simp) rfl ?_
  intro pre suf h ih
  have hb : pre.length < 9223372036854775807 := by rw [h] at hl; simp at hl; omega
  cases suf with
  | nil => rw [List.append_nil] at h; subst h; simp (maxSteps := 1000000) +contextual only [go_sem, acondK_bool, acB_merge, Nat.reduceLT, Nat.reduceLeDiff, Nat.reduceEqDiff, Nat.reduceAdd, Nat.reduceSub, Nat.reduceMul, Nat.reduceBEq, Nat.reduceBNe, Nat.reduceBneDiff, Nat.reduceBeqDiff, Int.reduceToNat, Int.reduceLE, Int.reduceLT, Int.reduceEq, Int.reduceNe, Int.reduceNeg, Int.reduceAdd, Int.reduceSub, ↓reduceIte, reduceCtorEq, prmF]
  | cons x suf =>
    have hx := hok x (by rw [h]; simp)
    have e2 := ih x suf rfl
    simp only [List.length_append, List.length_cons, List.length_nil, List.map_append, List.map_cons, List.map_nil] at e2
    have e3 : (l.map Pm.row)[pre.length]? = some [.str x.name, .int .i64 x.type] := by rw [h]; exact map_mid
    have e4 : decide ((pre.length : Int) < (l.length : Int)) = true := by rw [h]; simp; omega
    have e5 : pre.length ≤ l.length := by rw [h]; simp
    have e6 : (l.map Pm.row).take pre.length = pre.map Pm.row := by rw [h]; simp
    have e7 := containsFunc pre (by omega) 95 [.ptr (A.objs.length + pre.length) 0] (fun y => y.name == x.name) ⟨A.objs ++ (pre.map prmC ++ [prmC x]), A.bufs⟩
      (fun y _ => sameName y _ _ x.type _ (by simp only [get_behind, get_map_behind]; rfl))
    have e8 := elem_some elem_35
    simp only [prmC] at e2 e7
    simp (maxSteps := 1000000) +contextual only [go_sem, acondK_bool, acB_merge, Nat.reduceLT, Nat.reduceLeDiff, Nat.reduceEqDiff, Nat.reduceAdd, Nat.reduceSub, Nat.reduceMul, Nat.reduceBEq, Nat.reduceBNe, Nat.reduceBneDiff, Nat.reduceBeqDiff, Int.reduceToNat, Int.reduceLE, Int.reduceLT, Int.reduceEq, Int.reduceNe, Int.reduceNeg, Int.reduceAdd, Int.reduceSub, ↓reduceIte, reduceCtorEq, e3, e4, e5, e6, e7, e2, Option.isSome_some, hx.name, get_map_behind, set_map_behind, prmF, prmC, wrap_nat hb]
end Go.Proofs.Ytjmghomnbmbjnaa
set_option linter.all false
namespace Go.Proofs.Ytjmghomnbmbjnaa
open Go.Abs
attribute [local congr] ite_congr
set_option maxRecDepth 10000
def valF (t : Int) (x : Stm) (d : Int) : Int := if decide (t = 0) = true then stmtS x d else t
theorem validateStep (x : Stm) (hx : x.Ok) (d t : Int) (A : AHeap) (w : AObj) (b : List ABuf) : acl C 79 [Stm.av x, .d (.int .i64 d), .ptr A.objs.length 0] ⟨A.objs ++ [.cells [.d (.int .i64 t)], w], b⟩ =
    some (.tuple [], ⟨A.objs ++ [.cells [.d (.int .i64 (valF t x d))], w], b⟩) := by
  rw [k_call (c := C) (f := 79) rfl Try.func79 rfl (ok 79 (by kernel_rfl)) rfl Try.ntmps79 Try.results79 (by simp)]
  unfold valF
  cases h : decide (t = 0) with
  | true => simp (maxSteps := 1000000) +contextual only [go_sem, acondK_bool, acB_merge, Nat.reduceLT, Nat.reduceLeDiff, Nat.reduceEqDiff, Nat.reduceAdd, Nat.reduceSub, Nat.reduceMul, Nat.reduceBEq, Nat.reduceBNe, Nat.reduceBneDiff, Nat.reduceBeqDiff, Int.reduceToNat, Int.reduceLE, Int.reduceLT, Int.reduceEq, Int.reduceNe, Int.reduceNeg, Int.reduceAdd, Int.reduceSub, ↓reduceIte, reduceCtorEq, h, statement x hx, afinR_len]
  | false => simp (maxSteps := 1000000) +contextual only [go_sem, acondK_bool, acB_merge, Nat.reduceLT, Nat.reduceLeDiff, Nat.reduceEqDiff, Nat.reduceAdd, Nat.reduceSub, Nat.reduceMul, Nat.reduceBEq, Nat.reduceBNe, Nat.reduceBneDiff, Nat.reduceBeqDiff, Int.reduceToNat, Int.reduceLE, Int.reduceLT, Int.reduceEq, Int.reduceNe, Int.reduceNeg, Int.reduceAdd, Int.reduceSub, ↓reduceIte, reduceCtorEq, h, statement x hx, afinR_len]
def wkV (A : AHeap) : Wk Int where
  w := A.objs.length + 1
  sfn := 79
  rfn := 64
  scap := [.ptr A.objs.length 0]
  rcap := []
  H := wkH 79 64 [.ptr A.objs.length 0] [] (fun t => A.objs ++ [.cells [.d (.int .i64 t)]]) (fun _ => A.bufs)
  fs := valF
  fr := fun t _ => t
  Inv := fun _ k => k ≤ 401
  le := fun _ _ h => h
  obj := wkH_obj fun _ => by simp
  set := wkH_set fun _ => by simp
  stmt := fun t k x d hx _ => by
    have := validateStep x hx d t A (.cells [.d (.int .i64 (k : Nat)), .func (.func 79) [] [.ptr A.objs.length 0], .func (.func 64) [] []]) A.bufs
    unfold wkH
    simp only [List.append_assoc, List.cons_append, List.nil_append]
    exact this
  root := fun t k e _ _ => noRoot e _
  inv_s := fun _ _ _ _ h => by omega
  inv_r := fun _ _ _ h => by omega
  inv_e := fun _ _ h => by omega
/-- the first error of the statements that are visited -/
def errV : List Vis → Int
  | [] => 0
  | .s x d :: l => if stmtS x d = 0 then errV l else stmtS x d
  | .e _ _ :: l => errV l
theorem run_val_err : ∀ (l : List Vis) (t : Int) (k : Nat), t ≠ 0 → (run valF (fun t _ => t) l (t, k)).1 = t
  | [], t, k, _ => rfl
  | v :: l, t, k, h => by
    simp only [run]
    split
    · rfl
    · have hs : step1 valF (fun t _ => t) v t = t := by
        match v with
        | .s x d => simp [step1, valF, h]
        | .e x true => rfl
        | .e x false => rfl
      rw [hs]
      exact run_val_err l t _ h
theorem run_val : ∀ (l : List Vis) (k : Nat), (run valF (fun t _ => t) l (0, k)).1 = errV (l.take k)
  | [], k => by simp [run, errV]
  | v :: l, k => by
    simp only [run]
    split
    · rename_i h; subst h; rfl
    · obtain ⟨j, rfl⟩ : ∃ j, k = j + 1 := ⟨k - 1, by omega⟩
      rw [Nat.add_sub_cancel, List.take_succ_cons]
      match v with
      | .s x d =>
        simp only [step1, valF, errV, decide_true, if_true]
        by_cases h : stmtS x d = 0
        · rw [h, if_pos rfl]; exact run_val l j
        · rw [if_neg h]; exact run_val_err l _ j h
      | .e x true => exact run_val l j
      | .e x false => exact run_val l j
/-- the error of a procedure -/
def valS (p : Pr) : Int := if (!isName p.name) = true then 7 else if prmS p.params = 0 then (if errV (visP p) = 0 then (if decide ((400 : Int) < (((visP p).length : Nat) : Int)) = true then 2 else 0) else errV (visP p)) else prmS p.params
theorem validate (p : Pr) (hp : p.Ok) (A : AHeap) : acl C 59 [Pr.av p] A = some (.d (.int .i64 (valS p)), A) := by
  rw [k_call (c := C) (f := 59) rfl Try.func59 rfl (ok 59 (by kernel_rfl)) rfl Try.ntmps59 Try.results59 (by simp)]
  cases h1 : isName p.name with
  | false => simp (maxSteps := 1000000) +contextual only [go_sem, acondK_bool, acB_merge, Nat.reduceLT, Nat.reduceLeDiff, Nat.reduceEqDiff, Nat.reduceAdd, Nat.reduceSub, Nat.reduceMul, Nat.reduceBEq, Nat.reduceBNe, Nat.reduceBneDiff, Nat.reduceBeqDiff, Int.reduceToNat, Int.reduceLE, Int.reduceLT, Int.reduceEq, Int.reduceNe, Int.reduceNeg, Int.reduceAdd, Int.reduceSub, ↓reduceIte, reduceCtorEq, hp.name, h1, valS]
  | true =>
  by_cases h2 : prmS p.params = 0
  · have e1 := (wkV A).walk p hp 0 ⟨A.objs ++ [.cells [.d (.int .i64 0)]], A.bufs⟩ (by simp [wkV]) (Nat.le_refl _) rfl
    have e2 : (run (wkV A).fs (wkV A).fr (visSs p.body 1) (0, 401)).1 = errV (visP p) := run_val _ _
    have e3 : (401 : Int) - ((run (wkV A).fs (wkV A).fr (visSs p.body 1) (0, 401)).2 : Int) = ((visP p).length : Nat) := by
      rw [run_len]; unfold visP; simp; omega
    rw [e3, e2] at e1
    generalize (run (wkV A).fs (wkV A).fr (visSs p.body 1) (0, 401)).2 = k at e1
    by_cases h3 : errV (visP p) = 0
    · have e4 : afinR C 62 ⟨A.objs ++ [.cells [.d (.int .i64 0)]], A.bufs⟩ ((wkV A).H (errV (visP p)) k) (some (.d (.int .i64 ((visP p).length : Nat)))) = some (.d (.int .i64 ((visP p).length : Nat)), ⟨A.objs ++ [.cells [.d (.int .i64 0)]], A.bufs⟩) := by
        rw [h3]
        exact afinR_obj (c := C) (f := 62) (A0 := ⟨A.objs ++ [.cells [.d (.int .i64 0)]], A.bufs⟩) (v := .d (.int .i64 ((visP p).length : Nat))) rfl rfl
      rw [e4] at e1
      change acl C 62 [Pr.av p, .func (.func 79) [] [.ptr A.objs.length 0], .func (.func 64) [] []] _ = _ at e1
      simp (maxSteps := 1000000) +contextual only [go_sem, acondK_bool, acB_merge, Nat.reduceLT, Nat.reduceLeDiff, Nat.reduceEqDiff, Nat.reduceAdd, Nat.reduceSub, Nat.reduceMul, Nat.reduceBEq, Nat.reduceBNe, Nat.reduceBneDiff, Nat.reduceBeqDiff, Int.reduceToNat, Int.reduceLE, Int.reduceLT, Int.reduceEq, Int.reduceNe, Int.reduceNeg, Int.reduceAdd, Int.reduceSub, ↓reduceIte, reduceCtorEq, hp.name, h1, h2, params p.params hp.plen hp.params, e1]
      refine leafI ?_
      simp [valS, h1, h2, h3]
    · have e4 : afinR C 62 ⟨A.objs ++ [.cells [.d (.int .i64 0)]], A.bufs⟩ ((wkV A).H (errV (visP p)) k) (some (.d (.int .i64 ((visP p).length : Nat)))) = some (.d (.int .i64 ((visP p).length : Nat)), (wkV A).H (errV (visP p)) k) := by
        refine afinR_loud rfl rfl ?_
        intro hh
        have h9 := congrArg (fun l : List AObj => l[A.objs.length]?) hh
        simp [wkV, wkH, List.getElem?_take] at h9
        exact h3 h9
      rw [e4] at e1
      change acl C 62 [Pr.av p, .func (.func 79) [] [.ptr A.objs.length 0], .func (.func 64) [] []] _ = _ at e1
      simp only [wkV, wkH, List.append_assoc, List.cons_append, List.nil_append] at e1
      simp (maxSteps := 1000000) +contextual only [go_sem, acondK_bool, acB_merge, Nat.reduceLT, Nat.reduceLeDiff, Nat.reduceEqDiff, Nat.reduceAdd, Nat.reduceSub, Nat.reduceMul, Nat.reduceBEq, Nat.reduceBNe, Nat.reduceBneDiff, Nat.reduceBeqDiff, Int.reduceToNat, Int.reduceLE, Int.reduceLT, Int.reduceEq, Int.reduceNe, Int.reduceNeg, Int.reduceAdd, Int.reduceSub, ↓reduceIte, reduceCtorEq, hp.name, h1, h2, params p.params hp.plen hp.params, e1]
      refine leafI ?_
      simp [valS, h1, h2, h3]
  · simp (maxSteps := 1000000) +contextual only [go_sem, acondK_bool, acB_merge, Nat.reduceLT, Nat.reduceLeDiff, Nat.reduceEqDiff, Nat.reduceAdd, Nat.reduceSub, Nat.reduceMul, Nat.reduceBEq, Nat.reduceBNe, Nat.reduceBneDiff, Nat.reduceBeqDiff, Int.reduceToNat, Int.reduceLE, Int.reduceLT, Int.reduceEq, Int.reduceNe, Int.reduceNeg, Int.reduceAdd, Int.reduceSub, ↓reduceIte, reduceCtorEq, hp.name, h1, h2, params p.params hp.plen hp.params]
    refine leafI ?_
    simp [valS, h1, h2]
def Vis.Ok : Vis → Prop
  | .s x _ => x.Ok
  | .e x _ => x.Ok
mutual
theorem visE_ok : ∀ (e : E) (r : Bool), e.Ok → ∀ v ∈ visE e r, Vis.Ok v
  | .mk op n s args, r, h, v, hv => by
    simp only [visE, List.mem_cons] at hv
    rcases hv with rfl | hv
    · exact h
    · exact visEs_ok args (fun x hx => h.arg x hx) v hv
theorem visEs_ok : ∀ (l : List E), (∀ x ∈ l, x.Ok) → ∀ v ∈ visEs l, Vis.Ok v
  | [], _, v, hv => by simp [visEs] at hv
  | x :: l, h, v, hv => by
    simp only [visEs, List.mem_append] at hv
    rcases hv with hv | hv
    · exact visE_ok x false (h x (List.mem_cons_self ..)) v hv
    · exact visEs_ok l (fun y hy => h y (List.mem_cons_of_mem _ hy)) v hv
end
mutual
theorem visS_ok : ∀ (x : Stm) (d : Int), x.Ok → ∀ v ∈ visS x d, Vis.Ok v
  | .mk op name max a b body els, d, h, v, hv => by
    simp only [visS, List.mem_cons, List.mem_append] at hv
    rcases hv with rfl | hv | hv | hv | hv
    · exact h
    · split at hv
      · cases hv
      · exact visE_ok a true (Stm.Ok.a h) v hv
    · split at hv
      · cases hv
      · exact visE_ok b true (Stm.Ok.b h) v hv
    · exact visSs_ok body _ (Stm.Ok.bodyOk h) v hv
    · exact visSs_ok els _ (Stm.Ok.elsOk h) v hv
theorem visSs_ok : ∀ (l : List Stm) (d : Int), (∀ x ∈ l, x.Ok) → ∀ v ∈ visSs l d, Vis.Ok v
  | [], _, _, v, hv => by simp [visSs] at hv
  | x :: l, d, h, v, hv => by
    simp only [visSs, List.mem_append] at hv
    rcases hv with hv | hv
    · exact visS_ok x d (h x (List.mem_cons_self ..)) v hv
    · exact visSs_ok l d (fun y hy => h y (List.mem_cons_of_mem _ hy)) v hv
end
theorem visP_ok (p : Pr) (hp : p.Ok) : ∀ v ∈ visP p, Vis.Ok v := fun v hv => visSs_ok _ _ hp.body v (List.mem_of_mem_take hv)
theorem visP_len (p : Pr) : (visP p).length ≤ 401 := by unfold visP; simp; omega
end Go.Proofs.Ytjmghomnbmbjnaa
set_option linter.all false
namespace Go.Proofs.Ytjmghomnbmbjnaa
open Go.Abs
attribute [local congr] ite_congr
set_option maxRecDepth 10000
mutual
def cntS : Stm → Int → Int → Int
  | .mk op name max a b body els, n, m =>
    let n1 := IntKind.i64.wrap (IntKind.i64.wrap (n + 1) + IntKind.i64.wrap (Int.tdiv name.length 64))
    let n2 := IntKind.i64.wrap (n1 + cntE a (IntKind.i64.wrap (m - n1)))
    let n3 := IntKind.i64.wrap (n2 + cntE b (IntKind.i64.wrap (m - n2)))
    let n4 := IntKind.i64.wrap (n3 + cntSs body 0 (IntKind.i64.wrap (m - n3)))
    IntKind.i64.wrap (n4 + cntSs els 0 (IntKind.i64.wrap (m - n4)))
def cntSs : List Stm → Int → Int → Int
  | [], n, _ => n
  | x :: l, n, m => if n ≤ m then cntSs l (cntS x n m) m else n
end
def cntSP : List Stm → Int → Int → Int
  | [], n, _ => n
  | x :: l, n, m => cntSP l (cntS x n m) m
theorem cntSP_snoc : ∀ (l : List Stm) (x : Stm) (n m : Int), cntSP (l ++ [x]) n m = cntS x (cntSP l n m) m
  | [], _, _, _ => rfl
  | y :: l, x, n, m => by simp only [List.cons_append, cntSP, cntSP_snoc l]
theorem countBody_of (b : List Stm) (hlen : b.length ≤ 1099511627776) (hok : ∀ x ∈ b, x.Ok)
    (ih : ∀ x ∈ b, ∀ (l : List Stm), l = x.body ∨ l = x.els → ∀ (m : Int) (A : AHeap), acl C 29 [.d (.slice (l.map Stm.row)), .d (.int .i64 m)] A = some (.d (.int .i64 (cntSs l 0 m)), A))
    (m : Int) (A : AHeap) : acl C 29 [.d (.slice (b.map Stm.row)), .d (.int .i64 m)] A = some (.d (.int .i64 (cntSs b 0 m)), A) := by
  rw [k_call (c := C) (f := 29) rfl Try.func29 rfl (ok 29 (by kernel_rfl)) rfl Try.ntmps29 Try.results29 (by simp)]
  simp (maxSteps := 1000000) +contextual only [go_sem, acondK_bool, acB_merge, Nat.reduceLT, Nat.reduceLeDiff, Nat.reduceEqDiff, Nat.reduceAdd, Nat.reduceSub, Nat.reduceMul, Nat.reduceBEq, Nat.reduceBNe, Nat.reduceBneDiff, Nat.reduceBeqDiff, Int.reduceToNat, Int.reduceLE, Int.reduceLT, Int.reduceEq, Int.reduceNe, Int.reduceNeg, Int.reduceAdd, Int.reduceSub, ↓reduceIte, reduceCtorEq]
  refine loop_any (fun pre => [(5, .v (.d (.int .i64 (cntSP pre 0 m)))), (6, .v (.d (.int .i64 (pre.length : Nat)))), (1, .v (.d (.int .i64 m))), (0, .v (.d (.slice (b.map Stm.row))))])
    (fun _ => A) (fun pre suf => some (.d (.int .i64 (cntSs suf (cntSP pre 0 m) m)), A)) b rfl rfl rfl ?_
  intro pre suf h ih2
  have hb : pre.length < 9223372036854775807 := by rw [h] at hlen; simp at hlen; omega
  generalize hn : cntSP pre 0 m = k at *
  cases suf with
  | nil => rw [List.append_nil] at h; subst h; simp (maxSteps := 1000000) +contextual only [go_sem, acondK_bool, acB_merge, Nat.reduceLT, Nat.reduceLeDiff, Nat.reduceEqDiff, Nat.reduceAdd, Nat.reduceSub, Nat.reduceMul, Nat.reduceBEq, Nat.reduceBNe, Nat.reduceBneDiff, Nat.reduceBeqDiff, Int.reduceToNat, Int.reduceLE, Int.reduceLT, Int.reduceEq, Int.reduceNe, Int.reduceNeg, Int.reduceAdd, Int.reduceSub, ↓reduceIte, reduceCtorEq, cntSs]
  | cons x suf =>
    have hx : x ∈ b := by rw [h]; simp
    have hxo := hok x hx
    have e2 := ih2 x suf rfl
    rw [cntSP_snoc, hn, List.length_append, List.length_cons, List.length_nil] at e2
    have e3 : (b.map Stm.row)[pre.length]? = some (Stm.row x) := by rw [h]; exact map_mid
    rw [Stm.row_eq] at e3
    have e4 : decide ((pre.length : Int) < (b.length : Int)) = true := by rw [h]; simp; omega
    have f1 := count x.a (Stm.Ok.a hxo)
    have f2 := count x.b (Stm.Ok.b hxo)
    have f3 := ih x hx x.body (.inl rfl)
    have f4 := ih x hx x.els (.inr rfl)
    have f5 : cntS x k m = cntS (.mk x.op x.name x.max x.a x.b x.body x.els) k m := by rw [Stm.eta]
    rw [f5] at e2
    simp only [cntS] at e2
    simp (maxSteps := 1000000) +contextual only [go_sem, acondK_bool, acB_merge, Nat.reduceLT, Nat.reduceLeDiff, Nat.reduceEqDiff, Nat.reduceAdd, Nat.reduceSub, Nat.reduceMul, Nat.reduceBEq, Nat.reduceBNe, Nat.reduceBneDiff, Nat.reduceBeqDiff, Int.reduceToNat, Int.reduceLE, Int.reduceLT, Int.reduceEq, Int.reduceNe, Int.reduceNeg, Int.reduceAdd, Int.reduceSub, ↓reduceIte, reduceCtorEq, e3, e4, f1, f2, f3, f4, e2, wrap_nat hb, cntSs]
    refine leafI ?_
    rw [f5]
    simp [cntS]
theorem countBody_in : ∀ x : Stm, x.Ok → ∀ (l : List Stm), l = x.body ∨ l = x.els → ∀ (m : Int) (A : AHeap), acl C 29 [.d (.slice (l.map Stm.row)), .d (.int .i64 m)] A = some (.d (.int .i64 (cntSs l 0 m)), A) := by
  intro x
  induction x using Stm.ind with
  | h op name max a b body els ihb ihe =>
    intro hok l hm m A
    rcases hm with rfl | rfl
    · exact countBody_of _ (Stm.Ok.bodyLen hok) (Stm.Ok.bodyOk hok) (fun y hy => ihb y hy (Stm.Ok.bodyOk hok y hy)) m A
    · exact countBody_of _ (Stm.Ok.elsLen hok) (Stm.Ok.elsOk hok) (fun y hy => ihe y hy (Stm.Ok.elsOk hok y hy)) m A
def smallS (p : Pr) (m : Int) : Bool :=
  if (decide (40 < (p.params.length : Int)) || decide (200 < (p.name.length : Int))) = true then false else p.params.all (fun x => !decide (200 < (x.name.length : Int))) && decide (cntSs p.body 0 m ≤ m)
theorem small (p : Pr) (hp : p.Ok) (m : Int) (A : AHeap) : acl C 12 [Pr.av p, .d (.int .i64 m)] A = some (.d (.bool (smallS p m)), A) := by
  rw [k_call (c := C) (f := 12) rfl Try.func12 rfl (ok 12 (by kernel_rfl)) rfl Try.ntmps12 Try.results12 (by simp)]
  have e1 := countBody_of p.body hp.blen hp.body (fun x hx => countBody_in x (hp.body x hx)) m A
  cases h1 : (decide (40 < (p.params.length : Int)) || decide (200 < (p.name.length : Int))) with
  | true => simp (maxSteps := 1000000) +contextual only [go_sem, acondK_bool, acB_merge, Nat.reduceLT, Nat.reduceLeDiff, Nat.reduceEqDiff, Nat.reduceAdd, Nat.reduceSub, Nat.reduceMul, Nat.reduceBEq, Nat.reduceBNe, Nat.reduceBneDiff, Nat.reduceBeqDiff, Int.reduceToNat, Int.reduceLE, Int.reduceLT, Int.reduceEq, Int.reduceNe, Int.reduceNeg, Int.reduceAdd, Int.reduceSub, ↓reduceIte, reduceCtorEq, h1, smallS]
  | false =>
  simp (maxSteps := 1000000) +contextual only [go_sem, acondK_bool, acB_merge, Nat.reduceLT, Nat.reduceLeDiff, Nat.reduceEqDiff, Nat.reduceAdd, Nat.reduceSub, Nat.reduceMul, Nat.reduceBEq, Nat.reduceBNe, Nat.reduceBneDiff, Nat.reduceBeqDiff, Int.reduceToNat, Int.reduceLE, Int.reduceLT, Int.reduceEq, Int.reduceNe, Int.reduceNeg, Int.reduceAdd, Int.reduceSub, ↓reduceIte, reduceCtorEq, h1, smallS]
  refine loop_any (fun pre => [(1, .v (.d (.int .i64 m))), (2, .box [.d (.str p.name), .d (.slice (p.params.map Pm.row)), .d (.slice (p.body.map Stm.row))]), (5, .v (.d (.int .i64 (pre.length : Nat))))])
    (fun _ => A) (fun _ suf => some (.d (.bool (suf.all (fun x => !decide (200 < (x.name.length : Int))) && decide (cntSs p.body 0 m ≤ m))), A)) p.params rfl rfl rfl ?_
  intro pre suf h ih
  have hlen := hp.plen
  generalize p.params = l at *
  have hb : pre.length < 9223372036854775807 := by rw [h] at hlen; simp at hlen; omega
  cases suf with
  | nil => rw [List.append_nil] at h; subst h; simp (maxSteps := 1000000) +contextual only [go_sem, acondK_bool, acB_merge, Nat.reduceLT, Nat.reduceLeDiff, Nat.reduceEqDiff, Nat.reduceAdd, Nat.reduceSub, Nat.reduceMul, Nat.reduceBEq, Nat.reduceBNe, Nat.reduceBneDiff, Nat.reduceBeqDiff, Int.reduceToNat, Int.reduceLE, Int.reduceLT, Int.reduceEq, Int.reduceNe, Int.reduceNeg, Int.reduceAdd, Int.reduceSub, ↓reduceIte, reduceCtorEq, e1]
  | cons x suf =>
    have e2 := ih x suf rfl
    rw [List.length_append, List.length_cons, List.length_nil] at e2
    have e3 : (l.map Pm.row)[pre.length]? = some [.str x.name, .int .i64 x.type] := by rw [h]; exact map_mid
    have e4 : decide ((pre.length : Int) < (l.length : Int)) = true := by rw [h]; simp; omega
    simp (maxSteps := 1000000) +contextual only [go_sem, acondK_bool, acB_merge, Nat.reduceLT, Nat.reduceLeDiff, Nat.reduceEqDiff, Nat.reduceAdd, Nat.reduceSub, Nat.reduceMul, Nat.reduceBEq, Nat.reduceBNe, Nat.reduceBneDiff, Nat.reduceBeqDiff, Int.reduceToNat, Int.reduceLE, Int.reduceLT, Int.reduceEq, Int.reduceNe, Int.reduceNeg, Int.reduceAdd, Int.reduceSub, ↓reduceIte, reduceCtorEq, e3, e4, e2, wrap_nat hb]
    refine leafB ?_
    cases decide (200 < (x.name.length : Int)) <;> simp
end Go.Proofs.Ytjmghomnbmbjnaa
