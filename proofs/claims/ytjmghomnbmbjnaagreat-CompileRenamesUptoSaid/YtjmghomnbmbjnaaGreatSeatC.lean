/- Statements: the tests of one statement. -/
import Derived.Test.YtjmghomnbmbjnaaGreatSeatB
import Derived.Test.YtjmghomnbmbjnaaGreatSeatA
set_option linter.unusedVariables false
set_option linter.unusedSimpArgs false
set_option linter.all false
set_option linter.deprecated false
set_option linter.all false
namespace Go.Proofs.YtjmghomnbmbjnaaGreat
open Go.Abs
attribute [local congr] ite_congr
set_option maxRecDepth 10000
def uN (op : Int) : Bool := decide (op = 1) || decide (op = 2) || decide (op = 6)
def uA (op : Int) : Bool := decide (1 ≤ op) && decide (op ≤ 7)
def uB (op : Int) : Bool := decide (op = 3) || decide (op = 6)
def uM (op : Int) : Bool := decide (op = 6) || decide (op = 8)
def uBo (op : Int) : Bool := decide (op = 5) || decide (op = 6)
def uO (op : Int) : Bool := decide (op = 5)
def kn (op : Int) : Bool := decide (1 ≤ op) && decide (op ≤ 8)
theorem usesOf (op : Int) (A : AHeap) : acl C 131 [.d (.int .i64 op)] A =
    some (.tuple [.agg [.d (.bool (uN op)), .d (.bool (uA op)), .d (.bool (uB op)), .d (.bool (uM op)), .d (.bool (uBo op)), .d (.bool (uO op))], .d (.bool (kn op))], A) := by
  rw [k_call (c := C) (f := 131) rfl Tryz.func131 rfl (ok 131 (by kernel_rfl)) rfl Tryz.ntmps131 Tryz.results131 (by simp)]
  simp (maxSteps := 1000000) only [go_sem, acB_merge, Nat.reduceLT, Nat.reduceLeDiff, Nat.reduceEqDiff, Nat.reduceAdd, Nat.reduceSub, Nat.reduceMul, Nat.reduceBEq, Nat.reduceBNe, Nat.reduceBneDiff, Nat.reduceBeqDiff, Int.reduceToNat, Int.reduceLE, Int.reduceLT, Int.reduceEq, Int.reduceNe, Int.reduceNeg, Int.reduceAdd, Int.reduceSub, ↓reduceIte, reduceCtorEq]
  repeat' (refine wayK (fun h => ?_) (fun h => ?_) <;> (try simp (maxSteps := 1000000) only [go_sem, acB_merge, Nat.reduceLT, Nat.reduceLeDiff, Nat.reduceEqDiff, Nat.reduceAdd, Nat.reduceSub, Nat.reduceMul, Nat.reduceBEq, Nat.reduceBNe, Nat.reduceBneDiff, Nat.reduceBeqDiff, Int.reduceToNat, Int.reduceLE, Int.reduceLT, Int.reduceEq, Int.reduceNe, Int.reduceNeg, Int.reduceAdd, Int.reduceSub, ↓reduceIte, reduceCtorEq, h]))
  all_goals
    simp only [Option.some.injEq, Prod.mk.injEq, AV.tuple.injEq, AV.agg.injEq, List.cons.injEq, AV.d.injEq, Dat.bool.injEq, and_true]
    simp at *
    simp only [uN, uA, uB, uM, uBo, uO, kn]
    first
      | (subst_vars; decide)
      | (refine ⟨⟨?_, ?_, ?_, ?_, ?_, ?_⟩, ?_⟩ <;> simp <;> omega)
def uM' (op : Int) : Bool := decide (op = 6) || !(decide (1 ≤ op) && decide (op ≤ 7))
theorem usesR (op : Int) (A : AHeap) : acl C 90 [.d (.int .i64 op)] A =
    some (.tuple [.d (.bool (uN op)), .d (.bool (uM' op)), .d (.bool (uA op)), .d (.bool (uB op)), .d (.bool (uBo op)), .d (.bool (uO op))], A) := by
  rw [k_call (c := C) (f := 90) rfl Tryz.func90 rfl (ok 90 (by kernel_rfl)) rfl Tryz.ntmps90 Tryz.results90 (by simp)]
  simp (maxSteps := 1000000) only [go_sem, acB_merge, Nat.reduceLT, Nat.reduceLeDiff, Nat.reduceEqDiff, Nat.reduceAdd, Nat.reduceSub, Nat.reduceMul, Nat.reduceBEq, Nat.reduceBNe, Nat.reduceBneDiff, Nat.reduceBeqDiff, Int.reduceToNat, Int.reduceLE, Int.reduceLT, Int.reduceEq, Int.reduceNe, Int.reduceNeg, Int.reduceAdd, Int.reduceSub, ↓reduceIte, reduceCtorEq]
  repeat' (refine wayK (fun h => ?_) (fun h => ?_) <;> (try simp (maxSteps := 1000000) only [go_sem, acB_merge, Nat.reduceLT, Nat.reduceLeDiff, Nat.reduceEqDiff, Nat.reduceAdd, Nat.reduceSub, Nat.reduceMul, Nat.reduceBEq, Nat.reduceBNe, Nat.reduceBneDiff, Nat.reduceBeqDiff, Int.reduceToNat, Int.reduceLE, Int.reduceLT, Int.reduceEq, Int.reduceNe, Int.reduceNeg, Int.reduceAdd, Int.reduceSub, ↓reduceIte, reduceCtorEq, h]))
  all_goals
    simp only [Option.some.injEq, Prod.mk.injEq, AV.tuple.injEq, AV.agg.injEq, List.cons.injEq, AV.d.injEq, Dat.bool.injEq, and_true]
    simp at *
    simp only [uN, uA, uB, uM', uBo, uO, kn]
    first
      | (subst_vars; decide)
      | (refine ⟨?_, ?_, ?_, ?_, ?_, ?_⟩ <;> simp <;> omega)
def badF (n a b m bo o : Bool) (x : Stm) : Bool :=
  !n && !(x.name == []) || !a && !absE x.a || !b && !absE x.b || !m && !decide (x.max = 0) || !bo && decide (0 < (x.body.length : Int)) || !o && decide (0 < (x.els.length : Int))
def maxOk (x : Stm) : Bool := if decide (x.op = 6) = true then decide (1 ≤ x.max) && decide (x.max ≤ 16) else if decide (x.op = 8) = true then decide (0 ≤ x.max) && decide (x.max ≤ 999) else true
theorem shape (x : Stm) (n a b m bo o : Bool) (A : AHeap) : acl C 132 [Stm.av x, .agg [.d (.bool n), .d (.bool a), .d (.bool b), .d (.bool m), .d (.bool bo), .d (.bool o)]] A = some (.d (.bool (!badF n a b m bo o x && maxOk x)), A) := by
  rw [k_call (c := C) (f := 132) rfl Tryz.func132 rfl (ok 132 (by kernel_rfl)) rfl Tryz.ntmps132 Tryz.results132 (by simp)]
  simp (maxSteps := 1000000) only [go_sem, acondK_bool, acB_merge, Nat.reduceLT, Nat.reduceLeDiff, Nat.reduceEqDiff, Nat.reduceAdd, Nat.reduceSub, Nat.reduceMul, Nat.reduceBEq, Nat.reduceBNe, Nat.reduceBneDiff, Nat.reduceBeqDiff, Int.reduceToNat, Int.reduceLE, Int.reduceLT, Int.reduceEq, Int.reduceNe, Int.reduceNeg, Int.reduceAdd, Int.reduceSub, ↓reduceIte, reduceCtorEq, badF, maxOk, absE, ifnot]
def stmtS (x : Stm) (d : Int) : Int :=
  if (!kn x.op || !(!badF (uN x.op) (uA x.op) (uB x.op) (uM x.op) (uBo x.op) (uO x.op) x && maxOk x)) = true then 1
  else if (uN x.op && !isName x.name) = true then 7
  else if (uA x.op && !decide (chkE x.a 1 = 0)) = true then chkE x.a 1
  else if (uB x.op && !decide (chkE x.b 1 = 0)) = true then chkE x.b 1
  else if 12 < d then 2 else 0
theorem Stm.Ok.name {x : Stm} (h : x.Ok) : x.name.length ≤ 1099511627776 := by cases h; assumption
theorem statement (x : Stm) (hx : x.Ok) (d : Int) (A : AHeap) : acl C 103 [Stm.av x, .d (.int .i64 d)] A = some (.d (.int .i64 (stmtS x d)), A) := by
  rw [k_call (c := C) (f := 103) rfl Tryz.func103 rfl (ok 103 (by kernel_rfl)) rfl Tryz.ntmps103 Tryz.results103 (by simp)]
  have h1 := Stm.Ok.name hx
  simp (maxSteps := 1000000) only [go_sem, acondK_bool, acB_merge, Nat.reduceLT, Nat.reduceLeDiff, Nat.reduceEqDiff, Nat.reduceAdd, Nat.reduceSub, Nat.reduceMul, Nat.reduceBEq, Nat.reduceBNe, Nat.reduceBneDiff, Nat.reduceBeqDiff, Int.reduceToNat, Int.reduceLE, Int.reduceLT, Int.reduceEq, Int.reduceNe, Int.reduceNeg, Int.reduceAdd, Int.reduceSub, ↓reduceIte, reduceCtorEq, usesOf, shape, h1, validExpr x.a (Stm.Ok.a hx), validExpr x.b (Stm.Ok.b hx)]
  refine leafI ?_
  simp only [stmtS]
  generalize (!badF (uN x.op) (uA x.op) (uB x.op) (uM x.op) (uBo x.op) (uO x.op) x && maxOk x) = p
  cases kn x.op <;> cases p <;> cases uA x.op <;> cases uB x.op <;> simp
theorem stmtR (x : Stm) (hx : x.Ok) (d : Int) (A : AHeap) : acl C 60 [Stm.av x, .d (.int .i64 d)] A = some (.d (.int .i64 (stmtS x d)), A) := by
  rw [k_call (c := C) (f := 60) rfl Tryz.func60 rfl (ok 60 (by kernel_rfl)) rfl Tryz.ntmps60 Tryz.results60 (by simp)]
  have h1 := Stm.Ok.name hx
  simp (maxSteps := 1000000) only [go_sem, acondK_bool, acB_merge, Nat.reduceLT, Nat.reduceLeDiff, Nat.reduceEqDiff, Nat.reduceAdd, Nat.reduceSub, Nat.reduceMul, Nat.reduceBEq, Nat.reduceBNe, Nat.reduceBneDiff, Nat.reduceBeqDiff, Int.reduceToNat, Int.reduceLE, Int.reduceLT, Int.reduceEq, Int.reduceNe, Int.reduceNeg, Int.reduceAdd, Int.reduceSub, ↓reduceIte, reduceCtorEq, usesR, h1, validExprR x.a (Stm.Ok.a hx), validExprR x.b (Stm.Ok.b hx)]
  refine leafI ?_
  have e1 : (decide (x.op < 1) || decide (8 < x.op)) = !kn x.op := by
    rw [Bool.eq_iff_iff]; simp [kn]
    try omega
  have e2 : kn x.op = true → uM' x.op = uM x.op := by
    intro h
    simp [kn] at h
    rw [Bool.eq_iff_iff]; simp [uM, uM']; omega
  have e3 : (decide (x.op = 6) && (decide (x.max < 1) || decide (16 < x.max)) || decide (x.op = 8) && (decide (x.max < 0) || decide (999 < x.max))) = !maxOk x := by
    unfold maxOk
    by_cases h6 : x.op = 6
    · rw [h6, Bool.eq_iff_iff]; simp <;> omega
    · by_cases h8 : x.op = 8
      · rw [h8, Bool.eq_iff_iff]; simp <;> omega
      · simp [h6, h8]
  rw [e1, e3]
  simp only [stmtS, badF, absE, ifnot]
  cases hk : kn x.op
  · simp
  · rw [e2 hk]
    clear e1 e2 e3
    cases uN x.op <;> cases uA x.op <;> cases uB x.op <;> cases uM x.op <;> cases uBo x.op <;> cases uO x.op <;> cases maxOk x <;>
      simp only [Bool.not_true, Bool.not_false, Bool.true_and, Bool.false_and, Bool.true_or, Bool.false_or, Bool.or_false, Bool.and_true, Bool.and_false, if_true, if_false, Bool.false_eq_true, Bool.not_not, ite_self] <;> grind
end Go.Proofs.YtjmghomnbmbjnaaGreat
set_option linter.all false
namespace Go.Proofs.YtjmghomnbmbjnaaGreat
open Go.Abs
attribute [local congr] ite_congr
set_option maxRecDepth 10000
def idxF {α : Type} (q : α → Bool) : List α → Nat → Int
  | [], _ => -1
  | x :: l, i => if q x = true then (i : Int) else idxF q l (i + 1)
theorem idxF_nonneg {α : Type} (q : α → Bool) : ∀ (l : List α) (i : Nat), decide (0 ≤ idxF q l i) = l.any q
  | [], i => by simp [idxF]
  | x :: l, i => by
    have ih := idxF_nonneg q l (i + 1)
    by_cases h : q x = true
    · simp [idxF, h]
    · simp [idxF, h] at ih ⊢
      exact ih
abbrev Pm.av (x : Pm) : AV := .agg [.d (.str x.name), .d (.int .i64 x.type)]
theorem indexFunc (l : List Pm) (hl : l.length ≤ 1099511627776) (f : FuncId) (cs : List AV) (q : Pm → Bool) (A : AHeap) (hq : ∀ x ∈ l, acl C f (Pm.av x :: cs) A = some (.d (.bool (q x)), A)) :
    acl C 143 [.d (.slice (l.map Pm.row)), .func (.func f) [] cs] A = some (.d (.int .i64 (idxF q l 0)), A) := by
  rw [k_call (c := C) (f := 143) rfl Tryz.func143 rfl (ok 143 (by kernel_rfl)) rfl Tryz.ntmps143 Tryz.results143 (by simp)]
  simp (maxSteps := 1000000) +contextual only [go_sem, acondK_bool, acB_merge, Nat.reduceLT, Nat.reduceLeDiff, Nat.reduceEqDiff, Nat.reduceAdd, Nat.reduceSub, Nat.reduceMul, Nat.reduceBEq, Nat.reduceBNe, Nat.reduceBneDiff, Nat.reduceBeqDiff, Int.reduceToNat, Int.reduceLE, Int.reduceLT, Int.reduceEq, Int.reduceNe, Int.reduceNeg, Int.reduceAdd, Int.reduceSub, ↓reduceIte, reduceCtorEq]
  refine loop_list (fun i => [(7, .v (.d (.int .i64 (l.length : Nat)))), (1, .v (.func (.func f) [] cs)), (0, .v (.d (.slice (l.map Pm.row)))), (8, .v (.d (.int .i64 (i : Nat))))])
    (fun pre suf => some (.d (.int .i64 (idxF q suf pre.length)), A)) l rfl rfl ?_
  intro pre suf h ih
  have hb : pre.length < 9223372036854775807 := by rw [h] at hl; simp at hl; omega
  cases suf with
  | nil => rw [List.append_nil] at h; subst h; simp (maxSteps := 1000000) +contextual only [go_sem, acondK_bool, acB_merge, Nat.reduceLT, Nat.reduceLeDiff, Nat.reduceEqDiff, Nat.reduceAdd, Nat.reduceSub, Nat.reduceMul, Nat.reduceBEq, Nat.reduceBNe, Nat.reduceBneDiff, Nat.reduceBeqDiff, Int.reduceToNat, Int.reduceLE, Int.reduceLT, Int.reduceEq, Int.reduceNe, Int.reduceNeg, Int.reduceAdd, Int.reduceSub, ↓reduceIte, reduceCtorEq, idxF]
  | cons x suf =>
    have e1 := hq x (by rw [h]; simp)
    have e2 := ih x suf rfl
    rw [List.length_append, List.length_cons, List.length_nil] at e2
    have e3 : (l.map Pm.row)[pre.length]? = some [.str x.name, .int .i64 x.type] := by rw [h]; exact map_mid
    have e4 : decide ((pre.length : Int) < (l.length : Int)) = true := by rw [h]; simp; omega
    simp (maxSteps := 1000000) +contextual only [go_sem, acondK_bool, acB_merge, Nat.reduceLT, Nat.reduceLeDiff, Nat.reduceEqDiff, Nat.reduceAdd, Nat.reduceSub, Nat.reduceMul, Nat.reduceBEq, Nat.reduceBNe, Nat.reduceBneDiff, Nat.reduceBeqDiff, Int.reduceToNat, Int.reduceLE, Int.reduceLT, Int.reduceEq, Int.reduceNe, Int.reduceNeg, Int.reduceAdd, Int.reduceSub, ↓reduceIte, reduceCtorEq, e3, e4, e1, e2, wrap_nat hb, idxF]
theorem containsFunc (l : List Pm) (hl : l.length ≤ 1099511627776) (f : FuncId) (cs : List AV) (q : Pm → Bool) (A : AHeap) (hq : ∀ x ∈ l, acl C f (Pm.av x :: cs) A = some (.d (.bool (q x)), A)) :
    acl C 129 [.d (.slice (l.map Pm.row)), .func (.func f) [] cs] A = some (.d (.bool (l.any q)), A) := by
  rw [k_call (c := C) (f := 129) rfl Tryz.func129 rfl (ok 129 (by kernel_rfl)) rfl Tryz.ntmps129 Tryz.results129 (by simp)]
  have e1 := indexFunc l hl f cs q A hq
  simp (maxSteps := 1000000) +contextual only [go_sem, acondK_bool, acB_merge, Nat.reduceLT, Nat.reduceLeDiff, Nat.reduceEqDiff, Nat.reduceAdd, Nat.reduceSub, Nat.reduceMul, Nat.reduceBEq, Nat.reduceBNe, Nat.reduceBneDiff, Nat.reduceBeqDiff, Int.reduceToNat, Int.reduceLE, Int.reduceLT, Int.reduceEq, Int.reduceNe, Int.reduceNeg, Int.reduceAdd, Int.reduceSub, ↓reduceIte, reduceCtorEq, e1, idxF_nonneg]
theorem sameName (y : Pm) (id : Nat) (n : Bytes) (t : Int) (A : AHeap) (h : A.objs[id]? = some (.cells [.d (.str n), .d (.int .i64 t)])) : acl C 130 [Pm.av y, .ptr id 0] A = some (.d (.bool (y.name == n)), A) := by
  rw [k_call (c := C) (f := 130) rfl Tryz.func130 rfl (ok 130 (by kernel_rfl)) rfl Tryz.ntmps130 Tryz.results130 (by simp)]
  simp (maxSteps := 1000000) +contextual only [go_sem, acondK_bool, acB_merge, Nat.reduceLT, Nat.reduceLeDiff, Nat.reduceEqDiff, Nat.reduceAdd, Nat.reduceSub, Nat.reduceMul, Nat.reduceBEq, Nat.reduceBNe, Nat.reduceBneDiff, Nat.reduceBeqDiff, Int.reduceToNat, Int.reduceLE, Int.reduceLT, Int.reduceEq, Int.reduceNe, Int.reduceNeg, Int.reduceAdd, Int.reduceSub, ↓reduceIte, reduceCtorEq, h]
def prmF : List Pm → List Pm → Int
  | _, [] => 0
  | pre, x :: l => if (!isName x.name) = true then 7 else if (decide (x.type < 1) || decide (3 < x.type)) = true then 10 else if (pre.any fun y => y.name == x.name) = true then 8 else prmF (pre ++ [x]) l
def prmS (l : List Pm) : Int := if decide (6 < (l.length : Int)) = true then 2 else prmF [] l
def prmC (x : Pm) : AObj := .cells [.d (.str x.name), .d (.int .i64 x.type)]
theorem get_map_behind {α β : Type} {f : α → β} {pre : List α} {m : List β} : (pre.map f ++ m)[pre.length]? = m[0]? := by
  have := get_behind0 (l := pre.map f) (m := m)
  rwa [List.length_map] at this
theorem set_map_behind {α β : Type} {f : α → β} {pre : List α} {m : List β} {x : β} : (pre.map f ++ m).set pre.length x = pre.map f ++ m.set 0 x := by
  have := set_behind0 (l := pre.map f) (m := m) (x := x)
  rwa [List.length_map] at this
theorem elem_some {e : Option (TypeId × Nat)} {x : TypeId × Nat} (h : e = some x) : e.isSome = true := by rw [h]; rfl
theorem params (l : List Pm) (hl : l.length ≤ 1099511627776) (hok : ∀ x ∈ l, x.Ok) (A : AHeap) : acl C 101 [.d (.slice (l.map Pm.row))] A = some (.d (.int .i64 (prmS l)), A) := by
  rw [k_call (c := C) (f := 101) rfl Tryz.func101 rfl (ok 101 (by kernel_rfl)) rfl Tryz.ntmps101 Tryz.results101 (by simp)]
  simp (maxSteps := 1000000) only [go_sem, acB_merge, Nat.reduceLT, Nat.reduceLeDiff, Nat.reduceEqDiff, Nat.reduceAdd, Nat.reduceSub, Nat.reduceMul, Nat.reduceBEq, Nat.reduceBNe, Nat.reduceBneDiff, Nat.reduceBeqDiff, Int.reduceToNat, Int.reduceLE, Int.reduceLT, Int.reduceEq, Int.reduceNe, Int.reduceNeg, Int.reduceAdd, Int.reduceSub, ↓reduceIte, reduceCtorEq]
  refine wayK (fun h6 => ?_) (fun h6 => ?_)
  · simp (maxSteps := 1000000) +contextual only [go_sem, acondK_bool, acB_merge, Nat.reduceLT, Nat.reduceLeDiff, Nat.reduceEqDiff, Nat.reduceAdd, Nat.reduceSub, Nat.reduceMul, Nat.reduceBEq, Nat.reduceBNe, Nat.reduceBneDiff, Nat.reduceBeqDiff, Int.reduceToNat, Int.reduceLE, Int.reduceLT, Int.reduceEq, Int.reduceNe, Int.reduceNeg, Int.reduceAdd, Int.reduceSub, ↓reduceIte, reduceCtorEq, h6, prmS]
  simp (maxSteps := 1000000) +contextual only [go_sem, acondK_bool, acB_merge, Nat.reduceLT, Nat.reduceLeDiff, Nat.reduceEqDiff, Nat.reduceAdd, Nat.reduceSub, Nat.reduceMul, Nat.reduceBEq, Nat.reduceBNe, Nat.reduceBneDiff, Nat.reduceBeqDiff, Int.reduceToNat, Int.reduceLE, Int.reduceLT, Int.reduceEq, Int.reduceNe, Int.reduceNeg, Int.reduceAdd, Int.reduceSub, ↓reduceIte, reduceCtorEq, prmS, h6]
  refine loop_any (fun pre => [(9, .v (.d (.int .i64 (l.length : Nat)))), (8, .v (.d (.slice (l.map Pm.row)))), (0, .v (.d (.slice (l.map Pm.row)))), (10, .v (.d (.int .i64 (pre.length : Nat))))])
    (fun pre => ⟨A.objs ++ pre.map prmC, A.bufs⟩) (fun pre suf => some (.d (.int .i64 (prmF pre suf)), A)) l rfl (by simp) rfl ?_
  intro pre suf h ih
  have hb : pre.length < 9223372036854775807 := by rw [h] at hl; simp at hl; omega
  cases suf with
  | nil => rw [List.append_nil] at h; subst h; simp (maxSteps := 1000000) +contextual only [go_sem, acondK_bool, acB_merge, Nat.reduceLT, Nat.reduceLeDiff, Nat.reduceEqDiff, Nat.reduceAdd, Nat.reduceSub, Nat.reduceMul, Nat.reduceBEq, Nat.reduceBNe, Nat.reduceBneDiff, Nat.reduceBeqDiff, Int.reduceToNat, Int.reduceLE, Int.reduceLT, Int.reduceEq, Int.reduceNe, Int.reduceNeg, Int.reduceAdd, Int.reduceSub, ↓reduceIte, reduceCtorEq, prmF]
  | cons x suf =>
    have hx := hok x (by rw [h]; simp)
    have e2 := ih x suf rfl
    simp only [List.length_append, List.length_cons, List.length_nil, List.map_append, List.map_cons, List.map_nil] at e2
    have e3 : (l.map Pm.row)[pre.length]? = some [.str x.name, .int .i64 x.type] := by rw [h]; exact map_mid
    have e4 : decide ((pre.length : Int) < (l.length : Int)) = true := by rw [h]; simp; omega
    have e5 : pre.length ≤ l.length := by rw [h]; simp
    have e6 : (l.map Pm.row).take pre.length = pre.map Pm.row := by rw [h]; simp
    have e7 := containsFunc pre (by omega) 130 [.ptr (A.objs.length + pre.length) 0] (fun y => y.name == x.name) ⟨A.objs ++ (pre.map prmC ++ [prmC x]), A.bufs⟩
      (fun y _ => sameName y _ _ x.type _ (by simp only [get_behind, get_map_behind]; rfl))
    have e8 := elem_some elem_22
    simp only [prmC] at e2 e7
    simp (maxSteps := 1000000) +contextual only [go_sem, acondK_bool, acB_merge, Nat.reduceLT, Nat.reduceLeDiff, Nat.reduceEqDiff, Nat.reduceAdd, Nat.reduceSub, Nat.reduceMul, Nat.reduceBEq, Nat.reduceBNe, Nat.reduceBneDiff, Nat.reduceBeqDiff, Int.reduceToNat, Int.reduceLE, Int.reduceLT, Int.reduceEq, Int.reduceNe, Int.reduceNeg, Int.reduceAdd, Int.reduceSub, ↓reduceIte, reduceCtorEq, e3, e4, e5, e6, e7, e2, Option.isSome_some, hx.name, get_map_behind, set_map_behind, prmF, prmC, wrap_nat hb]
theorem paramsR (l : List Pm) (hl : l.length ≤ 1099511627776) (hok : ∀ x ∈ l, x.Ok) (A : AHeap) : acl C 59 [.d (.slice (l.map Pm.row))] A = some (.d (.int .i64 (prmS l)), A) := by
  rw [k_call (c := C) (f := 59) rfl Tryz.func59 rfl (ok 59 (by kernel_rfl)) rfl Tryz.ntmps59 Tryz.results59 (by simp)]
  simp (maxSteps := 1000000) only [go_sem, acB_merge, Nat.reduceLT, Nat.reduceLeDiff, Nat.reduceEqDiff, Nat.reduceAdd, Nat.reduceSub, Nat.reduceMul, Nat.reduceBEq, Nat.reduceBNe, Nat.reduceBneDiff, Nat.reduceBeqDiff, Int.reduceToNat, Int.reduceLE, Int.reduceLT, Int.reduceEq, Int.reduceNe, Int.reduceNeg, Int.reduceAdd, Int.reduceSub, ↓reduceIte, reduceCtorEq]
  refine wayK (fun h6 => ?_) (fun h6 => ?_)
  · simp (maxSteps := 1000000) +contextual only [go_sem, acondK_bool, acB_merge, Nat.reduceLT, Nat.reduceLeDiff, Nat.reduceEqDiff, Nat.reduceAdd, Nat.reduceSub, Nat.reduceMul, Nat.reduceBEq, Nat.reduceBNe, Nat.reduceBneDiff, Nat.reduceBeqDiff, Int.reduceToNat, Int.reduceLE, Int.reduceLT, Int.reduceEq, Int.reduceNe, Int.reduceNeg, Int.reduceAdd, Int.reduceSub, ↓reduceIte, reduceCtorEq, h6, prmS]
  simp (maxSteps := 1000000) +contextual only [go_sem, acondK_bool, acB_merge, Nat.reduceLT, Nat.reduceLeDiff, Nat.reduceEqDiff, Nat.reduceAdd, Nat.reduceSub, Nat.reduceMul, Nat.reduceBEq, Nat.reduceBNe, Nat.reduceBneDiff, Nat.reduceBeqDiff, Int.reduceToNat, Int.reduceLE, Int.reduceLT, Int.reduceEq, Int.reduceNe, Int.reduceNeg, Int.reduceAdd, Int.reduceSub, ↓reduceIte, reduceCtorEq, prmS, h6]
  refine loop_any (fun pre => [(3, .v (.d (.int .i64 (pre.length : Nat)))), (0, .v (.d (.slice (l.map Pm.row))))])
    (fun _ => A) (fun pre suf => some (.d (.int .i64 (prmF pre suf)), A)) l rfl rfl rfl ?_
  intro pre suf h ih
  have hb : pre.length < 9223372036854775807 := by rw [h] at hl; simp at hl; omega
  cases suf with
  | nil => rw [List.append_nil] at h; subst h; simp (maxSteps := 1000000) +contextual only [go_sem, acondK_bool, acB_merge, Nat.reduceLT, Nat.reduceLeDiff, Nat.reduceEqDiff, Nat.reduceAdd, Nat.reduceSub, Nat.reduceMul, Nat.reduceBEq, Nat.reduceBNe, Nat.reduceBneDiff, Nat.reduceBeqDiff, Int.reduceToNat, Int.reduceLE, Int.reduceLT, Int.reduceEq, Int.reduceNe, Int.reduceNeg, Int.reduceAdd, Int.reduceSub, ↓reduceIte, reduceCtorEq, prmF]
  | cons x suf =>
    have hx := hok x (by rw [h]; simp)
    have e2 := ih x suf rfl
    simp only [List.length_append, List.length_cons, List.length_nil] at e2
    have e3 : (l.map Pm.row)[pre.length]? = some [.str x.name, .int .i64 x.type] := by rw [h]; exact map_mid
    have e4 : decide ((pre.length : Int) < (l.length : Int)) = true := by rw [h]; simp; omega
    cases h1 : isName x.name with
    | false => simp (maxSteps := 1000000) +contextual only [go_sem, acondK_bool, acB_merge, Nat.reduceLT, Nat.reduceLeDiff, Nat.reduceEqDiff, Nat.reduceAdd, Nat.reduceSub, Nat.reduceMul, Nat.reduceBEq, Nat.reduceBNe, Nat.reduceBneDiff, Nat.reduceBeqDiff, Int.reduceToNat, Int.reduceLE, Int.reduceLT, Int.reduceEq, Int.reduceNe, Int.reduceNeg, Int.reduceAdd, Int.reduceSub, ↓reduceIte, reduceCtorEq, e3, e4, hx.name, prmF, h1]
    | true =>
    cases h2 : (decide (x.type < 1) || decide (3 < x.type)) with
    | true => simp (maxSteps := 1000000) +contextual only [go_sem, acondK_bool, acB_merge, Nat.reduceLT, Nat.reduceLeDiff, Nat.reduceEqDiff, Nat.reduceAdd, Nat.reduceSub, Nat.reduceMul, Nat.reduceBEq, Nat.reduceBNe, Nat.reduceBneDiff, Nat.reduceBeqDiff, Int.reduceToNat, Int.reduceLE, Int.reduceLT, Int.reduceEq, Int.reduceNe, Int.reduceNeg, Int.reduceAdd, Int.reduceSub, ↓reduceIte, reduceCtorEq, e3, e4, hx.name, prmF, h1, h2]
    | false =>
    simp (maxSteps := 1000000) +contextual only [go_sem, acondK_bool, acB_merge, Nat.reduceLT, Nat.reduceLeDiff, Nat.reduceEqDiff, Nat.reduceAdd, Nat.reduceSub, Nat.reduceMul, Nat.reduceBEq, Nat.reduceBNe, Nat.reduceBneDiff, Nat.reduceBeqDiff, Int.reduceToNat, Int.reduceLE, Int.reduceLT, Int.reduceEq, Int.reduceNe, Int.reduceNeg, Int.reduceAdd, Int.reduceSub, ↓reduceIte, reduceCtorEq, e3, e4, hx.name, prmF, h1, h2]
    refine loop_any (fun a => [(0, .v (.d (.slice (l.map Pm.row)))), (3, .v (.d (.int .i64 (pre.length : Nat)))), (4, .v (.d (.int .i64 (a.length : Nat))))])
      (fun _ => A) (fun _ b => some (.d (.int .i64 (if (b.any fun y => y.name == x.name) = true then 8 else prmF (pre ++ [x]) suf)), A)) pre rfl rfl rfl ?_
    intro a b hab ih2
    have hba : a.length < 9223372036854775807 := by rw [hab] at hb; simp at hb; omega
    cases b with
    | nil =>
      rw [List.append_nil] at hab
      subst hab
      simp (maxSteps := 1000000) +contextual only [go_sem, acondK_bool, acB_merge, Nat.reduceLT, Nat.reduceLeDiff, Nat.reduceEqDiff, Nat.reduceAdd, Nat.reduceSub, Nat.reduceMul, Nat.reduceBEq, Nat.reduceBNe, Nat.reduceBneDiff, Nat.reduceBeqDiff, Int.reduceToNat, Int.reduceLE, Int.reduceLT, Int.reduceEq, Int.reduceNe, Int.reduceNeg, Int.reduceAdd, Int.reduceSub, ↓reduceIte, reduceCtorEq, e2, wrap_nat hb, List.any_nil]
    | cons y b =>
      have f2 := ih2 y b rfl
      simp only [List.length_append, List.length_cons, List.length_nil] at f2
      have f3 : (l.map Pm.row)[a.length]? = some [.str y.name, .int .i64 y.type] := by rw [h, hab, List.append_assoc]; exact map_mid
      have f4 : decide ((a.length : Int) < (pre.length : Int)) = true := by rw [hab]; simp; omega
      simp (maxSteps := 1000000) +contextual only [go_sem, acondK_bool, acB_merge, Nat.reduceLT, Nat.reduceLeDiff, Nat.reduceEqDiff, Nat.reduceAdd, Nat.reduceSub, Nat.reduceMul, Nat.reduceBEq, Nat.reduceBNe, Nat.reduceBneDiff, Nat.reduceBeqDiff, Int.reduceToNat, Int.reduceLE, Int.reduceLT, Int.reduceEq, Int.reduceNe, Int.reduceNeg, Int.reduceAdd, Int.reduceSub, ↓reduceIte, reduceCtorEq, k_drawn_q, e3, f3, f4, f2, wrap_nat hba, List.any_cons]
      refine leafI ?_
      by_cases hy : (y.name == x.name) = true
      · simp [hy]
      · simp [hy]
end Go.Proofs.YtjmghomnbmbjnaaGreat
set_option linter.all false
namespace Go.Proofs.YtjmghomnbmbjnaaGreat
open Go.Abs
attribute [local congr] ite_congr
set_option maxRecDepth 10000
def valF (t : Int) (x : Stm) (d : Int) : Int := if decide (t = 0) = true then stmtS x d else t
theorem validateStep (x : Stm) (hx : x.Ok) (d t : Int) (A : AHeap) (w : AObj) (b : List ABuf) : acl C 102 [Stm.av x, .d (.int .i64 d), .ptr A.objs.length 0] ⟨A.objs ++ [.cells [.d (.int .i64 t)], w], b⟩ =
    some (.tuple [], ⟨A.objs ++ [.cells [.d (.int .i64 (valF t x d))], w], b⟩) := by
  rw [k_call (c := C) (f := 102) rfl Tryz.func102 rfl (ok 102 (by kernel_rfl)) rfl Tryz.ntmps102 Tryz.results102 (by simp)]
  unfold valF
  cases h : decide (t = 0) with
  | true => simp (maxSteps := 1000000) +contextual only [go_sem, acondK_bool, acB_merge, Nat.reduceLT, Nat.reduceLeDiff, Nat.reduceEqDiff, Nat.reduceAdd, Nat.reduceSub, Nat.reduceMul, Nat.reduceBEq, Nat.reduceBNe, Nat.reduceBneDiff, Nat.reduceBeqDiff, Int.reduceToNat, Int.reduceLE, Int.reduceLT, Int.reduceEq, Int.reduceNe, Int.reduceNeg, Int.reduceAdd, Int.reduceSub, ↓reduceIte, reduceCtorEq, h, statement x hx, afinR_len]
  | false => simp (maxSteps := 1000000) +contextual only [go_sem, acondK_bool, acB_merge, Nat.reduceLT, Nat.reduceLeDiff, Nat.reduceEqDiff, Nat.reduceAdd, Nat.reduceSub, Nat.reduceMul, Nat.reduceBEq, Nat.reduceBNe, Nat.reduceBneDiff, Nat.reduceBeqDiff, Int.reduceToNat, Int.reduceLE, Int.reduceLT, Int.reduceEq, Int.reduceNe, Int.reduceNeg, Int.reduceAdd, Int.reduceSub, ↓reduceIte, reduceCtorEq, h, statement x hx, afinR_len]
def wkV (A : AHeap) : Wk Int where
  w := A.objs.length + 1
  sfn := 102
  rfn := 75
  scap := [.ptr A.objs.length 0]
  rcap := []
  H := wkH 102 75 [.ptr A.objs.length 0] [] (fun t => A.objs ++ [.cells [.d (.int .i64 t)]]) (fun _ => A.bufs)
  fs := valF
  fr := fun t _ => t
  Inv := fun _ k => k ≤ 401
  le := fun _ _ h => h
  obj := wkH_obj fun _ => by simp
  set := wkH_set fun _ => by simp
  stmt := fun t k x d hx _ => by
    have := validateStep x hx d t A (.cells [.d (.int .i64 (k : Nat)), .func (.func 102) [] [.ptr A.objs.length 0], .func (.func 75) [] []]) A.bufs
    unfold wkH
    simp only [List.append_assoc, List.cons_append, List.nil_append]
    exact this
  root := fun t k e _ _ => noRoot e _
  inv_s := fun _ _ _ _ h => by omega
  inv_r := fun _ _ _ h => by omega
  inv_e := fun _ _ h => by omega
def errV : List Vis → Int
  | [] => 0
  | .s x d :: l => if stmtS x d = 0 then errV l else stmtS x d
  | .e _ _ :: l => errV l
theorem run_val_err : ∀ (l : List Vis) (t : Int) (k : Nat), t ≠ 0 → (run valF (fun t _ => t) l (t, k)).1 = t
  | [], t, k, _ => rfl
  | v :: l, t, k, h => by
    simp only [run]
    split
    · rfl
    · have hs : step1 valF (fun t _ => t) v t = t := by
        match v with
        | .s x d => simp [step1, valF, h]
        | .e x true => rfl
        | .e x false => rfl
      rw [hs]
      exact run_val_err l t _ h
theorem run_val : ∀ (l : List Vis) (k : Nat), (run valF (fun t _ => t) l (0, k)).1 = errV (l.take k)
  | [], k => by simp [run, errV]
  | v :: l, k => by
    simp only [run]
    split
    · rename_i h; subst h; rfl
    · obtain ⟨j, rfl⟩ : ∃ j, k = j + 1 := ⟨k - 1, by omega⟩
      rw [Nat.add_sub_cancel, List.take_succ_cons]
      match v with
      | .s x d =>
        simp only [step1, valF, errV, decide_true, if_true]
        by_cases h : stmtS x d = 0
        · rw [h, if_pos rfl]; exact run_val l j
        · rw [if_neg h]; exact run_val_err l _ j h
      | .e x true => exact run_val l j
      | .e x false => exact run_val l j
def valS (p : Pr) : Int := if (!isName p.name) = true then 7 else if prmS p.params = 0 then (if errV (visP p) = 0 then (if decide ((400 : Int) < (((visP p).length : Nat) : Int)) = true then 2 else 0) else errV (visP p)) else prmS p.params
theorem validate (p : Pr) (hp : p.Ok) (A : AHeap) : acl C 70 [Pr.av p] A = some (.d (.int .i64 (valS p)), A) := by
  rw [k_call (c := C) (f := 70) rfl Tryz.func70 rfl (ok 70 (by kernel_rfl)) rfl Tryz.ntmps70 Tryz.results70 (by simp)]
  cases h1 : isName p.name with
  | false => simp (maxSteps := 1000000) +contextual only [go_sem, acondK_bool, acB_merge, Nat.reduceLT, Nat.reduceLeDiff, Nat.reduceEqDiff, Nat.reduceAdd, Nat.reduceSub, Nat.reduceMul, Nat.reduceBEq, Nat.reduceBNe, Nat.reduceBneDiff, Nat.reduceBeqDiff, Int.reduceToNat, Int.reduceLE, Int.reduceLT, Int.reduceEq, Int.reduceNe, Int.reduceNeg, Int.reduceAdd, Int.reduceSub, ↓reduceIte, reduceCtorEq, hp.name, h1, valS]
  | true =>
  by_cases h2 : prmS p.params = 0
  · have e1 := (wkV A).walk p hp 0 ⟨A.objs ++ [.cells [.d (.int .i64 0)]], A.bufs⟩ (by simp [wkV]) (Nat.le_refl _) rfl
    have e2 : (run (wkV A).fs (wkV A).fr (visSs p.body 1) (0, 401)).1 = errV (visP p) := run_val _ _
    have e3 : (401 : Int) - ((run (wkV A).fs (wkV A).fr (visSs p.body 1) (0, 401)).2 : Int) = ((visP p).length : Nat) := by
      rw [run_len]; unfold visP; simp; omega
    rw [e3, e2] at e1
    generalize (run (wkV A).fs (wkV A).fr (visSs p.body 1) (0, 401)).2 = k at e1
    by_cases h3 : errV (visP p) = 0
    · have e4 : afinR C 73 ⟨A.objs ++ [.cells [.d (.int .i64 0)]], A.bufs⟩ ((wkV A).H (errV (visP p)) k) (some (.d (.int .i64 ((visP p).length : Nat)))) = some (.d (.int .i64 ((visP p).length : Nat)), ⟨A.objs ++ [.cells [.d (.int .i64 0)]], A.bufs⟩) := by
        rw [h3]
        exact afinR_obj (c := C) (f := 73) (A0 := ⟨A.objs ++ [.cells [.d (.int .i64 0)]], A.bufs⟩) (v := .d (.int .i64 ((visP p).length : Nat))) rfl rfl
      rw [e4] at e1
      change acl C 73 [Pr.av p, .func (.func 102) [] [.ptr A.objs.length 0], .func (.func 75) [] []] _ = _ at e1
      simp (maxSteps := 1000000) +contextual only [go_sem, acondK_bool, acB_merge, Nat.reduceLT, Nat.reduceLeDiff, Nat.reduceEqDiff, Nat.reduceAdd, Nat.reduceSub, Nat.reduceMul, Nat.reduceBEq, Nat.reduceBNe, Nat.reduceBneDiff, Nat.reduceBeqDiff, Int.reduceToNat, Int.reduceLE, Int.reduceLT, Int.reduceEq, Int.reduceNe, Int.reduceNeg, Int.reduceAdd, Int.reduceSub, ↓reduceIte, reduceCtorEq, hp.name, h1, h2, params p.params hp.plen hp.params, e1]
      refine leafI ?_
      simp [valS, h1, h2, h3]
    · have e4 : afinR C 73 ⟨A.objs ++ [.cells [.d (.int .i64 0)]], A.bufs⟩ ((wkV A).H (errV (visP p)) k) (some (.d (.int .i64 ((visP p).length : Nat)))) = some (.d (.int .i64 ((visP p).length : Nat)), (wkV A).H (errV (visP p)) k) := by
        refine afinR_loud rfl rfl ?_
        intro hh
        have h9 := congrArg (fun l : List AObj => l[A.objs.length]?) hh
        simp [wkV, wkH, List.getElem?_take] at h9
        exact h3 h9
      rw [e4] at e1
      change acl C 73 [Pr.av p, .func (.func 102) [] [.ptr A.objs.length 0], .func (.func 75) [] []] _ = _ at e1
      simp only [wkV, wkH, List.append_assoc, List.cons_append, List.nil_append] at e1
      simp (maxSteps := 1000000) +contextual only [go_sem, acondK_bool, acB_merge, Nat.reduceLT, Nat.reduceLeDiff, Nat.reduceEqDiff, Nat.reduceAdd, Nat.reduceSub, Nat.reduceMul, Nat.reduceBEq, Nat.reduceBNe, Nat.reduceBneDiff, Nat.reduceBeqDiff, Int.reduceToNat, Int.reduceLE, Int.reduceLT, Int.reduceEq, Int.reduceNe, Int.reduceNeg, Int.reduceAdd, Int.reduceSub, ↓reduceIte, reduceCtorEq, hp.name, h1, h2, params p.params hp.plen hp.params, e1]
      refine leafI ?_
      simp [valS, h1, h2, h3]
  · simp (maxSteps := 1000000) +contextual only [go_sem, acondK_bool, acB_merge, Nat.reduceLT, Nat.reduceLeDiff, Nat.reduceEqDiff, Nat.reduceAdd, Nat.reduceSub, Nat.reduceMul, Nat.reduceBEq, Nat.reduceBNe, Nat.reduceBneDiff, Nat.reduceBeqDiff, Int.reduceToNat, Int.reduceLE, Int.reduceLT, Int.reduceEq, Int.reduceNe, Int.reduceNeg, Int.reduceAdd, Int.reduceSub, ↓reduceIte, reduceCtorEq, hp.name, h1, h2, params p.params hp.plen hp.params]
    refine leafI ?_
    simp [valS, h1, h2]
def Vis.Ok : Vis → Prop
  | .s x _ => x.Ok
  | .e x _ => x.Ok
mutual
theorem visE_ok : ∀ (e : E) (r : Bool), e.Ok → ∀ v ∈ visE e r, Vis.Ok v
  | .mk op n s args, r, h, v, hv => by
    simp only [visE, List.mem_cons] at hv
    rcases hv with rfl | hv
    · exact h
    · exact visEs_ok args (fun x hx => h.arg x hx) v hv
theorem visEs_ok : ∀ (l : List E), (∀ x ∈ l, x.Ok) → ∀ v ∈ visEs l, Vis.Ok v
  | [], _, v, hv => by simp [visEs] at hv
  | x :: l, h, v, hv => by
    simp only [visEs, List.mem_append] at hv
    rcases hv with hv | hv
    · exact visE_ok x false (h x (List.mem_cons_self ..)) v hv
    · exact visEs_ok l (fun y hy => h y (List.mem_cons_of_mem _ hy)) v hv
end
mutual
theorem visS_ok : ∀ (x : Stm) (d : Int), x.Ok → ∀ v ∈ visS x d, Vis.Ok v
  | .mk op name max a b body els, d, h, v, hv => by
    simp only [visS, List.mem_cons, List.mem_append] at hv
    rcases hv with rfl | hv | hv | hv | hv
    · exact h
    · split at hv
      · cases hv
      · exact visE_ok a true (Stm.Ok.a h) v hv
    · split at hv
      · cases hv
      · exact visE_ok b true (Stm.Ok.b h) v hv
    · exact visSs_ok body _ (Stm.Ok.bodyOk h) v hv
    · exact visSs_ok els _ (Stm.Ok.elsOk h) v hv
theorem visSs_ok : ∀ (l : List Stm) (d : Int), (∀ x ∈ l, x.Ok) → ∀ v ∈ visSs l d, Vis.Ok v
  | [], _, _, v, hv => by simp [visSs] at hv
  | x :: l, d, h, v, hv => by
    simp only [visSs, List.mem_append] at hv
    rcases hv with hv | hv
    · exact visS_ok x d (h x (List.mem_cons_self ..)) v hv
    · exact visSs_ok l d (fun y hy => h y (List.mem_cons_of_mem _ hy)) v hv
end
theorem visP_ok (p : Pr) (hp : p.Ok) : ∀ v ∈ visP p, Vis.Ok v := fun v hv => visSs_ok _ _ hp.body v (List.mem_of_mem_take hv)
theorem visP_len (p : Pr) : (visP p).length ≤ 401 := by unfold visP; simp; omega
theorem validateR (p : Pr) (hp : p.Ok) (A : AHeap) : acl C 34 [Pr.av p] A = some (.d (.int .i64 (valS p)), A) := by
  rw [k_call (c := C) (f := 34) rfl Tryz.func34 rfl (ok 34 (by kernel_rfl)) rfl Tryz.ntmps34 Tryz.results34 (by simp)]
  cases h1 : isName p.name with
  | false => simp (maxSteps := 1000000) +contextual only [go_sem, acondK_bool, acB_merge, Nat.reduceLT, Nat.reduceLeDiff, Nat.reduceEqDiff, Nat.reduceAdd, Nat.reduceSub, Nat.reduceMul, Nat.reduceBEq, Nat.reduceBNe, Nat.reduceBneDiff, Nat.reduceBeqDiff, Int.reduceToNat, Int.reduceLE, Int.reduceLT, Int.reduceEq, Int.reduceNe, Int.reduceNeg, Int.reduceAdd, Int.reduceSub, ↓reduceIte, reduceCtorEq, hp.name, h1, valS]
  | true =>
  by_cases h2 : prmS p.params = 0
  · simp (maxSteps := 1000000) +contextual only [go_sem, acondK_bool, acB_merge, Nat.reduceLT, Nat.reduceLeDiff, Nat.reduceEqDiff, Nat.reduceAdd, Nat.reduceSub, Nat.reduceMul, Nat.reduceBEq, Nat.reduceBNe, Nat.reduceBneDiff, Nat.reduceBeqDiff, Int.reduceToNat, Int.reduceLE, Int.reduceLT, Int.reduceEq, Int.reduceNe, Int.reduceNeg, Int.reduceAdd, Int.reduceSub, ↓reduceIte, reduceCtorEq, hp.name, h1, h2, paramsR p.params hp.plen hp.params, walkR p hp]
    have hlen := visP_len p
    have hok := visP_ok p hp
    refine loop_list (fun i => [(4, .v (.d (.slice ((visP p).map Vis.row)))), (5, .v (.d (.int .i64 (i : Nat))))])
      (fun _ suf => some (.d (.int .i64 (if errV suf = 0 then (if decide ((400 : Int) < (((visP p).length : Nat) : Int)) = true then 2 else 0) else errV suf)), A)) (visP p) rfl (by simp [valS, h1, h2]) ?_
    intro pre suf h ih
    generalize hl : visP p = l at *
    have hb : pre.length < 9223372036854775807 := by rw [h] at hlen; simp at hlen; omega
    cases suf with
    | nil =>
      rw [List.append_nil] at h
      subst h
      simp (maxSteps := 1000000) +contextual only [go_sem, acondK_bool, acB_merge, Nat.reduceLT, Nat.reduceLeDiff, Nat.reduceEqDiff, Nat.reduceAdd, Nat.reduceSub, Nat.reduceMul, Nat.reduceBEq, Nat.reduceBNe, Nat.reduceBneDiff, Nat.reduceBeqDiff, Int.reduceToNat, Int.reduceLE, Int.reduceLT, Int.reduceEq, Int.reduceNe, Int.reduceNeg, Int.reduceAdd, Int.reduceSub, ↓reduceIte, reduceCtorEq, errV]
    | cons v suf =>
      have e2 := ih v suf rfl
      have hv := hok v (by rw [h]; simp)
      have e3 : (l.map Vis.row)[pre.length]? = some (Vis.row v) := by rw [h]; exact map_mid
      have e4 : decide ((pre.length : Int) < (l.length : Int)) = true := by rw [h]; simp; omega
      match v, hv with
      | .s x d, hv =>
        have e5 := stmtR x hv d A
        simp only [Vis.row] at e3
        simp (maxSteps := 1000000) +contextual only [go_sem, acondK_bool, acB_merge, Nat.reduceLT, Nat.reduceLeDiff, Nat.reduceEqDiff, Nat.reduceAdd, Nat.reduceSub, Nat.reduceMul, Nat.reduceBEq, Nat.reduceBNe, Nat.reduceBneDiff, Nat.reduceBeqDiff, Int.reduceToNat, Int.reduceLE, Int.reduceLT, Int.reduceEq, Int.reduceNe, Int.reduceNeg, Int.reduceAdd, Int.reduceSub, ↓reduceIte, reduceCtorEq, e3, e4, e5, e2, k_drawn_q, wrap_nat hb, errV]
        refine leafI ?_
        by_cases h5 : stmtS x d = 0 <;> simp [h5]
      | .e y r, hv =>
        simp only [Vis.row] at e3
        simp (maxSteps := 1000000) +contextual only [go_sem, acondK_bool, acB_merge, Nat.reduceLT, Nat.reduceLeDiff, Nat.reduceEqDiff, Nat.reduceAdd, Nat.reduceSub, Nat.reduceMul, Nat.reduceBEq, Nat.reduceBNe, Nat.reduceBneDiff, Nat.reduceBeqDiff, Int.reduceToNat, Int.reduceLE, Int.reduceLT, Int.reduceEq, Int.reduceNe, Int.reduceNeg, Int.reduceAdd, Int.reduceSub, ↓reduceIte, reduceCtorEq, e3, e4, e2, wrap_nat hb, errV]
        rfl
  · simp (maxSteps := 1000000) +contextual only [go_sem, acondK_bool, acB_merge, Nat.reduceLT, Nat.reduceLeDiff, Nat.reduceEqDiff, Nat.reduceAdd, Nat.reduceSub, Nat.reduceMul, Nat.reduceBEq, Nat.reduceBNe, Nat.reduceBneDiff, Nat.reduceBeqDiff, Int.reduceToNat, Int.reduceLE, Int.reduceLT, Int.reduceEq, Int.reduceNe, Int.reduceNeg, Int.reduceAdd, Int.reduceSub, ↓reduceIte, reduceCtorEq, hp.name, h1, h2, paramsR p.params hp.plen hp.params]
    refine leafI ?_
    simp [valS, h1, h2]
end Go.Proofs.YtjmghomnbmbjnaaGreat
set_option linter.all false
namespace Go.Proofs.YtjmghomnbmbjnaaGreat
open Go.Abs
attribute [local congr] ite_congr
set_option maxRecDepth 10000
mutual
def cntS : Stm → Int → Int → Int
  | .mk op name max a b body els, n, m =>
    let n1 := IntKind.i64.wrap (IntKind.i64.wrap (n + 1) + IntKind.i64.wrap (Int.tdiv name.length 64))
    let n2 := IntKind.i64.wrap (n1 + cntE a (IntKind.i64.wrap (m - n1)))
    let n3 := IntKind.i64.wrap (n2 + cntE b (IntKind.i64.wrap (m - n2)))
    let n4 := IntKind.i64.wrap (n3 + cntSs body 0 (IntKind.i64.wrap (m - n3)))
    IntKind.i64.wrap (n4 + cntSs els 0 (IntKind.i64.wrap (m - n4)))
def cntSs : List Stm → Int → Int → Int
  | [], n, _ => n
  | x :: l, n, m => if n ≤ m then cntSs l (cntS x n m) m else n
end
def cntSP : List Stm → Int → Int → Int
  | [], n, _ => n
  | x :: l, n, m => cntSP l (cntS x n m) m
theorem cntSP_snoc : ∀ (l : List Stm) (x : Stm) (n m : Int), cntSP (l ++ [x]) n m = cntS x (cntSP l n m) m
  | [], _, _, _ => rfl
  | y :: l, x, n, m => by simp only [List.cons_append, cntSP, cntSP_snoc l]
theorem countBody_of (b : List Stm) (hlen : b.length ≤ 1099511627776) (hok : ∀ x ∈ b, x.Ok)
    (ih : ∀ x ∈ b, ∀ (l : List Stm), l = x.body ∨ l = x.els → ∀ (m : Int) (A : AHeap), acl C 16 [.d (.slice (l.map Stm.row)), .d (.int .i64 m)] A = some (.d (.int .i64 (cntSs l 0 m)), A))
    (m : Int) (A : AHeap) : acl C 16 [.d (.slice (b.map Stm.row)), .d (.int .i64 m)] A = some (.d (.int .i64 (cntSs b 0 m)), A) := by
  rw [k_call (c := C) (f := 16) rfl Tryz.func16 rfl (ok 16 (by kernel_rfl)) rfl Tryz.ntmps16 Tryz.results16 (by simp)]
  simp (maxSteps := 1000000) +contextual only [go_sem, acondK_bool, acB_merge, Nat.reduceLT, Nat.reduceLeDiff, Nat.reduceEqDiff, Nat.reduceAdd, Nat.reduceSub, Nat.reduceMul, Nat.reduceBEq, Nat.reduceBNe, Nat.reduceBneDiff, Nat.reduceBeqDiff, Int.reduceToNat, Int.reduceLE, Int.reduceLT, Int.reduceEq, Int.reduceNe, Int.reduceNeg, Int.reduceAdd, Int.reduceSub, ↓reduceIte, reduceCtorEq]
  refine loop_any (fun pre => [(5, .v (.d (.int .i64 (cntSP pre 0 m)))), (6, .v (.d (.int .i64 (pre.length : Nat)))), (1, .v (.d (.int .i64 m))), (0, .v (.d (.slice (b.map Stm.row))))])
    (fun _ => A) (fun pre suf => some (.d (.int .i64 (cntSs suf (cntSP pre 0 m) m)), A)) b rfl rfl rfl ?_
  intro pre suf h ih2
  have hb : pre.length < 9223372036854775807 := by rw [h] at hlen; simp at hlen; omega
  generalize hn : cntSP pre 0 m = k at *
  cases suf with
  | nil => rw [List.append_nil] at h; subst h; simp (maxSteps := 1000000) +contextual only [go_sem, acondK_bool, acB_merge, Nat.reduceLT, Nat.reduceLeDiff, Nat.reduceEqDiff, Nat.reduceAdd, Nat.reduceSub, Nat.reduceMul, Nat.reduceBEq, Nat.reduceBNe, Nat.reduceBneDiff, Nat.reduceBeqDiff, Int.reduceToNat, Int.reduceLE, Int.reduceLT, Int.reduceEq, Int.reduceNe, Int.reduceNeg, Int.reduceAdd, Int.reduceSub, ↓reduceIte, reduceCtorEq, cntSs]
  | cons x suf =>
    have hx : x ∈ b := by rw [h]; simp
    have hxo := hok x hx
    have e2 := ih2 x suf rfl
    rw [cntSP_snoc, hn, List.length_append, List.length_cons, List.length_nil] at e2
    have e3 : (b.map Stm.row)[pre.length]? = some (Stm.row x) := by rw [h]; exact map_mid
    rw [Stm.row_eq] at e3
    have e4 : decide ((pre.length : Int) < (b.length : Int)) = true := by rw [h]; simp; omega
    have f1 := count x.a (Stm.Ok.a hxo)
    have f2 := count x.b (Stm.Ok.b hxo)
    have f3 := ih x hx x.body (.inl rfl)
    have f4 := ih x hx x.els (.inr rfl)
    have f5 : cntS x k m = cntS (.mk x.op x.name x.max x.a x.b x.body x.els) k m := by rw [Stm.eta]
    rw [f5] at e2
    simp only [cntS] at e2
    simp (maxSteps := 1000000) +contextual only [go_sem, acondK_bool, acB_merge, Nat.reduceLT, Nat.reduceLeDiff, Nat.reduceEqDiff, Nat.reduceAdd, Nat.reduceSub, Nat.reduceMul, Nat.reduceBEq, Nat.reduceBNe, Nat.reduceBneDiff, Nat.reduceBeqDiff, Int.reduceToNat, Int.reduceLE, Int.reduceLT, Int.reduceEq, Int.reduceNe, Int.reduceNeg, Int.reduceAdd, Int.reduceSub, ↓reduceIte, reduceCtorEq, e3, e4, f1, f2, f3, f4, e2, wrap_nat hb, cntSs]
    refine leafI ?_
    rw [f5]
    simp [cntS]
theorem countBody_in : ∀ x : Stm, x.Ok → ∀ (l : List Stm), l = x.body ∨ l = x.els → ∀ (m : Int) (A : AHeap), acl C 16 [.d (.slice (l.map Stm.row)), .d (.int .i64 m)] A = some (.d (.int .i64 (cntSs l 0 m)), A) := by
  intro x
  induction x using Stm.ind with
  | h op name max a b body els ihb ihe =>
    intro hok l hm m A
    rcases hm with rfl | rfl
    · exact countBody_of _ (Stm.Ok.bodyLen hok) (Stm.Ok.bodyOk hok) (fun y hy => ihb y hy (Stm.Ok.bodyOk hok y hy)) m A
    · exact countBody_of _ (Stm.Ok.elsLen hok) (Stm.Ok.elsOk hok) (fun y hy => ihe y hy (Stm.Ok.elsOk hok y hy)) m A
def smallS (p : Pr) (m : Int) : Bool :=
  if (decide (40 < (p.params.length : Int)) || decide (200 < (p.name.length : Int))) = true then false else p.params.all (fun x => !decide (200 < (x.name.length : Int))) && decide (cntSs p.body 0 m ≤ m)
theorem small (p : Pr) (hp : p.Ok) (m : Int) (A : AHeap) : acl C 7 [Pr.av p, .d (.int .i64 m)] A = some (.d (.bool (smallS p m)), A) := by
  rw [k_call (c := C) (f := 7) rfl Tryz.func7 rfl (ok 7 (by kernel_rfl)) rfl Tryz.ntmps7 Tryz.results7 (by simp)]
  have e1 := countBody_of p.body hp.blen hp.body (fun x hx => countBody_in x (hp.body x hx)) m A
  cases h1 : (decide (40 < (p.params.length : Int)) || decide (200 < (p.name.length : Int))) with
  | true => simp (maxSteps := 1000000) +contextual only [go_sem, acondK_bool, acB_merge, Nat.reduceLT, Nat.reduceLeDiff, Nat.reduceEqDiff, Nat.reduceAdd, Nat.reduceSub, Nat.reduceMul, Nat.reduceBEq, Nat.reduceBNe, Nat.reduceBneDiff, Nat.reduceBeqDiff, Int.reduceToNat, Int.reduceLE, Int.reduceLT, Int.reduceEq, Int.reduceNe, Int.reduceNeg, Int.reduceAdd, Int.reduceSub, ↓reduceIte, reduceCtorEq, h1, smallS]
  | false =>
  simp (maxSteps := 1000000) +contextual only [go_sem, acondK_bool, acB_merge, Nat.reduceLT, Nat.reduceLeDiff, Nat.reduceEqDiff, Nat.reduceAdd, Nat.reduceSub, Nat.reduceMul, Nat.reduceBEq, Nat.reduceBNe, Nat.reduceBneDiff, Nat.reduceBeqDiff, Int.reduceToNat, Int.reduceLE, Int.reduceLT, Int.reduceEq, Int.reduceNe, Int.reduceNeg, Int.reduceAdd, Int.reduceSub, ↓reduceIte, reduceCtorEq, h1, smallS]
  refine loop_any (fun pre => [(1, .v (.d (.int .i64 m))), (2, .box [.d (.str p.name), .d (.slice (p.params.map Pm.row)), .d (.slice (p.body.map Stm.row))]), (5, .v (.d (.int .i64 (pre.length : Nat))))])
    (fun _ => A) (fun _ suf => some (.d (.bool (suf.all (fun x => !decide (200 < (x.name.length : Int))) && decide (cntSs p.body 0 m ≤ m))), A)) p.params rfl rfl rfl ?_
  intro pre suf h ih
  have hlen := hp.plen
  generalize p.params = l at *
  have hb : pre.length < 9223372036854775807 := by rw [h] at hlen; simp at hlen; omega
  cases suf with
  | nil => rw [List.append_nil] at h; subst h; simp (maxSteps := 1000000) +contextual only [go_sem, acondK_bool, acB_merge, Nat.reduceLT, Nat.reduceLeDiff, Nat.reduceEqDiff, Nat.reduceAdd, Nat.reduceSub, Nat.reduceMul, Nat.reduceBEq, Nat.reduceBNe, Nat.reduceBneDiff, Nat.reduceBeqDiff, Int.reduceToNat, Int.reduceLE, Int.reduceLT, Int.reduceEq, Int.reduceNe, Int.reduceNeg, Int.reduceAdd, Int.reduceSub, ↓reduceIte, reduceCtorEq, e1]
  | cons x suf =>
    have e2 := ih x suf rfl
    rw [List.length_append, List.length_cons, List.length_nil] at e2
    have e3 : (l.map Pm.row)[pre.length]? = some [.str x.name, .int .i64 x.type] := by rw [h]; exact map_mid
    have e4 : decide ((pre.length : Int) < (l.length : Int)) = true := by rw [h]; simp; omega
    simp (maxSteps := 1000000) +contextual only [go_sem, acondK_bool, acB_merge, Nat.reduceLT, Nat.reduceLeDiff, Nat.reduceEqDiff, Nat.reduceAdd, Nat.reduceSub, Nat.reduceMul, Nat.reduceBEq, Nat.reduceBNe, Nat.reduceBneDiff, Nat.reduceBeqDiff, Int.reduceToNat, Int.reduceLE, Int.reduceLT, Int.reduceEq, Int.reduceNe, Int.reduceNeg, Int.reduceAdd, Int.reduceSub, ↓reduceIte, reduceCtorEq, e3, e4, e2, wrap_nat hb]
    refine leafB ?_
    cases decide (200 < (x.name.length : Int)) <;> simp
end Go.Proofs.YtjmghomnbmbjnaaGreat
