/- Statements: the tests of one statement. -/
import Derived.Test.YtfoibmfocmjmdaaRefWalk
import Derived.Test.YtfoibmfocmjmdaaAst3
set_option linter.all false
set_option linter.unusedVariables false
set_option linter.unusedSimpArgs false
set_option linter.all false
set_option linter.deprecated false
namespace Go.Proofs.Ytfoibmfocmjmdaa
open Go.Abs
attribute [local congr] ite_congr
set_option maxRecDepth 10000
def uN (op : Int) : Bool := decide (op = 1) || decide (op = 2) || decide (op = 6)
def uA (op : Int) : Bool := decide (1 ≤ op) && decide (op ≤ 7)
def uB (op : Int) : Bool := decide (op = 3) || decide (op = 6)
def uM (op : Int) : Bool := decide (op = 6) || decide (op = 8)
def uBo (op : Int) : Bool := decide (op = 5) || decide (op = 6)
def uO (op : Int) : Bool := decide (op = 5)
def kn (op : Int) : Bool := decide (1 ≤ op) && decide (op ≤ 8)
theorem usesOf (op : Int) (A : AHeap) : acl C 74 [.d (.int .i64 op)] A =
    some (.tuple [.agg [.d (.bool (uN op)), .d (.bool (uA op)), .d (.bool (uB op)), .d (.bool (uM op)), .d (.bool (uBo op)), .d (.bool (uO op))], .d (.bool (kn op))], A) := by
  rw [k_call (c := C) (f := 74) rfl Try.func74 rfl (ok 74 (by kernel_rfl)) rfl Try.ntmps74 Try.results74 (by simp)]
  simp (maxSteps := 1000000) only [go_sem, acB_merge, Nat.reduceLT, Nat.reduceLeDiff, Nat.reduceEqDiff, Nat.reduceAdd, Nat.reduceSub, Nat.reduceMul, Nat.reduceBEq, Nat.reduceBNe, Nat.reduceBneDiff, Nat.reduceBeqDiff, Int.reduceToNat, Int.reduceLE, Int.reduceLT, Int.reduceEq, Int.reduceNe, Int.reduceNeg, Int.reduceAdd, Int.reduceSub, ↓reduceIte, reduceCtorEq, List.getElem?_toArray, List.getElem?_cons_zero, List.getElem?_cons_succ, List.length_cons, List.length_nil, List.take_succ_cons, List.take_zero, List.drop_succ_cons, List.drop_zero, List.drop_nil, List.take_nil, List.nil_append, List.cons_append, List.append_nil, List.contains_cons, List.contains_nil, Bool.or_false, Bool.false_or, Bool.or_true, Bool.true_or, Bool.and_true, Bool.true_and, Bool.and_false, Bool.false_and, Bool.not_true, Bool.not_false, Bool.not_not, List.map_cons, List.map_nil, ite_not, not_true_eq_false, not_false_eq_true, Nat.zero_add, Nat.add_zero]
  repeat' (refine wayK (fun h => ?_) (fun h => ?_) <;> (try simp (maxSteps := 1000000) only [go_sem, acB_merge, Nat.reduceLT, Nat.reduceLeDiff, Nat.reduceEqDiff, Nat.reduceAdd, Nat.reduceSub, Nat.reduceMul, Nat.reduceBEq, Nat.reduceBNe, Nat.reduceBneDiff, Nat.reduceBeqDiff, Int.reduceToNat, Int.reduceLE, Int.reduceLT, Int.reduceEq, Int.reduceNe, Int.reduceNeg, Int.reduceAdd, Int.reduceSub, ↓reduceIte, reduceCtorEq, List.getElem?_toArray, List.getElem?_cons_zero, List.getElem?_cons_succ, List.length_cons, List.length_nil, List.take_succ_cons, List.take_zero, List.drop_succ_cons, List.drop_zero, List.drop_nil, List.take_nil, List.nil_append, List.cons_append, List.append_nil, List.contains_cons, List.contains_nil, Bool.or_false, Bool.false_or, Bool.or_true, Bool.true_or, Bool.and_true, Bool.true_and, Bool.and_false, Bool.false_and, Bool.not_true, Bool.not_false, Bool.not_not, List.map_cons, List.map_nil, ite_not, not_true_eq_false, not_false_eq_true, Nat.zero_add, Nat.add_zero, h]))
  all_goals
    simp only [Option.some.injEq, Prod.mk.injEq, AV.tuple.injEq, AV.agg.injEq, List.cons.injEq, AV.d.injEq, Dat.bool.injEq, and_true]
    simp at *
    simp only [uN, uA, uB, uM, uBo, uO, kn]
    first
      | (subst_vars; decide)
      | (refine ⟨⟨?_, ?_, ?_, ?_, ?_, ?_⟩, ?_⟩ <;> simp <;> omega)
/-- ref: max as it says -/
def uM' (op : Int) : Bool := decide (op = 6) || !(decide (1 ≤ op) && decide (op ≤ 7))
theorem usesR (op : Int) (A : AHeap) : acl C 80 [.d (.int .i64 op)] A =
    some (.tuple [.d (.bool (uN op)), .d (.bool (uM' op)), .d (.bool (uA op)), .d (.bool (uB op)), .d (.bool (uBo op)), .d (.bool (uO op))], A) := by
  rw [k_call (c := C) (f := 80) rfl Try.func80 rfl (ok 80 (by kernel_rfl)) rfl Try.ntmps80 Try.results80 (by simp)]
  simp (maxSteps := 1000000) only [go_sem, acB_merge, Nat.reduceLT, Nat.reduceLeDiff, Nat.reduceEqDiff, Nat.reduceAdd, Nat.reduceSub, Nat.reduceMul, Nat.reduceBEq, Nat.reduceBNe, Nat.reduceBneDiff, Nat.reduceBeqDiff, Int.reduceToNat, Int.reduceLE, Int.reduceLT, Int.reduceEq, Int.reduceNe, Int.reduceNeg, Int.reduceAdd, Int.reduceSub, ↓reduceIte, reduceCtorEq, List.getElem?_toArray, List.getElem?_cons_zero, List.getElem?_cons_succ, List.length_cons, List.length_nil, List.take_succ_cons, List.take_zero, List.drop_succ_cons, List.drop_zero, List.drop_nil, List.take_nil, List.nil_append, List.cons_append, List.append_nil, List.contains_cons, List.contains_nil, Bool.or_false, Bool.false_or, Bool.or_true, Bool.true_or, Bool.and_true, Bool.true_and, Bool.and_false, Bool.false_and, Bool.not_true, Bool.not_false, Bool.not_not, List.map_cons, List.map_nil, ite_not, not_true_eq_false, not_false_eq_true, Nat.zero_add, Nat.add_zero]
  repeat' (refine wayK (fun h => ?_) (fun h => ?_) <;> (try simp (maxSteps := 1000000) only [go_sem, acB_merge, Nat.reduceLT, Nat.reduceLeDiff, Nat.reduceEqDiff, Nat.reduceAdd, Nat.reduceSub, Nat.reduceMul, Nat.reduceBEq, Nat.reduceBNe, Nat.reduceBneDiff, Nat.reduceBeqDiff, Int.reduceToNat, Int.reduceLE, Int.reduceLT, Int.reduceEq, Int.reduceNe, Int.reduceNeg, Int.reduceAdd, Int.reduceSub, ↓reduceIte, reduceCtorEq, List.getElem?_toArray, List.getElem?_cons_zero, List.getElem?_cons_succ, List.length_cons, List.length_nil, List.take_succ_cons, List.take_zero, List.drop_succ_cons, List.drop_zero, List.drop_nil, List.take_nil, List.nil_append, List.cons_append, List.append_nil, List.contains_cons, List.contains_nil, Bool.or_false, Bool.false_or, Bool.or_true, Bool.true_or, Bool.and_true, Bool.true_and, Bool.and_false, Bool.false_and, Bool.not_true, Bool.not_false, Bool.not_not, List.map_cons, List.map_nil, ite_not, not_true_eq_false, not_false_eq_true, Nat.zero_add, Nat.add_zero, h]))
  all_goals
    simp only [Option.some.injEq, Prod.mk.injEq, AV.tuple.injEq, AV.agg.injEq, List.cons.injEq, AV.d.injEq, Dat.bool.injEq, and_true]
    simp at *
    simp only [uN, uA, uB, uM', uBo, uO, kn]
    first
      | (subst_vars; decide)
      | (refine ⟨?_, ?_, ?_, ?_, ?_, ?_⟩ <;> simp <;> omega)
/-- a field that the operator does not use is set -/
def badF (n a b m bo o : Bool) (x : Stm) : Bool :=
  !n && !(x.name == []) || !a && !absE x.a || !b && !absE x.b || !m && !decide (x.max = 0) || !bo && decide (0 < (x.body.length : Int)) || !o && decide (0 < (x.els.length : Int))
def maxOk (x : Stm) : Bool := if decide (x.op = 6) = true then decide (1 ≤ x.max) && decide (x.max ≤ 16) else if decide (x.op = 8) = true then decide (0 ≤ x.max) && decide (x.max ≤ 999) else true
theorem shape (x : Stm) (n a b m bo o : Bool) (A : AHeap) : acl C 75 [Stm.av x, .agg [.d (.bool n), .d (.bool a), .d (.bool b), .d (.bool m), .d (.bool bo), .d (.bool o)]] A = some (.d (.bool (!badF n a b m bo o x && maxOk x)), A) := by
  rw [k_call (c := C) (f := 75) rfl Try.func75 rfl (ok 75 (by kernel_rfl)) rfl Try.ntmps75 Try.results75 (by simp)]
  simp (maxSteps := 1000000) only [go_sem, acondK_bool, acB_merge, Nat.reduceLT, Nat.reduceLeDiff, Nat.reduceEqDiff, Nat.reduceAdd, Nat.reduceSub, Nat.reduceMul, Nat.reduceBEq, Nat.reduceBNe, Nat.reduceBneDiff, Nat.reduceBeqDiff, Int.reduceToNat, Int.reduceLE, Int.reduceLT, Int.reduceEq, Int.reduceNe, Int.reduceNeg, Int.reduceAdd, Int.reduceSub, ↓reduceIte, reduceCtorEq, List.getElem?_toArray, List.getElem?_cons_zero, List.getElem?_cons_succ, List.length_cons, List.length_nil, List.take_succ_cons, List.take_zero, List.drop_succ_cons, List.drop_zero, List.drop_nil, List.take_nil, List.nil_append, List.cons_append, List.append_nil, List.contains_cons, List.contains_nil, Bool.or_false, Bool.false_or, Bool.or_true, Bool.true_or, Bool.and_true, Bool.true_and, Bool.and_false, Bool.false_and, Bool.not_true, Bool.not_false, Bool.not_not, List.map_cons, List.map_nil, ite_not, not_true_eq_false, not_false_eq_true, Nat.zero_add, Nat.add_zero, badF, maxOk, absE, ifnot]
/-- the error of one statement at a depth -/
def stmtS (x : Stm) (d : Int) : Int :=
  if (!kn x.op || !(!badF (uN x.op) (uA x.op) (uB x.op) (uM x.op) (uBo x.op) (uO x.op) x && maxOk x)) = true then 1
  else if (uN x.op && !isName x.name) = true then 7
  else if (uA x.op && !decide (chkE x.a 1 = 0)) = true then chkE x.a 1
  else if (uB x.op && !decide (chkE x.b 1 = 0)) = true then chkE x.b 1
  else if 12 < d then 2 else 0
theorem Stm.Ok.name {x : Stm} (h : x.Ok) : x.name.length ≤ 1099511627776 := by cases h; assumption
theorem statement (x : Stm) (hx : x.Ok) (d : Int) (A : AHeap) : acl C 44 [Stm.av x, .d (.int .i64 d)] A = some (.d (.int .i64 (stmtS x d)), A) := by
  rw [k_call (c := C) (f := 44) rfl Try.func44 rfl (ok 44 (by kernel_rfl)) rfl Try.ntmps44 Try.results44 (by simp)]
  have h1 := Stm.Ok.name hx
  simp (maxSteps := 1000000) only [go_sem, acondK_bool, acB_merge, Nat.reduceLT, Nat.reduceLeDiff, Nat.reduceEqDiff, Nat.reduceAdd, Nat.reduceSub, Nat.reduceMul, Nat.reduceBEq, Nat.reduceBNe, Nat.reduceBneDiff, Nat.reduceBeqDiff, Int.reduceToNat, Int.reduceLE, Int.reduceLT, Int.reduceEq, Int.reduceNe, Int.reduceNeg, Int.reduceAdd, Int.reduceSub, ↓reduceIte, reduceCtorEq, List.getElem?_toArray, List.getElem?_cons_zero, List.getElem?_cons_succ, List.length_cons, List.length_nil, List.take_succ_cons, List.take_zero, List.drop_succ_cons, List.drop_zero, List.drop_nil, List.take_nil, List.nil_append, List.cons_append, List.append_nil, List.contains_cons, List.contains_nil, Bool.or_false, Bool.false_or, Bool.or_true, Bool.true_or, Bool.and_true, Bool.true_and, Bool.and_false, Bool.false_and, Bool.not_true, Bool.not_false, Bool.not_not, List.map_cons, List.map_nil, ite_not, not_true_eq_false, not_false_eq_true, Nat.zero_add, Nat.add_zero, usesOf, shape, h1, validExpr x.a (Stm.Ok.a hx), validExpr x.b (Stm.Ok.b hx)]
  refine leafI ?_
  simp only [stmtS]
  generalize (!badF (uN x.op) (uA x.op) (uB x.op) (uM x.op) (uBo x.op) (uO x.op) x && maxOk x) = p
  cases kn x.op <;> cases p <;> cases uA x.op <;> cases uB x.op <;> simp
theorem stmtR (x : Stm) (hx : x.Ok) (d : Int) (A : AHeap) : acl C 49 [Stm.av x, .d (.int .i64 d)] A = some (.d (.int .i64 (stmtS x d)), A) := by
  rw [k_call (c := C) (f := 49) rfl Try.func49 rfl (ok 49 (by kernel_rfl)) rfl Try.ntmps49 Try.results49 (by simp)]
  have h1 := Stm.Ok.name hx
  simp (maxSteps := 1000000) only [go_sem, acondK_bool, acB_merge, Nat.reduceLT, Nat.reduceLeDiff, Nat.reduceEqDiff, Nat.reduceAdd, Nat.reduceSub, Nat.reduceMul, Nat.reduceBEq, Nat.reduceBNe, Nat.reduceBneDiff, Nat.reduceBeqDiff, Int.reduceToNat, Int.reduceLE, Int.reduceLT, Int.reduceEq, Int.reduceNe, Int.reduceNeg, Int.reduceAdd, Int.reduceSub, ↓reduceIte, reduceCtorEq, List.getElem?_toArray, List.getElem?_cons_zero, List.getElem?_cons_succ, List.length_cons, List.length_nil, List.take_succ_cons, List.take_zero, List.drop_succ_cons, List.drop_zero, List.drop_nil, List.take_nil, List.nil_append, List.cons_append, List.append_nil, List.contains_cons, List.contains_nil, Bool.or_false, Bool.false_or, Bool.or_true, Bool.true_or, Bool.and_true, Bool.true_and, Bool.and_false, Bool.false_and, Bool.not_true, Bool.not_false, Bool.not_not, List.map_cons, List.map_nil, ite_not, not_true_eq_false, not_false_eq_true, Nat.zero_add, Nat.add_zero, usesR, h1, validExprR x.a (Stm.Ok.a hx), validExprR x.b (Stm.Ok.b hx)]
  refine leafI ?_
  have e1 : (decide (x.op < 1) || decide (8 < x.op)) = !kn x.op := by
    rw [Bool.eq_iff_iff]; simp [kn]
    try omega
  have e2 : kn x.op = true → uM' x.op = uM x.op := by
    intro h
    simp [kn] at h
    rw [Bool.eq_iff_iff]; simp [uM, uM']; omega
  have e3 : (decide (x.op = 6) && (decide (x.max < 1) || decide (16 < x.max)) || decide (x.op = 8) && (decide (x.max < 0) || decide (999 < x.max))) = !maxOk x := by
    unfold maxOk
    by_cases h6 : x.op = 6
    · rw [h6, Bool.eq_iff_iff]; simp <;> omega
    · by_cases h8 : x.op = 8
      · rw [h8, Bool.eq_iff_iff]; simp <;> omega
      · simp [h6, h8]
  rw [e1, e3]
  simp only [stmtS, badF, absE, ifnot]
  cases hk : kn x.op
  · simp
  · rw [e2 hk]
    clear e1 e2 e3
    cases uN x.op <;> cases uA x.op <;> cases uB x.op <;> cases uM x.op <;> cases uBo x.op <;> cases uO x.op <;> cases maxOk x <;>
      simp only [Bool.not_true, Bool.not_false, Bool.true_and, Bool.false_and, Bool.true_or, Bool.false_or, Bool.or_false, Bool.and_true, Bool.and_false, if_true, if_false, Bool.false_eq_true, Bool.not_not, ite_self] <;> grind
end Go.Proofs.Ytfoibmfocmjmdaa
