/- ast.Arity and the reference's Arity: both count the operands. -/
import Derived.Test.YtfoibmfocmjmdaaFacts
set_option linter.unusedVariables false
set_option linter.unusedSimpArgs false
set_option linter.all false
set_option linter.deprecated false
namespace Go.Proofs.Ytfoibmfocmjmdaa
open Go.Abs
attribute [local congr] ite_congr
/-- how many operands -/
def ar (n : Int) : Int := if n < 1 ∨ 27 < n then -1 else if n ≤ 3 ∨ 25 ≤ n then 0 else if n = 9 ∨ n = 18 ∨ 20 ≤ n then 1 else 2
theorem leaf {A : AHeap} {a b : Int} (h : a = b) : some (AV.d (.int .i64 a), A) = some (AV.d (.int .i64 b), A) := by rw [h]
set_option maxRecDepth 100000 in
@[go_sem] theorem arity (n : Int) (A : AHeap) : acl C 11 [.d (.int .i64 n)] A = some (.d (.int .i64 (ar n)), A) := by
  rw [k_call (c := C) (f := 11) rfl Try.func11 rfl (ok 11 (by kernel_rfl)) rfl Try.ntmps11 Try.results11 (by simp)]
  simp (maxSteps := 1000000) +contextual only [go_sem, acondK_bool, Nat.reduceLT, Nat.reduceLeDiff, Nat.reduceEqDiff, Nat.reduceAdd, Nat.reduceSub, Nat.reduceMul, Nat.reduceBEq, Nat.reduceBNe, Nat.reduceBneDiff, Nat.reduceBeqDiff, Int.reduceToNat, Int.reduceLE, Int.reduceLT, Int.reduceEq, Int.reduceNe, Int.reduceNeg, Int.reduceAdd, Int.reduceSub, ↓reduceIte, reduceCtorEq, List.getElem?_toArray, List.getElem?_cons_zero, List.getElem?_cons_succ, List.length_cons, List.length_nil, List.take_succ_cons, List.take_zero, List.drop_succ_cons, List.drop_zero, List.drop_nil, List.take_nil, List.nil_append, List.cons_append, List.append_nil, List.contains_cons, List.contains_nil, Bool.or_false, Bool.false_or, Bool.or_true, Bool.true_or, Bool.and_true, Bool.true_and, Bool.and_false, Bool.false_and, Bool.not_true, Bool.not_false, Bool.not_not, List.map_cons, List.map_nil, ite_not, not_true_eq_false, not_false_eq_true, Nat.zero_add, Nat.add_zero]
  repeat' (refine way (fun h => ?_) (fun h => ?_))
  all_goals
    refine leaf ?_
    simp at *
    unfold ar
    repeat' split
    all_goals omega
set_option maxRecDepth 100000 in
@[go_sem] theorem arityR (n : Int) (A : AHeap) : acl C 12 [.d (.int .i64 n)] A = some (.d (.int .i64 (ar n)), A) := by
  rw [k_call (c := C) (f := 12) rfl Try.func12 rfl (ok 12 (by kernel_rfl)) rfl Try.ntmps12 Try.results12 (by simp)]
  simp (maxSteps := 1000000) only [go_sem, acB_merge, Nat.reduceLT, Nat.reduceLeDiff, Nat.reduceEqDiff, Nat.reduceAdd, Nat.reduceSub, Nat.reduceMul, Nat.reduceBEq, Nat.reduceBNe, Nat.reduceBneDiff, Nat.reduceBeqDiff, Int.reduceToNat, Int.reduceLE, Int.reduceLT, Int.reduceEq, Int.reduceNe, Int.reduceNeg, Int.reduceAdd, Int.reduceSub, ↓reduceIte, reduceCtorEq, List.getElem?_toArray, List.getElem?_cons_zero, List.getElem?_cons_succ, List.length_cons, List.length_nil, List.take_succ_cons, List.take_zero, List.drop_succ_cons, List.drop_zero, List.drop_nil, List.take_nil, List.nil_append, List.cons_append, List.append_nil, List.contains_cons, List.contains_nil, Bool.or_false, Bool.false_or, Bool.or_true, Bool.true_or, Bool.and_true, Bool.true_and, Bool.and_false, Bool.false_and, Bool.not_true, Bool.not_false, Bool.not_not, List.map_cons, List.map_nil, ite_not, not_true_eq_false, not_false_eq_true, Nat.zero_add, Nat.add_zero]
  repeat' (refine wayK (fun h => ?_) (fun h => ?_) <;> (try simp (maxSteps := 1000000) only [go_sem, acB_merge, Nat.reduceLT, Nat.reduceLeDiff, Nat.reduceEqDiff, Nat.reduceAdd, Nat.reduceSub, Nat.reduceMul, Nat.reduceBEq, Nat.reduceBNe, Nat.reduceBneDiff, Nat.reduceBeqDiff, Int.reduceToNat, Int.reduceLE, Int.reduceLT, Int.reduceEq, Int.reduceNe, Int.reduceNeg, Int.reduceAdd, Int.reduceSub, ↓reduceIte, reduceCtorEq, List.getElem?_toArray, List.getElem?_cons_zero, List.getElem?_cons_succ, List.length_cons, List.length_nil, List.take_succ_cons, List.take_zero, List.drop_succ_cons, List.drop_zero, List.drop_nil, List.take_nil, List.nil_append, List.cons_append, List.append_nil, List.contains_cons, List.contains_nil, Bool.or_false, Bool.false_or, Bool.or_true, Bool.true_or, Bool.and_true, Bool.true_and, Bool.and_false, Bool.false_and, Bool.not_true, Bool.not_false, Bool.not_not, List.map_cons, List.map_nil, ite_not, not_true_eq_false, not_false_eq_true, Nat.zero_add, Nat.add_zero, h]))
  all_goals
    refine leaf ?_
    simp at *
    unfold ar
    repeat' split
    all_goals omega
end Go.Proofs.Ytfoibmfocmjmdaa
