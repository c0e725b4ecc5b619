/- Expressions: the tests of one node. -/
import Derived.Test.YtfoibmfocmjmdaaFacts
import Derived.Test.YtfoibmfocmjmdaaTrees
import Derived.Test.YtfoibmfocmjmdaaLex1
import Derived.Test.YtfoibmfocmjmdaaArity
set_option linter.all false
set_option linter.unusedVariables false
set_option linter.unusedSimpArgs false
set_option linter.all false
set_option linter.deprecated false
namespace Go.Proofs.Ytfoibmfocmjmdaa
open Go.Abs
attribute [local congr] ite_congr
set_option maxRecDepth 10000
theorem ifnot {b x : Bool} : (if b = true then false else x) = (!b && x) := by cases b <;> rfl
/-- the cells of an expression -/
abbrev eV (op n : Int) (s : Bytes) (args : List (List Dat)) : AV := .agg [.d (.int .i64 op), .d (.int .i64 n), .d (.str s), .d (.slice args)]
def absentS (op n : Int) (s : Bytes) (len : Nat) : Bool := decide (op = 0) && decide (n = 0) && (s == []) && decide ((len : Int) = 0)
@[go_sem] theorem absent (op n : Int) (s : Bytes) (args : List (List Dat)) (A : AHeap) : acl C 93 [eV op n s args] A = some (.d (.bool (absentS op n s args.length)), A) := by
  rw [k_call (c := C) (f := 93) rfl Try.func93 rfl (ok 93 (by kernel_rfl)) rfl Try.ntmps93 Try.results93 (by simp)]
  simp (maxSteps := 1000000) +contextual only [go_sem, acondK_bool, acB_merge, Nat.reduceLT, Nat.reduceLeDiff, Nat.reduceEqDiff, Nat.reduceAdd, Nat.reduceSub, Nat.reduceMul, Nat.reduceBEq, Nat.reduceBNe, Nat.reduceBneDiff, Nat.reduceBeqDiff, Int.reduceToNat, Int.reduceLE, Int.reduceLT, Int.reduceEq, Int.reduceNe, Int.reduceNeg, Int.reduceAdd, Int.reduceSub, ↓reduceIte, reduceCtorEq, List.getElem?_toArray, List.getElem?_cons_zero, List.getElem?_cons_succ, List.length_cons, List.length_nil, List.take_succ_cons, List.take_zero, List.drop_succ_cons, List.drop_zero, List.drop_nil, List.take_nil, List.nil_append, List.cons_append, List.append_nil, List.contains_cons, List.contains_nil, Bool.or_false, Bool.false_or, Bool.or_true, Bool.true_or, Bool.and_true, Bool.true_and, Bool.and_false, Bool.false_and, Bool.not_true, Bool.not_false, Bool.not_not, List.map_cons, List.map_nil, ite_not, not_true_eq_false, not_false_eq_true, Nat.zero_add, Nat.add_zero, absentS]
@[go_sem] theorem absentR (op n : Int) (s : Bytes) (args : List (List Dat)) (A : AHeap) : acl C 81 [eV op n s args] A = some (.d (.bool (absentS op n s args.length)), A) := by
  rw [k_call (c := C) (f := 81) rfl Try.func81 rfl (ok 81 (by kernel_rfl)) rfl Try.ntmps81 Try.results81 (by simp)]
  simp (maxSteps := 1000000) +contextual only [go_sem, acondK_bool, acB_merge, Nat.reduceLT, Nat.reduceLeDiff, Nat.reduceEqDiff, Nat.reduceAdd, Nat.reduceSub, Nat.reduceMul, Nat.reduceBEq, Nat.reduceBNe, Nat.reduceBneDiff, Nat.reduceBeqDiff, Int.reduceToNat, Int.reduceLE, Int.reduceLT, Int.reduceEq, Int.reduceNe, Int.reduceNeg, Int.reduceAdd, Int.reduceSub, ↓reduceIte, reduceCtorEq, List.getElem?_toArray, List.getElem?_cons_zero, List.getElem?_cons_succ, List.length_cons, List.length_nil, List.take_succ_cons, List.take_zero, List.drop_succ_cons, List.drop_zero, List.drop_nil, List.take_nil, List.nil_append, List.cons_append, List.append_nil, List.contains_cons, List.contains_nil, Bool.or_false, Bool.false_or, Bool.or_true, Bool.true_or, Bool.and_true, Bool.true_and, Bool.and_false, Bool.false_and, Bool.not_true, Bool.not_false, Bool.not_not, List.map_cons, List.map_nil, ite_not, not_true_eq_false, not_false_eq_true, Nat.zero_add, Nat.add_zero, absentS]
def inner (b : UInt8) : Bool := !(decide ((b.toNat : Int) < 32) || decide (126 < (b.toNat : Int)))
def plainS (s : Bytes) : Bool := s.all inner && decide ((s.length : Int) ≤ 64)
@[go_sem] theorem plain (s : Bytes) (A : AHeap) (hl : s.length ≤ 1099511627776) : acl C 89 [.d (.str s)] A = some (.d (.bool (plainS s)), A) := by
  rw [k_call (c := C) (f := 89) rfl Try.func89 rfl (ok 89 (by kernel_rfl)) rfl Try.ntmps89 Try.results89 (by simp)]
  simp (maxSteps := 1000000) +contextual only [go_sem, acondK_bool, acB_merge, Nat.reduceLT, Nat.reduceLeDiff, Nat.reduceEqDiff, Nat.reduceAdd, Nat.reduceSub, Nat.reduceMul, Nat.reduceBEq, Nat.reduceBNe, Nat.reduceBneDiff, Nat.reduceBeqDiff, Int.reduceToNat, Int.reduceLE, Int.reduceLT, Int.reduceEq, Int.reduceNe, Int.reduceNeg, Int.reduceAdd, Int.reduceSub, ↓reduceIte, reduceCtorEq, List.getElem?_toArray, List.getElem?_cons_zero, List.getElem?_cons_succ, List.length_cons, List.length_nil, List.take_succ_cons, List.take_zero, List.drop_succ_cons, List.drop_zero, List.drop_nil, List.take_nil, List.nil_append, List.cons_append, List.append_nil, List.contains_cons, List.contains_nil, Bool.or_false, Bool.false_or, Bool.or_true, Bool.true_or, Bool.and_true, Bool.true_and, Bool.and_false, Bool.false_and, Bool.not_true, Bool.not_false, Bool.not_not, List.map_cons, List.map_nil, ite_not, not_true_eq_false, not_false_eq_true, Nat.zero_add, Nat.add_zero]
  refine loop_list (fun n => [(0, .v (.d (.str s))), (3, .v (.d (.int .i64 (n : Int))))]) (fun pre suf => some (.d (.bool (suf.all inner && decide ((s.length : Int) ≤ 64))), A)) s rfl (by simp [plainS]) ?_
  intro pre suf h ih
  subst h
  have hb : pre.length < 9223372036854775807 := by simp at hl; omega
  cases suf with
  | nil => simp (maxSteps := 1000000) +contextual only [go_sem, acondK_bool, acB_merge, Nat.reduceLT, Nat.reduceLeDiff, Nat.reduceEqDiff, Nat.reduceAdd, Nat.reduceSub, Nat.reduceMul, Nat.reduceBEq, Nat.reduceBNe, Nat.reduceBneDiff, Nat.reduceBeqDiff, Int.reduceToNat, Int.reduceLE, Int.reduceLT, Int.reduceEq, Int.reduceNe, Int.reduceNeg, Int.reduceAdd, Int.reduceSub, ↓reduceIte, reduceCtorEq, List.getElem?_toArray, List.getElem?_cons_zero, List.getElem?_cons_succ, List.length_cons, List.length_nil, List.take_succ_cons, List.take_zero, List.drop_succ_cons, List.drop_zero, List.drop_nil, List.take_nil, List.nil_append, List.cons_append, List.append_nil, List.contains_cons, List.contains_nil, Bool.or_false, Bool.false_or, Bool.or_true, Bool.true_or, Bool.and_true, Bool.true_and, Bool.and_false, Bool.false_and, Bool.not_true, Bool.not_false, Bool.not_not, List.map_cons, List.map_nil, ite_not, not_true_eq_false, not_false_eq_true, Nat.zero_add, Nat.add_zero]
  | cons x suf =>
    simp (maxSteps := 1000000) +contextual only [go_sem, acondK_bool, acB_merge, Nat.reduceLT, Nat.reduceLeDiff, Nat.reduceEqDiff, Nat.reduceAdd, Nat.reduceSub, Nat.reduceMul, Nat.reduceBEq, Nat.reduceBNe, Nat.reduceBneDiff, Nat.reduceBeqDiff, Int.reduceToNat, Int.reduceLE, Int.reduceLT, Int.reduceEq, Int.reduceNe, Int.reduceNeg, Int.reduceAdd, Int.reduceSub, ↓reduceIte, reduceCtorEq, List.getElem?_toArray, List.getElem?_cons_zero, List.getElem?_cons_succ, List.length_cons, List.length_nil, List.take_succ_cons, List.take_zero, List.drop_succ_cons, List.drop_zero, List.drop_nil, List.take_nil, List.nil_append, List.cons_append, List.append_nil, List.contains_cons, List.contains_nil, Bool.or_false, Bool.false_or, Bool.or_true, Bool.true_or, Bool.and_true, Bool.true_and, Bool.and_false, Bool.false_and, Bool.not_true, Bool.not_false, Bool.not_not, List.map_cons, List.map_nil, ite_not, not_true_eq_false, not_false_eq_true, Nat.zero_add, Nat.add_zero, ih x suf rfl, wrap_nat hb]
    refine leafB ?_
    cases hx : inner x <;> simp [hx] <;> simp [inner] at hx <;> omega
@[go_sem] theorem plainR (s : Bytes) (A : AHeap) (hl : s.length ≤ 1099511627776) : acl C 90 [.d (.str s)] A = some (.d (.bool (plainS s)), A) := by
  rw [k_call (c := C) (f := 90) rfl Try.func90 rfl (ok 90 (by kernel_rfl)) rfl Try.ntmps90 Try.results90 (by simp)]
  simp (maxSteps := 1000000) +contextual only [go_sem, acondK_bool, acB_merge, Nat.reduceLT, Nat.reduceLeDiff, Nat.reduceEqDiff, Nat.reduceAdd, Nat.reduceSub, Nat.reduceMul, Nat.reduceBEq, Nat.reduceBNe, Nat.reduceBneDiff, Nat.reduceBeqDiff, Int.reduceToNat, Int.reduceLE, Int.reduceLT, Int.reduceEq, Int.reduceNe, Int.reduceNeg, Int.reduceAdd, Int.reduceSub, ↓reduceIte, reduceCtorEq, List.getElem?_toArray, List.getElem?_cons_zero, List.getElem?_cons_succ, List.length_cons, List.length_nil, List.take_succ_cons, List.take_zero, List.drop_succ_cons, List.drop_zero, List.drop_nil, List.take_nil, List.nil_append, List.cons_append, List.append_nil, List.contains_cons, List.contains_nil, Bool.or_false, Bool.false_or, Bool.or_true, Bool.true_or, Bool.and_true, Bool.true_and, Bool.and_false, Bool.false_and, Bool.not_true, Bool.not_false, Bool.not_not, List.map_cons, List.map_nil, ite_not, not_true_eq_false, not_false_eq_true, Nat.zero_add, Nat.add_zero]
  refine way (fun h => ?_) (fun h => ?_)
  · refine leafB ?_
    simp [plainS] at h ⊢
    intro _
    omega
  refine loop_list (fun n => [(0, .v (.d (.str s))), (3, .v (.d (.int .i64 (n : Int))))]) (fun pre suf => some (.d (.bool (suf.all inner)), A)) s rfl ?_ ?_
  · refine leafB ?_
    simp [plainS] at h ⊢
    intro _
    omega
  intro pre suf h ih
  subst h
  have hb : pre.length < 9223372036854775807 := by simp at hl; omega
  cases suf with
  | nil => simp (maxSteps := 1000000) +contextual only [go_sem, acondK_bool, acB_merge, Nat.reduceLT, Nat.reduceLeDiff, Nat.reduceEqDiff, Nat.reduceAdd, Nat.reduceSub, Nat.reduceMul, Nat.reduceBEq, Nat.reduceBNe, Nat.reduceBneDiff, Nat.reduceBeqDiff, Int.reduceToNat, Int.reduceLE, Int.reduceLT, Int.reduceEq, Int.reduceNe, Int.reduceNeg, Int.reduceAdd, Int.reduceSub, ↓reduceIte, reduceCtorEq, List.getElem?_toArray, List.getElem?_cons_zero, List.getElem?_cons_succ, List.length_cons, List.length_nil, List.take_succ_cons, List.take_zero, List.drop_succ_cons, List.drop_zero, List.drop_nil, List.take_nil, List.nil_append, List.cons_append, List.append_nil, List.contains_cons, List.contains_nil, Bool.or_false, Bool.false_or, Bool.or_true, Bool.true_or, Bool.and_true, Bool.true_and, Bool.and_false, Bool.false_and, Bool.not_true, Bool.not_false, Bool.not_not, List.map_cons, List.map_nil, ite_not, not_true_eq_false, not_false_eq_true, Nat.zero_add, Nat.add_zero]
  | cons x suf =>
    simp (maxSteps := 1000000) +contextual only [go_sem, acondK_bool, acB_merge, Nat.reduceLT, Nat.reduceLeDiff, Nat.reduceEqDiff, Nat.reduceAdd, Nat.reduceSub, Nat.reduceMul, Nat.reduceBEq, Nat.reduceBNe, Nat.reduceBneDiff, Nat.reduceBeqDiff, Int.reduceToNat, Int.reduceLE, Int.reduceLT, Int.reduceEq, Int.reduceNe, Int.reduceNeg, Int.reduceAdd, Int.reduceSub, ↓reduceIte, reduceCtorEq, List.getElem?_toArray, List.getElem?_cons_zero, List.getElem?_cons_succ, List.length_cons, List.length_nil, List.take_succ_cons, List.take_zero, List.drop_succ_cons, List.drop_zero, List.drop_nil, List.take_nil, List.nil_append, List.cons_append, List.append_nil, List.contains_cons, List.contains_nil, Bool.or_false, Bool.false_or, Bool.or_true, Bool.true_or, Bool.and_true, Bool.true_and, Bool.and_false, Bool.false_and, Bool.not_true, Bool.not_false, Bool.not_not, List.map_cons, List.map_nil, ite_not, not_true_eq_false, not_false_eq_true, Nat.zero_add, Nat.add_zero, ih x suf rfl, wrap_nat hb]
    refine leafB ?_
    cases hx : inner x <;> simp [hx] <;> simp [inner] at hx <;> omega
def nodeS (op n : Int) (s : Bytes) (len : Nat) (depth : Int) : Int :=
  if (decide (ar op < 0) || !decide (op = 1) && !decide (n = 0) || !decide (op = 2) && !decide (op = 3) && !(s == [])) = true then 1
  else if (decide (op = 3) && !isName s) = true then 7
  else if (decide (op = 1) && decide (n < 0) || decide (op = 2) && !plainS s || !decide ((len : Int) = ar op)) = true then 1
  else if 12 < depth then 2 else 0
@[go_sem] theorem node (op n depth : Int) (s : Bytes) (args : List (List Dat)) (A : AHeap) (hl : s.length ≤ 1099511627776) : acl C 66 [eV op n s args, .d (.int .i64 depth)] A = some (.d (.int .i64 (nodeS op n s args.length depth)), A) := by
  rw [k_call (c := C) (f := 66) rfl Try.func66 rfl (ok 66 (by kernel_rfl)) rfl Try.ntmps66 Try.results66 (by simp)]
  simp (maxSteps := 1000000) +contextual only [go_sem, acondK_bool, acB_merge, Nat.reduceLT, Nat.reduceLeDiff, Nat.reduceEqDiff, Nat.reduceAdd, Nat.reduceSub, Nat.reduceMul, Nat.reduceBEq, Nat.reduceBNe, Nat.reduceBneDiff, Nat.reduceBeqDiff, Int.reduceToNat, Int.reduceLE, Int.reduceLT, Int.reduceEq, Int.reduceNe, Int.reduceNeg, Int.reduceAdd, Int.reduceSub, ↓reduceIte, reduceCtorEq, List.getElem?_toArray, List.getElem?_cons_zero, List.getElem?_cons_succ, List.length_cons, List.length_nil, List.take_succ_cons, List.take_zero, List.drop_succ_cons, List.drop_zero, List.drop_nil, List.take_nil, List.nil_append, List.cons_append, List.append_nil, List.contains_cons, List.contains_nil, Bool.or_false, Bool.false_or, Bool.or_true, Bool.true_or, Bool.and_true, Bool.true_and, Bool.and_false, Bool.false_and, Bool.not_true, Bool.not_false, Bool.not_not, List.map_cons, List.map_nil, ite_not, not_true_eq_false, not_false_eq_true, Nat.zero_add, Nat.add_zero, hl]
  refine leafI ?_
  simp only [nodeS, ifnot]
  split <;> rename_i h1
  · rfl
  split <;> rename_i h2
  · rfl
  split <;> rename_i h3
  · rfl
  simp
@[go_sem] theorem nodeR (op n depth : Int) (s : Bytes) (args : List (List Dat)) (A : AHeap) (hl : s.length ≤ 1099511627776) : acl C 67 [eV op n s args, .d (.int .i64 depth)] A = some (.d (.int .i64 (nodeS op n s args.length depth)), A) := by
  rw [k_call (c := C) (f := 67) rfl Try.func67 rfl (ok 67 (by kernel_rfl)) rfl Try.ntmps67 Try.results67 (by simp)]
  simp (maxSteps := 1000000) +contextual only [go_sem, acondK_bool, acB_merge, Nat.reduceLT, Nat.reduceLeDiff, Nat.reduceEqDiff, Nat.reduceAdd, Nat.reduceSub, Nat.reduceMul, Nat.reduceBEq, Nat.reduceBNe, Nat.reduceBneDiff, Nat.reduceBeqDiff, Int.reduceToNat, Int.reduceLE, Int.reduceLT, Int.reduceEq, Int.reduceNe, Int.reduceNeg, Int.reduceAdd, Int.reduceSub, ↓reduceIte, reduceCtorEq, List.getElem?_toArray, List.getElem?_cons_zero, List.getElem?_cons_succ, List.length_cons, List.length_nil, List.take_succ_cons, List.take_zero, List.drop_succ_cons, List.drop_zero, List.drop_nil, List.take_nil, List.nil_append, List.cons_append, List.append_nil, List.contains_cons, List.contains_nil, Bool.or_false, Bool.false_or, Bool.or_true, Bool.true_or, Bool.and_true, Bool.true_and, Bool.and_false, Bool.false_and, Bool.not_true, Bool.not_false, Bool.not_not, List.map_cons, List.map_nil, ite_not, not_true_eq_false, not_false_eq_true, Nat.zero_add, Nat.add_zero, hl, k_drawn_q]
  refine leafI ?_
  simp only [nodeS, ifnot]
  split <;> rename_i h1
  · rfl
  split <;> rename_i h2
  · rfl
  have h4 : (decide (n < 0) || decide (op = 2) && !plainS s || !decide ((args.length : Int) = ar op)) = (decide (op = 1) && decide (n < 0) || decide (op = 2) && !plainS s || !decide ((args.length : Int) = ar op)) := by
    congr 2
    simp at h1 ⊢
    omega
  rw [h4]
  split <;> rename_i h3
  · rfl
  simp
end Go.Proofs.Ytfoibmfocmjmdaa
