/- A procedure that passes the check uses what it has declared: the walks and the plain part. -/
import Derived.Test.YthjmecciefihmaaSeatI
set_option linter.unusedVariables false
set_option linter.unusedSimpArgs false
set_option linter.all false
set_option linter.deprecated false
set_option linter.all false
namespace Go.Proofs.Ythjmecciefihmaa
open Go.Abs
attribute [local congr] ite_congr
set_option maxRecDepth 10000
def hasS (l : List Bytes) (w : Bytes) : Bool := l.any fun s => s == w
theorem hasL (l : List Bytes) (hl : l.length ≤ 1099511627776) (w : Bytes) (A : AHeap) : acl C 25 [.d (.slice (l.map sRow)), .d (.str w)] A = some (.d (.bool (hasS l w)), A) := by
  rw [k_call (c := C) (f := 25) rfl Try.func25 rfl (ok 25 (by kernel_rfl)) rfl Try.ntmps25 Try.results25 (by simp)]
  unfold hasS
  simp (maxSteps := 1000000) only [go_sem, acondK_bool, acB_merge, Nat.reduceLT, Nat.reduceLeDiff, Nat.reduceEqDiff, Nat.reduceAdd, Nat.reduceSub, Nat.reduceMul, Nat.reduceBEq, Nat.reduceBNe, Nat.reduceBneDiff, Nat.reduceBeqDiff, Int.reduceToNat, Int.reduceLE, Int.reduceLT, Int.reduceEq, Int.reduceNe, Int.reduceNeg, Int.reduceAdd, Int.reduceSub, ↓reduceIte, reduceCtorEq, List.getElem?_toArray, List.getElem?_cons_zero, List.getElem?_cons_succ, List.length_cons, List.length_nil, List.take_succ_cons, List.take_zero, List.drop_succ_cons, List.drop_zero, List.drop_nil, List.take_nil, List.nil_append, List.cons_append, List.append_nil, List.contains_cons, List.contains_nil, Bool.or_false, Bool.false_or, Bool.or_true, Bool.true_or, Bool.and_true, Bool.true_and, Bool.and_false, Bool.false_and, Bool.not_true, Bool.not_false, Bool.not_not, Option.isSome_some, Option.isSome_none, List.map_cons, List.map_nil, ite_not, not_true_eq_false, not_false_eq_true, Nat.zero_add, Nat.add_zero]
  refine loop_any (fun pre => [(0, .v (.d (.slice (l.map sRow)))), (1, .v (.d (.str w))), (5, .v (.d (.int .i64 (pre.length : Nat))))])
    (fun _ => A) (fun _ suf => some (.d (.bool (suf.any fun s => s == w)), A)) l rfl rfl rfl ?_
  intro pre suf h ih
  have hb : pre.length < 9223372036854775807 := by rw [h] at hl; simp at hl; omega
  cases suf with
  | nil =>
    have e4 : decide ((pre.length : Int) < (l.length : Int)) = false := by rw [h]; simp
    simp (maxSteps := 1000000) only [go_sem, acondK_bool, acB_merge, Nat.reduceLT, Nat.reduceLeDiff, Nat.reduceEqDiff, Nat.reduceAdd, Nat.reduceSub, Nat.reduceMul, Nat.reduceBEq, Nat.reduceBNe, Nat.reduceBneDiff, Nat.reduceBeqDiff, Int.reduceToNat, Int.reduceLE, Int.reduceLT, Int.reduceEq, Int.reduceNe, Int.reduceNeg, Int.reduceAdd, Int.reduceSub, ↓reduceIte, reduceCtorEq, List.getElem?_toArray, List.getElem?_cons_zero, List.getElem?_cons_succ, List.length_cons, List.length_nil, List.take_succ_cons, List.take_zero, List.drop_succ_cons, List.drop_zero, List.drop_nil, List.take_nil, List.nil_append, List.cons_append, List.append_nil, List.contains_cons, List.contains_nil, Bool.or_false, Bool.false_or, Bool.or_true, Bool.true_or, Bool.and_true, Bool.true_and, Bool.and_false, Bool.false_and, Bool.not_true, Bool.not_false, Bool.not_not, Option.isSome_some, Option.isSome_none, List.map_cons, List.map_nil, ite_not, not_true_eq_false, not_false_eq_true, Nat.zero_add, Nat.add_zero, e4, List.any_nil]
  | cons x suf =>
    have e2 := ih x suf rfl
    rw [List.length_append, List.length_cons, List.length_nil] at e2
    have e3 : (l.map sRow)[pre.length]? = some [.str x] := by rw [h]; exact map_mid
    have e4 : decide ((pre.length : Int) < (l.length : Int)) = true := by rw [h]; simp; omega
    rw [List.any_cons]
    cases hx : (x == w) with
    | true => simp (maxSteps := 1000000) only [go_sem, acondK_bool, acB_merge, Nat.reduceLT, Nat.reduceLeDiff, Nat.reduceEqDiff, Nat.reduceAdd, Nat.reduceSub, Nat.reduceMul, Nat.reduceBEq, Nat.reduceBNe, Nat.reduceBneDiff, Nat.reduceBeqDiff, Int.reduceToNat, Int.reduceLE, Int.reduceLT, Int.reduceEq, Int.reduceNe, Int.reduceNeg, Int.reduceAdd, Int.reduceSub, ↓reduceIte, reduceCtorEq, List.getElem?_toArray, List.getElem?_cons_zero, List.getElem?_cons_succ, List.length_cons, List.length_nil, List.take_succ_cons, List.take_zero, List.drop_succ_cons, List.drop_zero, List.drop_nil, List.take_nil, List.nil_append, List.cons_append, List.append_nil, List.contains_cons, List.contains_nil, Bool.or_false, Bool.false_or, Bool.or_true, Bool.true_or, Bool.and_true, Bool.true_and, Bool.and_false, Bool.false_and, Bool.not_true, Bool.not_false, Bool.not_not, Option.isSome_some, Option.isSome_none, List.map_cons, List.map_nil, ite_not, not_true_eq_false, not_false_eq_true, Nat.zero_add, Nat.add_zero, e3, e4, e2, hx, wrap_nat hb]
    | false => simp (maxSteps := 1000000) only [go_sem, acondK_bool, acB_merge, Nat.reduceLT, Nat.reduceLeDiff, Nat.reduceEqDiff, Nat.reduceAdd, Nat.reduceSub, Nat.reduceMul, Nat.reduceBEq, Nat.reduceBNe, Nat.reduceBneDiff, Nat.reduceBeqDiff, Int.reduceToNat, Int.reduceLE, Int.reduceLT, Int.reduceEq, Int.reduceNe, Int.reduceNeg, Int.reduceAdd, Int.reduceSub, ↓reduceIte, reduceCtorEq, List.getElem?_toArray, List.getElem?_cons_zero, List.getElem?_cons_succ, List.length_cons, List.length_nil, List.take_succ_cons, List.take_zero, List.drop_succ_cons, List.drop_zero, List.drop_nil, List.take_nil, List.nil_append, List.cons_append, List.append_nil, List.contains_cons, List.contains_nil, Bool.or_false, Bool.false_or, Bool.or_true, Bool.true_or, Bool.and_true, Bool.true_and, Bool.and_false, Bool.false_and, Bool.not_true, Bool.not_false, Bool.not_not, Option.isSome_some, Option.isSome_none, List.map_cons, List.map_nil, ite_not, not_true_eq_false, not_false_eq_true, Nat.zero_add, Nat.add_zero, e3, e4, e2, hx, wrap_nat hb]
theorem moreL (l : List Bytes) (hl : l.length ≤ 4000000) (w : Bytes) (A : AHeap) : acl C 47 [.d (.slice (l.map sRow)), .d (.str w)] A = some (.d (.slice ((l ++ [w]).map sRow)), A) := by
  have a3 := grS_first A l (by omega)
  have a4 := grS_append A l w (by omega)
  have fo : afinR C 47 A (grS A (l ++ [w])).2 (some (grS A (l ++ [w])).1) = some (.d (.slice ((l ++ [w]).map sRow)), A) := afin_grown rfl
  rw [k_call (c := C) (f := 47) rfl Try.func47 rfl (ok 47 (by kernel_rfl)) rfl Try.ntmps47 Try.results47 (by simp)]
  simp (maxSteps := 1000000) only [go_sem, acondK_bool, acB_merge, Nat.reduceLT, Nat.reduceLeDiff, Nat.reduceEqDiff, Nat.reduceAdd, Nat.reduceSub, Nat.reduceMul, Nat.reduceBEq, Nat.reduceBNe, Nat.reduceBneDiff, Nat.reduceBeqDiff, Int.reduceToNat, Int.reduceLE, Int.reduceLT, Int.reduceEq, Int.reduceNe, Int.reduceNeg, Int.reduceAdd, Int.reduceSub, ↓reduceIte, reduceCtorEq, List.getElem?_toArray, List.getElem?_cons_zero, List.getElem?_cons_succ, List.length_cons, List.length_nil, List.take_succ_cons, List.take_zero, List.drop_succ_cons, List.drop_zero, List.drop_nil, List.take_nil, List.nil_append, List.cons_append, List.append_nil, List.contains_cons, List.contains_nil, Bool.or_false, Bool.false_or, Bool.or_true, Bool.true_or, Bool.and_true, Bool.true_and, Bool.and_false, Bool.false_and, Bool.not_true, Bool.not_false, Bool.not_not, Option.isSome_some, Option.isSome_none, List.map_cons, List.map_nil, ite_not, not_true_eq_false, not_false_eq_true, Nat.zero_add, Nat.add_zero, a3, a4, fo]
mutual
def knE (l : List Bytes) : E → Bool
  | .mk op n s args => if (decide (op = 3) && !hasS l s) = true then false else knL l args
def knL (l : List Bytes) : List E → Bool
  | [] => true
  | x :: m => knE l x && knL l m
end
theorem known (l : List Bytes) (hl : l.length ≤ 1099511627776) : ∀ e, E.Ok e → ∀ (A : AHeap), acl C 46 [E.av e, .d (.slice (l.map sRow))] A = some (.d (.bool (knE l e)), A) := by
  intro e
  induction e using E.ind with
  | h op n s args ih =>
    intro hok A
    have g1 := hasL l hl s A
    rw [k_call (c := C) (f := 46) rfl Try.func46 rfl (ok 46 (by kernel_rfl)) rfl Try.ntmps46 Try.results46 (by simp)]
    rw [knE]
    cases h3 : (decide (op = 3) && !hasS l s) with
    | true =>
      rw [Bool.and_eq_true] at h3
      obtain ⟨h3, h4⟩ := h3
      have h4' : hasS l s = false := by simpa using h4
      simp (maxSteps := 1000000) only [go_sem, acondK_bool, acB_merge, Nat.reduceLT, Nat.reduceLeDiff, Nat.reduceEqDiff, Nat.reduceAdd, Nat.reduceSub, Nat.reduceMul, Nat.reduceBEq, Nat.reduceBNe, Nat.reduceBneDiff, Nat.reduceBeqDiff, Int.reduceToNat, Int.reduceLE, Int.reduceLT, Int.reduceEq, Int.reduceNe, Int.reduceNeg, Int.reduceAdd, Int.reduceSub, ↓reduceIte, reduceCtorEq, List.getElem?_toArray, List.getElem?_cons_zero, List.getElem?_cons_succ, List.length_cons, List.length_nil, List.take_succ_cons, List.take_zero, List.drop_succ_cons, List.drop_zero, List.drop_nil, List.take_nil, List.nil_append, List.cons_append, List.append_nil, List.contains_cons, List.contains_nil, Bool.or_false, Bool.false_or, Bool.or_true, Bool.true_or, Bool.and_true, Bool.true_and, Bool.and_false, Bool.false_and, Bool.not_true, Bool.not_false, Bool.not_not, Option.isSome_some, Option.isSome_none, List.map_cons, List.map_nil, ite_not, not_true_eq_false, not_false_eq_true, Nat.zero_add, Nat.add_zero, h3, g1, h4']
    | false =>
      simp only [Bool.false_eq_true, if_false]
      cases h5 : decide (op = 3) with
      | true =>
        have h4' : hasS l s = true := by rw [h5] at h3; simpa using h3
        simp (maxSteps := 1000000) only [go_sem, acondK_bool, acB_merge, Nat.reduceLT, Nat.reduceLeDiff, Nat.reduceEqDiff, Nat.reduceAdd, Nat.reduceSub, Nat.reduceMul, Nat.reduceBEq, Nat.reduceBNe, Nat.reduceBneDiff, Nat.reduceBeqDiff, Int.reduceToNat, Int.reduceLE, Int.reduceLT, Int.reduceEq, Int.reduceNe, Int.reduceNeg, Int.reduceAdd, Int.reduceSub, ↓reduceIte, reduceCtorEq, List.getElem?_toArray, List.getElem?_cons_zero, List.getElem?_cons_succ, List.length_cons, List.length_nil, List.take_succ_cons, List.take_zero, List.drop_succ_cons, List.drop_zero, List.drop_nil, List.take_nil, List.nil_append, List.cons_append, List.append_nil, List.contains_cons, List.contains_nil, Bool.or_false, Bool.false_or, Bool.or_true, Bool.true_or, Bool.and_true, Bool.true_and, Bool.and_false, Bool.false_and, Bool.not_true, Bool.not_false, Bool.not_not, Option.isSome_some, Option.isSome_none, List.map_cons, List.map_nil, ite_not, not_true_eq_false, not_false_eq_true, Nat.zero_add, Nat.add_zero, h5, g1, h4']
        refine loop_any (fun pre => [(2, .box [.d (.int .i64 op), .d (.int .i64 n), .d (.str s), .d (.slice (args.map E.row))]), (1, .v (.d (.slice (l.map sRow)))), (5, .v (.d (.int .i64 (pre.length : Nat))))])
          (fun _ => A) (fun _ suf => some (.d (.bool (knL l suf)), A)) args rfl rfl rfl ?_
        intro pre suf hl ih2
        have hb : pre.length < 9223372036854775807 := by have := hok.len; rw [hl] at this; simp at this; omega
        cases suf with
        | nil =>
          have e4 : decide ((pre.length : Int) < (args.length : Int)) = false := by rw [hl]; simp
          rw [knL]
          simp (maxSteps := 1000000) only [go_sem, acondK_bool, acB_merge, Nat.reduceLT, Nat.reduceLeDiff, Nat.reduceEqDiff, Nat.reduceAdd, Nat.reduceSub, Nat.reduceMul, Nat.reduceBEq, Nat.reduceBNe, Nat.reduceBneDiff, Nat.reduceBeqDiff, Int.reduceToNat, Int.reduceLE, Int.reduceLT, Int.reduceEq, Int.reduceNe, Int.reduceNeg, Int.reduceAdd, Int.reduceSub, ↓reduceIte, reduceCtorEq, List.getElem?_toArray, List.getElem?_cons_zero, List.getElem?_cons_succ, List.length_cons, List.length_nil, List.take_succ_cons, List.take_zero, List.drop_succ_cons, List.drop_zero, List.drop_nil, List.take_nil, List.nil_append, List.cons_append, List.append_nil, List.contains_cons, List.contains_nil, Bool.or_false, Bool.false_or, Bool.or_true, Bool.true_or, Bool.and_true, Bool.true_and, Bool.and_false, Bool.false_and, Bool.not_true, Bool.not_false, Bool.not_not, Option.isSome_some, Option.isSome_none, List.map_cons, List.map_nil, ite_not, not_true_eq_false, not_false_eq_true, Nat.zero_add, Nat.add_zero, e4]
        | cons x suf =>
          have hx : x ∈ args := by rw [hl]; simp
          have e1 := ih x hx (hok.arg x hx) A
          have e2 := ih2 x suf rfl
          rw [List.length_append, List.length_cons, List.length_nil] at e2
          have e3 : (args.map E.row)[pre.length]? = some (E.row x) := by rw [hl]; exact map_mid
          rw [E.row_eq] at e3
          have e4 : decide ((pre.length : Int) < (args.length : Int)) = true := by rw [hl]; simp; omega
          rw [knL]
          cases hx : knE l x with
          | true => simp (maxSteps := 1000000) only [go_sem, acondK_bool, acB_merge, Nat.reduceLT, Nat.reduceLeDiff, Nat.reduceEqDiff, Nat.reduceAdd, Nat.reduceSub, Nat.reduceMul, Nat.reduceBEq, Nat.reduceBNe, Nat.reduceBneDiff, Nat.reduceBeqDiff, Int.reduceToNat, Int.reduceLE, Int.reduceLT, Int.reduceEq, Int.reduceNe, Int.reduceNeg, Int.reduceAdd, Int.reduceSub, ↓reduceIte, reduceCtorEq, List.getElem?_toArray, List.getElem?_cons_zero, List.getElem?_cons_succ, List.length_cons, List.length_nil, List.take_succ_cons, List.take_zero, List.drop_succ_cons, List.drop_zero, List.drop_nil, List.take_nil, List.nil_append, List.cons_append, List.append_nil, List.contains_cons, List.contains_nil, Bool.or_false, Bool.false_or, Bool.or_true, Bool.true_or, Bool.and_true, Bool.true_and, Bool.and_false, Bool.false_and, Bool.not_true, Bool.not_false, Bool.not_not, Option.isSome_some, Option.isSome_none, List.map_cons, List.map_nil, ite_not, not_true_eq_false, not_false_eq_true, Nat.zero_add, Nat.add_zero, e1, e2, e3, e4, hx, wrap_nat hb]
          | false => simp (maxSteps := 1000000) only [go_sem, acondK_bool, acB_merge, Nat.reduceLT, Nat.reduceLeDiff, Nat.reduceEqDiff, Nat.reduceAdd, Nat.reduceSub, Nat.reduceMul, Nat.reduceBEq, Nat.reduceBNe, Nat.reduceBneDiff, Nat.reduceBeqDiff, Int.reduceToNat, Int.reduceLE, Int.reduceLT, Int.reduceEq, Int.reduceNe, Int.reduceNeg, Int.reduceAdd, Int.reduceSub, ↓reduceIte, reduceCtorEq, List.getElem?_toArray, List.getElem?_cons_zero, List.getElem?_cons_succ, List.length_cons, List.length_nil, List.take_succ_cons, List.take_zero, List.drop_succ_cons, List.drop_zero, List.drop_nil, List.take_nil, List.nil_append, List.cons_append, List.append_nil, List.contains_cons, List.contains_nil, Bool.or_false, Bool.false_or, Bool.or_true, Bool.true_or, Bool.and_true, Bool.true_and, Bool.and_false, Bool.false_and, Bool.not_true, Bool.not_false, Bool.not_not, Option.isSome_some, Option.isSome_none, List.map_cons, List.map_nil, ite_not, not_true_eq_false, not_false_eq_true, Nat.zero_add, Nat.add_zero, e1, e2, e3, e4, hx, wrap_nat hb]
      | false =>
        simp (maxSteps := 1000000) only [go_sem, acondK_bool, acB_merge, Nat.reduceLT, Nat.reduceLeDiff, Nat.reduceEqDiff, Nat.reduceAdd, Nat.reduceSub, Nat.reduceMul, Nat.reduceBEq, Nat.reduceBNe, Nat.reduceBneDiff, Nat.reduceBeqDiff, Int.reduceToNat, Int.reduceLE, Int.reduceLT, Int.reduceEq, Int.reduceNe, Int.reduceNeg, Int.reduceAdd, Int.reduceSub, ↓reduceIte, reduceCtorEq, List.getElem?_toArray, List.getElem?_cons_zero, List.getElem?_cons_succ, List.length_cons, List.length_nil, List.take_succ_cons, List.take_zero, List.drop_succ_cons, List.drop_zero, List.drop_nil, List.take_nil, List.nil_append, List.cons_append, List.append_nil, List.contains_cons, List.contains_nil, Bool.or_false, Bool.false_or, Bool.or_true, Bool.true_or, Bool.and_true, Bool.true_and, Bool.and_false, Bool.false_and, Bool.not_true, Bool.not_false, Bool.not_not, Option.isSome_some, Option.isSome_none, List.map_cons, List.map_nil, ite_not, not_true_eq_false, not_false_eq_true, Nat.zero_add, Nat.add_zero, h5]
        refine loop_any (fun pre => [(2, .box [.d (.int .i64 op), .d (.int .i64 n), .d (.str s), .d (.slice (args.map E.row))]), (1, .v (.d (.slice (l.map sRow)))), (5, .v (.d (.int .i64 (pre.length : Nat))))])
          (fun _ => A) (fun _ suf => some (.d (.bool (knL l suf)), A)) args rfl rfl rfl ?_
        intro pre suf hl ih2
        have hb : pre.length < 9223372036854775807 := by have := hok.len; rw [hl] at this; simp at this; omega
        cases suf with
        | nil =>
          have e4 : decide ((pre.length : Int) < (args.length : Int)) = false := by rw [hl]; simp
          rw [knL]
          simp (maxSteps := 1000000) only [go_sem, acondK_bool, acB_merge, Nat.reduceLT, Nat.reduceLeDiff, Nat.reduceEqDiff, Nat.reduceAdd, Nat.reduceSub, Nat.reduceMul, Nat.reduceBEq, Nat.reduceBNe, Nat.reduceBneDiff, Nat.reduceBeqDiff, Int.reduceToNat, Int.reduceLE, Int.reduceLT, Int.reduceEq, Int.reduceNe, Int.reduceNeg, Int.reduceAdd, Int.reduceSub, ↓reduceIte, reduceCtorEq, List.getElem?_toArray, List.getElem?_cons_zero, List.getElem?_cons_succ, List.length_cons, List.length_nil, List.take_succ_cons, List.take_zero, List.drop_succ_cons, List.drop_zero, List.drop_nil, List.take_nil, List.nil_append, List.cons_append, List.append_nil, List.contains_cons, List.contains_nil, Bool.or_false, Bool.false_or, Bool.or_true, Bool.true_or, Bool.and_true, Bool.true_and, Bool.and_false, Bool.false_and, Bool.not_true, Bool.not_false, Bool.not_not, Option.isSome_some, Option.isSome_none, List.map_cons, List.map_nil, ite_not, not_true_eq_false, not_false_eq_true, Nat.zero_add, Nat.add_zero, e4]
        | cons x suf =>
          have hx : x ∈ args := by rw [hl]; simp
          have e1 := ih x hx (hok.arg x hx) A
          have e2 := ih2 x suf rfl
          rw [List.length_append, List.length_cons, List.length_nil] at e2
          have e3 : (args.map E.row)[pre.length]? = some (E.row x) := by rw [hl]; exact map_mid
          rw [E.row_eq] at e3
          have e4 : decide ((pre.length : Int) < (args.length : Int)) = true := by rw [hl]; simp; omega
          rw [knL]
          cases hx : knE l x with
          | true => simp (maxSteps := 1000000) only [go_sem, acondK_bool, acB_merge, Nat.reduceLT, Nat.reduceLeDiff, Nat.reduceEqDiff, Nat.reduceAdd, Nat.reduceSub, Nat.reduceMul, Nat.reduceBEq, Nat.reduceBNe, Nat.reduceBneDiff, Nat.reduceBeqDiff, Int.reduceToNat, Int.reduceLE, Int.reduceLT, Int.reduceEq, Int.reduceNe, Int.reduceNeg, Int.reduceAdd, Int.reduceSub, ↓reduceIte, reduceCtorEq, List.getElem?_toArray, List.getElem?_cons_zero, List.getElem?_cons_succ, List.length_cons, List.length_nil, List.take_succ_cons, List.take_zero, List.drop_succ_cons, List.drop_zero, List.drop_nil, List.take_nil, List.nil_append, List.cons_append, List.append_nil, List.contains_cons, List.contains_nil, Bool.or_false, Bool.false_or, Bool.or_true, Bool.true_or, Bool.and_true, Bool.true_and, Bool.and_false, Bool.false_and, Bool.not_true, Bool.not_false, Bool.not_not, Option.isSome_some, Option.isSome_none, List.map_cons, List.map_nil, ite_not, not_true_eq_false, not_false_eq_true, Nat.zero_add, Nat.add_zero, e1, e2, e3, e4, hx, wrap_nat hb]
          | false => simp (maxSteps := 1000000) only [go_sem, acondK_bool, acB_merge, Nat.reduceLT, Nat.reduceLeDiff, Nat.reduceEqDiff, Nat.reduceAdd, Nat.reduceSub, Nat.reduceMul, Nat.reduceBEq, Nat.reduceBNe, Nat.reduceBneDiff, Nat.reduceBeqDiff, Int.reduceToNat, Int.reduceLE, Int.reduceLT, Int.reduceEq, Int.reduceNe, Int.reduceNeg, Int.reduceAdd, Int.reduceSub, ↓reduceIte, reduceCtorEq, List.getElem?_toArray, List.getElem?_cons_zero, List.getElem?_cons_succ, List.length_cons, List.length_nil, List.take_succ_cons, List.take_zero, List.drop_succ_cons, List.drop_zero, List.drop_nil, List.take_nil, List.nil_append, List.cons_append, List.append_nil, List.contains_cons, List.contains_nil, Bool.or_false, Bool.false_or, Bool.or_true, Bool.true_or, Bool.and_true, Bool.true_and, Bool.and_false, Bool.false_and, Bool.not_true, Bool.not_false, Bool.not_not, Option.isSome_some, Option.isSome_none, List.map_cons, List.map_nil, ite_not, not_true_eq_false, not_false_eq_true, Nat.zero_add, Nat.add_zero, e1, e2, e3, e4, hx, wrap_nat hb]
/-! plain -/
theorem has_get {l : List Pm} {k : Bytes} {t : Int} (h : getP l k = some t) : hasS (l.map Pm.name) k = true := by
  induction l with
  | nil => simp [getP] at h
  | cons x l ih =>
    simp only [getP] at h
    simp only [hasS, List.map_cons, List.any_cons]
    by_cases hx : (x.name == k) = true
    · rw [hx]; rfl
    · rw [if_neg hx] at h
      rw [Bool.or_eq_true]
      exact .inr (ih h)
theorem knE_abs {l : List Bytes} {e : E} (h : absE e = true) : knE l e = true := by
  cases e with
  | mk op n s args =>
    simp only [absE, absentS, Bool.and_eq_true, decide_eq_true_eq] at h
    obtain ⟨⟨⟨h1, _⟩, _⟩, h4⟩ := h
    have : args = [] := by cases args with | nil => rfl | cons _ _ => simp at h4; omega
    subst this
    rw [knE, if_neg (by simp [h1]), knL]
theorem ofL_cons {lk : Bytes → Option Int} {op : Int} {ts : List Int} {x : E} {m : List E} (h : (ofL lk op ts (x :: m)).2 = 0) : (ofE lk x).2 = 0 ∧ (ofL lk op (ts ++ [(ofE lk x).1]) m).2 = 0 := by
  rw [ofL] at h
  by_cases h1 : (ofE lk x).2 = 0
  · rw [if_pos (by simpa using h1)] at h
    exact ⟨h1, h⟩
  · rw [if_neg (by simpa using h1)] at h
    exact absurd h h1
mutual
theorem knE_of (l : List Pm) : ∀ (e : E) (d : Int), chkE e d = 0 → (ofE (getP l) e).2 = 0 → knE (l.map Pm.name) e = true
  | .mk op n s args, d, hc, h => by
    rw [chkE] at hc
    by_cases hn : nodeS op n s args.length d = 0
    · rw [if_pos hn] at hc
      rw [ofE] at h
      rw [knE]
      by_cases h3 : op = 3
      · subst h3
        rw [if_pos (by decide)] at h
        obtain ⟨_, _, h5⟩ := varS_ok h
        have h6 := has_get h5
        rw [if_neg (by simp [h6])]
        have : args = [] := by
          have hl : ((args.length : Int)) = 0 := by
            unfold nodeS at hn
            split at hn
            · cases hn
            · split at hn
              · cases hn
              · split at hn
                · cases hn
                · rename_i h9
                  simp [ar] at h9
                  simpa using h9
          cases args with
          | nil => rfl
          | cons _ _ => simp at hl; omega
        subst this
        rw [knL]
      · rw [if_neg (by simpa using h3)] at h
        rw [if_neg (by simp [h3])]
        exact knL_of l op args _ [] hc h
    · rw [if_neg hn] at hc
      exact absurd hc hn
theorem knL_of (l : List Pm) (op : Int) : ∀ (m : List E) (d : Int) (ts : List Int), chkL m d = 0 → (ofL (getP l) op ts m).2 = 0 → knL (l.map Pm.name) m = true
  | [], d, ts, hc, h => by rw [knL]
  | x :: m, d, ts, hc, h => by
    rw [chkL] at hc
    obtain ⟨h1, h2⟩ := ofL_cons h
    by_cases hx : chkE x d = 0
    · rw [if_pos hx] at hc
      rw [knL, knE_of l x d hx h1, knL_of l op m d _ hc h2]
      rfl
    · rw [if_neg hx] at hc
      exact absurd hc hx
end
/-- what the check of one statement shows -/
theorem stR_facts {vars : List Pm} {loops : List Bytes} {x : Stm} {d : Int} (hs : StmOk x d) (h : stR vars loops x = 0) :
    knE (vars.map Pm.name) x.a = true ∧ knE (vars.map Pm.name) x.b = true ∧ (x.op = 2 → hasS (vars.map Pm.name) x.name = true ∧ hasS loops x.name = false) ∧
      bdR (if x.op = 6 then vars ++ [⟨x.name, 1⟩] else vars) (if x.op = 6 then loops ++ [x.name] else loops) x.body = 0 ∧ bdR vars loops x.els = 0 := by
  cases x with
  | mk op name max a b body els =>
  rw [stR] at h
  simp only [Stm.op, Stm.name, Stm.body, Stm.els, Stm.a, Stm.b]
  have hop := hs.op
  have ha := hs.a
  have hna := hs.na
  have hb := hs.b
  have hnb := hs.nb
  have hbo := hs.nbody
  have hel := hs.nels
  simp only [Stm.op, Stm.name, Stm.body, Stm.els, Stm.a, Stm.b] at hop ha hna hb hnb hbo hel
  have h3 : (opsS (getP vars) (.mk op name max a b body els)).2.2 = 0 := by
    apply Classical.byContradiction
    intro h0
    have d0 : decide ((opsS (getP vars) (.mk op name max a b body els)).2.2 = 0) = false := by simpa using h0
    simp only [d0, Bool.false_and, Bool.false_eq_true, if_false] at h
    exact h0 h
  have ka : knE (vars.map Pm.name) a = true := by
    by_cases ua : uA op = true
    · have h8 : op ≠ 8 := by intro e; subst e; simp [uA] at ua
      have := h3
      unfold opsS at this
      rw [if_neg (by simpa using h8)] at this
      refine knE_of vars a 1 (ha ua) ?_
      split at this
      · rename_i hc
        simp only [Bool.and_eq_true, decide_eq_true_eq] at hc
        exact hc.1
      · exact this
    · exact knE_abs (hna (by simpa using ua))
  have kb : knE (vars.map Pm.name) b = true := by
    by_cases ub : uB op = true
    · have ho : op = 3 ∨ op = 6 := by simpa [uB] using ub
      have h8 : op ≠ 8 := by omega
      have := h3
      unfold opsS at this
      rw [if_neg (by simpa using h8)] at this
      refine knE_of vars b 1 (hb ub) ?_
      split at this
      · exact this
      · rename_i hc
        exfalso
        apply hc
        have e1 : (ofE (getP vars) a).2 = 0 := this
        simp only [Stm.a, Stm.op, Bool.and_eq_true, Bool.or_eq_true, decide_eq_true_eq]
        exact ⟨e1, ho⟩
    · exact knE_abs (hnb (by simpa using ub))
  refine ⟨ka, kb, ?_⟩
  generalize opsS (getP vars) (.mk op name max a b body els) = r at *
  obtain ⟨r1, r2, r3⟩ := r
  simp only at h3
  subst h3
  simp only [decide_true, Bool.true_and] at h
  have ho : op = 1 ∨ op = 2 ∨ op = 3 ∨ op = 4 ∨ op = 5 ∨ op = 6 ∨ op = 7 ∨ op = 8 := by omega
  by_cases h5 : op = 5
  · subst h5
    have w5 : wrgS 5 r1 r2 = false := by
      cases hw : wrgS 5 r1 r2 with
      | false => rfl
      | true => simp [hw] at h
    simp only [w5] at h
    simp at h
    by_cases hb0 : bdR vars loops body = 0
    · simp [hb0] at h ⊢
      exact h
    · simp [hb0] at h
  · have he : els = [] := hel (by simpa [uO] using h5)
    subst he
    by_cases h6 : op = 6
    · subst h6
      have w6 : wrgS 6 r1 r2 = false := by
        cases hw : wrgS 6 r1 r2 with
        | false => rfl
        | true => simp [hw] at h
      simp only [w6] at h
      simp at h
      simp [bdR_nil]
      exact h
    · have hbn : body = [] := hbo (by simp [uBo]; omega)
      subst hbn
      rw [if_neg h6, if_neg h6, bdR_nil]
      refine ⟨fun h2 => ?_, rfl, rfl⟩
      subst h2
      simp [wrgS] at h
      unfold asgS at h
      by_cases hv : (varS (getP vars name)).2 = 0
      · rw [if_pos (by simpa using hv)] at h
        obtain ⟨_, _, h9⟩ := varS_ok hv
        refine ⟨has_get h9, ?_⟩
        cases hh : (loops.any fun j => j == name) with
        | true => rw [hh] at h; simp at h
        | false => exact hh
      · rw [if_neg (by simpa using hv)] at h
        exact absurd h hv
theorem bdR_app {vars : List Pm} {loops : List Bytes} : ∀ (pre suf : List Stm) (vars : List Pm), bdR vars loops (pre ++ suf) = 0 → bdR (vsAfter vars pre) loops suf = 0
  | [], suf, vars, h => h
  | x :: pre, suf, vars, h => by
    rw [List.cons_append, bdR_cons] at h
    by_cases hx : stR vars loops x = 0
    · rw [if_pos (by simpa using hx)] at h
      exact bdR_app (vars := vars) pre suf _ h
    · rw [if_neg (by simpa using hx)] at h
      exact absurd h hx
end Go.Proofs.Ythjmecciefihmaa
