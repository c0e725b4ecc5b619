/- The laws of the determinism chapter that look at one expression. -/
import Derived.Test.YtjaplboahgokhaaSeatL
import Derived.Test.YtjaplboahgokhaaSeatK
import Derived.Test.YtjaplboahgokhaaGenD
set_option linter.unusedVariables false
set_option linter.unusedSimpArgs false
set_option linter.all false
set_option linter.deprecated false
set_option linter.all false
namespace Go.Proofs.Ytjaplboahgokhaa
open Go.Abs
-- CTX D
attribute [local congr] ite_congr
set_option maxRecDepth 10000
mutual
theorem ops_weight : ∀ (e : E), (opsE e).length ≤ wRow e.row
  | .mk op n s args => by
    have := opsEs_weight args
    rw [E.row_mk]
    simp only [opsE, List.length_cons, wRow, wD]
    omega
theorem opsEs_weight : ∀ (l : List E), (opsEs l).length ≤ wRows (l.map E.row)
  | [] => by simp [opsEs]
  | x :: l => by
    have h1 := ops_weight x
    have h2 := opsEs_weight l
    simp only [opsEs, List.length_append, List.map_cons, wRows]
    omega
end
theorem lawExprs (e : E) (h : e.Ok ∧ wRow e.row ≤ 1048576) : acl D 3 [E.av e] A00 = some (.d (.bool true), A00) := by
  obtain ⟨hok, hw⟩ := h
  have hl := ops_weight e
  have a1 := pureD e (by omega) A00
  have a2 := readsD e (by omega) A00
  have b1 := up (pureR e hok (by omega) A00)
  have b2 := up (readsR e hok (by omega) A00)
  have w := works A00
  rw [k_call (c := D) (f := 3) rfl Try.func3 rfl (ok 3 (by kernel_rfl)) rfl Try.ntmps3 Try.results3 (by simp)]
  unfold purS at a1
  unfold rdsS at a2
  cases h1 : (opsE e).any fun o => ndS o || rdS o <;> cases h2 : (opsE e).any rdS <;> simp (maxSteps := 1000000) only [go_sem, acondK_bool, acB_merge, Nat.reduceLT, Nat.reduceLeDiff, Nat.reduceEqDiff, Nat.reduceAdd, Nat.reduceSub, Nat.reduceMul, Nat.reduceBEq, Nat.reduceBNe, Nat.reduceBneDiff, Nat.reduceBeqDiff, Int.reduceToNat, Int.reduceLE, Int.reduceLT, Int.reduceEq, Int.reduceNe, Int.reduceNeg, Int.reduceAdd, Int.reduceSub, ↓reduceIte, reduceCtorEq, List.getElem?_toArray, List.getElem?_cons_zero, List.getElem?_cons_succ, List.length_cons, List.length_nil, List.take_succ_cons, List.take_zero, List.drop_succ_cons, List.drop_zero, List.drop_nil, List.take_nil, List.nil_append, List.cons_append, List.append_nil, List.contains_cons, List.contains_nil, Bool.or_false, Bool.false_or, Bool.or_true, Bool.true_or, Bool.and_true, Bool.true_and, Bool.and_false, Bool.false_and, Bool.not_true, Bool.not_false, Bool.not_not, Option.isSome_some, Option.isSome_none, List.map_cons, List.map_nil, ite_not, not_true_eq_false, not_false_eq_true, Nat.zero_add, Nat.add_zero, k_drawn_q, a1, a2, b1, b2, w, h1, h2]
theorem pur_mk (op n : Int) (s : Bytes) (args : List E) : purS (.mk op n s args) = (!(ndS op || rdS op) && args.all purS) := by
  unfold purS
  rw [opsE, List.any_cons]
  have : ∀ l : List E, (!((opsEs l).any fun o => ndS o || rdS o)) = l.all fun x => !((opsE x).any fun o => ndS o || rdS o) := by
    intro l
    induction l with
    | nil => rfl
    | cons x l ih => rw [opsEs, List.any_append, Bool.not_or, ih, List.all_cons]
  rw [Bool.not_or, this]
theorem rds_mk (op n : Int) (s : Bytes) (args : List E) : rdsS (.mk op n s args) = (rdS op || args.any rdsS) := by
  unfold rdsS
  rw [opsE, List.any_cons]
  have : ∀ l : List E, (opsEs l).any rdS = l.any fun x => (opsE x).any rdS := by
    intro l
    induction l with
    | nil => rfl
    | cons x l ih => rw [opsEs, List.any_append, ih, List.any_cons]
  rw [this]
theorem lawParts (e : E) (h : e.Ok ∧ wRow e.row ≤ 1048576) : acl D 4 [E.av e] A00 = some (.d (.bool true), A00) := by
  obtain ⟨hok, hw⟩ := h
  have hl := ops_weight e
  have a1 := pureD e (by omega) A00
  have a2 := readsD e (by omega) A00
  have w := works A00
  obtain ⟨op, n, s, args⟩ := e
  have hlen := hok.fit
  rw [pur_mk] at a1
  rw [rds_mk] at a2
  rw [k_call (c := D) (f := 4) rfl Try.func4 rfl (ok 4 (by kernel_rfl)) rfl Try.ntmps4 Try.results4 (by simp)]
  have q3 : (decide (op = 22) || decide (op = 23) || decide (op = 24)) = rdS op := rfl
  have q4 : ((if rdS op = true then false else !decide (op = 25)) && !decide (op = 26) && !decide (op = 27)) = !(ndS op || rdS op) := by
    unfold ndS
    cases rdS op <;> cases decide (op = 25) <;> cases decide (op = 26) <;> cases decide (op = 27) <;> rfl
  simp (maxSteps := 1000000) only [go_sem, acondK_bool, acB_merge, Nat.reduceLT, Nat.reduceLeDiff, Nat.reduceEqDiff, Nat.reduceAdd, Nat.reduceSub, Nat.reduceMul, Nat.reduceBEq, Nat.reduceBNe, Nat.reduceBneDiff, Nat.reduceBeqDiff, Int.reduceToNat, Int.reduceLE, Int.reduceLT, Int.reduceEq, Int.reduceNe, Int.reduceNeg, Int.reduceAdd, Int.reduceSub, ↓reduceIte, reduceCtorEq, List.getElem?_toArray, List.getElem?_cons_zero, List.getElem?_cons_succ, List.length_cons, List.length_nil, List.take_succ_cons, List.take_zero, List.drop_succ_cons, List.drop_zero, List.drop_nil, List.take_nil, List.nil_append, List.cons_append, List.append_nil, List.contains_cons, List.contains_nil, Bool.or_false, Bool.false_or, Bool.or_true, Bool.true_or, Bool.and_true, Bool.true_and, Bool.and_false, Bool.false_and, Bool.not_true, Bool.not_false, Bool.not_not, Option.isSome_some, Option.isSome_none, List.map_cons, List.map_nil, ite_not, not_true_eq_false, not_false_eq_true, Nat.zero_add, Nat.add_zero, k_drawn_q, q3, q4]
  generalize hr0 : rdS op = r0 at *
  generalize hp0 : (!(ndS op || r0)) = p0 at *
  refine loop_any (fun pre => [(4, .v (.d (.bool (p0 && pre.all purS)))), (3, .v (.d (.bool (r0 || pre.any rdsS)))), (5, .v (.d (.int .i64 (pre.length : Nat)))), (1, .box [.d (.int .i64 op), .d (.int .i64 n), .d (.str s), .d (.slice (args.map E.row))])]) (fun _ => A00)
    (fun _ _ => some (.d (.bool true), A00)) args (by simp [hp0]) rfl rfl ?_
  intro pre suf hl2 ih
  have hb2 : pre.length < 9223372036854775807 := by rw [hl2] at hlen; simp at hlen; omega
  cases suf with
  | nil =>
    rw [List.append_nil] at hl2
    subst hl2
    have e4 : decide ((args.length : Int) < (args.length : Int)) = false := by simp
    cases c1 : (p0 && args.all purS) <;> cases c2 : (r0 || args.any rdsS) <;> rw [c1] at a1 <;> rw [c2] at a2 <;> simp (maxSteps := 1000000) only [go_sem, acondK_bool, acB_merge, Nat.reduceLT, Nat.reduceLeDiff, Nat.reduceEqDiff, Nat.reduceAdd, Nat.reduceSub, Nat.reduceMul, Nat.reduceBEq, Nat.reduceBNe, Nat.reduceBneDiff, Nat.reduceBeqDiff, Int.reduceToNat, Int.reduceLE, Int.reduceLT, Int.reduceEq, Int.reduceNe, Int.reduceNeg, Int.reduceAdd, Int.reduceSub, ↓reduceIte, reduceCtorEq, List.getElem?_toArray, List.getElem?_cons_zero, List.getElem?_cons_succ, List.length_cons, List.length_nil, List.take_succ_cons, List.take_zero, List.drop_succ_cons, List.drop_zero, List.drop_nil, List.take_nil, List.nil_append, List.cons_append, List.append_nil, List.contains_cons, List.contains_nil, Bool.or_false, Bool.false_or, Bool.or_true, Bool.true_or, Bool.and_true, Bool.true_and, Bool.and_false, Bool.false_and, Bool.not_true, Bool.not_false, Bool.not_not, Option.isSome_some, Option.isSome_none, List.map_cons, List.map_nil, ite_not, not_true_eq_false, not_false_eq_true, Nat.zero_add, Nat.add_zero, k_drawn_q, e4, a1, a2, w]
  | cons x suf =>
    have hx : x ∈ args := by rw [hl2]; simp
    have hlx : (opsE x).length ≤ 1099511627776 := by
      have := opsEs_mem_len args x hx
      simp only [opsE, List.length_cons] at hl
      omega
    have x1 := pureD x hlx A00
    have x2 := readsD x hlx A00
    have e2 := ih x suf rfl
    rw [List.length_append, List.length_cons, List.length_nil, List.all_append, List.any_append, List.all_cons, List.all_nil, List.any_cons, List.any_nil, Bool.and_true, Bool.or_false, ← Bool.and_assoc, ← Bool.or_assoc] at e2
    have e3 : (args.map E.row)[pre.length]? = some (E.row x) := by rw [hl2]; exact map_mid
    have e4 : decide ((pre.length : Int) < (args.length : Int)) = true := by rw [hl2]; simp; omega
    rw [E.row_eq] at e3
    generalize (p0 && pre.all purS) = p1 at *
    generalize (r0 || pre.any rdsS) = r1 at *
    cases p1 <;> cases r1 <;> simp only [Bool.true_and, Bool.false_and, Bool.true_or, Bool.false_or, Nat.zero_add] at e2 <;> simp (maxSteps := 1000000) only [go_sem, acondK_bool, acB_merge, Nat.reduceLT, Nat.reduceLeDiff, Nat.reduceEqDiff, Nat.reduceAdd, Nat.reduceSub, Nat.reduceMul, Nat.reduceBEq, Nat.reduceBNe, Nat.reduceBneDiff, Nat.reduceBeqDiff, Int.reduceToNat, Int.reduceLE, Int.reduceLT, Int.reduceEq, Int.reduceNe, Int.reduceNeg, Int.reduceAdd, Int.reduceSub, ↓reduceIte, reduceCtorEq, List.getElem?_toArray, List.getElem?_cons_zero, List.getElem?_cons_succ, List.length_cons, List.length_nil, List.take_succ_cons, List.take_zero, List.drop_succ_cons, List.drop_zero, List.drop_nil, List.take_nil, List.nil_append, List.cons_append, List.append_nil, List.contains_cons, List.contains_nil, Bool.or_false, Bool.false_or, Bool.or_true, Bool.true_or, Bool.and_true, Bool.true_and, Bool.and_false, Bool.false_and, Bool.not_true, Bool.not_false, Bool.not_not, Option.isSome_some, Option.isSome_none, List.map_cons, List.map_nil, ite_not, not_true_eq_false, not_false_eq_true, Nat.zero_add, Nat.add_zero, k_drawn_q, e3, e4, x1, x2, e2, wrap_nat hb2]
end Go.Proofs.Ytjaplboahgokhaa
