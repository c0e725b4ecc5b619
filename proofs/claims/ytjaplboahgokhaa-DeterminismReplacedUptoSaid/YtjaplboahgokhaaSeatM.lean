/- The laws of the determinism chapter that look at one expression. -/
import Derived.Test.YtjaplboahgokhaaSeatL
import Derived.Test.YtjaplboahgokhaaSeatK
import Derived.Test.YtjaplboahgokhaaGenD
set_option linter.unusedVariables false
set_option linter.unusedSimpArgs false
set_option linter.all false
set_option linter.deprecated false
set_option linter.all false
namespace Go.Proofs.Ytjaplboahgokhaa
open Go.Abs
-- CTX D
attribute [local congr] ite_congr
set_option maxRecDepth 10000
mutual
theorem ops_weight : ∀ (e : E), (opsE e).length ≤ wRow e.row
  | .mk op n s args => by
    have := opsEs_weight args
    rw [E.row_mk]
    simp only [opsE, List.length_cons, wRow, wD]
    omega
theorem opsEs_weight : ∀ (l : List E), (opsEs l).length ≤ wRows (l.map E.row)
  | [] => by simp [opsEs]
  | x :: l => by
    have h1 := ops_weight x
    have h2 := opsEs_weight l
    simp only [opsEs, List.length_append, List.map_cons, wRows]
    omega
end
theorem lawExprs (e : E) (h : e.Ok ∧ wRow e.row ≤ 1048576) : acl D 3 [E.av e] A00 = some (.d (.bool true), A00) := by
  obtain ⟨hok, hw⟩ := h
  have hl := ops_weight e
  have a1 := pureD e (by omega) A00
  have a2 := readsD e (by omega) A00
  have b1 := up (pureR e hok (by omega) A00)
  have b2 := up (readsR e hok (by omega) A00)
  have w := works A00
  rw [k_call (c := D) (f := 3) rfl Try.func3 rfl (ok 3 (by kernel_rfl)) rfl Try.ntmps3 Try.results3 (by simp)]
  unfold purS at a1
  unfold rdsS at a2
  cases h1 : (opsE e).any fun o => ndS o || rdS o <;> cases h2 : (opsE e).any rdS <;> simp (maxSteps := 1000000) only [go_sem, acondK_bool, acB_merge, Nat.reduceLT, Nat.reduceLeDiff, Nat.reduceEqDiff, Nat.reduceAdd, Nat.reduceSub, Nat.reduceMul, Nat.reduceBEq, Nat.reduceBNe, Nat.reduceBneDiff, Nat.reduceBeqDiff, Int.reduceToNat, Int.reduceLE, Int.reduceLT, Int.reduceEq, Int.reduceNe, Int.reduceNeg, Int.reduceAdd, Int.reduceSub, ↓reduceIte, reduceCtorEq, List.getElem?_toArray, List.getElem?_cons_zero, List.getElem?_cons_succ, List.length_cons, List.length_nil, List.take_succ_cons, List.take_zero, List.drop_succ_cons, List.drop_zero, List.drop_nil, List.take_nil, List.nil_append, List.cons_append, List.append_nil, List.contains_cons, List.contains_nil, Bool.or_false, Bool.false_or, Bool.or_true, Bool.true_or, Bool.and_true, Bool.true_and, Bool.and_false, Bool.false_and, Bool.not_true, Bool.not_false, Bool.not_not, Option.isSome_some, Option.isSome_none, List.map_cons, List.map_nil, ite_not, not_true_eq_false, not_false_eq_true, Nat.zero_add, Nat.add_zero, k_drawn_q, a1, a2, b1, b2, w, h1, h2]
theorem pur_mk (op n : Int) (s : Bytes) (args : List E) : purS (.mk op n s args) = (!(ndS op || rdS op) && args.all purS) := by
  unfold purS
  rw [opsE, List.any_cons]
  have : ∀ l : List E, (!((opsEs l).any fun o => ndS o || rdS o)) = l.all fun x => !((opsE x).any fun o => ndS o || rdS o) := by
    intro l
    induction l with
    | nil => rfl
    | cons x l ih => rw [opsEs, List.any_append, Bool.not_or, ih, List.all_cons]
  rw [Bool.not_or, this]
theorem rds_mk (op n : Int) (s : Bytes) (args : List E) : rdsS (.mk op n s args) = (rdS op || args.any rdsS) := by
  unfold rdsS
  rw [opsE, List.any_cons]
  have : ∀ l : List E, (opsEs l).any rdS = l.any fun x => (opsE x).any rdS := by
    intro l
    induction l with
    | nil => rfl
    | cons x l ih => rw [opsEs, List.any_append, ih, List.any_cons]
  rw [this]
theorem lawParts (e : E) (h : e.Ok ∧ wRow e.row ≤ 1048576) : acl D 4 [E.av e] A00 = some (.d (.bool true), A00) := by
  obtain ⟨hok, hw⟩ := h
  have hl := ops_weight e
  have a1 := pureD e (by omega) A00
  have a2 := readsD e (by omega) A00
  have w := works A00
  obtain ⟨op, n, s, args⟩ := e
  have hlen := hok.fit
  rw [pur_mk] at a1
  rw [rds_mk] at a2
  rw [k_call (c := D) (f := 4) rfl Try.func4 rfl (ok 4 (by kernel_rfl)) rfl Try.ntmps4 Try.results4 (by simp)]
  have q3 : (decide (op = 22) || decide (op = 23) || decide (op = 24)) = rdS op := rfl
  have q4 : ((if rdS op = true then false else !decide (op = 25)) && !decide (op = 26) && !decide (op = 27)) = !(ndS op || rdS op) := by
    unfold ndS
    cases rdS op <;> cases decide (op = 25) <;> cases decide (op = 26) <;> cases decide (op = 27) <;> rfl
  simp (maxSteps := 1000000) only [go_sem, acondK_bool, acB_merge, Nat.reduceLT, Nat.reduceLeDiff, Nat.reduceEqDiff, Nat.reduceAdd, Nat.reduceSub, Nat.reduceMul, Nat.reduceBEq, Nat.reduceBNe, Nat.reduceBneDiff, Nat.reduceBeqDiff, Int.reduceToNat, Int.reduceLE, Int.reduceLT, Int.reduceEq, Int.reduceNe, Int.reduceNeg, Int.reduceAdd, Int.reduceSub, ↓reduceIte, reduceCtorEq, List.getElem?_toArray, List.getElem?_cons_zero, List.getElem?_cons_succ, List.length_cons, List.length_nil, List.take_succ_cons, List.take_zero, List.drop_succ_cons, List.drop_zero, List.drop_nil, List.take_nil, List.nil_append, List.cons_append, List.append_nil, List.contains_cons, List.contains_nil, Bool.or_false, Bool.false_or, Bool.or_true, Bool.true_or, Bool.and_true, Bool.true_and, Bool.and_false, Bool.false_and, Bool.not_true, Bool.not_false, Bool.not_not, Option.isSome_some, Option.isSome_none, List.map_cons, List.map_nil, ite_not, not_true_eq_false, not_false_eq_true, Nat.zero_add, Nat.add_zero, k_drawn_q, q3, q4]
  generalize hr0 : rdS op = r0 at *
  generalize hp0 : (!(ndS op || r0)) = p0 at *
  refine loop_any (fun pre => [(4, .v (.d (.bool (p0 && pre.all purS)))), (3, .v (.d (.bool (r0 || pre.any rdsS)))), (5, .v (.d (.int .i64 (pre.length : Nat)))), (1, .box [.d (.int .i64 op), .d (.int .i64 n), .d (.str s), .d (.slice (args.map E.row))])]) (fun _ => A00)
    (fun _ _ => some (.d (.bool true), A00)) args (by simp [hp0]) rfl rfl ?_
  intro pre suf hl2 ih
  have hb2 : pre.length < 9223372036854775807 := by rw [hl2] at hlen; simp at hlen; omega
  cases suf with
  | nil =>
    rw [List.append_nil] at hl2
    subst hl2
    have e4 : decide ((args.length : Int) < (args.length : Int)) = false := by simp
    cases c1 : (p0 && args.all purS) <;> cases c2 : (r0 || args.any rdsS) <;> rw [c1] at a1 <;> rw [c2] at a2 <;> simp (maxSteps := 1000000) only [go_sem, acondK_bool, acB_merge, Nat.reduceLT, Nat.reduceLeDiff, Nat.reduceEqDiff, Nat.reduceAdd, Nat.reduceSub, Nat.reduceMul, Nat.reduceBEq, Nat.reduceBNe, Nat.reduceBneDiff, Nat.reduceBeqDiff, Int.reduceToNat, Int.reduceLE, Int.reduceLT, Int.reduceEq, Int.reduceNe, Int.reduceNeg, Int.reduceAdd, Int.reduceSub, ↓reduceIte, reduceCtorEq, List.getElem?_toArray, List.getElem?_cons_zero, List.getElem?_cons_succ, List.length_cons, List.length_nil, List.take_succ_cons, List.take_zero, List.drop_succ_cons, List.drop_zero, List.drop_nil, List.take_nil, List.nil_append, List.cons_append, List.append_nil, List.contains_cons, List.contains_nil, Bool.or_false, Bool.false_or, Bool.or_true, Bool.true_or, Bool.and_true, Bool.true_and, Bool.and_false, Bool.false_and, Bool.not_true, Bool.not_false, Bool.not_not, Option.isSome_some, Option.isSome_none, List.map_cons, List.map_nil, ite_not, not_true_eq_false, not_false_eq_true, Nat.zero_add, Nat.add_zero, k_drawn_q, e4, a1, a2, w]
  | cons x suf =>
    have hx : x ∈ args := by rw [hl2]; simp
    have hlx : (opsE x).length ≤ 1099511627776 := by
      have := opsEs_mem_len args x hx
      simp only [opsE, List.length_cons] at hl
      omega
    have x1 := pureD x hlx A00
    have x2 := readsD x hlx A00
    have e2 := ih x suf rfl
    rw [List.length_append, List.length_cons, List.length_nil, List.all_append, List.any_append, List.all_cons, List.all_nil, List.any_cons, List.any_nil, Bool.and_true, Bool.or_false, ← Bool.and_assoc, ← Bool.or_assoc] at e2
    have e3 : (args.map E.row)[pre.length]? = some (E.row x) := by rw [hl2]; exact map_mid
    have e4 : decide ((pre.length : Int) < (args.length : Int)) = true := by rw [hl2]; simp; omega
    rw [E.row_eq] at e3
    generalize (p0 && pre.all purS) = p1 at *
    generalize (r0 || pre.any rdsS) = r1 at *
    cases p1 <;> cases r1 <;> simp only [Bool.true_and, Bool.false_and, Bool.true_or, Bool.false_or, Nat.zero_add] at e2 <;> simp (maxSteps := 1000000) only [go_sem, acondK_bool, acB_merge, Nat.reduceLT, Nat.reduceLeDiff, Nat.reduceEqDiff, Nat.reduceAdd, Nat.reduceSub, Nat.reduceMul, Nat.reduceBEq, Nat.reduceBNe, Nat.reduceBneDiff, Nat.reduceBeqDiff, Int.reduceToNat, Int.reduceLE, Int.reduceLT, Int.reduceEq, Int.reduceNe, Int.reduceNeg, Int.reduceAdd, Int.reduceSub, ↓reduceIte, reduceCtorEq, List.getElem?_toArray, List.getElem?_cons_zero, List.getElem?_cons_succ, List.length_cons, List.length_nil, List.take_succ_cons, List.take_zero, List.drop_succ_cons, List.drop_zero, List.drop_nil, List.take_nil, List.nil_append, List.cons_append, List.append_nil, List.contains_cons, List.contains_nil, Bool.or_false, Bool.false_or, Bool.or_true, Bool.true_or, Bool.and_true, Bool.true_and, Bool.and_false, Bool.false_and, Bool.not_true, Bool.not_false, Bool.not_not, Option.isSome_some, Option.isSome_none, List.map_cons, List.map_nil, ite_not, not_true_eq_false, not_false_eq_true, Nat.zero_add, Nat.add_zero, k_drawn_q, e3, e4, x1, x2, e2, wrap_nat hb2]
end Go.Proofs.Ytjaplboahgokhaa
set_option linter.all false
namespace Go.Proofs.Ytjaplboahgokhaa
open Go.Abs
-- CTX D
attribute [local congr] ite_congr
set_option maxRecDepth 10000
theorem first_ops (p : Pr) (hp : p.Ok) (A : AHeap) : acl D 15 [Pr.av p] A = some (.tuple [.d (.int .i64 (fstP p).1), .d (.int .i64 (fstP p).2.1), .d (.bool (fstP p).2.2)], A) :=
  firstD p hp (fun h => by have := few_ops p h; omega) A
theorem detD (p : Pr) (hp : p.Ok) (A : AHeap) : acl D 14 [Pr.av p] A = some (.d (.int .i64 (detS p)), A) := by
  have c1 := up (checkOfG p hp A)
  have f1 := first_ops p hp A
  rw [k_call (c := D) (f := 14) rfl Try.func14 rfl (ok 14 (by kernel_rfl)) rfl Try.ntmps14 Try.results14 (by simp)]
  unfold detS
  cases h1 : decide (chkS p = 0) with
  | false => simp (maxSteps := 1000000) only [go_sem, acondK_bool, acB_merge, Nat.reduceLT, Nat.reduceLeDiff, Nat.reduceEqDiff, Nat.reduceAdd, Nat.reduceSub, Nat.reduceMul, Nat.reduceBEq, Nat.reduceBNe, Nat.reduceBneDiff, Nat.reduceBeqDiff, Int.reduceToNat, Int.reduceLE, Int.reduceLT, Int.reduceEq, Int.reduceNe, Int.reduceNeg, Int.reduceAdd, Int.reduceSub, ↓reduceIte, reduceCtorEq, List.getElem?_toArray, List.getElem?_cons_zero, List.getElem?_cons_succ, List.length_cons, List.length_nil, List.take_succ_cons, List.take_zero, List.drop_succ_cons, List.drop_zero, List.drop_nil, List.take_nil, List.nil_append, List.cons_append, List.append_nil, List.contains_cons, List.contains_nil, Bool.or_false, Bool.false_or, Bool.or_true, Bool.true_or, Bool.and_true, Bool.true_and, Bool.and_false, Bool.false_and, Bool.not_true, Bool.not_false, Bool.not_not, Option.isSome_some, Option.isSome_none, List.map_cons, List.map_nil, ite_not, not_true_eq_false, not_false_eq_true, Nat.zero_add, Nat.add_zero, k_drawn_q, c1, h1]
  | true => cases h2 : (fstP p).2.2 <;> simp (maxSteps := 1000000) only [go_sem, acondK_bool, acB_merge, Nat.reduceLT, Nat.reduceLeDiff, Nat.reduceEqDiff, Nat.reduceAdd, Nat.reduceSub, Nat.reduceMul, Nat.reduceBEq, Nat.reduceBNe, Nat.reduceBneDiff, Nat.reduceBeqDiff, Int.reduceToNat, Int.reduceLE, Int.reduceLT, Int.reduceEq, Int.reduceNe, Int.reduceNeg, Int.reduceAdd, Int.reduceSub, ↓reduceIte, reduceCtorEq, List.getElem?_toArray, List.getElem?_cons_zero, List.getElem?_cons_succ, List.length_cons, List.length_nil, List.take_succ_cons, List.take_zero, List.drop_succ_cons, List.drop_zero, List.drop_nil, List.take_nil, List.nil_append, List.cons_append, List.append_nil, List.contains_cons, List.contains_nil, Bool.or_false, Bool.false_or, Bool.or_true, Bool.true_or, Bool.and_true, Bool.true_and, Bool.and_false, Bool.false_and, Bool.not_true, Bool.not_false, Bool.not_not, Option.isSome_some, Option.isSome_none, List.map_cons, List.map_nil, ite_not, not_true_eq_false, not_false_eq_true, Nat.zero_add, Nat.add_zero, k_drawn_q, c1, h1, f1, h2]
theorem lawDetChecks (p : Pr) (hp : p.Ok) : acl D 6 [Pr.av p] A00 = some (.d (.bool true), A00) := by
  have a1 := first_ops p hp A00
  have a2 := up (firstR p hp A00)
  have b1 := detD p hp A00
  have b2 := up (detR p hp A00)
  have w := works A00
  rw [k_call (c := D) (f := 6) rfl Try.func6 rfl (ok 6 (by kernel_rfl)) rfl Try.ntmps6 Try.results6 (by simp)]
  cases h2 : (fstP p).2.2 <;> simp (maxSteps := 1000000) only [go_sem, acondK_bool, acB_merge, Nat.reduceLT, Nat.reduceLeDiff, Nat.reduceEqDiff, Nat.reduceAdd, Nat.reduceSub, Nat.reduceMul, Nat.reduceBEq, Nat.reduceBNe, Nat.reduceBneDiff, Nat.reduceBeqDiff, Int.reduceToNat, Int.reduceLE, Int.reduceLT, Int.reduceEq, Int.reduceNe, Int.reduceNeg, Int.reduceAdd, Int.reduceSub, ↓reduceIte, reduceCtorEq, List.getElem?_toArray, List.getElem?_cons_zero, List.getElem?_cons_succ, List.length_cons, List.length_nil, List.take_succ_cons, List.take_zero, List.drop_succ_cons, List.drop_zero, List.drop_nil, List.take_nil, List.nil_append, List.cons_append, List.append_nil, List.contains_cons, List.contains_nil, Bool.or_false, Bool.false_or, Bool.or_true, Bool.true_or, Bool.and_true, Bool.true_and, Bool.and_false, Bool.false_and, Bool.not_true, Bool.not_false, Bool.not_not, Option.isSome_some, Option.isSome_none, List.map_cons, List.map_nil, ite_not, not_true_eq_false, not_false_eq_true, Nat.zero_add, Nat.add_zero, k_drawn_q, a1, a2, b1, b2, w, h2]
def cleanS (e : E) : Bool := !((opsE e).any ndS)
theorem clean_mk (op n : Int) (s : Bytes) (args : List E) : cleanS (.mk op n s args) = (!(ndS op) && args.all cleanS) := by
  unfold cleanS
  rw [opsE, List.any_cons]
  have : ∀ l : List E, (!((opsEs l).any ndS)) = l.all fun x => !((opsE x).any ndS) := by
    intro l
    induction l with
    | nil => rfl
    | cons x l ih => rw [opsEs, List.any_append, Bool.not_or, ih, List.all_cons]
  rw [Bool.not_or, this]
theorem clean12 : ∀ e, E.Ok e → ∀ (A : AHeap), acl D 29 [E.av e] A = some (.d (.bool (cleanS e)), A) := by
  intro e
  induction e using E.ind with
  | h op n s args ih =>
    intro hok A
    have hlen := hok.fit
    rw [clean_mk]
    rw [k_call (c := D) (f := 29) rfl Try.func29 rfl (ok 29 (by kernel_rfl)) rfl Try.ntmps29 Try.results29 (by simp)]
    have q3 : (decide (op = 25) || decide (op = 26) || decide (op = 27)) = ndS op := rfl
    cases h1 : ndS op with
    | true => simp (maxSteps := 1000000) only [go_sem, acondK_bool, acB_merge, Nat.reduceLT, Nat.reduceLeDiff, Nat.reduceEqDiff, Nat.reduceAdd, Nat.reduceSub, Nat.reduceMul, Nat.reduceBEq, Nat.reduceBNe, Nat.reduceBneDiff, Nat.reduceBeqDiff, Int.reduceToNat, Int.reduceLE, Int.reduceLT, Int.reduceEq, Int.reduceNe, Int.reduceNeg, Int.reduceAdd, Int.reduceSub, ↓reduceIte, reduceCtorEq, List.getElem?_toArray, List.getElem?_cons_zero, List.getElem?_cons_succ, List.length_cons, List.length_nil, List.take_succ_cons, List.take_zero, List.drop_succ_cons, List.drop_zero, List.drop_nil, List.take_nil, List.nil_append, List.cons_append, List.append_nil, List.contains_cons, List.contains_nil, Bool.or_false, Bool.false_or, Bool.or_true, Bool.true_or, Bool.and_true, Bool.true_and, Bool.and_false, Bool.false_and, Bool.not_true, Bool.not_false, Bool.not_not, Option.isSome_some, Option.isSome_none, List.map_cons, List.map_nil, ite_not, not_true_eq_false, not_false_eq_true, Nat.zero_add, Nat.add_zero, q3, h1]
    | false =>
    simp (maxSteps := 1000000) only [go_sem, acondK_bool, acB_merge, Nat.reduceLT, Nat.reduceLeDiff, Nat.reduceEqDiff, Nat.reduceAdd, Nat.reduceSub, Nat.reduceMul, Nat.reduceBEq, Nat.reduceBNe, Nat.reduceBneDiff, Nat.reduceBeqDiff, Int.reduceToNat, Int.reduceLE, Int.reduceLT, Int.reduceEq, Int.reduceNe, Int.reduceNeg, Int.reduceAdd, Int.reduceSub, ↓reduceIte, reduceCtorEq, List.getElem?_toArray, List.getElem?_cons_zero, List.getElem?_cons_succ, List.length_cons, List.length_nil, List.take_succ_cons, List.take_zero, List.drop_succ_cons, List.drop_zero, List.drop_nil, List.take_nil, List.nil_append, List.cons_append, List.append_nil, List.contains_cons, List.contains_nil, Bool.or_false, Bool.false_or, Bool.or_true, Bool.true_or, Bool.and_true, Bool.true_and, Bool.and_false, Bool.false_and, Bool.not_true, Bool.not_false, Bool.not_not, Option.isSome_some, Option.isSome_none, List.map_cons, List.map_nil, ite_not, not_true_eq_false, not_false_eq_true, Nat.zero_add, Nat.add_zero, q3, h1]
    refine loop_any (fun pre => [(1, .box [.d (.int .i64 op), .d (.int .i64 n), .d (.str s), .d (.slice (args.map E.row))]), (3, .v (.d (.int .i64 (pre.length : Nat))))])
      (fun _ => A) (fun _ suf => some (.d (.bool (suf.all cleanS)), A)) args rfl rfl rfl ?_
    intro pre suf hl ih2
    have hb2 : pre.length < 9223372036854775807 := by rw [hl] at hlen; simp at hlen; omega
    cases suf with
    | nil =>
      rw [List.append_nil] at hl
      subst hl
      have e4 : decide ((args.length : Int) < (args.length : Int)) = false := by simp
      simp (maxSteps := 1000000) only [go_sem, acondK_bool, acB_merge, Nat.reduceLT, Nat.reduceLeDiff, Nat.reduceEqDiff, Nat.reduceAdd, Nat.reduceSub, Nat.reduceMul, Nat.reduceBEq, Nat.reduceBNe, Nat.reduceBneDiff, Nat.reduceBeqDiff, Int.reduceToNat, Int.reduceLE, Int.reduceLT, Int.reduceEq, Int.reduceNe, Int.reduceNeg, Int.reduceAdd, Int.reduceSub, ↓reduceIte, reduceCtorEq, List.getElem?_toArray, List.getElem?_cons_zero, List.getElem?_cons_succ, List.length_cons, List.length_nil, List.take_succ_cons, List.take_zero, List.drop_succ_cons, List.drop_zero, List.drop_nil, List.take_nil, List.nil_append, List.cons_append, List.append_nil, List.contains_cons, List.contains_nil, Bool.or_false, Bool.false_or, Bool.or_true, Bool.true_or, Bool.and_true, Bool.true_and, Bool.and_false, Bool.false_and, Bool.not_true, Bool.not_false, Bool.not_not, Option.isSome_some, Option.isSome_none, List.map_cons, List.map_nil, ite_not, not_true_eq_false, not_false_eq_true, Nat.zero_add, Nat.add_zero, e4, List.all_nil]
    | cons x suf =>
      have hx : x ∈ args := by rw [hl]; simp
      have e1 := ih x hx (hok.arg x hx) A
      have e2 := ih2 x suf rfl
      rw [List.length_append, List.length_cons, List.length_nil] at e2
      have e3 : (args.map E.row)[pre.length]? = some (E.row x) := by rw [hl]; exact map_mid
      have e4 : decide ((pre.length : Int) < (args.length : Int)) = true := by rw [hl]; simp; omega
      rw [E.row_eq] at e3
      rw [List.all_cons]
      cases h2 : cleanS x <;> simp (maxSteps := 1000000) only [go_sem, acondK_bool, acB_merge, Nat.reduceLT, Nat.reduceLeDiff, Nat.reduceEqDiff, Nat.reduceAdd, Nat.reduceSub, Nat.reduceMul, Nat.reduceBEq, Nat.reduceBNe, Nat.reduceBneDiff, Nat.reduceBeqDiff, Int.reduceToNat, Int.reduceLE, Int.reduceLT, Int.reduceEq, Int.reduceNe, Int.reduceNeg, Int.reduceAdd, Int.reduceSub, ↓reduceIte, reduceCtorEq, List.getElem?_toArray, List.getElem?_cons_zero, List.getElem?_cons_succ, List.length_cons, List.length_nil, List.take_succ_cons, List.take_zero, List.drop_succ_cons, List.drop_zero, List.drop_nil, List.take_nil, List.nil_append, List.cons_append, List.append_nil, List.contains_cons, List.contains_nil, Bool.or_false, Bool.false_or, Bool.or_true, Bool.true_or, Bool.and_true, Bool.true_and, Bool.and_false, Bool.false_and, Bool.not_true, Bool.not_false, Bool.not_not, Option.isSome_some, Option.isSome_none, List.map_cons, List.map_nil, ite_not, not_true_eq_false, not_false_eq_true, Nat.zero_add, Nat.add_zero, e3, e4, e1, h2, e2, wrap_nat hb2]
mutual
def cleanX : Stm → Bool
  | .mk op name max a b body els => cleanS a && (cleanS b && (cleanXs body && cleanXs els))
def cleanXs : List Stm → Bool
  | [] => true
  | x :: l => cleanX x && cleanXs l
end
def CleanGood (l : List Stm) : Prop := ∀ (A : AHeap), acl D 16 [.d (.slice (l.map Stm.row))] A = some (.d (.bool (cleanXs l)), A)
theorem cleanAll_of (l : List Stm) (hlen : l.length ≤ 4194303) (hok : ∀ x ∈ l, x.Ok) (ih : ∀ x ∈ l, CleanGood x.body ∧ CleanGood x.els) : CleanGood l := by
  intro A
  rw [k_call (c := D) (f := 16) rfl Try.func16 rfl (ok 16 (by kernel_rfl)) rfl Try.ntmps16 Try.results16 (by simp)]
  simp (maxSteps := 1000000) only [go_sem, acondK_bool, acB_merge, Nat.reduceLT, Nat.reduceLeDiff, Nat.reduceEqDiff, Nat.reduceAdd, Nat.reduceSub, Nat.reduceMul, Nat.reduceBEq, Nat.reduceBNe, Nat.reduceBneDiff, Nat.reduceBeqDiff, Int.reduceToNat, Int.reduceLE, Int.reduceLT, Int.reduceEq, Int.reduceNe, Int.reduceNeg, Int.reduceAdd, Int.reduceSub, ↓reduceIte, reduceCtorEq, List.getElem?_toArray, List.getElem?_cons_zero, List.getElem?_cons_succ, List.length_cons, List.length_nil, List.take_succ_cons, List.take_zero, List.drop_succ_cons, List.drop_zero, List.drop_nil, List.take_nil, List.nil_append, List.cons_append, List.append_nil, List.contains_cons, List.contains_nil, Bool.or_false, Bool.false_or, Bool.or_true, Bool.true_or, Bool.and_true, Bool.true_and, Bool.and_false, Bool.false_and, Bool.not_true, Bool.not_false, Bool.not_not, Option.isSome_some, Option.isSome_none, List.map_cons, List.map_nil, ite_not, not_true_eq_false, not_false_eq_true, Nat.zero_add, Nat.add_zero]
  refine loop_any (fun pre => [(0, .v (.d (.slice (l.map Stm.row)))), (3, .v (.d (.int .i64 (pre.length : Nat))))]) (fun _ => A) (fun _ suf => some (.d (.bool (cleanXs suf)), A)) l rfl rfl rfl ?_
  intro pre suf hl ih2
  have hb2 : pre.length < 9223372036854775807 := by rw [hl] at hlen; simp at hlen; omega
  cases suf with
  | nil =>
    rw [List.append_nil] at hl
    subst hl
    have e4 : decide ((l.length : Int) < (l.length : Int)) = false := by simp
    have e5 : cleanXs [] = true := rfl
    rw [e5]
    simp (maxSteps := 1000000) only [go_sem, acondK_bool, acB_merge, Nat.reduceLT, Nat.reduceLeDiff, Nat.reduceEqDiff, Nat.reduceAdd, Nat.reduceSub, Nat.reduceMul, Nat.reduceBEq, Nat.reduceBNe, Nat.reduceBneDiff, Nat.reduceBeqDiff, Int.reduceToNat, Int.reduceLE, Int.reduceLT, Int.reduceEq, Int.reduceNe, Int.reduceNeg, Int.reduceAdd, Int.reduceSub, ↓reduceIte, reduceCtorEq, List.getElem?_toArray, List.getElem?_cons_zero, List.getElem?_cons_succ, List.length_cons, List.length_nil, List.take_succ_cons, List.take_zero, List.drop_succ_cons, List.drop_zero, List.drop_nil, List.take_nil, List.nil_append, List.cons_append, List.append_nil, List.contains_cons, List.contains_nil, Bool.or_false, Bool.false_or, Bool.or_true, Bool.true_or, Bool.and_true, Bool.true_and, Bool.and_false, Bool.false_and, Bool.not_true, Bool.not_false, Bool.not_not, Option.isSome_some, Option.isSome_none, List.map_cons, List.map_nil, ite_not, not_true_eq_false, not_false_eq_true, Nat.zero_add, Nat.add_zero, e4]
  | cons x suf =>
    have hx : x ∈ l := by rw [hl]; simp
    have a1 := clean12 x.a (Stm.Ok.a (hok x hx)) A
    have a2 := clean12 x.b (Stm.Ok.b (hok x hx)) A
    have a3 := (ih x hx).1 A
    have a4 := (ih x hx).2 A
    have e2 := ih2 x suf rfl
    rw [List.length_append, List.length_cons, List.length_nil] at e2
    have e3 : (l.map Stm.row)[pre.length]? = some (Stm.row x) := by rw [hl]; exact map_mid
    have e4 : decide ((pre.length : Int) < (l.length : Int)) = true := by rw [hl]; simp; omega
    rw [Stm.row_eq] at e3
    have e6 : cleanXs (x :: suf) = (cleanS x.a && (cleanS x.b && (cleanXs x.body && cleanXs x.els)) && cleanXs suf) := by cases x; rfl
    rw [e6]
    cases c1 : cleanS x.a with
    | false => simp (maxSteps := 1000000) only [go_sem, acondK_bool, acB_merge, Nat.reduceLT, Nat.reduceLeDiff, Nat.reduceEqDiff, Nat.reduceAdd, Nat.reduceSub, Nat.reduceMul, Nat.reduceBEq, Nat.reduceBNe, Nat.reduceBneDiff, Nat.reduceBeqDiff, Int.reduceToNat, Int.reduceLE, Int.reduceLT, Int.reduceEq, Int.reduceNe, Int.reduceNeg, Int.reduceAdd, Int.reduceSub, ↓reduceIte, reduceCtorEq, List.getElem?_toArray, List.getElem?_cons_zero, List.getElem?_cons_succ, List.length_cons, List.length_nil, List.take_succ_cons, List.take_zero, List.drop_succ_cons, List.drop_zero, List.drop_nil, List.take_nil, List.nil_append, List.cons_append, List.append_nil, List.contains_cons, List.contains_nil, Bool.or_false, Bool.false_or, Bool.or_true, Bool.true_or, Bool.and_true, Bool.true_and, Bool.and_false, Bool.false_and, Bool.not_true, Bool.not_false, Bool.not_not, Option.isSome_some, Option.isSome_none, List.map_cons, List.map_nil, ite_not, not_true_eq_false, not_false_eq_true, Nat.zero_add, Nat.add_zero, k_drawn_q, e3, e4, a1, c1]
    | true =>
    cases c2 : cleanS x.b with
    | false => simp (maxSteps := 1000000) only [go_sem, acondK_bool, acB_merge, Nat.reduceLT, Nat.reduceLeDiff, Nat.reduceEqDiff, Nat.reduceAdd, Nat.reduceSub, Nat.reduceMul, Nat.reduceBEq, Nat.reduceBNe, Nat.reduceBneDiff, Nat.reduceBeqDiff, Int.reduceToNat, Int.reduceLE, Int.reduceLT, Int.reduceEq, Int.reduceNe, Int.reduceNeg, Int.reduceAdd, Int.reduceSub, ↓reduceIte, reduceCtorEq, List.getElem?_toArray, List.getElem?_cons_zero, List.getElem?_cons_succ, List.length_cons, List.length_nil, List.take_succ_cons, List.take_zero, List.drop_succ_cons, List.drop_zero, List.drop_nil, List.take_nil, List.nil_append, List.cons_append, List.append_nil, List.contains_cons, List.contains_nil, Bool.or_false, Bool.false_or, Bool.or_true, Bool.true_or, Bool.and_true, Bool.true_and, Bool.and_false, Bool.false_and, Bool.not_true, Bool.not_false, Bool.not_not, Option.isSome_some, Option.isSome_none, List.map_cons, List.map_nil, ite_not, not_true_eq_false, not_false_eq_true, Nat.zero_add, Nat.add_zero, k_drawn_q, e3, e4, a1, c1, a2, c2]
    | true =>
    cases c3 : cleanXs x.body with
    | false => simp (maxSteps := 1000000) only [go_sem, acondK_bool, acB_merge, Nat.reduceLT, Nat.reduceLeDiff, Nat.reduceEqDiff, Nat.reduceAdd, Nat.reduceSub, Nat.reduceMul, Nat.reduceBEq, Nat.reduceBNe, Nat.reduceBneDiff, Nat.reduceBeqDiff, Int.reduceToNat, Int.reduceLE, Int.reduceLT, Int.reduceEq, Int.reduceNe, Int.reduceNeg, Int.reduceAdd, Int.reduceSub, ↓reduceIte, reduceCtorEq, List.getElem?_toArray, List.getElem?_cons_zero, List.getElem?_cons_succ, List.length_cons, List.length_nil, List.take_succ_cons, List.take_zero, List.drop_succ_cons, List.drop_zero, List.drop_nil, List.take_nil, List.nil_append, List.cons_append, List.append_nil, List.contains_cons, List.contains_nil, Bool.or_false, Bool.false_or, Bool.or_true, Bool.true_or, Bool.and_true, Bool.true_and, Bool.and_false, Bool.false_and, Bool.not_true, Bool.not_false, Bool.not_not, Option.isSome_some, Option.isSome_none, List.map_cons, List.map_nil, ite_not, not_true_eq_false, not_false_eq_true, Nat.zero_add, Nat.add_zero, k_drawn_q, e3, e4, a1, c1, a2, c2, a3, c3]
    | true => cases c4 : cleanXs x.els <;> simp (maxSteps := 1000000) only [go_sem, acondK_bool, acB_merge, Nat.reduceLT, Nat.reduceLeDiff, Nat.reduceEqDiff, Nat.reduceAdd, Nat.reduceSub, Nat.reduceMul, Nat.reduceBEq, Nat.reduceBNe, Nat.reduceBneDiff, Nat.reduceBeqDiff, Int.reduceToNat, Int.reduceLE, Int.reduceLT, Int.reduceEq, Int.reduceNe, Int.reduceNeg, Int.reduceAdd, Int.reduceSub, ↓reduceIte, reduceCtorEq, List.getElem?_toArray, List.getElem?_cons_zero, List.getElem?_cons_succ, List.length_cons, List.length_nil, List.take_succ_cons, List.take_zero, List.drop_succ_cons, List.drop_zero, List.drop_nil, List.take_nil, List.nil_append, List.cons_append, List.append_nil, List.contains_cons, List.contains_nil, Bool.or_false, Bool.false_or, Bool.or_true, Bool.true_or, Bool.and_true, Bool.true_and, Bool.and_false, Bool.false_and, Bool.not_true, Bool.not_false, Bool.not_not, Option.isSome_some, Option.isSome_none, List.map_cons, List.map_nil, ite_not, not_true_eq_false, not_false_eq_true, Nat.zero_add, Nat.add_zero, k_drawn_q, e3, e4, a1, c1, a2, c2, a3, c3, a4, c4, e2, wrap_nat hb2]
theorem cleanAll_in : ∀ x : Stm, x.Ok → CleanGood x.body ∧ CleanGood x.els := by
  intro x
  induction x using Stm.ind with
  | h op name max a b body els ihb ihe =>
    intro hok
    obtain ⟨f1, f2⟩ := stmFit2 hok
    exact ⟨cleanAll_of body f1 (Stm.Ok.bodyOk hok) (fun x hx => ihb x hx ((Stm.Ok.bodyOk hok) x hx)), cleanAll_of els f2 (Stm.Ok.elsOk hok) (fun x hx => ihe x hx ((Stm.Ok.elsOk hok) x hx))⟩
theorem cleanAll (p : Pr) (hp : p.Ok) : CleanGood p.body := cleanAll_of p.body hp.bfit hp.body fun x hx => cleanAll_in x (hp.body x hx)
theorem absent_clean (e : E) (h : absE e = true) : cleanS e = true := by
  obtain ⟨op, n, s, args⟩ := e
  simp [absentS] at h
  obtain ⟨⟨⟨rfl, rfl⟩, rfl⟩, rfl⟩ := h
  rfl
theorem roots_none : ∀ l : List Vis, (∀ v ∈ l, ∃ x, v = Vis.e x false) → rootsV l = []
  | [], _ => rfl
  | v :: l, h => by
    obtain ⟨x, rfl⟩ := h v (List.mem_cons_self ..)
    exact roots_none l fun v hv => h v (List.mem_cons_of_mem _ hv)
theorem roots_visE (e : E) : rootsV (visE e true) = [e] := by
  cases e
  rw [visE]
  show _ :: rootsV (visEs _) = _
  rw [roots_none _ (visEs_falseA _)]
theorem clean_e (e : E) : cleanS e = !((opsEs (rootsV (if absE e = true then [] else visE e true))).any ndS) := by
  by_cases h : absE e = true
  · rw [if_pos h, absent_clean e h]; rfl
  · rw [if_neg h, roots_visE]
    simp [opsEs, cleanS]
mutual
theorem clean_vis : ∀ (x : Stm) (d : Int), cleanX x = !((opsEs (rootsV (visS x d))).any ndS)
  | .mk op name max a b body els, d => by
    rw [visS, cleanX]
    show _ = !((opsEs (rootsV (_ ++ (_ ++ (_ ++ _))))).any ndS)
    rw [rootsV_append, rootsV_append, rootsV_append, opsEs_append, opsEs_append, opsEs_append, List.any_append, List.any_append, List.any_append, Bool.not_or, Bool.not_or, Bool.not_or,
      ← clean_e a, ← clean_e b, ← clean_vis_s body, ← clean_vis_s els]
theorem clean_vis_s : ∀ (l : List Stm) (d : Int), cleanXs l = !((opsEs (rootsV (visSs l d))).any ndS)
  | [], d => rfl
  | x :: l, d => by
    rw [visSs, cleanXs, rootsV_append, opsEs_append, List.any_append, Bool.not_or, ← clean_vis x d, ← clean_vis_s l d]
end
theorem fst_found : ∀ (l : List Int) (n : Nat), (fstS l n).2.2 = l.any ndS
  | [], n => rfl
  | x :: l, n => by
    rw [fstS, List.any_cons]
    cases h : ndS x with
    | true => rfl
    | false => simp only [Bool.false_eq_true, if_false, Bool.false_or]; exact fst_found l (n + 1)
theorem found_clean (p : Pr) (h : valS p = 0) : (fstP p).2.2 = !cleanXs p.body := by
  unfold fstP
  rw [if_pos h, fst_found]
  unfold exprsS
  rw [((valS_zero p).1 h).vis, clean_vis_s p.body 1, Bool.not_not]
theorem chk_val {p : Pr} (h : chkS p = 0) : valS p = 0 := by
  unfold chkS at h
  by_cases h1 : decide (preErr p = 0) = true
  · have h2 : preErr p = 0 := by simpa using h1
    unfold preErr at h2
    by_cases h3 : valS p = 0
    · exact h3
    · rw [if_neg (by simpa using h3)] at h2; exact h2
  · rw [if_neg h1] at h
    rw [h] at h1
    exact absurd rfl h1
theorem lawSound (p : Pr) (hp : p.Ok) : acl D 5 [Pr.av p] A00 = some (.d (.bool true), A00) := by
  have c1 := up (checkOfG p hp A00)
  have a1 := first_ops p hp A00
  have b1 := detD p hp A00
  have cl := cleanAll p hp A00
  have w := works A00
  rw [k_call (c := D) (f := 5) rfl Try.func5 rfl (ok 5 (by kernel_rfl)) rfl Try.ntmps5 Try.results5 (by simp)]
  cases h1 : decide (chkS p = 0) with
  | false =>
    have hd : detS p = chkS p := by unfold detS; rw [if_neg (by rw [h1]; decide)]
    rw [hd] at b1
    simp (maxSteps := 1000000) only [go_sem, acondK_bool, acB_merge, Nat.reduceLT, Nat.reduceLeDiff, Nat.reduceEqDiff, Nat.reduceAdd, Nat.reduceSub, Nat.reduceMul, Nat.reduceBEq, Nat.reduceBNe, Nat.reduceBneDiff, Nat.reduceBeqDiff, Int.reduceToNat, Int.reduceLE, Int.reduceLT, Int.reduceEq, Int.reduceNe, Int.reduceNeg, Int.reduceAdd, Int.reduceSub, ↓reduceIte, reduceCtorEq, List.getElem?_toArray, List.getElem?_cons_zero, List.getElem?_cons_succ, List.length_cons, List.length_nil, List.take_succ_cons, List.take_zero, List.drop_succ_cons, List.drop_zero, List.drop_nil, List.take_nil, List.nil_append, List.cons_append, List.append_nil, List.contains_cons, List.contains_nil, Bool.or_false, Bool.false_or, Bool.or_true, Bool.true_or, Bool.and_true, Bool.true_and, Bool.and_false, Bool.false_and, Bool.not_true, Bool.not_false, Bool.not_not, Option.isSome_some, Option.isSome_none, List.map_cons, List.map_nil, ite_not, not_true_eq_false, not_false_eq_true, Nat.zero_add, Nat.add_zero, k_drawn_q, c1, h1, b1, w]
  | true =>
    have hf := found_clean p (chk_val (by simpa using h1))
    have hd : detS p = if (fstP p).2.2 = true then 12 else 0 := by unfold detS; rw [if_pos h1]
    rw [hd, hf] at b1
    rw [hf] at a1
    cases h2 : cleanXs p.body with
    | true =>
      rw [h2, Bool.not_true, if_neg (by decide)] at b1
      rw [h2, Bool.not_true] at a1
      simp (maxSteps := 1000000) only [go_sem, acondK_bool, acB_merge, Nat.reduceLT, Nat.reduceLeDiff, Nat.reduceEqDiff, Nat.reduceAdd, Nat.reduceSub, Nat.reduceMul, Nat.reduceBEq, Nat.reduceBNe, Nat.reduceBneDiff, Nat.reduceBeqDiff, Int.reduceToNat, Int.reduceLE, Int.reduceLT, Int.reduceEq, Int.reduceNe, Int.reduceNeg, Int.reduceAdd, Int.reduceSub, ↓reduceIte, reduceCtorEq, List.getElem?_toArray, List.getElem?_cons_zero, List.getElem?_cons_succ, List.length_cons, List.length_nil, List.take_succ_cons, List.take_zero, List.drop_succ_cons, List.drop_zero, List.drop_nil, List.take_nil, List.nil_append, List.cons_append, List.append_nil, List.contains_cons, List.contains_nil, Bool.or_false, Bool.false_or, Bool.or_true, Bool.true_or, Bool.and_true, Bool.true_and, Bool.and_false, Bool.false_and, Bool.not_true, Bool.not_false, Bool.not_not, Option.isSome_some, Option.isSome_none, List.map_cons, List.map_nil, ite_not, not_true_eq_false, not_false_eq_true, Nat.zero_add, Nat.add_zero, k_drawn_q, c1, h1, b1, a1, cl, h2, w]
    | false =>
      rw [h2, Bool.not_false, if_pos rfl] at b1
      rw [h2, Bool.not_false] at a1
      simp (maxSteps := 1000000) only [go_sem, acondK_bool, acB_merge, Nat.reduceLT, Nat.reduceLeDiff, Nat.reduceEqDiff, Nat.reduceAdd, Nat.reduceSub, Nat.reduceMul, Nat.reduceBEq, Nat.reduceBNe, Nat.reduceBneDiff, Nat.reduceBeqDiff, Int.reduceToNat, Int.reduceLE, Int.reduceLT, Int.reduceEq, Int.reduceNe, Int.reduceNeg, Int.reduceAdd, Int.reduceSub, ↓reduceIte, reduceCtorEq, List.getElem?_toArray, List.getElem?_cons_zero, List.getElem?_cons_succ, List.length_cons, List.length_nil, List.take_succ_cons, List.take_zero, List.drop_succ_cons, List.drop_zero, List.drop_nil, List.take_nil, List.nil_append, List.cons_append, List.append_nil, List.contains_cons, List.contains_nil, Bool.or_false, Bool.false_or, Bool.or_true, Bool.true_or, Bool.and_true, Bool.true_and, Bool.and_false, Bool.false_and, Bool.not_true, Bool.not_false, Bool.not_not, Option.isSome_some, Option.isSome_none, List.map_cons, List.map_nil, ite_not, not_true_eq_false, not_false_eq_true, Nat.zero_add, Nat.add_zero, k_drawn_q, c1, h1, b1, a1, cl, h2, w]
end Go.Proofs.Ytjaplboahgokhaa
