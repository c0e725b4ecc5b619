/- The counts of a procedure, its check. -/
import Derived.Test.YtencofeioaonpaaSeatQ
import Derived.Test.YtencofeioaonpaaSeatM
set_option linter.unusedVariables false
set_option linter.unusedSimpArgs false
set_option linter.all false
set_option linter.deprecated false
set_option linter.all false
namespace Go.Proofs.Ytencofeioaonpaa
open Go.Abs
-- CTX D
attribute [local congr] ite_congr
set_option maxRecDepth 10000
theorem idxV (c : ACtx) (hc : c.P = Try.prog) {cs : List AV} {k : IntKind} (n : Nat) (hn : n < 4) : aidxG c 51 (some (.agg cs)) (some (.d (.int k (n : Int)))) = cs[n]? := by
  unfold aidxG
  rw [hc, arr_51]
  simp only
  rw [if_pos (by omega)]
  simp [apart]
@[go_sem] theorem ig0 {cs : List AV} {k : IntKind} : aidxG D 51 (some (.agg cs)) (some (.d (.int k 0))) = cs[0]? := idxV D rfl 0 (by decide)
@[go_sem] theorem ig1 {cs : List AV} {k : IntKind} : aidxG D 51 (some (.agg cs)) (some (.d (.int k 1))) = cs[1]? := idxV D rfl 1 (by decide)
@[go_sem] theorem ig2 {cs : List AV} {k : IntKind} : aidxG D 51 (some (.agg cs)) (some (.d (.int k 2))) = cs[2]? := idxV D rfl 2 (by decide)
@[go_sem] theorem ig3 {cs : List AV} {k : IntKind} : aidxG D 51 (some (.agg cs)) (some (.d (.int k 3))) = cs[3]? := idxV D rfl 3 (by decide)
section
variable {env : AEnv} {A : AHeap} {x : Operand} {k : IntKind}
@[go_sem] theorem jx0 : aindexK D env A 51 x (some (.d (.int k 0))) = aplK A 0 (aplace env x) := ixK D rfl 0 (by decide)
@[go_sem] theorem jx1 : aindexK D env A 51 x (some (.d (.int k 1))) = aplK A 1 (aplace env x) := ixK D rfl 1 (by decide)
@[go_sem] theorem jx2 : aindexK D env A 51 x (some (.d (.int k 2))) = aplK A 2 (aplace env x) := ixK D rfl 2 (by decide)
@[go_sem] theorem jx3 : aindexK D env A 51 x (some (.d (.int k 3))) = aplK A 3 (aplace env x) := ixK D rfl 3 (by decide)
end
def costS (p : Pr) : K := if decide (detS p = 0) = true then (tSs p.body).cut else ⟨-1, -1, -1, -1⟩
def limS (k : K) : Int := if decide (16384 < k.s) = true then 13 else if (decide (64 < k.g) || decide (64 < k.p) || decide (16 < k.e)) = true then 2 else 0
def costC (p : Pr) : Int := if decide (detS p = 0) = true then limS (tSs p.body).cut else detS p
theorem det_vld {p : Pr} (h : detS p = 0) : Vld p := by
  refine (valS_zero p).1 (chk_val ?_)
  unfold detS at h
  by_cases h1 : decide (chkS p = 0) = true
  · simpa using h1
  · rw [if_neg h1] at h
    rw [h] at h1
    exact absurd rfl h1
theorem stepsD (p : Pr) (hp : p.Ok) (A : AHeap) : acl D 15 [Pr.av p] A = some (.d (.int .i64 (costS p).s), A) ∧ acl D 16 [Pr.av p] A = some (.d (.int .i64 (costS p).g), A) ∧ acl D 17 [Pr.av p] A = some (.d (.int .i64 (costS p).p), A) ∧ acl D 18 [Pr.av p] A = some (.d (.int .i64 (costS p).e), A) := by
  have d1 := detD p hp A
  have key : ∀ (i : Int) (r : Int), (i = 0 ∧ r = (costS p).s) ∨ (i = 1 ∧ r = (costS p).g) ∨ (i = 2 ∧ r = (costS p).p) ∨ (i = 3 ∧ r = (costS p).e) → acl D 33 [Pr.av p, .d (.int .i64 i)] A = some (.d (.int .i64 r), A) := by
    intro i r h
    unfold costS at h
    rw [k_call (c := D) (f := 33) rfl Try.func33 rfl (ok 33 (by kernel_rfl)) rfl Try.ntmps33 Try.results33 (by simp)]
    cases c1 : decide (detS p = 0) with
    | false =>
      rw [c1] at h
      simp only [Bool.false_eq_true, if_false] at h
      rcases h with ⟨rfl, rfl⟩ | ⟨rfl, rfl⟩ | ⟨rfl, rfl⟩ | ⟨rfl, rfl⟩ <;> simp (maxSteps := 1000000) only [go_sem, acondK_bool, acB_merge, Nat.reduceLT, Nat.reduceLeDiff, Nat.reduceEqDiff, Nat.reduceAdd, Nat.reduceSub, Nat.reduceMul, Nat.reduceBEq, Nat.reduceBNe, Nat.reduceBneDiff, Nat.reduceBeqDiff, Int.reduceToNat, Int.reduceLE, Int.reduceLT, Int.reduceEq, Int.reduceNe, Int.reduceNeg, Int.reduceAdd, Int.reduceSub, ↓reduceIte, reduceCtorEq, List.getElem?_toArray, List.getElem?_cons_zero, List.getElem?_cons_succ, List.length_cons, List.length_nil, List.take_succ_cons, List.take_zero, List.drop_succ_cons, List.drop_zero, List.drop_nil, List.take_nil, List.nil_append, List.cons_append, List.append_nil, List.contains_cons, List.contains_nil, Bool.or_false, Bool.false_or, Bool.or_true, Bool.true_or, Bool.and_true, Bool.true_and, Bool.and_false, Bool.false_and, Bool.not_true, Bool.not_false, Bool.not_not, Option.isSome_some, Option.isSome_none, List.map_cons, List.map_nil, ite_not, not_true_eq_false, not_false_eq_true, Nat.zero_add, Nat.add_zero, k_drawn_q, d1, c1]
    | true =>
      rw [c1] at h
      simp only [if_true] at h
      have b1 := up (bodyC p hp (det_vld (by simpa using c1)) A)
      rcases h with ⟨rfl, rfl⟩ | ⟨rfl, rfl⟩ | ⟨rfl, rfl⟩ | ⟨rfl, rfl⟩ <;> simp (maxSteps := 1000000) only [go_sem, acondK_bool, acB_merge, Nat.reduceLT, Nat.reduceLeDiff, Nat.reduceEqDiff, Nat.reduceAdd, Nat.reduceSub, Nat.reduceMul, Nat.reduceBEq, Nat.reduceBNe, Nat.reduceBneDiff, Nat.reduceBeqDiff, Int.reduceToNat, Int.reduceLE, Int.reduceLT, Int.reduceEq, Int.reduceNe, Int.reduceNeg, Int.reduceAdd, Int.reduceSub, ↓reduceIte, reduceCtorEq, List.getElem?_toArray, List.getElem?_cons_zero, List.getElem?_cons_succ, List.length_cons, List.length_nil, List.take_succ_cons, List.take_zero, List.drop_succ_cons, List.drop_zero, List.drop_nil, List.take_nil, List.nil_append, List.cons_append, List.append_nil, List.contains_cons, List.contains_nil, Bool.or_false, Bool.false_or, Bool.or_true, Bool.true_or, Bool.and_true, Bool.true_and, Bool.and_false, Bool.false_and, Bool.not_true, Bool.not_false, Bool.not_not, Option.isSome_some, Option.isSome_none, List.map_cons, List.map_nil, ite_not, not_true_eq_false, not_false_eq_true, Nat.zero_add, Nat.add_zero, k_drawn_q, d1, c1, b1]
  have k0 := key 0 _ (.inl ⟨rfl, rfl⟩)
  have k1 := key 1 _ (.inr (.inl ⟨rfl, rfl⟩))
  have k2 := key 2 _ (.inr (.inr (.inl ⟨rfl, rfl⟩)))
  have k3 := key 3 _ (.inr (.inr (.inr ⟨rfl, rfl⟩)))
  refine ⟨?_, ?_, ?_, ?_⟩
  · rw [k_call (c := D) (f := 15) rfl Try.func15 rfl (ok 15 (by kernel_rfl)) rfl Try.ntmps15 Try.results15 (by simp)]
    simp (maxSteps := 1000000) only [go_sem, acondK_bool, acB_merge, Nat.reduceLT, Nat.reduceLeDiff, Nat.reduceEqDiff, Nat.reduceAdd, Nat.reduceSub, Nat.reduceMul, Nat.reduceBEq, Nat.reduceBNe, Nat.reduceBneDiff, Nat.reduceBeqDiff, Int.reduceToNat, Int.reduceLE, Int.reduceLT, Int.reduceEq, Int.reduceNe, Int.reduceNeg, Int.reduceAdd, Int.reduceSub, ↓reduceIte, reduceCtorEq, List.getElem?_toArray, List.getElem?_cons_zero, List.getElem?_cons_succ, List.length_cons, List.length_nil, List.take_succ_cons, List.take_zero, List.drop_succ_cons, List.drop_zero, List.drop_nil, List.take_nil, List.nil_append, List.cons_append, List.append_nil, List.contains_cons, List.contains_nil, Bool.or_false, Bool.false_or, Bool.or_true, Bool.true_or, Bool.and_true, Bool.true_and, Bool.and_false, Bool.false_and, Bool.not_true, Bool.not_false, Bool.not_not, Option.isSome_some, Option.isSome_none, List.map_cons, List.map_nil, ite_not, not_true_eq_false, not_false_eq_true, Nat.zero_add, Nat.add_zero, k_drawn_q, k0]
  · rw [k_call (c := D) (f := 16) rfl Try.func16 rfl (ok 16 (by kernel_rfl)) rfl Try.ntmps16 Try.results16 (by simp)]
    simp (maxSteps := 1000000) only [go_sem, acondK_bool, acB_merge, Nat.reduceLT, Nat.reduceLeDiff, Nat.reduceEqDiff, Nat.reduceAdd, Nat.reduceSub, Nat.reduceMul, Nat.reduceBEq, Nat.reduceBNe, Nat.reduceBneDiff, Nat.reduceBeqDiff, Int.reduceToNat, Int.reduceLE, Int.reduceLT, Int.reduceEq, Int.reduceNe, Int.reduceNeg, Int.reduceAdd, Int.reduceSub, ↓reduceIte, reduceCtorEq, List.getElem?_toArray, List.getElem?_cons_zero, List.getElem?_cons_succ, List.length_cons, List.length_nil, List.take_succ_cons, List.take_zero, List.drop_succ_cons, List.drop_zero, List.drop_nil, List.take_nil, List.nil_append, List.cons_append, List.append_nil, List.contains_cons, List.contains_nil, Bool.or_false, Bool.false_or, Bool.or_true, Bool.true_or, Bool.and_true, Bool.true_and, Bool.and_false, Bool.false_and, Bool.not_true, Bool.not_false, Bool.not_not, Option.isSome_some, Option.isSome_none, List.map_cons, List.map_nil, ite_not, not_true_eq_false, not_false_eq_true, Nat.zero_add, Nat.add_zero, k_drawn_q, k1]
  · rw [k_call (c := D) (f := 17) rfl Try.func17 rfl (ok 17 (by kernel_rfl)) rfl Try.ntmps17 Try.results17 (by simp)]
    simp (maxSteps := 1000000) only [go_sem, acondK_bool, acB_merge, Nat.reduceLT, Nat.reduceLeDiff, Nat.reduceEqDiff, Nat.reduceAdd, Nat.reduceSub, Nat.reduceMul, Nat.reduceBEq, Nat.reduceBNe, Nat.reduceBneDiff, Nat.reduceBeqDiff, Int.reduceToNat, Int.reduceLE, Int.reduceLT, Int.reduceEq, Int.reduceNe, Int.reduceNeg, Int.reduceAdd, Int.reduceSub, ↓reduceIte, reduceCtorEq, List.getElem?_toArray, List.getElem?_cons_zero, List.getElem?_cons_succ, List.length_cons, List.length_nil, List.take_succ_cons, List.take_zero, List.drop_succ_cons, List.drop_zero, List.drop_nil, List.take_nil, List.nil_append, List.cons_append, List.append_nil, List.contains_cons, List.contains_nil, Bool.or_false, Bool.false_or, Bool.or_true, Bool.true_or, Bool.and_true, Bool.true_and, Bool.and_false, Bool.false_and, Bool.not_true, Bool.not_false, Bool.not_not, Option.isSome_some, Option.isSome_none, List.map_cons, List.map_nil, ite_not, not_true_eq_false, not_false_eq_true, Nat.zero_add, Nat.add_zero, k_drawn_q, k2]
  · rw [k_call (c := D) (f := 18) rfl Try.func18 rfl (ok 18 (by kernel_rfl)) rfl Try.ntmps18 Try.results18 (by simp)]
    simp (maxSteps := 1000000) only [go_sem, acondK_bool, acB_merge, Nat.reduceLT, Nat.reduceLeDiff, Nat.reduceEqDiff, Nat.reduceAdd, Nat.reduceSub, Nat.reduceMul, Nat.reduceBEq, Nat.reduceBNe, Nat.reduceBneDiff, Nat.reduceBeqDiff, Int.reduceToNat, Int.reduceLE, Int.reduceLT, Int.reduceEq, Int.reduceNe, Int.reduceNeg, Int.reduceAdd, Int.reduceSub, ↓reduceIte, reduceCtorEq, List.getElem?_toArray, List.getElem?_cons_zero, List.getElem?_cons_succ, List.length_cons, List.length_nil, List.take_succ_cons, List.take_zero, List.drop_succ_cons, List.drop_zero, List.drop_nil, List.take_nil, List.nil_append, List.cons_append, List.append_nil, List.contains_cons, List.contains_nil, Bool.or_false, Bool.false_or, Bool.or_true, Bool.true_or, Bool.and_true, Bool.true_and, Bool.and_false, Bool.false_and, Bool.not_true, Bool.not_false, Bool.not_not, Option.isSome_some, Option.isSome_none, List.map_cons, List.map_nil, ite_not, not_true_eq_false, not_false_eq_true, Nat.zero_add, Nat.add_zero, k_drawn_q, k3]
theorem costD (p : Pr) (hp : p.Ok) (A : AHeap) : acl D 7 [Pr.av p] A = some (.d (.int .i64 (costC p)), A) := by
  have d1 := detD p hp A
  rw [k_call (c := D) (f := 7) rfl Try.func7 rfl (ok 7 (by kernel_rfl)) rfl Try.ntmps7 Try.results7 (by simp)]
  unfold costC
  cases c1 : decide (detS p = 0) with
  | false => simp (maxSteps := 1000000) only [go_sem, acondK_bool, acB_merge, Nat.reduceLT, Nat.reduceLeDiff, Nat.reduceEqDiff, Nat.reduceAdd, Nat.reduceSub, Nat.reduceMul, Nat.reduceBEq, Nat.reduceBNe, Nat.reduceBneDiff, Nat.reduceBeqDiff, Int.reduceToNat, Int.reduceLE, Int.reduceLT, Int.reduceEq, Int.reduceNe, Int.reduceNeg, Int.reduceAdd, Int.reduceSub, ↓reduceIte, reduceCtorEq, List.getElem?_toArray, List.getElem?_cons_zero, List.getElem?_cons_succ, List.length_cons, List.length_nil, List.take_succ_cons, List.take_zero, List.drop_succ_cons, List.drop_zero, List.drop_nil, List.take_nil, List.nil_append, List.cons_append, List.append_nil, List.contains_cons, List.contains_nil, Bool.or_false, Bool.false_or, Bool.or_true, Bool.true_or, Bool.and_true, Bool.true_and, Bool.and_false, Bool.false_and, Bool.not_true, Bool.not_false, Bool.not_not, Option.isSome_some, Option.isSome_none, List.map_cons, List.map_nil, ite_not, not_true_eq_false, not_false_eq_true, Nat.zero_add, Nat.add_zero, k_drawn_q, d1, c1]
  | true =>
    have b1 := up (bodyC p hp (det_vld (by simpa using c1)) A)
    unfold limS
    generalize (tSs p.body).cut = k at *
    cases q1 : decide (16384 < k.s) with
    | true => simp (maxSteps := 1000000) only [go_sem, acondK_bool, acB_merge, Nat.reduceLT, Nat.reduceLeDiff, Nat.reduceEqDiff, Nat.reduceAdd, Nat.reduceSub, Nat.reduceMul, Nat.reduceBEq, Nat.reduceBNe, Nat.reduceBneDiff, Nat.reduceBeqDiff, Int.reduceToNat, Int.reduceLE, Int.reduceLT, Int.reduceEq, Int.reduceNe, Int.reduceNeg, Int.reduceAdd, Int.reduceSub, ↓reduceIte, reduceCtorEq, List.getElem?_toArray, List.getElem?_cons_zero, List.getElem?_cons_succ, List.length_cons, List.length_nil, List.take_succ_cons, List.take_zero, List.drop_succ_cons, List.drop_zero, List.drop_nil, List.take_nil, List.nil_append, List.cons_append, List.append_nil, List.contains_cons, List.contains_nil, Bool.or_false, Bool.false_or, Bool.or_true, Bool.true_or, Bool.and_true, Bool.true_and, Bool.and_false, Bool.false_and, Bool.not_true, Bool.not_false, Bool.not_not, Option.isSome_some, Option.isSome_none, List.map_cons, List.map_nil, ite_not, not_true_eq_false, not_false_eq_true, Nat.zero_add, Nat.add_zero, k_drawn_q, d1, c1, b1, q1]
    | false => cases q2 : decide (64 < k.g) <;> cases q3 : decide (64 < k.p) <;> cases q4 : decide (16 < k.e) <;> simp (maxSteps := 1000000) only [go_sem, acondK_bool, acB_merge, Nat.reduceLT, Nat.reduceLeDiff, Nat.reduceEqDiff, Nat.reduceAdd, Nat.reduceSub, Nat.reduceMul, Nat.reduceBEq, Nat.reduceBNe, Nat.reduceBneDiff, Nat.reduceBeqDiff, Int.reduceToNat, Int.reduceLE, Int.reduceLT, Int.reduceEq, Int.reduceNe, Int.reduceNeg, Int.reduceAdd, Int.reduceSub, ↓reduceIte, reduceCtorEq, List.getElem?_toArray, List.getElem?_cons_zero, List.getElem?_cons_succ, List.length_cons, List.length_nil, List.take_succ_cons, List.take_zero, List.drop_succ_cons, List.drop_zero, List.drop_nil, List.take_nil, List.nil_append, List.cons_append, List.append_nil, List.contains_cons, List.contains_nil, Bool.or_false, Bool.false_or, Bool.or_true, Bool.true_or, Bool.and_true, Bool.true_and, Bool.and_false, Bool.false_and, Bool.not_true, Bool.not_false, Bool.not_not, Option.isSome_some, Option.isSome_none, List.map_cons, List.map_nil, ite_not, not_true_eq_false, not_false_eq_true, Nat.zero_add, Nat.add_zero, k_drawn_q, d1, c1, b1, q1, q2, q3, q4]
theorem ofD (p : Pr) (hp : p.Ok) (A : AHeap) : acl D 10 [Pr.av p] A = some ((costS p).av, A) := by
  obtain ⟨k0, k1, k2, k3⟩ := stepsD p hp A
  rw [k_call (c := D) (f := 10) rfl Try.func10 rfl (ok 10 (by kernel_rfl)) rfl Try.ntmps10 Try.results10 (by simp)]
  simp (maxSteps := 1000000) only [go_sem, acondK_bool, acB_merge, Nat.reduceLT, Nat.reduceLeDiff, Nat.reduceEqDiff, Nat.reduceAdd, Nat.reduceSub, Nat.reduceMul, Nat.reduceBEq, Nat.reduceBNe, Nat.reduceBneDiff, Nat.reduceBeqDiff, Int.reduceToNat, Int.reduceLE, Int.reduceLT, Int.reduceEq, Int.reduceNe, Int.reduceNeg, Int.reduceAdd, Int.reduceSub, ↓reduceIte, reduceCtorEq, List.getElem?_toArray, List.getElem?_cons_zero, List.getElem?_cons_succ, List.length_cons, List.length_nil, List.take_succ_cons, List.take_zero, List.drop_succ_cons, List.drop_zero, List.drop_nil, List.take_nil, List.nil_append, List.cons_append, List.append_nil, List.contains_cons, List.contains_nil, Bool.or_false, Bool.false_or, Bool.or_true, Bool.true_or, Bool.and_true, Bool.true_and, Bool.and_false, Bool.false_and, Bool.not_true, Bool.not_false, Bool.not_not, Option.isSome_some, Option.isSome_none, List.map_cons, List.map_nil, ite_not, not_true_eq_false, not_false_eq_true, Nat.zero_add, Nat.add_zero, k_drawn_t, k0, k1, k2, k3]
  refine Eq.trans (ctE_ok (by repeat (first | exact MLe.nil | apply MLe.qq | apply MLe.q | apply MLe.o | apply MLe.b | apply MLe.l)) (by kernel_rfl)) ?_
  simp (maxSteps := 1000000) only [go_sem, acondK_bool, acB_merge, Nat.reduceLT, Nat.reduceLeDiff, Nat.reduceEqDiff, Nat.reduceAdd, Nat.reduceSub, Nat.reduceMul, Nat.reduceBEq, Nat.reduceBNe, Nat.reduceBneDiff, Nat.reduceBeqDiff, Int.reduceToNat, Int.reduceLE, Int.reduceLT, Int.reduceEq, Int.reduceNe, Int.reduceNeg, Int.reduceAdd, Int.reduceSub, ↓reduceIte, reduceCtorEq, List.getElem?_toArray, List.getElem?_cons_zero, List.getElem?_cons_succ, List.length_cons, List.length_nil, List.take_succ_cons, List.take_zero, List.drop_succ_cons, List.drop_zero, List.drop_nil, List.take_nil, List.nil_append, List.cons_append, List.append_nil, List.contains_cons, List.contains_nil, Bool.or_false, Bool.false_or, Bool.or_true, Bool.true_or, Bool.and_true, Bool.true_and, Bool.and_false, Bool.false_and, Bool.not_true, Bool.not_false, Bool.not_not, Option.isSome_some, Option.isSome_none, List.map_cons, List.map_nil, ite_not, not_true_eq_false, not_false_eq_true, Nat.zero_add, Nat.add_zero]
end Go.Proofs.Ytencofeioaonpaa
