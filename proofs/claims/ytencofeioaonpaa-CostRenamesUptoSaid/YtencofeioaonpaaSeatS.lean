/- Renaming a variable does not change the counts: the law. -/
import Derived.Test.YtencofeioaonpaaSeatR
import Derived.Test.YtencofeioaonpaaSeatP
set_option linter.unusedVariables false
set_option linter.unusedSimpArgs false
set_option linter.all false
set_option linter.deprecated false
set_option linter.all false
namespace Go.Proofs.Ytencofeioaonpaa
open Go.Abs
-- CTX D
attribute [local congr] ite_congr
set_option maxRecDepth 10000
section
variable {a b : Bytes}
mutual
theorem ops_ren : ∀ e : E, opsE (renE a b e) = opsE e
  | .mk op n s args => by rw [renE, opsE, opsE, ops_rens args]
theorem ops_rens : ∀ l : List E, opsEs (renEs a b l) = opsEs l
  | [] => rfl
  | x :: l => by rw [renEs, opsEs, opsEs, ops_ren x, ops_rens l]
end
mutual
theorem tE_ren : ∀ e : E, tE (renE a b e) = tE e
  | .mk op n s args => by rw [renE, tE, tE, tEs_ren args]
theorem tEs_ren : ∀ l : List E, tEs (renEs a b l) = tEs l
  | [] => rfl
  | x :: l => by rw [renEs, tEs, tEs, tE_ren x, tEs_ren l]
end
mutual
theorem tS_ren : ∀ x : Stm, tS (renS a b x) = tS x
  | .mk op name max x y body els => by
    rw [renS, tS, tS, tSs_ren body, tSs_ren els]
    unfold ownK
    rw [tE_ren, tE_ren]
theorem tSs_ren : ∀ l : List Stm, tSs (renSs a b l) = tSs l
  | [] => rfl
  | x :: l => by rw [renSs, tSs, tSs, tS_ren x, tSs_ren l]
end
theorem roots_ren : ∀ l : List Vis, opsEs (rootsV (l.map (renV a b))) = opsEs (rootsV l)
  | [] => rfl
  | .s x d :: l => by
    show opsEs (rootsV (l.map (renV a b))) = opsEs (rootsV l)
    exact roots_ren l
  | .e x true :: l => by
    show opsEs (renE a b x :: rootsV (l.map (renV a b))) = opsEs (x :: rootsV l)
    rw [opsEs, opsEs, ops_ren, roots_ren l]
  | .e x false :: l => by
    show opsEs (rootsV (l.map (renV a b))) = opsEs (rootsV l)
    exact roots_ren l
theorem detS_ren (ha : isName a = true) (hb : isName b = true) {p : Pr} (V : Vld p) (ho : occT p b = false) : detS (renP a b p) = detS p := by
  obtain ⟨e1, -⟩ := chkS_ren ha hb V ho
  have V2 := vld_ren ha hb V ho
  unfold detS
  rw [e1]
  unfold fstP
  rw [if_pos ((valS_zero _).2 V2), if_pos ((valS_zero _).2 V)]
  unfold exprsS
  rw [visP_ren, roots_ren]
end
theorem lawCostRenames (p : Pr) (a b : Bytes) (hp : p.Ok) (ha : a.length ≤ 1048576) (hb : b.length ≤ 1048576) : acl D 5 [Pr.av p, .d (.str a), .d (.str b)] A00 = some (.d (.bool true), A00) := by
  have sm := up (small p hp 150 A00)
  have w := works
  rw [k_call (c := D) (f := 5) rfl Try.func5 rfl (ok 5 (by kernel_rfl)) rfl Try.ntmps5 Try.results5 (by simp)]
  cases hs : smallS p 150 with
  | false => simp (maxSteps := 1000000) only [go_sem, acondK_bool, acB_merge, Nat.reduceLT, Nat.reduceLeDiff, Nat.reduceEqDiff, Nat.reduceAdd, Nat.reduceSub, Nat.reduceMul, Nat.reduceBEq, Nat.reduceBNe, Nat.reduceBneDiff, Nat.reduceBeqDiff, Int.reduceToNat, Int.reduceLE, Int.reduceLT, Int.reduceEq, Int.reduceNe, Int.reduceNeg, Int.reduceAdd, Int.reduceSub, ↓reduceIte, reduceCtorEq, List.getElem?_toArray, List.getElem?_cons_zero, List.getElem?_cons_succ, List.length_cons, List.length_nil, List.take_succ_cons, List.take_zero, List.drop_succ_cons, List.drop_zero, List.drop_nil, List.take_nil, List.nil_append, List.cons_append, List.append_nil, List.contains_cons, List.contains_nil, Bool.or_false, Bool.false_or, Bool.or_true, Bool.true_or, Bool.and_true, Bool.true_and, Bool.and_false, Bool.false_and, Bool.not_true, Bool.not_false, Bool.not_not, Option.isSome_some, Option.isSome_none, List.map_cons, List.map_nil, ite_not, not_true_eq_false, not_false_eq_true, Nat.zero_add, Nat.add_zero, k_drawn_q, sm, w, hs]
  | true =>
  cases h4 : decide (100 < (a.length : Int)) with
  | true => simp (maxSteps := 1000000) only [go_sem, acondK_bool, acB_merge, Nat.reduceLT, Nat.reduceLeDiff, Nat.reduceEqDiff, Nat.reduceAdd, Nat.reduceSub, Nat.reduceMul, Nat.reduceBEq, Nat.reduceBNe, Nat.reduceBneDiff, Nat.reduceBeqDiff, Int.reduceToNat, Int.reduceLE, Int.reduceLT, Int.reduceEq, Int.reduceNe, Int.reduceNeg, Int.reduceAdd, Int.reduceSub, ↓reduceIte, reduceCtorEq, List.getElem?_toArray, List.getElem?_cons_zero, List.getElem?_cons_succ, List.length_cons, List.length_nil, List.take_succ_cons, List.take_zero, List.drop_succ_cons, List.drop_zero, List.drop_nil, List.take_nil, List.nil_append, List.cons_append, List.append_nil, List.contains_cons, List.contains_nil, Bool.or_false, Bool.false_or, Bool.or_true, Bool.true_or, Bool.and_true, Bool.true_and, Bool.and_false, Bool.false_and, Bool.not_true, Bool.not_false, Bool.not_not, Option.isSome_some, Option.isSome_none, List.map_cons, List.map_nil, ite_not, not_true_eq_false, not_false_eq_true, Nat.zero_add, Nat.add_zero, k_drawn_q, sm, w, hs, h4]
  | false =>
  cases h5 : decide (100 < (b.length : Int)) with
  | true => simp (maxSteps := 1000000) only [go_sem, acondK_bool, acB_merge, Nat.reduceLT, Nat.reduceLeDiff, Nat.reduceEqDiff, Nat.reduceAdd, Nat.reduceSub, Nat.reduceMul, Nat.reduceBEq, Nat.reduceBNe, Nat.reduceBneDiff, Nat.reduceBeqDiff, Int.reduceToNat, Int.reduceLE, Int.reduceLT, Int.reduceEq, Int.reduceNe, Int.reduceNeg, Int.reduceAdd, Int.reduceSub, ↓reduceIte, reduceCtorEq, List.getElem?_toArray, List.getElem?_cons_zero, List.getElem?_cons_succ, List.length_cons, List.length_nil, List.take_succ_cons, List.take_zero, List.drop_succ_cons, List.drop_zero, List.drop_nil, List.take_nil, List.nil_append, List.cons_append, List.append_nil, List.contains_cons, List.contains_nil, Bool.or_false, Bool.false_or, Bool.or_true, Bool.true_or, Bool.and_true, Bool.true_and, Bool.and_false, Bool.false_and, Bool.not_true, Bool.not_false, Bool.not_not, Option.isSome_some, Option.isSome_none, List.map_cons, List.map_nil, ite_not, not_true_eq_false, not_false_eq_true, Nat.zero_add, Nat.add_zero, k_drawn_q, sm, w, hs, h4, h5]
  | false =>
  have h40 := small40 hs
  have r1 := up (rename p hp h40 a b (by omega) (rename_ne p a) A00)
  rcases rnm_cases p a b with ⟨k1, k2⟩ | ⟨k1, V, hbn, han, hoc⟩
  · have d1 : decide ((rnmS p a b).2 = 0) = false := by simpa using k2
    simp (maxSteps := 1000000) only [go_sem, acondK_bool, acB_merge, Nat.reduceLT, Nat.reduceLeDiff, Nat.reduceEqDiff, Nat.reduceAdd, Nat.reduceSub, Nat.reduceMul, Nat.reduceBEq, Nat.reduceBNe, Nat.reduceBneDiff, Nat.reduceBeqDiff, Int.reduceToNat, Int.reduceLE, Int.reduceLT, Int.reduceEq, Int.reduceNe, Int.reduceNeg, Int.reduceAdd, Int.reduceSub, ↓reduceIte, reduceCtorEq, List.getElem?_toArray, List.getElem?_cons_zero, List.getElem?_cons_succ, List.length_cons, List.length_nil, List.take_succ_cons, List.take_zero, List.drop_succ_cons, List.drop_zero, List.drop_nil, List.take_nil, List.nil_append, List.cons_append, List.append_nil, List.contains_cons, List.contains_nil, Bool.or_false, Bool.false_or, Bool.or_true, Bool.true_or, Bool.and_true, Bool.true_and, Bool.and_false, Bool.false_and, Bool.not_true, Bool.not_false, Bool.not_not, Option.isSome_some, Option.isSome_none, List.map_cons, List.map_nil, ite_not, not_true_eq_false, not_false_eq_true, Nat.zero_add, Nat.add_zero, k_drawn_q, sm, w, hs, h4, h5, r1, d1]
  · rw [k1] at r1
    rw [occ_eq V (isName_ne hbn)] at hoc
    have han' := V.isName han
    have e1 := detS_ren han' hbn V hoc
    have hq : (renP a b p).Ok := renP_ok (by omega) p hp
    have o1 := ofD p hp A00
    have o2 := ofD _ hq A00
    have c1 := costD p hp A00
    have c2 := costD _ hq A00
    have q1 : costS (renP a b p) = costS p := by
      unfold costS
      rw [e1]
      show (if _ then (tSs (renSs a b p.body)).cut else _) = _
      rw [tSs_ren]
    have q2 : costC (renP a b p) = costC p := by
      unfold costC
      rw [e1]
      show (if _ then limS (tSs (renSs a b p.body)).cut else _) = _
      rw [tSs_ren]
    rw [q1] at o2
    rw [q2] at c2
    simp (maxSteps := 1000000) only [go_sem, acondK_bool, acB_merge, Nat.reduceLT, Nat.reduceLeDiff, Nat.reduceEqDiff, Nat.reduceAdd, Nat.reduceSub, Nat.reduceMul, Nat.reduceBEq, Nat.reduceBNe, Nat.reduceBneDiff, Nat.reduceBeqDiff, Int.reduceToNat, Int.reduceLE, Int.reduceLT, Int.reduceEq, Int.reduceNe, Int.reduceNeg, Int.reduceAdd, Int.reduceSub, ↓reduceIte, reduceCtorEq, List.getElem?_toArray, List.getElem?_cons_zero, List.getElem?_cons_succ, List.length_cons, List.length_nil, List.take_succ_cons, List.take_zero, List.drop_succ_cons, List.drop_zero, List.drop_nil, List.take_nil, List.nil_append, List.cons_append, List.append_nil, List.contains_cons, List.contains_nil, Bool.or_false, Bool.false_or, Bool.or_true, Bool.true_or, Bool.and_true, Bool.true_and, Bool.and_false, Bool.false_and, Bool.not_true, Bool.not_false, Bool.not_not, Option.isSome_some, Option.isSome_none, List.map_cons, List.map_nil, ite_not, not_true_eq_false, not_false_eq_true, Nat.zero_add, Nat.add_zero, k_drawn_q, sm, w, hs, h4, h5, r1, o1, o2, c1, c2]
end Go.Proofs.Ytencofeioaonpaa
