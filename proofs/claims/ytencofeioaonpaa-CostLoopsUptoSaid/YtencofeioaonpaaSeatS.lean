/- Renaming a variable does not change the counts: the law. -/
import Derived.Test.YtencofeioaonpaaSeatR
import Derived.Test.YtencofeioaonpaaSeatP
set_option linter.unusedVariables false
set_option linter.unusedSimpArgs false
set_option linter.all false
set_option linter.deprecated false
set_option linter.all false
namespace Go.Proofs.Ytencofeioaonpaa
open Go.Abs
-- CTX D
attribute [local congr] ite_congr
set_option maxRecDepth 10000
section
variable {a b : Bytes}
mutual
theorem ops_ren : ∀ e : E, opsE (renE a b e) = opsE e
  | .mk op n s args => by rw [renE, opsE, opsE, ops_rens args]
theorem ops_rens : ∀ l : List E, opsEs (renEs a b l) = opsEs l
  | [] => rfl
  | x :: l => by rw [renEs, opsEs, opsEs, ops_ren x, ops_rens l]
end
mutual
theorem tE_ren : ∀ e : E, tE (renE a b e) = tE e
  | .mk op n s args => by rw [renE, tE, tE, tEs_ren args]
theorem tEs_ren : ∀ l : List E, tEs (renEs a b l) = tEs l
  | [] => rfl
  | x :: l => by rw [renEs, tEs, tEs, tE_ren x, tEs_ren l]
end
mutual
theorem tS_ren : ∀ x : Stm, tS (renS a b x) = tS x
  | .mk op name max x y body els => by
    rw [renS, tS, tS, tSs_ren body, tSs_ren els]
    unfold ownK
    rw [tE_ren, tE_ren]
theorem tSs_ren : ∀ l : List Stm, tSs (renSs a b l) = tSs l
  | [] => rfl
  | x :: l => by rw [renSs, tSs, tSs, tS_ren x, tSs_ren l]
end
theorem roots_ren : ∀ l : List Vis, opsEs (rootsV (l.map (renV a b))) = opsEs (rootsV l)
  | [] => rfl
  | .s x d :: l => by
    show opsEs (rootsV (l.map (renV a b))) = opsEs (rootsV l)
    exact roots_ren l
  | .e x true :: l => by
    show opsEs (renE a b x :: rootsV (l.map (renV a b))) = opsEs (x :: rootsV l)
    rw [opsEs, opsEs, ops_ren, roots_ren l]
  | .e x false :: l => by
    show opsEs (rootsV (l.map (renV a b))) = opsEs (rootsV l)
    exact roots_ren l
theorem detS_ren (ha : isName a = true) (hb : isName b = true) {p : Pr} (V : Vld p) (ho : occT p b = false) : detS (renP a b p) = detS p := by
  obtain ⟨e1, -⟩ := chkS_ren ha hb V ho
  have V2 := vld_ren ha hb V ho
  unfold detS
  rw [e1]
  unfold fstP
  rw [if_pos ((valS_zero _).2 V2), if_pos ((valS_zero _).2 V)]
  unfold exprsS
  rw [visP_ren, roots_ren]
end
theorem lawCostRenames (p : Pr) (a b : Bytes) (hp : p.Ok) (ha : a.length ≤ 1048576) (hb : b.length ≤ 1048576) : acl D 5 [Pr.av p, .d (.str a), .d (.str b)] A00 = some (.d (.bool true), A00) := by
  have sm := up (small p hp 150 A00)
  have w := works
  rw [k_call (c := D) (f := 5) rfl Try.func5 rfl (ok 5 (by kernel_rfl)) rfl Try.ntmps5 Try.results5 (by simp)]
  cases hs : smallS p 150 with
  | false => simp (maxSteps := 1000000) only [go_sem, acondK_bool, acB_merge, Nat.reduceLT, Nat.reduceLeDiff, Nat.reduceEqDiff, Nat.reduceAdd, Nat.reduceSub, Nat.reduceMul, Nat.reduceBEq, Nat.reduceBNe, Nat.reduceBneDiff, Nat.reduceBeqDiff, Int.reduceToNat, Int.reduceLE, Int.reduceLT, Int.reduceEq, Int.reduceNe, Int.reduceNeg, Int.reduceAdd, Int.reduceSub, ↓reduceIte, reduceCtorEq, List.getElem?_toArray, List.getElem?_cons_zero, List.getElem?_cons_succ, List.length_cons, List.length_nil, List.take_succ_cons, List.take_zero, List.drop_succ_cons, List.drop_zero, List.drop_nil, List.take_nil, List.nil_append, List.cons_append, List.append_nil, List.contains_cons, List.contains_nil, Bool.or_false, Bool.false_or, Bool.or_true, Bool.true_or, Bool.and_true, Bool.true_and, Bool.and_false, Bool.false_and, Bool.not_true, Bool.not_false, Bool.not_not, Option.isSome_some, Option.isSome_none, List.map_cons, List.map_nil, ite_not, not_true_eq_false, not_false_eq_true, Nat.zero_add, Nat.add_zero, k_drawn_q, sm, w, hs]
  | true =>
  cases h4 : decide (100 < (a.length : Int)) with
  | true => simp (maxSteps := 1000000) only [go_sem, acondK_bool, acB_merge, Nat.reduceLT, Nat.reduceLeDiff, Nat.reduceEqDiff, Nat.reduceAdd, Nat.reduceSub, Nat.reduceMul, Nat.reduceBEq, Nat.reduceBNe, Nat.reduceBneDiff, Nat.reduceBeqDiff, Int.reduceToNat, Int.reduceLE, Int.reduceLT, Int.reduceEq, Int.reduceNe, Int.reduceNeg, Int.reduceAdd, Int.reduceSub, ↓reduceIte, reduceCtorEq, List.getElem?_toArray, List.getElem?_cons_zero, List.getElem?_cons_succ, List.length_cons, List.length_nil, List.take_succ_cons, List.take_zero, List.drop_succ_cons, List.drop_zero, List.drop_nil, List.take_nil, List.nil_append, List.cons_append, List.append_nil, List.contains_cons, List.contains_nil, Bool.or_false, Bool.false_or, Bool.or_true, Bool.true_or, Bool.and_true, Bool.true_and, Bool.and_false, Bool.false_and, Bool.not_true, Bool.not_false, Bool.not_not, Option.isSome_some, Option.isSome_none, List.map_cons, List.map_nil, ite_not, not_true_eq_false, not_false_eq_true, Nat.zero_add, Nat.add_zero, k_drawn_q, sm, w, hs, h4]
  | false =>
  cases h5 : decide (100 < (b.length : Int)) with
  | true => simp (maxSteps := 1000000) only [go_sem, acondK_bool, acB_merge, Nat.reduceLT, Nat.reduceLeDiff, Nat.reduceEqDiff, Nat.reduceAdd, Nat.reduceSub, Nat.reduceMul, Nat.reduceBEq, Nat.reduceBNe, Nat.reduceBneDiff, Nat.reduceBeqDiff, Int.reduceToNat, Int.reduceLE, Int.reduceLT, Int.reduceEq, Int.reduceNe, Int.reduceNeg, Int.reduceAdd, Int.reduceSub, ↓reduceIte, reduceCtorEq, List.getElem?_toArray, List.getElem?_cons_zero, List.getElem?_cons_succ, List.length_cons, List.length_nil, List.take_succ_cons, List.take_zero, List.drop_succ_cons, List.drop_zero, List.drop_nil, List.take_nil, List.nil_append, List.cons_append, List.append_nil, List.contains_cons, List.contains_nil, Bool.or_false, Bool.false_or, Bool.or_true, Bool.true_or, Bool.and_true, Bool.true_and, Bool.and_false, Bool.false_and, Bool.not_true, Bool.not_false, Bool.not_not, Option.isSome_some, Option.isSome_none, List.map_cons, List.map_nil, ite_not, not_true_eq_false, not_false_eq_true, Nat.zero_add, Nat.add_zero, k_drawn_q, sm, w, hs, h4, h5]
  | false =>
  have h40 := small40 hs
  have r1 := up (rename p hp h40 a b (by omega) (rename_ne p a) A00)
  rcases rnm_cases p a b with ⟨k1, k2⟩ | ⟨k1, V, hbn, han, hoc⟩
  · have d1 : decide ((rnmS p a b).2 = 0) = false := by simpa using k2
    simp (maxSteps := 1000000) only [go_sem, acondK_bool, acB_merge, Nat.reduceLT, Nat.reduceLeDiff, Nat.reduceEqDiff, Nat.reduceAdd, Nat.reduceSub, Nat.reduceMul, Nat.reduceBEq, Nat.reduceBNe, Nat.reduceBneDiff, Nat.reduceBeqDiff, Int.reduceToNat, Int.reduceLE, Int.reduceLT, Int.reduceEq, Int.reduceNe, Int.reduceNeg, Int.reduceAdd, Int.reduceSub, ↓reduceIte, reduceCtorEq, List.getElem?_toArray, List.getElem?_cons_zero, List.getElem?_cons_succ, List.length_cons, List.length_nil, List.take_succ_cons, List.take_zero, List.drop_succ_cons, List.drop_zero, List.drop_nil, List.take_nil, List.nil_append, List.cons_append, List.append_nil, List.contains_cons, List.contains_nil, Bool.or_false, Bool.false_or, Bool.or_true, Bool.true_or, Bool.and_true, Bool.true_and, Bool.and_false, Bool.false_and, Bool.not_true, Bool.not_false, Bool.not_not, Option.isSome_some, Option.isSome_none, List.map_cons, List.map_nil, ite_not, not_true_eq_false, not_false_eq_true, Nat.zero_add, Nat.add_zero, k_drawn_q, sm, w, hs, h4, h5, r1, d1]
  · rw [k1] at r1
    rw [occ_eq V (isName_ne hbn)] at hoc
    have han' := V.isName han
    have e1 := detS_ren han' hbn V hoc
    have hq : (renP a b p).Ok := renP_ok (by omega) p hp
    have o1 := ofD p hp A00
    have o2 := ofD _ hq A00
    have c1 := costD p hp A00
    have c2 := costD _ hq A00
    have q1 : costS (renP a b p) = costS p := by
      unfold costS
      rw [e1]
      show (if _ then (tSs (renSs a b p.body)).cut else _) = _
      rw [tSs_ren]
    have q2 : costC (renP a b p) = costC p := by
      unfold costC
      rw [e1]
      show (if _ then limS (tSs (renSs a b p.body)).cut else _) = _
      rw [tSs_ren]
    rw [q1] at o2
    rw [q2] at c2
    simp (maxSteps := 1000000) only [go_sem, acondK_bool, acB_merge, Nat.reduceLT, Nat.reduceLeDiff, Nat.reduceEqDiff, Nat.reduceAdd, Nat.reduceSub, Nat.reduceMul, Nat.reduceBEq, Nat.reduceBNe, Nat.reduceBneDiff, Nat.reduceBeqDiff, Int.reduceToNat, Int.reduceLE, Int.reduceLT, Int.reduceEq, Int.reduceNe, Int.reduceNeg, Int.reduceAdd, Int.reduceSub, ↓reduceIte, reduceCtorEq, List.getElem?_toArray, List.getElem?_cons_zero, List.getElem?_cons_succ, List.length_cons, List.length_nil, List.take_succ_cons, List.take_zero, List.drop_succ_cons, List.drop_zero, List.drop_nil, List.take_nil, List.nil_append, List.cons_append, List.append_nil, List.contains_cons, List.contains_nil, Bool.or_false, Bool.false_or, Bool.or_true, Bool.true_or, Bool.and_true, Bool.true_and, Bool.and_false, Bool.false_and, Bool.not_true, Bool.not_false, Bool.not_not, Option.isSome_some, Option.isSome_none, List.map_cons, List.map_nil, ite_not, not_true_eq_false, not_false_eq_true, Nat.zero_add, Nat.add_zero, k_drawn_q, sm, w, hs, h4, h5, r1, o1, o2, c1, c2]
end Go.Proofs.Ytencofeioaonpaa
set_option linter.all false
namespace Go.Proofs.Ytencofeioaonpaa
open Go.Abs
-- CTX D
attribute [local congr] ite_congr
set_option maxRecDepth 10000
theorem cut_lt (x : Int) : (if x < 16385 then x else 16385) = cut x := by unfold cut; repeat' split <;> omega
def intE (n : Int) : E := .mk 1 n [] []
def loopS (name : Bytes) (n : Int) (l : List Stm) : Stm := .mk 6 name n (intE 0) (intE n) l []
theorem loop_counts (name : Bytes) (n : Int) (l : List Stm) (hn : 1 ≤ n) (h : (tSs l).Nn) : (tSs [loopS name n l]).cut = ⟨cut (1 + n * (1 + cut (tSs l).s)), cut (n * cut (tSs l).g), cut (n * cut (tSs l).p), cut (n * cut (tSs l).e)⟩ := by
  have e1 : cut (1 + n * (1 + cut (tSs l).s)) = cut (1 + n + (tSs l).s * n) := by
    have : 1 + n * (1 + cut (tSs l).s) = 1 + n + cut (tSs l).s * n := by rw [Int.mul_add, Int.mul_one, Int.mul_comm n (cut _)]; omega
    rw [this]
    have h1 := Int.mul_nonneg h.s (show 0 ≤ n by omega)
    have h2 := Int.mul_nonneg (cut_nn h.s) (show 0 ≤ n by omega)
    rw [← cut_cut h2 (by omega), cut_mul h.s (by omega), cut_cut h1 (by omega)]
  rw [e1, Int.mul_comm n (cut _), Int.mul_comm n (cut _), Int.mul_comm n (cut _), cut_mul h.g (by omega), cut_mul h.p (by omega), cut_mul h.e (by omega)]
  simp [tSs, tS, loopS, ownK, K.cut, K.add, K.mul, tE, tEs, intE, rdS, Int.add_assoc]
theorem full_clean (A : AHeap) (a b : Dat) (rows : List (List Dat)) : acleanVs A [.agg [.d a, .d b, .full rows]] = ([.agg [.d a, .d b, .d (.slice rows)]], A) := by rfl
theorem intE_ok {n : Int} (h : i64 n) : (intE n).Ok := .mk 1 n [] [] (by constructor <;> decide) h (by simp) (by simp) (by simp) (fun x hx => by cases hx)
theorem lawCostLoops (p : Pr) (name : Bytes) (n : Int) (hp : p.Ok) (hname : name.length ≤ 1048576) (hi : i64 n) : acl D 4 [Pr.av p, .d (.str name), .d (.int .i64 n)] A00 = some (.d (.bool true), A00) := by
  have sm := up (small p hp 150 A00)
  have w := works
  have d1 := detD p hp A00
  rw [k_call (c := D) (f := 4) rfl Try.func4 rfl (ok 4 (by kernel_rfl)) rfl Try.ntmps4 Try.results4 (by simp)]
  cases hs : smallS p 150 with
  | false => simp (maxSteps := 1000000) only [go_sem, acondK_bool, acB_merge, Nat.reduceLT, Nat.reduceLeDiff, Nat.reduceEqDiff, Nat.reduceAdd, Nat.reduceSub, Nat.reduceMul, Nat.reduceBEq, Nat.reduceBNe, Nat.reduceBneDiff, Nat.reduceBeqDiff, Int.reduceToNat, Int.reduceLE, Int.reduceLT, Int.reduceEq, Int.reduceNe, Int.reduceNeg, Int.reduceAdd, Int.reduceSub, ↓reduceIte, reduceCtorEq, List.getElem?_toArray, List.getElem?_cons_zero, List.getElem?_cons_succ, List.length_cons, List.length_nil, List.take_succ_cons, List.take_zero, List.drop_succ_cons, List.drop_zero, List.drop_nil, List.take_nil, List.nil_append, List.cons_append, List.append_nil, List.contains_cons, List.contains_nil, Bool.or_false, Bool.false_or, Bool.or_true, Bool.true_or, Bool.and_true, Bool.true_and, Bool.and_false, Bool.false_and, Bool.not_true, Bool.not_false, Bool.not_not, Option.isSome_some, Option.isSome_none, List.map_cons, List.map_nil, ite_not, not_true_eq_false, not_false_eq_true, Nat.zero_add, Nat.add_zero, k_drawn_q, sm, w, hs]
  | true =>
  cases h4 : decide (100 < (name.length : Int)) with
  | true => simp (maxSteps := 1000000) only [go_sem, acondK_bool, acB_merge, Nat.reduceLT, Nat.reduceLeDiff, Nat.reduceEqDiff, Nat.reduceAdd, Nat.reduceSub, Nat.reduceMul, Nat.reduceBEq, Nat.reduceBNe, Nat.reduceBneDiff, Nat.reduceBeqDiff, Int.reduceToNat, Int.reduceLE, Int.reduceLT, Int.reduceEq, Int.reduceNe, Int.reduceNeg, Int.reduceAdd, Int.reduceSub, ↓reduceIte, reduceCtorEq, List.getElem?_toArray, List.getElem?_cons_zero, List.getElem?_cons_succ, List.length_cons, List.length_nil, List.take_succ_cons, List.take_zero, List.drop_succ_cons, List.drop_zero, List.drop_nil, List.take_nil, List.nil_append, List.cons_append, List.append_nil, List.contains_cons, List.contains_nil, Bool.or_false, Bool.false_or, Bool.or_true, Bool.true_or, Bool.and_true, Bool.true_and, Bool.and_false, Bool.false_and, Bool.not_true, Bool.not_false, Bool.not_not, Option.isSome_some, Option.isSome_none, List.map_cons, List.map_nil, ite_not, not_true_eq_false, not_false_eq_true, Nat.zero_add, Nat.add_zero, k_drawn_q, sm, w, hs, h4]
  | false =>
  cases h5 : decide (n < 1) with
  | true => simp (maxSteps := 1000000) only [go_sem, acondK_bool, acB_merge, Nat.reduceLT, Nat.reduceLeDiff, Nat.reduceEqDiff, Nat.reduceAdd, Nat.reduceSub, Nat.reduceMul, Nat.reduceBEq, Nat.reduceBNe, Nat.reduceBneDiff, Nat.reduceBeqDiff, Int.reduceToNat, Int.reduceLE, Int.reduceLT, Int.reduceEq, Int.reduceNe, Int.reduceNeg, Int.reduceAdd, Int.reduceSub, ↓reduceIte, reduceCtorEq, List.getElem?_toArray, List.getElem?_cons_zero, List.getElem?_cons_succ, List.length_cons, List.length_nil, List.take_succ_cons, List.take_zero, List.drop_succ_cons, List.drop_zero, List.drop_nil, List.take_nil, List.nil_append, List.cons_append, List.append_nil, List.contains_cons, List.contains_nil, Bool.or_false, Bool.false_or, Bool.or_true, Bool.true_or, Bool.and_true, Bool.true_and, Bool.and_false, Bool.false_and, Bool.not_true, Bool.not_false, Bool.not_not, Option.isSome_some, Option.isSome_none, List.map_cons, List.map_nil, ite_not, not_true_eq_false, not_false_eq_true, Nat.zero_add, Nat.add_zero, k_drawn_q, sm, w, hs, h4, h5]
  | false =>
  cases h6 : decide (16 < n) with
  | true => simp (maxSteps := 1000000) only [go_sem, acondK_bool, acB_merge, Nat.reduceLT, Nat.reduceLeDiff, Nat.reduceEqDiff, Nat.reduceAdd, Nat.reduceSub, Nat.reduceMul, Nat.reduceBEq, Nat.reduceBNe, Nat.reduceBneDiff, Nat.reduceBeqDiff, Int.reduceToNat, Int.reduceLE, Int.reduceLT, Int.reduceEq, Int.reduceNe, Int.reduceNeg, Int.reduceAdd, Int.reduceSub, ↓reduceIte, reduceCtorEq, List.getElem?_toArray, List.getElem?_cons_zero, List.getElem?_cons_succ, List.length_cons, List.length_nil, List.take_succ_cons, List.take_zero, List.drop_succ_cons, List.drop_zero, List.drop_nil, List.take_nil, List.nil_append, List.cons_append, List.append_nil, List.contains_cons, List.contains_nil, Bool.or_false, Bool.false_or, Bool.or_true, Bool.true_or, Bool.and_true, Bool.true_and, Bool.and_false, Bool.false_and, Bool.not_true, Bool.not_false, Bool.not_not, Option.isSome_some, Option.isSome_none, List.map_cons, List.map_nil, ite_not, not_true_eq_false, not_false_eq_true, Nat.zero_add, Nat.add_zero, k_drawn_q, sm, w, hs, h4, h5, h6]
  | false =>
  cases h7 : decide (detS p = 0) with
  | false => simp (maxSteps := 1000000) only [go_sem, acondK_bool, acB_merge, Nat.reduceLT, Nat.reduceLeDiff, Nat.reduceEqDiff, Nat.reduceAdd, Nat.reduceSub, Nat.reduceMul, Nat.reduceBEq, Nat.reduceBNe, Nat.reduceBneDiff, Nat.reduceBeqDiff, Int.reduceToNat, Int.reduceLE, Int.reduceLT, Int.reduceEq, Int.reduceNe, Int.reduceNeg, Int.reduceAdd, Int.reduceSub, ↓reduceIte, reduceCtorEq, List.getElem?_toArray, List.getElem?_cons_zero, List.getElem?_cons_succ, List.length_cons, List.length_nil, List.take_succ_cons, List.take_zero, List.drop_succ_cons, List.drop_zero, List.drop_nil, List.take_nil, List.nil_append, List.cons_append, List.append_nil, List.contains_cons, List.contains_nil, Bool.or_false, Bool.false_or, Bool.or_true, Bool.true_or, Bool.and_true, Bool.true_and, Bool.and_false, Bool.false_and, Bool.not_true, Bool.not_false, Bool.not_not, Option.isSome_some, Option.isSome_none, List.map_cons, List.map_nil, ite_not, not_true_eq_false, not_false_eq_true, Nat.zero_add, Nat.add_zero, k_drawn_q, sm, w, hs, h4, h5, h6, d1, h7]
  | true =>
  have hn : 1 ≤ n ∧ n ≤ 16 := by simp at h5 h6; omega
  have V := det_vld (by simpa using h7 : detS p = 0)
  have hq : Pr.Ok ⟨p.name, p.params, [loopS name n p.body]⟩ := by
    refine ⟨hp.name, hp.plen, hp.params, by simp, ?_, hp.pfit, by simp⟩
    intro x hx
    rw [List.mem_singleton] at hx
    subst hx
    exact .mk 6 name n _ _ p.body [] (by constructor <;> decide) hi (by omega) (intE_ok (by constructor <;> decide)) (intE_ok hi) hp.blen (by simp) hp.bfit (by simp) hp.body (fun x hx => by cases hx)
  obtain ⟨rows, hrows⟩ : ∃ r, r = [(loopS name n p.body).row] := ⟨_, rfl⟩
  have hrow : rows = [[.int .i64 6, .str name, .int .i64 n, .int .i64 1, .int .i64 0, .str [], .slice [], .int .i64 1, .int .i64 n, .str [], .slice [], .slice (p.body.map Stm.row), .slice []]] := by
    rw [hrows, Stm.row_eq]
    rfl
  have av : Pr.av ⟨p.name, p.params, [loopS name n p.body]⟩ = .agg [.d (.str p.name), .d (.slice (p.params.map Pm.row)), .d (.slice rows)] := by rw [hrows]; rfl
  have d2 : acl D 11 [.agg [.d (.str p.name), .d (.slice (p.params.map Pm.row)), .full rows]] A00 = some (.d (.int .i64 (detS ⟨p.name, p.params, [loopS name n p.body]⟩)), A00) := by
    rw [← detD _ hq A00, av]
    exact acl_cleanD rfl Try.func11 rfl (ok 11 (by kernel_rfl)) (by rw [Try.ntmps11]; simp) (by rw [Try.ntmps11]; simp) rfl (full_clean ..) rfl rfl rfl
  have o2 : acl D 10 [.agg [.d (.str p.name), .d (.slice (p.params.map Pm.row)), .full rows]] A00 = some ((costS ⟨p.name, p.params, [loopS name n p.body]⟩).av, A00) := by
    rw [← ofD _ hq A00, av]
    exact acl_cleanD rfl Try.func10 rfl (ok 10 (by kernel_rfl)) (by rw [Try.ntmps10]; simp) (by rw [Try.ntmps10]; simp) rfl (full_clean ..) rfl rfl rfl
  have o1 := ofD p hp A00
  have hnn := tSs_nn p.body 1 V.stm
  have lc := loop_counts name n p.body hn.1 hnn
  change (tSs [loopS name n p.body]).cut = ⟨cut (1 + n * (1 + (tSs p.body).cut.s)), cut (n * (tSs p.body).cut.g), cut (n * (tSs p.body).cut.p), cut (n * (tSs p.body).cut.e)⟩ at lc
  have q1 : costS p = (tSs p.body).cut := by unfold costS; rw [if_pos h7]
  rw [q1] at o1
  rw [hrow] at d2 o2
  cases h8 : decide (detS ⟨p.name, p.params, [loopS name n p.body]⟩ = 0) with
  | false =>
    have q2 : costS ⟨p.name, p.params, [loopS name n p.body]⟩ = ⟨-1, -1, -1, -1⟩ := by unfold costS; rw [if_neg (by rw [h8]; decide)]
    rw [q2] at o2
    simp (maxSteps := 1000000) only [go_sem, acondK_bool, acB_merge, Nat.reduceLT, Nat.reduceLeDiff, Nat.reduceEqDiff, Nat.reduceAdd, Nat.reduceSub, Nat.reduceMul, Nat.reduceBEq, Nat.reduceBNe, Nat.reduceBneDiff, Nat.reduceBeqDiff, Int.reduceToNat, Int.reduceLE, Int.reduceLT, Int.reduceEq, Int.reduceNe, Int.reduceNeg, Int.reduceAdd, Int.reduceSub, ↓reduceIte, reduceCtorEq, List.getElem?_toArray, List.getElem?_cons_zero, List.getElem?_cons_succ, List.length_cons, List.length_nil, List.take_succ_cons, List.take_zero, List.drop_succ_cons, List.drop_zero, List.drop_nil, List.take_nil, List.nil_append, List.cons_append, List.append_nil, List.contains_cons, List.contains_nil, Bool.or_false, Bool.false_or, Bool.or_true, Bool.true_or, Bool.and_true, Bool.true_and, Bool.and_false, Bool.false_and, Bool.not_true, Bool.not_false, Bool.not_not, Option.isSome_some, Option.isSome_none, List.map_cons, List.map_nil, ite_not, not_true_eq_false, not_false_eq_true, Nat.zero_add, Nat.add_zero, k_drawn_t, sm, w, hs, h4, h5, h6, h7, d1, d2, h8, o2]
  | true =>
    have q2 : costS ⟨p.name, p.params, [loopS name n p.body]⟩ = (tSs [loopS name n p.body]).cut := by unfold costS; rw [if_pos h8]
    rw [q2, lc] at o2
    have ko := hnn.cut
    generalize (tSs p.body).cut = kk at *
    have g0 := ko.s
    have g1 := ko.g
    have g2 := ko.p
    have g3 := ko.e
    have u0 : 0 ≤ 1 + kk.s ∧ 1 + kk.s ≤ 100001 := by omega
    have x0 : IntKind.i64.wrap (1 + kk.s) = 1 + kk.s := by rw [wrap_in] <;> omega
    have m0 : ∀ y : Int, 0 ≤ y → y ≤ 100001 → 0 ≤ n * y ∧ n * y ≤ 16 * 100001 := fun y h h' => ⟨Int.mul_nonneg (by omega) h, Int.mul_le_mul hn.2 h' h (by decide)⟩
    have y0 := m0 _ u0.1 u0.2
    have y1 := m0 kk.g g1.1 (by omega)
    have y2 := m0 kk.p g2.1 (by omega)
    have y3 := m0 kk.e g3.1 (by omega)
    have x1 : IntKind.i64.wrap (n * (1 + kk.s)) = n * (1 + kk.s) := by rw [wrap_in] <;> omega
    have x2 : IntKind.i64.wrap (1 + n * (1 + kk.s)) = 1 + n * (1 + kk.s) := by rw [wrap_in] <;> omega
    have x3 : IntKind.i64.wrap (n * kk.g) = n * kk.g := by rw [wrap_in] <;> omega
    have x4 : IntKind.i64.wrap (n * kk.p) = n * kk.p := by rw [wrap_in] <;> omega
    have x5 : IntKind.i64.wrap (n * kk.e) = n * kk.e := by rw [wrap_in] <;> omega
    simp (maxSteps := 1000000) only [go_sem, acondK_bool, acB_merge, Nat.reduceLT, Nat.reduceLeDiff, Nat.reduceEqDiff, Nat.reduceAdd, Nat.reduceSub, Nat.reduceMul, Nat.reduceBEq, Nat.reduceBNe, Nat.reduceBneDiff, Nat.reduceBeqDiff, Int.reduceToNat, Int.reduceLE, Int.reduceLT, Int.reduceEq, Int.reduceNe, Int.reduceNeg, Int.reduceAdd, Int.reduceSub, ↓reduceIte, reduceCtorEq, List.getElem?_toArray, List.getElem?_cons_zero, List.getElem?_cons_succ, List.length_cons, List.length_nil, List.take_succ_cons, List.take_zero, List.drop_succ_cons, List.drop_zero, List.drop_nil, List.take_nil, List.nil_append, List.cons_append, List.append_nil, List.contains_cons, List.contains_nil, Bool.or_false, Bool.false_or, Bool.or_true, Bool.true_or, Bool.and_true, Bool.true_and, Bool.and_false, Bool.false_and, Bool.not_true, Bool.not_false, Bool.not_not, Option.isSome_some, Option.isSome_none, List.map_cons, List.map_nil, ite_not, not_true_eq_false, not_false_eq_true, Nat.zero_add, Nat.add_zero, k_drawn_t, sm, w, hs, h4, h5, h6, h7, d1, d2, h8, o1, o2]
    refine Eq.trans (ctE_ok (by repeat (first | exact MLe.nil | apply MLe.qq | apply MLe.q | apply MLe.o | apply MLe.b | apply MLe.l)) (by kernel_rfl)) ?_
    simp (maxSteps := 1000000) only [go_sem, acondK_bool, acB_merge, Nat.reduceLT, Nat.reduceLeDiff, Nat.reduceEqDiff, Nat.reduceAdd, Nat.reduceSub, Nat.reduceMul, Nat.reduceBEq, Nat.reduceBNe, Nat.reduceBneDiff, Nat.reduceBeqDiff, Int.reduceToNat, Int.reduceLE, Int.reduceLT, Int.reduceEq, Int.reduceNe, Int.reduceNeg, Int.reduceAdd, Int.reduceSub, ↓reduceIte, reduceCtorEq, List.getElem?_toArray, List.getElem?_cons_zero, List.getElem?_cons_succ, List.length_cons, List.length_nil, List.take_succ_cons, List.take_zero, List.drop_succ_cons, List.drop_zero, List.drop_nil, List.take_nil, List.nil_append, List.cons_append, List.append_nil, List.contains_cons, List.contains_nil, Bool.or_false, Bool.false_or, Bool.or_true, Bool.true_or, Bool.and_true, Bool.true_and, Bool.and_false, Bool.false_and, Bool.not_true, Bool.not_false, Bool.not_not, Option.isSome_some, Option.isSome_none, List.map_cons, List.map_nil, ite_not, not_true_eq_false, not_false_eq_true, Nat.zero_add, Nat.add_zero, k_drawn_q, w, x0, x1, x2, x3, x4, x5, cut_lt]
end Go.Proofs.Ytencofeioaonpaa
