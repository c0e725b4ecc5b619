/- A valid procedure is within its bounds: the law. -/
import Derived.Test.YtfoibmfocmjmdaaSeatF
set_option linter.unusedVariables false
set_option linter.unusedSimpArgs false
set_option linter.all false
set_option linter.deprecated false
set_option linter.all false
namespace Go.Proofs.Ytfoibmfocmjmdaa
open Go.Abs
attribute [local congr] ite_congr
set_option maxRecDepth 10000
theorem dep_le : ∀ (l : List Vis) (t : Int), t ≤ 12 → (∀ x d, Vis.s x d ∈ l → d ≤ 12) → l.foldl (fun t v => step1 depF (fun t _ => t) v t) t ≤ 12
  | [], t, h, _ => h
  | .s x d :: l, t, h, hl => by
    rw [List.foldl_cons]
    refine dep_le l _ ?_ fun x d hm => hl x d (List.mem_cons_of_mem _ hm)
    have := hl x d (List.mem_cons_self ..)
    simp only [step1, depF]
    split <;> omega
  | .e x true :: l, t, h, hl => by rw [List.foldl_cons]; exact dep_le l _ h fun x d hm => hl x d (List.mem_cons_of_mem _ hm)
  | .e x false :: l, t, h, hl => by rw [List.foldl_cons]; exact dep_le l _ h fun x d hm => hl x d (List.mem_cons_of_mem _ hm)
theorem lawBounds (p : Pr) (hp : p.Ok) : acl C 10 [Pr.av p] A00 = some (.d (.bool true), A00) := by
  rw [k_call (c := C) (f := 10) rfl Try.func10 rfl (ok 10 (by kernel_rfl)) rfl Try.ntmps10 Try.results10 (by simp)]
  cases hs : smallS p 1600 with
  | false => simp (maxSteps := 1000000) +contextual only [go_sem, acondK_bool, acB_merge, Nat.reduceLT, Nat.reduceLeDiff, Nat.reduceEqDiff, Nat.reduceAdd, Nat.reduceSub, Nat.reduceMul, Nat.reduceBEq, Nat.reduceBNe, Nat.reduceBneDiff, Nat.reduceBeqDiff, Int.reduceToNat, Int.reduceLE, Int.reduceLT, Int.reduceEq, Int.reduceNe, Int.reduceNeg, Int.reduceAdd, Int.reduceSub, ↓reduceIte, reduceCtorEq, List.getElem?_toArray, List.getElem?_cons_zero, List.getElem?_cons_succ, List.length_cons, List.length_nil, List.take_succ_cons, List.take_zero, List.drop_succ_cons, List.drop_zero, List.drop_nil, List.take_nil, List.nil_append, List.cons_append, List.append_nil, List.contains_cons, List.contains_nil, Bool.or_false, Bool.false_or, Bool.or_true, Bool.true_or, Bool.and_true, Bool.true_and, Bool.and_false, Bool.false_and, Bool.not_true, Bool.not_false, Bool.not_not, Option.isSome_some, Option.isSome_none, List.map_cons, List.map_nil, ite_not, not_true_eq_false, not_false_eq_true, Nat.zero_add, Nat.add_zero, small p hp, works, hs]
  | true =>
  by_cases hv : valS p = 0
  · have h40 := small40 hs
    have n1 := names p hp (by omega)
    have d1 := nodes p hp
    have d2 := nodesR p hp
    have d3 := depth p hp
    have x1 := exprs p hp
    have v1 := validate p hp
    rw [hv] at v1
    have V := (valS_zero p).1 hv
    have q1 : nodesS p ≤ 400 := by unfold nodesS; have := V.len; omega
    have q2 : decide (((nodesS p : Nat) : Int) ≤ 400) = true := by simp; omega
    have q3 : (exprsS p).length ≤ nodesS p := by
      have h1 := rootsV_len (visP p)
      have h2 : (visP p).length = nodesS p := by simp [visP, nodesS]
      unfold exprsS
      omega
    have q4 : decide ((((exprsS p).length : Nat) : Int) ≤ ((nodesS p : Nat) : Int)) = true := by simp; omega
    have q5 : depS p ≤ 12 := by
      unfold depS
      rw [V.vis]
      exact dep_le _ 0 (by omega) fun x d hm => (stmtS_zero (V.stm x d hm)).dep
    have q6 : decide (depS p ≤ 12) = true := by simp; omega
    have q7 : (namesS p).length ≤ 406 := by
      unfold namesS paramNames
      have h1 := namesV_len (visP p)
      have h2 : (visP p).length ≤ 400 := by rw [V.vis]; exact V.len
      have h3 := V.prm
      unfold prmS at h3
      split at h3
      · cases h3
      · rename_i h4
        simp at h4 ⊢
        omega
    have q8 : decide ((((namesS p).length : Nat) : Int) ≤ 406) = true := by simp; omega
    simp (maxSteps := 1000000) only [go_sem, acondK_bool, acB_merge, Nat.reduceLT, Nat.reduceLeDiff, Nat.reduceEqDiff, Nat.reduceAdd, Nat.reduceSub, Nat.reduceMul, Nat.reduceBEq, Nat.reduceBNe, Nat.reduceBneDiff, Nat.reduceBeqDiff, Int.reduceToNat, Int.reduceLE, Int.reduceLT, Int.reduceEq, Int.reduceNe, Int.reduceNeg, Int.reduceAdd, Int.reduceSub, ↓reduceIte, reduceCtorEq, List.getElem?_toArray, List.getElem?_cons_zero, List.getElem?_cons_succ, List.length_cons, List.length_nil, List.take_succ_cons, List.take_zero, List.drop_succ_cons, List.drop_zero, List.drop_nil, List.take_nil, List.nil_append, List.cons_append, List.append_nil, List.contains_cons, List.contains_nil, Bool.or_false, Bool.false_or, Bool.or_true, Bool.true_or, Bool.and_true, Bool.true_and, Bool.and_false, Bool.false_and, Bool.not_true, Bool.not_false, Bool.not_not, Option.isSome_some, Option.isSome_none, List.map_cons, List.map_nil, ite_not, not_true_eq_false, not_false_eq_true, Nat.zero_add, Nat.add_zero, small p hp, hs, v1, x1]
    have hlen := exprsS_len p
    have hok := exprsS_ok p hp
    have hroot := V.roots
    generalize exprsS p = l at *
    refine loop_any (fun pre => [(1, .box [.d (.str p.name), .d (.slice (p.params.map Pm.row)), .d (.slice (p.body.map Stm.row))]), (3, .v (.d (.slice (l.map E.row)))), (4, .v (.d (.int .i64 (pre.length : Nat))))])
      (fun _ => A00) (fun _ _ => some (.d (.bool true), A00)) l rfl rfl rfl ?_
    intro pre suf h ih
    have hb : pre.length < 9223372036854775807 := by rw [h] at hlen; simp at hlen; omega
    cases suf with
    | nil =>
      rw [List.append_nil] at h
      subst h
      simp (maxSteps := 1000000) +contextual only [go_sem, acondK_bool, acB_merge, Nat.reduceLT, Nat.reduceLeDiff, Nat.reduceEqDiff, Nat.reduceAdd, Nat.reduceSub, Nat.reduceMul, Nat.reduceBEq, Nat.reduceBNe, Nat.reduceBneDiff, Nat.reduceBeqDiff, Int.reduceToNat, Int.reduceLE, Int.reduceLT, Int.reduceEq, Int.reduceNe, Int.reduceNeg, Int.reduceAdd, Int.reduceSub, ↓reduceIte, reduceCtorEq, List.getElem?_toArray, List.getElem?_cons_zero, List.getElem?_cons_succ, List.length_cons, List.length_nil, List.take_succ_cons, List.take_zero, List.drop_succ_cons, List.drop_zero, List.drop_nil, List.take_nil, List.nil_append, List.cons_append, List.append_nil, List.contains_cons, List.contains_nil, Bool.or_false, Bool.false_or, Bool.or_true, Bool.true_or, Bool.and_true, Bool.true_and, Bool.and_false, Bool.false_and, Bool.not_true, Bool.not_false, Bool.not_not, Option.isSome_some, Option.isSome_none, List.map_cons, List.map_nil, ite_not, not_true_eq_false, not_false_eq_true, Nat.zero_add, Nat.add_zero, works, n1, d1, d2, d3, q2, q4, q6, q8]
    | cons x suf =>
      have hx := hok x (by rw [h]; simp)
      obtain ⟨hc, hl4⟩ := hroot x (by rw [h]; simp)
      have e1 := validExpr x hx
      rw [hc] at e1
      have e5 := smallExpr x hx 800
      have e6 : decide (cntE x 800 ≤ 800) = true := by
        have := (cntE_le x 1 800 true hc hl4 (by omega) (by omega)).2
        simp
        omega
      rw [e6] at e5
      have e2 := ih x suf rfl
      rw [List.length_append, List.length_cons, List.length_nil] at e2
      have e3 : (l.map E.row)[pre.length]? = some (E.row x) := by rw [h]; exact map_mid
      have e4 : decide ((pre.length : Int) < (l.length : Int)) = true := by rw [h]; simp; omega
      rw [E.row_eq] at e3
      simp (maxSteps := 1000000) +contextual only [go_sem, acondK_bool, acB_merge, Nat.reduceLT, Nat.reduceLeDiff, Nat.reduceEqDiff, Nat.reduceAdd, Nat.reduceSub, Nat.reduceMul, Nat.reduceBEq, Nat.reduceBNe, Nat.reduceBneDiff, Nat.reduceBeqDiff, Int.reduceToNat, Int.reduceLE, Int.reduceLT, Int.reduceEq, Int.reduceNe, Int.reduceNeg, Int.reduceAdd, Int.reduceSub, ↓reduceIte, reduceCtorEq, List.getElem?_toArray, List.getElem?_cons_zero, List.getElem?_cons_succ, List.length_cons, List.length_nil, List.take_succ_cons, List.take_zero, List.drop_succ_cons, List.drop_zero, List.drop_nil, List.take_nil, List.nil_append, List.cons_append, List.append_nil, List.contains_cons, List.contains_nil, Bool.or_false, Bool.false_or, Bool.or_true, Bool.true_or, Bool.and_true, Bool.true_and, Bool.and_false, Bool.false_and, Bool.not_true, Bool.not_false, Bool.not_not, Option.isSome_some, Option.isSome_none, List.map_cons, List.map_nil, ite_not, not_true_eq_false, not_false_eq_true, Nat.zero_add, Nat.add_zero, e3, e4, e1, e5, e2, wrap_nat hb]
  · have v1 := validate p hp
    have hd : decide (valS p = 0) = false := by simp [hv]
    simp (maxSteps := 1000000) +contextual only [go_sem, acondK_bool, acB_merge, Nat.reduceLT, Nat.reduceLeDiff, Nat.reduceEqDiff, Nat.reduceAdd, Nat.reduceSub, Nat.reduceMul, Nat.reduceBEq, Nat.reduceBNe, Nat.reduceBneDiff, Nat.reduceBeqDiff, Int.reduceToNat, Int.reduceLE, Int.reduceLT, Int.reduceEq, Int.reduceNe, Int.reduceNeg, Int.reduceAdd, Int.reduceSub, ↓reduceIte, reduceCtorEq, List.getElem?_toArray, List.getElem?_cons_zero, List.getElem?_cons_succ, List.length_cons, List.length_nil, List.take_succ_cons, List.take_zero, List.drop_succ_cons, List.drop_zero, List.drop_nil, List.take_nil, List.nil_append, List.cons_append, List.append_nil, List.contains_cons, List.contains_nil, Bool.or_false, Bool.false_or, Bool.or_true, Bool.true_or, Bool.and_true, Bool.true_and, Bool.and_false, Bool.false_and, Bool.not_true, Bool.not_false, Bool.not_not, Option.isSome_some, Option.isSome_none, List.map_cons, List.map_nil, ite_not, not_true_eq_false, not_false_eq_true, Nat.zero_add, Nat.add_zero, small p hp, works, hs, v1, hd]
end Go.Proofs.Ytfoibmfocmjmdaa
