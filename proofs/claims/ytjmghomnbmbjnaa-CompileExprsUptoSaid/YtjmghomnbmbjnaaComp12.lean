/- The code of an expression: the law. -/
import Derived.Test.YtjmghomnbmbjnaaSeatQ
import Derived.Test.YtjmghomnbmbjnaaSeatK
set_option linter.unusedVariables false
set_option linter.unusedSimpArgs false
set_option linter.all false
set_option linter.deprecated false
set_option linter.all false
namespace Go.Proofs.Ytjmghomnbmbjnaa
open Go.Abs
-- CTX D
attribute [local congr] ite_congr
set_option maxRecDepth 10000
theorem lawCompileExprs (e : E) (S : List Bytes) (hok : e.Ok) (hlen : (visE e false).length ≤ 4000000) (hS : S.length ≤ 1099511627776) : acl D 3 [E.av e, .d (.slice (S.map sRow))] A00 = some (.d (.bool true), A00) := by
  have sm := up (smallExpr e hok 600 A00)
  have fw := up (fewBL S hS A00)
  have x1 := fun h => up (exprOf S h e hok hlen A00)
  have x2 := fun h => up (exprR17 S h e hok hlen A00)
  have s1 := fun h => up (sameR (exS S e).1 h A00)
  have hcl : (exS S e).1.length ≤ 4194303 := by
    have := codeM_len S e false
    unfold exS
    split
    · split
      · show (codeM S e).length ≤ _; omega
      · simp
    · simp
  have s1 := s1 hcl
  generalize exS S e = r at *
  obtain ⟨I, k⟩ := r
  generalize cntE e 600 = c at *
  obtain ⟨op, n, s, args⟩ := e
  cases h1 : decide (c ≤ 600) with
  | false =>
    rw [k_call (c := D) (f := 3) rfl Try.func3 rfl (ok 3 (by kernel_rfl)) rfl Try.ntmps3 Try.results3 (by simp)]
    simp (maxSteps := 1000000) only [go_sem, acondK_bool, acB_merge, Nat.reduceLT, Nat.reduceLeDiff, Nat.reduceEqDiff, Nat.reduceAdd, Nat.reduceSub, Nat.reduceMul, Nat.reduceBEq, Nat.reduceBNe, Nat.reduceBneDiff, Nat.reduceBeqDiff, Int.reduceToNat, Int.reduceLE, Int.reduceLT, Int.reduceEq, Int.reduceNe, Int.reduceNeg, Int.reduceAdd, Int.reduceSub, ↓reduceIte, reduceCtorEq, k_drawn_q, sm, works, h1]
  | true =>
  cases h2 : fewB S with
  | false =>
    rw [k_call (c := D) (f := 3) rfl Try.func3 rfl (ok 3 (by kernel_rfl)) rfl Try.ntmps3 Try.results3 (by simp)]
    simp (maxSteps := 1000000) only [go_sem, acondK_bool, acB_merge, Nat.reduceLT, Nat.reduceLeDiff, Nat.reduceEqDiff, Nat.reduceAdd, Nat.reduceSub, Nat.reduceMul, Nat.reduceBEq, Nat.reduceBNe, Nat.reduceBneDiff, Nat.reduceBeqDiff, Int.reduceToNat, Int.reduceLE, Int.reduceLT, Int.reduceEq, Int.reduceNe, Int.reduceNeg, Int.reduceAdd, Int.reduceSub, ↓reduceIte, reduceCtorEq, k_drawn_q, sm, works, h1, fw, h2]
  | true =>
  have hl : S.length ≤ 4194303 := by
    unfold fewB at h2
    split at h2
    · cases h2
    · rename_i h3
      simp at h3
      omega
  have x1 := x1 hl
  have x2 := x2 hl
  have e5 : decide (k = k) = true := by simp
  simp only at x1 x2 s1
  rw [k_call (c := D) (f := 3) rfl Try.func3 rfl (ok 3 (by kernel_rfl)) rfl Try.ntmps3 Try.results3 (by simp)]
  simp (maxSteps := 1000000) only [go_sem, acondK_bool, acB_merge, Nat.reduceLT, Nat.reduceLeDiff, Nat.reduceEqDiff, Nat.reduceAdd, Nat.reduceSub, Nat.reduceMul, Nat.reduceBEq, Nat.reduceBNe, Nat.reduceBneDiff, Nat.reduceBeqDiff, Int.reduceToNat, Int.reduceLE, Int.reduceLT, Int.reduceEq, Int.reduceNe, Int.reduceNeg, Int.reduceAdd, Int.reduceSub, ↓reduceIte, reduceCtorEq, k_drawn_q, sm, works, h1, fw, h2, x1, x2, s1, e5]
end Go.Proofs.Ytjmghomnbmbjnaa
