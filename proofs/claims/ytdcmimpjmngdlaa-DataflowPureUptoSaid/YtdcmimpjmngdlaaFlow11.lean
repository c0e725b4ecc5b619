/- The laws of chapter 14: Taints, Closed, Pure. -/
import Derived.Test.YtdcmimpjmngdlaaSeatS
set_option linter.unusedVariables false
set_option linter.unusedSimpArgs false
set_option linter.all false
set_option linter.deprecated false
set_option linter.all false
namespace Go.Proofs.Ytdcmimpjmngdlaa
open Go.Abs
attribute [local congr] ite_congr
set_option maxRecDepth 10000
theorem lawDataflowTaints (p : Pr) (hp : p.Ok) : acl C 3 [Pr.av p] A00 = some (.d (.bool true), A00) := by
  have sm := small p hp 600 A00
  rw [k_call (c := C) (f := 3) rfl Try.func3 rfl (ok 3 (by kernel_rfl)) rfl Try.ntmps3 Try.results3 (by simp)]
  cases hs : smallS p 600 with
  | false => simp (maxSteps := 1000000) only [go_sem, acondK_bool, acB_merge, Nat.reduceLT, Nat.reduceLeDiff, Nat.reduceEqDiff, Nat.reduceAdd, Nat.reduceSub, Nat.reduceMul, Nat.reduceBEq, Nat.reduceBNe, Nat.reduceBneDiff, Nat.reduceBeqDiff, Int.reduceToNat, Int.reduceLE, Int.reduceLT, Int.reduceEq, Int.reduceNe, Int.reduceNeg, Int.reduceAdd, Int.reduceSub, ↓reduceIte, reduceCtorEq, k_drawn_q, sm, works, hs]
  | true =>
  have h40 := small40 hs
  have t1 := taintedD p hp h40 A00
  have t2 := taintedR p hp h40 A00
  have s1 := stringsL (tnsS p) (by have := tns_len p h40; omega) A00
  simp (maxSteps := 1000000) only [go_sem, acondK_bool, acB_merge, Nat.reduceLT, Nat.reduceLeDiff, Nat.reduceEqDiff, Nat.reduceAdd, Nat.reduceSub, Nat.reduceMul, Nat.reduceBEq, Nat.reduceBNe, Nat.reduceBneDiff, Nat.reduceBeqDiff, Int.reduceToNat, Int.reduceLE, Int.reduceLT, Int.reduceEq, Int.reduceNe, Int.reduceNeg, Int.reduceAdd, Int.reduceSub, ↓reduceIte, reduceCtorEq, k_drawn_q, sm, works, hs, t1, t2, s1]
theorem lawDataflowClosed (p : Pr) (hp : p.Ok) : acl C 4 [Pr.av p] A00 = some (.d (.bool true), A00) := by
  have sm := small p hp 600 A00
  rw [k_call (c := C) (f := 4) rfl Try.func4 rfl (ok 4 (by kernel_rfl)) rfl Try.ntmps4 Try.results4 (by simp)]
  cases hs : smallS p 600 with
  | false => simp (maxSteps := 1000000) only [go_sem, acondK_bool, acB_merge, Nat.reduceLT, Nat.reduceLeDiff, Nat.reduceEqDiff, Nat.reduceAdd, Nat.reduceSub, Nat.reduceMul, Nat.reduceBEq, Nat.reduceBNe, Nat.reduceBneDiff, Nat.reduceBeqDiff, Int.reduceToNat, Int.reduceLE, Int.reduceLT, Int.reduceEq, Int.reduceNe, Int.reduceNeg, Int.reduceAdd, Int.reduceSub, ↓reduceIte, reduceCtorEq, k_drawn_q, sm, works, hs]
  | true =>
  have h40 := small40 hs
  have k1 := checkR p hp h40 A00
  rw [← chk_eq] at k1
  have t1 := taintedD p hp h40 A00
  have n1 := namesR p hp (by omega) A00
  have hnl := namesS_len p h40
  have htl := tns_len p h40
  have w1 := withinL (tnsS p) (namesS p) (by omega) (by omega) A00
  rw [tns_within] at w1
  have c1 := closedP (tnsS p) (by omega) p hp false A00
  cases hc : decide (chkS p = 0) with
  | false => simp (maxSteps := 1000000) only [go_sem, acondK_bool, acB_merge, Nat.reduceLT, Nat.reduceLeDiff, Nat.reduceEqDiff, Nat.reduceAdd, Nat.reduceSub, Nat.reduceMul, Nat.reduceBEq, Nat.reduceBNe, Nat.reduceBneDiff, Nat.reduceBeqDiff, Int.reduceToNat, Int.reduceLE, Int.reduceLT, Int.reduceEq, Int.reduceNe, Int.reduceNeg, Int.reduceAdd, Int.reduceSub, ↓reduceIte, reduceCtorEq, k_drawn_q, sm, works, hs, k1, hc]
  | true =>
    rw [clo_all (by simpa using hc)] at c1
    simp (maxSteps := 1000000) only [go_sem, acondK_bool, acB_merge, Nat.reduceLT, Nat.reduceLeDiff, Nat.reduceEqDiff, Nat.reduceAdd, Nat.reduceSub, Nat.reduceMul, Nat.reduceBEq, Nat.reduceBNe, Nat.reduceBneDiff, Nat.reduceBeqDiff, Int.reduceToNat, Int.reduceLE, Int.reduceLT, Int.reduceEq, Int.reduceNe, Int.reduceNeg, Int.reduceAdd, Int.reduceSub, ↓reduceIte, reduceCtorEq, k_drawn_q, sm, works, hs, k1, hc, t1, n1, w1, c1]
theorem lawDataflowPure (p : Pr) (hp : p.Ok) : acl C 5 [Pr.av p] A00 = some (.d (.bool true), A00) := by
  have sm := small p hp 600 A00
  have x1 := touchesL p hp A00
  rw [k_call (c := C) (f := 5) rfl Try.func5 rfl (ok 5 (by kernel_rfl)) rfl Try.ntmps5 Try.results5 (by simp)]
  cases hs : smallS p 600 with
  | false => simp (maxSteps := 1000000) only [go_sem, acondK_bool, acB_merge, Nat.reduceLT, Nat.reduceLeDiff, Nat.reduceEqDiff, Nat.reduceAdd, Nat.reduceSub, Nat.reduceMul, Nat.reduceBEq, Nat.reduceBNe, Nat.reduceBneDiff, Nat.reduceBeqDiff, Int.reduceToNat, Int.reduceLE, Int.reduceLT, Int.reduceEq, Int.reduceNe, Int.reduceNeg, Int.reduceAdd, Int.reduceSub, ↓reduceIte, reduceCtorEq, k_drawn_q, sm, works, hs]
  | true =>
  have h40 := small40 hs
  cases ht : touchS p with
  | true => simp (maxSteps := 1000000) only [go_sem, acondK_bool, acB_merge, Nat.reduceLT, Nat.reduceLeDiff, Nat.reduceEqDiff, Nat.reduceAdd, Nat.reduceSub, Nat.reduceMul, Nat.reduceBEq, Nat.reduceBNe, Nat.reduceBneDiff, Nat.reduceBeqDiff, Int.reduceToNat, Int.reduceLE, Int.reduceLT, Int.reduceEq, Int.reduceNe, Int.reduceNeg, Int.reduceAdd, Int.reduceSub, ↓reduceIte, reduceCtorEq, k_drawn_q, sm, works, hs, x1, ht]
  | false =>
  have k1 := checkR p hp h40 A00
  rw [← chk_eq] at k1
  have t1 := taintedD p hp h40 A00
  rw [tns_still ht] at t1
  have y1 := keysD p hp h40 A00
  have y2 := controlD p hp h40 A00
  have y3 := independentD p hp h40 A00
  obtain ⟨q1, q2, q3⟩ := key_none ht
  rw [q1] at y1
  rw [q2] at y2
  rw [q3] at y3
  cases hc : decide (chkS p = 0) with
  | false =>
    rw [hc] at y3
    simp (maxSteps := 1000000) only [go_sem, acondK_bool, acB_merge, Nat.reduceLT, Nat.reduceLeDiff, Nat.reduceEqDiff, Nat.reduceAdd, Nat.reduceSub, Nat.reduceMul, Nat.reduceBEq, Nat.reduceBNe, Nat.reduceBneDiff, Nat.reduceBeqDiff, Int.reduceToNat, Int.reduceLE, Int.reduceLT, Int.reduceEq, Int.reduceNe, Int.reduceNeg, Int.reduceAdd, Int.reduceSub, ↓reduceIte, reduceCtorEq, k_drawn_q, sm, works, hs, x1, ht, k1, hc, t1, y1, y2, y3, List.map_nil, List.length_nil]
  | true =>
    rw [hc] at y3
    simp (maxSteps := 1000000) only [go_sem, acondK_bool, acB_merge, Nat.reduceLT, Nat.reduceLeDiff, Nat.reduceEqDiff, Nat.reduceAdd, Nat.reduceSub, Nat.reduceMul, Nat.reduceBEq, Nat.reduceBNe, Nat.reduceBneDiff, Nat.reduceBeqDiff, Int.reduceToNat, Int.reduceLE, Int.reduceLT, Int.reduceEq, Int.reduceNe, Int.reduceNeg, Int.reduceAdd, Int.reduceSub, ↓reduceIte, reduceCtorEq, k_drawn_q, sm, works, hs, x1, ht, k1, hc, t1, y1, y2, y3, List.map_nil, List.length_nil]
end Go.Proofs.Ytdcmimpjmngdlaa
