/- The counts of a procedure, its check. -/
import Derived.Test.YtjmghomnbmbjnaaGreatSeatV
import Derived.Test.YtjmghomnbmbjnaaGreatSeatM
set_option linter.unusedVariables false
set_option linter.unusedSimpArgs false
set_option linter.all false
set_option linter.deprecated false
set_option linter.all false
namespace Go.Proofs.YtjmghomnbmbjnaaGreat
open Go.Abs
-- CTX D
attribute [local congr] ite_congr
set_option maxRecDepth 10000
section
variable {env : AEnv} {A : AHeap} {x : Operand} {k : IntKind}
@[go_sem] theorem jx0 : aindexK D env A 94 x (some (.d (.int k 0))) = aplK A 0 (aplace env x) := ixK D rfl 0 (by decide)
@[go_sem] theorem jx1 : aindexK D env A 94 x (some (.d (.int k 1))) = aplK A 1 (aplace env x) := ixK D rfl 1 (by decide)
@[go_sem] theorem jx2 : aindexK D env A 94 x (some (.d (.int k 2))) = aplK A 2 (aplace env x) := ixK D rfl 2 (by decide)
@[go_sem] theorem jx3 : aindexK D env A 94 x (some (.d (.int k 3))) = aplK A 3 (aplace env x) := ixK D rfl 3 (by decide)
end
def limS (k : K) : Int := if decide (16384 < k.s) = true then 13 else if (decide (64 < k.g) || decide (64 < k.p) || decide (16 < k.e)) = true then 2 else 0
def costC (p : Pr) : Int := if decide (detS p = 0) = true then limS (tSs p.body).cut else detS p
theorem det_vld {p : Pr} (h : detS p = 0) : Vld p := by
  refine (valS_zero p).1 (chk_val ?_)
  unfold detS at h
  by_cases h1 : decide (chkS p = 0) = true
  · simpa using h1
  · rw [if_neg h1] at h
    rw [h] at h1
    exact absurd rfl h1
theorem costD (p : Pr) (hp : p.Ok) (A : AHeap) : acl D 28 [Pr.av p] A = some (.d (.int .i64 (costC p)), A) := by
  have d1 := detD p hp A
  rw [k_call (c := D) (f := 28) rfl Tryz.func28 rfl (ok 28 (by kernel_rfl)) rfl Tryz.ntmps28 Tryz.results28 (by simp)]
  unfold costC
  cases c1 : decide (detS p = 0) with
  | false => simp (maxSteps := 1000000) only [go_sem, acondK_bool, acB_merge, Nat.reduceLT, Nat.reduceLeDiff, Nat.reduceEqDiff, Nat.reduceAdd, Nat.reduceSub, Nat.reduceMul, Nat.reduceBEq, Nat.reduceBNe, Nat.reduceBneDiff, Nat.reduceBeqDiff, Int.reduceToNat, Int.reduceLE, Int.reduceLT, Int.reduceEq, Int.reduceNe, Int.reduceNeg, Int.reduceAdd, Int.reduceSub, ↓reduceIte, reduceCtorEq, k_drawn_q, d1, c1]
  | true =>
    have b1 := up (bodyC p hp (det_vld (by simpa using c1)) A)
    unfold limS
    generalize (tSs p.body).cut = k at *
    cases q1 : decide (16384 < k.s) with
    | true => simp (maxSteps := 1000000) only [go_sem, acondK_bool, acB_merge, Nat.reduceLT, Nat.reduceLeDiff, Nat.reduceEqDiff, Nat.reduceAdd, Nat.reduceSub, Nat.reduceMul, Nat.reduceBEq, Nat.reduceBNe, Nat.reduceBneDiff, Nat.reduceBeqDiff, Int.reduceToNat, Int.reduceLE, Int.reduceLT, Int.reduceEq, Int.reduceNe, Int.reduceNeg, Int.reduceAdd, Int.reduceSub, ↓reduceIte, reduceCtorEq, k_drawn_q, d1, c1, b1, q1]
    | false => cases q2 : decide (64 < k.g) <;> cases q3 : decide (64 < k.p) <;> cases q4 : decide (16 < k.e) <;> simp (maxSteps := 1000000) only [go_sem, acondK_bool, acB_merge, Nat.reduceLT, Nat.reduceLeDiff, Nat.reduceEqDiff, Nat.reduceAdd, Nat.reduceSub, Nat.reduceMul, Nat.reduceBEq, Nat.reduceBNe, Nat.reduceBneDiff, Nat.reduceBeqDiff, Int.reduceToNat, Int.reduceLE, Int.reduceLT, Int.reduceEq, Int.reduceNe, Int.reduceNeg, Int.reduceAdd, Int.reduceSub, ↓reduceIte, reduceCtorEq, k_drawn_q, d1, c1, b1, q1, q2, q3, q4]
end Go.Proofs.YtjmghomnbmbjnaaGreat
