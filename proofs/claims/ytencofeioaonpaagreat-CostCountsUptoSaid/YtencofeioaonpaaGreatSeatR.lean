/- The counts of a procedure, its check. -/
import Derived.Test.YtencofeioaonpaaGreatSeatQ
import Derived.Test.YtencofeioaonpaaGreatSeatM
set_option linter.unusedVariables false
set_option linter.unusedSimpArgs false
set_option linter.all false
set_option linter.deprecated false
set_option linter.all false
namespace Go.Proofs.YtencofeioaonpaaGreat
open Go.Abs
-- CTX D
attribute [local congr] ite_congr
set_option maxRecDepth 10000
theorem idxV (c : ACtx) (hc : c.P = Tryz.prog) {cs : List AV} {k : IntKind} (n : Nat) (hn : n < 4) : aidxG c 47 (some (.agg cs)) (some (.d (.int k (n : Int)))) = cs[n]? := by
  unfold aidxG
  rw [hc, arr_47]
  simp only
  rw [if_pos (by omega)]
  simp [apart]
@[go_sem] theorem ig0 {cs : List AV} {k : IntKind} : aidxG D 47 (some (.agg cs)) (some (.d (.int k 0))) = cs[0]? := idxV D rfl 0 (by decide)
@[go_sem] theorem ig1 {cs : List AV} {k : IntKind} : aidxG D 47 (some (.agg cs)) (some (.d (.int k 1))) = cs[1]? := idxV D rfl 1 (by decide)
@[go_sem] theorem ig2 {cs : List AV} {k : IntKind} : aidxG D 47 (some (.agg cs)) (some (.d (.int k 2))) = cs[2]? := idxV D rfl 2 (by decide)
@[go_sem] theorem ig3 {cs : List AV} {k : IntKind} : aidxG D 47 (some (.agg cs)) (some (.d (.int k 3))) = cs[3]? := idxV D rfl 3 (by decide)
section
variable {env : AEnv} {A : AHeap} {x : Operand} {k : IntKind}
@[go_sem] theorem jx0 : aindexK D env A 47 x (some (.d (.int k 0))) = aplK A 0 (aplace env x) := ixK D rfl 0 (by decide)
@[go_sem] theorem jx1 : aindexK D env A 47 x (some (.d (.int k 1))) = aplK A 1 (aplace env x) := ixK D rfl 1 (by decide)
@[go_sem] theorem jx2 : aindexK D env A 47 x (some (.d (.int k 2))) = aplK A 2 (aplace env x) := ixK D rfl 2 (by decide)
@[go_sem] theorem jx3 : aindexK D env A 47 x (some (.d (.int k 3))) = aplK A 3 (aplace env x) := ixK D rfl 3 (by decide)
end
def costS (p : Pr) : K := if decide (detS p = 0) = true then (tSs p.body).cut else ⟨-1, -1, -1, -1⟩
def limS (k : K) : Int := if decide (16384 < k.s) = true then 13 else if (decide (64 < k.g) || decide (64 < k.p) || decide (16 < k.e)) = true then 2 else 0
def costC (p : Pr) : Int := if decide (detS p = 0) = true then limS (tSs p.body).cut else detS p
theorem det_vld {p : Pr} (h : detS p = 0) : Vld p := by
  refine (valS_zero p).1 (chk_val ?_)
  unfold detS at h
  by_cases h1 : decide (chkS p = 0) = true
  · simpa using h1
  · rw [if_neg h1] at h
    rw [h] at h1
    exact absurd rfl h1
theorem stepsD (p : Pr) (hp : p.Ok) (A : AHeap) : acl D 12 [Pr.av p] A = some (.d (.int .i64 (costS p).s), A) ∧ acl D 13 [Pr.av p] A = some (.d (.int .i64 (costS p).g), A) ∧ acl D 14 [Pr.av p] A = some (.d (.int .i64 (costS p).p), A) ∧ acl D 15 [Pr.av p] A = some (.d (.int .i64 (costS p).e), A) := by
  have d1 := detD p hp A
  have key : ∀ (i : Int) (r : Int), (i = 0 ∧ r = (costS p).s) ∨ (i = 1 ∧ r = (costS p).g) ∨ (i = 2 ∧ r = (costS p).p) ∨ (i = 3 ∧ r = (costS p).e) → acl D 21 [Pr.av p, .d (.int .i64 i)] A = some (.d (.int .i64 r), A) := by
    intro i r h
    unfold costS at h
    rw [k_call (c := D) (f := 21) rfl Tryz.func21 rfl (ok 21 (by kernel_rfl)) rfl Tryz.ntmps21 Tryz.results21 (by simp)]
    cases c1 : decide (detS p = 0) with
    | false =>
      rw [c1] at h
      simp only [Bool.false_eq_true, if_false] at h
      rcases h with ⟨rfl, rfl⟩ | ⟨rfl, rfl⟩ | ⟨rfl, rfl⟩ | ⟨rfl, rfl⟩ <;> simp (maxSteps := 1000000) only [go_sem, acondK_bool, acB_merge, Nat.reduceLT, Nat.reduceLeDiff, Nat.reduceEqDiff, Nat.reduceAdd, Nat.reduceSub, Nat.reduceMul, Nat.reduceBEq, Nat.reduceBNe, Nat.reduceBneDiff, Nat.reduceBeqDiff, Int.reduceToNat, Int.reduceLE, Int.reduceLT, Int.reduceEq, Int.reduceNe, Int.reduceNeg, Int.reduceAdd, Int.reduceSub, ↓reduceIte, reduceCtorEq, k_drawn_q, d1, c1]
    | true =>
      rw [c1] at h
      simp only [if_true] at h
      have b1 := up (bodyC p hp (det_vld (by simpa using c1)) A)
      rcases h with ⟨rfl, rfl⟩ | ⟨rfl, rfl⟩ | ⟨rfl, rfl⟩ | ⟨rfl, rfl⟩ <;> simp (maxSteps := 1000000) only [go_sem, acondK_bool, acB_merge, Nat.reduceLT, Nat.reduceLeDiff, Nat.reduceEqDiff, Nat.reduceAdd, Nat.reduceSub, Nat.reduceMul, Nat.reduceBEq, Nat.reduceBNe, Nat.reduceBneDiff, Nat.reduceBeqDiff, Int.reduceToNat, Int.reduceLE, Int.reduceLT, Int.reduceEq, Int.reduceNe, Int.reduceNeg, Int.reduceAdd, Int.reduceSub, ↓reduceIte, reduceCtorEq, k_drawn_q, d1, c1, b1]
  have k0 := key 0 _ (.inl ⟨rfl, rfl⟩)
  have k1 := key 1 _ (.inr (.inl ⟨rfl, rfl⟩))
  have k2 := key 2 _ (.inr (.inr (.inl ⟨rfl, rfl⟩)))
  have k3 := key 3 _ (.inr (.inr (.inr ⟨rfl, rfl⟩)))
  refine ⟨?_, ?_, ?_, ?_⟩
  · rw [k_call (c := D) (f := 12) rfl Tryz.func12 rfl (ok 12 (by kernel_rfl)) rfl Tryz.ntmps12 Tryz.results12 (by simp)]
    simp (maxSteps := 1000000) only [go_sem, acondK_bool, acB_merge, Nat.reduceLT, Nat.reduceLeDiff, Nat.reduceEqDiff, Nat.reduceAdd, Nat.reduceSub, Nat.reduceMul, Nat.reduceBEq, Nat.reduceBNe, Nat.reduceBneDiff, Nat.reduceBeqDiff, Int.reduceToNat, Int.reduceLE, Int.reduceLT, Int.reduceEq, Int.reduceNe, Int.reduceNeg, Int.reduceAdd, Int.reduceSub, ↓reduceIte, reduceCtorEq, k_drawn_q, k0]
  · rw [k_call (c := D) (f := 13) rfl Tryz.func13 rfl (ok 13 (by kernel_rfl)) rfl Tryz.ntmps13 Tryz.results13 (by simp)]
    simp (maxSteps := 1000000) only [go_sem, acondK_bool, acB_merge, Nat.reduceLT, Nat.reduceLeDiff, Nat.reduceEqDiff, Nat.reduceAdd, Nat.reduceSub, Nat.reduceMul, Nat.reduceBEq, Nat.reduceBNe, Nat.reduceBneDiff, Nat.reduceBeqDiff, Int.reduceToNat, Int.reduceLE, Int.reduceLT, Int.reduceEq, Int.reduceNe, Int.reduceNeg, Int.reduceAdd, Int.reduceSub, ↓reduceIte, reduceCtorEq, k_drawn_q, k1]
  · rw [k_call (c := D) (f := 14) rfl Tryz.func14 rfl (ok 14 (by kernel_rfl)) rfl Tryz.ntmps14 Tryz.results14 (by simp)]
    simp (maxSteps := 1000000) only [go_sem, acondK_bool, acB_merge, Nat.reduceLT, Nat.reduceLeDiff, Nat.reduceEqDiff, Nat.reduceAdd, Nat.reduceSub, Nat.reduceMul, Nat.reduceBEq, Nat.reduceBNe, Nat.reduceBneDiff, Nat.reduceBeqDiff, Int.reduceToNat, Int.reduceLE, Int.reduceLT, Int.reduceEq, Int.reduceNe, Int.reduceNeg, Int.reduceAdd, Int.reduceSub, ↓reduceIte, reduceCtorEq, k_drawn_q, k2]
  · rw [k_call (c := D) (f := 15) rfl Tryz.func15 rfl (ok 15 (by kernel_rfl)) rfl Tryz.ntmps15 Tryz.results15 (by simp)]
    simp (maxSteps := 1000000) only [go_sem, acondK_bool, acB_merge, Nat.reduceLT, Nat.reduceLeDiff, Nat.reduceEqDiff, Nat.reduceAdd, Nat.reduceSub, Nat.reduceMul, Nat.reduceBEq, Nat.reduceBNe, Nat.reduceBneDiff, Nat.reduceBeqDiff, Int.reduceToNat, Int.reduceLE, Int.reduceLT, Int.reduceEq, Int.reduceNe, Int.reduceNeg, Int.reduceAdd, Int.reduceSub, ↓reduceIte, reduceCtorEq, k_drawn_q, k3]
theorem costD (p : Pr) (hp : p.Ok) (A : AHeap) : acl D 9 [Pr.av p] A = some (.d (.int .i64 (costC p)), A) := by
  have d1 := detD p hp A
  rw [k_call (c := D) (f := 9) rfl Tryz.func9 rfl (ok 9 (by kernel_rfl)) rfl Tryz.ntmps9 Tryz.results9 (by simp)]
  unfold costC
  cases c1 : decide (detS p = 0) with
  | false => simp (maxSteps := 1000000) only [go_sem, acondK_bool, acB_merge, Nat.reduceLT, Nat.reduceLeDiff, Nat.reduceEqDiff, Nat.reduceAdd, Nat.reduceSub, Nat.reduceMul, Nat.reduceBEq, Nat.reduceBNe, Nat.reduceBneDiff, Nat.reduceBeqDiff, Int.reduceToNat, Int.reduceLE, Int.reduceLT, Int.reduceEq, Int.reduceNe, Int.reduceNeg, Int.reduceAdd, Int.reduceSub, ↓reduceIte, reduceCtorEq, k_drawn_q, d1, c1]
  | true =>
    have b1 := up (bodyC p hp (det_vld (by simpa using c1)) A)
    unfold limS
    generalize (tSs p.body).cut = k at *
    cases q1 : decide (16384 < k.s) with
    | true => simp (maxSteps := 1000000) only [go_sem, acondK_bool, acB_merge, Nat.reduceLT, Nat.reduceLeDiff, Nat.reduceEqDiff, Nat.reduceAdd, Nat.reduceSub, Nat.reduceMul, Nat.reduceBEq, Nat.reduceBNe, Nat.reduceBneDiff, Nat.reduceBeqDiff, Int.reduceToNat, Int.reduceLE, Int.reduceLT, Int.reduceEq, Int.reduceNe, Int.reduceNeg, Int.reduceAdd, Int.reduceSub, ↓reduceIte, reduceCtorEq, k_drawn_q, d1, c1, b1, q1]
    | false => cases q2 : decide (64 < k.g) <;> cases q3 : decide (64 < k.p) <;> cases q4 : decide (16 < k.e) <;> simp (maxSteps := 1000000) only [go_sem, acondK_bool, acB_merge, Nat.reduceLT, Nat.reduceLeDiff, Nat.reduceEqDiff, Nat.reduceAdd, Nat.reduceSub, Nat.reduceMul, Nat.reduceBEq, Nat.reduceBNe, Nat.reduceBneDiff, Nat.reduceBeqDiff, Int.reduceToNat, Int.reduceLE, Int.reduceLT, Int.reduceEq, Int.reduceNe, Int.reduceNeg, Int.reduceAdd, Int.reduceSub, ↓reduceIte, reduceCtorEq, k_drawn_q, d1, c1, b1, q1, q2, q3, q4]
theorem ofD (p : Pr) (hp : p.Ok) (A : AHeap) : acl D 8 [Pr.av p] A = some ((costS p).av, A) := by
  obtain ⟨k0, k1, k2, k3⟩ := stepsD p hp A
  rw [k_call (c := D) (f := 8) rfl Tryz.func8 rfl (ok 8 (by kernel_rfl)) rfl Tryz.ntmps8 Tryz.results8 (by simp)]
  simp (maxSteps := 1000000) only [go_sem, acondK_bool, acB_merge, Nat.reduceLT, Nat.reduceLeDiff, Nat.reduceEqDiff, Nat.reduceAdd, Nat.reduceSub, Nat.reduceMul, Nat.reduceBEq, Nat.reduceBNe, Nat.reduceBneDiff, Nat.reduceBeqDiff, Int.reduceToNat, Int.reduceLE, Int.reduceLT, Int.reduceEq, Int.reduceNe, Int.reduceNeg, Int.reduceAdd, Int.reduceSub, ↓reduceIte, reduceCtorEq, k_drawn_t, k0, k1, k2, k3]
  refine Eq.trans (ctE_ok (by repeat (first | exact MLe.nil | apply MLe.qq | apply MLe.q | apply MLe.o | apply MLe.b | apply MLe.l)) (by kernel_rfl)) ?_
  simp (maxSteps := 1000000) only [go_sem, acondK_bool, acB_merge, Nat.reduceLT, Nat.reduceLeDiff, Nat.reduceEqDiff, Nat.reduceAdd, Nat.reduceSub, Nat.reduceMul, Nat.reduceBEq, Nat.reduceBNe, Nat.reduceBneDiff, Nat.reduceBeqDiff, Int.reduceToNat, Int.reduceLE, Int.reduceLT, Int.reduceEq, Int.reduceNe, Int.reduceNeg, Int.reduceAdd, Int.reduceSub, ↓reduceIte, reduceCtorEq]
end Go.Proofs.YtencofeioaonpaaGreat
