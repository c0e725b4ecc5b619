/- The code of a procedure: the reference; equal codes. -/
import Derived.Test.YtjmghomnbmbjnaaGreatSeatY
import Derived.Test.YtjmghomnbmbjnaaGreatSeatX
import Derived.Test.YtjmghomnbmbjnaaGreatSeatR
import Derived.Test.YtjmghomnbmbjnaaGreatSeatK
set_option linter.unusedVariables false
set_option linter.unusedSimpArgs false
set_option linter.all false
set_option linter.deprecated false
set_option linter.all false
namespace Go.Proofs.YtjmghomnbmbjnaaGreat
open Go.Abs
attribute [local congr] ite_congr
set_option maxRecDepth 10000
set_option maxHeartbeats 1000000 in
theorem sameCode (T : List Int) (n : Int) (I : List In) (hT : T.length ≤ 4000000) (hI : I.length ≤ 4000000) (A : AHeap) : acl C 13 [codeAv T n I, codeAv T n I] A = some (.d (.bool true), A) := by
  have s1 := sameR I (by omega) A
  unfold codeAv
  have e5 : decide (((T.length : Nat) : Int) = ((T.length : Nat) : Int)) = true := by simp
  have e6 : decide (n = n) = true := by simp
  rw [k_call (c := C) (f := 13) rfl Tryz.func13 rfl (ok 13 (by kernel_rfl)) rfl Tryz.ntmps13 Tryz.results13 (by simp)]
  simp (maxSteps := 1000000) only [go_sem, acondK_bool, acB_merge, Nat.reduceLT, Nat.reduceLeDiff, Nat.reduceEqDiff, Nat.reduceAdd, Nat.reduceSub, Nat.reduceMul, Nat.reduceBEq, Nat.reduceBNe, Nat.reduceBneDiff, Nat.reduceBeqDiff, Int.reduceToNat, Int.reduceLE, Int.reduceLT, Int.reduceEq, Int.reduceNe, Int.reduceNeg, Int.reduceAdd, Int.reduceSub, ↓reduceIte, reduceCtorEq, e5, e6]
  refine loop_any (fun pre => [(2, .box [.d (.slice (T.map iRow)), .d (.int .i64 n), .d (.slice (I.map In.row))]), (3, .box [.d (.slice (T.map iRow)), .d (.int .i64 n), .d (.slice (I.map In.row))]), (5, .v (.d (.int .i64 (pre.length : Nat))))])
    (fun _ => A) (fun _ _ => some (.d (.bool true), A)) T rfl rfl rfl ?_
  intro pre suf hl ih
  have hb : pre.length < 9223372036854775807 := by rw [hl] at hT; simp at hT; omega
  cases suf with
  | nil =>
    rw [List.append_nil] at hl
    subst hl
    have e4 : decide ((T.length : Int) < (T.length : Int)) = false := by simp
    simp (maxSteps := 1000000) only [go_sem, acondK_bool, acB_merge, Nat.reduceLT, Nat.reduceLeDiff, Nat.reduceEqDiff, Nat.reduceAdd, Nat.reduceSub, Nat.reduceMul, Nat.reduceBEq, Nat.reduceBNe, Nat.reduceBneDiff, Nat.reduceBeqDiff, Int.reduceToNat, Int.reduceLE, Int.reduceLT, Int.reduceEq, Int.reduceNe, Int.reduceNeg, Int.reduceAdd, Int.reduceSub, ↓reduceIte, reduceCtorEq, e4, s1]
  | cons x suf =>
    have e2 := ih x suf rfl
    rw [List.length_append, List.length_cons, List.length_nil] at e2
    have e3 : (T.map iRow)[pre.length]? = some [.int .i64 x] := by rw [hl]; exact map_mid
    have e4 : decide ((pre.length : Int) < (T.length : Int)) = true := by rw [hl]; simp; omega
    have e7 : decide (x = x) = true := by simp
    simp (maxSteps := 1000000) only [go_sem, acondK_bool, acB_merge, Nat.reduceLT, Nat.reduceLeDiff, Nat.reduceEqDiff, Nat.reduceAdd, Nat.reduceSub, Nat.reduceMul, Nat.reduceBEq, Nat.reduceBNe, Nat.reduceBneDiff, Nat.reduceBeqDiff, Int.reduceToNat, Int.reduceLE, Int.reduceLT, Int.reduceEq, Int.reduceNe, Int.reduceNeg, Int.reduceAdd, Int.reduceSub, ↓reduceIte, reduceCtorEq, k_drawn_q, e3, e4, e7, e2, wrap_nat hb]
end Go.Proofs.YtjmghomnbmbjnaaGreat
set_option linter.all false
namespace Go.Proofs.YtjmghomnbmbjnaaGreat
open Go.Abs
-- CTX D
attribute [local congr] ite_congr
set_option maxRecDepth 10000
theorem tyL_len {p : Pr} (h40 : p.params.length ≤ 40) : (prT p).length ≤ 4000000 := by
  unfold prT tyL
  split
  · split
    · simp
    · simp; omega
  · simp
theorem prI_len {p : Pr} : (prI p).length ≤ 6401 := by
  unfold prI
  split
  · rename_i hc
    split
    · simp
    · obtain ⟨V, _⟩ := chk_zero (det_chk (cost_det hc))
      have := lnL_vld V
      have := cdL_len (slotsS p) p.body 0
      unfold cdP
      simp
      omega
  · simp
end Go.Proofs.YtjmghomnbmbjnaaGreat
