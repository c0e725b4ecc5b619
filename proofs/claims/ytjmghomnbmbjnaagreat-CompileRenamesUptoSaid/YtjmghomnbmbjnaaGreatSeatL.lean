/- The operators of an expression, in the order of its nodes; what the reference finds out of them. -/
import Derived.Test.YtjmghomnbmbjnaaGreatSeatI
import Derived.Test.YtjmghomnbmbjnaaGreatSeatE
import Derived.Test.YtjmghomnbmbjnaaGreatSeatD
import Derived.Test.YtjmghomnbmbjnaaGreatSeatK
import Derived.Test.YtjmghomnbmbjnaaGreatSeatH
set_option linter.unusedVariables false
set_option linter.unusedSimpArgs false
set_option linter.all false
set_option linter.deprecated false
set_option linter.all false
namespace Go.Proofs.YtjmghomnbmbjnaaGreat
open Go.Abs
attribute [local congr] ite_congr
set_option maxRecDepth 10000
end Go.Proofs.YtjmghomnbmbjnaaGreat
set_option linter.all false
namespace Go.Proofs.YtjmghomnbmbjnaaGreat
open Go.Abs
attribute [local congr] ite_congr
set_option maxRecDepth 10000
theorem opsE_vis : ∀ (e : E) (r : Bool), (opsE e).length = (visE e r).length
  | .mk op n s args, r => by
    have := opsEs_vis args
    simp only [opsE, visE, List.length_cons, this]
where opsEs_vis : ∀ (l : List E), (opsEs l).length = (visEs l).length
  | [] => rfl
  | x :: l => by
    simp only [opsEs, visEs, List.length_append, opsE_vis x false, opsEs_vis l]
theorem opsEs_le (n : Nat) : ∀ (l : List E), (∀ e ∈ l, (opsE e).length ≤ n) → (opsEs l).length ≤ n * l.length
  | [], _ => by simp [opsEs]
  | x :: l, h => by
    have h1 := h x (List.mem_cons_self ..)
    have h2 := opsEs_le n l (fun e he => h e (List.mem_cons_of_mem _ he))
    simp only [opsEs, List.length_append, List.length_cons, Nat.mul_add]
    omega
theorem few_ops (p : Pr) (h : valS p = 0) : (opsEs (exprsS p)).length ≤ 160400 := by
  have V := (valS_zero p).1 h
  have h1 := opsEs_le 400 (exprsS p) fun e he => by rw [opsE_vis e true]; exact (V.roots e he).2
  have h2 := exprsS_len p
  have := Nat.mul_le_mul_left 400 h2
  omega
theorem checkOfG (p : Pr) (hp : p.Ok) (A : AHeap) : acl C 22 [Pr.av p] A = some (.d (.int .i64 (chkS p)), A) := by
  by_cases h : valS p = 0
  · exact checkOf p hp (by have := ((prmS_zero3 _).1 ((valS_zero p).1 h).prm).1.2; omega) A
  · have v1 := validate p hp
    have h1 : decide (valS p = 0) = false := by simpa using h
    have f0 : ∀ n, afinR C 44 A A (some (.tuple [.nilM, .d (.int .i64 n)])) = some (.tuple [.nilM, .d (.int .i64 n)], A) :=
      fun n => afinR_still (c := C) (f := 44) (v := .tuple [.nilM, .d (.int .i64 n)]) rfl rfl
    have h2 : preErr p = valS p := by unfold preErr; rw [if_neg (by rw [h1]; decide)]
    have h3 : decide (preErr p = 0) = false := by rw [h2]; exact h1
    have c1 : acl C 44 [Pr.av p] A = some (.tuple [.nilM, .d (.int .i64 (preErr p))], A) := by
      rw [k_call (c := C) (f := 44) rfl Tryz.func44 rfl (ok 44 (by kernel_rfl)) rfl Tryz.ntmps44 Tryz.results44 (by simp)]
      rw [h2]
      simp (maxSteps := 1000000) only [go_sem, acondK_bool, acB_merge, Nat.reduceLT, Nat.reduceLeDiff, Nat.reduceEqDiff, Nat.reduceAdd, Nat.reduceSub, Nat.reduceMul, Nat.reduceBEq, Nat.reduceBNe, Nat.reduceBneDiff, Nat.reduceBeqDiff, Int.reduceToNat, Int.reduceLE, Int.reduceLT, Int.reduceEq, Int.reduceNe, Int.reduceNeg, Int.reduceAdd, Int.reduceSub, ↓reduceIte, reduceCtorEq, v1, h1, f0]
    rw [k_call (c := C) (f := 22) rfl Tryz.func22 rfl (ok 22 (by kernel_rfl)) rfl Tryz.ntmps22 Tryz.results22 (by simp)]
    unfold chkS
    rw [h3, if_neg (by decide)]
    simp (maxSteps := 1000000) only [go_sem, acondK_bool, acB_merge, Nat.reduceLT, Nat.reduceLeDiff, Nat.reduceEqDiff, Nat.reduceAdd, Nat.reduceSub, Nat.reduceMul, Nat.reduceBEq, Nat.reduceBNe, Nat.reduceBneDiff, Nat.reduceBeqDiff, Int.reduceToNat, Int.reduceLE, Int.reduceLT, Int.reduceEq, Int.reduceNe, Int.reduceNeg, Int.reduceAdd, Int.reduceSub, ↓reduceIte, reduceCtorEq, c1]
def detS (p : Pr) : Int := if decide (chkS p = 0) = true then (if (fstP p).2.2 = true then 12 else 0) else chkS p
end Go.Proofs.YtjmghomnbmbjnaaGreat
