/- The operators of an expression, in the order of its nodes; what the reference finds out of them. -/
import Derived.Test.YtjmghomnbmbjnaaSeatI
import Derived.Test.YtjmghomnbmbjnaaSeatE
import Derived.Test.YtjmghomnbmbjnaaSeatD
import Derived.Test.YtjmghomnbmbjnaaSeatK
import Derived.Test.YtjmghomnbmbjnaaSeatH
set_option linter.unusedVariables false
set_option linter.unusedSimpArgs false
set_option linter.all false
set_option linter.deprecated false
set_option linter.all false
namespace Go.Proofs.Ytjmghomnbmbjnaa
open Go.Abs
attribute [local congr] ite_congr
set_option maxRecDepth 10000
theorem opsEs_mem_len : ∀ (l : List E) (x : E), x ∈ l → (opsE x).length ≤ (opsEs l).length
  | y :: l, x, h => by
    simp only [opsEs, List.length_append]
    rcases List.mem_cons.1 h with rfl | h
    · omega
    · have := opsEs_mem_len l x h; omega
theorem iRow_all (l : List Int) : (l.map iRow).all (fun r => r.length == 1) = true := by
  rw [List.all_eq_true]
  intro r hr
  obtain ⟨x, _, rfl⟩ := List.mem_map.1 hr
  rfl
/-- the operators of a node and of its first operands, as they are collected -/
noncomputable def opSt (A : AHeap) (op : Int) : List E → AV × AHeap
  | [] => (.full [[.int .i64 op]], A)
  | x :: l => grI A (op :: opsEs (x :: l))
theorem opSt_snoc (A : AHeap) (op : Int) (pre : List E) (x : E) : opSt A op (pre ++ [x]) = grI A ((op :: opsEs pre) ++ opsE x) := by
  have h : opsEs (pre ++ [x]) = opsEs pre ++ opsE x := by rw [opsEs_append]; simp [opsEs]
  cases pre with
  | nil => show grI A (op :: opsEs [x]) = _; simp [opsEs]
  | cons y l => show grI A (op :: opsEs (y :: l ++ [x])) = _; rw [h]; rfl
theorem opSt_append (A : AHeap) (op : Int) (pre : List E) (x : E) (h : (opsEs pre).length + 1 + (opsE x).length ≤ 4194304) : aappend Try.prog 3 1 (opSt A op pre).2 (opSt A op pre).1 ((opsE x).map iRow) = some (opSt A op (pre ++ [x])) := by
  rw [opSt_snoc]
  have hx : (opsE x).map iRow ≠ [] := by cases x; simp [opsE]
  cases pre with
  | nil =>
    show aappend Try.prog 3 1 A (.full [[.int .i64 op]]) ((opsE x).map iRow) = _
    unfold aappend
    rw [if_pos ⟨room_3_1, iRow_all _⟩]
    simp only [if_neg hx]
    rw [if_pos ⟨by simp [opsEs] at h ⊢; omega, rfl⟩]
    unfold grI agrow
    rw [if_neg (by simp)]
    simp [opsEs, iRow, Nat.add_comm]
  | cons y l =>
    show aappend Try.prog 3 1 (grI A (op :: opsEs (y :: l))).2 (grI A (op :: opsEs (y :: l))).1 ((opsE x).map iRow) = _
    unfold grI
    rw [agrow_append room_3_1 (iRow_all _) (by simp only [List.length_map, List.length_cons]; omega), ← List.map_append]
theorem opSt_fin {f : FuncId} (ho : C.own f = false) (A : AHeap) (op : Int) (pre : List E) : afinR C f A (opSt A op pre).2 (some (opSt A op pre).1) = some (.d (.slice ((op :: opsEs pre).map iRow)), A) := by
  cases pre with
  | nil => exact afinR_still (v := .full [[.int .i64 op]]) ho rfl
  | cons y l => exact afin_grown ho
end Go.Proofs.Ytjmghomnbmbjnaa
set_option linter.all false
namespace Go.Proofs.Ytjmghomnbmbjnaa
open Go.Abs
attribute [local congr] ite_congr
set_option maxRecDepth 10000
theorem opsE_vis : ∀ (e : E) (r : Bool), (opsE e).length = (visE e r).length
  | .mk op n s args, r => by
    have := opsEs_vis args
    simp only [opsE, visE, List.length_cons, this]
where opsEs_vis : ∀ (l : List E), (opsEs l).length = (visEs l).length
  | [] => rfl
  | x :: l => by
    simp only [opsEs, visEs, List.length_append, opsE_vis x false, opsEs_vis l]
theorem opsEs_le (n : Nat) : ∀ (l : List E), (∀ e ∈ l, (opsE e).length ≤ n) → (opsEs l).length ≤ n * l.length
  | [], _ => by simp [opsEs]
  | x :: l, h => by
    have h1 := h x (List.mem_cons_self ..)
    have h2 := opsEs_le n l (fun e he => h e (List.mem_cons_of_mem _ he))
    simp only [opsEs, List.length_append, List.length_cons, Nat.mul_add]
    omega
theorem few_ops (p : Pr) (h : valS p = 0) : (opsEs (exprsS p)).length ≤ 160400 := by
  have V := (valS_zero p).1 h
  have h1 := opsEs_le 400 (exprsS p) fun e he => by rw [opsE_vis e true]; exact (V.roots e he).2
  have h2 := exprsS_len p
  have := Nat.mul_le_mul_left 400 h2
  omega
theorem few_op (p : Pr) (h : valS p = 0) : ∀ e ∈ exprsS p, (opsE e).length ≤ 4194303 := fun e he => by
  have V := (valS_zero p).1 h
  rw [opsE_vis e true]
  have := (V.roots e he).2
  omega
/-- the types' check, whatever the procedure -/
theorem checkOfG (p : Pr) (hp : p.Ok) (A : AHeap) : acl C 34 [Pr.av p] A = some (.d (.int .i64 (chkS p)), A) := by
  by_cases h : valS p = 0
  · exact checkOf p hp (by have := ((prmS_zero3 _).1 ((valS_zero p).1 h).prm).1.2; omega) A
  · have v1 := validate p hp
    have h1 : decide (valS p = 0) = false := by simpa using h
    have f0 : ∀ n, afinR C 49 A A (some (.tuple [.nilM, .d (.int .i64 n)])) = some (.tuple [.nilM, .d (.int .i64 n)], A) :=
      fun n => afinR_still (c := C) (f := 49) (v := .tuple [.nilM, .d (.int .i64 n)]) rfl rfl
    have h2 : preErr p = valS p := by unfold preErr; rw [if_neg (by rw [h1]; decide)]
    have h3 : decide (preErr p = 0) = false := by rw [h2]; exact h1
    have c1 : acl C 49 [Pr.av p] A = some (.tuple [.nilM, .d (.int .i64 (preErr p))], A) := by
      rw [k_call (c := C) (f := 49) rfl Try.func49 rfl (ok 49 (by kernel_rfl)) rfl Try.ntmps49 Try.results49 (by simp)]
      rw [h2]
      simp (maxSteps := 1000000) only [go_sem, acondK_bool, acB_merge, Nat.reduceLT, Nat.reduceLeDiff, Nat.reduceEqDiff, Nat.reduceAdd, Nat.reduceSub, Nat.reduceMul, Nat.reduceBEq, Nat.reduceBNe, Nat.reduceBneDiff, Nat.reduceBeqDiff, Int.reduceToNat, Int.reduceLE, Int.reduceLT, Int.reduceEq, Int.reduceNe, Int.reduceNeg, Int.reduceAdd, Int.reduceSub, ↓reduceIte, reduceCtorEq, v1, h1, f0]
    rw [k_call (c := C) (f := 34) rfl Try.func34 rfl (ok 34 (by kernel_rfl)) rfl Try.ntmps34 Try.results34 (by simp)]
    unfold chkS
    rw [h3, if_neg (by decide)]
    simp (maxSteps := 1000000) only [go_sem, acondK_bool, acB_merge, Nat.reduceLT, Nat.reduceLeDiff, Nat.reduceEqDiff, Nat.reduceAdd, Nat.reduceSub, Nat.reduceMul, Nat.reduceBEq, Nat.reduceBNe, Nat.reduceBneDiff, Nat.reduceBeqDiff, Int.reduceToNat, Int.reduceLE, Int.reduceLT, Int.reduceEq, Int.reduceNe, Int.reduceNeg, Int.reduceAdd, Int.reduceSub, ↓reduceIte, reduceCtorEq, c1]
/-- the determinism's check -/
def detS (p : Pr) : Int := if decide (chkS p = 0) = true then (if (fstP p).2.2 = true then 12 else 0) else chkS p
end Go.Proofs.Ytjmghomnbmbjnaa
