/- The law: Program joins the texts of its procedures. -/
import Derived.Test.YtfflfaedghfmdaaDoorSeatL
import Derived.Test.YtfflfaedghfmdaaDoorSeatA
set_option linter.unusedVariables false
set_option linter.unusedSimpArgs false
set_option linter.all false
set_option linter.deprecated false
set_option linter.all false
namespace Go.Proofs.YtfflfaedghfmdaaDoor
open Go.Abs
attribute [local congr] ite_congr
set_option maxRecDepth 100000
theorem joinB_cc (sep x y : Bytes) (l : List Bytes) : joinB sep (x :: y :: l) = x ++ (sep ++ joinB sep (y :: l)) := by
  rw [joinB]
  simp
theorem joinB_snoc (sep x : Bytes) : ∀ l : List Bytes, l ≠ [] → joinB sep (l ++ [x]) = joinB sep l ++ sep ++ x
  | [], h => absurd rfl h
  | [y], _ => by simp [joinB]
  | y :: z :: l, _ => by
    have h := joinB_snoc sep x (z :: l) (by simp)
    simp only [List.cons_append] at h ⊢
    rw [joinB_cc, h, joinB_cc]
    simp only [List.append_assoc]
set_option maxHeartbeats 4000000 in
theorem lawPrinterJoins (l : List Pr) (hl0 : l.length ≤ 1048576) (hok : ∀ p ∈ l, p.Ok) (A : AHeap) : acl C 7 [.d (.slice (l.map Pr.row))] A = some (.d (.bool true), A) := by
  have pg := programP l hl0 hok A
  have wk := works A
  rw [k_call (c := C) (f := 7) rfl Tryd.func7 rfl (ok 7 (by kernel_rfl)) rfl Tryd.ntmps7 Tryd.results7 (by simp)]
  simp (maxSteps := 1000000) only [go_sem, acondK_bool, acB_merge, Nat.reduceLT, Nat.reduceLeDiff, Nat.reduceEqDiff, Nat.reduceAdd, Nat.reduceSub, Nat.reduceMul, Nat.reduceBEq, Nat.reduceBNe, Nat.reduceBneDiff, Nat.reduceBeqDiff, Int.reduceToNat, Int.reduceLE, Int.reduceLT, Int.reduceEq, Int.reduceNe, Int.reduceNeg, Int.reduceAdd, Int.reduceSub, ↓reduceIte, reduceCtorEq]
  refine loop_any (fun pre => [(3, .v (.d (.str (joinB [10] (pre.map procS))))), (4, .v (.d (.bool (pre.all vldB)))), (5, .v (.d (.int .i64 (pre.length : Nat)))), (0, .v (.d (.slice (l.map Pr.row))))])
    (fun _ => A) (fun _ _ => some (.d (.bool true), A)) l rfl rfl rfl ?_
  intro pre suf hl ih
  have hb : pre.length ≤ l.length := by rw [hl]; simp
  cases suf with
  | nil =>
    rw [List.append_nil] at hl
    subst hl
    have e1 : decide ((l.length : Int) < (l.length : Int)) = false := by simp
    unfold progS at pg
    cases hv : l.all vldB with
    | true =>
      rw [hv, if_pos rfl] at pg
      generalize joinB [10] (l.map procS) = q at *
      simp (maxSteps := 1000000) only [go_sem, acondK_bool, acB_merge, Nat.reduceLT, Nat.reduceLeDiff, Nat.reduceEqDiff, Nat.reduceAdd, Nat.reduceSub, Nat.reduceMul, Nat.reduceBEq, Nat.reduceBNe, Nat.reduceBneDiff, Nat.reduceBeqDiff, Int.reduceToNat, Int.reduceLE, Int.reduceLT, Int.reduceEq, Int.reduceNe, Int.reduceNeg, Int.reduceAdd, Int.reduceSub, ↓reduceIte, reduceCtorEq, e1, pg, wk]
      rw [beq_self_eq_true]
    | false =>
      rw [hv, if_neg (by decide)] at pg
      generalize joinB [10] (l.map procS) = q at *
      simp (maxSteps := 1000000) only [go_sem, acondK_bool, acB_merge, Nat.reduceLT, Nat.reduceLeDiff, Nat.reduceEqDiff, Nat.reduceAdd, Nat.reduceSub, Nat.reduceMul, Nat.reduceBEq, Nat.reduceBNe, Nat.reduceBneDiff, Nat.reduceBeqDiff, Int.reduceToNat, Int.reduceLE, Int.reduceLT, Int.reduceEq, Int.reduceNe, Int.reduceNeg, Int.reduceAdd, Int.reduceSub, ↓reduceIte, reduceCtorEq, e1, pg, wk]
  | cons x suf =>
    have hx : x ∈ l := by rw [hl]; simp
    have e1 : decide ((pre.length : Int) < (l.length : Int)) = true := by rw [hl]; simp; omega
    have e3 : (l.map Pr.row)[pre.length]? = some [.str x.name, .slice (x.params.map Pm.row), .slice (x.body.map Stm.row)] := by rw [hl]; exact map_mid
    have ih' := ih x suf rfl
    rw [List.map_append, List.map_cons, List.map_nil, List.length_append, List.length_cons, List.length_nil, List.all_append, List.all_cons, List.all_nil, Bool.and_true] at ih'
    have p1 := procP x (hok x hx) A
    have v1 := validate x (hok x hx) A
    have w1 : IntKind.i64.wrap ((pre.length : Int) + 1) = ((pre.length + 1 : Nat) : Int) := wrap_nat (by omega)
    have hj := join_small (l := pre) (by omega) (fun p hp => hok p (by rw [hl]; exact List.mem_append_left _ hp)) [10] (by simp)
    have hx2 := procS_len (hok x hx)
    have hvx : vldB x = decide (valS x = 0) := rfl
    rw [hvx] at ih'
    by_cases hp : pre = []
    · subst hp
      have e5 : decide ((0 : Int) < ((([] : List Pr).length : Nat) : Int)) = false := by rfl
      have e6 : joinB [10] (([] : List Pr).map procS) = [] := rfl
      have e7 : joinB [10] (([] : List Pr).map procS ++ [procS x]) = procS x := rfl
      have e8 : ([] : List Pr).all vldB = true := rfl
      have c1 := sadd (a := []) (b := procS x) (by simp; omega)
      rw [List.nil_append] at c1
      rw [e7, e8, Bool.true_and] at ih'
      rw [e6, e8]
      generalize procS x = q at *
      generalize ([] : List Pr).length = n at *
      cases hq : decide (valS x = 0) with
      | true =>
        rw [hq] at ih'
        simp (maxSteps := 1000000) only [go_sem, acondK_bool, acB_merge, Nat.reduceLT, Nat.reduceLeDiff, Nat.reduceEqDiff, Nat.reduceAdd, Nat.reduceSub, Nat.reduceMul, Nat.reduceBEq, Nat.reduceBNe, Nat.reduceBneDiff, Nat.reduceBeqDiff, Int.reduceToNat, Int.reduceLE, Int.reduceLT, Int.reduceEq, Int.reduceNe, Int.reduceNeg, Int.reduceAdd, Int.reduceSub, ↓reduceIte, reduceCtorEq, e1, e5, e3, p1, c1, v1, hq, w1, ih']
      | false =>
        rw [hq] at ih'
        simp (maxSteps := 1000000) only [go_sem, acondK_bool, acB_merge, Nat.reduceLT, Nat.reduceLeDiff, Nat.reduceEqDiff, Nat.reduceAdd, Nat.reduceSub, Nat.reduceMul, Nat.reduceBEq, Nat.reduceBNe, Nat.reduceBneDiff, Nat.reduceBeqDiff, Int.reduceToNat, Int.reduceLE, Int.reduceLT, Int.reduceEq, Int.reduceNe, Int.reduceNeg, Int.reduceAdd, Int.reduceSub, ↓reduceIte, reduceCtorEq, e1, e5, e3, p1, c1, v1, hq, w1, ih']
    · have hpm : pre.map procS ≠ [] := by simpa using hp
      have e5 : decide ((0 : Int) < ((pre.length : Nat) : Int)) = true := by
        cases pre with
        | nil => exact absurd rfl hp
        | cons _ _ => simp
      rw [joinB_snoc _ _ _ hpm] at ih'
      have c1 := sadd (a := joinB [10] (pre.map procS)) (b := [10]) (by simp; omega)
      have c2 := sadd (a := joinB [10] (pre.map procS) ++ [10]) (b := procS x) (by simp; omega)
      generalize joinB [10] (pre.map procS) ++ [10] ++ procS x = q3 at *
      generalize joinB [10] (pre.map procS) ++ [10] = q2 at *
      generalize joinB [10] (pre.map procS) = q1 at *
      generalize procS x = q at *
      cases hv : pre.all vldB with
      | false =>
        rw [hv, Bool.false_and] at ih'
        simp (maxSteps := 1000000) only [go_sem, acondK_bool, acB_merge, Nat.reduceLT, Nat.reduceLeDiff, Nat.reduceEqDiff, Nat.reduceAdd, Nat.reduceSub, Nat.reduceMul, Nat.reduceBEq, Nat.reduceBNe, Nat.reduceBneDiff, Nat.reduceBeqDiff, Int.reduceToNat, Int.reduceLE, Int.reduceLT, Int.reduceEq, Int.reduceNe, Int.reduceNeg, Int.reduceAdd, Int.reduceSub, ↓reduceIte, reduceCtorEq, e1, e5, e3, p1, c1, c2, w1, ih']
      | true =>
        rw [hv, Bool.true_and] at ih'
        cases hq : decide (valS x = 0) with
        | true =>
          rw [hq] at ih'
          simp (maxSteps := 1000000) only [go_sem, acondK_bool, acB_merge, Nat.reduceLT, Nat.reduceLeDiff, Nat.reduceEqDiff, Nat.reduceAdd, Nat.reduceSub, Nat.reduceMul, Nat.reduceBEq, Nat.reduceBNe, Nat.reduceBneDiff, Nat.reduceBeqDiff, Int.reduceToNat, Int.reduceLE, Int.reduceLT, Int.reduceEq, Int.reduceNe, Int.reduceNeg, Int.reduceAdd, Int.reduceSub, ↓reduceIte, reduceCtorEq, e1, e5, e3, p1, c1, c2, v1, hq, w1, ih']
        | false =>
          rw [hq] at ih'
          simp (maxSteps := 1000000) only [go_sem, acondK_bool, acB_merge, Nat.reduceLT, Nat.reduceLeDiff, Nat.reduceEqDiff, Nat.reduceAdd, Nat.reduceSub, Nat.reduceMul, Nat.reduceBEq, Nat.reduceBNe, Nat.reduceBneDiff, Nat.reduceBeqDiff, Int.reduceToNat, Int.reduceLE, Int.reduceLT, Int.reduceEq, Int.reduceNe, Int.reduceNeg, Int.reduceAdd, Int.reduceSub, ↓reduceIte, reduceCtorEq, e1, e5, e3, p1, c1, c2, v1, hq, w1, ih']
theorem lawPrinterJoinsC (l : List Pr) (k : l.length ≤ 1048576 ∧ (∀ p ∈ l, p.Ok) ∧ wRows (l.map Pr.row) ≤ 1048576) : acl C 7 [.d (.slice (l.map Pr.row))] A00 = some (.d (.bool true), A00) := lawPrinterJoins l k.1 k.2.1 A00
end Go.Proofs.YtfflfaedghfmdaaDoor
