/- The law of chapter 14: Renames. -/
import Derived.Test.YtdcmimpjmngdlaaFlow15
import Derived.Test.YtdcmimpjmngdlaaSeatT
set_option linter.unusedVariables false
set_option linter.unusedSimpArgs false
set_option linter.all false
set_option linter.deprecated false
set_option linter.all false
namespace Go.Proofs.Ytdcmimpjmngdlaa
open Go.Abs
attribute [local congr] ite_congr
set_option maxRecDepth 10000
set_option maxHeartbeats 4000000 in
theorem lawDataflowRenames (p : Pr) (a b : Bytes) (hp : p.Ok) (ha : a.length ≤ 1048576) (hb : b.length ≤ 1048576) : acl C 6 [Pr.av p, .d (.str a), .d (.str b)] A00 = some (.d (.bool true), A00) := by
  have sm := small p hp 600 A00
  rw [k_call (c := C) (f := 6) rfl Try.func6 rfl (ok 6 (by kernel_rfl)) rfl Try.ntmps6 Try.results6 (by simp)]
  cases hs : smallS p 600 with
  | false => simp (maxSteps := 1000000) only [go_sem, acondK_bool, acB_merge, Nat.reduceLT, Nat.reduceLeDiff, Nat.reduceEqDiff, Nat.reduceAdd, Nat.reduceSub, Nat.reduceMul, Nat.reduceBEq, Nat.reduceBNe, Nat.reduceBneDiff, Nat.reduceBeqDiff, Int.reduceToNat, Int.reduceLE, Int.reduceLT, Int.reduceEq, Int.reduceNe, Int.reduceNeg, Int.reduceAdd, Int.reduceSub, ↓reduceIte, reduceCtorEq, k_drawn_q, sm, works, hs]
  | true =>
  cases h4 : decide (200 < (a.length : Int)) with
  | true => simp (maxSteps := 1000000) only [go_sem, acondK_bool, acB_merge, Nat.reduceLT, Nat.reduceLeDiff, Nat.reduceEqDiff, Nat.reduceAdd, Nat.reduceSub, Nat.reduceMul, Nat.reduceBEq, Nat.reduceBNe, Nat.reduceBneDiff, Nat.reduceBeqDiff, Int.reduceToNat, Int.reduceLE, Int.reduceLT, Int.reduceEq, Int.reduceNe, Int.reduceNeg, Int.reduceAdd, Int.reduceSub, ↓reduceIte, reduceCtorEq, k_drawn_q, sm, works, hs, h4]
  | false =>
  cases h5 : decide (200 < (b.length : Int)) with
  | true => simp (maxSteps := 1000000) only [go_sem, acondK_bool, acB_merge, Nat.reduceLT, Nat.reduceLeDiff, Nat.reduceEqDiff, Nat.reduceAdd, Nat.reduceSub, Nat.reduceMul, Nat.reduceBEq, Nat.reduceBNe, Nat.reduceBneDiff, Nat.reduceBeqDiff, Int.reduceToNat, Int.reduceLE, Int.reduceLT, Int.reduceEq, Int.reduceNe, Int.reduceNeg, Int.reduceAdd, Int.reduceSub, ↓reduceIte, reduceCtorEq, k_drawn_q, sm, works, hs, h4, h5]
  | false =>
  have h40 := small40 hs
  have r1 := renameR p hp h40 a b (by omega)
  rw [← rnm_eq] at r1
  rcases rnm_cases p a b with ⟨k1, k2⟩ | ⟨k1, V, hbn, han, hoc⟩
  · have d1 : decide ((rnmS p a b).2 = 0) = false := by simpa using k2
    simp (maxSteps := 1000000) only [go_sem, acondK_bool, acB_merge, Nat.reduceLT, Nat.reduceLeDiff, Nat.reduceEqDiff, Nat.reduceAdd, Nat.reduceSub, Nat.reduceMul, Nat.reduceBEq, Nat.reduceBNe, Nat.reduceBneDiff, Nat.reduceBeqDiff, Int.reduceToNat, Int.reduceLE, Int.reduceLT, Int.reduceEq, Int.reduceNe, Int.reduceNeg, Int.reduceAdd, Int.reduceSub, ↓reduceIte, reduceCtorEq, k_drawn_q, sm, works, hs, h4, h5, r1, d1]
  · rw [k1] at r1
    rw [occ_eq V (isName_ne hbn)] at hoc
    have han' := V.isName han
    have hab : a ≠ b := by
      intro e
      subst e
      have hm := hasN_mem.1 han
      have hf := prm_free han' hbn hoc
      have hv : (visP p).any (visHas a) = false := by
        unfold occT at hoc
        rw [Bool.or_eq_false_iff] at hoc
        exact hoc.2
      unfold namesS paramNames at hm
      rcases List.mem_append.1 hm with hm | hm
      · obtain ⟨x, hx, hxa⟩ := List.mem_map.1 hm
        exact hf x hx hxa
      · exact namesV_has _ hv a hm rfl
    have hba : (b == a) = false := by simpa using fun e => hab e.symm
    obtain ⟨f1, f2, f3, f4⟩ := flow_ren han' hbn V hoc
    have hq : (renP a b p).Ok := renP_ok (by omega) p hp
    have hq40 : (renP a b p).params.length ≤ 40 := by simpa [renP] using h40
    have t1 := taintedD p hp h40 A00
    have t2 := taintedD _ hq hq40 A00
    have y1 := keysD p hp h40 A00
    have y2 := keysD _ hq hq40 A00
    have z1 := controlD p hp h40 A00
    have z2 := controlD _ hq hq40 A00
    have w1 := independentD p hp h40 A00
    have w2 := independentD _ hq hq40 A00
    rw [f1] at t2
    rw [f2] at y2
    rw [f3] at z2
    rw [f4] at w2
    have hvl := tns_len p h40
    have hl2 : ((tnsS p).map (renN a b)).length = (tnsS p).length := by simp
    generalize tnsS p = vs at *
    have s1 : (keyD p == keyD p) = true := by simp
    have s2 : (brnD p == brnD p) = true := by simp
    have s3 : (indD p == indD p) = true := by simp
    have s4 : decide (((vs.length : Nat) : Int) = ((vs.length : Nat) : Int)) = true := by simp
    generalize keyD p = kd at *
    generalize brnD p = bd at *
    generalize indD p = nd at *
    simp (maxSteps := 1000000) only [go_sem, acondK_bool, acB_merge, Nat.reduceLT, Nat.reduceLeDiff, Nat.reduceEqDiff, Nat.reduceAdd, Nat.reduceSub, Nat.reduceMul, Nat.reduceBEq, Nat.reduceBNe, Nat.reduceBneDiff, Nat.reduceBeqDiff, Int.reduceToNat, Int.reduceLE, Int.reduceLT, Int.reduceEq, Int.reduceNe, Int.reduceNeg, Int.reduceAdd, Int.reduceSub, ↓reduceIte, reduceCtorEq, k_drawn_q, sm, works, hs, h4, h5, r1, t1, t2, y1, y2, z1, z2, w1, w2, hl2, s1, s2, s3, s4]
    refine loop_any (fun pre => [(9, .v (.d (.slice (vs.map sRow)))), (2, .v (.d (.str b))), (10, .v (.d (.slice ((vs.map (renN a b)).map sRow)))), (1, .v (.d (.str a))), (11, .v (.d (.int .i64 (pre.length : Nat))))])
      (fun _ => A00) (fun _ _ => some (.d (.bool true), A00)) vs rfl rfl rfl ?_
    intro pre suf h ih
    have hb : pre.length < 9223372036854775807 := by rw [h] at hvl; simp at hvl; omega
    cases suf with
    | nil =>
      have e4 : decide ((pre.length : Int) < (vs.length : Int)) = false := by rw [h]; simp
      simp (maxSteps := 1000000) only [go_sem, acondK_bool, acB_merge, Nat.reduceLT, Nat.reduceLeDiff, Nat.reduceEqDiff, Nat.reduceAdd, Nat.reduceSub, Nat.reduceMul, Nat.reduceBEq, Nat.reduceBNe, Nat.reduceBneDiff, Nat.reduceBeqDiff, Int.reduceToNat, Int.reduceLE, Int.reduceLT, Int.reduceEq, Int.reduceNe, Int.reduceNeg, Int.reduceAdd, Int.reduceSub, ↓reduceIte, reduceCtorEq, e4, works]
    | cons x suf =>
      have e2 := ih x suf rfl
      rw [List.length_append, List.length_cons, List.length_nil] at e2
      have e3 : (vs.map sRow)[pre.length]? = some [.str x] := by rw [h]; exact map_mid
      have e5 : ((vs.map (renN a b)).map sRow)[pre.length]? = some [.str (renN a b x)] := by rw [List.map_map, h]; exact map_mid
      have e4 : decide ((pre.length : Int) < (vs.length : Int)) = true := by rw [h]; simp; omega
      cases hx : (x == a) with
      | true =>
        have hr : renN a b x = b := by unfold renN; rw [if_pos hx]
        rw [hr] at e5
        simp (maxSteps := 1000000) only [go_sem, acondK_bool, acB_merge, Nat.reduceLT, Nat.reduceLeDiff, Nat.reduceEqDiff, Nat.reduceAdd, Nat.reduceSub, Nat.reduceMul, Nat.reduceBEq, Nat.reduceBNe, Nat.reduceBneDiff, Nat.reduceBeqDiff, Int.reduceToNat, Int.reduceLE, Int.reduceLT, Int.reduceEq, Int.reduceNe, Int.reduceNeg, Int.reduceAdd, Int.reduceSub, ↓reduceIte, reduceCtorEq, e3, e4, e5, e2, hx, hba, k_drawn_q, beq_self_eq_true, wrap_nat hb]
      | false =>
        have hr : renN a b x = x := by unfold renN; rw [if_neg (by simp [hx])]
        rw [hr] at e5
        simp (maxSteps := 1000000) only [go_sem, acondK_bool, acB_merge, Nat.reduceLT, Nat.reduceLeDiff, Nat.reduceEqDiff, Nat.reduceAdd, Nat.reduceSub, Nat.reduceMul, Nat.reduceBEq, Nat.reduceBNe, Nat.reduceBneDiff, Nat.reduceBeqDiff, Int.reduceToNat, Int.reduceLE, Int.reduceLT, Int.reduceEq, Int.reduceNe, Int.reduceNeg, Int.reduceAdd, Int.reduceSub, ↓reduceIte, reduceCtorEq, e3, e4, e5, e2, hx, hba, k_drawn_q, beq_self_eq_true, wrap_nat hb]
end Go.Proofs.Ytdcmimpjmngdlaa
