/- The code of a procedure: compile.Proc. -/
import Derived.Test.YtjmghomnbmbjnaaGreatSeatU
import Derived.Test.YtjmghomnbmbjnaaGreatSeatW
set_option linter.unusedVariables false
set_option linter.unusedSimpArgs false
set_option linter.all false
set_option linter.deprecated false
set_option linter.all false
namespace Go.Proofs.YtjmghomnbmbjnaaGreat
open Go.Abs
-- CTX D
attribute [local congr] ite_congr
set_option maxRecDepth 10000
def tyL (p : Pr) : List Int := p.params.map Pm.type
def cdP (p : Pr) : List In := cdL (slotsS p) p.body 0 ++ [one 13 0]
def prT (p : Pr) : List Int := if costC p = 0 then (if 64 < ((slotsS p).length : Int) then [] else tyL p) else []
def prN (p : Pr) : Int := if costC p = 0 then (if 64 < ((slotsS p).length : Int) then 0 else ((slotsS p).length : Nat)) else 0
def prI (p : Pr) : List In := if costC p = 0 then (if 64 < ((slotsS p).length : Int) then [] else cdP p) else []
def prE (p : Pr) : Int := if costC p = 0 then (if 64 < ((slotsS p).length : Int) then 2 else 0) else costC p
theorem cost_det {p : Pr} (h : costC p = 0) : detS p = 0 := by
  unfold costC at h
  by_cases hd : detS p = 0
  · exact hd
  · rw [if_neg (by simpa using hd)] at h; exact h
theorem det_chk {p : Pr} (h : detS p = 0) : chkS p = 0 := by
  unfold detS at h
  by_cases hc : chkS p = 0
  · exact hc
  · rw [if_neg (by simpa using hc)] at h; exact h
theorem lnL_vld {p : Pr} (V : Vld p) : lnL p.body ≤ 6400 := by
  have := lnL_vis p.body 1
  have := V.len
  omega
theorem finD {f : FuncId} {A B : AHeap} {r : Option AV} : afinR D f A B r = afinR C f A B r := by rfl
set_option maxHeartbeats 4000000 in
theorem procOf (p : Pr) (hp : p.Ok) (h40 : p.params.length ≤ 40) (A : AHeap) : acl D 11 [Pr.av p] A = some (.tuple [codeAv (prT p) (prN p) (prI p), .d (.int .i64 (prE p))], A) := by
  have c1 := costD p hp A
  unfold prT prN prI prE
  by_cases hc : costC p = 0
  · have hc' : decide (costC p = 0) = true := by simpa using hc
    have hk := det_chk (cost_det hc)
    obtain ⟨V, _⟩ := chk_zero hk
    have hS := slots_len p h40
    have s1 := up (slotsP p hp h40 A)
    rw [if_pos hc, if_pos hc, if_pos hc, if_pos hc]
    have hln := lnL_vld V
    have b1 := up (blkP_all (slotsS p) (by omega) p.body hp.bfit hp.body A [] (by simp; omega))
    rw [List.nil_append, List.length_nil] at b1
    have h0 : emH A (slotsS p) [] = ⟨A.objs ++ [.cells [.nilS, .d (.slice ((slotsS p).map sRow))]], A.bufs⟩ := rfl
    rw [h0] at b1
    have hcl := cdL_len (slotsS p) p.body 0
    have o1 := up (opP A (slotsS p) (cdL (slotsS p) p.body 0) 13 (by omega))
    have hI : cdP p ≠ [] := by unfold cdP; simp
    have hcd : cdL (slotsS p) p.body 0 ++ [one 13 0] = cdP p := rfl
    rw [hcd] at o1
    have ob := em_obj A (slotsS p) (cdP p)
    have f0 := pr_fin0 (f := 11) rfl A (slotsS p) [] 0 (.int .i64 2)
    rw [h0] at f0
    have f1 := pr_fin (f := 11) rfl A (slotsS p) (cdP p) hI (tyL p) ((slotsS p).length : Nat) (.int .i64 0)
    simp only [← finD] at f0 f1
    generalize cdL (slotsS p) p.body 0 = I0 at *
    generalize cdP p = I at *
    generalize slotsS p = S at *
    generalize costC p = k at *
    rw [k_call (c := D) (f := 11) rfl Tryz.func11 rfl (ok 11 (by kernel_rfl)) rfl Tryz.ntmps11 Tryz.results11 (by simp)]
    by_cases h64 : 64 < (S.length : Int)
    · have h64' : decide (64 < (S.length : Int)) = true := by simpa using h64
      rw [if_pos h64, if_pos h64, if_pos h64, if_pos h64]
      simp (maxSteps := 1000000) only [go_sem, acondK_bool, acB_merge, Nat.reduceLT, Nat.reduceLeDiff, Nat.reduceEqDiff, Nat.reduceAdd, Nat.reduceSub, Nat.reduceMul, Nat.reduceBEq, Nat.reduceBNe, Nat.reduceBneDiff, Nat.reduceBeqDiff, Int.reduceToNat, Int.reduceLE, Int.reduceLT, Int.reduceEq, Int.reduceNe, Int.reduceNeg, Int.reduceAdd, Int.reduceSub, ↓reduceIte, reduceCtorEq, k_drawn_q, c1, hc', s1, h64', f0]
    · have h64' : decide (64 < (S.length : Int)) = false := by simpa using h64
      rw [if_neg h64, if_neg h64, if_neg h64, if_neg h64]
      simp (maxSteps := 1000000) only [go_sem, acondK_bool, acB_merge, Nat.reduceLT, Nat.reduceLeDiff, Nat.reduceEqDiff, Nat.reduceAdd, Nat.reduceSub, Nat.reduceMul, Nat.reduceBEq, Nat.reduceBNe, Nat.reduceBneDiff, Nat.reduceBeqDiff, Int.reduceToNat, Int.reduceLE, Int.reduceLT, Int.reduceEq, Int.reduceNe, Int.reduceNeg, Int.reduceAdd, Int.reduceSub, ↓reduceIte, reduceCtorEq, k_drawn_t, c1, hc', s1, h64', b1, o1, ob, one_grJ, cells_grow]
      refine Eq.trans (ctE_ok (by repeat (first | exact MLe.nil | apply MLe.qq | apply MLe.q | apply MLe.o | apply MLe.b | apply MLe.l)) (by kernel_rfl)) ?_
      simp (maxSteps := 1000000) only [go_sem, acondK_bool, acB_merge, Nat.reduceLT, Nat.reduceLeDiff, Nat.reduceEqDiff, Nat.reduceAdd, Nat.reduceSub, Nat.reduceMul, Nat.reduceBEq, Nat.reduceBNe, Nat.reduceBneDiff, Nat.reduceBeqDiff, Int.reduceToNat, Int.reduceLE, Int.reduceLT, Int.reduceEq, Int.reduceNe, Int.reduceNeg, Int.reduceAdd, Int.reduceSub, ↓reduceIte, reduceCtorEq, cells_grow, one_grow, one_grJ]
      unfold tyL at f1 ⊢
      refine loop_any (fun pre => [(48, .v (.d (.int .i64 (pre.length : Nat)))), (6, .box [(grI (emH A S I) (pre.map Pm.type)).1, .d (.int .i64 (S.length : Nat)), (grJ A I).1]), (46, .v (.d (.slice (p.params.map Pm.row)))), (2, .box [.nilS, .d (.int .i64 0), .nilS]), (47, .v (.d (.int .i64 (p.params.length : Nat))))])
        (fun pre => (grI (emH A S I) (pre.map Pm.type)).2) (fun _ _ => some (.tuple [codeAv (p.params.map Pm.type) (S.length : Nat) I, .d (.int .i64 0)], A)) p.params rfl rfl rfl ?_
      intro pre suf hl ih
      have hb : pre.length < 9223372036854775807 := by rw [hl] at h40; simp at h40; omega
      cases suf with
      | nil =>
        rw [List.append_nil] at hl
        have e4 : decide ((p.params.length : Int) < (p.params.length : Int)) = false := by simp
        rw [← hl]
        generalize p.params.map Pm.type = T at *
        simp (maxSteps := 1000000) only [go_sem, acondK_bool, acB_merge, Nat.reduceLT, Nat.reduceLeDiff, Nat.reduceEqDiff, Nat.reduceAdd, Nat.reduceSub, Nat.reduceMul, Nat.reduceBEq, Nat.reduceBNe, Nat.reduceBneDiff, Nat.reduceBeqDiff, Int.reduceToNat, Int.reduceLE, Int.reduceLT, Int.reduceEq, Int.reduceNe, Int.reduceNeg, Int.reduceAdd, Int.reduceSub, ↓reduceIte, reduceCtorEq, e4, cells_grow, one_grow, one_grJ, f1]
      | cons x suf =>
        have e2 := ih x suf rfl
        rw [List.length_append, List.length_cons, List.length_nil, List.map_append, List.map_cons, List.map_nil] at e2
        have e3 : (p.params.map Pm.row)[pre.length]? = some [.str x.name, .int .i64 x.type] := by rw [hl]; exact map_mid
        have e4 : decide ((pre.length : Int) < (p.params.length : Int)) = true := by rw [hl]; simp; omega
        have a1 := grI_append (emH A S I) (pre.map Pm.type) x.type (by rw [hl] at h40; simp at h40 ⊢; omega)
        generalize pre.map Pm.type ++ [x.type] = T2 at *
        generalize pre.map Pm.type = T1 at *
        simp (maxSteps := 1000000) only [go_sem, acondK_bool, acB_merge, Nat.reduceLT, Nat.reduceLeDiff, Nat.reduceEqDiff, Nat.reduceAdd, Nat.reduceSub, Nat.reduceMul, Nat.reduceBEq, Nat.reduceBNe, Nat.reduceBneDiff, Nat.reduceBeqDiff, Int.reduceToNat, Int.reduceLE, Int.reduceLT, Int.reduceEq, Int.reduceNe, Int.reduceNeg, Int.reduceAdd, Int.reduceSub, ↓reduceIte, reduceCtorEq, e3, e4, a1, cells_grow, one_grow, one_grJ, e2, wrap_nat hb]
  · have hc' : decide (costC p = 0) = false := by simpa using hc
    rw [if_neg hc, if_neg hc, if_neg hc, if_neg hc]
    generalize costC p = k at *
    have f0 : afinR D 11 A A (some (.tuple [.agg [.nilS, .d (.int .i64 0), .nilS], .d (.int .i64 k)])) = some (.tuple [codeAv [] 0 [], .d (.int .i64 k)], A) := by rw [finD]; exact afinR_still rfl rfl
    rw [k_call (c := D) (f := 11) rfl Tryz.func11 rfl (ok 11 (by kernel_rfl)) rfl Tryz.ntmps11 Tryz.results11 (by simp)]
    simp (maxSteps := 1000000) only [go_sem, acondK_bool, acB_merge, Nat.reduceLT, Nat.reduceLeDiff, Nat.reduceEqDiff, Nat.reduceAdd, Nat.reduceSub, Nat.reduceMul, Nat.reduceBEq, Nat.reduceBNe, Nat.reduceBneDiff, Nat.reduceBeqDiff, Int.reduceToNat, Int.reduceLE, Int.reduceLT, Int.reduceEq, Int.reduceNe, Int.reduceNeg, Int.reduceAdd, Int.reduceSub, ↓reduceIte, reduceCtorEq, k_drawn_q, c1, hc', f0]
end Go.Proofs.YtjmghomnbmbjnaaGreat
