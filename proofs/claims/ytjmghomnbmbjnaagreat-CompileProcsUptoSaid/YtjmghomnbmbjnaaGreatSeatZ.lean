/- The code of a procedure: the reference; equal codes. -/
import Derived.Test.YtjmghomnbmbjnaaGreatSeatY
import Derived.Test.YtjmghomnbmbjnaaGreatSeatX
import Derived.Test.YtjmghomnbmbjnaaGreatSeatR
import Derived.Test.YtjmghomnbmbjnaaGreatSeatK
set_option linter.unusedVariables false
set_option linter.unusedSimpArgs false
set_option linter.all false
set_option linter.deprecated false
set_option linter.all false
namespace Go.Proofs.YtjmghomnbmbjnaaGreat
open Go.Abs
attribute [local congr] ite_congr
set_option maxRecDepth 10000
theorem fin_plain {f : FuncId} (ho : C.own f = false) (A : AHeap) (n k : Int) : afinR C f A A (some (.tuple [.agg [.nilS, .d (.int .i64 n), .nilS], .d (.int .i64 k)])) = some (.tuple [codeAv [] n [], .d (.int .i64 k)], A) := afinR_still ho rfl
set_option maxHeartbeats 4000000 in
theorem procR17 (p : Pr) (hp : p.Ok) (h40 : p.params.length ≤ 40) (A : AHeap) : acl C 12 [Pr.av p] A = some (.tuple [codeAv (prT p) (prN p) (prI p), .d (.int .i64 (prE p))], A) := by
  have c1 := checkR13 p hp A
  unfold prT prN prI prE
  by_cases hc : costC p = 0
  · have hc' : decide (costC p = 0) = true := by simpa using hc
    have hk := det_chk (cost_det hc)
    obtain ⟨V, _⟩ := chk_zero hk
    have hS := slots_len p h40
    have s1 := slotsR p hp h40 A
    rw [if_pos hc, if_pos hc, if_pos hc, if_pos hc]
    have hln := lnL_vld V
    have b1 := fun B => bodyR17 (slotsS p) (by omega) p.body hp.bfit hp.body B 0 (by omega)
    change ∀ B, acl C _ [_, _, .d (.int .i64 0)] B = _ at b1
    rw [← cd_rf hk 0] at b1
    have hcl := cdL_len (slotsS p) p.body 0
    have hI : cdP p ≠ [] := by unfold cdP; simp
    have a1 := fun B => grJ_append B (cdL (slotsS p) p.body 0) (one 13 0) (by omega)
    have hcd : cdL (slotsS p) p.body 0 ++ [one 13 0] = cdP p := rfl
    rw [hcd] at a1
    change ∀ B, aappend _ _ _ _ _ [[.int .i64 13, .int .i64 0, .int .i64 0, .int .i64 0, .str []]] = _ at a1
    have f1 := rf_fin (f := 12) rfl A (cdP p) hI (tyL p) ((slotsS p).length : Nat) (.int .i64 0)
    have f0 := fin_plain (f := 12) rfl A 0 2
    have oJ := fun B : AHeap => one_grJ (A := B) (l := cdL (slotsS p) p.body 0)
    have oI := fun B : AHeap => one_grJ (A := B) (l := cdP p)
    have cJ : ∀ B : AHeap, (grJ B (cdL (slotsS p) p.body 0)).1.cells = [(grJ B (cdL (slotsS p) p.body 0)).1] := fun B => cells_grow
    have cI : ∀ B : AHeap, (grJ B (cdP p)).1.cells = [(grJ B (cdP p)).1] := fun B => cells_grow
    generalize cdL (slotsS p) p.body 0 = I0 at *
    generalize cdP p = I at *
    generalize slotsS p = S at *
    generalize costC p = k at *
    rw [k_call (c := C) (f := 12) rfl Tryz.func12 rfl (ok 12 (by kernel_rfl)) rfl Tryz.ntmps12 Tryz.results12 (by simp)]
    by_cases h64 : 64 < (S.length : Int)
    · have h64' : decide (64 < (S.length : Int)) = true := by simpa using h64
      rw [if_pos h64, if_pos h64, if_pos h64, if_pos h64]
      simp (maxSteps := 1000000) only [go_sem, acondK_bool, acB_merge, Nat.reduceLT, Nat.reduceLeDiff, Nat.reduceEqDiff, Nat.reduceAdd, Nat.reduceSub, Nat.reduceMul, Nat.reduceBEq, Nat.reduceBNe, Nat.reduceBneDiff, Nat.reduceBeqDiff, Int.reduceToNat, Int.reduceLE, Int.reduceLT, Int.reduceEq, Int.reduceNe, Int.reduceNeg, Int.reduceAdd, Int.reduceSub, ↓reduceIte, reduceCtorEq, k_drawn_q, c1, hc', s1, h64', f0]
    · have h64' : decide (64 < (S.length : Int)) = false := by simpa using h64
      rw [if_neg h64, if_neg h64, if_neg h64, if_neg h64]
      simp (maxSteps := 1000000) only [go_sem, acondK_bool, acB_merge, Nat.reduceLT, Nat.reduceLeDiff, Nat.reduceEqDiff, Nat.reduceAdd, Nat.reduceSub, Nat.reduceMul, Nat.reduceBEq, Nat.reduceBNe, Nat.reduceBneDiff, Nat.reduceBeqDiff, Int.reduceToNat, Int.reduceLE, Int.reduceLT, Int.reduceEq, Int.reduceNe, Int.reduceNeg, Int.reduceAdd, Int.reduceSub, ↓reduceIte, reduceCtorEq, c1, hc', s1, h64']
      unfold tyL at f1 ⊢
      refine loop_any (fun pre => [(7, .v (.d (.int .i64 (pre.length : Nat)))), (6, .box [(grI A (pre.map Pm.type)).1, .d (.int .i64 (S.length : Nat)), .nilS]), (1, .box [.d (.str p.name), .d (.slice (p.params.map Pm.row)), .d (.slice (p.body.map Stm.row))]), (5, .v (.d (.slice (S.map sRow)))), (2, .box [.nilS, .d (.int .i64 0), .nilS])])
        (fun pre => (grI A (pre.map Pm.type)).2) (fun _ _ => some (.tuple [codeAv (p.params.map Pm.type) (S.length : Nat) I, .d (.int .i64 0)], A)) p.params rfl rfl rfl ?_
      intro pre suf hl ih
      have hb : pre.length < 9223372036854775807 := by rw [hl] at h40; simp at h40; omega
      cases suf with
      | nil =>
        rw [List.append_nil] at hl
        have e4 : decide ((p.params.length : Int) < (p.params.length : Int)) = false := by simp
        rw [← hl]
        generalize p.params.map Pm.type = T at *
        simp (maxSteps := 1000000) only [go_sem, acondK_bool, acB_merge, Nat.reduceLT, Nat.reduceLeDiff, Nat.reduceEqDiff, Nat.reduceAdd, Nat.reduceSub, Nat.reduceMul, Nat.reduceBEq, Nat.reduceBNe, Nat.reduceBneDiff, Nat.reduceBeqDiff, Int.reduceToNat, Int.reduceLE, Int.reduceLT, Int.reduceEq, Int.reduceNe, Int.reduceNeg, Int.reduceAdd, Int.reduceSub, ↓reduceIte, reduceCtorEq, e4, b1, k_drawn_t, oneR, a1, cells_grow, one_grow, one_grJ, oJ, oI, cJ, cI]
        refine Eq.trans (ctE_ok (by repeat (first | exact MLe.nil | apply MLe.qq | apply MLe.q | apply MLe.o | apply MLe.b | apply MLe.l)) (by kernel_rfl)) ?_
        simp (maxSteps := 1000000) only [go_sem, acondK_bool, acB_merge, Nat.reduceLT, Nat.reduceLeDiff, Nat.reduceEqDiff, Nat.reduceAdd, Nat.reduceSub, Nat.reduceMul, Nat.reduceBEq, Nat.reduceBNe, Nat.reduceBneDiff, Nat.reduceBeqDiff, Int.reduceToNat, Int.reduceLE, Int.reduceLT, Int.reduceEq, Int.reduceNe, Int.reduceNeg, Int.reduceAdd, Int.reduceSub, ↓reduceIte, reduceCtorEq, cells_grow, one_grow, one_grJ, oI, cI, f1]
      | cons x suf =>
        have e2 := ih x suf rfl
        rw [List.length_append, List.length_cons, List.length_nil, List.map_append, List.map_cons, List.map_nil] at e2
        have e3 : (p.params.map Pm.row)[pre.length]? = some [.str x.name, .int .i64 x.type] := by rw [hl]; exact map_mid
        have e4 : decide ((pre.length : Int) < (p.params.length : Int)) = true := by rw [hl]; simp; omega
        have a1 := grI_append A (pre.map Pm.type) x.type (by rw [hl] at h40; simp at h40 ⊢; omega)
        generalize pre.map Pm.type ++ [x.type] = T2 at *
        generalize pre.map Pm.type = T1 at *
        simp (maxSteps := 1000000) only [go_sem, acondK_bool, acB_merge, Nat.reduceLT, Nat.reduceLeDiff, Nat.reduceEqDiff, Nat.reduceAdd, Nat.reduceSub, Nat.reduceMul, Nat.reduceBEq, Nat.reduceBNe, Nat.reduceBneDiff, Nat.reduceBeqDiff, Int.reduceToNat, Int.reduceLE, Int.reduceLT, Int.reduceEq, Int.reduceNe, Int.reduceNeg, Int.reduceAdd, Int.reduceSub, ↓reduceIte, reduceCtorEq, e3, e4, k_drawn_t, a1, cells_grow, one_grow, one_grJ]
        refine Eq.trans (ctE_ok (by repeat (first | exact MLe.nil | apply MLe.qq | apply MLe.q | apply MLe.o | apply MLe.b | apply MLe.l)) (by kernel_rfl)) ?_
        simp (maxSteps := 1000000) only [go_sem, acondK_bool, acB_merge, Nat.reduceLT, Nat.reduceLeDiff, Nat.reduceEqDiff, Nat.reduceAdd, Nat.reduceSub, Nat.reduceMul, Nat.reduceBEq, Nat.reduceBNe, Nat.reduceBneDiff, Nat.reduceBeqDiff, Int.reduceToNat, Int.reduceLE, Int.reduceLT, Int.reduceEq, Int.reduceNe, Int.reduceNeg, Int.reduceAdd, Int.reduceSub, ↓reduceIte, reduceCtorEq, e2, wrap_nat hb]
  · have hc' : decide (costC p = 0) = false := by simpa using hc
    rw [if_neg hc, if_neg hc, if_neg hc, if_neg hc]
    generalize costC p = k at *
    have f0 := fin_plain (f := 12) rfl A 0 k
    rw [k_call (c := C) (f := 12) rfl Tryz.func12 rfl (ok 12 (by kernel_rfl)) rfl Tryz.ntmps12 Tryz.results12 (by simp)]
    simp (maxSteps := 1000000) only [go_sem, acondK_bool, acB_merge, Nat.reduceLT, Nat.reduceLeDiff, Nat.reduceEqDiff, Nat.reduceAdd, Nat.reduceSub, Nat.reduceMul, Nat.reduceBEq, Nat.reduceBNe, Nat.reduceBneDiff, Nat.reduceBeqDiff, Int.reduceToNat, Int.reduceLE, Int.reduceLT, Int.reduceEq, Int.reduceNe, Int.reduceNeg, Int.reduceAdd, Int.reduceSub, ↓reduceIte, reduceCtorEq, k_drawn_q, c1, hc', f0]
set_option maxHeartbeats 1000000 in
theorem sameCode (T : List Int) (n : Int) (I : List In) (hT : T.length ≤ 4000000) (hI : I.length ≤ 4000000) (A : AHeap) : acl C 13 [codeAv T n I, codeAv T n I] A = some (.d (.bool true), A) := by
  have s1 := sameR I (by omega) A
  unfold codeAv
  have e5 : decide (((T.length : Nat) : Int) = ((T.length : Nat) : Int)) = true := by simp
  have e6 : decide (n = n) = true := by simp
  rw [k_call (c := C) (f := 13) rfl Tryz.func13 rfl (ok 13 (by kernel_rfl)) rfl Tryz.ntmps13 Tryz.results13 (by simp)]
  simp (maxSteps := 1000000) only [go_sem, acondK_bool, acB_merge, Nat.reduceLT, Nat.reduceLeDiff, Nat.reduceEqDiff, Nat.reduceAdd, Nat.reduceSub, Nat.reduceMul, Nat.reduceBEq, Nat.reduceBNe, Nat.reduceBneDiff, Nat.reduceBeqDiff, Int.reduceToNat, Int.reduceLE, Int.reduceLT, Int.reduceEq, Int.reduceNe, Int.reduceNeg, Int.reduceAdd, Int.reduceSub, ↓reduceIte, reduceCtorEq, e5, e6]
  refine loop_any (fun pre => [(2, .box [.d (.slice (T.map iRow)), .d (.int .i64 n), .d (.slice (I.map In.row))]), (3, .box [.d (.slice (T.map iRow)), .d (.int .i64 n), .d (.slice (I.map In.row))]), (5, .v (.d (.int .i64 (pre.length : Nat))))])
    (fun _ => A) (fun _ _ => some (.d (.bool true), A)) T rfl rfl rfl ?_
  intro pre suf hl ih
  have hb : pre.length < 9223372036854775807 := by rw [hl] at hT; simp at hT; omega
  cases suf with
  | nil =>
    rw [List.append_nil] at hl
    subst hl
    have e4 : decide ((T.length : Int) < (T.length : Int)) = false := by simp
    simp (maxSteps := 1000000) only [go_sem, acondK_bool, acB_merge, Nat.reduceLT, Nat.reduceLeDiff, Nat.reduceEqDiff, Nat.reduceAdd, Nat.reduceSub, Nat.reduceMul, Nat.reduceBEq, Nat.reduceBNe, Nat.reduceBneDiff, Nat.reduceBeqDiff, Int.reduceToNat, Int.reduceLE, Int.reduceLT, Int.reduceEq, Int.reduceNe, Int.reduceNeg, Int.reduceAdd, Int.reduceSub, ↓reduceIte, reduceCtorEq, e4, s1]
  | cons x suf =>
    have e2 := ih x suf rfl
    rw [List.length_append, List.length_cons, List.length_nil] at e2
    have e3 : (T.map iRow)[pre.length]? = some [.int .i64 x] := by rw [hl]; exact map_mid
    have e4 : decide ((pre.length : Int) < (T.length : Int)) = true := by rw [hl]; simp; omega
    have e7 : decide (x = x) = true := by simp
    simp (maxSteps := 1000000) only [go_sem, acondK_bool, acB_merge, Nat.reduceLT, Nat.reduceLeDiff, Nat.reduceEqDiff, Nat.reduceAdd, Nat.reduceSub, Nat.reduceMul, Nat.reduceBEq, Nat.reduceBNe, Nat.reduceBneDiff, Nat.reduceBeqDiff, Int.reduceToNat, Int.reduceLE, Int.reduceLT, Int.reduceEq, Int.reduceNe, Int.reduceNeg, Int.reduceAdd, Int.reduceSub, ↓reduceIte, reduceCtorEq, k_drawn_q, e3, e4, e7, e2, wrap_nat hb]
end Go.Proofs.YtjmghomnbmbjnaaGreat
set_option linter.all false
namespace Go.Proofs.YtjmghomnbmbjnaaGreat
open Go.Abs
-- CTX D
attribute [local congr] ite_congr
set_option maxRecDepth 10000
theorem tyL_len {p : Pr} (h40 : p.params.length ≤ 40) : (prT p).length ≤ 4000000 := by
  unfold prT tyL
  split
  · split
    · simp
    · simp; omega
  · simp
theorem prI_len {p : Pr} : (prI p).length ≤ 6401 := by
  unfold prI
  split
  · rename_i hc
    split
    · simp
    · obtain ⟨V, _⟩ := chk_zero (det_chk (cost_det hc))
      have := lnL_vld V
      have := cdL_len (slotsS p) p.body 0
      unfold cdP
      simp
      omega
  · simp
theorem lawCompileProcs (p : Pr) (hp : p.Ok) : acl D 4 [Pr.av p] A00 = some (.d (.bool true), A00) := by
  have sm := up (small p hp 1600 A00)
  have w := works
  rw [k_call (c := D) (f := 4) rfl Tryz.func4 rfl (ok 4 (by kernel_rfl)) rfl Tryz.ntmps4 Tryz.results4 (by simp)]
  cases hs : smallS p 1600 with
  | false => simp (maxSteps := 1000000) only [go_sem, acondK_bool, acB_merge, Nat.reduceLT, Nat.reduceLeDiff, Nat.reduceEqDiff, Nat.reduceAdd, Nat.reduceSub, Nat.reduceMul, Nat.reduceBEq, Nat.reduceBNe, Nat.reduceBneDiff, Nat.reduceBeqDiff, Int.reduceToNat, Int.reduceLE, Int.reduceLT, Int.reduceEq, Int.reduceNe, Int.reduceNeg, Int.reduceAdd, Int.reduceSub, ↓reduceIte, reduceCtorEq, sm, w, hs]
  | true =>
  have h40 := small40 hs
  have o1 := procOf p hp h40 A00
  have o2 := up (procR17 p hp h40 A00)
  have o3 := up (sameCode (prT p) (prN p) (prI p) (tyL_len h40) (by have := prI_len (p := p); omega) A00)
  have e5 : decide (prE p = prE p) = true := by simp
  unfold codeAv at o1 o2 o3
  generalize prT p = T at *
  generalize prI p = I at *
  simp (maxSteps := 1000000) only [go_sem, acondK_bool, acB_merge, Nat.reduceLT, Nat.reduceLeDiff, Nat.reduceEqDiff, Nat.reduceAdd, Nat.reduceSub, Nat.reduceMul, Nat.reduceBEq, Nat.reduceBNe, Nat.reduceBneDiff, Nat.reduceBeqDiff, Int.reduceToNat, Int.reduceLE, Int.reduceLT, Int.reduceEq, Int.reduceNe, Int.reduceNeg, Int.reduceAdd, Int.reduceSub, ↓reduceIte, reduceCtorEq, sm, w, hs, o1, o2, o3, e5]
end Go.Proofs.YtjmghomnbmbjnaaGreat
