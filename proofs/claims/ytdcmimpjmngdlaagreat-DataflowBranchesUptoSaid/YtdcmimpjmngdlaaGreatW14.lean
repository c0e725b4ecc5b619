/- The closed example of the laws runs. -/
import Derived.Test.YtdcmimpjmngdlaaGreatFacts
set_option linter.unusedVariables false
set_option linter.unusedSimpArgs false
set_option linter.all false
set_option linter.deprecated false
namespace Go.Proofs.YtdcmimpjmngdlaaGreat
open Go.Abs
-- CTX C0
attribute [local congr] ite_congr
@[go_sem] theorem C0_P : C0.P = Tryz.prog := by rfl
@[go_sem] theorem C0_live : C0.live = C.live := by rfl
@[go_sem] theorem C0_esc : C0.esc = C.esc := by rfl
@[go_sem] theorem C0_own : C0.own = C.own := by rfl
set_option maxRecDepth 100000
theorem w_name (s : List UInt8) (A : AHeap) : acl C0 13 [.d (.str s)] A = some (.agg [.d (.int .i64 3), .d (.int .i64 0), .d (.str s), .d (.slice [])], A) := by
  rw [k_call (c := C0) (f := 13) rfl Tryz.func13 rfl (ok 13 (by kernel_rfl)) rfl Tryz.ntmps13 Tryz.results13 (by simp)]
  simp (maxSteps := 1000000) only [go_sem, acondK_bool, acB_merge, Nat.reduceLT, Nat.reduceLeDiff, Nat.reduceEqDiff, Nat.reduceAdd, Nat.reduceSub, Nat.reduceMul, Nat.reduceBEq, Nat.reduceBNe, Nat.reduceBneDiff, Nat.reduceBeqDiff, Int.reduceToNat, Int.reduceLE, Int.reduceLT, Int.reduceEq, Int.reduceNe, Int.reduceNeg, Int.reduceAdd, Int.reduceSub, ↓reduceIte, reduceCtorEq, k_drawn_t]
theorem w_text (s : List UInt8) (A : AHeap) : acl C0 15 [.d (.str s)] A = some (.agg [.d (.int .i64 2), .d (.int .i64 0), .d (.str s), .d (.slice [])], A) := by
  rw [k_call (c := C0) (f := 15) rfl Tryz.func15 rfl (ok 15 (by kernel_rfl)) rfl Tryz.ntmps15 Tryz.results15 (by simp)]
  simp (maxSteps := 1000000) only [go_sem, acondK_bool, acB_merge, Nat.reduceLT, Nat.reduceLeDiff, Nat.reduceEqDiff, Nat.reduceAdd, Nat.reduceSub, Nat.reduceMul, Nat.reduceBEq, Nat.reduceBNe, Nat.reduceBneDiff, Nat.reduceBeqDiff, Int.reduceToNat, Int.reduceLE, Int.reduceLT, Int.reduceEq, Int.reduceNe, Int.reduceNeg, Int.reduceAdd, Int.reduceSub, ↓reduceIte, reduceCtorEq, k_drawn_t]
theorem w_get (op a b : Int) (s : List UInt8) (r : List (List Dat)) (A : AHeap) : acl C0 14 [.d (.int .i64 op), .agg [.d (.int .i64 a), .d (.int .i64 b), .d (.str s), .d (.slice r)]] A = some (.agg [.d (.int .i64 op), .d (.int .i64 0), .d (.str []), .d (.slice [[.int .i64 a, .int .i64 b, .str s, .slice r]])], A) := by
  rw [k_call (c := C0) (f := 14) rfl Tryz.func14 rfl (ok 14 (by kernel_rfl)) rfl Tryz.ntmps14 Tryz.results14 (by simp)]
  simp (maxSteps := 1000000) only [go_sem, acondK_bool, acB_merge, Nat.reduceLT, Nat.reduceLeDiff, Nat.reduceEqDiff, Nat.reduceAdd, Nat.reduceSub, Nat.reduceMul, Nat.reduceBEq, Nat.reduceBNe, Nat.reduceBneDiff, Nat.reduceBeqDiff, Int.reduceToNat, Int.reduceLE, Int.reduceLT, Int.reduceEq, Int.reduceNe, Int.reduceNeg, Int.reduceAdd, Int.reduceSub, ↓reduceIte, reduceCtorEq, k_drawn_t]
abbrev w_p : AV := .agg [.d (.str [112]), .nilS, .full [[.int .i64 1, .str [120], .int .i64 0, .int .i64 22, .int .i64 0, .str [], .slice [[.int .i64 2, .int .i64 0, .str [107], .slice []]], .int .i64 0, .int .i64 0, .str [], .slice [], .slice [], .slice []], [.int .i64 1, .str [121], .int .i64 0, .int .i64 1, .int .i64 1, .str [], .slice [], .int .i64 0, .int .i64 0, .str [], .slice [], .slice [], .slice []], [.int .i64 1, .str [122], .int .i64 0, .int .i64 1, .int .i64 1, .str [], .slice [], .int .i64 0, .int .i64 0, .str [], .slice [], .slice [], .slice []], [.int .i64 5, .str [], .int .i64 0, .int .i64 14, .int .i64 0, .str [], .slice [[.int .i64 3, .int .i64 0, .str [120], .slice []], [.int .i64 1, .int .i64 1, .str [], .slice []]], .int .i64 0, .int .i64 0, .str [], .slice [], .slice [[.int .i64 2, .str [121], .int .i64 0, .int .i64 1, .int .i64 1, .str [], .slice [], .int .i64 0, .int .i64 0, .str [], .slice [], .slice [], .slice []]], .slice []]]]
abbrev w_q : AV := .agg [.d (.str [113]), .nilS, .full [[.int .i64 1, .str [107], .int .i64 0, .int .i64 23, .int .i64 0, .str [], .slice [[.int .i64 2, .int .i64 0, .str [97], .slice []]], .int .i64 0, .int .i64 0, .str [], .slice [], .slice [], .slice []], [.int .i64 3, .str [], .int .i64 0, .int .i64 3, .int .i64 0, .str [107], .slice [], .int .i64 1, .int .i64 1, .str [], .slice [], .slice [], .slice []]]]
abbrev w_c : AV := .agg [.d (.str [99, 111, 112, 121]), .full [[.str [97], .int .i64 2], [.str [98], .int .i64 2]], .full [[.int .i64 1, .str [120], .int .i64 0, .int .i64 22, .int .i64 0, .str [], .slice [[.int .i64 3, .int .i64 0, .str [97], .slice []]], .int .i64 0, .int .i64 0, .str [], .slice [], .slice [], .slice []], [.int .i64 3, .str [], .int .i64 0, .int .i64 3, .int .i64 0, .str [98], .slice [], .int .i64 3, .int .i64 0, .str [120], .slice [], .slice [], .slice []]]]
set_option maxRecDepth 1000000 in
theorem w_t1 : acl C0 17 [w_p] A00 = some (.d (.slice [[.str [120]], [.str [121]]]), A00) := bcl_sound (ok := okL.contains) okOf (n := 300) (by kernel_rfl)
set_option maxRecDepth 1000000 in
theorem w_t2 : acl C0 8 [w_p] A00 = some (.d (.bool true), A00) := bcl_sound (ok := okL.contains) okOf (n := 300) (by kernel_rfl)
set_option maxRecDepth 1000000 in
theorem w_t3 : acl C0 6 [w_p] A00 = some (.d (.bool false), A00) := bcl_sound (ok := okL.contains) okOf (n := 300) (by kernel_rfl)
set_option maxRecDepth 1000000 in
theorem w_t4 : acl C0 6 [w_q] A00 = some (.d (.bool true), A00) := bcl_sound (ok := okL.contains) okOf (n := 300) (by kernel_rfl)
set_option maxRecDepth 1000000 in
theorem w_t5 : acl C0 10 [w_q] A00 = some (.d (.bool false), A00) := bcl_sound (ok := okL.contains) okOf (n := 300) (by kernel_rfl)
set_option maxRecDepth 1000000 in
theorem w_t6 : acl C0 17 [w_c] A00 = some (.d (.slice [[.str [120]]]), A00) := bcl_sound (ok := okL.contains) okOf (n := 300) (by kernel_rfl)
set_option maxRecDepth 1000000 in
theorem w_t7 : acl C0 10 [w_c] A00 = some (.d (.bool true), A00) := bcl_sound (ok := okL.contains) okOf (n := 300) (by kernel_rfl)
set_option maxRecDepth 1000000 in
theorem w_t8 : acl C0 8 [w_c] A00 = some (.d (.bool false), A00) := bcl_sound (ok := okL.contains) okOf (n := 300) (by kernel_rfl)
set_option maxRecDepth 1000000 in
theorem w_s1 : acl C0 16 [.d (.slice [[.str [120]], [.str [121]]]), .full [[.str [120]], [.str [121]]]] A00 = some (.d (.bool true), A00) := bcl_sound (ok := okL.contains) okOf (n := 300) (by kernel_rfl)
set_option maxRecDepth 1000000 in
theorem w_s2 : acl C0 16 [.d (.slice [[.str [120]]]), .full [[.str [120]]]] A00 = some (.d (.bool true), A00) := bcl_sound (ok := okL.contains) okOf (n := 300) (by kernel_rfl)
set_option maxRecDepth 1000000 in
theorem works0 : acl C0 5 [] A00 = some (.d (.bool true), A00) := by
  rw [k_call (c := C0) (f := 5) rfl Tryz.func5 rfl (ok 5 (by kernel_rfl)) rfl Tryz.ntmps5 Tryz.results5 (by simp)]
  simp (maxSteps := 1000000) only [go_sem, acondK_bool, acB_merge, Nat.reduceLT, Nat.reduceLeDiff, Nat.reduceEqDiff, Nat.reduceAdd, Nat.reduceSub, Nat.reduceMul, Nat.reduceBEq, Nat.reduceBNe, Nat.reduceBneDiff, Nat.reduceBeqDiff, Int.reduceToNat, Int.reduceLE, Int.reduceLT, Int.reduceEq, Int.reduceNe, Int.reduceNeg, Int.reduceAdd, Int.reduceSub, ↓reduceIte, reduceCtorEq, k_drawn_t, w_name, w_text, w_get]
  repeat
    refine Eq.trans (ctE_ok (by repeat (first | exact MLe.nil | apply MLe.qq | apply MLe.q | apply MLe.o | apply MLe.b | apply MLe.l)) (by kernel_rfl)) ?_
    simp (maxSteps := 1000000) only [go_sem, acondK_bool, acB_merge, Nat.reduceLT, Nat.reduceLeDiff, Nat.reduceEqDiff, Nat.reduceAdd, Nat.reduceSub, Nat.reduceMul, Nat.reduceBEq, Nat.reduceBNe, Nat.reduceBneDiff, Nat.reduceBeqDiff, Int.reduceToNat, Int.reduceLE, Int.reduceLT, Int.reduceEq, Int.reduceNe, Int.reduceNeg, Int.reduceAdd, Int.reduceSub, ↓reduceIte, reduceCtorEq, k_drawn_t, w_name, w_text, w_get, w_t1, w_t2, w_t3, w_t4, w_t5, w_t6, w_t7, w_t8, w_s1, w_s2]
end Go.Proofs.YtdcmimpjmngdlaaGreat
