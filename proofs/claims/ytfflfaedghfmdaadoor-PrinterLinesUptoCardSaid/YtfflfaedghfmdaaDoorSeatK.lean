/- The writer: statements. -/
import Derived.Test.YtfflfaedghfmdaaDoorSeatJ
set_option linter.unusedVariables false
set_option linter.unusedSimpArgs false
set_option linter.all false
set_option linter.deprecated false
set_option linter.all false
namespace Go.Proofs.YtfflfaedghfmdaaDoor
open Go.Abs
attribute [local congr] ite_congr
set_option maxRecDepth 100000
theorem afin_func {f : FuncId} (ho : C.own f = false) (A : AHeap) (fn : Fn) (p q : List AV) : afinR C f A A (some (.func fn p q)) = some (.func fn p q, A) := by
  simp only [afinR, Option.map_some, afinish, ho, Bool.false_eq_true, if_false, acleanR, acleanV, aclean]
  unfold acut
  split <;> simp [AV.noptr, AV.noptr2, AV.noptr1]
theorem form1 (op : Int) (h : op = 1) (A : AHeap) : acl C 46 [.d (.int .i64 op)] A = some (.func (.func 67) [] [], A) := by
  have q1 : decide (op = 1) = true := decT h
  rw [k_call (c := C) (f := 46) rfl Tryd.func46 rfl (ok 46 (by kernel_rfl)) rfl Tryd.ntmps46 Tryd.results46 (by simp)]
  simp (maxSteps := 1000000) only [go_sem, acondK_bool, acB_merge, Nat.reduceLT, Nat.reduceLeDiff, Nat.reduceEqDiff, Nat.reduceAdd, Nat.reduceSub, Nat.reduceMul, Nat.reduceBEq, Nat.reduceBNe, Nat.reduceBneDiff, Nat.reduceBeqDiff, Int.reduceToNat, Int.reduceLE, Int.reduceLT, Int.reduceEq, Int.reduceNe, Int.reduceNeg, Int.reduceAdd, Int.reduceSub, ↓reduceIte, reduceCtorEq, q1, afin_func]
theorem form2 (op : Int) (h : op = 2) (A : AHeap) : acl C 46 [.d (.int .i64 op)] A = some (.func (.func 68) [] [], A) := by
  have q1 : decide (op = 1) = false := decF (by omega)
  have q2 : decide (op = 2) = true := decT h
  rw [k_call (c := C) (f := 46) rfl Tryd.func46 rfl (ok 46 (by kernel_rfl)) rfl Tryd.ntmps46 Tryd.results46 (by simp)]
  simp (maxSteps := 1000000) only [go_sem, acondK_bool, acB_merge, Nat.reduceLT, Nat.reduceLeDiff, Nat.reduceEqDiff, Nat.reduceAdd, Nat.reduceSub, Nat.reduceMul, Nat.reduceBEq, Nat.reduceBNe, Nat.reduceBneDiff, Nat.reduceBeqDiff, Int.reduceToNat, Int.reduceLE, Int.reduceLT, Int.reduceEq, Int.reduceNe, Int.reduceNeg, Int.reduceAdd, Int.reduceSub, ↓reduceIte, reduceCtorEq, q1, q2, afin_func]
theorem form3 (op : Int) (h : op = 3) (A : AHeap) : acl C 46 [.d (.int .i64 op)] A = some (.func (.func 69) [] [], A) := by
  have q1 : decide (op = 1) = false := decF (by omega)
  have q2 : decide (op = 2) = false := decF (by omega)
  have q3 : decide (op = 3) = true := decT h
  rw [k_call (c := C) (f := 46) rfl Tryd.func46 rfl (ok 46 (by kernel_rfl)) rfl Tryd.ntmps46 Tryd.results46 (by simp)]
  simp (maxSteps := 1000000) only [go_sem, acondK_bool, acB_merge, Nat.reduceLT, Nat.reduceLeDiff, Nat.reduceEqDiff, Nat.reduceAdd, Nat.reduceSub, Nat.reduceMul, Nat.reduceBEq, Nat.reduceBNe, Nat.reduceBneDiff, Nat.reduceBeqDiff, Int.reduceToNat, Int.reduceLE, Int.reduceLT, Int.reduceEq, Int.reduceNe, Int.reduceNeg, Int.reduceAdd, Int.reduceSub, ↓reduceIte, reduceCtorEq, q1, q2, q3, afin_func]
theorem form4 (op : Int) (h : op = 4) (A : AHeap) : acl C 46 [.d (.int .i64 op)] A = some (.func (.func 70) [] [], A) := by
  have q1 : decide (op = 1) = false := decF (by omega)
  have q2 : decide (op = 2) = false := decF (by omega)
  have q3 : decide (op = 3) = false := decF (by omega)
  have q4 : decide (op = 4) = true := decT h
  rw [k_call (c := C) (f := 46) rfl Tryd.func46 rfl (ok 46 (by kernel_rfl)) rfl Tryd.ntmps46 Tryd.results46 (by simp)]
  simp (maxSteps := 1000000) only [go_sem, acondK_bool, acB_merge, Nat.reduceLT, Nat.reduceLeDiff, Nat.reduceEqDiff, Nat.reduceAdd, Nat.reduceSub, Nat.reduceMul, Nat.reduceBEq, Nat.reduceBNe, Nat.reduceBneDiff, Nat.reduceBeqDiff, Int.reduceToNat, Int.reduceLE, Int.reduceLT, Int.reduceEq, Int.reduceNe, Int.reduceNeg, Int.reduceAdd, Int.reduceSub, ↓reduceIte, reduceCtorEq, q1, q2, q3, q4, afin_func]
theorem form5 (op : Int) (h : op = 5) (A : AHeap) : acl C 46 [.d (.int .i64 op)] A = some (.func (.func 71) [] [], A) := by
  have q1 : decide (op = 1) = false := decF (by omega)
  have q2 : decide (op = 2) = false := decF (by omega)
  have q3 : decide (op = 3) = false := decF (by omega)
  have q4 : decide (op = 4) = false := decF (by omega)
  have q5 : decide (op = 5) = true := decT h
  rw [k_call (c := C) (f := 46) rfl Tryd.func46 rfl (ok 46 (by kernel_rfl)) rfl Tryd.ntmps46 Tryd.results46 (by simp)]
  simp (maxSteps := 1000000) only [go_sem, acondK_bool, acB_merge, Nat.reduceLT, Nat.reduceLeDiff, Nat.reduceEqDiff, Nat.reduceAdd, Nat.reduceSub, Nat.reduceMul, Nat.reduceBEq, Nat.reduceBNe, Nat.reduceBneDiff, Nat.reduceBeqDiff, Int.reduceToNat, Int.reduceLE, Int.reduceLT, Int.reduceEq, Int.reduceNe, Int.reduceNeg, Int.reduceAdd, Int.reduceSub, ↓reduceIte, reduceCtorEq, q1, q2, q3, q4, q5, afin_func]
theorem form6 (op : Int) (h : op = 6) (A : AHeap) : acl C 46 [.d (.int .i64 op)] A = some (.func (.func 72) [] [], A) := by
  have q1 : decide (op = 1) = false := decF (by omega)
  have q2 : decide (op = 2) = false := decF (by omega)
  have q3 : decide (op = 3) = false := decF (by omega)
  have q4 : decide (op = 4) = false := decF (by omega)
  have q5 : decide (op = 5) = false := decF (by omega)
  have q6 : decide (op = 6) = true := decT h
  rw [k_call (c := C) (f := 46) rfl Tryd.func46 rfl (ok 46 (by kernel_rfl)) rfl Tryd.ntmps46 Tryd.results46 (by simp)]
  simp (maxSteps := 1000000) only [go_sem, acondK_bool, acB_merge, Nat.reduceLT, Nat.reduceLeDiff, Nat.reduceEqDiff, Nat.reduceAdd, Nat.reduceSub, Nat.reduceMul, Nat.reduceBEq, Nat.reduceBNe, Nat.reduceBneDiff, Nat.reduceBeqDiff, Int.reduceToNat, Int.reduceLE, Int.reduceLT, Int.reduceEq, Int.reduceNe, Int.reduceNeg, Int.reduceAdd, Int.reduceSub, ↓reduceIte, reduceCtorEq, q1, q2, q3, q4, q5, q6, afin_func]
theorem form7 (op : Int) (h : op = 7) (A : AHeap) : acl C 46 [.d (.int .i64 op)] A = some (.func (.func 73) [] [], A) := by
  have q1 : decide (op = 1) = false := decF (by omega)
  have q2 : decide (op = 2) = false := decF (by omega)
  have q3 : decide (op = 3) = false := decF (by omega)
  have q4 : decide (op = 4) = false := decF (by omega)
  have q5 : decide (op = 5) = false := decF (by omega)
  have q6 : decide (op = 6) = false := decF (by omega)
  have q7 : decide (op = 7) = true := decT h
  rw [k_call (c := C) (f := 46) rfl Tryd.func46 rfl (ok 46 (by kernel_rfl)) rfl Tryd.ntmps46 Tryd.results46 (by simp)]
  simp (maxSteps := 1000000) only [go_sem, acondK_bool, acB_merge, Nat.reduceLT, Nat.reduceLeDiff, Nat.reduceEqDiff, Nat.reduceAdd, Nat.reduceSub, Nat.reduceMul, Nat.reduceBEq, Nat.reduceBNe, Nat.reduceBneDiff, Nat.reduceBeqDiff, Int.reduceToNat, Int.reduceLE, Int.reduceLT, Int.reduceEq, Int.reduceNe, Int.reduceNeg, Int.reduceAdd, Int.reduceSub, ↓reduceIte, reduceCtorEq, q1, q2, q3, q4, q5, q6, q7, afin_func]
theorem form8 (op : Int) (h : op = 8) (A : AHeap) : acl C 46 [.d (.int .i64 op)] A = some (.func (.func 74) [] [], A) := by
  have q1 : decide (op = 1) = false := decF (by omega)
  have q2 : decide (op = 2) = false := decF (by omega)
  have q3 : decide (op = 3) = false := decF (by omega)
  have q4 : decide (op = 4) = false := decF (by omega)
  have q5 : decide (op = 5) = false := decF (by omega)
  have q6 : decide (op = 6) = false := decF (by omega)
  have q7 : decide (op = 7) = false := decF (by omega)
  rw [k_call (c := C) (f := 46) rfl Tryd.func46 rfl (ok 46 (by kernel_rfl)) rfl Tryd.ntmps46 Tryd.results46 (by simp)]
  simp (maxSteps := 1000000) only [go_sem, acondK_bool, acB_merge, Nat.reduceLT, Nat.reduceLeDiff, Nat.reduceEqDiff, Nat.reduceAdd, Nat.reduceSub, Nat.reduceMul, Nat.reduceBEq, Nat.reduceBNe, Nat.reduceBneDiff, Nat.reduceBeqDiff, Int.reduceToNat, Int.reduceLE, Int.reduceLT, Int.reduceEq, Int.reduceNe, Int.reduceNeg, Int.reduceAdd, Int.reduceSub, ↓reduceIte, reduceCtorEq, q1, q2, q3, q4, q5, q6, q7, afin_func]
theorem declareP (A : AHeap) (s : Bytes) (d : Nat) (op : Int) (name : Bytes) (max : Int) (a b : E) (body els : List Stm) (ha : a.Ok) (ca : chkE a 1 = 0)
    (hl : s.length + (lineS d [[108, 101, 116, 32], name, [32, 61, 32], textS a, [59]]).length ≤ 4000000) :
    acl C 67 [.ptr A.objs.length 0, Stm.av (.mk op name max a b body els)] (wtH A true s d) = some (.tuple [], wtH A true (s ++ lineS d [[108, 101, 116, 32], name, [32, 61, 32], textS a, [59]]) d) := by
  have e1 := textP a ha 1 ca (by decide) (wtH A true s d)
  have e2 := lineP A true s d [[108, 101, 116, 32], name, [32, 61, 32], textS a, [59]] (by simp) hl
  change acl C _ [_, .full [[.str [108, 101, 116, 32]], [.str (name)], [.str [32, 61, 32]], [.str (textS a)], [.str [59]]]] _ = _ at e2
  have fin : afinR C 67 (wtH A true s d) (wtH A true (s ++ lineS d [[108, 101, 116, 32], name, [32, 61, 32], textS a, [59]]) d) (some (.tuple [])) = some (.tuple [], _) := wr_fin rfl A 64 true s _ [.d (.int .i64 d)] (v := .tuple []) rfl
  generalize s ++ lineS d [[108, 101, 116, 32], name, [32, 61, 32], textS a, [59]] = s2 at *
  generalize textS a = ta at *
  rw [k_call (c := C) (f := 67) rfl Tryd.func67 rfl (ok 67 (by kernel_rfl)) rfl Tryd.ntmps67 Tryd.results67 (by simp)]
  simp (maxSteps := 1000000) only [go_sem, acondK_bool, acB_merge, Nat.reduceLT, Nat.reduceLeDiff, Nat.reduceEqDiff, Nat.reduceAdd, Nat.reduceSub, Nat.reduceMul, Nat.reduceBEq, Nat.reduceBNe, Nat.reduceBneDiff, Nat.reduceBeqDiff, Int.reduceToNat, Int.reduceLE, Int.reduceLT, Int.reduceEq, Int.reduceNe, Int.reduceNeg, Int.reduceAdd, Int.reduceSub, ↓reduceIte, reduceCtorEq, k_drawn_t, e1, e2]
  refine Eq.trans (ctE_ok (by repeat (first | exact MLe.nil | apply MLe.qq | apply MLe.q | apply MLe.o | apply MLe.b | apply MLe.l)) (by kernel_rfl)) ?_
  simp (maxSteps := 1000000) only [go_sem, acondK_bool, acB_merge, Nat.reduceLT, Nat.reduceLeDiff, Nat.reduceEqDiff, Nat.reduceAdd, Nat.reduceSub, Nat.reduceMul, Nat.reduceBEq, Nat.reduceBNe, Nat.reduceBneDiff, Nat.reduceBeqDiff, Int.reduceToNat, Int.reduceLE, Int.reduceLT, Int.reduceEq, Int.reduceNe, Int.reduceNeg, Int.reduceAdd, Int.reduceSub, ↓reduceIte, reduceCtorEq, fin]
theorem assignP (A : AHeap) (s : Bytes) (d : Nat) (op : Int) (name : Bytes) (max : Int) (a b : E) (body els : List Stm) (ha : a.Ok) (ca : chkE a 1 = 0)
    (hl : s.length + (lineS d [name, [32, 61, 32], textS a, [59]]).length ≤ 4000000) :
    acl C 68 [.ptr A.objs.length 0, Stm.av (.mk op name max a b body els)] (wtH A true s d) = some (.tuple [], wtH A true (s ++ lineS d [name, [32, 61, 32], textS a, [59]]) d) := by
  have e1 := textP a ha 1 ca (by decide) (wtH A true s d)
  have e2 := lineP A true s d [name, [32, 61, 32], textS a, [59]] (by simp) hl
  change acl C _ [_, .full [[.str (name)], [.str [32, 61, 32]], [.str (textS a)], [.str [59]]]] _ = _ at e2
  have fin : afinR C 68 (wtH A true s d) (wtH A true (s ++ lineS d [name, [32, 61, 32], textS a, [59]]) d) (some (.tuple [])) = some (.tuple [], _) := wr_fin rfl A 64 true s _ [.d (.int .i64 d)] (v := .tuple []) rfl
  generalize s ++ lineS d [name, [32, 61, 32], textS a, [59]] = s2 at *
  generalize textS a = ta at *
  rw [k_call (c := C) (f := 68) rfl Tryd.func68 rfl (ok 68 (by kernel_rfl)) rfl Tryd.ntmps68 Tryd.results68 (by simp)]
  simp (maxSteps := 1000000) only [go_sem, acondK_bool, acB_merge, Nat.reduceLT, Nat.reduceLeDiff, Nat.reduceEqDiff, Nat.reduceAdd, Nat.reduceSub, Nat.reduceMul, Nat.reduceBEq, Nat.reduceBNe, Nat.reduceBneDiff, Nat.reduceBeqDiff, Int.reduceToNat, Int.reduceLE, Int.reduceLT, Int.reduceEq, Int.reduceNe, Int.reduceNeg, Int.reduceAdd, Int.reduceSub, ↓reduceIte, reduceCtorEq, k_drawn_t, e1, e2]
  refine Eq.trans (ctE_ok (by repeat (first | exact MLe.nil | apply MLe.qq | apply MLe.q | apply MLe.o | apply MLe.b | apply MLe.l)) (by kernel_rfl)) ?_
  simp (maxSteps := 1000000) only [go_sem, acondK_bool, acB_merge, Nat.reduceLT, Nat.reduceLeDiff, Nat.reduceEqDiff, Nat.reduceAdd, Nat.reduceSub, Nat.reduceMul, Nat.reduceBEq, Nat.reduceBNe, Nat.reduceBneDiff, Nat.reduceBeqDiff, Int.reduceToNat, Int.reduceLE, Int.reduceLT, Int.reduceEq, Int.reduceNe, Int.reduceNeg, Int.reduceAdd, Int.reduceSub, ↓reduceIte, reduceCtorEq, fin]
theorem putP (A : AHeap) (s : Bytes) (d : Nat) (op : Int) (name : Bytes) (max : Int) (a b : E) (body els : List Stm) (ha : a.Ok) (ca : chkE a 1 = 0) (hb : b.Ok) (cb : chkE b 1 = 0)
    (hl : s.length + (lineS d [[112, 117, 116, 32], textS a, [32, 61, 32], textS b, [59]]).length ≤ 4000000) :
    acl C 69 [.ptr A.objs.length 0, Stm.av (.mk op name max a b body els)] (wtH A true s d) = some (.tuple [], wtH A true (s ++ lineS d [[112, 117, 116, 32], textS a, [32, 61, 32], textS b, [59]]) d) := by
  have e1 := textP a ha 1 ca (by decide) (wtH A true s d)
  have e3 := textP b hb 1 cb (by decide) (wtH A true s d)
  have e2 := lineP A true s d [[112, 117, 116, 32], textS a, [32, 61, 32], textS b, [59]] (by simp) hl
  change acl C _ [_, .full [[.str [112, 117, 116, 32]], [.str (textS a)], [.str [32, 61, 32]], [.str (textS b)], [.str [59]]]] _ = _ at e2
  have fin : afinR C 69 (wtH A true s d) (wtH A true (s ++ lineS d [[112, 117, 116, 32], textS a, [32, 61, 32], textS b, [59]]) d) (some (.tuple [])) = some (.tuple [], _) := wr_fin rfl A 64 true s _ [.d (.int .i64 d)] (v := .tuple []) rfl
  generalize s ++ lineS d [[112, 117, 116, 32], textS a, [32, 61, 32], textS b, [59]] = s2 at *
  generalize textS a = ta at *
  generalize textS b = tb at *
  rw [k_call (c := C) (f := 69) rfl Tryd.func69 rfl (ok 69 (by kernel_rfl)) rfl Tryd.ntmps69 Tryd.results69 (by simp)]
  simp (maxSteps := 1000000) only [go_sem, acondK_bool, acB_merge, Nat.reduceLT, Nat.reduceLeDiff, Nat.reduceEqDiff, Nat.reduceAdd, Nat.reduceSub, Nat.reduceMul, Nat.reduceBEq, Nat.reduceBNe, Nat.reduceBneDiff, Nat.reduceBeqDiff, Int.reduceToNat, Int.reduceLE, Int.reduceLT, Int.reduceEq, Int.reduceNe, Int.reduceNeg, Int.reduceAdd, Int.reduceSub, ↓reduceIte, reduceCtorEq, k_drawn_t, e1, e3, e2]
  refine Eq.trans (ctE_ok (by repeat (first | exact MLe.nil | apply MLe.qq | apply MLe.q | apply MLe.o | apply MLe.b | apply MLe.l)) (by kernel_rfl)) ?_
  simp (maxSteps := 1000000) only [go_sem, acondK_bool, acB_merge, Nat.reduceLT, Nat.reduceLeDiff, Nat.reduceEqDiff, Nat.reduceAdd, Nat.reduceSub, Nat.reduceMul, Nat.reduceBEq, Nat.reduceBNe, Nat.reduceBneDiff, Nat.reduceBeqDiff, Int.reduceToNat, Int.reduceLE, Int.reduceLT, Int.reduceEq, Int.reduceNe, Int.reduceNeg, Int.reduceAdd, Int.reduceSub, ↓reduceIte, reduceCtorEq, fin]
theorem removeP (A : AHeap) (s : Bytes) (d : Nat) (op : Int) (name : Bytes) (max : Int) (a b : E) (body els : List Stm) (ha : a.Ok) (ca : chkE a 1 = 0)
    (hl : s.length + (lineS d [[100, 101, 108, 101, 116, 101, 32], textS a, [59]]).length ≤ 4000000) :
    acl C 70 [.ptr A.objs.length 0, Stm.av (.mk op name max a b body els)] (wtH A true s d) = some (.tuple [], wtH A true (s ++ lineS d [[100, 101, 108, 101, 116, 101, 32], textS a, [59]]) d) := by
  have e1 := textP a ha 1 ca (by decide) (wtH A true s d)
  have e2 := lineP A true s d [[100, 101, 108, 101, 116, 101, 32], textS a, [59]] (by simp) hl
  change acl C _ [_, .full [[.str [100, 101, 108, 101, 116, 101, 32]], [.str (textS a)], [.str [59]]]] _ = _ at e2
  have fin : afinR C 70 (wtH A true s d) (wtH A true (s ++ lineS d [[100, 101, 108, 101, 116, 101, 32], textS a, [59]]) d) (some (.tuple [])) = some (.tuple [], _) := wr_fin rfl A 64 true s _ [.d (.int .i64 d)] (v := .tuple []) rfl
  generalize s ++ lineS d [[100, 101, 108, 101, 116, 101, 32], textS a, [59]] = s2 at *
  generalize textS a = ta at *
  rw [k_call (c := C) (f := 70) rfl Tryd.func70 rfl (ok 70 (by kernel_rfl)) rfl Tryd.ntmps70 Tryd.results70 (by simp)]
  simp (maxSteps := 1000000) only [go_sem, acondK_bool, acB_merge, Nat.reduceLT, Nat.reduceLeDiff, Nat.reduceEqDiff, Nat.reduceAdd, Nat.reduceSub, Nat.reduceMul, Nat.reduceBEq, Nat.reduceBNe, Nat.reduceBneDiff, Nat.reduceBeqDiff, Int.reduceToNat, Int.reduceLE, Int.reduceLT, Int.reduceEq, Int.reduceNe, Int.reduceNeg, Int.reduceAdd, Int.reduceSub, ↓reduceIte, reduceCtorEq, e1, e2, fin]
theorem emitP (A : AHeap) (s : Bytes) (d : Nat) (op : Int) (name : Bytes) (max : Int) (a b : E) (body els : List Stm) (ha : a.Ok) (ca : chkE a 1 = 0)
    (hl : s.length + (lineS d [[101, 109, 105, 116, 32], textS a, [59]]).length ≤ 4000000) :
    acl C 73 [.ptr A.objs.length 0, Stm.av (.mk op name max a b body els)] (wtH A true s d) = some (.tuple [], wtH A true (s ++ lineS d [[101, 109, 105, 116, 32], textS a, [59]]) d) := by
  have e1 := textP a ha 1 ca (by decide) (wtH A true s d)
  have e2 := lineP A true s d [[101, 109, 105, 116, 32], textS a, [59]] (by simp) hl
  change acl C _ [_, .full [[.str [101, 109, 105, 116, 32]], [.str (textS a)], [.str [59]]]] _ = _ at e2
  have fin : afinR C 73 (wtH A true s d) (wtH A true (s ++ lineS d [[101, 109, 105, 116, 32], textS a, [59]]) d) (some (.tuple [])) = some (.tuple [], _) := wr_fin rfl A 64 true s _ [.d (.int .i64 d)] (v := .tuple []) rfl
  generalize s ++ lineS d [[101, 109, 105, 116, 32], textS a, [59]] = s2 at *
  generalize textS a = ta at *
  rw [k_call (c := C) (f := 73) rfl Tryd.func73 rfl (ok 73 (by kernel_rfl)) rfl Tryd.ntmps73 Tryd.results73 (by simp)]
  simp (maxSteps := 1000000) only [go_sem, acondK_bool, acB_merge, Nat.reduceLT, Nat.reduceLeDiff, Nat.reduceEqDiff, Nat.reduceAdd, Nat.reduceSub, Nat.reduceMul, Nat.reduceBEq, Nat.reduceBNe, Nat.reduceBneDiff, Nat.reduceBeqDiff, Int.reduceToNat, Int.reduceLE, Int.reduceLT, Int.reduceEq, Int.reduceNe, Int.reduceNeg, Int.reduceAdd, Int.reduceSub, ↓reduceIte, reduceCtorEq, e1, e2, fin]
theorem abortP (A : AHeap) (s : Bytes) (d : Nat) (op : Int) (name : Bytes) (max : Int) (a b : E) (body els : List Stm) (hm : i64 max)
    (hl : s.length + (lineS d [[97, 98, 111, 114, 116, 32], Lib.itoa max, [59]]).length ≤ 4000000) :
    acl C 74 [.ptr A.objs.length 0, Stm.av (.mk op name max a b body els)] (wtH A true s d) = some (.tuple [], wtH A true (s ++ lineS d [[97, 98, 111, 114, 116, 32], Lib.itoa max, [59]]) d) := by
  have e4 := formatP max hm (wtH A true s d)
  have e2 := lineP A true s d [[97, 98, 111, 114, 116, 32], Lib.itoa max, [59]] (by simp) hl
  change acl C _ [_, .full [[.str [97, 98, 111, 114, 116, 32]], [.str (Lib.itoa max)], [.str [59]]]] _ = _ at e2
  have fin : afinR C 74 (wtH A true s d) (wtH A true (s ++ lineS d [[97, 98, 111, 114, 116, 32], Lib.itoa max, [59]]) d) (some (.tuple [])) = some (.tuple [], _) := wr_fin rfl A 64 true s _ [.d (.int .i64 d)] (v := .tuple []) rfl
  generalize s ++ lineS d [[97, 98, 111, 114, 116, 32], Lib.itoa max, [59]] = s2 at *
  generalize Lib.itoa max = tm at *
  rw [k_call (c := C) (f := 74) rfl Tryd.func74 rfl (ok 74 (by kernel_rfl)) rfl Tryd.ntmps74 Tryd.results74 (by simp)]
  simp (maxSteps := 1000000) only [go_sem, acondK_bool, acB_merge, Nat.reduceLT, Nat.reduceLeDiff, Nat.reduceEqDiff, Nat.reduceAdd, Nat.reduceSub, Nat.reduceMul, Nat.reduceBEq, Nat.reduceBNe, Nat.reduceBneDiff, Nat.reduceBeqDiff, Int.reduceToNat, Int.reduceLE, Int.reduceLT, Int.reduceEq, Int.reduceNe, Int.reduceNeg, Int.reduceAdd, Int.reduceSub, ↓reduceIte, reduceCtorEq, e4, e2, fin]
/-- a block at a depth -/
def BlkW (l : List Stm) (d : Nat) : Prop := ∀ (A : AHeap) (s : Bytes), s.length + (ssS l (d + 1)).length ≤ 4000000 → acl C 26 [.ptr A.objs.length 0, .d (.slice (l.map Stm.row))] (wtH A true s d) = some (.tuple [], wtH A true (s ++ ssS l (d + 1)) d)
set_option maxHeartbeats 1000000 in
theorem loopW (A : AHeap) (s : Bytes) (d : Nat) (op : Int) (name : Bytes) (max : Int) (a b : E) (body els : List Stm) (ha : a.Ok) (ca : chkE a 1 = 0) (hb : b.Ok) (cb : chkE b 1 = 0) (hm : i64 max) (hB : BlkW body d)
    (hl : s.length + ((lineS d [[102, 111, 114, 32], name, [32, 61, 32], textS a, [32, 116, 111, 32], textS b, [32, 109, 97, 120, 32], Lib.itoa max, [32, 123]]).length + ((ssS body (d + 1)).length + (lineS d [[125]]).length)) ≤ 4000000) :
    acl C 72 [.ptr A.objs.length 0, Stm.av (.mk op name max a b body els)] (wtH A true s d) = some (.tuple [], wtH A true (s ++ (lineS d [[102, 111, 114, 32], name, [32, 61, 32], textS a, [32, 116, 111, 32], textS b, [32, 109, 97, 120, 32], Lib.itoa max, [32, 123]] ++ (ssS body (d + 1) ++ lineS d [[125]]))) d) := by
  have e1 := textP a ha 1 ca (by decide) (wtH A true s d)
  have e3 := textP b hb 1 cb (by decide) (wtH A true s d)
  have e4 := formatP max hm (wtH A true s d)
  have e2 := lineP A true s d [[102, 111, 114, 32], name, [32, 61, 32], textS a, [32, 116, 111, 32], textS b, [32, 109, 97, 120, 32], Lib.itoa max, [32, 123]] (by simp) (by omega)
  change acl C _ [_, .full [[.str [102, 111, 114, 32]], [.str (name)], [.str [32, 61, 32]], [.str (textS a)], [.str [32, 116, 111, 32]], [.str (textS b)], [.str [32, 109, 97, 120, 32]], [.str (Lib.itoa max)], [.str [32, 123]]]] _ = _ at e2
  have fin : afinR C 72 (wtH A true s d) (wtH A true (s ++ (lineS d [[102, 111, 114, 32], name, [32, 61, 32], textS a, [32, 116, 111, 32], textS b, [32, 109, 97, 120, 32], Lib.itoa max, [32, 123]] ++ (ssS body (d + 1) ++ lineS d [[125]]))) d) (some (.tuple [])) = some (.tuple [], _) := wr_fin rfl A 64 true s _ [.d (.int .i64 d)] (v := .tuple []) rfl
  generalize lineS d [[102, 111, 114, 32], name, [32, 61, 32], textS a, [32, 116, 111, 32], textS b, [32, 109, 97, 120, 32], Lib.itoa max, [32, 123]] = l1 at *
  have e5 := hB A (s ++ l1) (by rw [List.length_append]; omega)
  generalize ssS body (d + 1) = l2 at *
  have e6 := lineP A true (s ++ l1 ++ l2) d [[125]] (by simp) (by rw [List.length_append, List.length_append]; omega)
  change acl C _ [_, .full [[.str [125]]]] _ = _ at e6
  generalize lineS d [[125]] = l3 at *
  have hq : s ++ l1 ++ l2 ++ l3 = s ++ (l1 ++ (l2 ++ l3)) := by simp
  rw [hq] at e6
  generalize s ++ (l1 ++ (l2 ++ l3)) = s4 at *
  generalize s ++ l1 ++ l2 = s3 at *
  generalize s ++ l1 = s2 at *
  generalize textS a = ta at *
  generalize textS b = tb at *
  generalize Lib.itoa max = tm at *
  rw [k_call (c := C) (f := 72) rfl Tryd.func72 rfl (ok 72 (by kernel_rfl)) rfl Tryd.ntmps72 Tryd.results72 (by simp)]
  simp (maxSteps := 1000000) only [go_sem, acondK_bool, acB_merge, Nat.reduceLT, Nat.reduceLeDiff, Nat.reduceEqDiff, Nat.reduceAdd, Nat.reduceSub, Nat.reduceMul, Nat.reduceBEq, Nat.reduceBNe, Nat.reduceBneDiff, Nat.reduceBeqDiff, Int.reduceToNat, Int.reduceLE, Int.reduceLT, Int.reduceEq, Int.reduceNe, Int.reduceNeg, Int.reduceAdd, Int.reduceSub, ↓reduceIte, reduceCtorEq, k_drawn_t, e1, e3, e4, e2]
  refine Eq.trans (ctE_ok (by repeat (first | exact MLe.nil | apply MLe.qq | apply MLe.q | apply MLe.o | apply MLe.b | apply MLe.l)) (by kernel_rfl)) ?_
  simp (maxSteps := 1000000) only [go_sem, acondK_bool, acB_merge, Nat.reduceLT, Nat.reduceLeDiff, Nat.reduceEqDiff, Nat.reduceAdd, Nat.reduceSub, Nat.reduceMul, Nat.reduceBEq, Nat.reduceBNe, Nat.reduceBneDiff, Nat.reduceBeqDiff, Int.reduceToNat, Int.reduceLE, Int.reduceLT, Int.reduceEq, Int.reduceNe, Int.reduceNeg, Int.reduceAdd, Int.reduceSub, ↓reduceIte, reduceCtorEq, e5, e6, fin]
set_option maxHeartbeats 1000000 in
theorem branchW (A : AHeap) (s : Bytes) (d : Nat) (op : Int) (name : Bytes) (max : Int) (a b : E) (body els : List Stm) (ha : a.Ok) (ca : chkE a 1 = 0) (hB : BlkW body d) (hE : BlkW els d)
    (hl : s.length + ((lineS d [[105, 102, 32], textS a, [32, 123]]).length + ((ssS body (d + 1)).length + ((if decide (0 < (els.length : Int)) = true then lineS d [[125, 32, 101, 108, 115, 101, 32, 123]] ++ ssS els (d + 1) else []).length + (lineS d [[125]]).length))) ≤ 4000000) :
    acl C 71 [.ptr A.objs.length 0, Stm.av (.mk op name max a b body els)] (wtH A true s d) = some (.tuple [], wtH A true (s ++ (lineS d [[105, 102, 32], textS a, [32, 123]] ++ (ssS body (d + 1) ++ ((if decide (0 < (els.length : Int)) = true then lineS d [[125, 32, 101, 108, 115, 101, 32, 123]] ++ ssS els (d + 1) else []) ++ lineS d [[125]])))) d) := by
  have e1 := textP a ha 1 ca (by decide) (wtH A true s d)
  have e2 := lineP A true s d [[105, 102, 32], textS a, [32, 123]] (by simp) (by omega)
  change acl C _ [_, .full [[.str [105, 102, 32]], [.str (textS a)], [.str [32, 123]]]] _ = _ at e2
  have fin : ∀ t, afinR C 71 (wtH A true s d) (wtH A true (s ++ t) d) (some (.tuple [])) = some (.tuple [], _) := fun t => wr_fin rfl A 64 true s t [.d (.int .i64 d)] (v := .tuple []) rfl
  generalize lineS d [[105, 102, 32], textS a, [32, 123]] = l1 at *
  have e5 := hB A (s ++ l1) (by rw [List.length_append]; omega)
  generalize ssS body (d + 1) = l2 at *
  cases hc : decide (0 < (els.length : Int)) with
  | true =>
    rw [hc, if_pos rfl, List.length_append] at hl
    rw [if_pos rfl]
    have e7 := lineP A true (s ++ l1 ++ l2) d [[125, 32, 101, 108, 115, 101, 32, 123]] (by simp) (by rw [List.length_append, List.length_append]; omega)
    change acl C _ [_, .full [[.str [125, 32, 101, 108, 115, 101, 32, 123]]]] _ = _ at e7
    generalize lineS d [[125, 32, 101, 108, 115, 101, 32, 123]] = l4 at *
    have e8 := hE A (s ++ l1 ++ l2 ++ l4) (by simp only [List.length_append]; omega)
    generalize ssS els (d + 1) = l5 at *
    have e6 := lineP A true (s ++ l1 ++ l2 ++ l4 ++ l5) d [[125]] (by simp) (by simp only [List.length_append]; omega)
    change acl C _ [_, .full [[.str [125]]]] _ = _ at e6
    generalize lineS d [[125]] = l3 at *
    have hq : s ++ l1 ++ l2 ++ l4 ++ l5 ++ l3 = s ++ (l1 ++ (l2 ++ (l4 ++ l5 ++ l3))) := by simp
    rw [hq] at e6
    have fin2 := fin (l1 ++ (l2 ++ (l4 ++ l5 ++ l3)))
    generalize s ++ (l1 ++ (l2 ++ (l4 ++ l5 ++ l3))) = s6 at *
    generalize s ++ l1 ++ l2 ++ l4 ++ l5 = s5 at *
    generalize s ++ l1 ++ l2 ++ l4 = s4 at *
    generalize s ++ l1 ++ l2 = s3 at *
    generalize s ++ l1 = s2 at *
    generalize textS a = ta at *
    rw [k_call (c := C) (f := 71) rfl Tryd.func71 rfl (ok 71 (by kernel_rfl)) rfl Tryd.ntmps71 Tryd.results71 (by simp)]
    simp (maxSteps := 1000000) only [go_sem, acondK_bool, acB_merge, Nat.reduceLT, Nat.reduceLeDiff, Nat.reduceEqDiff, Nat.reduceAdd, Nat.reduceSub, Nat.reduceMul, Nat.reduceBEq, Nat.reduceBNe, Nat.reduceBneDiff, Nat.reduceBeqDiff, Int.reduceToNat, Int.reduceLE, Int.reduceLT, Int.reduceEq, Int.reduceNe, Int.reduceNeg, Int.reduceAdd, Int.reduceSub, ↓reduceIte, reduceCtorEq, e1, e2, e5, hc, e7, e8, e6, fin2]
  | false =>
    rw [hc, if_neg (by decide)] at hl
    rw [if_neg (by decide), List.nil_append]
    have e6 := lineP A true (s ++ l1 ++ l2) d [[125]] (by simp) (by simp only [List.length_append]; simp at hl; omega)
    change acl C _ [_, .full [[.str [125]]]] _ = _ at e6
    generalize lineS d [[125]] = l3 at *
    have hq : s ++ l1 ++ l2 ++ l3 = s ++ (l1 ++ (l2 ++ l3)) := by simp
    rw [hq] at e6
    have fin2 := fin (l1 ++ (l2 ++ l3))
    generalize s ++ (l1 ++ (l2 ++ l3)) = s6 at *
    generalize s ++ l1 ++ l2 = s3 at *
    generalize s ++ l1 = s2 at *
    generalize textS a = ta at *
    rw [k_call (c := C) (f := 71) rfl Tryd.func71 rfl (ok 71 (by kernel_rfl)) rfl Tryd.ntmps71 Tryd.results71 (by simp)]
    simp (maxSteps := 1000000) only [go_sem, acondK_bool, acB_merge, Nat.reduceLT, Nat.reduceLeDiff, Nat.reduceEqDiff, Nat.reduceAdd, Nat.reduceSub, Nat.reduceMul, Nat.reduceBEq, Nat.reduceBNe, Nat.reduceBneDiff, Nat.reduceBeqDiff, Int.reduceToNat, Int.reduceLE, Int.reduceLT, Int.reduceEq, Int.reduceNe, Int.reduceNeg, Int.reduceAdd, Int.reduceSub, ↓reduceIte, reduceCtorEq, e1, e2, e5, hc, e6, fin2]
end Go.Proofs.YtfflfaedghfmdaaDoor
set_option linter.all false
namespace Go.Proofs.YtfflfaedghfmdaaDoor
open Go.Abs
attribute [local congr] ite_congr
set_option maxRecDepth 100000
def StmW (x : Stm) (d : Nat) : Prop := ∃ fn : FuncId, (∀ A : AHeap, acl C 46 [.d (.int .i64 x.op)] A = some (.func (.func fn) [] [], A)) ∧
  ∀ (A : AHeap) (s : Bytes), s.length + (stS x d).length ≤ 4000000 → acl C fn [.ptr A.objs.length 0, Stm.av x] (wtH A true s d) = some (.tuple [], wtH A true (s ++ stS x d) d)
theorem wt_obj (A : AHeap) (s : Bytes) (d : Int) : (wtH A true s d).objs[A.objs.length]? = some (.tcells 64 [.ptr A.objs.length 0, (grB A s).1, .d (.int .i64 d)]) := wr_obj A 64 true s [.d (.int .i64 d)]
theorem wt_dep (A : AHeap) (s : Bytes) (d e : Int) : (⟨(wtH A true s d).objs.set A.objs.length (.tcells 64 [.ptr A.objs.length 0, (grB A s).1, .d (.int .i64 e)]), (wtH A true s d).bufs⟩ : AHeap) = wtH A true s e := by
  simp [wrH]
set_option maxHeartbeats 4000000 in
theorem blockW (l : List Stm) (d : Nat) (hd : d ≤ 100) (hlen : l.length ≤ 4194303) (h : ∀ x ∈ l, StmW x (d + 1)) : BlkW l d := by
  intro A s hs
  have o1 := wt_obj A s d
  have o2 := wt_dep A s d ((d + 1 : Nat) : Int)
  have w1 : IntKind.i64.wrap ((d : Int) + 1) = ((d + 1 : Nat) : Int) := by rw [wrap_in] <;> omega
  have w2 : IntKind.i64.wrap (((d + 1 : Nat) : Int) - 1) = (d : Int) := by rw [wrap_in] <;> omega
  have fin : afinR C 26 (wtH A true s d) (wtH A true (s ++ ssS l (d + 1)) d) (some (.tuple [])) = some (.tuple [], _) := wr_fin rfl A 64 true s _ [.d (.int .i64 d)] (v := .tuple []) rfl
  rw [k_call (c := C) (f := 26) rfl Tryd.func26 rfl (ok 26 (by kernel_rfl)) rfl Tryd.ntmps26 Tryd.results26 (by simp)]
  simp (maxSteps := 1000000) only [go_sem, acondK_bool, acB_merge, Nat.reduceLT, Nat.reduceLeDiff, Nat.reduceEqDiff, Nat.reduceAdd, Nat.reduceSub, Nat.reduceMul, Nat.reduceBEq, Nat.reduceBNe, Nat.reduceBneDiff, Nat.reduceBeqDiff, Int.reduceToNat, Int.reduceLE, Int.reduceLT, Int.reduceEq, Int.reduceNe, Int.reduceNeg, Int.reduceAdd, Int.reduceSub, ↓reduceIte, reduceCtorEq, o1, o2, w1]
  refine loop_any (fun pre => [(16, .v (.d (.int .i64 (pre.length : Nat)))), (0, .v (.ptr A.objs.length 0)), (14, .v (.d (.slice (l.map Stm.row)))), (15, .v (.d (.int .i64 (l.length : Nat))))]) (fun pre => wtH A true (s ++ ssS pre (d + 1)) ((d + 1 : Nat) : Int)) (fun _ _ => some (.tuple [], wtH A true (s ++ ssS l (d + 1)) d)) l rfl (by rw [ssS, List.append_nil]) rfl ?_
  intro pre suf hl ih
  cases suf with
  | nil =>
    rw [List.append_nil] at hl
    subst hl
    have e1 : decide ((l.length : Int) < (l.length : Int)) = false := by simp
    have o3 := wt_obj A (s ++ ssS l (d + 1)) ((d + 1 : Nat) : Int)
    have o4 := wt_dep A (s ++ ssS l (d + 1)) ((d + 1 : Nat) : Int) d
    generalize hs2 : s ++ ssS l (d + 1) = s2 at *
    simp (maxSteps := 1000000) only [go_sem, acondK_bool, acB_merge, Nat.reduceLT, Nat.reduceLeDiff, Nat.reduceEqDiff, Nat.reduceAdd, Nat.reduceSub, Nat.reduceMul, Nat.reduceBEq, Nat.reduceBNe, Nat.reduceBneDiff, Nat.reduceBeqDiff, Int.reduceToNat, Int.reduceLE, Int.reduceLT, Int.reduceEq, Int.reduceNe, Int.reduceNeg, Int.reduceAdd, Int.reduceSub, ↓reduceIte, reduceCtorEq, e1, o3, o4, w2, fin]
  | cons x suf =>
    have hx : x ∈ l := by rw [hl]; simp
    obtain ⟨fn, f1, f2⟩ := h x hx
    have hb : pre.length < 9223372036854775807 := by have : pre.length ≤ l.length := by rw [hl]; simp
                                                     omega
    have hsum : (ssS l (d + 1)).length = (ssS pre (d + 1)).length + ((stS x (d + 1)).length + (ssS suf (d + 1)).length) := by rw [hl, ssS_append, ssS]; simp
    have e1 : decide ((pre.length : Int) < (l.length : Int)) = true := by rw [hl]; simp; omega
    have e3 : (l.map Stm.row)[pre.length]? = some (Stm.row x) := by rw [hl]; exact map_mid
    rw [Stm.row_eq] at e3
    have ih' := ih x suf rfl
    have q1 : ssS (pre ++ [x]) (d + 1) = ssS pre (d + 1) ++ stS x (d + 1) := by rw [ssS_append, ssS, ssS, List.append_nil]
    rw [q1, ← List.append_assoc, List.length_append, List.length_cons, List.length_nil] at ih'
    have f3 := f2 A (s ++ ssS pre (d + 1)) (by rw [List.length_append]; omega)
    have f4 := f1 (wtH A true (s ++ ssS pre (d + 1)) ((d + 1 : Nat) : Int))
    generalize s ++ ssS pre (d + 1) ++ stS x (d + 1) = s3 at *
    generalize s ++ ssS pre (d + 1) = s2 at *
    simp (maxSteps := 1000000) only [go_sem, acondK_bool, acB_merge, Nat.reduceLT, Nat.reduceLeDiff, Nat.reduceEqDiff, Nat.reduceAdd, Nat.reduceSub, Nat.reduceMul, Nat.reduceBEq, Nat.reduceBNe, Nat.reduceBneDiff, Nat.reduceBeqDiff, Int.reduceToNat, Int.reduceLE, Int.reduceLT, Int.reduceEq, Int.reduceNe, Int.reduceNeg, Int.reduceAdd, Int.reduceSub, ↓reduceIte, reduceCtorEq, e1, e3, f4, f3, wrap_nat hb, ih']
end Go.Proofs.YtfflfaedghfmdaaDoor
set_option linter.all false
namespace Go.Proofs.YtfflfaedghfmdaaDoor
open Go.Abs
set_option maxRecDepth 100000
theorem stm_fit1 {x : Stm} (h : x.Ok) : x.body.length ≤ 4194303 := by cases h; assumption
theorem stm_fit2 {x : Stm} (h : x.Ok) : x.els.length ≤ 4194303 := by cases h; assumption
theorem stmW : ∀ x : Stm, x.Ok → ∀ d : Nat, AllOk (visS x d) → StmW x d := by
  intro x
  induction x using Stm.ind with
  | h op name max a b body els ih1 ih2 =>
    intro hx d hv
    have hs := hv _ _ (vis_self _ _)
    obtain ⟨ho, hn, hnn, ha, hna, hb, hnb, hbo, hel, hd⟩ := hs
    simp only [Stm.op, Stm.name, Stm.a, Stm.b, Stm.body, Stm.els] at ho hn hnn ha hna hb hnb hbo hel
    have oa : a.Ok := Stm.Ok.a hx
    have ob : b.Ok := Stm.Ok.b hx
    have om : i64 max := stm_max hx
    have hw : IntKind.i64.wrap ((d : Int) + 1) = ((d + 1 : Nat) : Int) := by rw [wrap_in] <;> omega
    have hvb : AllOk (visSs body ((d + 1 : Nat) : Int)) := fun y k hy => hv y k (vis_body _ (by rw [hw]; exact hy))
    have hve : AllOk (visSs els ((d + 1 : Nat) : Int)) := fun y k hy => hv y k (vis_els _ (by rw [hw]; exact hy))
    have B1 : BlkW body d := blockW body d (by omega) (stm_fit1 hx) fun y hy => ih1 y hy (Stm.Ok.bodyOk hx y hy) (d + 1) fun z k hz => hvb z k (visSs_mem hy _ _ hz)
    have B2 : BlkW els d := blockW els d (by omega) (stm_fit2 hx) fun y hy => ih2 y hy (Stm.Ok.elsOk hx y hy) (d + 1) fun z k hz => hve z k (visSs_mem hy _ _ hz)
    unfold StmW
    rw [stS]
    have cases8 : op = 1 ∨ op = 2 ∨ op = 3 ∨ op = 4 ∨ op = 5 ∨ op = 6 ∨ op = 7 ∨ op = 8 := by omega
    rcases cases8 with h | h | h | h | h | h | h | h
    · rw [if_pos h]
      exact ⟨_, form1 op h, fun A s hl => declareP A s d op name max a b body els oa (ha (by rw [h]; rfl)) hl⟩
    · rw [if_neg (by omega), if_pos h]
      exact ⟨_, form2 op h, fun A s hl => assignP A s d op name max a b body els oa (ha (by rw [h]; rfl)) hl⟩
    · rw [if_neg (by omega), if_neg (by omega), if_pos h]
      exact ⟨_, form3 op h, fun A s hl => putP A s d op name max a b body els oa (ha (by rw [h]; rfl)) ob (hb (by rw [h]; rfl)) hl⟩
    · rw [if_neg (by omega), if_neg (by omega), if_neg (by omega), if_pos h]
      exact ⟨_, form4 op h, fun A s hl => removeP A s d op name max a b body els oa (ha (by rw [h]; rfl)) hl⟩
    · rw [if_neg (by omega), if_neg (by omega), if_neg (by omega), if_neg (by omega), if_pos h]
      exact ⟨_, form5 op h, fun A s hl => branchW A s d op name max a b body els oa (ha (by rw [h]; rfl)) B1 B2 (by simpa only [List.length_append] using hl)⟩
    · rw [if_neg (by omega), if_neg (by omega), if_neg (by omega), if_neg (by omega), if_neg (by omega), if_pos h]
      exact ⟨_, form6 op h, fun A s hl => loopW A s d op name max a b body els oa (ha (by rw [h]; rfl)) ob (hb (by rw [h]; rfl)) om B1 (by simpa only [List.length_append] using hl)⟩
    · rw [if_neg (by omega), if_neg (by omega), if_neg (by omega), if_neg (by omega), if_neg (by omega), if_neg (by omega), if_pos h]
      exact ⟨_, form7 op h, fun A s hl => emitP A s d op name max a b body els oa (ha (by rw [h]; rfl)) hl⟩
    · rw [if_neg (by omega), if_neg (by omega), if_neg (by omega), if_neg (by omega), if_neg (by omega), if_neg (by omega), if_neg (by omega)]
      exact ⟨_, form8 op h, fun A s hl => abortP A s d op name max a b body els om hl⟩
theorem bodyW {p : Pr} (hp : p.Ok) (V : Vld p) : BlkW p.body 0 :=
  blockW p.body 0 (by omega) hp.bfit fun x hx => stmW x (hp.body x hx) 1 fun y k hy => stmtS_zero (V.stm y k (visSs_mem hx _ _ hy))
theorem body_len {p : Pr} (hp : p.Ok) (V : Vld p) : (ssS p.body 1).length ≤ 160000 := by
  have := ssS_len p.body 1 hp.body fun y k hy => stmtS_zero (V.stm y k hy)
  have := V.len
  change (visSs p.body ((1 : Nat) : Int)).length ≤ 400 at this
  omega
end Go.Proofs.YtfflfaedghfmdaaDoor
