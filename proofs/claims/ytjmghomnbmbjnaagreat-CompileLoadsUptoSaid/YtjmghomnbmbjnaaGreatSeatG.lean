/- The check of a procedure: the reference's scopes. -/
import Derived.Test.YtjmghomnbmbjnaaGreatSeatF
import Derived.Test.YtjmghomnbmbjnaaGreatSeatE
set_option linter.unusedVariables false
set_option linter.unusedSimpArgs false
set_option linter.all false
set_option linter.deprecated false
set_option linter.all false
namespace Go.Proofs.YtjmghomnbmbjnaaGreat
open Go.Abs
attribute [local congr] ite_congr
set_option maxRecDepth 10000
noncomputable abbrev grQ (A : AHeap) (l : List Pm) : AV × AHeap := agrow A 44 2 (l.map Pm.row)
theorem grQ_all (l : List Pm) : (l.map Pm.row).all (fun r => r.length == 2) = true := by
  rw [List.all_map, List.all_eq_true]; intro x _; rfl
theorem grS_all (l : List Bytes) : (l.map sRow).all (fun r => r.length == 1) = true := by
  rw [List.all_map, List.all_eq_true]; intro x _; rfl
theorem grQ_first (A : AHeap) (l : List Pm) (h : l.length ≤ 4194303) : aappend Tryz.prog 44 2 A .nilS (l.map Pm.row) = some (grQ A l) := by
  have := agrow_append (P := Tryz.prog) (A := A) (ty := 44) (sz := 2) (rows := []) (src := l.map Pm.row) room_44_2 (grQ_all l) (by simp; omega)
  rw [agrow_nil, List.nil_append] at this
  exact this
theorem grQ_append (A : AHeap) (l : List Pm) (x : Pm) (h : l.length ≤ 4194303) : aappend Tryz.prog 44 2 (grQ A l).2 (grQ A l).1 [[.str x.name, .int .i64 x.type]] = some (grQ A (l ++ [x])) := by
  have := agrow_append (P := Tryz.prog) (A := A) (ty := 44) (sz := 2) (rows := l.map Pm.row) (src := [x.row]) room_44_2 (by rfl) (by simp; omega)
  unfold grQ
  rw [List.map_append]
  exact this
theorem grS_first (A : AHeap) (l : List Bytes) (h : l.length ≤ 4194303) : aappend Tryz.prog 9 1 A .nilS (l.map sRow) = some (grS A l) := by
  have := agrow_append (P := Tryz.prog) (A := A) (ty := 9) (sz := 1) (rows := []) (src := l.map sRow) room_9_1 (grS_all l) (by simp; omega)
  rw [agrow_nil, List.nil_append] at this
  exact this
theorem modify_at {α : Type} (f : α → α) : ∀ (l : List α) (x : α) (m : List α), (l ++ x :: m).modify l.length f = l ++ f x :: m
  | [], x, m => rfl
  | y :: l, x, m => by simp [List.modify_succ_cons, modify_at f l x m]
theorem afin_two {f : FuncId} (ho : C.own f = false) (A : AHeap) (e1 s1 e2 s2 : Nat) (r1 r2 : List (List Dat)) (h : r1 ≠ []) :
    afinR C f A (agrow (agrow A e1 s1 r1).2 e2 s2 r2).2 (some (.agg [(agrow A e1 s1 r1).1, (agrow (agrow A e1 s1 r1).2 e2 s2 r2).1])) = some (.agg [.d (.slice r1), .d (.slice r2)], A) := by
  simp only [afinR, Option.map_some, afinish, ho, Bool.false_eq_true, if_false]
  unfold agrow
  simp only [if_neg h]
  by_cases h2 : r2 = []
  · subst h2
    simp only [if_true, acleanR, acleanV, acleans, aclean, arows]
    simp only [List.getElem?_append_right (Nat.le_refl _), Nat.sub_self, List.getElem?_cons_zero, if_true]
    unfold acut
    simp [AHeap.freeze, AV.noptr, AV.noptr2, AV.noptr1]
    rw [List.take_modify_front]
  · simp only [if_neg h2, acleanR, acleanV, acleans, aclean, arows, List.append_assoc, List.cons_append, List.nil_append, List.length_append, List.length_cons, List.length_nil]
    simp only [List.getElem?_append_right (Nat.le_refl _), Nat.sub_self, List.getElem?_cons_zero, if_true, AHeap.freeze, modify_at]
    have g1 : ∀ (x y : ABuf), (A.bufs ++ [x, y])[A.bufs.length + (0 + 1)]? = some y := by intro x y; simp
    have g2 : ∀ (x y : ABuf) (q : ABuf → ABuf), (A.bufs ++ [x, y]).modify (A.bufs.length + (0 + 1)) q = A.bufs ++ [x, q y] := by
      intro x y q
      have := modify_at q (A.bufs ++ [x]) y []
      simpa using this
    simp only [g1, g2, if_true]
    unfold acut
    simp [AV.noptr, AV.noptr2, AV.noptr1]
theorem withR (vars : List Pm) (loops : List Bytes) (h1 : vars.length ≤ 4000000) (h2 : loops.length ≤ 4000000) (k : Bytes) (t : Int) (lp : Bool) (A : AHeap) :
    acl C 47 [.agg [.d (.slice (vars.map Pm.row)), .d (.slice (loops.map sRow))], .d (.str k), .d (.int .i64 t), .d (.bool lp)] A =
      some (.agg [.d (.slice ((vars ++ [(⟨k, t⟩ : Pm)]).map Pm.row)), .d (.slice ((if lp = true then loops ++ [k] else loops).map sRow))], A) := by
  have a1 := grQ_first A vars (by omega)
  have a2 := grQ_append A vars ⟨k, t⟩ (by omega)
  have a3 := grS_first (grQ A (vars ++ [(⟨k, t⟩ : Pm)])).2 loops (by omega)
  have a4 := grS_append (grQ A (vars ++ [(⟨k, t⟩ : Pm)])).2 loops k (by omega)
  have fl := afin_two (f := 47) rfl A 44 2 9 1 ((vars ++ [(⟨k, t⟩ : Pm)]).map Pm.row)
  rw [k_call (c := C) (f := 47) rfl Tryz.func47 rfl (ok 47 (by kernel_rfl)) rfl Tryz.ntmps47 Tryz.results47 (by simp)]
  cases lp with
  | true =>
    have f2 := fl ((loops ++ [k]).map sRow) (by simp)
    simp (maxSteps := 1000000) only [go_sem, acondK_bool, acB_merge, Nat.reduceLT, Nat.reduceLeDiff, Nat.reduceEqDiff, Nat.reduceAdd, Nat.reduceSub, Nat.reduceMul, Nat.reduceBEq, Nat.reduceBNe, Nat.reduceBneDiff, Nat.reduceBeqDiff, Int.reduceToNat, Int.reduceLE, Int.reduceLT, Int.reduceEq, Int.reduceNe, Int.reduceNeg, Int.reduceAdd, Int.reduceSub, ↓reduceIte, reduceCtorEq, a1, a2, a3, a4, one_grow, cells_grow]
    exact f2
  | false =>
    have f2 := fl (loops.map sRow) (by simp)
    simp (maxSteps := 1000000) only [go_sem, acondK_bool, acB_merge, Nat.reduceLT, Nat.reduceLeDiff, Nat.reduceEqDiff, Nat.reduceAdd, Nat.reduceSub, Nat.reduceMul, Nat.reduceBEq, Nat.reduceBNe, Nat.reduceBneDiff, Nat.reduceBeqDiff, Int.reduceToNat, Int.reduceLE, Int.reduceLT, Int.reduceEq, Int.reduceNe, Int.reduceNeg, Int.reduceAdd, Int.reduceSub, ↓reduceIte, reduceCtorEq, a1, a2, a3, one_grow, cells_grow]
    exact f2
theorem operandsR (vars : List Pm) (loops : List Bytes) (h1 : vars.length ≤ 4000000) (x : Stm) (hx : x.Ok) {d : Int} (hs : StmOk x d) (A : AHeap) :
    acl C 76 [.agg [.d (.slice (vars.map Pm.row)), .d (.slice (loops.map sRow))], Stm.av x] A =
      some (.tuple [.d (.int .i64 (opsS (getP vars) x).1), .d (.int .i64 (opsS (getP vars) x).2.1), .d (.int .i64 (opsS (getP vars) x).2.2)], A) := by
  have xa := Stm.Ok.a hx
  have xb := Stm.Ok.b hx
  rw [k_call (c := C) (f := 76) rfl Tryz.func76 rfl (ok 76 (by kernel_rfl)) rfl Tryz.ntmps76 Tryz.results76 (by simp)]
  unfold opsS
  by_cases h8 : x.op = 8
  · have d8 : decide (x.op = 8) = true := by simp [h8]
    simp (maxSteps := 1000000) only [go_sem, acondK_bool, acB_merge, Nat.reduceLT, Nat.reduceLeDiff, Nat.reduceEqDiff, Nat.reduceAdd, Nat.reduceSub, Nat.reduceMul, Nat.reduceBEq, Nat.reduceBNe, Nat.reduceBneDiff, Nat.reduceBeqDiff, Int.reduceToNat, Int.reduceLE, Int.reduceLT, Int.reduceEq, Int.reduceNe, Int.reduceNeg, Int.reduceAdd, Int.reduceSub, ↓reduceIte, reduceCtorEq, d8]
  · have d8 : decide (x.op = 8) = false := by simp [h8]
    have ua : uA x.op = true := by have := hs.op; simp [uA]; omega
    have e1 := typesOfR x.a xa vars (by omega)
    have q1 : ofS x.a vars = ofE (getP vars) x.a := by unfold ofS; rw [if_pos (by simpa using hs.a ua)]
    rw [q1] at e1
    cases h1 : decide ((ofE (getP vars) x.a).2 = 0) with
    | false => simp (maxSteps := 1000000) only [go_sem, acondK_bool, acB_merge, Nat.reduceLT, Nat.reduceLeDiff, Nat.reduceEqDiff, Nat.reduceAdd, Nat.reduceSub, Nat.reduceMul, Nat.reduceBEq, Nat.reduceBNe, Nat.reduceBneDiff, Nat.reduceBeqDiff, Int.reduceToNat, Int.reduceLE, Int.reduceLT, Int.reduceEq, Int.reduceNe, Int.reduceNeg, Int.reduceAdd, Int.reduceSub, ↓reduceIte, reduceCtorEq, d8, e1, h1]
    | true =>
      by_cases hb : uB x.op = true
      · have e2 := typesOfR x.b xb vars (by omega)
        have q2 : ofS x.b vars = ofE (getP vars) x.b := by unfold ofS; rw [if_pos (by simpa using hs.b hb)]
        rw [q2] at e2
        have hb' : (decide (x.op = 3) || decide (x.op = 6)) = true := hb
        cases h3 : decide (x.op = 3) with
        | true => simp (maxSteps := 1000000) only [go_sem, acondK_bool, acB_merge, Nat.reduceLT, Nat.reduceLeDiff, Nat.reduceEqDiff, Nat.reduceAdd, Nat.reduceSub, Nat.reduceMul, Nat.reduceBEq, Nat.reduceBNe, Nat.reduceBneDiff, Nat.reduceBeqDiff, Int.reduceToNat, Int.reduceLE, Int.reduceLT, Int.reduceEq, Int.reduceNe, Int.reduceNeg, Int.reduceAdd, Int.reduceSub, ↓reduceIte, reduceCtorEq, d8, e1, h1, h3, e2]
        | false =>
          have h6 : decide (x.op = 6) = true := by rw [h3] at hb'; simpa using hb'
          simp (maxSteps := 1000000) only [go_sem, acondK_bool, acB_merge, Nat.reduceLT, Nat.reduceLeDiff, Nat.reduceEqDiff, Nat.reduceAdd, Nat.reduceSub, Nat.reduceMul, Nat.reduceBEq, Nat.reduceBNe, Nat.reduceBneDiff, Nat.reduceBeqDiff, Int.reduceToNat, Int.reduceLE, Int.reduceLT, Int.reduceEq, Int.reduceNe, Int.reduceNeg, Int.reduceAdd, Int.reduceSub, ↓reduceIte, reduceCtorEq, d8, e1, h1, h3, h6, e2]
      · have hb' : (decide (x.op = 3) || decide (x.op = 6)) = false := by simpa [uB] using hb
        rw [Bool.or_eq_false_iff] at hb'
        simp (maxSteps := 1000000) only [go_sem, acondK_bool, acB_merge, Nat.reduceLT, Nat.reduceLeDiff, Nat.reduceEqDiff, Nat.reduceAdd, Nat.reduceSub, Nat.reduceMul, Nat.reduceBEq, Nat.reduceBNe, Nat.reduceBneDiff, Nat.reduceBeqDiff, Int.reduceToNat, Int.reduceLE, Int.reduceLT, Int.reduceEq, Int.reduceNe, Int.reduceNeg, Int.reduceAdd, Int.reduceSub, ↓reduceIte, reduceCtorEq, d8, e1, h1, hb'.1, hb'.2]
def asgS (vars : List Pm) (loops : List Bytes) (k : Bytes) (t : Int) : Int :=
  if decide ((varS (getP vars k)).2 = 0) = true then (if (loops.any fun j => j == k) = true then 7 else if decide (t = (varS (getP vars k)).1) = true then 0 else 10) else (varS (getP vars k)).2
theorem assignR (vars : List Pm) (loops : List Bytes) (h1 : vars.length ≤ 4000000) (h2 : loops.length ≤ 4000000) (k : Bytes) (t : Int) (A : AHeap) :
    acl C 77 [.agg [.d (.slice (vars.map Pm.row)), .d (.slice (loops.map sRow))], .d (.str k), .d (.int .i64 t)] A = some (.d (.int .i64 (asgS vars loops k t)), A) := by
  have e1 := lookupR vars (by omega) k
  rw [k_call (c := C) (f := 77) rfl Tryz.func77 rfl (ok 77 (by kernel_rfl)) rfl Tryz.ntmps77 Tryz.results77 (by simp)]
  unfold asgS
  generalize varS (getP vars k) = r at *
  cases h3 : decide (r.2 = 0) with
  | false => simp (maxSteps := 1000000) only [go_sem, acondK_bool, acB_merge, Nat.reduceLT, Nat.reduceLeDiff, Nat.reduceEqDiff, Nat.reduceAdd, Nat.reduceSub, Nat.reduceMul, Nat.reduceBEq, Nat.reduceBNe, Nat.reduceBneDiff, Nat.reduceBeqDiff, Int.reduceToNat, Int.reduceLE, Int.reduceLT, Int.reduceEq, Int.reduceNe, Int.reduceNeg, Int.reduceAdd, Int.reduceSub, ↓reduceIte, reduceCtorEq, e1, h3]
  | true =>
  simp (maxSteps := 1000000) only [go_sem, acondK_bool, acB_merge, Nat.reduceLT, Nat.reduceLeDiff, Nat.reduceEqDiff, Nat.reduceAdd, Nat.reduceSub, Nat.reduceMul, Nat.reduceBEq, Nat.reduceBNe, Nat.reduceBneDiff, Nat.reduceBeqDiff, Int.reduceToNat, Int.reduceLE, Int.reduceLT, Int.reduceEq, Int.reduceNe, Int.reduceNeg, Int.reduceAdd, Int.reduceSub, ↓reduceIte, reduceCtorEq, e1, h3]
  refine loop_any (fun pre => [(7, .v (.d (.int .i64 r.1))), (2, .v (.d (.int .i64 t))), (3, .box [.d (.slice (vars.map Pm.row)), .d (.slice (loops.map sRow))]), (1, .v (.d (.str k))), (9, .v (.d (.int .i64 (pre.length : Nat))))])
    (fun _ => A) (fun _ suf => some (.d (.int .i64 (if (suf.any fun j => j == k) = true then 7 else if decide (t = r.1) = true then 0 else 10)), A)) loops rfl rfl rfl ?_
  intro pre suf h ih
  have hb : pre.length < 9223372036854775807 := by rw [h] at h2; simp at h2; omega
  cases suf with
  | nil =>
    rw [List.append_nil] at h
    subst h
    cases h4 : decide (t = r.1) <;> simp (maxSteps := 1000000) only [go_sem, acondK_bool, acB_merge, Nat.reduceLT, Nat.reduceLeDiff, Nat.reduceEqDiff, Nat.reduceAdd, Nat.reduceSub, Nat.reduceMul, Nat.reduceBEq, Nat.reduceBNe, Nat.reduceBneDiff, Nat.reduceBeqDiff, Int.reduceToNat, Int.reduceLE, Int.reduceLT, Int.reduceEq, Int.reduceNe, Int.reduceNeg, Int.reduceAdd, Int.reduceSub, ↓reduceIte, reduceCtorEq, h4, List.any_nil]
  | cons x suf =>
    have e2 := ih x suf rfl
    rw [List.length_append, List.length_cons, List.length_nil] at e2
    have e3 : (loops.map sRow)[pre.length]? = some [.str x] := by rw [h]; exact map_mid
    have e4 : decide ((pre.length : Int) < (loops.length : Int)) = true := by rw [h]; simp; omega
    cases h5 : (x == k) with
    | true => simp (maxSteps := 1000000) only [go_sem, acondK_bool, acB_merge, Nat.reduceLT, Nat.reduceLeDiff, Nat.reduceEqDiff, Nat.reduceAdd, Nat.reduceSub, Nat.reduceMul, Nat.reduceBEq, Nat.reduceBNe, Nat.reduceBneDiff, Nat.reduceBeqDiff, Int.reduceToNat, Int.reduceLE, Int.reduceLT, Int.reduceEq, Int.reduceNe, Int.reduceNeg, Int.reduceAdd, Int.reduceSub, ↓reduceIte, reduceCtorEq, e3, e4, h5, List.any_cons]
    | false => simp (maxSteps := 1000000) only [go_sem, acondK_bool, acB_merge, Nat.reduceLT, Nat.reduceLeDiff, Nat.reduceEqDiff, Nat.reduceAdd, Nat.reduceSub, Nat.reduceMul, Nat.reduceBEq, Nat.reduceBNe, Nat.reduceBneDiff, Nat.reduceBeqDiff, Int.reduceToNat, Int.reduceLE, Int.reduceLT, Int.reduceEq, Int.reduceNe, Int.reduceNeg, Int.reduceAdd, Int.reduceSub, ↓reduceIte, reduceCtorEq, e3, e4, h5, e2, List.any_cons, wrap_nat hb]
def wrgS (op a b : Int) : Bool := if decide (op = 3) = true then !decide (a = 2) || decide (b = 3) else if decide (op = 4) = true then !decide (a = 2) else if decide (op = 5) = true then !decide (a = 3) else if decide (op = 6) = true then !decide (a = 1) || !decide (b = 1) else if decide (op = 7) = true then decide (a = 3) else false
theorem wrongR (op a b : Int) (A : AHeap) : acl C 78 [.d (.int .i64 op), .d (.int .i64 a), .d (.int .i64 b)] A = some (.d (.bool (wrgS op a b)), A) := by
  rw [k_call (c := C) (f := 78) rfl Tryz.func78 rfl (ok 78 (by kernel_rfl)) rfl Tryz.ntmps78 Tryz.results78 (by simp)]
  unfold wrgS
  cases h3 : decide (op = 3) with
  | true => cases h : decide (a = 2) <;> simp (maxSteps := 1000000) only [go_sem, acondK_bool, acB_merge, Nat.reduceLT, Nat.reduceLeDiff, Nat.reduceEqDiff, Nat.reduceAdd, Nat.reduceSub, Nat.reduceMul, Nat.reduceBEq, Nat.reduceBNe, Nat.reduceBneDiff, Nat.reduceBeqDiff, Int.reduceToNat, Int.reduceLE, Int.reduceLT, Int.reduceEq, Int.reduceNe, Int.reduceNeg, Int.reduceAdd, Int.reduceSub, ↓reduceIte, reduceCtorEq, h3, h]
  | false =>
  cases h4 : decide (op = 4) with
  | true => simp (maxSteps := 1000000) only [go_sem, acondK_bool, acB_merge, Nat.reduceLT, Nat.reduceLeDiff, Nat.reduceEqDiff, Nat.reduceAdd, Nat.reduceSub, Nat.reduceMul, Nat.reduceBEq, Nat.reduceBNe, Nat.reduceBneDiff, Nat.reduceBeqDiff, Int.reduceToNat, Int.reduceLE, Int.reduceLT, Int.reduceEq, Int.reduceNe, Int.reduceNeg, Int.reduceAdd, Int.reduceSub, ↓reduceIte, reduceCtorEq, h3, h4]
  | false =>
  cases h5 : decide (op = 5) with
  | true => simp (maxSteps := 1000000) only [go_sem, acondK_bool, acB_merge, Nat.reduceLT, Nat.reduceLeDiff, Nat.reduceEqDiff, Nat.reduceAdd, Nat.reduceSub, Nat.reduceMul, Nat.reduceBEq, Nat.reduceBNe, Nat.reduceBneDiff, Nat.reduceBeqDiff, Int.reduceToNat, Int.reduceLE, Int.reduceLT, Int.reduceEq, Int.reduceNe, Int.reduceNeg, Int.reduceAdd, Int.reduceSub, ↓reduceIte, reduceCtorEq, h3, h4, h5]
  | false =>
  cases h6 : decide (op = 6) with
  | true => cases h : decide (a = 1) <;> simp (maxSteps := 1000000) only [go_sem, acondK_bool, acB_merge, Nat.reduceLT, Nat.reduceLeDiff, Nat.reduceEqDiff, Nat.reduceAdd, Nat.reduceSub, Nat.reduceMul, Nat.reduceBEq, Nat.reduceBNe, Nat.reduceBneDiff, Nat.reduceBeqDiff, Int.reduceToNat, Int.reduceLE, Int.reduceLT, Int.reduceEq, Int.reduceNe, Int.reduceNeg, Int.reduceAdd, Int.reduceSub, ↓reduceIte, reduceCtorEq, h3, h4, h5, h6, h]
  | false =>
  cases h7 : decide (op = 7) with
  | true => simp (maxSteps := 1000000) only [go_sem, acondK_bool, acB_merge, Nat.reduceLT, Nat.reduceLeDiff, Nat.reduceEqDiff, Nat.reduceAdd, Nat.reduceSub, Nat.reduceMul, Nat.reduceBEq, Nat.reduceBNe, Nat.reduceBneDiff, Nat.reduceBeqDiff, Int.reduceToNat, Int.reduceLE, Int.reduceLT, Int.reduceEq, Int.reduceNe, Int.reduceNeg, Int.reduceAdd, Int.reduceSub, ↓reduceIte, reduceCtorEq, h3, h4, h5, h6, h7]
  | false => simp (maxSteps := 1000000) only [go_sem, acondK_bool, acB_merge, Nat.reduceLT, Nat.reduceLeDiff, Nat.reduceEqDiff, Nat.reduceAdd, Nat.reduceSub, Nat.reduceMul, Nat.reduceBEq, Nat.reduceBNe, Nat.reduceBneDiff, Nat.reduceBeqDiff, Int.reduceToNat, Int.reduceLE, Int.reduceLT, Int.reduceEq, Int.reduceNe, Int.reduceNeg, Int.reduceAdd, Int.reduceSub, ↓reduceIte, reduceCtorEq, h3, h4, h5, h6, h7]
end Go.Proofs.YtjmghomnbmbjnaaGreat
set_option linter.all false
namespace Go.Proofs.YtjmghomnbmbjnaaGreat
open Go.Abs
attribute [local congr] ite_congr
set_option maxRecDepth 10000
mutual
def stR (vars : List Pm) (loops : List Bytes) : Stm → Int
  | .mk op name max a b body els =>
    let r := opsS (getP vars) (.mk op name max a b body els)
    let e1 := if (decide (r.2.2 = 0) && decide (op = 2)) = true then asgS vars loops name r.1 else r.2.2
    let e2 := if (decide (e1 = 0) && wrgS op r.1 r.2.1) = true then 10 else e1
    let e3 := if (decide (e2 = 0) && decide (op = 5)) = true then (if decide (bdR vars loops body = 0) = true then bdR vars loops els else bdR vars loops body) else e2
    if (decide (e3 = 0) && decide (op = 6)) = true then bdR (vars ++ [⟨name, 1⟩]) (loops ++ [name]) body else e3
def bdR (vars : List Pm) (loops : List Bytes) : List Stm → Int
  | [] => 0
  | x :: l => if decide (stR vars loops x = 0) = true then bdR (if decide (x.op = 1) = true then vars ++ [⟨x.name, (opsS (getP vars) x).1⟩] else vars) loops l else stR vars loops x
end
def vsAfter (vars : List Pm) : List Stm → List Pm
  | [] => vars
  | x :: l => vsAfter (if decide (x.op = 1) = true then vars ++ [⟨x.name, (opsS (getP vars) x).1⟩] else vars) l
theorem vsAfter_snoc : ∀ (l : List Stm) (vars : List Pm) (x : Stm), vsAfter vars (l ++ [x]) = (if decide (x.op = 1) = true then vsAfter vars l ++ [⟨x.name, (opsS (getP (vsAfter vars l)) x).1⟩] else vsAfter vars l)
  | [], vars, x => rfl
  | y :: l, vars, x => by simp only [List.cons_append, vsAfter]; exact vsAfter_snoc l _ x
theorem vsAfter_len : ∀ (l : List Stm) (vars : List Pm), (vsAfter vars l).length ≤ vars.length + l.length
  | [], vars => by simp [vsAfter]
  | x :: l, vars => by
    have := vsAfter_len l (if decide (x.op = 1) = true then vars ++ [⟨x.name, (opsS (getP vars) x).1⟩] else vars)
    simp only [vsAfter, List.length_cons]
    split at this <;> rename_i h
    · rw [if_pos h]; simp at this; omega
    · rw [if_neg h]; omega
theorem bdR_nil (vars : List Pm) (loops : List Bytes) : bdR vars loops [] = 0 := by rw [bdR]
theorem bdR_cons (vars : List Pm) (loops : List Bytes) (x : Stm) (l : List Stm) : bdR vars loops (x :: l) = if decide (stR vars loops x = 0) = true then bdR (if decide (x.op = 1) = true then vars ++ [⟨x.name, (opsS (getP vars) x).1⟩] else vars) loops l else stR vars loops x := by rw [bdR]
theorem visS_pos (x : Stm) (d : Int) : 1 ≤ (visS x d).length := by cases x; simp [visS]
theorem visSs_len_le : ∀ (l : List Stm) (d : Int), l.length ≤ (visSs l d).length
  | [], _ => Nat.zero_le _
  | x :: l, d => by
    have h1 := visS_pos x d
    have h2 := visSs_len_le l d
    simp only [visSs, List.length_append, List.length_cons]
    omega
theorem visSs_pre_len (pre suf : List Stm) (x : Stm) (d : Int) : pre.length + (visS x d).length ≤ (visSs (pre ++ x :: suf) d).length := by
  have h1 := visSs_len_le pre d
  rw [visSs_append]
  simp only [visSs, List.length_append]
  omega
theorem visS_len_body {op : Int} {name : Bytes} {max : Int} {a b : E} {body els : List Stm} {d : Int} : (visSs body (IntKind.i64.wrap (d + 1))).length + 1 ≤ (visS (.mk op name max a b body els) d).length ∧ (visSs els (IntKind.i64.wrap (d + 1))).length + 1 ≤ (visS (.mk op name max a b body els) d).length := by
  simp [visS]
  omega
def BodyR (l : List Stm) (d : Int) : Prop := ∀ (vars : List Pm) (loops : List Bytes), vars.length + (visSs l d).length ≤ 4000000 → loops.length + (visSs l d).length ≤ 4000000 → ∀ (A : AHeap),
  acl C 48 [.agg [.d (.slice (vars.map Pm.row)), .d (.slice (loops.map sRow))], .d (.slice (l.map Stm.row))] A = some (.d (.int .i64 (bdR vars loops l)), A)
set_option maxHeartbeats 4000000 in
theorem bodyR_of (l : List Stm) (hl : l.length ≤ 4194303) (hok : ∀ x ∈ l, x.Ok) (d : Int) (hv : ∀ y k, Vis.s y k ∈ visSs l d → StmOk y k)
    (ih : ∀ x ∈ l, ∀ m, m = x.body ∨ m = x.els → BodyR m (IntKind.i64.wrap (d + 1))) : BodyR l d := by
  intro vars loops h1 h2 A
  rw [k_call (c := C) (f := 48) rfl Tryz.func48 rfl (ok 48 (by kernel_rfl)) rfl Tryz.ntmps48 Tryz.results48 (by simp)]
  simp (maxSteps := 1000000) only [go_sem, acondK_bool, acB_merge, Nat.reduceLT, Nat.reduceLeDiff, Nat.reduceEqDiff, Nat.reduceAdd, Nat.reduceSub, Nat.reduceMul, Nat.reduceBEq, Nat.reduceBNe, Nat.reduceBneDiff, Nat.reduceBeqDiff, Int.reduceToNat, Int.reduceLE, Int.reduceLT, Int.reduceEq, Int.reduceNe, Int.reduceNeg, Int.reduceAdd, Int.reduceSub, ↓reduceIte, reduceCtorEq]
  refine loop_any (fun pre => [(1, .v (.d (.slice (l.map Stm.row)))), (2, .box [.d (.slice ((vsAfter vars pre).map Pm.row)), .d (.slice (loops.map sRow))]), (5, .v (.d (.int .i64 (pre.length : Nat))))])
    (fun _ => A) (fun pre suf => some (.d (.int .i64 (bdR (vsAfter vars pre) loops suf)), A)) l rfl rfl rfl ?_
  intro pre suf h ih2
  have hb : pre.length < 9223372036854775807 := by rw [h] at hl; simp at hl; omega
  cases suf with
  | nil => rw [List.append_nil] at h; subst h; rw [bdR_nil]; simp (maxSteps := 1000000) only [go_sem, acondK_bool, acB_merge, Nat.reduceLT, Nat.reduceLeDiff, Nat.reduceEqDiff, Nat.reduceAdd, Nat.reduceSub, Nat.reduceMul, Nat.reduceBEq, Nat.reduceBNe, Nat.reduceBneDiff, Nat.reduceBeqDiff, Int.reduceToNat, Int.reduceLE, Int.reduceLT, Int.reduceEq, Int.reduceNe, Int.reduceNeg, Int.reduceAdd, Int.reduceSub, ↓reduceIte, reduceCtorEq]
  | cons x suf =>
    have hx : x ∈ l := by rw [h]; simp
    have hs := hv x d (visSs_mem hx _ _ (vis_self x d))
    have hpl := visSs_pre_len pre suf x d
    rw [← h] at hpl
    have hvl := vsAfter_len pre vars
    have ib := ih x hx x.body (.inl rfl)
    have ie := ih x hx x.els (.inr rfl)
    have e2 := ih2 x suf rfl
    rw [List.length_append, List.length_cons, List.length_nil, vsAfter_snoc] at e2
    have e3 : (l.map Stm.row)[pre.length]? = some (Stm.row x) := by rw [h]; exact map_mid
    have e4 : decide ((pre.length : Int) < (l.length : Int)) = true := by rw [h]; simp; omega
    rw [Stm.row_eq] at e3
    rw [bdR_cons]
    generalize vsAfter vars pre = vs at *
    have hxo := hok x hx
    cases x with
    | mk op name max a b body els =>
    have hvb := visS_len_body (op := op) (name := name) (max := max) (a := a) (b := b) (body := body) (els := els) (d := d)
    have o1 := operandsR vs loops (by omega) _ hxo hs A
    have hop := hs.op
    simp only [Stm.op, Stm.body, Stm.els, Stm.name] at hop ib ie e2 ⊢
    have ib1 := ib vs loops (by omega) (by omega) A
    have ie1 := ie vs loops (by omega) (by omega) A
    have ib2 := ib (vs ++ [⟨name, 1⟩]) (loops ++ [name]) (by simp; omega) (by simp; omega) A
    have w1 := withR vs loops (by omega) (by omega) name 1 true A
    rw [if_pos rfl] at w1
    have w2 := fun t => withR vs loops (by omega) (by omega) name t false A
    simp only [Bool.false_eq_true, if_false] at w2
    have g1 := fun t => assignR vs loops (by omega) (by omega) name t A
    rw [stR]
    generalize opsS (getP vs) (.mk op name max a b body els) = r at *
    obtain ⟨r1, r2, r3⟩ := r
    simp only at o1 e2 ⊢
    have wr := wrongR op r1 r2 A
    cases h0 : decide (r3 = 0) with
    | false => simp (maxSteps := 1000000) only [go_sem, acondK_bool, acB_merge, Nat.reduceLT, Nat.reduceLeDiff, Nat.reduceEqDiff, Nat.reduceAdd, Nat.reduceSub, Nat.reduceMul, Nat.reduceBEq, Nat.reduceBNe, Nat.reduceBneDiff, Nat.reduceBeqDiff, Int.reduceToNat, Int.reduceLE, Int.reduceLT, Int.reduceEq, Int.reduceNe, Int.reduceNeg, Int.reduceAdd, Int.reduceSub, ↓reduceIte, reduceCtorEq, Stm.op, Stm.name, e3, e4, o1, h0]
    | true =>
    have hr3 : r3 = 0 := by simpa using h0
    subst hr3
    have ho : op = 1 ∨ op = 2 ∨ op = 3 ∨ op = 4 ∨ op = 5 ∨ op = 6 ∨ op = 7 ∨ op = 8 := by omega
    rcases ho with rfl | rfl | rfl | rfl | rfl | rfl | rfl | rfl <;> simp only [Int.reduceEq, decide_true, decide_false, Bool.false_eq_true, if_true, if_false] at e2
    · simp (maxSteps := 1000000) only [go_sem, acondK_bool, acB_merge, Nat.reduceLT, Nat.reduceLeDiff, Nat.reduceEqDiff, Nat.reduceAdd, Nat.reduceSub, Nat.reduceMul, Nat.reduceBEq, Nat.reduceBNe, Nat.reduceBneDiff, Nat.reduceBeqDiff, Int.reduceToNat, Int.reduceLE, Int.reduceLT, Int.reduceEq, Int.reduceNe, Int.reduceNeg, Int.reduceAdd, Int.reduceSub, ↓reduceIte, reduceCtorEq, Stm.op, Stm.name, e3, e4, o1, wr, wrgS, w2, e2, wrap_nat hb]
    · cases h5 : decide (asgS vs loops name r1 = 0) with
      | true => simp (maxSteps := 1000000) only [go_sem, acondK_bool, acB_merge, Nat.reduceLT, Nat.reduceLeDiff, Nat.reduceEqDiff, Nat.reduceAdd, Nat.reduceSub, Nat.reduceMul, Nat.reduceBEq, Nat.reduceBNe, Nat.reduceBneDiff, Nat.reduceBeqDiff, Int.reduceToNat, Int.reduceLE, Int.reduceLT, Int.reduceEq, Int.reduceNe, Int.reduceNeg, Int.reduceAdd, Int.reduceSub, ↓reduceIte, reduceCtorEq, Stm.op, Stm.name, e3, e4, o1, wr, wrgS, g1, h5, e2, wrap_nat hb]
      | false => simp (maxSteps := 1000000) only [go_sem, acondK_bool, acB_merge, Nat.reduceLT, Nat.reduceLeDiff, Nat.reduceEqDiff, Nat.reduceAdd, Nat.reduceSub, Nat.reduceMul, Nat.reduceBEq, Nat.reduceBNe, Nat.reduceBneDiff, Nat.reduceBeqDiff, Int.reduceToNat, Int.reduceLE, Int.reduceLT, Int.reduceEq, Int.reduceNe, Int.reduceNeg, Int.reduceAdd, Int.reduceSub, ↓reduceIte, reduceCtorEq, Stm.op, Stm.name, e3, e4, o1, wr, wrgS, g1, h5]
    · cases h5 : wrgS 3 r1 r2 with
      | true => simp (maxSteps := 1000000) only [go_sem, acondK_bool, acB_merge, Nat.reduceLT, Nat.reduceLeDiff, Nat.reduceEqDiff, Nat.reduceAdd, Nat.reduceSub, Nat.reduceMul, Nat.reduceBEq, Nat.reduceBNe, Nat.reduceBneDiff, Nat.reduceBeqDiff, Int.reduceToNat, Int.reduceLE, Int.reduceLT, Int.reduceEq, Int.reduceNe, Int.reduceNeg, Int.reduceAdd, Int.reduceSub, ↓reduceIte, reduceCtorEq, Stm.op, Stm.name, e3, e4, o1, wr, h5]
      | false => simp (maxSteps := 1000000) only [go_sem, acondK_bool, acB_merge, Nat.reduceLT, Nat.reduceLeDiff, Nat.reduceEqDiff, Nat.reduceAdd, Nat.reduceSub, Nat.reduceMul, Nat.reduceBEq, Nat.reduceBNe, Nat.reduceBneDiff, Nat.reduceBeqDiff, Int.reduceToNat, Int.reduceLE, Int.reduceLT, Int.reduceEq, Int.reduceNe, Int.reduceNeg, Int.reduceAdd, Int.reduceSub, ↓reduceIte, reduceCtorEq, Stm.op, Stm.name, e3, e4, o1, wr, h5, e2, wrap_nat hb]
    · cases h5 : wrgS 4 r1 r2 with
      | true => simp (maxSteps := 1000000) only [go_sem, acondK_bool, acB_merge, Nat.reduceLT, Nat.reduceLeDiff, Nat.reduceEqDiff, Nat.reduceAdd, Nat.reduceSub, Nat.reduceMul, Nat.reduceBEq, Nat.reduceBNe, Nat.reduceBneDiff, Nat.reduceBeqDiff, Int.reduceToNat, Int.reduceLE, Int.reduceLT, Int.reduceEq, Int.reduceNe, Int.reduceNeg, Int.reduceAdd, Int.reduceSub, ↓reduceIte, reduceCtorEq, Stm.op, Stm.name, e3, e4, o1, wr, h5]
      | false => simp (maxSteps := 1000000) only [go_sem, acondK_bool, acB_merge, Nat.reduceLT, Nat.reduceLeDiff, Nat.reduceEqDiff, Nat.reduceAdd, Nat.reduceSub, Nat.reduceMul, Nat.reduceBEq, Nat.reduceBNe, Nat.reduceBneDiff, Nat.reduceBeqDiff, Int.reduceToNat, Int.reduceLE, Int.reduceLT, Int.reduceEq, Int.reduceNe, Int.reduceNeg, Int.reduceAdd, Int.reduceSub, ↓reduceIte, reduceCtorEq, Stm.op, Stm.name, e3, e4, o1, wr, h5, e2, wrap_nat hb]
    · cases h5 : wrgS 5 r1 r2 with
      | true => simp (maxSteps := 1000000) only [go_sem, acondK_bool, acB_merge, Nat.reduceLT, Nat.reduceLeDiff, Nat.reduceEqDiff, Nat.reduceAdd, Nat.reduceSub, Nat.reduceMul, Nat.reduceBEq, Nat.reduceBNe, Nat.reduceBneDiff, Nat.reduceBeqDiff, Int.reduceToNat, Int.reduceLE, Int.reduceLT, Int.reduceEq, Int.reduceNe, Int.reduceNeg, Int.reduceAdd, Int.reduceSub, ↓reduceIte, reduceCtorEq, Stm.op, Stm.name, e3, e4, o1, wr, h5]
      | false =>
        cases h6 : decide (bdR vs loops body = 0) with
        | false => simp (maxSteps := 1000000) only [go_sem, acondK_bool, acB_merge, Nat.reduceLT, Nat.reduceLeDiff, Nat.reduceEqDiff, Nat.reduceAdd, Nat.reduceSub, Nat.reduceMul, Nat.reduceBEq, Nat.reduceBNe, Nat.reduceBneDiff, Nat.reduceBeqDiff, Int.reduceToNat, Int.reduceLE, Int.reduceLT, Int.reduceEq, Int.reduceNe, Int.reduceNeg, Int.reduceAdd, Int.reduceSub, ↓reduceIte, reduceCtorEq, Stm.op, Stm.name, e3, e4, o1, wr, h5, ib1, h6]
        | true =>
          cases h7 : decide (bdR vs loops els = 0) with
          | false => simp (maxSteps := 1000000) only [go_sem, acondK_bool, acB_merge, Nat.reduceLT, Nat.reduceLeDiff, Nat.reduceEqDiff, Nat.reduceAdd, Nat.reduceSub, Nat.reduceMul, Nat.reduceBEq, Nat.reduceBNe, Nat.reduceBneDiff, Nat.reduceBeqDiff, Int.reduceToNat, Int.reduceLE, Int.reduceLT, Int.reduceEq, Int.reduceNe, Int.reduceNeg, Int.reduceAdd, Int.reduceSub, ↓reduceIte, reduceCtorEq, Stm.op, Stm.name, e3, e4, o1, wr, h5, ib1, h6, ie1, h7]
          | true => simp (maxSteps := 1000000) only [go_sem, acondK_bool, acB_merge, Nat.reduceLT, Nat.reduceLeDiff, Nat.reduceEqDiff, Nat.reduceAdd, Nat.reduceSub, Nat.reduceMul, Nat.reduceBEq, Nat.reduceBNe, Nat.reduceBneDiff, Nat.reduceBeqDiff, Int.reduceToNat, Int.reduceLE, Int.reduceLT, Int.reduceEq, Int.reduceNe, Int.reduceNeg, Int.reduceAdd, Int.reduceSub, ↓reduceIte, reduceCtorEq, Stm.op, Stm.name, e3, e4, o1, wr, h5, ib1, h6, ie1, h7, e2, wrap_nat hb]
    · cases h5 : wrgS 6 r1 r2 with
      | true => simp (maxSteps := 1000000) only [go_sem, acondK_bool, acB_merge, Nat.reduceLT, Nat.reduceLeDiff, Nat.reduceEqDiff, Nat.reduceAdd, Nat.reduceSub, Nat.reduceMul, Nat.reduceBEq, Nat.reduceBNe, Nat.reduceBneDiff, Nat.reduceBeqDiff, Int.reduceToNat, Int.reduceLE, Int.reduceLT, Int.reduceEq, Int.reduceNe, Int.reduceNeg, Int.reduceAdd, Int.reduceSub, ↓reduceIte, reduceCtorEq, Stm.op, Stm.name, e3, e4, o1, wr, h5]
      | false =>
        cases h6 : decide (bdR (vs ++ [⟨name, 1⟩]) (loops ++ [name]) body = 0) with
        | false => simp (maxSteps := 1000000) only [go_sem, acondK_bool, acB_merge, Nat.reduceLT, Nat.reduceLeDiff, Nat.reduceEqDiff, Nat.reduceAdd, Nat.reduceSub, Nat.reduceMul, Nat.reduceBEq, Nat.reduceBNe, Nat.reduceBneDiff, Nat.reduceBeqDiff, Int.reduceToNat, Int.reduceLE, Int.reduceLT, Int.reduceEq, Int.reduceNe, Int.reduceNeg, Int.reduceAdd, Int.reduceSub, ↓reduceIte, reduceCtorEq, Stm.op, Stm.name, e3, e4, o1, wr, h5, k_drawn_q, w1, ib2, h6]
        | true => simp (maxSteps := 1000000) only [go_sem, acondK_bool, acB_merge, Nat.reduceLT, Nat.reduceLeDiff, Nat.reduceEqDiff, Nat.reduceAdd, Nat.reduceSub, Nat.reduceMul, Nat.reduceBEq, Nat.reduceBNe, Nat.reduceBneDiff, Nat.reduceBeqDiff, Int.reduceToNat, Int.reduceLE, Int.reduceLT, Int.reduceEq, Int.reduceNe, Int.reduceNeg, Int.reduceAdd, Int.reduceSub, ↓reduceIte, reduceCtorEq, Stm.op, Stm.name, e3, e4, o1, wr, h5, k_drawn_q, w1, ib2, h6, e2, wrap_nat hb]
    · cases h5 : wrgS 7 r1 r2 with
      | true => simp (maxSteps := 1000000) only [go_sem, acondK_bool, acB_merge, Nat.reduceLT, Nat.reduceLeDiff, Nat.reduceEqDiff, Nat.reduceAdd, Nat.reduceSub, Nat.reduceMul, Nat.reduceBEq, Nat.reduceBNe, Nat.reduceBneDiff, Nat.reduceBeqDiff, Int.reduceToNat, Int.reduceLE, Int.reduceLT, Int.reduceEq, Int.reduceNe, Int.reduceNeg, Int.reduceAdd, Int.reduceSub, ↓reduceIte, reduceCtorEq, Stm.op, Stm.name, e3, e4, o1, wr, h5]
      | false => simp (maxSteps := 1000000) only [go_sem, acondK_bool, acB_merge, Nat.reduceLT, Nat.reduceLeDiff, Nat.reduceEqDiff, Nat.reduceAdd, Nat.reduceSub, Nat.reduceMul, Nat.reduceBEq, Nat.reduceBNe, Nat.reduceBneDiff, Nat.reduceBeqDiff, Int.reduceToNat, Int.reduceLE, Int.reduceLT, Int.reduceEq, Int.reduceNe, Int.reduceNeg, Int.reduceAdd, Int.reduceSub, ↓reduceIte, reduceCtorEq, Stm.op, Stm.name, e3, e4, o1, wr, h5, e2, wrap_nat hb]
    · simp (maxSteps := 1000000) only [go_sem, acondK_bool, acB_merge, Nat.reduceLT, Nat.reduceLeDiff, Nat.reduceEqDiff, Nat.reduceAdd, Nat.reduceSub, Nat.reduceMul, Nat.reduceBEq, Nat.reduceBNe, Nat.reduceBneDiff, Nat.reduceBeqDiff, Int.reduceToNat, Int.reduceLE, Int.reduceLT, Int.reduceEq, Int.reduceNe, Int.reduceNeg, Int.reduceAdd, Int.reduceSub, ↓reduceIte, reduceCtorEq, Stm.op, Stm.name, e3, e4, o1, wr, wrgS, e2, wrap_nat hb]
end Go.Proofs.YtjmghomnbmbjnaaGreat
set_option linter.all false
namespace Go.Proofs.YtjmghomnbmbjnaaGreat
open Go.Abs
attribute [local congr] ite_congr
set_option maxRecDepth 10000
theorem bodyR_in : ∀ x : Stm, x.Ok → ∀ d, (∀ y k, Vis.s y k ∈ visS x d → StmOk y k) → ∀ m, m = x.body ∨ m = x.els → BodyR m (IntKind.i64.wrap (d + 1)) := by
  intro x
  induction x using Stm.ind with
  | h op name max a b body els ihb ihe =>
    intro hok d hv m hm
    obtain ⟨f1, f2⟩ := stmFit2 hok
    rcases hm with rfl | rfl
    · refine bodyR_of _ f1 (Stm.Ok.bodyOk hok) _ (fun y k hy => hv y k (vis_body _ hy)) fun y hy m hm => ?_
      exact ihb y hy (Stm.Ok.bodyOk hok y hy) _ (fun z k hz => hv z k (vis_body _ (visSs_mem hy _ _ hz))) m hm
    · refine bodyR_of _ f2 (Stm.Ok.elsOk hok) _ (fun y k hy => hv y k (vis_els _ hy)) fun y hy m hm => ?_
      exact ihe y hy (Stm.Ok.elsOk hok y hy) _ (fun z k hz => hv z k (vis_els _ (visSs_mem hy _ _ hz))) m hm
theorem bodyR (p : Pr) (hp : p.Ok) (V : Vld p) : BodyR p.body 1 :=
  bodyR_of p.body hp.bfit hp.body 1 (fun y k hy => stmtS_zero (V.stm y k hy)) fun x hx m hm => bodyR_in x (hp.body x hx) 1 (fun y k hy => stmtS_zero (V.stm y k (visSs_mem hx _ _ hy))) m hm
def scA (l : List Pm) : AV := if l = [] then .nilS else .d (.slice (l.map Pm.row))
def scB (l : List Pm) : AV := if l = [] then .nilS else .d (.slice [])
theorem sc_clean (l : List Pm) (A : AHeap) : acleanV A (.agg [scA l, scB l]) = (.agg [.d (.slice (l.map Pm.row)), .d (.slice [])], A) := by
  unfold scA scB
  by_cases h : l = []
  · subst h; rfl
  · rw [if_neg h, if_neg h]; rfl
theorem with_sc (l : List Pm) (h : l.length ≤ 4000000) (k : Bytes) (t : Int) (A : AHeap) : acl C 47 [.agg [scA l, scB l], .d (.str k), .d (.int .i64 t), .d (.bool false)] A = some (.agg [.d (.slice ((l ++ [(⟨k, t⟩ : Pm)]).map Pm.row)), .d (.slice [])], A) := by
  have := withR l [] h (by simp) k t false A
  rw [if_neg (by decide)] at this
  rw [← List.map_nil (f := sRow), ← this]
  refine acl_clean rfl Tryz.func47 rfl (ok 47 (by kernel_rfl)) (by rw [Tryz.ntmps47]; simp) (by rw [Tryz.ntmps47]; simp) rfl ?_ rfl rfl rfl
  simp only [acleanVs, sc_clean]
  rfl
theorem body_sc (p : Pr) (hp : p.Ok) (V : Vld p) (h : p.params.length ≤ 40) (A : AHeap) : acl C 48 [.agg [scA p.params, scB p.params], .d (.slice (p.body.map Stm.row))] A = some (.d (.int .i64 (bdR p.params [] p.body)), A) := by
  have hv := V.len
  have := bodyR p hp V p.params [] (by omega) (by simp; omega) A
  rw [← this]
  refine acl_clean rfl Tryz.func48 rfl (ok 48 (by kernel_rfl)) (by rw [Tryz.ntmps48]; simp) (by rw [Tryz.ntmps48]; simp) rfl ?_ rfl rfl rfl
  simp only [acleanVs, sc_clean]
  rfl
def dupR (pre : List Bytes) : List Bytes → Bool
  | [] => false
  | x :: l => (pre.any fun y => y == x) || dupR (pre ++ [x]) l
def chkT (p : Pr) : Int := if decide (valS p = 0) = true then (if prmBool p.params = true then 10 else if dupR [] (namesS p) = true then 8 else bdR p.params [] p.body) else valS p
set_option maxHeartbeats 2000000 in
theorem checkR (p : Pr) (hp : p.Ok) (h40 : p.params.length ≤ 40) (A : AHeap) : acl C 26 [Pr.av p] A = some (.d (.int .i64 (chkT p)), A) := by
  have v1 := validateR p hp
  have n1 := namesR p hp (by omega)
  rw [k_call (c := C) (f := 26) rfl Tryz.func26 rfl (ok 26 (by kernel_rfl)) rfl Tryz.ntmps26 Tryz.results26 (by simp)]
  unfold chkT
  cases h1 : decide (valS p = 0) with
  | false => simp (maxSteps := 1000000) only [go_sem, acondK_bool, acB_merge, Nat.reduceLT, Nat.reduceLeDiff, Nat.reduceEqDiff, Nat.reduceAdd, Nat.reduceSub, Nat.reduceMul, Nat.reduceBEq, Nat.reduceBNe, Nat.reduceBneDiff, Nat.reduceBeqDiff, Int.reduceToNat, Int.reduceLE, Int.reduceLT, Int.reduceEq, Int.reduceNe, Int.reduceNeg, Int.reduceAdd, Int.reduceSub, ↓reduceIte, reduceCtorEq, v1, h1]
  | true =>
  have V := (valS_zero p).1 (by simpa using h1)
  simp (maxSteps := 1000000) only [go_sem, acondK_bool, acB_merge, Nat.reduceLT, Nat.reduceLeDiff, Nat.reduceEqDiff, Nat.reduceAdd, Nat.reduceSub, Nat.reduceMul, Nat.reduceBEq, Nat.reduceBNe, Nat.reduceBneDiff, Nat.reduceBeqDiff, Int.reduceToNat, Int.reduceLE, Int.reduceLT, Int.reduceEq, Int.reduceNe, Int.reduceNeg, Int.reduceAdd, Int.reduceSub, ↓reduceIte, reduceCtorEq, v1, h1]
  refine loop_any (fun pre => [(4, .box [scA pre, scB pre]), (1, .box [.d (.str p.name), .d (.slice (p.params.map Pm.row)), .d (.slice (p.body.map Stm.row))]), (5, .v (.d (.int .i64 (pre.length : Nat))))])
    (fun _ => A) (fun _ suf => some (.d (.int .i64 (if prmBool suf = true then 10 else if dupR [] (namesS p) = true then 8 else bdR p.params [] p.body)), A)) p.params rfl rfl rfl ?_
  intro pre suf hl ih
  have hb : pre.length < 9223372036854775807 := by rw [hl] at h40; simp at h40; omega
  cases suf with
  | cons x suf =>
    have w1 := with_sc pre (by rw [hl] at h40; simp at h40; omega) x.name x.type A
    have e2 := ih x suf rfl
    have g1 : scA (pre ++ [x]) = .d (.slice ((pre ++ [(⟨x.name, x.type⟩ : Pm)]).map Pm.row)) := by unfold scA; rw [if_neg (by simp)]
    have g2 : scB (pre ++ [x]) = .d (.slice []) := by unfold scB; rw [if_neg (by simp)]
    rw [List.length_append, List.length_cons, List.length_nil, g1, g2] at e2
    have e3 : (p.params.map Pm.row)[pre.length]? = some [.str x.name, .int .i64 x.type] := by rw [hl]; exact map_mid
    have e4 : decide ((pre.length : Int) < (p.params.length : Int)) = true := by rw [hl]; simp; omega
    have e5 : prmBool (x :: suf) = (decide (x.type = 3) || prmBool suf) := rfl
    rw [e5]
    generalize (pre ++ [(⟨x.name, x.type⟩ : Pm)]).map Pm.row = rows at *
    cases h5 : decide (x.type = 3) with
    | true => simp (maxSteps := 1000000) only [go_sem, acondK_bool, acB_merge, Nat.reduceLT, Nat.reduceLeDiff, Nat.reduceEqDiff, Nat.reduceAdd, Nat.reduceSub, Nat.reduceMul, Nat.reduceBEq, Nat.reduceBNe, Nat.reduceBneDiff, Nat.reduceBeqDiff, Int.reduceToNat, Int.reduceLE, Int.reduceLT, Int.reduceEq, Int.reduceNe, Int.reduceNeg, Int.reduceAdd, Int.reduceSub, ↓reduceIte, reduceCtorEq, e3, e4, h5]
    | false =>
      simp (maxSteps := 1000000) only [go_sem, acondK_bool, acB_merge, Nat.reduceLT, Nat.reduceLeDiff, Nat.reduceEqDiff, Nat.reduceAdd, Nat.reduceSub, Nat.reduceMul, Nat.reduceBEq, Nat.reduceBNe, Nat.reduceBneDiff, Nat.reduceBeqDiff, Int.reduceToNat, Int.reduceLE, Int.reduceLT, Int.reduceEq, Int.reduceNe, Int.reduceNeg, Int.reduceAdd, Int.reduceSub, ↓reduceIte, reduceCtorEq, e3, e4, h5, k_drawn_t, w1]
      refine Eq.trans (ctE_ok (by repeat (first | exact MLe.nil | apply MLe.qq | apply MLe.q | apply MLe.o | apply MLe.b | apply MLe.l)) (by kernel_rfl)) ?_
      simp (maxSteps := 1000000) only [go_sem, acondK_bool, acB_merge, Nat.reduceLT, Nat.reduceLeDiff, Nat.reduceEqDiff, Nat.reduceAdd, Nat.reduceSub, Nat.reduceMul, Nat.reduceBEq, Nat.reduceBNe, Nat.reduceBneDiff, Nat.reduceBeqDiff, Int.reduceToNat, Int.reduceLE, Int.reduceLT, Int.reduceEq, Int.reduceNe, Int.reduceNeg, Int.reduceAdd, Int.reduceSub, ↓reduceIte, reduceCtorEq, e2, wrap_nat hb]
  | nil =>
  rw [List.append_nil] at hl
  subst hl
  have e5 : prmBool [] = false := rfl
  rw [e5]
  simp only [Bool.false_eq_true, if_false]
  have b1 := body_sc p hp V h40 A
  simp (maxSteps := 1000000) only [go_sem, acondK_bool, acB_merge, Nat.reduceLT, Nat.reduceLeDiff, Nat.reduceEqDiff, Nat.reduceAdd, Nat.reduceSub, Nat.reduceMul, Nat.reduceBEq, Nat.reduceBNe, Nat.reduceBneDiff, Nat.reduceBeqDiff, Int.reduceToNat, Int.reduceLE, Int.reduceLT, Int.reduceEq, Int.reduceNe, Int.reduceNeg, Int.reduceAdd, Int.reduceSub, ↓reduceIte, reduceCtorEq, n1]
  have hnl := namesS_len p h40
  generalize namesS p = names at *
  refine loop_any (fun pre => [(7, .v (.d (.int .i64 (pre.length : Nat)))), (6, .v (.d (.slice (names.map sRow)))), (4, .box [scA p.params, scB p.params]), (1, .box [.d (.str p.name), .d (.slice (p.params.map Pm.row)), .d (.slice (p.body.map Stm.row))])])
    (fun _ => A) (fun pre suf => some (.d (.int .i64 (if dupR pre suf = true then 8 else bdR p.params [] p.body)), A)) names rfl rfl rfl ?_
  intro pre suf hl ih2
  have hb2 : pre.length < 9223372036854775807 := by rw [hl] at hnl; simp at hnl; omega
  cases suf with
  | nil =>
    have e7 : dupR pre [] = false := rfl
    rw [e7]
    rw [List.append_nil] at hl
    subst hl
    simp (maxSteps := 1000000) only [go_sem, acondK_bool, acB_merge, Nat.reduceLT, Nat.reduceLeDiff, Nat.reduceEqDiff, Nat.reduceAdd, Nat.reduceSub, Nat.reduceMul, Nat.reduceBEq, Nat.reduceBNe, Nat.reduceBneDiff, Nat.reduceBeqDiff, Int.reduceToNat, Int.reduceLE, Int.reduceLT, Int.reduceEq, Int.reduceNe, Int.reduceNeg, Int.reduceAdd, Int.reduceSub, ↓reduceIte, reduceCtorEq, b1]
  | cons x suf =>
    have e2 := ih2 x suf rfl
    rw [List.length_append, List.length_cons, List.length_nil] at e2
    have e3 : (names.map sRow)[pre.length]? = some [.str x] := by rw [hl]; exact map_mid
    have e4 : decide ((pre.length : Int) < (names.length : Int)) = true := by rw [hl]; simp; omega
    have e6 : dupR pre (x :: suf) = ((pre.any fun y => y == x) || dupR (pre ++ [x]) suf) := rfl
    rw [e6]
    simp (maxSteps := 1000000) only [go_sem, acondK_bool, acB_merge, Nat.reduceLT, Nat.reduceLeDiff, Nat.reduceEqDiff, Nat.reduceAdd, Nat.reduceSub, Nat.reduceMul, Nat.reduceBEq, Nat.reduceBNe, Nat.reduceBneDiff, Nat.reduceBeqDiff, Int.reduceToNat, Int.reduceLE, Int.reduceLT, Int.reduceEq, Int.reduceNe, Int.reduceNeg, Int.reduceAdd, Int.reduceSub, ↓reduceIte, reduceCtorEq, e4]
    refine loop_any (fun q => [(1, .box [.d (.str p.name), .d (.slice (p.params.map Pm.row)), .d (.slice (p.body.map Stm.row))]), (4, .box [scA p.params, scB p.params]), (6, .v (.d (.slice (names.map sRow)))), (7, .v (.d (.int .i64 (pre.length : Nat)))), (8, .v (.d (.int .i64 (q.length : Nat))))])
      (fun _ => A) (fun _ r => some (.d (.int .i64 (if ((r.any fun y => y == x) || dupR (pre ++ [x]) suf) = true then 8 else bdR p.params [] p.body)), A)) pre rfl rfl rfl ?_
    intro q r hq ih3
    have hb3 : q.length < 9223372036854775807 := by rw [hq] at hb2; simp at hb2; omega
    cases r with
    | nil =>
      rw [List.append_nil] at hq
      subst hq
      simp (maxSteps := 1000000) only [go_sem, acondK_bool, acB_merge, Nat.reduceLT, Nat.reduceLeDiff, Nat.reduceEqDiff, Nat.reduceAdd, Nat.reduceSub, Nat.reduceMul, Nat.reduceBEq, Nat.reduceBNe, Nat.reduceBneDiff, Nat.reduceBeqDiff, Int.reduceToNat, Int.reduceLE, Int.reduceLT, Int.reduceEq, Int.reduceNe, Int.reduceNeg, Int.reduceAdd, Int.reduceSub, ↓reduceIte, reduceCtorEq, e2, wrap_nat hb2, List.any_nil]
    | cons y r =>
      have f2 := ih3 y r rfl
      rw [List.length_append, List.length_cons, List.length_nil] at f2
      have f3 : (names.map sRow)[q.length]? = some [.str y] := by rw [hl, hq, List.append_assoc]; exact map_mid
      have f4 : decide ((q.length : Int) < (pre.length : Int)) = true := by rw [hq]; simp; omega
      cases h5 : (y == x) with
      | true => simp (maxSteps := 1000000) only [go_sem, acondK_bool, acB_merge, Nat.reduceLT, Nat.reduceLeDiff, Nat.reduceEqDiff, Nat.reduceAdd, Nat.reduceSub, Nat.reduceMul, Nat.reduceBEq, Nat.reduceBNe, Nat.reduceBneDiff, Nat.reduceBeqDiff, Int.reduceToNat, Int.reduceLE, Int.reduceLT, Int.reduceEq, Int.reduceNe, Int.reduceNeg, Int.reduceAdd, Int.reduceSub, ↓reduceIte, reduceCtorEq, f4, k_drawn_q, e3, f3, h5, List.any_cons]
      | false => simp (maxSteps := 1000000) only [go_sem, acondK_bool, acB_merge, Nat.reduceLT, Nat.reduceLeDiff, Nat.reduceEqDiff, Nat.reduceAdd, Nat.reduceSub, Nat.reduceMul, Nat.reduceBEq, Nat.reduceBNe, Nat.reduceBneDiff, Nat.reduceBeqDiff, Int.reduceToNat, Int.reduceLE, Int.reduceLT, Int.reduceEq, Int.reduceNe, Int.reduceNeg, Int.reduceAdd, Int.reduceSub, ↓reduceIte, reduceCtorEq, f4, k_drawn_q, e3, f3, h5, f2, wrap_nat hb3, List.any_cons]
end Go.Proofs.YtjmghomnbmbjnaaGreat
