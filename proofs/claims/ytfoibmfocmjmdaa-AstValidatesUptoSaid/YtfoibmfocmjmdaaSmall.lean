/- How many nodes a procedure has, as the laws count them. -/
import Derived.Test.YtfoibmfocmjmdaaValid2
set_option linter.all false
set_option linter.unusedVariables false
set_option linter.unusedSimpArgs false
set_option linter.all false
set_option linter.deprecated false
namespace Go.Proofs.Ytfoibmfocmjmdaa
open Go.Abs
attribute [local congr] ite_congr
set_option maxRecDepth 10000
mutual
def cntS : Stm → Int → Int → Int
  | .mk op name max a b body els, n, m =>
    let n1 := IntKind.i64.wrap (IntKind.i64.wrap (n + 1) + IntKind.i64.wrap (Int.tdiv name.length 64))
    let n2 := IntKind.i64.wrap (n1 + cntE a (IntKind.i64.wrap (m - n1)))
    let n3 := IntKind.i64.wrap (n2 + cntE b (IntKind.i64.wrap (m - n2)))
    let n4 := IntKind.i64.wrap (n3 + cntSs body 0 (IntKind.i64.wrap (m - n3)))
    IntKind.i64.wrap (n4 + cntSs els 0 (IntKind.i64.wrap (m - n4)))
def cntSs : List Stm → Int → Int → Int
  | [], n, _ => n
  | x :: l, n, m => if n ≤ m then cntSs l (cntS x n m) m else n
end
def cntSP : List Stm → Int → Int → Int
  | [], n, _ => n
  | x :: l, n, m => cntSP l (cntS x n m) m
theorem cntSP_snoc : ∀ (l : List Stm) (x : Stm) (n m : Int), cntSP (l ++ [x]) n m = cntS x (cntSP l n m) m
  | [], _, _, _ => rfl
  | y :: l, x, n, m => by simp only [List.cons_append, cntSP, cntSP_snoc l]
theorem countBody_of (b : List Stm) (hlen : b.length ≤ 1099511627776) (hok : ∀ x ∈ b, x.Ok)
    (ih : ∀ x ∈ b, ∀ (l : List Stm), l = x.body ∨ l = x.els → ∀ (m : Int) (A : AHeap), acl C 39 [.d (.slice (l.map Stm.row)), .d (.int .i64 m)] A = some (.d (.int .i64 (cntSs l 0 m)), A))
    (m : Int) (A : AHeap) : acl C 39 [.d (.slice (b.map Stm.row)), .d (.int .i64 m)] A = some (.d (.int .i64 (cntSs b 0 m)), A) := by
  rw [k_call (c := C) (f := 39) rfl Try.func39 rfl (ok 39 (by kernel_rfl)) rfl Try.ntmps39 Try.results39 (by simp)]
  simp (maxSteps := 1000000) +contextual only [go_sem, acondK_bool, acB_merge, Nat.reduceLT, Nat.reduceLeDiff, Nat.reduceEqDiff, Nat.reduceAdd, Nat.reduceSub, Nat.reduceMul, Nat.reduceBEq, Nat.reduceBNe, Nat.reduceBneDiff, Nat.reduceBeqDiff, Int.reduceToNat, Int.reduceLE, Int.reduceLT, Int.reduceEq, Int.reduceNe, Int.reduceNeg, Int.reduceAdd, Int.reduceSub, ↓reduceIte, reduceCtorEq, List.getElem?_toArray, List.getElem?_cons_zero, List.getElem?_cons_succ, List.length_cons, List.length_nil, List.take_succ_cons, List.take_zero, List.drop_succ_cons, List.drop_zero, List.drop_nil, List.take_nil, List.nil_append, List.cons_append, List.append_nil, List.contains_cons, List.contains_nil, Bool.or_false, Bool.false_or, Bool.or_true, Bool.true_or, Bool.and_true, Bool.true_and, Bool.and_false, Bool.false_and, Bool.not_true, Bool.not_false, Bool.not_not, List.map_cons, List.map_nil, ite_not, not_true_eq_false, not_false_eq_true, Nat.zero_add, Nat.add_zero]
  refine loop_any (fun pre => [(5, .v (.d (.int .i64 (cntSP pre 0 m)))), (6, .v (.d (.int .i64 (pre.length : Nat)))), (1, .v (.d (.int .i64 m))), (0, .v (.d (.slice (b.map Stm.row))))])
    (fun _ => A) (fun pre suf => some (.d (.int .i64 (cntSs suf (cntSP pre 0 m) m)), A)) b rfl rfl rfl ?_
  intro pre suf h ih2
  have hb : pre.length < 9223372036854775807 := by rw [h] at hlen; simp at hlen; omega
  generalize hn : cntSP pre 0 m = k at *
  cases suf with
  | nil => rw [List.append_nil] at h; subst h; simp (maxSteps := 1000000) +contextual only [go_sem, acondK_bool, acB_merge, Nat.reduceLT, Nat.reduceLeDiff, Nat.reduceEqDiff, Nat.reduceAdd, Nat.reduceSub, Nat.reduceMul, Nat.reduceBEq, Nat.reduceBNe, Nat.reduceBneDiff, Nat.reduceBeqDiff, Int.reduceToNat, Int.reduceLE, Int.reduceLT, Int.reduceEq, Int.reduceNe, Int.reduceNeg, Int.reduceAdd, Int.reduceSub, ↓reduceIte, reduceCtorEq, List.getElem?_toArray, List.getElem?_cons_zero, List.getElem?_cons_succ, List.length_cons, List.length_nil, List.take_succ_cons, List.take_zero, List.drop_succ_cons, List.drop_zero, List.drop_nil, List.take_nil, List.nil_append, List.cons_append, List.append_nil, List.contains_cons, List.contains_nil, Bool.or_false, Bool.false_or, Bool.or_true, Bool.true_or, Bool.and_true, Bool.true_and, Bool.and_false, Bool.false_and, Bool.not_true, Bool.not_false, Bool.not_not, List.map_cons, List.map_nil, ite_not, not_true_eq_false, not_false_eq_true, Nat.zero_add, Nat.add_zero, cntSs]
  | cons x suf =>
    have hx : x ∈ b := by rw [h]; simp
    have hxo := hok x hx
    have e2 := ih2 x suf rfl
    rw [cntSP_snoc, hn, List.length_append, List.length_cons, List.length_nil] at e2
    have e3 : (b.map Stm.row)[pre.length]? = some (Stm.row x) := by rw [h]; exact map_mid
    rw [Stm.row_eq] at e3
    have e4 : decide ((pre.length : Int) < (b.length : Int)) = true := by rw [h]; simp; omega
    have f1 := count x.a (Stm.Ok.a hxo)
    have f2 := count x.b (Stm.Ok.b hxo)
    have f3 := ih x hx x.body (.inl rfl)
    have f4 := ih x hx x.els (.inr rfl)
    have f5 : cntS x k m = cntS (.mk x.op x.name x.max x.a x.b x.body x.els) k m := by rw [Stm.eta]
    rw [f5] at e2
    simp only [cntS] at e2
    simp (maxSteps := 1000000) +contextual only [go_sem, acondK_bool, acB_merge, Nat.reduceLT, Nat.reduceLeDiff, Nat.reduceEqDiff, Nat.reduceAdd, Nat.reduceSub, Nat.reduceMul, Nat.reduceBEq, Nat.reduceBNe, Nat.reduceBneDiff, Nat.reduceBeqDiff, Int.reduceToNat, Int.reduceLE, Int.reduceLT, Int.reduceEq, Int.reduceNe, Int.reduceNeg, Int.reduceAdd, Int.reduceSub, ↓reduceIte, reduceCtorEq, List.getElem?_toArray, List.getElem?_cons_zero, List.getElem?_cons_succ, List.length_cons, List.length_nil, List.take_succ_cons, List.take_zero, List.drop_succ_cons, List.drop_zero, List.drop_nil, List.take_nil, List.nil_append, List.cons_append, List.append_nil, List.contains_cons, List.contains_nil, Bool.or_false, Bool.false_or, Bool.or_true, Bool.true_or, Bool.and_true, Bool.true_and, Bool.and_false, Bool.false_and, Bool.not_true, Bool.not_false, Bool.not_not, List.map_cons, List.map_nil, ite_not, not_true_eq_false, not_false_eq_true, Nat.zero_add, Nat.add_zero, e3, e4, f1, f2, f3, f4, e2, wrap_nat hb, cntSs]
    refine leafI ?_
    rw [f5]
    simp [cntS]
theorem countBody_in : ∀ x : Stm, x.Ok → ∀ (l : List Stm), l = x.body ∨ l = x.els → ∀ (m : Int) (A : AHeap), acl C 39 [.d (.slice (l.map Stm.row)), .d (.int .i64 m)] A = some (.d (.int .i64 (cntSs l 0 m)), A) := by
  intro x
  induction x using Stm.ind with
  | h op name max a b body els ihb ihe =>
    intro hok l hm m A
    rcases hm with rfl | rfl
    · exact countBody_of _ (Stm.Ok.bodyLen hok) (Stm.Ok.bodyOk hok) (fun y hy => ihb y hy (Stm.Ok.bodyOk hok y hy)) m A
    · exact countBody_of _ (Stm.Ok.elsLen hok) (Stm.Ok.elsOk hok) (fun y hy => ihe y hy (Stm.Ok.elsOk hok y hy)) m A
def smallS (p : Pr) (m : Int) : Bool :=
  if (decide (40 < (p.params.length : Int)) || decide (200 < (p.name.length : Int))) = true then false else p.params.all (fun x => !decide (200 < (x.name.length : Int))) && decide (cntSs p.body 0 m ≤ m)
theorem small (p : Pr) (hp : p.Ok) (m : Int) (A : AHeap) : acl C 17 [Pr.av p, .d (.int .i64 m)] A = some (.d (.bool (smallS p m)), A) := by
  rw [k_call (c := C) (f := 17) rfl Try.func17 rfl (ok 17 (by kernel_rfl)) rfl Try.ntmps17 Try.results17 (by simp)]
  have e1 := countBody_of p.body hp.blen hp.body (fun x hx => countBody_in x (hp.body x hx)) m A
  cases h1 : (decide (40 < (p.params.length : Int)) || decide (200 < (p.name.length : Int))) with
  | true => simp (maxSteps := 1000000) +contextual only [go_sem, acondK_bool, acB_merge, Nat.reduceLT, Nat.reduceLeDiff, Nat.reduceEqDiff, Nat.reduceAdd, Nat.reduceSub, Nat.reduceMul, Nat.reduceBEq, Nat.reduceBNe, Nat.reduceBneDiff, Nat.reduceBeqDiff, Int.reduceToNat, Int.reduceLE, Int.reduceLT, Int.reduceEq, Int.reduceNe, Int.reduceNeg, Int.reduceAdd, Int.reduceSub, ↓reduceIte, reduceCtorEq, List.getElem?_toArray, List.getElem?_cons_zero, List.getElem?_cons_succ, List.length_cons, List.length_nil, List.take_succ_cons, List.take_zero, List.drop_succ_cons, List.drop_zero, List.drop_nil, List.take_nil, List.nil_append, List.cons_append, List.append_nil, List.contains_cons, List.contains_nil, Bool.or_false, Bool.false_or, Bool.or_true, Bool.true_or, Bool.and_true, Bool.true_and, Bool.and_false, Bool.false_and, Bool.not_true, Bool.not_false, Bool.not_not, List.map_cons, List.map_nil, ite_not, not_true_eq_false, not_false_eq_true, Nat.zero_add, Nat.add_zero, h1, smallS]
  | false =>
  simp (maxSteps := 1000000) +contextual only [go_sem, acondK_bool, acB_merge, Nat.reduceLT, Nat.reduceLeDiff, Nat.reduceEqDiff, Nat.reduceAdd, Nat.reduceSub, Nat.reduceMul, Nat.reduceBEq, Nat.reduceBNe, Nat.reduceBneDiff, Nat.reduceBeqDiff, Int.reduceToNat, Int.reduceLE, Int.reduceLT, Int.reduceEq, Int.reduceNe, Int.reduceNeg, Int.reduceAdd, Int.reduceSub, ↓reduceIte, reduceCtorEq, List.getElem?_toArray, List.getElem?_cons_zero, List.getElem?_cons_succ, List.length_cons, List.length_nil, List.take_succ_cons, List.take_zero, List.drop_succ_cons, List.drop_zero, List.drop_nil, List.take_nil, List.nil_append, List.cons_append, List.append_nil, List.contains_cons, List.contains_nil, Bool.or_false, Bool.false_or, Bool.or_true, Bool.true_or, Bool.and_true, Bool.true_and, Bool.and_false, Bool.false_and, Bool.not_true, Bool.not_false, Bool.not_not, List.map_cons, List.map_nil, ite_not, not_true_eq_false, not_false_eq_true, Nat.zero_add, Nat.add_zero, h1, smallS]
  refine loop_any (fun pre => [(1, .v (.d (.int .i64 m))), (2, .box [.d (.str p.name), .d (.slice (p.params.map Pm.row)), .d (.slice (p.body.map Stm.row))]), (5, .v (.d (.int .i64 (pre.length : Nat))))])
    (fun _ => A) (fun _ suf => some (.d (.bool (suf.all (fun x => !decide (200 < (x.name.length : Int))) && decide (cntSs p.body 0 m ≤ m))), A)) p.params rfl rfl rfl ?_
  intro pre suf h ih
  have hlen := hp.plen
  generalize p.params = l at *
  have hb : pre.length < 9223372036854775807 := by rw [h] at hlen; simp at hlen; omega
  cases suf with
  | nil => rw [List.append_nil] at h; subst h; simp (maxSteps := 1000000) +contextual only [go_sem, acondK_bool, acB_merge, Nat.reduceLT, Nat.reduceLeDiff, Nat.reduceEqDiff, Nat.reduceAdd, Nat.reduceSub, Nat.reduceMul, Nat.reduceBEq, Nat.reduceBNe, Nat.reduceBneDiff, Nat.reduceBeqDiff, Int.reduceToNat, Int.reduceLE, Int.reduceLT, Int.reduceEq, Int.reduceNe, Int.reduceNeg, Int.reduceAdd, Int.reduceSub, ↓reduceIte, reduceCtorEq, List.getElem?_toArray, List.getElem?_cons_zero, List.getElem?_cons_succ, List.length_cons, List.length_nil, List.take_succ_cons, List.take_zero, List.drop_succ_cons, List.drop_zero, List.drop_nil, List.take_nil, List.nil_append, List.cons_append, List.append_nil, List.contains_cons, List.contains_nil, Bool.or_false, Bool.false_or, Bool.or_true, Bool.true_or, Bool.and_true, Bool.true_and, Bool.and_false, Bool.false_and, Bool.not_true, Bool.not_false, Bool.not_not, List.map_cons, List.map_nil, ite_not, not_true_eq_false, not_false_eq_true, Nat.zero_add, Nat.add_zero, e1]
  | cons x suf =>
    have e2 := ih x suf rfl
    rw [List.length_append, List.length_cons, List.length_nil] at e2
    have e3 : (l.map Pm.row)[pre.length]? = some [.str x.name, .int .i64 x.type] := by rw [h]; exact map_mid
    have e4 : decide ((pre.length : Int) < (l.length : Int)) = true := by rw [h]; simp; omega
    simp (maxSteps := 1000000) +contextual only [go_sem, acondK_bool, acB_merge, Nat.reduceLT, Nat.reduceLeDiff, Nat.reduceEqDiff, Nat.reduceAdd, Nat.reduceSub, Nat.reduceMul, Nat.reduceBEq, Nat.reduceBNe, Nat.reduceBneDiff, Nat.reduceBeqDiff, Int.reduceToNat, Int.reduceLE, Int.reduceLT, Int.reduceEq, Int.reduceNe, Int.reduceNeg, Int.reduceAdd, Int.reduceSub, ↓reduceIte, reduceCtorEq, List.getElem?_toArray, List.getElem?_cons_zero, List.getElem?_cons_succ, List.length_cons, List.length_nil, List.take_succ_cons, List.take_zero, List.drop_succ_cons, List.drop_zero, List.drop_nil, List.take_nil, List.nil_append, List.cons_append, List.append_nil, List.contains_cons, List.contains_nil, Bool.or_false, Bool.false_or, Bool.or_true, Bool.true_or, Bool.and_true, Bool.true_and, Bool.and_false, Bool.false_and, Bool.not_true, Bool.not_false, Bool.not_not, List.map_cons, List.map_nil, ite_not, not_true_eq_false, not_false_eq_true, Nat.zero_add, Nat.add_zero, e3, e4, e2, wrap_nat hb]
    refine leafB ?_
    cases decide (200 < (x.name.length : Int)) <;> simp
theorem lawValidates (p : Pr) (hp : p.Ok) : acl C 5 [Pr.av p] A00 = some (.d (.bool true), A00) := by
  rw [k_call (c := C) (f := 5) rfl Try.func5 rfl (ok 5 (by kernel_rfl)) rfl Try.ntmps5 Try.results5 (by simp)]
  simp (maxSteps := 1000000) +contextual only [go_sem, acondK_bool, acB_merge, Nat.reduceLT, Nat.reduceLeDiff, Nat.reduceEqDiff, Nat.reduceAdd, Nat.reduceSub, Nat.reduceMul, Nat.reduceBEq, Nat.reduceBNe, Nat.reduceBneDiff, Nat.reduceBeqDiff, Int.reduceToNat, Int.reduceLE, Int.reduceLT, Int.reduceEq, Int.reduceNe, Int.reduceNeg, Int.reduceAdd, Int.reduceSub, ↓reduceIte, reduceCtorEq, List.getElem?_toArray, List.getElem?_cons_zero, List.getElem?_cons_succ, List.length_cons, List.length_nil, List.take_succ_cons, List.take_zero, List.drop_succ_cons, List.drop_zero, List.drop_nil, List.take_nil, List.nil_append, List.cons_append, List.append_nil, List.contains_cons, List.contains_nil, Bool.or_false, Bool.false_or, Bool.or_true, Bool.true_or, Bool.and_true, Bool.true_and, Bool.and_false, Bool.false_and, Bool.not_true, Bool.not_false, Bool.not_not, List.map_cons, List.map_nil, ite_not, not_true_eq_false, not_false_eq_true, Nat.zero_add, Nat.add_zero, small p hp, works, k_drawn_q, validate p hp, validateR p hp]
end Go.Proofs.Ytfoibmfocmjmdaa
