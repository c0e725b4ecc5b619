/- Expressions: the tests of all nodes, and how many nodes there are. -/
import Derived.Test.YtfoibmfocmjmdaaAst1
set_option linter.all false
set_option linter.unusedVariables false
set_option linter.unusedSimpArgs false
set_option linter.all false
set_option linter.deprecated false
namespace Go.Proofs.Ytfoibmfocmjmdaa
open Go.Abs
attribute [local congr] ite_congr
set_option maxRecDepth 10000
/-- the cells of a whole expression -/
abbrev E.av (e : E) : AV := eV e.op e.n e.s (e.args.map E.row)
mutual
def chkE : E → Int → Int
  | .mk op n s args, d => if nodeS op n s args.length d = 0 then chkL args (IntKind.i64.wrap (d + 1)) else nodeS op n s args.length d
def chkL : List E → Int → Int
  | [], _ => 0
  | x :: l, d => if chkE x d = 0 then chkL l d else chkE x d
end
theorem check : ∀ e, E.Ok e → ∀ (d : Int) (A : AHeap), acl C 37 [E.av e, .d (.int .i64 d)] A = some (.d (.int .i64 (chkE e d)), A) := by
  intro e
  induction e using E.ind with
  | h op n s args ih =>
    intro hok d A
    rw [k_call (c := C) (f := 37) rfl Try.func37 rfl (ok 37 (by kernel_rfl)) rfl Try.ntmps37 Try.results37 (by simp)]
    simp (maxSteps := 1000000) +contextual only [go_sem, acondK_bool, acB_merge, Nat.reduceLT, Nat.reduceLeDiff, Nat.reduceEqDiff, Nat.reduceAdd, Nat.reduceSub, Nat.reduceMul, Nat.reduceBEq, Nat.reduceBNe, Nat.reduceBneDiff, Nat.reduceBeqDiff, Int.reduceToNat, Int.reduceLE, Int.reduceLT, Int.reduceEq, Int.reduceNe, Int.reduceNeg, Int.reduceAdd, Int.reduceSub, ↓reduceIte, reduceCtorEq, List.getElem?_toArray, List.getElem?_cons_zero, List.getElem?_cons_succ, List.length_cons, List.length_nil, List.take_succ_cons, List.take_zero, List.drop_succ_cons, List.drop_zero, List.drop_nil, List.take_nil, List.nil_append, List.cons_append, List.append_nil, List.contains_cons, List.contains_nil, Bool.or_false, Bool.false_or, Bool.or_true, Bool.true_or, Bool.and_true, Bool.true_and, Bool.and_false, Bool.false_and, Bool.not_true, Bool.not_false, Bool.not_not, List.map_cons, List.map_nil, ite_not, not_true_eq_false, not_false_eq_true, Nat.zero_add, Nat.add_zero, hok.s]
    refine way (fun h => ?_) (fun h => ?_)
    · refine loop_list (fun i => [(17, .v (.d (.int .i64 (args.length : Nat)))), (16, .v (.d (.slice (args.map E.row)))), (1, .v (.d (.int .i64 d))), (18, .v (.d (.int .i64 (i : Int))))])
        (fun pre suf => some (.d (.int .i64 (chkL suf (IntKind.i64.wrap (d + 1)))), A)) args rfl (by simp at h; simp [chkE, h]) ?_
      intro pre suf hl ih2
      have hb : pre.length < 9223372036854775807 := by have := hok.len; rw [hl] at this; simp at this; omega
      rw [hl]
      cases suf with
      | nil => simp (maxSteps := 1000000) +contextual only [go_sem, acondK_bool, acB_merge, Nat.reduceLT, Nat.reduceLeDiff, Nat.reduceEqDiff, Nat.reduceAdd, Nat.reduceSub, Nat.reduceMul, Nat.reduceBEq, Nat.reduceBNe, Nat.reduceBneDiff, Nat.reduceBeqDiff, Int.reduceToNat, Int.reduceLE, Int.reduceLT, Int.reduceEq, Int.reduceNe, Int.reduceNeg, Int.reduceAdd, Int.reduceSub, ↓reduceIte, reduceCtorEq, List.getElem?_toArray, List.getElem?_cons_zero, List.getElem?_cons_succ, List.length_cons, List.length_nil, List.take_succ_cons, List.take_zero, List.drop_succ_cons, List.drop_zero, List.drop_nil, List.take_nil, List.nil_append, List.cons_append, List.append_nil, List.contains_cons, List.contains_nil, Bool.or_false, Bool.false_or, Bool.or_true, Bool.true_or, Bool.and_true, Bool.true_and, Bool.and_false, Bool.false_and, Bool.not_true, Bool.not_false, Bool.not_not, List.map_cons, List.map_nil, ite_not, not_true_eq_false, not_false_eq_true, Nat.zero_add, Nat.add_zero, chkL]
      | cons x suf =>
        have hx : x ∈ args := by rw [hl]; simp
        have e1 := ih x hx (hok.arg x hx) (IntKind.i64.wrap (d + 1)) A
        have e2 := ih2 x suf rfl
        rw [hl] at e2
        simp only [List.length_append, List.length_cons] at e2
        simp (maxSteps := 1000000) +contextual only [go_sem, acondK_bool, acB_merge, Nat.reduceLT, Nat.reduceLeDiff, Nat.reduceEqDiff, Nat.reduceAdd, Nat.reduceSub, Nat.reduceMul, Nat.reduceBEq, Nat.reduceBNe, Nat.reduceBneDiff, Nat.reduceBeqDiff, Int.reduceToNat, Int.reduceLE, Int.reduceLT, Int.reduceEq, Int.reduceNe, Int.reduceNeg, Int.reduceAdd, Int.reduceSub, ↓reduceIte, reduceCtorEq, List.getElem?_toArray, List.getElem?_cons_zero, List.getElem?_cons_succ, List.length_cons, List.length_nil, List.take_succ_cons, List.take_zero, List.drop_succ_cons, List.drop_zero, List.drop_nil, List.take_nil, List.nil_append, List.cons_append, List.append_nil, List.contains_cons, List.contains_nil, Bool.or_false, Bool.false_or, Bool.or_true, Bool.true_or, Bool.and_true, Bool.true_and, Bool.and_false, Bool.false_and, Bool.not_true, Bool.not_false, Bool.not_not, List.map_cons, List.map_nil, ite_not, not_true_eq_false, not_false_eq_true, Nat.zero_add, Nat.add_zero, E.row_eq, e1, e2, wrap_nat hb, chkL]
        refine leafI ?_
        simp
    · refine leafI ?_
      simp at h
      simp [chkE, h]
mutual
def cntE : E → Int → Int
  | .mk op n s args, m => cntL args (IntKind.i64.wrap (1 + IntKind.i64.wrap (Int.tdiv s.length 64))) m
def cntL : List E → Int → Int → Int
  | [], n, _ => n
  | x :: l, n, m => if n ≤ m then cntL l (IntKind.i64.wrap (n + cntE x (IntKind.i64.wrap (m - n)))) m else n
end
/-- the count behind some operands -/
def cntP : List E → Int → Int → Int
  | [], n, _ => n
  | x :: l, n, m => cntP l (IntKind.i64.wrap (n + cntE x (IntKind.i64.wrap (m - n)))) m
theorem cntP_snoc : ∀ (l : List E) (x : E) (n m : Int), cntP (l ++ [x]) n m = IntKind.i64.wrap (cntP l n m + cntE x (IntKind.i64.wrap (m - cntP l n m)))
  | [], _, _, _ => rfl
  | y :: l, x, n, m => by simp only [List.cons_append, cntP, cntP_snoc l]
theorem valid : ∀ e, E.Ok e → ∀ (d : Int) (A : AHeap), acl C 38 [E.av e, .d (.int .i64 d)] A = some (.d (.int .i64 (chkE e d)), A) := by
  intro e
  induction e using E.ind with
  | h op n s args ih =>
    intro hok d A
    rw [k_call (c := C) (f := 38) rfl Try.func38 rfl (ok 38 (by kernel_rfl)) rfl Try.ntmps38 Try.results38 (by simp)]
    simp (maxSteps := 1000000) +contextual only [go_sem, acondK_bool, acB_merge, Nat.reduceLT, Nat.reduceLeDiff, Nat.reduceEqDiff, Nat.reduceAdd, Nat.reduceSub, Nat.reduceMul, Nat.reduceBEq, Nat.reduceBNe, Nat.reduceBneDiff, Nat.reduceBeqDiff, Int.reduceToNat, Int.reduceLE, Int.reduceLT, Int.reduceEq, Int.reduceNe, Int.reduceNeg, Int.reduceAdd, Int.reduceSub, ↓reduceIte, reduceCtorEq, List.getElem?_toArray, List.getElem?_cons_zero, List.getElem?_cons_succ, List.length_cons, List.length_nil, List.take_succ_cons, List.take_zero, List.drop_succ_cons, List.drop_zero, List.drop_nil, List.take_nil, List.nil_append, List.cons_append, List.append_nil, List.contains_cons, List.contains_nil, Bool.or_false, Bool.false_or, Bool.or_true, Bool.true_or, Bool.and_true, Bool.true_and, Bool.and_false, Bool.false_and, Bool.not_true, Bool.not_false, Bool.not_not, List.map_cons, List.map_nil, ite_not, not_true_eq_false, not_false_eq_true, Nat.zero_add, Nat.add_zero, hok.s]
    refine way (fun h => ?_) (fun h => ?_)
    · refine loop_list (fun i => [(2, .box [.d (.int .i64 op), .d (.int .i64 n), .d (.str s), .d (.slice (args.map E.row))]), (1, .v (.d (.int .i64 d))), (6, .v (.d (.int .i64 (i : Int))))])
        (fun pre suf => some (.d (.int .i64 (chkL suf (IntKind.i64.wrap (d + 1)))), A)) args rfl (by simp at h; simp [chkE, h]) ?_
      intro pre suf hl ih2
      have hb : pre.length < 9223372036854775807 := by have := hok.len; rw [hl] at this; simp at this; omega
      rw [hl]
      cases suf with
      | nil => simp (maxSteps := 1000000) +contextual only [go_sem, acondK_bool, acB_merge, Nat.reduceLT, Nat.reduceLeDiff, Nat.reduceEqDiff, Nat.reduceAdd, Nat.reduceSub, Nat.reduceMul, Nat.reduceBEq, Nat.reduceBNe, Nat.reduceBneDiff, Nat.reduceBeqDiff, Int.reduceToNat, Int.reduceLE, Int.reduceLT, Int.reduceEq, Int.reduceNe, Int.reduceNeg, Int.reduceAdd, Int.reduceSub, ↓reduceIte, reduceCtorEq, List.getElem?_toArray, List.getElem?_cons_zero, List.getElem?_cons_succ, List.length_cons, List.length_nil, List.take_succ_cons, List.take_zero, List.drop_succ_cons, List.drop_zero, List.drop_nil, List.take_nil, List.nil_append, List.cons_append, List.append_nil, List.contains_cons, List.contains_nil, Bool.or_false, Bool.false_or, Bool.or_true, Bool.true_or, Bool.and_true, Bool.true_and, Bool.and_false, Bool.false_and, Bool.not_true, Bool.not_false, Bool.not_not, List.map_cons, List.map_nil, ite_not, not_true_eq_false, not_false_eq_true, Nat.zero_add, Nat.add_zero, chkL]
      | cons x suf =>
        have hx : x ∈ args := by rw [hl]; simp
        have e1 := ih x hx (hok.arg x hx) (IntKind.i64.wrap (d + 1)) A
        have e2 := ih2 x suf rfl
        rw [hl] at e2
        simp (maxSteps := 1000000) +contextual only [go_sem, acondK_bool, acB_merge, Nat.reduceLT, Nat.reduceLeDiff, Nat.reduceEqDiff, Nat.reduceAdd, Nat.reduceSub, Nat.reduceMul, Nat.reduceBEq, Nat.reduceBNe, Nat.reduceBneDiff, Nat.reduceBeqDiff, Int.reduceToNat, Int.reduceLE, Int.reduceLT, Int.reduceEq, Int.reduceNe, Int.reduceNeg, Int.reduceAdd, Int.reduceSub, ↓reduceIte, reduceCtorEq, List.getElem?_toArray, List.getElem?_cons_zero, List.getElem?_cons_succ, List.length_cons, List.length_nil, List.take_succ_cons, List.take_zero, List.drop_succ_cons, List.drop_zero, List.drop_nil, List.take_nil, List.nil_append, List.cons_append, List.append_nil, List.contains_cons, List.contains_nil, Bool.or_false, Bool.false_or, Bool.or_true, Bool.true_or, Bool.and_true, Bool.true_and, Bool.and_false, Bool.false_and, Bool.not_true, Bool.not_false, Bool.not_not, List.map_cons, List.map_nil, ite_not, not_true_eq_false, not_false_eq_true, Nat.zero_add, Nat.add_zero, E.row_eq, e1, e2, wrap_nat hb, chkL]
        refine leafI ?_
        simp
    · refine leafI ?_
      simp at h
      simp [chkE, h]
theorem count : ∀ e, E.Ok e → ∀ (m : Int) (A : AHeap), acl C 36 [E.av e, .d (.int .i64 m)] A = some (.d (.int .i64 (cntE e m)), A) := by
  intro e
  induction e using E.ind with
  | h op n s args ih =>
    intro hok m A
    rw [k_call (c := C) (f := 36) rfl Try.func36 rfl (ok 36 (by kernel_rfl)) rfl Try.ntmps36 Try.results36 (by simp)]
    simp (maxSteps := 1000000) +contextual only [go_sem, acondK_bool, acB_merge, Nat.reduceLT, Nat.reduceLeDiff, Nat.reduceEqDiff, Nat.reduceAdd, Nat.reduceSub, Nat.reduceMul, Nat.reduceBEq, Nat.reduceBNe, Nat.reduceBneDiff, Nat.reduceBeqDiff, Int.reduceToNat, Int.reduceLE, Int.reduceLT, Int.reduceEq, Int.reduceNe, Int.reduceNeg, Int.reduceAdd, Int.reduceSub, ↓reduceIte, reduceCtorEq, List.getElem?_toArray, List.getElem?_cons_zero, List.getElem?_cons_succ, List.length_cons, List.length_nil, List.take_succ_cons, List.take_zero, List.drop_succ_cons, List.drop_zero, List.drop_nil, List.take_nil, List.nil_append, List.cons_append, List.append_nil, List.contains_cons, List.contains_nil, Bool.or_false, Bool.false_or, Bool.or_true, Bool.true_or, Bool.and_true, Bool.true_and, Bool.and_false, Bool.false_and, Bool.not_true, Bool.not_false, Bool.not_not, List.map_cons, List.map_nil, ite_not, not_true_eq_false, not_false_eq_true, Nat.zero_add, Nat.add_zero, hok.s]
    refine loop_any (fun pre => [(5, .v (.d (.int .i64 (cntP pre (IntKind.i64.wrap (1 + IntKind.i64.wrap (Int.tdiv s.length 64))) m)))), (6, .v (.d (.int .i64 (pre.length : Int)))), (1, .v (.d (.int .i64 m))), (2, .box [.d (.int .i64 op), .d (.int .i64 n), .d (.str s), .d (.slice (args.map E.row))])])
      (fun _ => A)
      (fun pre suf => some (.d (.int .i64 (cntL suf (cntP pre (IntKind.i64.wrap (1 + IntKind.i64.wrap (Int.tdiv s.length 64))) m) m)), A)) args rfl rfl (by simp [cntE, cntP]) ?_
    intro pre suf hl ih2
    have hb : pre.length < 9223372036854775807 := by have := hok.len; rw [hl] at this; simp at this; omega
    generalize hn : cntP pre (IntKind.i64.wrap (1 + IntKind.i64.wrap (Int.tdiv s.length 64))) m = k
    rw [hl]
    cases suf with
    | nil => simp (maxSteps := 1000000) +contextual only [go_sem, acondK_bool, acB_merge, Nat.reduceLT, Nat.reduceLeDiff, Nat.reduceEqDiff, Nat.reduceAdd, Nat.reduceSub, Nat.reduceMul, Nat.reduceBEq, Nat.reduceBNe, Nat.reduceBneDiff, Nat.reduceBeqDiff, Int.reduceToNat, Int.reduceLE, Int.reduceLT, Int.reduceEq, Int.reduceNe, Int.reduceNeg, Int.reduceAdd, Int.reduceSub, ↓reduceIte, reduceCtorEq, List.getElem?_toArray, List.getElem?_cons_zero, List.getElem?_cons_succ, List.length_cons, List.length_nil, List.take_succ_cons, List.take_zero, List.drop_succ_cons, List.drop_zero, List.drop_nil, List.take_nil, List.nil_append, List.cons_append, List.append_nil, List.contains_cons, List.contains_nil, Bool.or_false, Bool.false_or, Bool.or_true, Bool.true_or, Bool.and_true, Bool.true_and, Bool.and_false, Bool.false_and, Bool.not_true, Bool.not_false, Bool.not_not, List.map_cons, List.map_nil, ite_not, not_true_eq_false, not_false_eq_true, Nat.zero_add, Nat.add_zero, cntL]
    | cons x suf =>
      have hx : x ∈ args := by rw [hl]; simp
      have e1 := ih x hx (hok.arg x hx) (IntKind.i64.wrap (m - k)) A
      have e2 := ih2 x suf rfl
      rw [cntP_snoc, hn, hl, List.length_append, List.length_cons, List.length_nil] at e2
      simp (maxSteps := 1000000) +contextual only [go_sem, acondK_bool, acB_merge, Nat.reduceLT, Nat.reduceLeDiff, Nat.reduceEqDiff, Nat.reduceAdd, Nat.reduceSub, Nat.reduceMul, Nat.reduceBEq, Nat.reduceBNe, Nat.reduceBneDiff, Nat.reduceBeqDiff, Int.reduceToNat, Int.reduceLE, Int.reduceLT, Int.reduceEq, Int.reduceNe, Int.reduceNeg, Int.reduceAdd, Int.reduceSub, ↓reduceIte, reduceCtorEq, List.getElem?_toArray, List.getElem?_cons_zero, List.getElem?_cons_succ, List.length_cons, List.length_nil, List.take_succ_cons, List.take_zero, List.drop_succ_cons, List.drop_zero, List.drop_nil, List.take_nil, List.nil_append, List.cons_append, List.append_nil, List.contains_cons, List.contains_nil, Bool.or_false, Bool.false_or, Bool.or_true, Bool.true_or, Bool.and_true, Bool.true_and, Bool.and_false, Bool.false_and, Bool.not_true, Bool.not_false, Bool.not_not, List.map_cons, List.map_nil, ite_not, not_true_eq_false, not_false_eq_true, Nat.zero_add, Nat.add_zero, E.row_eq, e1, e2, wrap_nat hb, cntL]
      refine leafI ?_
      simp
end Go.Proofs.Ytfoibmfocmjmdaa
