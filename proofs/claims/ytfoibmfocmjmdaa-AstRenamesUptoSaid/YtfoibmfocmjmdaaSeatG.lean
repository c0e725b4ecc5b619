/- Renaming a variable in expressions and statements, on both sides. -/
import Derived.Test.YtfoibmfocmjmdaaSeatE
set_option linter.unusedVariables false
set_option linter.unusedSimpArgs false
set_option linter.all false
set_option linter.deprecated false
set_option linter.all false
namespace Go.Proofs.Ytfoibmfocmjmdaa
open Go.Abs
attribute [local congr] ite_congr
set_option maxRecDepth 10000
def renN (a b s : Bytes) : Bytes := if (s == a) = true then b else s
mutual
def renE (a b : Bytes) : E → E
  | .mk op n s args => .mk op n (if decide (op = 3) = true then renN a b s else s) (renEs a b args)
def renEs (a b : Bytes) : List E → List E
  | [] => []
  | x :: l => renE a b x :: renEs a b l
end
mutual
def renS (a b : Bytes) : Stm → Stm
  | .mk op name max x y body els => .mk op (renN a b name) max (renE a b x) (renE a b y) (renSs a b body) (renSs a b els)
def renSs (a b : Bytes) : List Stm → List Stm
  | [] => []
  | x :: l => renS a b x :: renSs a b l
end
theorem renEs_map (a b : Bytes) : ∀ l, renEs a b l = l.map (renE a b)
  | [] => rfl
  | x :: l => by simp [renEs, renEs_map a b l]
theorem renSs_map (a b : Bytes) : ∀ l, renSs a b l = l.map (renS a b)
  | [] => rfl
  | x :: l => by simp [renSs, renSs_map a b l]
@[go_sem] theorem rname (a b s : Bytes) (A : AHeap) : acl C 62 [.agg [.d (.str a), .d (.str b)], .d (.str s)] A = some (.d (.str (renN a b s)), A) := by
  rw [k_call (c := C) (f := 62) rfl Try.func62 rfl (ok 62 (by kernel_rfl)) rfl Try.ntmps62 Try.results62 (by simp)]
  cases h : (s == a) with
  | false => simp (maxSteps := 1000000) +contextual only [go_sem, acondK_bool, acB_merge, Nat.reduceLT, Nat.reduceLeDiff, Nat.reduceEqDiff, Nat.reduceAdd, Nat.reduceSub, Nat.reduceMul, Nat.reduceBEq, Nat.reduceBNe, Nat.reduceBneDiff, Nat.reduceBeqDiff, Int.reduceToNat, Int.reduceLE, Int.reduceLT, Int.reduceEq, Int.reduceNe, Int.reduceNeg, Int.reduceAdd, Int.reduceSub, ↓reduceIte, reduceCtorEq, List.getElem?_toArray, List.getElem?_cons_zero, List.getElem?_cons_succ, List.length_cons, List.length_nil, List.take_succ_cons, List.take_zero, List.drop_succ_cons, List.drop_zero, List.drop_nil, List.take_nil, List.nil_append, List.cons_append, List.append_nil, List.contains_cons, List.contains_nil, Bool.or_false, Bool.false_or, Bool.or_true, Bool.true_or, Bool.and_true, Bool.true_and, Bool.and_false, Bool.false_and, Bool.not_true, Bool.not_false, Bool.not_not, Option.isSome_some, Option.isSome_none, List.map_cons, List.map_nil, ite_not, not_true_eq_false, not_false_eq_true, Nat.zero_add, Nat.add_zero, h, renN]
  | true => simp (maxSteps := 1000000) +contextual only [go_sem, acondK_bool, acB_merge, Nat.reduceLT, Nat.reduceLeDiff, Nat.reduceEqDiff, Nat.reduceAdd, Nat.reduceSub, Nat.reduceMul, Nat.reduceBEq, Nat.reduceBNe, Nat.reduceBneDiff, Nat.reduceBeqDiff, Int.reduceToNat, Int.reduceLE, Int.reduceLT, Int.reduceEq, Int.reduceNe, Int.reduceNeg, Int.reduceAdd, Int.reduceSub, ↓reduceIte, reduceCtorEq, List.getElem?_toArray, List.getElem?_cons_zero, List.getElem?_cons_succ, List.length_cons, List.length_nil, List.take_succ_cons, List.take_zero, List.drop_succ_cons, List.drop_zero, List.drop_nil, List.take_nil, List.nil_append, List.cons_append, List.append_nil, List.contains_cons, List.contains_nil, Bool.or_false, Bool.false_or, Bool.or_true, Bool.true_or, Bool.and_true, Bool.true_and, Bool.and_false, Bool.false_and, Bool.not_true, Bool.not_false, Bool.not_not, Option.isSome_some, Option.isSome_none, List.map_cons, List.map_nil, ite_not, not_true_eq_false, not_false_eq_true, Nat.zero_add, Nat.add_zero, h, renN]
@[go_sem] theorem swapR (a b s : Bytes) (A : AHeap) : acl C 64 [.d (.str s), .d (.str a), .d (.str b)] A = some (.d (.str (renN a b s)), A) := by
  rw [k_call (c := C) (f := 64) rfl Try.func64 rfl (ok 64 (by kernel_rfl)) rfl Try.ntmps64 Try.results64 (by simp)]
  cases h : (s == a) with
  | false => simp (maxSteps := 1000000) +contextual only [go_sem, acondK_bool, acB_merge, Nat.reduceLT, Nat.reduceLeDiff, Nat.reduceEqDiff, Nat.reduceAdd, Nat.reduceSub, Nat.reduceMul, Nat.reduceBEq, Nat.reduceBNe, Nat.reduceBneDiff, Nat.reduceBeqDiff, Int.reduceToNat, Int.reduceLE, Int.reduceLT, Int.reduceEq, Int.reduceNe, Int.reduceNeg, Int.reduceAdd, Int.reduceSub, ↓reduceIte, reduceCtorEq, List.getElem?_toArray, List.getElem?_cons_zero, List.getElem?_cons_succ, List.length_cons, List.length_nil, List.take_succ_cons, List.take_zero, List.drop_succ_cons, List.drop_zero, List.drop_nil, List.take_nil, List.nil_append, List.cons_append, List.append_nil, List.contains_cons, List.contains_nil, Bool.or_false, Bool.false_or, Bool.or_true, Bool.true_or, Bool.and_true, Bool.true_and, Bool.and_false, Bool.false_and, Bool.not_true, Bool.not_false, Bool.not_not, Option.isSome_some, Option.isSome_none, List.map_cons, List.map_nil, ite_not, not_true_eq_false, not_false_eq_true, Nat.zero_add, Nat.add_zero, h, renN]
  | true => simp (maxSteps := 1000000) +contextual only [go_sem, acondK_bool, acB_merge, Nat.reduceLT, Nat.reduceLeDiff, Nat.reduceEqDiff, Nat.reduceAdd, Nat.reduceSub, Nat.reduceMul, Nat.reduceBEq, Nat.reduceBNe, Nat.reduceBneDiff, Nat.reduceBeqDiff, Int.reduceToNat, Int.reduceLE, Int.reduceLT, Int.reduceEq, Int.reduceNe, Int.reduceNeg, Int.reduceAdd, Int.reduceSub, ↓reduceIte, reduceCtorEq, List.getElem?_toArray, List.getElem?_cons_zero, List.getElem?_cons_succ, List.length_cons, List.length_nil, List.take_succ_cons, List.take_zero, List.drop_succ_cons, List.drop_zero, List.drop_nil, List.take_nil, List.nil_append, List.cons_append, List.append_nil, List.contains_cons, List.contains_nil, Bool.or_false, Bool.false_or, Bool.or_true, Bool.true_or, Bool.and_true, Bool.true_and, Bool.and_false, Bool.false_and, Bool.not_true, Bool.not_false, Bool.not_not, Option.isSome_some, Option.isSome_none, List.map_cons, List.map_nil, ite_not, not_true_eq_false, not_false_eq_true, Nat.zero_add, Nat.add_zero, h, renN]
theorem rexpr (a b : Bytes) : ∀ e, E.Ok e → ∀ (A : AHeap), acl C 87 [.agg [.d (.str a), .d (.str b)], E.av e] A = some (E.av (renE a b e), A) := by
  intro e
  induction e using E.ind with
  | h op n s args ih =>
    intro hok A
    have hlen := hok.fit
    rw [k_call (c := C) (f := 87) rfl Try.func87 rfl (ok 87 (by kernel_rfl)) rfl Try.ntmps87 Try.results87 (by simp)]
    have fin : E.av (renE a b (.mk op n s args)) = .agg [.d (.int .i64 op), .d (.int .i64 n), .d (.str (if decide (op = 3) = true then renN a b s else s)), .d (.slice ((args.map (renE a b)).map E.row))] := by
      simp only [renE, renEs_map]
    rw [fin]
    cases h3 : decide (op = 3) with
    | false =>
      simp (maxSteps := 1000000) +contextual only [go_sem, acondK_bool, acB_merge, Nat.reduceLT, Nat.reduceLeDiff, Nat.reduceEqDiff, Nat.reduceAdd, Nat.reduceSub, Nat.reduceMul, Nat.reduceBEq, Nat.reduceBNe, Nat.reduceBneDiff, Nat.reduceBeqDiff, Int.reduceToNat, Int.reduceLE, Int.reduceLT, Int.reduceEq, Int.reduceNe, Int.reduceNeg, Int.reduceAdd, Int.reduceSub, ↓reduceIte, reduceCtorEq, List.getElem?_toArray, List.getElem?_cons_zero, List.getElem?_cons_succ, List.length_cons, List.length_nil, List.take_succ_cons, List.take_zero, List.drop_succ_cons, List.drop_zero, List.drop_nil, List.take_nil, List.nil_append, List.cons_append, List.append_nil, List.contains_cons, List.contains_nil, Bool.or_false, Bool.false_or, Bool.or_true, Bool.true_or, Bool.and_true, Bool.true_and, Bool.and_false, Bool.false_and, Bool.not_true, Bool.not_false, Bool.not_not, Option.isSome_some, Option.isSome_none, List.map_cons, List.map_nil, ite_not, not_true_eq_false, not_false_eq_true, Nat.zero_add, Nat.add_zero, h3]
      refine loop_any (fun pre => [(21, .v (.d (.int .i64 (pre.length : Nat)))), (3, .box [.d (.int .i64 op), .d (.int .i64 n), .d (.str s), (grE A (pre.map (renE a b))).1]), (2, .box [.d (.str a), .d (.str b)]), (19, .v (.d (.slice (args.map E.row)))),
          (4, .box [.d (.int .i64 0), .d (.int .i64 0), .d (.str []), .nilS]), (20, .v (.d (.int .i64 (args.length : Nat))))])
        (fun pre => (grE A (pre.map (renE a b))).2) (fun _ _ => some (.agg [.d (.int .i64 op), .d (.int .i64 n), .d (.str s), .d (.slice ((args.map (renE a b)).map E.row))], A)) args rfl rfl (by simp) ?_
      intro pre suf hl ih2
      have hb : pre.length < 9223372036854775807 := by rw [hl] at hlen; simp at hlen; omega
      cases suf with
      | nil =>
        rw [List.append_nil] at hl
        subst hl
        have hf := afin_grownE (f := 87) rfl A 27 4 ((args.map (renE a b)).map E.row) (.int .i64 op) (.int .i64 n) (.str s)
        simp (maxSteps := 1000000) +contextual only [go_sem, acondK_bool, acB_merge, Nat.reduceLT, Nat.reduceLeDiff, Nat.reduceEqDiff, Nat.reduceAdd, Nat.reduceSub, Nat.reduceMul, Nat.reduceBEq, Nat.reduceBNe, Nat.reduceBneDiff, Nat.reduceBeqDiff, Int.reduceToNat, Int.reduceLE, Int.reduceLT, Int.reduceEq, Int.reduceNe, Int.reduceNeg, Int.reduceAdd, Int.reduceSub, ↓reduceIte, reduceCtorEq, List.getElem?_toArray, List.getElem?_cons_zero, List.getElem?_cons_succ, List.length_cons, List.length_nil, List.take_succ_cons, List.take_zero, List.drop_succ_cons, List.drop_zero, List.drop_nil, List.take_nil, List.nil_append, List.cons_append, List.append_nil, List.contains_cons, List.contains_nil, Bool.or_false, Bool.false_or, Bool.or_true, Bool.true_or, Bool.and_true, Bool.true_and, Bool.and_false, Bool.false_and, Bool.not_true, Bool.not_false, Bool.not_not, Option.isSome_some, Option.isSome_none, List.map_cons, List.map_nil, ite_not, not_true_eq_false, not_false_eq_true, Nat.zero_add, Nat.add_zero, one_grow, cells_grow, hf]
      | cons x suf =>
        have hx : x ∈ args := by rw [hl]; simp
        have e1 := ih x hx (hok.arg x hx) (grE A (pre.map (renE a b))).2
        have e2 := ih2 x suf rfl
        rw [List.length_append, List.length_cons, List.length_nil, List.map_append, List.map_cons, List.map_nil] at e2
        have e3 : (args.map E.row)[pre.length]? = some (E.row x) := by rw [hl]; exact map_mid
        have e4 : decide ((pre.length : Int) < (args.length : Int)) = true := by rw [hl]; simp; omega
        have e5 := grE_append A (pre.map (renE a b)) (renE a b x) (by rw [hl] at hlen; simp at hlen ⊢; omega)
        rw [E.row_eq] at e3 e5
        simp (maxSteps := 1000000) +contextual only [go_sem, acondK_bool, acB_merge, Nat.reduceLT, Nat.reduceLeDiff, Nat.reduceEqDiff, Nat.reduceAdd, Nat.reduceSub, Nat.reduceMul, Nat.reduceBEq, Nat.reduceBNe, Nat.reduceBneDiff, Nat.reduceBeqDiff, Int.reduceToNat, Int.reduceLE, Int.reduceLT, Int.reduceEq, Int.reduceNe, Int.reduceNeg, Int.reduceAdd, Int.reduceSub, ↓reduceIte, reduceCtorEq, List.getElem?_toArray, List.getElem?_cons_zero, List.getElem?_cons_succ, List.length_cons, List.length_nil, List.take_succ_cons, List.take_zero, List.drop_succ_cons, List.drop_zero, List.drop_nil, List.take_nil, List.nil_append, List.cons_append, List.append_nil, List.contains_cons, List.contains_nil, Bool.or_false, Bool.false_or, Bool.or_true, Bool.true_or, Bool.and_true, Bool.true_and, Bool.and_false, Bool.false_and, Bool.not_true, Bool.not_false, Bool.not_not, Option.isSome_some, Option.isSome_none, List.map_cons, List.map_nil, ite_not, not_true_eq_false, not_false_eq_true, Nat.zero_add, Nat.add_zero, e3, e4, e1, e5, one_grow, cells_grow, k_drawn_t]
        refine Eq.trans (ctE_ok (by repeat (first | exact MLe.nil | apply MLe.q | apply MLe.o | apply MLe.b | apply MLe.l)) (by kernel_rfl)) ?_
        simp (maxSteps := 1000000) +contextual only [go_sem, acondK_bool, acB_merge, Nat.reduceLT, Nat.reduceLeDiff, Nat.reduceEqDiff, Nat.reduceAdd, Nat.reduceSub, Nat.reduceMul, Nat.reduceBEq, Nat.reduceBNe, Nat.reduceBneDiff, Nat.reduceBeqDiff, Int.reduceToNat, Int.reduceLE, Int.reduceLT, Int.reduceEq, Int.reduceNe, Int.reduceNeg, Int.reduceAdd, Int.reduceSub, ↓reduceIte, reduceCtorEq, List.getElem?_toArray, List.getElem?_cons_zero, List.getElem?_cons_succ, List.length_cons, List.length_nil, List.take_succ_cons, List.take_zero, List.drop_succ_cons, List.drop_zero, List.drop_nil, List.take_nil, List.nil_append, List.cons_append, List.append_nil, List.contains_cons, List.contains_nil, Bool.or_false, Bool.false_or, Bool.or_true, Bool.true_or, Bool.and_true, Bool.true_and, Bool.and_false, Bool.false_and, Bool.not_true, Bool.not_false, Bool.not_not, Option.isSome_some, Option.isSome_none, List.map_cons, List.map_nil, ite_not, not_true_eq_false, not_false_eq_true, Nat.zero_add, Nat.add_zero, e2, wrap_nat hb]
    | true =>
      simp (maxSteps := 1000000) +contextual only [go_sem, acondK_bool, acB_merge, Nat.reduceLT, Nat.reduceLeDiff, Nat.reduceEqDiff, Nat.reduceAdd, Nat.reduceSub, Nat.reduceMul, Nat.reduceBEq, Nat.reduceBNe, Nat.reduceBneDiff, Nat.reduceBeqDiff, Int.reduceToNat, Int.reduceLE, Int.reduceLT, Int.reduceEq, Int.reduceNe, Int.reduceNeg, Int.reduceAdd, Int.reduceSub, ↓reduceIte, reduceCtorEq, List.getElem?_toArray, List.getElem?_cons_zero, List.getElem?_cons_succ, List.length_cons, List.length_nil, List.take_succ_cons, List.take_zero, List.drop_succ_cons, List.drop_zero, List.drop_nil, List.take_nil, List.nil_append, List.cons_append, List.append_nil, List.contains_cons, List.contains_nil, Bool.or_false, Bool.false_or, Bool.or_true, Bool.true_or, Bool.and_true, Bool.true_and, Bool.and_false, Bool.false_and, Bool.not_true, Bool.not_false, Bool.not_not, Option.isSome_some, Option.isSome_none, List.map_cons, List.map_nil, ite_not, not_true_eq_false, not_false_eq_true, Nat.zero_add, Nat.add_zero, h3]
      refine loop_any (fun pre => [(21, .v (.d (.int .i64 (pre.length : Nat)))), (3, .box [.d (.int .i64 op), .d (.int .i64 n), .d (.str (renN a b s)), (grE A (pre.map (renE a b))).1]), (2, .box [.d (.str a), .d (.str b)]), (19, .v (.d (.slice (args.map E.row)))),
          (4, .box [.d (.int .i64 0), .d (.int .i64 0), .d (.str []), .nilS]), (20, .v (.d (.int .i64 (args.length : Nat))))])
        (fun pre => (grE A (pre.map (renE a b))).2) (fun _ _ => some (.agg [.d (.int .i64 op), .d (.int .i64 n), .d (.str (renN a b s)), .d (.slice ((args.map (renE a b)).map E.row))], A)) args rfl rfl (by simp) ?_
      intro pre suf hl ih2
      have hb : pre.length < 9223372036854775807 := by rw [hl] at hlen; simp at hlen; omega
      cases suf with
      | nil =>
        rw [List.append_nil] at hl
        subst hl
        have hf := afin_grownE (f := 87) rfl A 27 4 ((args.map (renE a b)).map E.row) (.int .i64 op) (.int .i64 n) (.str (renN a b s))
        simp (maxSteps := 1000000) +contextual only [go_sem, acondK_bool, acB_merge, Nat.reduceLT, Nat.reduceLeDiff, Nat.reduceEqDiff, Nat.reduceAdd, Nat.reduceSub, Nat.reduceMul, Nat.reduceBEq, Nat.reduceBNe, Nat.reduceBneDiff, Nat.reduceBeqDiff, Int.reduceToNat, Int.reduceLE, Int.reduceLT, Int.reduceEq, Int.reduceNe, Int.reduceNeg, Int.reduceAdd, Int.reduceSub, ↓reduceIte, reduceCtorEq, List.getElem?_toArray, List.getElem?_cons_zero, List.getElem?_cons_succ, List.length_cons, List.length_nil, List.take_succ_cons, List.take_zero, List.drop_succ_cons, List.drop_zero, List.drop_nil, List.take_nil, List.nil_append, List.cons_append, List.append_nil, List.contains_cons, List.contains_nil, Bool.or_false, Bool.false_or, Bool.or_true, Bool.true_or, Bool.and_true, Bool.true_and, Bool.and_false, Bool.false_and, Bool.not_true, Bool.not_false, Bool.not_not, Option.isSome_some, Option.isSome_none, List.map_cons, List.map_nil, ite_not, not_true_eq_false, not_false_eq_true, Nat.zero_add, Nat.add_zero, one_grow, cells_grow, hf]
      | cons x suf =>
        have hx : x ∈ args := by rw [hl]; simp
        have e1 := ih x hx (hok.arg x hx) (grE A (pre.map (renE a b))).2
        have e2 := ih2 x suf rfl
        rw [List.length_append, List.length_cons, List.length_nil, List.map_append, List.map_cons, List.map_nil] at e2
        have e3 : (args.map E.row)[pre.length]? = some (E.row x) := by rw [hl]; exact map_mid
        have e4 : decide ((pre.length : Int) < (args.length : Int)) = true := by rw [hl]; simp; omega
        have e5 := grE_append A (pre.map (renE a b)) (renE a b x) (by rw [hl] at hlen; simp at hlen ⊢; omega)
        rw [E.row_eq] at e3 e5
        simp (maxSteps := 1000000) +contextual only [go_sem, acondK_bool, acB_merge, Nat.reduceLT, Nat.reduceLeDiff, Nat.reduceEqDiff, Nat.reduceAdd, Nat.reduceSub, Nat.reduceMul, Nat.reduceBEq, Nat.reduceBNe, Nat.reduceBneDiff, Nat.reduceBeqDiff, Int.reduceToNat, Int.reduceLE, Int.reduceLT, Int.reduceEq, Int.reduceNe, Int.reduceNeg, Int.reduceAdd, Int.reduceSub, ↓reduceIte, reduceCtorEq, List.getElem?_toArray, List.getElem?_cons_zero, List.getElem?_cons_succ, List.length_cons, List.length_nil, List.take_succ_cons, List.take_zero, List.drop_succ_cons, List.drop_zero, List.drop_nil, List.take_nil, List.nil_append, List.cons_append, List.append_nil, List.contains_cons, List.contains_nil, Bool.or_false, Bool.false_or, Bool.or_true, Bool.true_or, Bool.and_true, Bool.true_and, Bool.and_false, Bool.false_and, Bool.not_true, Bool.not_false, Bool.not_not, Option.isSome_some, Option.isSome_none, List.map_cons, List.map_nil, ite_not, not_true_eq_false, not_false_eq_true, Nat.zero_add, Nat.add_zero, e3, e4, e1, e5, one_grow, cells_grow, k_drawn_t]
        refine Eq.trans (ctE_ok (by repeat (first | exact MLe.nil | apply MLe.q | apply MLe.o | apply MLe.b | apply MLe.l)) (by kernel_rfl)) ?_
        simp (maxSteps := 1000000) +contextual only [go_sem, acondK_bool, acB_merge, Nat.reduceLT, Nat.reduceLeDiff, Nat.reduceEqDiff, Nat.reduceAdd, Nat.reduceSub, Nat.reduceMul, Nat.reduceBEq, Nat.reduceBNe, Nat.reduceBneDiff, Nat.reduceBeqDiff, Int.reduceToNat, Int.reduceLE, Int.reduceLT, Int.reduceEq, Int.reduceNe, Int.reduceNeg, Int.reduceAdd, Int.reduceSub, ↓reduceIte, reduceCtorEq, List.getElem?_toArray, List.getElem?_cons_zero, List.getElem?_cons_succ, List.length_cons, List.length_nil, List.take_succ_cons, List.take_zero, List.drop_succ_cons, List.drop_zero, List.drop_nil, List.take_nil, List.nil_append, List.cons_append, List.append_nil, List.contains_cons, List.contains_nil, Bool.or_false, Bool.false_or, Bool.or_true, Bool.true_or, Bool.and_true, Bool.true_and, Bool.and_false, Bool.false_and, Bool.not_true, Bool.not_false, Bool.not_not, Option.isSome_some, Option.isSome_none, List.map_cons, List.map_nil, ite_not, not_true_eq_false, not_false_eq_true, Nat.zero_add, Nat.add_zero, e2, wrap_nat hb]
end Go.Proofs.Ytfoibmfocmjmdaa
set_option linter.all false
namespace Go.Proofs.Ytfoibmfocmjmdaa
open Go.Abs
attribute [local congr] ite_congr
set_option maxRecDepth 10000
theorem renameExprR (a b : Bytes) : ∀ e, E.Ok e → ∀ (A : AHeap), acl C 88 [E.av e, .d (.str a), .d (.str b)] A = some (E.av (renE a b e), A) := by
  intro e
  induction e using E.ind with
  | h op n s args ih =>
    intro hok A
    have hlen := hok.fit
    rw [k_call (c := C) (f := 88) rfl Try.func88 rfl (ok 88 (by kernel_rfl)) rfl Try.ntmps88 Try.results88 (by simp)]
    have fin : E.av (renE a b (.mk op n s args)) = .agg [.d (.int .i64 op), .d (.int .i64 n), .d (.str (if decide (op = 3) = true then renN a b s else s)), .d (.slice ((args.map (renE a b)).map E.row))] := by
      simp only [renE, renEs_map]
    rw [fin]
    cases h3 : decide (op = 3) with
    | false =>
      simp (maxSteps := 1000000) +contextual only [go_sem, acondK_bool, acB_merge, Nat.reduceLT, Nat.reduceLeDiff, Nat.reduceEqDiff, Nat.reduceAdd, Nat.reduceSub, Nat.reduceMul, Nat.reduceBEq, Nat.reduceBNe, Nat.reduceBneDiff, Nat.reduceBeqDiff, Int.reduceToNat, Int.reduceLE, Int.reduceLT, Int.reduceEq, Int.reduceNe, Int.reduceNeg, Int.reduceAdd, Int.reduceSub, ↓reduceIte, reduceCtorEq, List.getElem?_toArray, List.getElem?_cons_zero, List.getElem?_cons_succ, List.length_cons, List.length_nil, List.take_succ_cons, List.take_zero, List.drop_succ_cons, List.drop_zero, List.drop_nil, List.take_nil, List.nil_append, List.cons_append, List.append_nil, List.contains_cons, List.contains_nil, Bool.or_false, Bool.false_or, Bool.or_true, Bool.true_or, Bool.and_true, Bool.true_and, Bool.and_false, Bool.false_and, Bool.not_true, Bool.not_false, Bool.not_not, Option.isSome_some, Option.isSome_none, List.map_cons, List.map_nil, ite_not, not_true_eq_false, not_false_eq_true, Nat.zero_add, Nat.add_zero, h3]
      refine loop_any (fun pre => [(8, .v (.d (.int .i64 (pre.length : Nat)))), (7, .box [.d (.int .i64 op), .d (.int .i64 n), .d (.str s), (grE A (pre.map (renE a b))).1]), (2, .v (.d (.str b))), (1, .v (.d (.str a))), (3, .box [.d (.int .i64 op), .d (.int .i64 n), .d (.str s), .d (.slice (args.map E.row))]),
          (6, .box [.d (.int .i64 0), .d (.int .i64 0), .d (.str []), .nilS])])
        (fun pre => (grE A (pre.map (renE a b))).2) (fun _ _ => some (.agg [.d (.int .i64 op), .d (.int .i64 n), .d (.str s), .d (.slice ((args.map (renE a b)).map E.row))], A)) args rfl rfl (by simp) ?_
      intro pre suf hl ih2
      have hb : pre.length < 9223372036854775807 := by rw [hl] at hlen; simp at hlen; omega
      cases suf with
      | nil =>
        rw [List.append_nil] at hl
        subst hl
        have hf := afin_grownE (f := 88) rfl A 27 4 ((args.map (renE a b)).map E.row) (.int .i64 op) (.int .i64 n) (.str s)
        simp (maxSteps := 1000000) +contextual only [go_sem, acondK_bool, acB_merge, Nat.reduceLT, Nat.reduceLeDiff, Nat.reduceEqDiff, Nat.reduceAdd, Nat.reduceSub, Nat.reduceMul, Nat.reduceBEq, Nat.reduceBNe, Nat.reduceBneDiff, Nat.reduceBeqDiff, Int.reduceToNat, Int.reduceLE, Int.reduceLT, Int.reduceEq, Int.reduceNe, Int.reduceNeg, Int.reduceAdd, Int.reduceSub, ↓reduceIte, reduceCtorEq, List.getElem?_toArray, List.getElem?_cons_zero, List.getElem?_cons_succ, List.length_cons, List.length_nil, List.take_succ_cons, List.take_zero, List.drop_succ_cons, List.drop_zero, List.drop_nil, List.take_nil, List.nil_append, List.cons_append, List.append_nil, List.contains_cons, List.contains_nil, Bool.or_false, Bool.false_or, Bool.or_true, Bool.true_or, Bool.and_true, Bool.true_and, Bool.and_false, Bool.false_and, Bool.not_true, Bool.not_false, Bool.not_not, Option.isSome_some, Option.isSome_none, List.map_cons, List.map_nil, ite_not, not_true_eq_false, not_false_eq_true, Nat.zero_add, Nat.add_zero, one_grow, cells_grow, hf]
      | cons x suf =>
        have hx : x ∈ args := by rw [hl]; simp
        have e1 := ih x hx (hok.arg x hx) (grE A (pre.map (renE a b))).2
        have e2 := ih2 x suf rfl
        rw [List.length_append, List.length_cons, List.length_nil, List.map_append, List.map_cons, List.map_nil] at e2
        have e3 : (args.map E.row)[pre.length]? = some (E.row x) := by rw [hl]; exact map_mid
        have e4 : decide ((pre.length : Int) < (args.length : Int)) = true := by rw [hl]; simp; omega
        have e5 := grE_append A (pre.map (renE a b)) (renE a b x) (by rw [hl] at hlen; simp at hlen ⊢; omega)
        rw [E.row_eq] at e3 e5
        simp (maxSteps := 1000000) +contextual only [go_sem, acondK_bool, acB_merge, Nat.reduceLT, Nat.reduceLeDiff, Nat.reduceEqDiff, Nat.reduceAdd, Nat.reduceSub, Nat.reduceMul, Nat.reduceBEq, Nat.reduceBNe, Nat.reduceBneDiff, Nat.reduceBeqDiff, Int.reduceToNat, Int.reduceLE, Int.reduceLT, Int.reduceEq, Int.reduceNe, Int.reduceNeg, Int.reduceAdd, Int.reduceSub, ↓reduceIte, reduceCtorEq, List.getElem?_toArray, List.getElem?_cons_zero, List.getElem?_cons_succ, List.length_cons, List.length_nil, List.take_succ_cons, List.take_zero, List.drop_succ_cons, List.drop_zero, List.drop_nil, List.take_nil, List.nil_append, List.cons_append, List.append_nil, List.contains_cons, List.contains_nil, Bool.or_false, Bool.false_or, Bool.or_true, Bool.true_or, Bool.and_true, Bool.true_and, Bool.and_false, Bool.false_and, Bool.not_true, Bool.not_false, Bool.not_not, Option.isSome_some, Option.isSome_none, List.map_cons, List.map_nil, ite_not, not_true_eq_false, not_false_eq_true, Nat.zero_add, Nat.add_zero, e3, e4, e1, e5, one_grow, cells_grow, k_drawn_t]
        refine Eq.trans (ctE_ok (by repeat (first | exact MLe.nil | apply MLe.q | apply MLe.o | apply MLe.b | apply MLe.l)) (by kernel_rfl)) ?_
        simp (maxSteps := 1000000) +contextual only [go_sem, acondK_bool, acB_merge, Nat.reduceLT, Nat.reduceLeDiff, Nat.reduceEqDiff, Nat.reduceAdd, Nat.reduceSub, Nat.reduceMul, Nat.reduceBEq, Nat.reduceBNe, Nat.reduceBneDiff, Nat.reduceBeqDiff, Int.reduceToNat, Int.reduceLE, Int.reduceLT, Int.reduceEq, Int.reduceNe, Int.reduceNeg, Int.reduceAdd, Int.reduceSub, ↓reduceIte, reduceCtorEq, List.getElem?_toArray, List.getElem?_cons_zero, List.getElem?_cons_succ, List.length_cons, List.length_nil, List.take_succ_cons, List.take_zero, List.drop_succ_cons, List.drop_zero, List.drop_nil, List.take_nil, List.nil_append, List.cons_append, List.append_nil, List.contains_cons, List.contains_nil, Bool.or_false, Bool.false_or, Bool.or_true, Bool.true_or, Bool.and_true, Bool.true_and, Bool.and_false, Bool.false_and, Bool.not_true, Bool.not_false, Bool.not_not, Option.isSome_some, Option.isSome_none, List.map_cons, List.map_nil, ite_not, not_true_eq_false, not_false_eq_true, Nat.zero_add, Nat.add_zero, e2, wrap_nat hb]
    | true =>
      simp (maxSteps := 1000000) +contextual only [go_sem, acondK_bool, acB_merge, Nat.reduceLT, Nat.reduceLeDiff, Nat.reduceEqDiff, Nat.reduceAdd, Nat.reduceSub, Nat.reduceMul, Nat.reduceBEq, Nat.reduceBNe, Nat.reduceBneDiff, Nat.reduceBeqDiff, Int.reduceToNat, Int.reduceLE, Int.reduceLT, Int.reduceEq, Int.reduceNe, Int.reduceNeg, Int.reduceAdd, Int.reduceSub, ↓reduceIte, reduceCtorEq, List.getElem?_toArray, List.getElem?_cons_zero, List.getElem?_cons_succ, List.length_cons, List.length_nil, List.take_succ_cons, List.take_zero, List.drop_succ_cons, List.drop_zero, List.drop_nil, List.take_nil, List.nil_append, List.cons_append, List.append_nil, List.contains_cons, List.contains_nil, Bool.or_false, Bool.false_or, Bool.or_true, Bool.true_or, Bool.and_true, Bool.true_and, Bool.and_false, Bool.false_and, Bool.not_true, Bool.not_false, Bool.not_not, Option.isSome_some, Option.isSome_none, List.map_cons, List.map_nil, ite_not, not_true_eq_false, not_false_eq_true, Nat.zero_add, Nat.add_zero, h3]
      refine loop_any (fun pre => [(8, .v (.d (.int .i64 (pre.length : Nat)))), (7, .box [.d (.int .i64 op), .d (.int .i64 n), .d (.str (renN a b s)), (grE A (pre.map (renE a b))).1]), (2, .v (.d (.str b))), (1, .v (.d (.str a))), (3, .box [.d (.int .i64 op), .d (.int .i64 n), .d (.str s), .d (.slice (args.map E.row))]),
          (6, .box [.d (.int .i64 0), .d (.int .i64 0), .d (.str []), .nilS])])
        (fun pre => (grE A (pre.map (renE a b))).2) (fun _ _ => some (.agg [.d (.int .i64 op), .d (.int .i64 n), .d (.str (renN a b s)), .d (.slice ((args.map (renE a b)).map E.row))], A)) args rfl rfl (by simp) ?_
      intro pre suf hl ih2
      have hb : pre.length < 9223372036854775807 := by rw [hl] at hlen; simp at hlen; omega
      cases suf with
      | nil =>
        rw [List.append_nil] at hl
        subst hl
        have hf := afin_grownE (f := 88) rfl A 27 4 ((args.map (renE a b)).map E.row) (.int .i64 op) (.int .i64 n) (.str (renN a b s))
        simp (maxSteps := 1000000) +contextual only [go_sem, acondK_bool, acB_merge, Nat.reduceLT, Nat.reduceLeDiff, Nat.reduceEqDiff, Nat.reduceAdd, Nat.reduceSub, Nat.reduceMul, Nat.reduceBEq, Nat.reduceBNe, Nat.reduceBneDiff, Nat.reduceBeqDiff, Int.reduceToNat, Int.reduceLE, Int.reduceLT, Int.reduceEq, Int.reduceNe, Int.reduceNeg, Int.reduceAdd, Int.reduceSub, ↓reduceIte, reduceCtorEq, List.getElem?_toArray, List.getElem?_cons_zero, List.getElem?_cons_succ, List.length_cons, List.length_nil, List.take_succ_cons, List.take_zero, List.drop_succ_cons, List.drop_zero, List.drop_nil, List.take_nil, List.nil_append, List.cons_append, List.append_nil, List.contains_cons, List.contains_nil, Bool.or_false, Bool.false_or, Bool.or_true, Bool.true_or, Bool.and_true, Bool.true_and, Bool.and_false, Bool.false_and, Bool.not_true, Bool.not_false, Bool.not_not, Option.isSome_some, Option.isSome_none, List.map_cons, List.map_nil, ite_not, not_true_eq_false, not_false_eq_true, Nat.zero_add, Nat.add_zero, one_grow, cells_grow, hf]
      | cons x suf =>
        have hx : x ∈ args := by rw [hl]; simp
        have e1 := ih x hx (hok.arg x hx) (grE A (pre.map (renE a b))).2
        have e2 := ih2 x suf rfl
        rw [List.length_append, List.length_cons, List.length_nil, List.map_append, List.map_cons, List.map_nil] at e2
        have e3 : (args.map E.row)[pre.length]? = some (E.row x) := by rw [hl]; exact map_mid
        have e4 : decide ((pre.length : Int) < (args.length : Int)) = true := by rw [hl]; simp; omega
        have e5 := grE_append A (pre.map (renE a b)) (renE a b x) (by rw [hl] at hlen; simp at hlen ⊢; omega)
        rw [E.row_eq] at e3 e5
        simp (maxSteps := 1000000) +contextual only [go_sem, acondK_bool, acB_merge, Nat.reduceLT, Nat.reduceLeDiff, Nat.reduceEqDiff, Nat.reduceAdd, Nat.reduceSub, Nat.reduceMul, Nat.reduceBEq, Nat.reduceBNe, Nat.reduceBneDiff, Nat.reduceBeqDiff, Int.reduceToNat, Int.reduceLE, Int.reduceLT, Int.reduceEq, Int.reduceNe, Int.reduceNeg, Int.reduceAdd, Int.reduceSub, ↓reduceIte, reduceCtorEq, List.getElem?_toArray, List.getElem?_cons_zero, List.getElem?_cons_succ, List.length_cons, List.length_nil, List.take_succ_cons, List.take_zero, List.drop_succ_cons, List.drop_zero, List.drop_nil, List.take_nil, List.nil_append, List.cons_append, List.append_nil, List.contains_cons, List.contains_nil, Bool.or_false, Bool.false_or, Bool.or_true, Bool.true_or, Bool.and_true, Bool.true_and, Bool.and_false, Bool.false_and, Bool.not_true, Bool.not_false, Bool.not_not, Option.isSome_some, Option.isSome_none, List.map_cons, List.map_nil, ite_not, not_true_eq_false, not_false_eq_true, Nat.zero_add, Nat.add_zero, e3, e4, e1, e5, one_grow, cells_grow, k_drawn_t]
        refine Eq.trans (ctE_ok (by repeat (first | exact MLe.nil | apply MLe.q | apply MLe.o | apply MLe.b | apply MLe.l)) (by kernel_rfl)) ?_
        simp (maxSteps := 1000000) +contextual only [go_sem, acondK_bool, acB_merge, Nat.reduceLT, Nat.reduceLeDiff, Nat.reduceEqDiff, Nat.reduceAdd, Nat.reduceSub, Nat.reduceMul, Nat.reduceBEq, Nat.reduceBNe, Nat.reduceBneDiff, Nat.reduceBeqDiff, Int.reduceToNat, Int.reduceLE, Int.reduceLT, Int.reduceEq, Int.reduceNe, Int.reduceNeg, Int.reduceAdd, Int.reduceSub, ↓reduceIte, reduceCtorEq, List.getElem?_toArray, List.getElem?_cons_zero, List.getElem?_cons_succ, List.length_cons, List.length_nil, List.take_succ_cons, List.take_zero, List.drop_succ_cons, List.drop_zero, List.drop_nil, List.take_nil, List.nil_append, List.cons_append, List.append_nil, List.contains_cons, List.contains_nil, Bool.or_false, Bool.false_or, Bool.or_true, Bool.true_or, Bool.and_true, Bool.true_and, Bool.and_false, Bool.false_and, Bool.not_true, Bool.not_false, Bool.not_not, Option.isSome_some, Option.isSome_none, List.map_cons, List.map_nil, ite_not, not_true_eq_false, not_false_eq_true, Nat.zero_add, Nat.add_zero, e2, wrap_nat hb]
noncomputable abbrev grT (A : AHeap) (l : List Stm) : AV × AHeap := agrow A 54 13 (l.map Stm.row)
theorem grT_append (A : AHeap) (l : List Stm) (x : Stm) (h : l.length ≤ 4194303) : aappend Try.prog 54 13 (grT A l).2 (grT A l).1 [x.row] = some (grT A (l ++ [x])) := by
  have := agrow_append (P := Try.prog) (A := A) (ty := 54) (sz := 13) (rows := l.map Stm.row) (src := [x.row]) room_54_13 (by rw [Stm.row_eq]; rfl) (by simp; omega)
  rw [this]
  unfold grT
  rw [List.map_append]
  rfl
theorem renN_nil {a b : Bytes} (ha : a ≠ []) : renN a b [] = [] := by
  unfold renN
  rw [if_neg]
  simp
  exact fun h => ha h
theorem stmFit {x : Stm} (h : x.Ok) : x.body.length ≤ 4194303 ∧ x.els.length ≤ 4194303 := by
  cases h; exact ⟨by assumption, by assumption⟩
theorem renS_eta (a b : Bytes) (x : Stm) : renS a b x = .mk x.op (renN a b x.name) x.max (renE a b x.a) (renE a b x.b) (renSs a b x.body) (renSs a b x.els) := by cases x; rfl
set_option maxHeartbeats 2000000 in
theorem rblock_of (a b : Bytes) (ha : a ≠ []) (l : List Stm) (hlen : l.length ≤ 4194303) (hok : ∀ x ∈ l, x.Ok)
    (ih : ∀ x ∈ l, ∀ (m : List Stm), m = x.body ∨ m = x.els → ∀ (A : AHeap), acl C 61 [.agg [.d (.str a), .d (.str b)], .d (.slice (m.map Stm.row))] A = some (.d (.slice ((renSs a b m).map Stm.row)), A))
    (A : AHeap) : acl C 61 [.agg [.d (.str a), .d (.str b)], .d (.slice (l.map Stm.row))] A = some (.d (.slice ((renSs a b l).map Stm.row)), A) := by
  rw [k_call (c := C) (f := 61) rfl Try.func61 rfl (ok 61 (by kernel_rfl)) rfl Try.ntmps61 Try.results61 (by simp)]
  simp (maxSteps := 1000000) +contextual only [go_sem, acondK_bool, acB_merge, Nat.reduceLT, Nat.reduceLeDiff, Nat.reduceEqDiff, Nat.reduceAdd, Nat.reduceSub, Nat.reduceMul, Nat.reduceBEq, Nat.reduceBNe, Nat.reduceBneDiff, Nat.reduceBeqDiff, Int.reduceToNat, Int.reduceLE, Int.reduceLT, Int.reduceEq, Int.reduceNe, Int.reduceNeg, Int.reduceAdd, Int.reduceSub, ↓reduceIte, reduceCtorEq, List.getElem?_toArray, List.getElem?_cons_zero, List.getElem?_cons_succ, List.length_cons, List.length_nil, List.take_succ_cons, List.take_zero, List.drop_succ_cons, List.drop_zero, List.drop_nil, List.take_nil, List.nil_append, List.cons_append, List.append_nil, List.contains_cons, List.contains_nil, Bool.or_false, Bool.false_or, Bool.or_true, Bool.true_or, Bool.and_true, Bool.true_and, Bool.and_false, Bool.false_and, Bool.not_true, Bool.not_false, Bool.not_not, Option.isSome_some, Option.isSome_none, List.map_cons, List.map_nil, ite_not, not_true_eq_false, not_false_eq_true, Nat.zero_add, Nat.add_zero]
  refine loop_any (fun pre => [(5, .v (grT A (pre.map (renS a b))).1), (10, .v (.d (.int .i64 (pre.length : Nat)))), (2, .box [.d (.str a), .d (.str b)]), (8, .v (.d (.slice (l.map Stm.row)))), (9, .v (.d (.int .i64 (l.length : Nat))))])
    (fun pre => (grT A (pre.map (renS a b))).2) (fun _ _ => some (.d (.slice ((renSs a b l).map Stm.row)), A)) l rfl rfl rfl ?_
  intro pre suf hl ih2
  have hb : pre.length < 9223372036854775807 := by rw [hl] at hlen; simp at hlen; omega
  cases suf with
  | nil =>
    rw [List.append_nil] at hl
    subst hl
    have hf : afinR C 61 A (grT A (l.map (renS a b))).2 (some (grT A (l.map (renS a b))).1) = some (.d (.slice ((renSs a b l).map Stm.row)), A) := by
      rw [renSs_map]
      exact afin_grown rfl
    simp (maxSteps := 1000000) +contextual only [go_sem, acondK_bool, acB_merge, Nat.reduceLT, Nat.reduceLeDiff, Nat.reduceEqDiff, Nat.reduceAdd, Nat.reduceSub, Nat.reduceMul, Nat.reduceBEq, Nat.reduceBNe, Nat.reduceBneDiff, Nat.reduceBeqDiff, Int.reduceToNat, Int.reduceLE, Int.reduceLT, Int.reduceEq, Int.reduceNe, Int.reduceNeg, Int.reduceAdd, Int.reduceSub, ↓reduceIte, reduceCtorEq, List.getElem?_toArray, List.getElem?_cons_zero, List.getElem?_cons_succ, List.length_cons, List.length_nil, List.take_succ_cons, List.take_zero, List.drop_succ_cons, List.drop_zero, List.drop_nil, List.take_nil, List.nil_append, List.cons_append, List.append_nil, List.contains_cons, List.contains_nil, Bool.or_false, Bool.false_or, Bool.or_true, Bool.true_or, Bool.and_true, Bool.true_and, Bool.and_false, Bool.false_and, Bool.not_true, Bool.not_false, Bool.not_not, Option.isSome_some, Option.isSome_none, List.map_cons, List.map_nil, ite_not, not_true_eq_false, not_false_eq_true, Nat.zero_add, Nat.add_zero, hf]
  | cons x suf =>
    have hx : x ∈ l := by rw [hl]; simp
    have hxo := hok x hx
    obtain ⟨xa, xb, xl1, xl2, xo1, xo2⟩ := stmParts hxo
    have f1 := rexpr a b x.a xa (grT A (pre.map (renS a b))).2
    have f2 := rexpr a b x.b xb (grT A (pre.map (renS a b))).2
    have f3 := ih x hx x.body (.inl rfl) (grT A (pre.map (renS a b))).2
    have f4 := ih x hx x.els (.inr rfl) (grT A (pre.map (renS a b))).2
    have e2 := ih2 x suf rfl
    rw [List.length_append, List.length_cons, List.length_nil, List.map_append, List.map_cons, List.map_nil] at e2
    have e3 : (l.map Stm.row)[pre.length]? = some (Stm.row x) := by rw [hl]; exact map_mid
    have e4 : decide ((pre.length : Int) < (l.length : Int)) = true := by rw [hl]; simp; omega
    have e5 := grT_append A (pre.map (renS a b)) (renS a b x) (by rw [hl] at hlen; simp at hlen ⊢; omega)
    rw [Stm.row_eq] at e3 e5
    rw [renS_eta] at e5 e2
    simp only [Stm.op, Stm.name, Stm.max, Stm.a, Stm.b, Stm.body, Stm.els] at e5
    cases h1 : (x.name == []) with
    | false =>
      simp (maxSteps := 1000000) only [go_sem, acondK_bool, acB_merge, Nat.reduceLT, Nat.reduceLeDiff, Nat.reduceEqDiff, Nat.reduceAdd, Nat.reduceSub, Nat.reduceMul, Nat.reduceBEq, Nat.reduceBNe, Nat.reduceBneDiff, Nat.reduceBeqDiff, Int.reduceToNat, Int.reduceLE, Int.reduceLT, Int.reduceEq, Int.reduceNe, Int.reduceNeg, Int.reduceAdd, Int.reduceSub, ↓reduceIte, reduceCtorEq, List.getElem?_toArray, List.getElem?_cons_zero, List.getElem?_cons_succ, List.length_cons, List.length_nil, List.take_succ_cons, List.take_zero, List.drop_succ_cons, List.drop_zero, List.drop_nil, List.take_nil, List.nil_append, List.cons_append, List.append_nil, List.contains_cons, List.contains_nil, Bool.or_false, Bool.false_or, Bool.or_true, Bool.true_or, Bool.and_true, Bool.true_and, Bool.and_false, Bool.false_and, Bool.not_true, Bool.not_false, Bool.not_not, Option.isSome_some, Option.isSome_none, List.map_cons, List.map_nil, ite_not, not_true_eq_false, not_false_eq_true, Nat.zero_add, Nat.add_zero, e3, e4, h1, k_drawn_t]
      simp (maxSteps := 1000000) only [go_sem, acondK_bool, acB_merge, Nat.reduceLT, Nat.reduceLeDiff, Nat.reduceEqDiff, Nat.reduceAdd, Nat.reduceSub, Nat.reduceMul, Nat.reduceBEq, Nat.reduceBNe, Nat.reduceBneDiff, Nat.reduceBeqDiff, Int.reduceToNat, Int.reduceLE, Int.reduceLT, Int.reduceEq, Int.reduceNe, Int.reduceNeg, Int.reduceAdd, Int.reduceSub, ↓reduceIte, reduceCtorEq, List.getElem?_toArray, List.getElem?_cons_zero, List.getElem?_cons_succ, List.length_cons, List.length_nil, List.take_succ_cons, List.take_zero, List.drop_succ_cons, List.drop_zero, List.drop_nil, List.take_nil, List.nil_append, List.cons_append, List.append_nil, List.contains_cons, List.contains_nil, Bool.or_false, Bool.false_or, Bool.or_true, Bool.true_or, Bool.and_true, Bool.true_and, Bool.and_false, Bool.false_and, Bool.not_true, Bool.not_false, Bool.not_not, Option.isSome_some, Option.isSome_none, List.map_cons, List.map_nil, ite_not, not_true_eq_false, not_false_eq_true, Nat.zero_add, Nat.add_zero, f1, f2, f3, f4]
      refine Eq.trans (ctE_ok (by repeat (first | exact MLe.nil | apply MLe.qq | apply MLe.q | apply MLe.o | apply MLe.b | apply MLe.l)) (by kernel_rfl)) ?_
      simp (maxSteps := 1000000) only [go_sem, acondK_bool, acB_merge, Nat.reduceLT, Nat.reduceLeDiff, Nat.reduceEqDiff, Nat.reduceAdd, Nat.reduceSub, Nat.reduceMul, Nat.reduceBEq, Nat.reduceBNe, Nat.reduceBneDiff, Nat.reduceBeqDiff, Int.reduceToNat, Int.reduceLE, Int.reduceLT, Int.reduceEq, Int.reduceNe, Int.reduceNeg, Int.reduceAdd, Int.reduceSub, ↓reduceIte, reduceCtorEq, List.getElem?_toArray, List.getElem?_cons_zero, List.getElem?_cons_succ, List.length_cons, List.length_nil, List.take_succ_cons, List.take_zero, List.drop_succ_cons, List.drop_zero, List.drop_nil, List.take_nil, List.nil_append, List.cons_append, List.append_nil, List.contains_cons, List.contains_nil, Bool.or_false, Bool.false_or, Bool.or_true, Bool.true_or, Bool.and_true, Bool.true_and, Bool.and_false, Bool.false_and, Bool.not_true, Bool.not_false, Bool.not_not, Option.isSome_some, Option.isSome_none, List.map_cons, List.map_nil, ite_not, not_true_eq_false, not_false_eq_true, Nat.zero_add, Nat.add_zero, e5, e2, wrap_nat hb]
    | true =>
      have h2 : renN a b x.name = x.name := by
        have : x.name = [] := by simpa using h1
        rw [this]
        exact renN_nil ha
      rw [h2] at e5 e2
      simp (maxSteps := 1000000) only [go_sem, acondK_bool, acB_merge, Nat.reduceLT, Nat.reduceLeDiff, Nat.reduceEqDiff, Nat.reduceAdd, Nat.reduceSub, Nat.reduceMul, Nat.reduceBEq, Nat.reduceBNe, Nat.reduceBneDiff, Nat.reduceBeqDiff, Int.reduceToNat, Int.reduceLE, Int.reduceLT, Int.reduceEq, Int.reduceNe, Int.reduceNeg, Int.reduceAdd, Int.reduceSub, ↓reduceIte, reduceCtorEq, List.getElem?_toArray, List.getElem?_cons_zero, List.getElem?_cons_succ, List.length_cons, List.length_nil, List.take_succ_cons, List.take_zero, List.drop_succ_cons, List.drop_zero, List.drop_nil, List.take_nil, List.nil_append, List.cons_append, List.append_nil, List.contains_cons, List.contains_nil, Bool.or_false, Bool.false_or, Bool.or_true, Bool.true_or, Bool.and_true, Bool.true_and, Bool.and_false, Bool.false_and, Bool.not_true, Bool.not_false, Bool.not_not, Option.isSome_some, Option.isSome_none, List.map_cons, List.map_nil, ite_not, not_true_eq_false, not_false_eq_true, Nat.zero_add, Nat.add_zero, e3, e4, h1, k_drawn_t]
      simp (maxSteps := 1000000) only [go_sem, acondK_bool, acB_merge, Nat.reduceLT, Nat.reduceLeDiff, Nat.reduceEqDiff, Nat.reduceAdd, Nat.reduceSub, Nat.reduceMul, Nat.reduceBEq, Nat.reduceBNe, Nat.reduceBneDiff, Nat.reduceBeqDiff, Int.reduceToNat, Int.reduceLE, Int.reduceLT, Int.reduceEq, Int.reduceNe, Int.reduceNeg, Int.reduceAdd, Int.reduceSub, ↓reduceIte, reduceCtorEq, List.getElem?_toArray, List.getElem?_cons_zero, List.getElem?_cons_succ, List.length_cons, List.length_nil, List.take_succ_cons, List.take_zero, List.drop_succ_cons, List.drop_zero, List.drop_nil, List.take_nil, List.nil_append, List.cons_append, List.append_nil, List.contains_cons, List.contains_nil, Bool.or_false, Bool.false_or, Bool.or_true, Bool.true_or, Bool.and_true, Bool.true_and, Bool.and_false, Bool.false_and, Bool.not_true, Bool.not_false, Bool.not_not, Option.isSome_some, Option.isSome_none, List.map_cons, List.map_nil, ite_not, not_true_eq_false, not_false_eq_true, Nat.zero_add, Nat.add_zero, f1, f2, f3, f4]
      refine Eq.trans (ctE_ok (by repeat (first | exact MLe.nil | apply MLe.qq | apply MLe.q | apply MLe.o | apply MLe.b | apply MLe.l)) (by kernel_rfl)) ?_
      simp (maxSteps := 1000000) only [go_sem, acondK_bool, acB_merge, Nat.reduceLT, Nat.reduceLeDiff, Nat.reduceEqDiff, Nat.reduceAdd, Nat.reduceSub, Nat.reduceMul, Nat.reduceBEq, Nat.reduceBNe, Nat.reduceBneDiff, Nat.reduceBeqDiff, Int.reduceToNat, Int.reduceLE, Int.reduceLT, Int.reduceEq, Int.reduceNe, Int.reduceNeg, Int.reduceAdd, Int.reduceSub, ↓reduceIte, reduceCtorEq, List.getElem?_toArray, List.getElem?_cons_zero, List.getElem?_cons_succ, List.length_cons, List.length_nil, List.take_succ_cons, List.take_zero, List.drop_succ_cons, List.drop_zero, List.drop_nil, List.take_nil, List.nil_append, List.cons_append, List.append_nil, List.contains_cons, List.contains_nil, Bool.or_false, Bool.false_or, Bool.or_true, Bool.true_or, Bool.and_true, Bool.true_and, Bool.and_false, Bool.false_and, Bool.not_true, Bool.not_false, Bool.not_not, Option.isSome_some, Option.isSome_none, List.map_cons, List.map_nil, ite_not, not_true_eq_false, not_false_eq_true, Nat.zero_add, Nat.add_zero, e5, e2, wrap_nat hb]
end Go.Proofs.Ytfoibmfocmjmdaa
set_option linter.all false
namespace Go.Proofs.Ytfoibmfocmjmdaa
open Go.Abs
attribute [local congr] ite_congr
set_option maxRecDepth 10000
theorem rblock_in (a b : Bytes) (ha : a ≠ []) : ∀ x : Stm, x.Ok → ∀ (l : List Stm), l = x.body ∨ l = x.els → ∀ (A : AHeap), acl C 61 [.agg [.d (.str a), .d (.str b)], .d (.slice (l.map Stm.row))] A = some (.d (.slice ((renSs a b l).map Stm.row)), A) := by
  intro x
  induction x using Stm.ind with
  | h op name max u v body els ihb ihe =>
    intro hok l hm A
    obtain ⟨f1, f2⟩ := stmFit hok
    rcases hm with rfl | rfl
    · exact rblock_of a b ha _ f1 (Stm.Ok.bodyOk hok) (fun y hy => ihb y hy (Stm.Ok.bodyOk hok y hy)) A
    · exact rblock_of a b ha _ f2 (Stm.Ok.elsOk hok) (fun y hy => ihe y hy (Stm.Ok.elsOk hok y hy)) A
set_option maxHeartbeats 2000000 in
theorem renameBody_of (a b : Bytes) (l : List Stm) (hlen : l.length ≤ 4194303) (hok : ∀ x ∈ l, x.Ok)
    (ih : ∀ x ∈ l, ∀ (m : List Stm), m = x.body ∨ m = x.els → ∀ (A : AHeap), acl C 63 [.d (.slice (m.map Stm.row)), .d (.str a), .d (.str b)] A = some (.d (.slice ((renSs a b m).map Stm.row)), A))
    (A : AHeap) : acl C 63 [.d (.slice (l.map Stm.row)), .d (.str a), .d (.str b)] A = some (.d (.slice ((renSs a b l).map Stm.row)), A) := by
  rw [k_call (c := C) (f := 63) rfl Try.func63 rfl (ok 63 (by kernel_rfl)) rfl Try.ntmps63 Try.results63 (by simp)]
  simp (maxSteps := 1000000) +contextual only [go_sem, acondK_bool, acB_merge, Nat.reduceLT, Nat.reduceLeDiff, Nat.reduceEqDiff, Nat.reduceAdd, Nat.reduceSub, Nat.reduceMul, Nat.reduceBEq, Nat.reduceBNe, Nat.reduceBneDiff, Nat.reduceBeqDiff, Int.reduceToNat, Int.reduceLE, Int.reduceLT, Int.reduceEq, Int.reduceNe, Int.reduceNeg, Int.reduceAdd, Int.reduceSub, ↓reduceIte, reduceCtorEq, List.getElem?_toArray, List.getElem?_cons_zero, List.getElem?_cons_succ, List.length_cons, List.length_nil, List.take_succ_cons, List.take_zero, List.drop_succ_cons, List.drop_zero, List.drop_nil, List.take_nil, List.nil_append, List.cons_append, List.append_nil, List.contains_cons, List.contains_nil, Bool.or_false, Bool.false_or, Bool.or_true, Bool.true_or, Bool.and_true, Bool.true_and, Bool.and_false, Bool.false_and, Bool.not_true, Bool.not_false, Bool.not_not, Option.isSome_some, Option.isSome_none, List.map_cons, List.map_nil, ite_not, not_true_eq_false, not_false_eq_true, Nat.zero_add, Nat.add_zero]
  refine loop_any (fun pre => [(7, .v (grT A (pre.map (renS a b))).1), (8, .v (.d (.int .i64 (pre.length : Nat)))), (2, .v (.d (.str b))), (1, .v (.d (.str a))), (0, .v (.d (.slice (l.map Stm.row))))])
    (fun pre => (grT A (pre.map (renS a b))).2) (fun _ _ => some (.d (.slice ((renSs a b l).map Stm.row)), A)) l rfl rfl rfl ?_
  intro pre suf hl ih2
  have hb : pre.length < 9223372036854775807 := by rw [hl] at hlen; simp at hlen; omega
  cases suf with
  | nil =>
    rw [List.append_nil] at hl
    subst hl
    have hf : afinR C 63 A (grT A (l.map (renS a b))).2 (some (grT A (l.map (renS a b))).1) = some (.d (.slice ((renSs a b l).map Stm.row)), A) := by
      rw [renSs_map]
      exact afin_grown rfl
    simp (maxSteps := 1000000) +contextual only [go_sem, acondK_bool, acB_merge, Nat.reduceLT, Nat.reduceLeDiff, Nat.reduceEqDiff, Nat.reduceAdd, Nat.reduceSub, Nat.reduceMul, Nat.reduceBEq, Nat.reduceBNe, Nat.reduceBneDiff, Nat.reduceBeqDiff, Int.reduceToNat, Int.reduceLE, Int.reduceLT, Int.reduceEq, Int.reduceNe, Int.reduceNeg, Int.reduceAdd, Int.reduceSub, ↓reduceIte, reduceCtorEq, List.getElem?_toArray, List.getElem?_cons_zero, List.getElem?_cons_succ, List.length_cons, List.length_nil, List.take_succ_cons, List.take_zero, List.drop_succ_cons, List.drop_zero, List.drop_nil, List.take_nil, List.nil_append, List.cons_append, List.append_nil, List.contains_cons, List.contains_nil, Bool.or_false, Bool.false_or, Bool.or_true, Bool.true_or, Bool.and_true, Bool.true_and, Bool.and_false, Bool.false_and, Bool.not_true, Bool.not_false, Bool.not_not, Option.isSome_some, Option.isSome_none, List.map_cons, List.map_nil, ite_not, not_true_eq_false, not_false_eq_true, Nat.zero_add, Nat.add_zero, hf]
  | cons x suf =>
    have hx : x ∈ l := by rw [hl]; simp
    have hxo := hok x hx
    obtain ⟨xa, xb, xl1, xl2, xo1, xo2⟩ := stmParts hxo
    have f1 := renameExprR a b x.a xa (grT A (pre.map (renS a b))).2
    have f2 := renameExprR a b x.b xb (grT A (pre.map (renS a b))).2
    have f3 := ih x hx x.body (.inl rfl) (grT A (pre.map (renS a b))).2
    have f4 := ih x hx x.els (.inr rfl) (grT A (pre.map (renS a b))).2
    have e2 := ih2 x suf rfl
    rw [List.length_append, List.length_cons, List.length_nil, List.map_append, List.map_cons, List.map_nil] at e2
    have e3 : (l.map Stm.row)[pre.length]? = some (Stm.row x) := by rw [hl]; exact map_mid
    have e4 : decide ((pre.length : Int) < (l.length : Int)) = true := by rw [hl]; simp; omega
    have e5 := grT_append A (pre.map (renS a b)) (renS a b x) (by rw [hl] at hlen; simp at hlen ⊢; omega)
    rw [Stm.row_eq] at e3 e5
    rw [renS_eta] at e5 e2
    simp only [Stm.op, Stm.name, Stm.max, Stm.a, Stm.b, Stm.body, Stm.els] at e5
    simp (maxSteps := 1000000) only [go_sem, acondK_bool, acB_merge, Nat.reduceLT, Nat.reduceLeDiff, Nat.reduceEqDiff, Nat.reduceAdd, Nat.reduceSub, Nat.reduceMul, Nat.reduceBEq, Nat.reduceBNe, Nat.reduceBneDiff, Nat.reduceBeqDiff, Int.reduceToNat, Int.reduceLE, Int.reduceLT, Int.reduceEq, Int.reduceNe, Int.reduceNeg, Int.reduceAdd, Int.reduceSub, ↓reduceIte, reduceCtorEq, List.getElem?_toArray, List.getElem?_cons_zero, List.getElem?_cons_succ, List.length_cons, List.length_nil, List.take_succ_cons, List.take_zero, List.drop_succ_cons, List.drop_zero, List.drop_nil, List.take_nil, List.nil_append, List.cons_append, List.append_nil, List.contains_cons, List.contains_nil, Bool.or_false, Bool.false_or, Bool.or_true, Bool.true_or, Bool.and_true, Bool.true_and, Bool.and_false, Bool.false_and, Bool.not_true, Bool.not_false, Bool.not_not, Option.isSome_some, Option.isSome_none, List.map_cons, List.map_nil, ite_not, not_true_eq_false, not_false_eq_true, Nat.zero_add, Nat.add_zero, e3, e4, k_drawn_t]
    simp (maxSteps := 1000000) only [go_sem, acondK_bool, acB_merge, Nat.reduceLT, Nat.reduceLeDiff, Nat.reduceEqDiff, Nat.reduceAdd, Nat.reduceSub, Nat.reduceMul, Nat.reduceBEq, Nat.reduceBNe, Nat.reduceBneDiff, Nat.reduceBeqDiff, Int.reduceToNat, Int.reduceLE, Int.reduceLT, Int.reduceEq, Int.reduceNe, Int.reduceNeg, Int.reduceAdd, Int.reduceSub, ↓reduceIte, reduceCtorEq, List.getElem?_toArray, List.getElem?_cons_zero, List.getElem?_cons_succ, List.length_cons, List.length_nil, List.take_succ_cons, List.take_zero, List.drop_succ_cons, List.drop_zero, List.drop_nil, List.take_nil, List.nil_append, List.cons_append, List.append_nil, List.contains_cons, List.contains_nil, Bool.or_false, Bool.false_or, Bool.or_true, Bool.true_or, Bool.and_true, Bool.true_and, Bool.and_false, Bool.false_and, Bool.not_true, Bool.not_false, Bool.not_not, Option.isSome_some, Option.isSome_none, List.map_cons, List.map_nil, ite_not, not_true_eq_false, not_false_eq_true, Nat.zero_add, Nat.add_zero, f1, f2, f3, f4]
    simp (maxSteps := 1000000) only [go_sem, acondK_bool, acB_merge, Nat.reduceLT, Nat.reduceLeDiff, Nat.reduceEqDiff, Nat.reduceAdd, Nat.reduceSub, Nat.reduceMul, Nat.reduceBEq, Nat.reduceBNe, Nat.reduceBneDiff, Nat.reduceBeqDiff, Int.reduceToNat, Int.reduceLE, Int.reduceLT, Int.reduceEq, Int.reduceNe, Int.reduceNeg, Int.reduceAdd, Int.reduceSub, ↓reduceIte, reduceCtorEq, List.getElem?_toArray, List.getElem?_cons_zero, List.getElem?_cons_succ, List.length_cons, List.length_nil, List.take_succ_cons, List.take_zero, List.drop_succ_cons, List.drop_zero, List.drop_nil, List.take_nil, List.nil_append, List.cons_append, List.append_nil, List.contains_cons, List.contains_nil, Bool.or_false, Bool.false_or, Bool.or_true, Bool.true_or, Bool.and_true, Bool.true_and, Bool.and_false, Bool.false_and, Bool.not_true, Bool.not_false, Bool.not_not, Option.isSome_some, Option.isSome_none, List.map_cons, List.map_nil, ite_not, not_true_eq_false, not_false_eq_true, Nat.zero_add, Nat.add_zero, e5, e2, wrap_nat hb]
theorem renameBody_in (a b : Bytes) : ∀ x : Stm, x.Ok → ∀ (l : List Stm), l = x.body ∨ l = x.els → ∀ (A : AHeap), acl C 63 [.d (.slice (l.map Stm.row)), .d (.str a), .d (.str b)] A = some (.d (.slice ((renSs a b l).map Stm.row)), A) := by
  intro x
  induction x using Stm.ind with
  | h op name max u v body els ihb ihe =>
    intro hok l hm A
    obtain ⟨f1, f2⟩ := stmFit hok
    rcases hm with rfl | rfl
    · exact renameBody_of a b _ f1 (Stm.Ok.bodyOk hok) (fun y hy => ihb y hy (Stm.Ok.bodyOk hok y hy)) A
    · exact renameBody_of a b _ f2 (Stm.Ok.elsOk hok) (fun y hy => ihe y hy (Stm.Ok.elsOk hok y hy)) A
theorem rblock (a b : Bytes) (ha : a ≠ []) (p : Pr) (hp : p.Ok) (A : AHeap) : acl C 61 [.agg [.d (.str a), .d (.str b)], .d (.slice (p.body.map Stm.row))] A = some (.d (.slice ((renSs a b p.body).map Stm.row)), A) :=
  rblock_of a b ha p.body hp.bfit hp.body (fun x hx => rblock_in a b ha x (hp.body x hx)) A
theorem renameBody (a b : Bytes) (p : Pr) (hp : p.Ok) (A : AHeap) : acl C 63 [.d (.slice (p.body.map Stm.row)), .d (.str a), .d (.str b)] A = some (.d (.slice ((renSs a b p.body).map Stm.row)), A) :=
  renameBody_of a b p.body hp.bfit hp.body (fun x hx => renameBody_in a b x (hp.body x hx)) A
/-- does a variable occur in an expression? -/
def menE (w : Bytes) : E → Bool
  | .mk op n s args => decide (op = 3) && (s == w) || menEs w args
where menEs (w : Bytes) : List E → Bool
  | [] => false
  | x :: l => menE w x || menEs w l
theorem indexFuncE (l : List E) (hl : l.length ≤ 1099511627776) (f : FuncId) (cs : List AV) (q : E → Bool) (A : AHeap) (hq : ∀ x ∈ l, acl C f (E.av x :: cs) A = some (.d (.bool (q x)), A)) :
    acl C 103 [.d (.slice (l.map E.row)), .func (.func f) [] cs] A = some (.d (.int .i64 (idxF q l 0)), A) := by
  rw [k_call (c := C) (f := 103) rfl Try.func103 rfl (ok 103 (by kernel_rfl)) rfl Try.ntmps103 Try.results103 (by simp)]
  simp (maxSteps := 1000000) +contextual only [go_sem, acondK_bool, acB_merge, Nat.reduceLT, Nat.reduceLeDiff, Nat.reduceEqDiff, Nat.reduceAdd, Nat.reduceSub, Nat.reduceMul, Nat.reduceBEq, Nat.reduceBNe, Nat.reduceBneDiff, Nat.reduceBeqDiff, Int.reduceToNat, Int.reduceLE, Int.reduceLT, Int.reduceEq, Int.reduceNe, Int.reduceNeg, Int.reduceAdd, Int.reduceSub, ↓reduceIte, reduceCtorEq, List.getElem?_toArray, List.getElem?_cons_zero, List.getElem?_cons_succ, List.length_cons, List.length_nil, List.take_succ_cons, List.take_zero, List.drop_succ_cons, List.drop_zero, List.drop_nil, List.take_nil, List.nil_append, List.cons_append, List.append_nil, List.contains_cons, List.contains_nil, Bool.or_false, Bool.false_or, Bool.or_true, Bool.true_or, Bool.and_true, Bool.true_and, Bool.and_false, Bool.false_and, Bool.not_true, Bool.not_false, Bool.not_not, Option.isSome_some, Option.isSome_none, List.map_cons, List.map_nil, ite_not, not_true_eq_false, not_false_eq_true, Nat.zero_add, Nat.add_zero]
  refine loop_list (fun i => [(7, .v (.d (.int .i64 (l.length : Nat)))), (1, .v (.func (.func f) [] cs)), (0, .v (.d (.slice (l.map E.row)))), (8, .v (.d (.int .i64 (i : Nat))))])
    (fun pre suf => some (.d (.int .i64 (idxF q suf pre.length)), A)) l rfl rfl ?_
  intro pre suf h ih
  have hb : pre.length < 9223372036854775807 := by rw [h] at hl; simp at hl; omega
  cases suf with
  | nil => rw [List.append_nil] at h; subst h; simp (maxSteps := 1000000) +contextual only [go_sem, acondK_bool, acB_merge, Nat.reduceLT, Nat.reduceLeDiff, Nat.reduceEqDiff, Nat.reduceAdd, Nat.reduceSub, Nat.reduceMul, Nat.reduceBEq, Nat.reduceBNe, Nat.reduceBneDiff, Nat.reduceBeqDiff, Int.reduceToNat, Int.reduceLE, Int.reduceLT, Int.reduceEq, Int.reduceNe, Int.reduceNeg, Int.reduceAdd, Int.reduceSub, ↓reduceIte, reduceCtorEq, List.getElem?_toArray, List.getElem?_cons_zero, List.getElem?_cons_succ, List.length_cons, List.length_nil, List.take_succ_cons, List.take_zero, List.drop_succ_cons, List.drop_zero, List.drop_nil, List.take_nil, List.nil_append, List.cons_append, List.append_nil, List.contains_cons, List.contains_nil, Bool.or_false, Bool.false_or, Bool.or_true, Bool.true_or, Bool.and_true, Bool.true_and, Bool.and_false, Bool.false_and, Bool.not_true, Bool.not_false, Bool.not_not, Option.isSome_some, Option.isSome_none, List.map_cons, List.map_nil, ite_not, not_true_eq_false, not_false_eq_true, Nat.zero_add, Nat.add_zero, idxF]
  | cons x suf =>
    have e1 := hq x (by rw [h]; simp)
    have e2 := ih x suf rfl
    rw [List.length_append, List.length_cons, List.length_nil] at e2
    have e3 : (l.map E.row)[pre.length]? = some (E.row x) := by rw [h]; exact map_mid
    have e4 : decide ((pre.length : Int) < (l.length : Int)) = true := by rw [h]; simp; omega
    rw [E.row_eq] at e3
    simp (maxSteps := 1000000) +contextual only [go_sem, acondK_bool, acB_merge, Nat.reduceLT, Nat.reduceLeDiff, Nat.reduceEqDiff, Nat.reduceAdd, Nat.reduceSub, Nat.reduceMul, Nat.reduceBEq, Nat.reduceBNe, Nat.reduceBneDiff, Nat.reduceBeqDiff, Int.reduceToNat, Int.reduceLE, Int.reduceLT, Int.reduceEq, Int.reduceNe, Int.reduceNeg, Int.reduceAdd, Int.reduceSub, ↓reduceIte, reduceCtorEq, List.getElem?_toArray, List.getElem?_cons_zero, List.getElem?_cons_succ, List.length_cons, List.length_nil, List.take_succ_cons, List.take_zero, List.drop_succ_cons, List.drop_zero, List.drop_nil, List.take_nil, List.nil_append, List.cons_append, List.append_nil, List.contains_cons, List.contains_nil, Bool.or_false, Bool.false_or, Bool.or_true, Bool.true_or, Bool.and_true, Bool.true_and, Bool.and_false, Bool.false_and, Bool.not_true, Bool.not_false, Bool.not_not, Option.isSome_some, Option.isSome_none, List.map_cons, List.map_nil, ite_not, not_true_eq_false, not_false_eq_true, Nat.zero_add, Nat.add_zero, e3, e4, e1, e2, wrap_nat hb, idxF]
theorem containsFuncE (l : List E) (hl : l.length ≤ 1099511627776) (f : FuncId) (cs : List AV) (q : E → Bool) (A : AHeap) (hq : ∀ x ∈ l, acl C f (E.av x :: cs) A = some (.d (.bool (q x)), A)) :
    acl C 99 [.d (.slice (l.map E.row)), .func (.func f) [] cs] A = some (.d (.bool (l.any q)), A) := by
  rw [k_call (c := C) (f := 99) rfl Try.func99 rfl (ok 99 (by kernel_rfl)) rfl Try.ntmps99 Try.results99 (by simp)]
  have e1 := indexFuncE l hl f cs q A hq
  simp (maxSteps := 1000000) +contextual only [go_sem, acondK_bool, acB_merge, Nat.reduceLT, Nat.reduceLeDiff, Nat.reduceEqDiff, Nat.reduceAdd, Nat.reduceSub, Nat.reduceMul, Nat.reduceBEq, Nat.reduceBNe, Nat.reduceBneDiff, Nat.reduceBeqDiff, Int.reduceToNat, Int.reduceLE, Int.reduceLT, Int.reduceEq, Int.reduceNe, Int.reduceNeg, Int.reduceAdd, Int.reduceSub, ↓reduceIte, reduceCtorEq, List.getElem?_toArray, List.getElem?_cons_zero, List.getElem?_cons_succ, List.length_cons, List.length_nil, List.take_succ_cons, List.take_zero, List.drop_succ_cons, List.drop_zero, List.drop_nil, List.take_nil, List.nil_append, List.cons_append, List.append_nil, List.contains_cons, List.contains_nil, Bool.or_false, Bool.false_or, Bool.or_true, Bool.true_or, Bool.and_true, Bool.true_and, Bool.and_false, Bool.false_and, Bool.not_true, Bool.not_false, Bool.not_not, Option.isSome_some, Option.isSome_none, List.map_cons, List.map_nil, ite_not, not_true_eq_false, not_false_eq_true, Nat.zero_add, Nat.add_zero, e1, idxF_nonneg]
theorem menEs_any (w : Bytes) : ∀ l, menE.menEs w l = l.any (menE w)
  | [] => rfl
  | x :: l => by simp [menE.menEs, menEs_any w l]
end Go.Proofs.Ytfoibmfocmjmdaa
