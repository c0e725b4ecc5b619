/- The counts of an expression and of a statement alone, on the reference's side. -/
import Derived.Test.YtencofeioaonpaaSeatQ
import Derived.Test.YtencofeioaonpaaSeatR
set_option linter.unusedVariables false
set_option linter.unusedSimpArgs false
set_option linter.all false
set_option linter.deprecated false
set_option linter.all false
namespace Go.Proofs.Ytencofeioaonpaa
open Go.Abs
attribute [local congr] ite_congr
set_option maxRecDepth 10000
@[go_sem] theorem cutR (n : Int) (A : AHeap) : acl C 34 [.d (.int .i64 n)] A = some (.d (.int .i64 (cut n)), A) := by
  rw [k_call (c := C) (f := 34) rfl Try.func34 rfl (ok 34 (by kernel_rfl)) rfl Try.ntmps34 Try.results34 (by simp)]
  simp (maxSteps := 1000000) only [go_sem, acondK_bool, acB_merge, Nat.reduceLT, Nat.reduceLeDiff, Nat.reduceEqDiff, Nat.reduceAdd, Nat.reduceSub, Nat.reduceMul, Nat.reduceBEq, Nat.reduceBNe, Nat.reduceBneDiff, Nat.reduceBeqDiff, Int.reduceToNat, Int.reduceLE, Int.reduceLT, Int.reduceEq, Int.reduceNe, Int.reduceNeg, Int.reduceAdd, Int.reduceSub, ↓reduceIte, reduceCtorEq, List.getElem?_toArray, List.getElem?_cons_zero, List.getElem?_cons_succ, List.length_cons, List.length_nil, List.take_succ_cons, List.take_zero, List.drop_succ_cons, List.drop_zero, List.drop_nil, List.take_nil, List.nil_append, List.cons_append, List.append_nil, List.contains_cons, List.contains_nil, Bool.or_false, Bool.false_or, Bool.or_true, Bool.true_or, Bool.and_true, Bool.true_and, Bool.and_false, Bool.false_and, Bool.not_true, Bool.not_false, Bool.not_not, Option.isSome_some, Option.isSome_none, List.map_cons, List.map_nil, ite_not, not_true_eq_false, not_false_eq_true, Nat.zero_add, Nat.add_zero, k_drawn_q]
  rfl
theorem getsR : ∀ e, E.Ok e → ∀ (A : AHeap), acl C 35 [E.av e] A = some (.d (.int .i64 (cut (tE e))), A) := by
  intro e
  induction e using E.ind with
  | h op n s args ih =>
    intro hok A
    have hlen := hok.fit
    obtain ⟨o, ho⟩ : ∃ o : Int, o = if rdS op = true then 1 else 0 := ⟨_, rfl⟩
    have ho2 : 0 ≤ o ∧ o ≤ 1 := by rw [ho]; split <;> omega
    have hco : cut o = o := by unfold cut; rw [if_neg (by omega)]
    have q3 : (decide (op = 22) || decide (op = 23) || decide (op = 24)) = rdS op := rfl
    have key : ∀ (r : Option (AV × AHeap)), r = some (.d (.int .i64 (cut (o + tEs args))), A) → r = some (.d (.int .i64 (cut (tE (.mk op n s args)))), A) := by
      intro r hr
      rw [hr, tE, ← ho]
    apply key
    rw [k_call (c := C) (f := 35) rfl Try.func35 rfl (ok 35 (by kernel_rfl)) rfl Try.ntmps35 Try.results35 (by simp)]
    cases h1 : rdS op with
    | true =>
      obtain rfl : o = 1 := by rw [ho, h1]; rfl
      simp (maxSteps := 1000000) only [go_sem, acondK_bool, acB_merge, Nat.reduceLT, Nat.reduceLeDiff, Nat.reduceEqDiff, Nat.reduceAdd, Nat.reduceSub, Nat.reduceMul, Nat.reduceBEq, Nat.reduceBNe, Nat.reduceBneDiff, Nat.reduceBeqDiff, Int.reduceToNat, Int.reduceLE, Int.reduceLT, Int.reduceEq, Int.reduceNe, Int.reduceNeg, Int.reduceAdd, Int.reduceSub, ↓reduceIte, reduceCtorEq, List.getElem?_toArray, List.getElem?_cons_zero, List.getElem?_cons_succ, List.length_cons, List.length_nil, List.take_succ_cons, List.take_zero, List.drop_succ_cons, List.drop_zero, List.drop_nil, List.take_nil, List.nil_append, List.cons_append, List.append_nil, List.contains_cons, List.contains_nil, Bool.or_false, Bool.false_or, Bool.or_true, Bool.true_or, Bool.and_true, Bool.true_and, Bool.and_false, Bool.false_and, Bool.not_true, Bool.not_false, Bool.not_not, Option.isSome_some, Option.isSome_none, List.map_cons, List.map_nil, ite_not, not_true_eq_false, not_false_eq_true, Nat.zero_add, Nat.add_zero, k_drawn_q, q3, h1]
      refine loop_any (fun pre => [(3, .v (.d (.int .i64 (cut (1 + tEs pre))))), (4, .v (.d (.int .i64 (pre.length : Nat)))), (1, .box [.d (.int .i64 op), .d (.int .i64 n), .d (.str s), .d (.slice (args.map E.row))])])
        (fun _ => A) (fun _ _ => some (.d (.int .i64 (cut (1 + tEs args))), A)) args (by simp [tEs, cut]) rfl rfl ?_
      intro pre suf hl ih2
      have hb : pre.length < 9223372036854775807 := by rw [hl] at hlen; simp at hlen; omega
      cases suf with
      | nil =>
        rw [List.append_nil] at hl
        subst hl
        have e4 : decide ((args.length : Int) < (args.length : Int)) = false := by simp
        simp (maxSteps := 1000000) only [go_sem, acondK_bool, acB_merge, Nat.reduceLT, Nat.reduceLeDiff, Nat.reduceEqDiff, Nat.reduceAdd, Nat.reduceSub, Nat.reduceMul, Nat.reduceBEq, Nat.reduceBNe, Nat.reduceBneDiff, Nat.reduceBeqDiff, Int.reduceToNat, Int.reduceLE, Int.reduceLT, Int.reduceEq, Int.reduceNe, Int.reduceNeg, Int.reduceAdd, Int.reduceSub, ↓reduceIte, reduceCtorEq, List.getElem?_toArray, List.getElem?_cons_zero, List.getElem?_cons_succ, List.length_cons, List.length_nil, List.take_succ_cons, List.take_zero, List.drop_succ_cons, List.drop_zero, List.drop_nil, List.take_nil, List.nil_append, List.cons_append, List.append_nil, List.contains_cons, List.contains_nil, Bool.or_false, Bool.false_or, Bool.or_true, Bool.true_or, Bool.and_true, Bool.true_and, Bool.and_false, Bool.false_and, Bool.not_true, Bool.not_false, Bool.not_not, Option.isSome_some, Option.isSome_none, List.map_cons, List.map_nil, ite_not, not_true_eq_false, not_false_eq_true, Nat.zero_add, Nat.add_zero, k_drawn_q, e4]
        done
      | cons x suf =>
        have hx : x ∈ args := by rw [hl]; simp
        have e1 := ih x hx (hok.arg x hx) A
        have e2 := ih2 x suf rfl
        have t1 : tEs (pre ++ [x]) = tEs pre + tE x := by rw [tEs_append]; simp [tEs]
        rw [List.length_append, List.length_cons, List.length_nil, t1, ← Int.add_assoc] at e2
        have e3 : (args.map E.row)[pre.length]? = some (E.row x) := by rw [hl]; exact map_mid
        have e4 : decide ((pre.length : Int) < (args.length : Int)) = true := by rw [hl]; simp; omega
        rw [E.row_eq] at e3
        have p1 := tEs_nn pre
        have p2 := tE_nn x
        have w1 := wadd (cut_ok (show 0 ≤ 1 + tEs pre by omega)) (cut_ok p2)
        have c1 : cut (cut (1 + tEs pre) + cut (tE x)) = cut (1 + tEs pre + tE x) := cut_cut2 p2 (by omega)
        simp (maxSteps := 1000000) only [go_sem, acondK_bool, acB_merge, Nat.reduceLT, Nat.reduceLeDiff, Nat.reduceEqDiff, Nat.reduceAdd, Nat.reduceSub, Nat.reduceMul, Nat.reduceBEq, Nat.reduceBNe, Nat.reduceBneDiff, Nat.reduceBeqDiff, Int.reduceToNat, Int.reduceLE, Int.reduceLT, Int.reduceEq, Int.reduceNe, Int.reduceNeg, Int.reduceAdd, Int.reduceSub, ↓reduceIte, reduceCtorEq, List.getElem?_toArray, List.getElem?_cons_zero, List.getElem?_cons_succ, List.length_cons, List.length_nil, List.take_succ_cons, List.take_zero, List.drop_succ_cons, List.drop_zero, List.drop_nil, List.take_nil, List.nil_append, List.cons_append, List.append_nil, List.contains_cons, List.contains_nil, Bool.or_false, Bool.false_or, Bool.or_true, Bool.true_or, Bool.and_true, Bool.true_and, Bool.and_false, Bool.false_and, Bool.not_true, Bool.not_false, Bool.not_not, Option.isSome_some, Option.isSome_none, List.map_cons, List.map_nil, ite_not, not_true_eq_false, not_false_eq_true, Nat.zero_add, Nat.add_zero, k_drawn_q, e3, e4, e1, e2, w1, c1, wrap_nat hb]
    | false =>
      obtain rfl : o = 0 := by rw [ho, h1]; rfl
      simp (maxSteps := 1000000) only [go_sem, acondK_bool, acB_merge, Nat.reduceLT, Nat.reduceLeDiff, Nat.reduceEqDiff, Nat.reduceAdd, Nat.reduceSub, Nat.reduceMul, Nat.reduceBEq, Nat.reduceBNe, Nat.reduceBneDiff, Nat.reduceBeqDiff, Int.reduceToNat, Int.reduceLE, Int.reduceLT, Int.reduceEq, Int.reduceNe, Int.reduceNeg, Int.reduceAdd, Int.reduceSub, ↓reduceIte, reduceCtorEq, List.getElem?_toArray, List.getElem?_cons_zero, List.getElem?_cons_succ, List.length_cons, List.length_nil, List.take_succ_cons, List.take_zero, List.drop_succ_cons, List.drop_zero, List.drop_nil, List.take_nil, List.nil_append, List.cons_append, List.append_nil, List.contains_cons, List.contains_nil, Bool.or_false, Bool.false_or, Bool.or_true, Bool.true_or, Bool.and_true, Bool.true_and, Bool.and_false, Bool.false_and, Bool.not_true, Bool.not_false, Bool.not_not, Option.isSome_some, Option.isSome_none, List.map_cons, List.map_nil, ite_not, not_true_eq_false, not_false_eq_true, Nat.zero_add, Nat.add_zero, k_drawn_q, q3, h1]
      refine loop_any (fun pre => [(3, .v (.d (.int .i64 (cut (0 + tEs pre))))), (4, .v (.d (.int .i64 (pre.length : Nat)))), (1, .box [.d (.int .i64 op), .d (.int .i64 n), .d (.str s), .d (.slice (args.map E.row))])])
        (fun _ => A) (fun _ _ => some (.d (.int .i64 (cut (0 + tEs args))), A)) args (by simp [tEs, cut]) rfl rfl ?_
      intro pre suf hl ih2
      have hb : pre.length < 9223372036854775807 := by rw [hl] at hlen; simp at hlen; omega
      cases suf with
      | nil =>
        rw [List.append_nil] at hl
        subst hl
        have e4 : decide ((args.length : Int) < (args.length : Int)) = false := by simp
        simp (maxSteps := 1000000) only [go_sem, acondK_bool, acB_merge, Nat.reduceLT, Nat.reduceLeDiff, Nat.reduceEqDiff, Nat.reduceAdd, Nat.reduceSub, Nat.reduceMul, Nat.reduceBEq, Nat.reduceBNe, Nat.reduceBneDiff, Nat.reduceBeqDiff, Int.reduceToNat, Int.reduceLE, Int.reduceLT, Int.reduceEq, Int.reduceNe, Int.reduceNeg, Int.reduceAdd, Int.reduceSub, ↓reduceIte, reduceCtorEq, List.getElem?_toArray, List.getElem?_cons_zero, List.getElem?_cons_succ, List.length_cons, List.length_nil, List.take_succ_cons, List.take_zero, List.drop_succ_cons, List.drop_zero, List.drop_nil, List.take_nil, List.nil_append, List.cons_append, List.append_nil, List.contains_cons, List.contains_nil, Bool.or_false, Bool.false_or, Bool.or_true, Bool.true_or, Bool.and_true, Bool.true_and, Bool.and_false, Bool.false_and, Bool.not_true, Bool.not_false, Bool.not_not, Option.isSome_some, Option.isSome_none, List.map_cons, List.map_nil, ite_not, not_true_eq_false, not_false_eq_true, Nat.zero_add, Nat.add_zero, k_drawn_q, e4]
        done
      | cons x suf =>
        have hx : x ∈ args := by rw [hl]; simp
        have e1 := ih x hx (hok.arg x hx) A
        have e2 := ih2 x suf rfl
        have t1 : tEs (pre ++ [x]) = tEs pre + tE x := by rw [tEs_append]; simp [tEs]
        rw [List.length_append, List.length_cons, List.length_nil, t1, ← Int.add_assoc] at e2
        have e3 : (args.map E.row)[pre.length]? = some (E.row x) := by rw [hl]; exact map_mid
        have e4 : decide ((pre.length : Int) < (args.length : Int)) = true := by rw [hl]; simp; omega
        rw [E.row_eq] at e3
        have p1 := tEs_nn pre
        have p2 := tE_nn x
        have w1 := wadd (cut_ok (show 0 ≤ 0 + tEs pre by omega)) (cut_ok p2)
        have c1 : cut (cut (0 + tEs pre) + cut (tE x)) = cut (0 + tEs pre + tE x) := cut_cut2 p2 (by omega)
        simp (maxSteps := 1000000) only [go_sem, acondK_bool, acB_merge, Nat.reduceLT, Nat.reduceLeDiff, Nat.reduceEqDiff, Nat.reduceAdd, Nat.reduceSub, Nat.reduceMul, Nat.reduceBEq, Nat.reduceBNe, Nat.reduceBneDiff, Nat.reduceBeqDiff, Int.reduceToNat, Int.reduceLE, Int.reduceLT, Int.reduceEq, Int.reduceNe, Int.reduceNeg, Int.reduceAdd, Int.reduceSub, ↓reduceIte, reduceCtorEq, List.getElem?_toArray, List.getElem?_cons_zero, List.getElem?_cons_succ, List.length_cons, List.length_nil, List.take_succ_cons, List.take_zero, List.drop_succ_cons, List.drop_zero, List.drop_nil, List.take_nil, List.nil_append, List.cons_append, List.append_nil, List.contains_cons, List.contains_nil, Bool.or_false, Bool.false_or, Bool.or_true, Bool.true_or, Bool.and_true, Bool.true_and, Bool.and_false, Bool.false_and, Bool.not_true, Bool.not_false, Bool.not_not, Option.isSome_some, Option.isSome_none, List.map_cons, List.map_nil, ite_not, not_true_eq_false, not_false_eq_true, Nat.zero_add, Nat.add_zero, k_drawn_q, e3, e4, e1, e2, w1, c1, wrap_nat hb]
theorem ownR (x : Stm) (hx : x.Ok) (A : AHeap) : acl C 19 [Stm.av x] A = some ((ownK x.op x.a x.b).cut.av, A) := by
  have r1 := getsR x.a (Stm.Ok.a hx) A
  have r2 := getsR x.b (Stm.Ok.b hx) A
  have ta := tE_nn x.a
  have tb := tE_nn x.b
  have wab := wadd (cut_ok ta) (cut_ok tb)
  have kab : cut (cut (tE x.a) + cut (tE x.b)) = cut (tE x.a + tE x.b) := cut_cut2 tb ta
  have c1 : cut 1 = 1 := rfl
  have c0 : cut 0 = 0 := rfl
  have fin : ∀ k : K, k = (ownK x.op x.a x.b).cut → some ((k.av, A) : AV × AHeap) = some ((ownK x.op x.a x.b).cut.av, A) := fun k hk => by rw [hk]
  rw [k_call (c := C) (f := 19) rfl Try.func19 rfl (ok 19 (by kernel_rfl)) rfl Try.ntmps19 Try.results19 (by simp)]
  simp (maxSteps := 1000000) only [go_sem, acondK_bool, acB_merge, Nat.reduceLT, Nat.reduceLeDiff, Nat.reduceEqDiff, Nat.reduceAdd, Nat.reduceSub, Nat.reduceMul, Nat.reduceBEq, Nat.reduceBNe, Nat.reduceBneDiff, Nat.reduceBeqDiff, Int.reduceToNat, Int.reduceLE, Int.reduceLT, Int.reduceEq, Int.reduceNe, Int.reduceNeg, Int.reduceAdd, Int.reduceSub, ↓reduceIte, reduceCtorEq, List.getElem?_toArray, List.getElem?_cons_zero, List.getElem?_cons_succ, List.length_cons, List.length_nil, List.take_succ_cons, List.take_zero, List.drop_succ_cons, List.drop_zero, List.drop_nil, List.take_nil, List.nil_append, List.cons_append, List.append_nil, List.contains_cons, List.contains_nil, Bool.or_false, Bool.false_or, Bool.or_true, Bool.true_or, Bool.and_true, Bool.true_and, Bool.and_false, Bool.false_and, Bool.not_true, Bool.not_false, Bool.not_not, Option.isSome_some, Option.isSome_none, List.map_cons, List.map_nil, ite_not, not_true_eq_false, not_false_eq_true, Nat.zero_add, Nat.add_zero, k_drawn_t, r1, r2, wab, kab]
  refine Eq.trans (ctE_ok (by repeat (first | exact MLe.nil | apply MLe.qq | apply MLe.q | apply MLe.o | apply MLe.b | apply MLe.l)) (by kernel_rfl)) ?_
  have k : (ownK x.op x.a x.b).cut = ⟨1, cut (tE x.a + tE x.b), if (decide (x.op = 3) || decide (x.op = 4)) = true then 1 else 0, if decide (x.op = 7) = true then 1 else 0⟩ := by
    unfold ownK K.cut
    simp only [c1]
    congr 1
    · split <;> rfl
    · split <;> rfl
  cases h3 : decide (x.op = 3) <;> cases h4 : decide (x.op = 4) <;> cases h7 : decide (x.op = 7) <;> rw [h3, h4, h7] at k <;> rw [k] <;> simp (maxSteps := 1000000) only [go_sem, acondK_bool, acB_merge, Nat.reduceLT, Nat.reduceLeDiff, Nat.reduceEqDiff, Nat.reduceAdd, Nat.reduceSub, Nat.reduceMul, Nat.reduceBEq, Nat.reduceBNe, Nat.reduceBneDiff, Nat.reduceBeqDiff, Int.reduceToNat, Int.reduceLE, Int.reduceLT, Int.reduceEq, Int.reduceNe, Int.reduceNeg, Int.reduceAdd, Int.reduceSub, ↓reduceIte, reduceCtorEq, List.getElem?_toArray, List.getElem?_cons_zero, List.getElem?_cons_succ, List.length_cons, List.length_nil, List.take_succ_cons, List.take_zero, List.drop_succ_cons, List.drop_zero, List.drop_nil, List.take_nil, List.nil_append, List.cons_append, List.append_nil, List.contains_cons, List.contains_nil, Bool.or_false, Bool.false_or, Bool.or_true, Bool.true_or, Bool.and_true, Bool.true_and, Bool.and_false, Bool.false_and, Bool.not_true, Bool.not_false, Bool.not_not, Option.isSome_some, Option.isSome_none, List.map_cons, List.map_nil, ite_not, not_true_eq_false, not_false_eq_true, Nat.zero_add, Nat.add_zero, k_drawn_q, h3, h4, h7]
  all_goals rfl
end Go.Proofs.Ytencofeioaonpaa
set_option linter.all false
namespace Go.Proofs.Ytencofeioaonpaa
open Go.Abs
attribute [local congr] ite_congr
set_option maxRecDepth 10000
structure Pth where
  k : K
  ch : List Int
abbrev Pth.av (w : Pth) : AV := .agg [.d (.int .i64 w.k.s), .d (.int .i64 w.k.g), .d (.int .i64 w.k.p), .d (.int .i64 w.k.e), .d (.slice (w.ch.map iRow))]
def nextS (w : Pth) (n : Int) : Int × Pth := match w.ch with
  | [] => (0, w)
  | c :: l => (if decide (c.tmod n < 0) = true then IntKind.i64.wrap (c.tmod n + n) else c.tmod n, ⟨w.k, l⟩)
theorem nextR (w : Pth) (n : Int) (hn : n ≠ 0) (hl : w.ch.length ≤ 4194303) (A : AHeap) : acl C 20 [w.av, .d (.int .i64 n)] A = some (.tuple [.d (.int .i64 (nextS w n).1), (nextS w n).2.av], A) := by
  obtain ⟨k, ch⟩ := w
  rw [k_call (c := C) (f := 20) rfl Try.func20 rfl (ok 20 (by kernel_rfl)) rfl Try.ntmps20 Try.results20 (by simp)]
  cases ch with
  | nil =>
    simp (maxSteps := 1000000) only [go_sem, acondK_bool, acB_merge, Nat.reduceLT, Nat.reduceLeDiff, Nat.reduceEqDiff, Nat.reduceAdd, Nat.reduceSub, Nat.reduceMul, Nat.reduceBEq, Nat.reduceBNe, Nat.reduceBneDiff, Nat.reduceBeqDiff, Int.reduceToNat, Int.reduceLE, Int.reduceLT, Int.reduceEq, Int.reduceNe, Int.reduceNeg, Int.reduceAdd, Int.reduceSub, ↓reduceIte, reduceCtorEq, List.getElem?_toArray, List.getElem?_cons_zero, List.getElem?_cons_succ, List.length_cons, List.length_nil, List.take_succ_cons, List.take_zero, List.drop_succ_cons, List.drop_zero, List.drop_nil, List.take_nil, List.nil_append, List.cons_append, List.append_nil, List.contains_cons, List.contains_nil, Bool.or_false, Bool.false_or, Bool.or_true, Bool.true_or, Bool.and_true, Bool.true_and, Bool.and_false, Bool.false_and, Bool.not_true, Bool.not_false, Bool.not_not, Option.isSome_some, Option.isSome_none, List.map_cons, List.map_nil, ite_not, not_true_eq_false, not_false_eq_true, Nat.zero_add, Nat.add_zero, k_drawn_t]
    refine Eq.trans (ctE_ok (by repeat (first | exact MLe.nil | apply MLe.qq | apply MLe.q | apply MLe.o | apply MLe.b | apply MLe.l)) (by kernel_rfl)) ?_
    simp (maxSteps := 1000000) only [go_sem, acondK_bool, acB_merge, Nat.reduceLT, Nat.reduceLeDiff, Nat.reduceEqDiff, Nat.reduceAdd, Nat.reduceSub, Nat.reduceMul, Nat.reduceBEq, Nat.reduceBNe, Nat.reduceBneDiff, Nat.reduceBeqDiff, Int.reduceToNat, Int.reduceLE, Int.reduceLT, Int.reduceEq, Int.reduceNe, Int.reduceNeg, Int.reduceAdd, Int.reduceSub, ↓reduceIte, reduceCtorEq, List.getElem?_toArray, List.getElem?_cons_zero, List.getElem?_cons_succ, List.length_cons, List.length_nil, List.take_succ_cons, List.take_zero, List.drop_succ_cons, List.drop_zero, List.drop_nil, List.take_nil, List.nil_append, List.cons_append, List.append_nil, List.contains_cons, List.contains_nil, Bool.or_false, Bool.false_or, Bool.or_true, Bool.true_or, Bool.and_true, Bool.true_and, Bool.and_false, Bool.false_and, Bool.not_true, Bool.not_false, Bool.not_not, Option.isSome_some, Option.isSome_none, List.map_cons, List.map_nil, ite_not, not_true_eq_false, not_false_eq_true, Nat.zero_add, Nat.add_zero]
    rfl
  | cons c l =>
    have rm : abin Try.prog .rem 3 (.d (.int .i64 c)) (.d (.int .i64 n)) = some (.d (.int .i64 (c.tmod n))) := by
      simp only [abin, aarith, if_true]
      rw [if_neg hn]
      rfl
    have sl : asloL C 26 (some (.d (.slice ([.int .i64 c] :: l.map iRow)))) (some (.d (.int .i64 1))) = some (.d (.slice (l.map iRow))) := by
      have := asloL_slice (c := C) (t := 26) (k := .i64) (r := [.int .i64 c] :: l.map iRow) (n := 1) elem_26 (iRow_all (c :: l)) (by simp)
      exact this
    have e4 : decide (((c :: l).length : Int) = 0) = false := by simp; omega
    cases h1 : decide (c.tmod n < 0) with
    | true =>
      simp (maxSteps := 1000000) only [go_sem, acondK_bool, acB_merge, Nat.reduceLT, Nat.reduceLeDiff, Nat.reduceEqDiff, Nat.reduceAdd, Nat.reduceSub, Nat.reduceMul, Nat.reduceBEq, Nat.reduceBNe, Nat.reduceBneDiff, Nat.reduceBeqDiff, Int.reduceToNat, Int.reduceLE, Int.reduceLT, Int.reduceEq, Int.reduceNe, Int.reduceNeg, Int.reduceAdd, Int.reduceSub, ↓reduceIte, reduceCtorEq, List.getElem?_toArray, List.getElem?_cons_zero, List.getElem?_cons_succ, List.length_cons, List.length_nil, List.take_succ_cons, List.take_zero, List.drop_succ_cons, List.drop_zero, List.drop_nil, List.take_nil, List.nil_append, List.cons_append, List.append_nil, List.contains_cons, List.contains_nil, Bool.or_false, Bool.false_or, Bool.or_true, Bool.true_or, Bool.and_true, Bool.true_and, Bool.and_false, Bool.false_and, Bool.not_true, Bool.not_false, Bool.not_not, Option.isSome_some, Option.isSome_none, List.map_cons, List.map_nil, ite_not, not_true_eq_false, not_false_eq_true, Nat.zero_add, Nat.add_zero, k_drawn_t, rm, sl, e4, h1, iRow]
      refine Eq.trans (ctE_ok (by repeat (first | exact MLe.nil | apply MLe.qq | apply MLe.q | apply MLe.o | apply MLe.b | apply MLe.l)) (by kernel_rfl)) ?_
      simp (maxSteps := 1000000) only [go_sem, acondK_bool, acB_merge, Nat.reduceLT, Nat.reduceLeDiff, Nat.reduceEqDiff, Nat.reduceAdd, Nat.reduceSub, Nat.reduceMul, Nat.reduceBEq, Nat.reduceBNe, Nat.reduceBneDiff, Nat.reduceBeqDiff, Int.reduceToNat, Int.reduceLE, Int.reduceLT, Int.reduceEq, Int.reduceNe, Int.reduceNeg, Int.reduceAdd, Int.reduceSub, ↓reduceIte, reduceCtorEq, List.getElem?_toArray, List.getElem?_cons_zero, List.getElem?_cons_succ, List.length_cons, List.length_nil, List.take_succ_cons, List.take_zero, List.drop_succ_cons, List.drop_zero, List.drop_nil, List.take_nil, List.nil_append, List.cons_append, List.append_nil, List.contains_cons, List.contains_nil, Bool.or_false, Bool.false_or, Bool.or_true, Bool.true_or, Bool.and_true, Bool.true_and, Bool.and_false, Bool.false_and, Bool.not_true, Bool.not_false, Bool.not_not, Option.isSome_some, Option.isSome_none, List.map_cons, List.map_nil, ite_not, not_true_eq_false, not_false_eq_true, Nat.zero_add, Nat.add_zero, nextS, h1]
    | false =>
      simp (maxSteps := 1000000) only [go_sem, acondK_bool, acB_merge, Nat.reduceLT, Nat.reduceLeDiff, Nat.reduceEqDiff, Nat.reduceAdd, Nat.reduceSub, Nat.reduceMul, Nat.reduceBEq, Nat.reduceBNe, Nat.reduceBneDiff, Nat.reduceBeqDiff, Int.reduceToNat, Int.reduceLE, Int.reduceLT, Int.reduceEq, Int.reduceNe, Int.reduceNeg, Int.reduceAdd, Int.reduceSub, ↓reduceIte, reduceCtorEq, List.getElem?_toArray, List.getElem?_cons_zero, List.getElem?_cons_succ, List.length_cons, List.length_nil, List.take_succ_cons, List.take_zero, List.drop_succ_cons, List.drop_zero, List.drop_nil, List.take_nil, List.nil_append, List.cons_append, List.append_nil, List.contains_cons, List.contains_nil, Bool.or_false, Bool.false_or, Bool.or_true, Bool.true_or, Bool.and_true, Bool.true_and, Bool.and_false, Bool.false_and, Bool.not_true, Bool.not_false, Bool.not_not, Option.isSome_some, Option.isSome_none, List.map_cons, List.map_nil, ite_not, not_true_eq_false, not_false_eq_true, Nat.zero_add, Nat.add_zero, k_drawn_t, rm, sl, e4, h1, iRow]
      refine Eq.trans (ctE_ok (by repeat (first | exact MLe.nil | apply MLe.qq | apply MLe.q | apply MLe.o | apply MLe.b | apply MLe.l)) (by kernel_rfl)) ?_
      simp (maxSteps := 1000000) only [go_sem, acondK_bool, acB_merge, Nat.reduceLT, Nat.reduceLeDiff, Nat.reduceEqDiff, Nat.reduceAdd, Nat.reduceSub, Nat.reduceMul, Nat.reduceBEq, Nat.reduceBNe, Nat.reduceBneDiff, Nat.reduceBeqDiff, Int.reduceToNat, Int.reduceLE, Int.reduceLT, Int.reduceEq, Int.reduceNe, Int.reduceNeg, Int.reduceAdd, Int.reduceSub, ↓reduceIte, reduceCtorEq, List.getElem?_toArray, List.getElem?_cons_zero, List.getElem?_cons_succ, List.length_cons, List.length_nil, List.take_succ_cons, List.take_zero, List.drop_succ_cons, List.drop_zero, List.drop_nil, List.take_nil, List.nil_append, List.cons_append, List.append_nil, List.contains_cons, List.contains_nil, Bool.or_false, Bool.false_or, Bool.or_true, Bool.true_or, Bool.and_true, Bool.true_and, Bool.and_false, Bool.false_and, Bool.not_true, Bool.not_false, Bool.not_not, Option.isSome_some, Option.isSome_none, List.map_cons, List.map_nil, ite_not, not_true_eq_false, not_false_eq_true, Nat.zero_add, Nat.add_zero, nextS, h1]
end Go.Proofs.Ytencofeioaonpaa
set_option linter.all false
namespace Go.Proofs.Ytencofeioaonpaa
open Go.Abs
attribute [local congr] ite_congr
set_option maxRecDepth 10000
def K.addW (a b : K) : K := ⟨IntKind.i64.wrap (a.s + b.s), IntKind.i64.wrap (a.g + b.g), IntKind.i64.wrap (a.p + b.p), IntKind.i64.wrap (a.e + b.e)⟩
def tickW (w : Pth) : Pth := ⟨⟨IntKind.i64.wrap (w.k.s + 1), w.k.g, w.k.p, w.k.e⟩, w.ch⟩
/-- a loop's body, up to n times, as long as there are steps -/
def itr (f : Pth → Pth) : Nat → Pth → Pth
  | 0, w => w
  | n + 1, w => if decide (w.k.s < 30000) = true then itr f n (f (tickW w)) else w
def stI (f : Pth → Pth) : Nat → Pth → Pth
  | 0, w => w
  | n + 1, w => f (tickW (stI f n w))
def ownW (w : Pth) (op : Int) (a b : E) : Pth := ⟨w.k.addW (ownK op a b).cut, w.ch⟩
mutual
def pthS : Stm → Pth → Pth
  | .mk op name max a b body els => fun w =>
    if decide (op = 5) = true then (if decide ((nextS (ownW w op a b) 2).1 = 0) = true then pthL body (nextS (ownW w op a b) 2).2 else pthL els (nextS (ownW w op a b) 2).2)
    else if decide (op = 6) = true then itr (pthL body) (nextS (ownW w op a b) (IntKind.i64.wrap (max + 1))).1.toNat (nextS (ownW w op a b) (IntKind.i64.wrap (max + 1))).2
    else ownW w op a b
def pthL : List Stm → Pth → Pth
  | [] => fun w => w
  | x :: l => fun w => if decide (w.k.s < 30000) = true then pthL l (pthS x w) else w
end
def stL : List Stm → Pth → Pth
  | [], w => w
  | x :: l, w => stL l (pthS x w)
theorem stL_snoc : ∀ (l : List Stm) (x : Stm) (w : Pth), stL (l ++ [x]) w = pthS x (stL l w)
  | [], x, w => rfl
  | y :: l, x, w => by simp only [List.cons_append, stL]; exact stL_snoc l x _
theorem next_len (w : Pth) (n : Int) : (nextS w n).2.ch.length ≤ w.ch.length := by
  obtain ⟨k, ch⟩ := w
  unfold nextS
  cases ch with
  | nil => simp
  | cons c l => simp
theorem itr_len (f : Pth → Pth) (hf : ∀ w, (f w).ch.length ≤ w.ch.length) : ∀ (n : Nat) (w : Pth), (itr f n w).ch.length ≤ w.ch.length
  | 0, w => Nat.le_refl _
  | n + 1, w => by
    unfold itr
    split
    · exact Nat.le_trans (itr_len f hf n _) (hf (tickW w))
    · exact Nat.le_refl _
theorem stI_len (f : Pth → Pth) (hf : ∀ w, (f w).ch.length ≤ w.ch.length) : ∀ (n : Nat) (w : Pth), (stI f n w).ch.length ≤ w.ch.length
  | 0, w => Nat.le_refl _
  | n + 1, w => Nat.le_trans (hf (tickW (stI f n w))) (stI_len f hf n w)
mutual
theorem pthS_len : ∀ (x : Stm) (w : Pth), (pthS x w).ch.length ≤ w.ch.length
  | .mk op name max a b body els, w => by
    unfold pthS
    split
    · split
      · exact Nat.le_trans (pthL_len body _) (next_len (ownW w op a b) 2)
      · exact Nat.le_trans (pthL_len els _) (next_len (ownW w op a b) 2)
    · split
      · exact Nat.le_trans (itr_len _ (fun w => pthL_len body w) _ _) (next_len (ownW w op a b) _)
      · exact Nat.le_refl _
theorem pthL_len : ∀ (l : List Stm) (w : Pth), (pthL l w).ch.length ≤ w.ch.length
  | [], w => Nat.le_refl _
  | x :: l, w => by
    unfold pthL
    split
    · exact Nat.le_trans (pthL_len l _) (pthS_len x w)
    · exact Nat.le_refl _
end
theorem stL_len : ∀ (l : List Stm) (w : Pth), (stL l w).ch.length ≤ w.ch.length
  | [], w => Nat.le_refl _
  | x :: l, w => Nat.le_trans (stL_len l _) (pthS_len x w)
/-- a loop whose state is told by an invariant -/
theorem loop_inv {F : AF} {ks : List KF} {α σ : Type} {body : Code} {env : AEnv} {A : AHeap} {r : Option (AV × AHeap)} (mk : Nat → σ → AEnv) (I : List α → σ → Prop) (l : List α) (s0 : σ)
    (henv : env = mk 0 s0) (h0 : I l s0)
    (h : ∀ pre suf s, l = pre ++ suf → I suf s → (∀ x suf' s', suf = x :: suf' → I suf' s' → cloop F ks body (mk (pre.length + 1) s') A = r) → cek F (.loop body :: ks) body (mk pre.length s) A = r) :
    cloop F ks body env A = r := by
  have key : ∀ (suf pre : List α) (s : σ), l = pre ++ suf → I suf s → cloop F ks body (mk pre.length s) A = r := by
    intro suf
    induction suf with
    | nil => intro pre s hl hI; exact h pre [] s hl hI (fun x s hs e => by cases e)
    | cons x suf ih =>
      intro pre s hl hI
      refine h pre (x :: suf) s hl hI (fun y t s' e hI' => ?_)
      cases e
      have := ih (pre ++ [x]) s' (by simp [hl]) hI'
      rwa [List.length_append] at this
  rw [henv]
  exact key l [] s0 rfl h0
theorem next_range (w : Pth) {n : Int} (h : 1 ≤ n) (h' : n ≤ 1000) : 0 ≤ (nextS w n).1 ∧ (nextS w n).1 < n := by
  obtain ⟨k, ch⟩ := w
  unfold nextS
  cases ch with
  | nil => simp; omega
  | cons c l =>
    have h1 := Int.tmod_lt_of_pos c (show 0 < n by omega)
    have h2 := Int.lt_tmod_of_pos c (show 0 < n by omega)
    simp only
    split
    · rename_i h3
      have h3' : c.tmod n < 0 := by simpa using h3
      rw [wrap_in] <;> omega
    · rename_i h3
      have h3' : ¬ c.tmod n < 0 := by simpa using h3
      omega
def PathGood (l : List Stm) : Prop := ∀ (w : Pth), w.ch.length ≤ 4194303 → ∀ A, acl C 9 [w.av, .d (.slice (l.map Stm.row))] A = some ((pthL l w).av, A)
theorem path_of (l : List Stm) (hlen : l.length ≤ 4194303) (hok : ∀ x ∈ l, x.Ok) (hm : ∀ x ∈ l, x.op = 6 → 1 ≤ x.max ∧ x.max ≤ 16) (ih : ∀ x ∈ l, PathGood x.body ∧ PathGood x.els) : PathGood l := by
  intro w hw A
  rw [k_call (c := C) (f := 9) rfl Try.func9 rfl (ok 9 (by kernel_rfl)) rfl Try.ntmps9 Try.results9 (by simp)]
  simp (maxSteps := 1000000) only [go_sem, acondK_bool, acB_merge, Nat.reduceLT, Nat.reduceLeDiff, Nat.reduceEqDiff, Nat.reduceAdd, Nat.reduceSub, Nat.reduceMul, Nat.reduceBEq, Nat.reduceBNe, Nat.reduceBneDiff, Nat.reduceBeqDiff, Int.reduceToNat, Int.reduceLE, Int.reduceLT, Int.reduceEq, Int.reduceNe, Int.reduceNeg, Int.reduceAdd, Int.reduceSub, ↓reduceIte, reduceCtorEq, List.getElem?_toArray, List.getElem?_cons_zero, List.getElem?_cons_succ, List.length_cons, List.length_nil, List.take_succ_cons, List.take_zero, List.drop_succ_cons, List.drop_zero, List.drop_nil, List.take_nil, List.nil_append, List.cons_append, List.append_nil, List.contains_cons, List.contains_nil, Bool.or_false, Bool.false_or, Bool.or_true, Bool.true_or, Bool.and_true, Bool.true_and, Bool.and_false, Bool.false_and, Bool.not_true, Bool.not_false, Bool.not_not, Option.isSome_some, Option.isSome_none, List.map_cons, List.map_nil, ite_not, not_true_eq_false, not_false_eq_true, Nat.zero_add, Nat.add_zero]
  refine loop_any (fun pre => [(5, .v (.d (.int .i64 (pre.length : Nat)))), (2, .box [.d (.int .i64 (stL pre w).k.s), .d (.int .i64 (stL pre w).k.g), .d (.int .i64 (stL pre w).k.p), .d (.int .i64 (stL pre w).k.e), .d (.slice ((stL pre w).ch.map iRow))]), (1, .v (.d (.slice (l.map Stm.row)))),
      (4, .box [.d (.int .i64 0), .d (.int .i64 0), .d (.int .i64 0), .d (.int .i64 0), .nilS])])
    (fun _ => A) (fun pre suf => some ((pthL suf (stL pre w)).av, A)) l rfl rfl rfl ?_
  intro pre suf hl ih2
  have hb : pre.length < 9223372036854775807 := by rw [hl] at hlen; simp at hlen; omega
  have hwl : (stL pre w).ch.length ≤ 4194303 := Nat.le_trans (stL_len pre w) hw
  cases suf with
  | nil =>
    rw [List.append_nil] at hl
    subst hl
    have e4 : decide ((l.length : Int) < (l.length : Int)) = false := by simp
    have e5 : pthL [] (stL l w) = stL l w := rfl
    rw [e5]
    simp (maxSteps := 1000000) only [go_sem, acondK_bool, acB_merge, Nat.reduceLT, Nat.reduceLeDiff, Nat.reduceEqDiff, Nat.reduceAdd, Nat.reduceSub, Nat.reduceMul, Nat.reduceBEq, Nat.reduceBNe, Nat.reduceBneDiff, Nat.reduceBeqDiff, Int.reduceToNat, Int.reduceLE, Int.reduceLT, Int.reduceEq, Int.reduceNe, Int.reduceNeg, Int.reduceAdd, Int.reduceSub, ↓reduceIte, reduceCtorEq, List.getElem?_toArray, List.getElem?_cons_zero, List.getElem?_cons_succ, List.length_cons, List.length_nil, List.take_succ_cons, List.take_zero, List.drop_succ_cons, List.drop_zero, List.drop_nil, List.take_nil, List.nil_append, List.cons_append, List.append_nil, List.contains_cons, List.contains_nil, Bool.or_false, Bool.false_or, Bool.or_true, Bool.true_or, Bool.and_true, Bool.true_and, Bool.and_false, Bool.false_and, Bool.not_true, Bool.not_false, Bool.not_not, Option.isSome_some, Option.isSome_none, List.map_cons, List.map_nil, ite_not, not_true_eq_false, not_false_eq_true, Nat.zero_add, Nat.add_zero, e4]
    done
  | cons x suf =>
    have hx : x ∈ l := by rw [hl]; simp
    have e2 := ih2 x suf rfl
    rw [List.length_append, List.length_cons, List.length_nil, stL_snoc] at e2
    have e3 : (l.map Stm.row)[pre.length]? = some (Stm.row x) := by rw [hl]; exact map_mid
    have e4 : decide ((pre.length : Int) < (l.length : Int)) = true := by rw [hl]; simp; omega
    have o1 := ownR x (hok x hx) A
    have b1 := (ih x hx).1
    have b2 := (ih x hx).2
    have hmx := hm x hx
    obtain ⟨w1, hw1⟩ : ∃ w1, w1 = stL pre w := ⟨_, rfl⟩
    rw [← hw1] at e2 hwl ⊢
    obtain ⟨op, name, max, a, b, body, els⟩ := x
    rw [Stm.row_eq] at e3
    have e5 : pthL (.mk op name max a b body els :: suf) w1 = if decide (w1.k.s < 30000) = true then pthL suf (pthS (.mk op name max a b body els) w1) else w1 := rfl
    rw [e5]
    cases h0 : decide (w1.k.s < 30000) with
    | false => simp (maxSteps := 1000000) only [go_sem, acondK_bool, acB_merge, Nat.reduceLT, Nat.reduceLeDiff, Nat.reduceEqDiff, Nat.reduceAdd, Nat.reduceSub, Nat.reduceMul, Nat.reduceBEq, Nat.reduceBNe, Nat.reduceBneDiff, Nat.reduceBeqDiff, Int.reduceToNat, Int.reduceLE, Int.reduceLT, Int.reduceEq, Int.reduceNe, Int.reduceNeg, Int.reduceAdd, Int.reduceSub, ↓reduceIte, reduceCtorEq, List.getElem?_toArray, List.getElem?_cons_zero, List.getElem?_cons_succ, List.length_cons, List.length_nil, List.take_succ_cons, List.take_zero, List.drop_succ_cons, List.drop_zero, List.drop_nil, List.take_nil, List.nil_append, List.cons_append, List.append_nil, List.contains_cons, List.contains_nil, Bool.or_false, Bool.false_or, Bool.or_true, Bool.true_or, Bool.and_true, Bool.true_and, Bool.and_false, Bool.false_and, Bool.not_true, Bool.not_false, Bool.not_not, Option.isSome_some, Option.isSome_none, List.map_cons, List.map_nil, ite_not, not_true_eq_false, not_false_eq_true, Nat.zero_add, Nat.add_zero, k_drawn_q, e3, e4, h0]
    | true =>
    obtain ⟨w2, hw2⟩ : ∃ w2, w2 = ownW w1 op a b := ⟨_, rfl⟩
    have q1 : IntKind.i64.wrap (w1.k.s + (ownK op a b).cut.s) = w2.k.s := by rw [hw2]; rfl
    have q2 : IntKind.i64.wrap (w1.k.g + (ownK op a b).cut.g) = w2.k.g := by rw [hw2]; rfl
    have q3 : IntKind.i64.wrap (w1.k.p + (ownK op a b).cut.p) = w2.k.p := by rw [hw2]; rfl
    have q4 : IntKind.i64.wrap (w1.k.e + (ownK op a b).cut.e) = w2.k.e := by rw [hw2]; rfl
    have q5 : w1.ch = w2.ch := by rw [hw2]; rfl
    have hwl2 : w2.ch.length ≤ 4194303 := by rw [← q5]; exact hwl
    cases h5 : decide (op = 5) with
    | true =>
      have p1 : pthS (.mk op name max a b body els) w1 = if decide ((nextS w2 2).1 = 0) = true then pthL body (nextS w2 2).2 else pthL els (nextS w2 2).2 := by
        simp only [pthS, h5, if_true, hw2]
      have n1 := nextR w2 2 (by decide) hwl2 A
      have hn2 : (nextS w2 2).2.ch.length ≤ 4194303 := Nat.le_trans (next_len _ _) hwl2
      have c1 := b1 _ hn2 A
      have c2 := b2 _ hn2 A
      change acl C 9 [(nextS w2 2).2.av, .d (.slice (body.map Stm.row))] A = _ at c1
      change acl C 9 [(nextS w2 2).2.av, .d (.slice (els.map Stm.row))] A = _ at c2
      generalize nextS w2 2 = r at *
      obtain ⟨rn, rw2⟩ := r
      cases h1 : decide (rn = 0) with
      | true =>
        rw [show (decide ((rn, rw2).1 = 0)) = true from h1, if_pos rfl] at p1
        rw [p1] at e2 ⊢
        generalize pthL body (rn, rw2).2 = w3 at *
        simp (maxSteps := 1000000) only [go_sem, acondK_bool, acB_merge, Nat.reduceLT, Nat.reduceLeDiff, Nat.reduceEqDiff, Nat.reduceAdd, Nat.reduceSub, Nat.reduceMul, Nat.reduceBEq, Nat.reduceBNe, Nat.reduceBneDiff, Nat.reduceBeqDiff, Int.reduceToNat, Int.reduceLE, Int.reduceLT, Int.reduceEq, Int.reduceNe, Int.reduceNeg, Int.reduceAdd, Int.reduceSub, ↓reduceIte, reduceCtorEq, List.getElem?_toArray, List.getElem?_cons_zero, List.getElem?_cons_succ, List.length_cons, List.length_nil, List.take_succ_cons, List.take_zero, List.drop_succ_cons, List.drop_zero, List.drop_nil, List.take_nil, List.nil_append, List.cons_append, List.append_nil, List.contains_cons, List.contains_nil, Bool.or_false, Bool.false_or, Bool.or_true, Bool.true_or, Bool.and_true, Bool.true_and, Bool.and_false, Bool.false_and, Bool.not_true, Bool.not_false, Bool.not_not, Option.isSome_some, Option.isSome_none, List.map_cons, List.map_nil, ite_not, not_true_eq_false, not_false_eq_true, Nat.zero_add, Nat.add_zero, k_drawn_q, e3, e4, h0, o1, h5, q1, q2, q3, q4, q5, n1, h1, c1, e2, wrap_nat hb]
      | false =>
        rw [show (decide ((rn, rw2).1 = 0)) = false from h1, if_neg (by decide)] at p1
        rw [p1] at e2 ⊢
        generalize pthL els (rn, rw2).2 = w3 at *
        simp (maxSteps := 1000000) only [go_sem, acondK_bool, acB_merge, Nat.reduceLT, Nat.reduceLeDiff, Nat.reduceEqDiff, Nat.reduceAdd, Nat.reduceSub, Nat.reduceMul, Nat.reduceBEq, Nat.reduceBNe, Nat.reduceBneDiff, Nat.reduceBeqDiff, Int.reduceToNat, Int.reduceLE, Int.reduceLT, Int.reduceEq, Int.reduceNe, Int.reduceNeg, Int.reduceAdd, Int.reduceSub, ↓reduceIte, reduceCtorEq, List.getElem?_toArray, List.getElem?_cons_zero, List.getElem?_cons_succ, List.length_cons, List.length_nil, List.take_succ_cons, List.take_zero, List.drop_succ_cons, List.drop_zero, List.drop_nil, List.take_nil, List.nil_append, List.cons_append, List.append_nil, List.contains_cons, List.contains_nil, Bool.or_false, Bool.false_or, Bool.or_true, Bool.true_or, Bool.and_true, Bool.true_and, Bool.and_false, Bool.false_and, Bool.not_true, Bool.not_false, Bool.not_not, Option.isSome_some, Option.isSome_none, List.map_cons, List.map_nil, ite_not, not_true_eq_false, not_false_eq_true, Nat.zero_add, Nat.add_zero, k_drawn_q, e3, e4, h0, o1, h5, q1, q2, q3, q4, q5, n1, h1, c2, e2, wrap_nat hb]
    | false =>
    cases h6 : decide (op = 6) with
    | true =>
      obtain ⟨m1, m2⟩ := hmx (by simpa using h6)
      change 1 ≤ max at m1
      change max ≤ 16 at m2
      have wm : IntKind.i64.wrap (max + 1) = max + 1 := by rw [wrap_in] <;> omega
      have p1 : pthS (.mk op name max a b body els) w1 = itr (pthL body) (nextS w2 (max + 1)).1.toNat (nextS w2 (max + 1)).2 := by
        simp only [pthS, h5, h6, Bool.false_eq_true, if_false, if_true, hw2, wm]
      have n1 := nextR w2 (max + 1) (by omega) hwl2 A
      have hn2 : (nextS w2 (max + 1)).2.ch.length ≤ 4194303 := Nat.le_trans (next_len _ _) hwl2
      have rg := next_range w2 (n := max + 1) (by omega) (by omega)
      change PathGood body at b1
      generalize nextS w2 (max + 1) = r at *
      obtain ⟨rn, v0⟩ := r
      change 0 ≤ rn ∧ rn < max + 1 at rg
      change v0.ch.length ≤ 4194303 at hn2
      change pthS _ w1 = itr (pthL body) rn.toNat v0 at p1
      generalize pthS (.mk op name max a b body els) w1 = w3 at *
      simp (maxSteps := 1000000) only [go_sem, acondK_bool, acB_merge, Nat.reduceLT, Nat.reduceLeDiff, Nat.reduceEqDiff, Nat.reduceAdd, Nat.reduceSub, Nat.reduceMul, Nat.reduceBEq, Nat.reduceBNe, Nat.reduceBneDiff, Nat.reduceBeqDiff, Int.reduceToNat, Int.reduceLE, Int.reduceLT, Int.reduceEq, Int.reduceNe, Int.reduceNeg, Int.reduceAdd, Int.reduceSub, ↓reduceIte, reduceCtorEq, List.getElem?_toArray, List.getElem?_cons_zero, List.getElem?_cons_succ, List.length_cons, List.length_nil, List.take_succ_cons, List.take_zero, List.drop_succ_cons, List.drop_zero, List.drop_nil, List.take_nil, List.nil_append, List.cons_append, List.append_nil, List.contains_cons, List.contains_nil, Bool.or_false, Bool.false_or, Bool.or_true, Bool.true_or, Bool.and_true, Bool.true_and, Bool.and_false, Bool.false_and, Bool.not_true, Bool.not_false, Bool.not_not, Option.isSome_some, Option.isSome_none, List.map_cons, List.map_nil, ite_not, not_true_eq_false, not_false_eq_true, Nat.zero_add, Nat.add_zero, k_drawn_q, e3, e4, h0, o1, h5, h6, q1, q2, q3, q4, q5, n1, wm]
      refine loop_inv (fun j v => [(9, .v (.d (.int .i64 (j : Nat)))), (2, .box [.d (.int .i64 v.k.s), .d (.int .i64 v.k.g), .d (.int .i64 v.k.p), .d (.int .i64 v.k.e), .d (.slice (v.ch.map iRow))]),
          (6, .box [.d (.int .i64 op), .d (.str name), .d (.int .i64 max), .d (.int .i64 a.op), .d (.int .i64 a.n), .d (.str a.s), .d (.slice (a.args.map E.row)), .d (.int .i64 b.op), .d (.int .i64 b.n), .d (.str b.s), .d (.slice (b.args.map E.row)), .d (.slice (body.map Stm.row)), .d (.slice (els.map Stm.row))]),
          (5, .v (.d (.int .i64 (pre.length : Nat)))), (1, .v (.d (.slice (l.map Stm.row)))), (4, .box [.d (.int .i64 0), .d (.int .i64 0), .d (.int .i64 0), .d (.int .i64 0), .nilS]), (8, .v (.d (.int .i64 rn)))])
        (fun suf2 v => itr (pthL body) suf2.length v = w3 ∧ v.ch.length ≤ 4194303) (List.replicate rn.toNat ()) v0 rfl ⟨by rw [List.length_replicate]; exact p1.symm, hn2⟩ ?_
      intro pre2 suf2 v hl2 hI ih3
      obtain ⟨hI1, hI2⟩ := hI
      have hl3 := congrArg List.length hl2
      rw [List.length_replicate, List.length_append] at hl3
      have hb3 : pre2.length < 9223372036854775807 := by omega
      cases suf2 with
      | nil =>
        have d4 : decide ((pre2.length : Int) < rn) = false := by simp at hl3 ⊢; omega
        change v = w3 at hI1
        subst hI1
        simp (maxSteps := 1000000) only [go_sem, acondK_bool, acB_merge, Nat.reduceLT, Nat.reduceLeDiff, Nat.reduceEqDiff, Nat.reduceAdd, Nat.reduceSub, Nat.reduceMul, Nat.reduceBEq, Nat.reduceBNe, Nat.reduceBneDiff, Nat.reduceBeqDiff, Int.reduceToNat, Int.reduceLE, Int.reduceLT, Int.reduceEq, Int.reduceNe, Int.reduceNeg, Int.reduceAdd, Int.reduceSub, ↓reduceIte, reduceCtorEq, List.getElem?_toArray, List.getElem?_cons_zero, List.getElem?_cons_succ, List.length_cons, List.length_nil, List.take_succ_cons, List.take_zero, List.drop_succ_cons, List.drop_zero, List.drop_nil, List.take_nil, List.nil_append, List.cons_append, List.append_nil, List.contains_cons, List.contains_nil, Bool.or_false, Bool.false_or, Bool.or_true, Bool.true_or, Bool.and_true, Bool.true_and, Bool.and_false, Bool.false_and, Bool.not_true, Bool.not_false, Bool.not_not, Option.isSome_some, Option.isSome_none, List.map_cons, List.map_nil, ite_not, not_true_eq_false, not_false_eq_true, Nat.zero_add, Nat.add_zero, k_drawn_q, d4, e2, wrap_nat hb]
      | cons y suf2 =>
        have d4 : decide ((pre2.length : Int) < rn) = true := by simp at hl3 ⊢; omega
        have g1 : itr (pthL body) (y :: suf2).length v = if decide (v.k.s < 30000) = true then itr (pthL body) suf2.length (pthL body (tickW v)) else v := rfl
        cases d5 : decide (v.k.s < 30000) with
        | false =>
          rw [g1, d5, if_neg (by decide)] at hI1
          subst hI1
          simp (maxSteps := 1000000) only [go_sem, acondK_bool, acB_merge, Nat.reduceLT, Nat.reduceLeDiff, Nat.reduceEqDiff, Nat.reduceAdd, Nat.reduceSub, Nat.reduceMul, Nat.reduceBEq, Nat.reduceBNe, Nat.reduceBneDiff, Nat.reduceBeqDiff, Int.reduceToNat, Int.reduceLE, Int.reduceLT, Int.reduceEq, Int.reduceNe, Int.reduceNeg, Int.reduceAdd, Int.reduceSub, ↓reduceIte, reduceCtorEq, List.getElem?_toArray, List.getElem?_cons_zero, List.getElem?_cons_succ, List.length_cons, List.length_nil, List.take_succ_cons, List.take_zero, List.drop_succ_cons, List.drop_zero, List.drop_nil, List.take_nil, List.nil_append, List.cons_append, List.append_nil, List.contains_cons, List.contains_nil, Bool.or_false, Bool.false_or, Bool.or_true, Bool.true_or, Bool.and_true, Bool.true_and, Bool.and_false, Bool.false_and, Bool.not_true, Bool.not_false, Bool.not_not, Option.isSome_some, Option.isSome_none, List.map_cons, List.map_nil, ite_not, not_true_eq_false, not_false_eq_true, Nat.zero_add, Nat.add_zero, k_drawn_q, d4, d5, e2, wrap_nat hb]
        | true =>
          rw [g1, d5, if_pos rfl] at hI1
          have f2 := b1 (tickW v) hI2 A
          have f3 := ih3 y suf2 (pthL body (tickW v)) rfl ⟨hI1, Nat.le_trans (pthL_len body _) hI2⟩
          generalize pthL body (tickW v) = v3 at *
          simp only [tickW] at f2
          simp (maxSteps := 1000000) only [go_sem, acondK_bool, acB_merge, Nat.reduceLT, Nat.reduceLeDiff, Nat.reduceEqDiff, Nat.reduceAdd, Nat.reduceSub, Nat.reduceMul, Nat.reduceBEq, Nat.reduceBNe, Nat.reduceBneDiff, Nat.reduceBeqDiff, Int.reduceToNat, Int.reduceLE, Int.reduceLT, Int.reduceEq, Int.reduceNe, Int.reduceNeg, Int.reduceAdd, Int.reduceSub, ↓reduceIte, reduceCtorEq, List.getElem?_toArray, List.getElem?_cons_zero, List.getElem?_cons_succ, List.length_cons, List.length_nil, List.take_succ_cons, List.take_zero, List.drop_succ_cons, List.drop_zero, List.drop_nil, List.take_nil, List.nil_append, List.cons_append, List.append_nil, List.contains_cons, List.contains_nil, Bool.or_false, Bool.false_or, Bool.or_true, Bool.true_or, Bool.and_true, Bool.true_and, Bool.and_false, Bool.false_and, Bool.not_true, Bool.not_false, Bool.not_not, Option.isSome_some, Option.isSome_none, List.map_cons, List.map_nil, ite_not, not_true_eq_false, not_false_eq_true, Nat.zero_add, Nat.add_zero, k_drawn_q, d4, d5, f2, f3, wrap_nat hb3]
    | false =>
      have p1 : pthS (.mk op name max a b body els) w1 = w2 := by simp only [pthS, h5, h6, Bool.false_eq_true, if_false, hw2]
      rw [p1] at e2 ⊢
      simp (maxSteps := 1000000) only [go_sem, acondK_bool, acB_merge, Nat.reduceLT, Nat.reduceLeDiff, Nat.reduceEqDiff, Nat.reduceAdd, Nat.reduceSub, Nat.reduceMul, Nat.reduceBEq, Nat.reduceBNe, Nat.reduceBneDiff, Nat.reduceBeqDiff, Int.reduceToNat, Int.reduceLE, Int.reduceLT, Int.reduceEq, Int.reduceNe, Int.reduceNeg, Int.reduceAdd, Int.reduceSub, ↓reduceIte, reduceCtorEq, List.getElem?_toArray, List.getElem?_cons_zero, List.getElem?_cons_succ, List.length_cons, List.length_nil, List.take_succ_cons, List.take_zero, List.drop_succ_cons, List.drop_zero, List.drop_nil, List.take_nil, List.nil_append, List.cons_append, List.append_nil, List.contains_cons, List.contains_nil, Bool.or_false, Bool.false_or, Bool.or_true, Bool.true_or, Bool.and_true, Bool.true_and, Bool.and_false, Bool.false_and, Bool.not_true, Bool.not_false, Bool.not_not, Option.isSome_some, Option.isSome_none, List.map_cons, List.map_nil, ite_not, not_true_eq_false, not_false_eq_true, Nat.zero_add, Nat.add_zero, k_drawn_q, e3, e4, h0, o1, h5, h6, q1, q2, q3, q4, q5, e2, wrap_nat hb]
end Go.Proofs.Ytencofeioaonpaa
set_option linter.all false
namespace Go.Proofs.Ytencofeioaonpaa
open Go.Abs
-- CTX D
attribute [local congr] ite_congr
set_option maxRecDepth 10000
theorem path_in : ∀ x : Stm, x.Ok → ∀ d, (∀ y k, Vis.s y k ∈ visS x d → stmtS y k = 0) → PathGood x.body ∧ PathGood x.els := by
  intro x
  induction x using Stm.ind with
  | h op name max a b body els ihb ihe =>
    intro hok d hv
    obtain ⟨f1, f2⟩ := stmFit2 hok
    have hvb : ∀ y k, Vis.s y k ∈ visSs body (IntKind.i64.wrap (d + 1)) → stmtS y k = 0 := fun y k hy => hv y k (vis_body _ hy)
    have hve : ∀ y k, Vis.s y k ∈ visSs els (IntKind.i64.wrap (d + 1)) → stmtS y k = 0 := fun y k hy => hv y k (vis_els _ hy)
    exact ⟨path_of body f1 (Stm.Ok.bodyOk hok) (fun y hy => maxOf (hvb y _ (visSs_mem hy _ _ (vis_self y _)))) fun y hy => ihb y hy (Stm.Ok.bodyOk hok y hy) _ fun z k hz => hvb z k (visSs_mem hy _ _ hz),
      path_of els f2 (Stm.Ok.elsOk hok) (fun y hy => maxOf (hve y _ (visSs_mem hy _ _ (vis_self y _)))) fun y hy => ihe y hy (Stm.Ok.elsOk hok y hy) _ fun z k hz => hve z k (visSs_mem hy _ _ hz)⟩
theorem pathG (p : Pr) (hp : p.Ok) (V : Vld p) : PathGood p.body :=
  path_of p.body hp.bfit hp.body (fun y hy => maxOf (V.stm y 1 (visSs_mem hy _ _ (vis_self y _)))) fun y hy => path_in y (hp.body y hy) 1 fun z k hz => V.stm z k (visSs_mem hy _ _ hz)
structure POk (w : Pth) : Prop where
  s : 0 ≤ w.k.s ∧ w.k.s ≤ 30000
  g : 0 ≤ w.k.g ∧ w.k.g ≤ 16385 * w.k.s
  p : 0 ≤ w.k.p ∧ w.k.p ≤ w.k.s
  e : 0 ≤ w.k.e ∧ w.k.e ≤ w.k.s
structure KLe (a b : K) : Prop where
  s : a.s ≤ b.s
  g : a.g ≤ b.g
  p : a.p ≤ b.p
  e : a.e ≤ b.e
theorem KLe.refl (a : K) : KLe a a := ⟨Int.le_refl _, Int.le_refl _, Int.le_refl _, Int.le_refl _⟩
theorem KLe.trans {a b c : K} (h : KLe a b) (k : KLe b c) : KLe a c := ⟨Int.le_trans h.s k.s, Int.le_trans h.g k.g, Int.le_trans h.p k.p, Int.le_trans h.e k.e⟩
theorem KLe.add {a b : K} (h : KLe a b) (c : K) : KLe (a.add c) (b.add c) := ⟨Int.add_le_add_right h.s _, Int.add_le_add_right h.g _, Int.add_le_add_right h.p _, Int.add_le_add_right h.e _⟩
theorem KLe.addl {a b : K} (h : KLe a b) (c : K) : KLe (c.add a) (c.add b) := ⟨Int.add_le_add_left h.s _, Int.add_le_add_left h.g _, Int.add_le_add_left h.p _, Int.add_le_add_left h.e _⟩
theorem K.add_assoc (a b c : K) : (a.add b).add c = a.add (b.add c) := by simp [K.add, Int.add_assoc]
theorem cut_le {x : Int} : cut x ≤ x := by unfold cut; split <;> omega
theorem cut_top {x : Int} : cut x ≤ 16385 := by unfold cut; split <;> omega
theorem own_le {w : Pth} (h : POk w) (hs : w.k.s < 30000) (op : Int) (a b : E) : POk (ownW w op a b) ∧ KLe (ownW w op a b).k (w.k.add (ownK op a b)) := by
  have o := ownK_nn op a b
  obtain ⟨s1, s2⟩ := h.s
  obtain ⟨g1, g2⟩ := h.g
  obtain ⟨p1, p2⟩ := h.p
  obtain ⟨e1, e2⟩ := h.e
  have c1 : cut (ownK op a b).s = 1 := rfl
  have c2 := cut_nn o.g
  have c3 : 0 ≤ cut (ownK op a b).p ∧ cut (ownK op a b).p ≤ 1 := by
    unfold ownK; simp only; split <;> decide
  have c4 : 0 ≤ cut (ownK op a b).e ∧ cut (ownK op a b).e ≤ 1 := by
    unfold ownK; simp only; split <;> decide
  have c5 : cut (ownK op a b).g ≤ 16385 := cut_top
  have w1 : IntKind.i64.wrap (w.k.s + cut (ownK op a b).s) = w.k.s + cut (ownK op a b).s := by rw [wrap_in] <;> omega
  have w2 : IntKind.i64.wrap (w.k.g + cut (ownK op a b).g) = w.k.g + cut (ownK op a b).g := by rw [wrap_in] <;> omega
  have w3 : IntKind.i64.wrap (w.k.p + cut (ownK op a b).p) = w.k.p + cut (ownK op a b).p := by rw [wrap_in] <;> omega
  have w4 : IntKind.i64.wrap (w.k.e + cut (ownK op a b).e) = w.k.e + cut (ownK op a b).e := by rw [wrap_in] <;> omega
  have hk : (ownW w op a b).k = w.k.add (ownK op a b).cut := by
    show K.addW _ _ = _
    unfold K.addW K.add K.cut
    simp only [w1, w2, w3, w4]
  refine ⟨⟨?_, ?_, ?_, ?_⟩, ?_⟩
  · rw [hk]; simp only [K.add, K.cut]; omega
  · rw [hk]; simp only [K.add, K.cut]; omega
  · rw [hk]; simp only [K.add, K.cut]; omega
  · rw [hk]; simp only [K.add, K.cut]; omega
  · rw [hk]
    exact KLe.addl ⟨cut_le, cut_le, cut_le, cut_le⟩ _
theorem next_k (w : Pth) (n : Int) : (nextS w n).2.k = w.k := by
  obtain ⟨k, ch⟩ := w
  unfold nextS
  cases ch <;> rfl
theorem POk.next {w : Pth} (h : POk w) (n : Int) : POk (nextS w n).2 := by
  have := next_k w n
  exact ⟨by rw [this]; exact h.s, by rw [this]; exact h.g, by rw [this]; exact h.p, by rw [this]; exact h.e⟩
def K.smul (b : K) : Nat → K
  | 0 => ⟨0, 0, 0, 0⟩
  | n + 1 => b.add (b.smul n)
theorem K.smul_eq (b : K) : ∀ n : Nat, b.smul n = b.mul n
  | 0 => by simp [K.smul, K.mul]
  | n + 1 => by
    rw [K.smul, K.smul_eq b n]
    simp only [K.add, K.mul]
    push_cast
    simp only [Int.mul_add, Int.mul_one, Int.add_comm]
theorem K.smul_nn {b : K} (h : b.Nn) : ∀ n : Nat, (b.smul n).Nn
  | 0 => ⟨Int.le_refl _, Int.le_refl _, Int.le_refl _, Int.le_refl _⟩
  | n + 1 => h.add (K.smul_nn h n)
theorem KLe.addr {a : K} {c : K} (h : c.Nn) : KLe a (a.add c) := ⟨by have := h.s; show a.s ≤ a.s + c.s; omega, by have := h.g; show a.g ≤ a.g + c.g; omega, by have := h.p; show a.p ≤ a.p + c.p; omega, by have := h.e; show a.e ≤ a.e + c.e; omega⟩
def K1 : K := ⟨1, 0, 0, 0⟩
theorem itr_le (f : Pth → Pth) (B : K) (hB : B.Nn) (hf : ∀ w, POk w → POk (f w) ∧ KLe (f w).k (w.k.add B)) : ∀ (n : Nat) (w : Pth), POk w → POk (itr f n w) ∧ KLe (itr f n w).k (w.k.add ((K1.add B).smul n))
  | 0, w, h => ⟨h, by show KLe w.k (w.k.add ⟨0, 0, 0, 0⟩); exact KLe.addr ⟨Int.le_refl _, Int.le_refl _, Int.le_refl _, Int.le_refl _⟩⟩
  | n + 1, w, h => by
    have hn1 : (K1.add B).Nn := K.Nn.add ⟨by decide, by decide, by decide, by decide⟩ hB
    unfold itr
    split
    · rename_i hs
      have hs' : w.k.s < 30000 := by simpa using hs
      obtain ⟨s1, s2⟩ := h.s
      have ws : IntKind.i64.wrap (w.k.s + 1) = w.k.s + 1 := by rw [wrap_in] <;> omega
      have ht : POk (tickW w) := by
        refine ⟨?_, ?_, ?_, ?_⟩
        · show 0 ≤ IntKind.i64.wrap (w.k.s + 1) ∧ IntKind.i64.wrap (w.k.s + 1) ≤ 30000
          rw [ws]; omega
        · show 0 ≤ w.k.g ∧ w.k.g ≤ 16385 * IntKind.i64.wrap (w.k.s + 1)
          have := h.g
          rw [ws]; omega
        · show 0 ≤ w.k.p ∧ w.k.p ≤ IntKind.i64.wrap (w.k.s + 1)
          have := h.p
          rw [ws]; omega
        · show 0 ≤ w.k.e ∧ w.k.e ≤ IntKind.i64.wrap (w.k.s + 1)
          have := h.e
          rw [ws]; omega
      have htk : (tickW w).k = w.k.add K1 := by
        show (⟨IntKind.i64.wrap (w.k.s + 1), w.k.g, w.k.p, w.k.e⟩ : K) = _
        rw [ws]
        simp [K.add, K1]
      obtain ⟨f1, f2⟩ := hf _ ht
      obtain ⟨i1, i2⟩ := itr_le f B hB hf n _ f1
      refine ⟨i1, i2.trans ?_⟩
      rw [K.smul, ← K.add_assoc]
      refine KLe.add ?_ _
      rw [← K.add_assoc, ← htk]
      exact f2
    · exact ⟨h, KLe.addr (K.smul_nn hn1 _)⟩
theorem mx_l {a b : Int} : a ≤ mx a b := by unfold mx; split <;> omega
theorem mx_r {a b : Int} : b ≤ mx a b := by unfold mx; split <;> omega
mutual
theorem pthS_le : ∀ (x : Stm) (d : Int), (∀ y k, Vis.s y k ∈ visS x d → stmtS y k = 0) → ∀ w, POk w → w.k.s < 30000 → POk (pthS x w) ∧ KLe (pthS x w).k (w.k.add (tS x))
  | .mk op name max a b body els, d, hv, w, h, hs => by
    have hvb : ∀ y k, Vis.s y k ∈ visSs body (IntKind.i64.wrap (d + 1)) → stmtS y k = 0 := fun y k hy => hv y k (vis_body _ hy)
    have hve : ∀ y k, Vis.s y k ∈ visSs els (IntKind.i64.wrap (d + 1)) → stmtS y k = 0 := fun y k hy => hv y k (vis_els _ hy)
    have hm := maxOf (hv _ d (vis_self (.mk op name max a b body els) d))
    change op = 6 → 1 ≤ max ∧ max ≤ 16 at hm
    obtain ⟨o1, o2⟩ := own_le h hs op a b
    have nb := tSs_nn body _ hvb
    unfold pthS tS
    split
    · have hk := next_k (ownW w op a b) 2
      split
      · obtain ⟨b1, b2⟩ := pthL_le body _ hvb _ (o1.next 2)
        refine ⟨b1, b2.trans ?_⟩
        rw [hk, ← K.add_assoc]
        exact (o2.add _).trans (KLe.addl ⟨mx_l, mx_l, mx_l, mx_l⟩ _)
      · obtain ⟨b1, b2⟩ := pthL_le els _ hve _ (o1.next 2)
        refine ⟨b1, b2.trans ?_⟩
        rw [hk, ← K.add_assoc]
        exact (o2.add _).trans (KLe.addl ⟨mx_r, mx_r, mx_r, mx_r⟩ _)
    · split
      · rename_i h6
        obtain ⟨m1, m2⟩ := hm (by simpa using h6)
        have wm : IntKind.i64.wrap (max + 1) = max + 1 := by rw [wrap_in] <;> omega
        rw [wm]
        have hk := next_k (ownW w op a b) (max + 1)
        have rg := next_range (ownW w op a b) (n := max + 1) (by omega) (by omega)
        obtain ⟨i1, i2⟩ := itr_le (pthL body) (tSs body) nb (fun w hw => pthL_le body _ hvb w hw) (nextS (ownW w op a b) (max + 1)).1.toNat _ (o1.next (max + 1))
        refine ⟨i1, i2.trans ?_⟩
        rw [hk, ← K.add_assoc]
        refine (o2.add _).trans (KLe.addl ?_ _)
        rw [K.smul_eq]
        have hn1 : (K1.add (tSs body)).Nn := K.Nn.add ⟨by decide, by decide, by decide, by decide⟩ nb
        have hmul : ∀ y : Int, 0 ≤ y → y * ((nextS (ownW w op a b) (max + 1)).1.toNat : Int) ≤ y * max := fun y hy => Int.mul_le_mul_of_nonneg_left (by omega) hy
        refine ⟨?_, ?_, ?_, ?_⟩
        · refine Int.le_trans (hmul _ hn1.s) ?_
          show (1 + (tSs body).s) * max ≤ max + (tSs body).s * max
          rw [Int.add_mul]; omega
        · refine Int.le_trans (hmul _ hn1.g) ?_
          show (0 + (tSs body).g) * max ≤ 0 + (tSs body).g * max
          rw [Int.zero_add]; omega
        · refine Int.le_trans (hmul _ hn1.p) ?_
          show (0 + (tSs body).p) * max ≤ 0 + (tSs body).p * max
          rw [Int.zero_add]; omega
        · refine Int.le_trans (hmul _ hn1.e) ?_
          show (0 + (tSs body).e) * max ≤ 0 + (tSs body).e * max
          rw [Int.zero_add]; omega
      · exact ⟨o1, o2⟩
theorem pthL_le : ∀ (l : List Stm) (d : Int), (∀ y k, Vis.s y k ∈ visSs l d → stmtS y k = 0) → ∀ w, POk w → POk (pthL l w) ∧ KLe (pthL l w).k (w.k.add (tSs l))
  | [], d, hv, w, h => ⟨h, KLe.addr ⟨Int.le_refl _, Int.le_refl _, Int.le_refl _, Int.le_refl _⟩⟩
  | x :: l, d, hv, w, h => by
    have hv1 : ∀ y k, Vis.s y k ∈ visS x d → stmtS y k = 0 := fun y k hy => hv y k (by rw [visSs]; exact List.mem_append_left _ hy)
    have hv2 : ∀ y k, Vis.s y k ∈ visSs l d → stmtS y k = 0 := fun y k hy => hv y k (by rw [visSs]; exact List.mem_append_right _ hy)
    have nx := (tS_nn x d hv1).add (tSs_nn l d hv2)
    unfold pthL tSs
    split
    · rename_i hs
      obtain ⟨s1, s2⟩ := pthS_le x d hv1 w h (by simpa using hs)
      obtain ⟨l1, l2⟩ := pthL_le l d hv2 _ s1
      refine ⟨l1, l2.trans ?_⟩
      rw [← K.add_assoc]
      exact s2.add _
    · exact ⟨h, KLe.addr nx⟩
end
theorem cut_small {x n : Int} (h : cut x ≤ n) (hn : n < 16385) : cut x = x := by
  unfold cut at h ⊢
  split at h
  · omega
  · rename_i h1; rw [if_neg h1]
theorem lawCostBounds (p : Pr) (ch : List Int) (hp : p.Ok) (hc : ch.length ≤ 1048576 ∧ ∀ n ∈ ch, i64 n) : acl D 3 [Pr.av p, .d (.slice (ch.map iRow))] A00 = some (.d (.bool true), A00) := by
  have sm := up (small p hp 150 A00)
  have w := works
  have d1 := costD p hp A00
  rw [k_call (c := D) (f := 3) rfl Try.func3 rfl (ok 3 (by kernel_rfl)) rfl Try.ntmps3 Try.results3 (by simp)]
  cases hs : smallS p 150 with
  | false => simp (maxSteps := 1000000) only [go_sem, acondK_bool, acB_merge, Nat.reduceLT, Nat.reduceLeDiff, Nat.reduceEqDiff, Nat.reduceAdd, Nat.reduceSub, Nat.reduceMul, Nat.reduceBEq, Nat.reduceBNe, Nat.reduceBneDiff, Nat.reduceBeqDiff, Int.reduceToNat, Int.reduceLE, Int.reduceLT, Int.reduceEq, Int.reduceNe, Int.reduceNeg, Int.reduceAdd, Int.reduceSub, ↓reduceIte, reduceCtorEq, List.getElem?_toArray, List.getElem?_cons_zero, List.getElem?_cons_succ, List.length_cons, List.length_nil, List.take_succ_cons, List.take_zero, List.drop_succ_cons, List.drop_zero, List.drop_nil, List.take_nil, List.nil_append, List.cons_append, List.append_nil, List.contains_cons, List.contains_nil, Bool.or_false, Bool.false_or, Bool.or_true, Bool.true_or, Bool.and_true, Bool.true_and, Bool.and_false, Bool.false_and, Bool.not_true, Bool.not_false, Bool.not_not, Option.isSome_some, Option.isSome_none, List.map_cons, List.map_nil, ite_not, not_true_eq_false, not_false_eq_true, Nat.zero_add, Nat.add_zero, k_drawn_q, sm, w, hs]
  | true =>
  cases h4 : decide (200 < (ch.length : Int)) with
  | true => simp (maxSteps := 1000000) only [go_sem, acondK_bool, acB_merge, Nat.reduceLT, Nat.reduceLeDiff, Nat.reduceEqDiff, Nat.reduceAdd, Nat.reduceSub, Nat.reduceMul, Nat.reduceBEq, Nat.reduceBNe, Nat.reduceBneDiff, Nat.reduceBeqDiff, Int.reduceToNat, Int.reduceLE, Int.reduceLT, Int.reduceEq, Int.reduceNe, Int.reduceNeg, Int.reduceAdd, Int.reduceSub, ↓reduceIte, reduceCtorEq, List.getElem?_toArray, List.getElem?_cons_zero, List.getElem?_cons_succ, List.length_cons, List.length_nil, List.take_succ_cons, List.take_zero, List.drop_succ_cons, List.drop_zero, List.drop_nil, List.take_nil, List.nil_append, List.cons_append, List.append_nil, List.contains_cons, List.contains_nil, Bool.or_false, Bool.false_or, Bool.or_true, Bool.true_or, Bool.and_true, Bool.true_and, Bool.and_false, Bool.false_and, Bool.not_true, Bool.not_false, Bool.not_not, Option.isSome_some, Option.isSome_none, List.map_cons, List.map_nil, ite_not, not_true_eq_false, not_false_eq_true, Nat.zero_add, Nat.add_zero, k_drawn_q, sm, w, hs, h4]
  | false =>
  cases h7 : decide (costC p = 0) with
  | false => simp (maxSteps := 1000000) only [go_sem, acondK_bool, acB_merge, Nat.reduceLT, Nat.reduceLeDiff, Nat.reduceEqDiff, Nat.reduceAdd, Nat.reduceSub, Nat.reduceMul, Nat.reduceBEq, Nat.reduceBNe, Nat.reduceBneDiff, Nat.reduceBeqDiff, Int.reduceToNat, Int.reduceLE, Int.reduceLT, Int.reduceEq, Int.reduceNe, Int.reduceNeg, Int.reduceAdd, Int.reduceSub, ↓reduceIte, reduceCtorEq, List.getElem?_toArray, List.getElem?_cons_zero, List.getElem?_cons_succ, List.length_cons, List.length_nil, List.take_succ_cons, List.take_zero, List.drop_succ_cons, List.drop_zero, List.drop_nil, List.take_nil, List.nil_append, List.cons_append, List.append_nil, List.contains_cons, List.contains_nil, Bool.or_false, Bool.false_or, Bool.or_true, Bool.true_or, Bool.and_true, Bool.true_and, Bool.and_false, Bool.false_and, Bool.not_true, Bool.not_false, Bool.not_not, Option.isSome_some, Option.isSome_none, List.map_cons, List.map_nil, ite_not, not_true_eq_false, not_false_eq_true, Nat.zero_add, Nat.add_zero, k_drawn_q, sm, w, hs, h4, d1, h7]
  | true =>
  have hcc : costC p = 0 := by simpa using h7
  have hd : decide (detS p = 0) = true := by
    cases h : decide (detS p = 0) with
    | true => rfl
    | false =>
      unfold costC at hcc
      rw [h] at hcc
      simp only [Bool.false_eq_true, if_false] at hcc
      rw [hcc] at h
      simp at h
  have V := det_vld (by simpa using hd : detS p = 0)
  have hlim : limS (tSs p.body).cut = 0 := by
    unfold costC at hcc
    rw [if_pos hd] at hcc
    exact hcc
  have o1 := ofD p hp A00
  have q1 : costS p = (tSs p.body).cut := by unfold costS; rw [if_pos hd]
  rw [q1] at o1
  have pg := up (pathG p hp V ⟨⟨0, 0, 0, 0⟩, ch⟩ (by show ch.length ≤ _; omega) A00)
  obtain ⟨-, le⟩ := pthL_le p.body 1 V.stm ⟨⟨0, 0, 0, 0⟩, ch⟩ ⟨(by decide : (0 : Int) ≤ 0 ∧ (0 : Int) ≤ 30000), (by decide : (0 : Int) ≤ 0 ∧ (0 : Int) ≤ 16385 * 0), (by decide : (0 : Int) ≤ 0 ∧ (0 : Int) ≤ 0), (by decide : (0 : Int) ≤ 0 ∧ (0 : Int) ≤ 0)⟩
  have hb : (tSs p.body).cut.s ≤ 16384 ∧ (tSs p.body).cut.g ≤ 64 ∧ (tSs p.body).cut.p ≤ 64 ∧ (tSs p.body).cut.e ≤ 16 := by
    unfold limS at hlim
    split at hlim
    · cases hlim
    · rename_i g1
      split at hlim
      · cases hlim
      · rename_i g2
        simp at g1 g2
        omega
  have e1 := cut_small hb.1 (by decide)
  have e2 := cut_small hb.2.1 (by decide)
  have e3 := cut_small hb.2.2.1 (by decide)
  have e4 := cut_small hb.2.2.2 (by decide)
  have ke : (tSs p.body).cut = tSs p.body := by
    show (⟨cut _, cut _, cut _, cut _⟩ : K) = _
    rw [e1, e2, e3, e4]
  rw [ke] at o1 hb
  generalize pthL p.body ⟨⟨0, 0, 0, 0⟩, ch⟩ = v at *
  have k0 : (K.add ⟨0, 0, 0, 0⟩ (tSs p.body)) = tSs p.body := by simp [K.add]
  change KLe v.k (K.add ⟨0, 0, 0, 0⟩ (tSs p.body)) at le
  rw [k0] at le
  generalize tSs p.body = t at *
  have g1 : decide (v.k.s ≤ t.s) = true := by simpa using le.s
  have g2 : decide (v.k.g ≤ t.g) = true := by simpa using le.g
  have g3 : decide (v.k.p ≤ t.p) = true := by simpa using le.p
  have g4 : decide (v.k.e ≤ t.e) = true := by simpa using le.e
  have g5 : decide (t.s ≤ 16384) = true := by simpa using hb.1
  have g6 : decide (t.g ≤ 64) = true := by simpa using hb.2.1
  have g7 : decide (t.p ≤ 64) = true := by simpa using hb.2.2.1
  have g8 : decide (t.e ≤ 16) = true := by simpa using hb.2.2.2
  simp (maxSteps := 1000000) only [go_sem, acondK_bool, acB_merge, Nat.reduceLT, Nat.reduceLeDiff, Nat.reduceEqDiff, Nat.reduceAdd, Nat.reduceSub, Nat.reduceMul, Nat.reduceBEq, Nat.reduceBNe, Nat.reduceBneDiff, Nat.reduceBeqDiff, Int.reduceToNat, Int.reduceLE, Int.reduceLT, Int.reduceEq, Int.reduceNe, Int.reduceNeg, Int.reduceAdd, Int.reduceSub, ↓reduceIte, reduceCtorEq, List.getElem?_toArray, List.getElem?_cons_zero, List.getElem?_cons_succ, List.length_cons, List.length_nil, List.take_succ_cons, List.take_zero, List.drop_succ_cons, List.drop_zero, List.drop_nil, List.take_nil, List.nil_append, List.cons_append, List.append_nil, List.contains_cons, List.contains_nil, Bool.or_false, Bool.false_or, Bool.or_true, Bool.true_or, Bool.and_true, Bool.true_and, Bool.and_false, Bool.false_and, Bool.not_true, Bool.not_false, Bool.not_not, Option.isSome_some, Option.isSome_none, List.map_cons, List.map_nil, ite_not, not_true_eq_false, not_false_eq_true, Nat.zero_add, Nat.add_zero, k_drawn_q, sm, w, hs, h4, d1, h7, o1, pg, g1, g2, g3, g4, g5, g6, g7, g8]
end Go.Proofs.Ytencofeioaonpaa
