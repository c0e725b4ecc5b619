/- An integer of an expression is replaced by now: the walk. -/
import Derived.Test.YtjaplboahgokhaaSeatM
set_option linter.unusedVariables false
set_option linter.unusedSimpArgs false
set_option linter.all false
set_option linter.deprecated false
set_option linter.all false
namespace Go.Proofs.Ytjaplboahgokhaa
open Go.Abs
-- CTX D
attribute [local congr] ite_congr
set_option maxRecDepth 10000
mutual
def replS : E → Int → E × Int
  | .mk op n s args, k => if decide (op = 1) = true then (if decide (k = 0) = true then (.mk 25 0 [] [], -1) else (.mk op n s args, IntKind.i64.wrap (k - 1))) else (.mk op n s (replL args k).1, (replL args k).2)
def replL : List E → Int → List E × Int
  | [], k => ([], k)
  | x :: l, k => if decide (0 ≤ k) = true then ((replS x k).1 :: (replL l (replS x k).2).1, (replL l (replS x k).2).2) else (x :: (replL l k).1, (replL l k).2)
end
theorem replL_append : ∀ (l m : List E) (k : Int), replL (l ++ m) k = ((replL l k).1 ++ (replL m (replL l k).2).1, (replL m (replL l k).2).2)
  | [], m, k => by simp [replL]
  | x :: l, m, k => by
    simp only [List.cons_append, replL]
    split
    · rw [replL_append l m]; rfl
    · rw [replL_append l m]; rfl
theorem replL_len : ∀ (l : List E) (k : Int), (replL l k).1.length = l.length
  | [], k => by simp [replL]
  | x :: l, k => by
    simp only [replL]
    split
    · simp [replL_len l]
    · simp [replL_len l]
theorem afin_grownT {f : FuncId} (ho : D.own f = false) (A : AHeap) (e sz : Nat) (rows : List (List Dat)) (a b c : Dat) (k : Dat) :
    afinR D f A (agrow A e sz rows).2 (some (.tuple [.agg [.d a, .d b, .d c, (agrow A e sz rows).1], .d k])) = some (.tuple [.agg [.d a, .d b, .d c, .d (.slice rows)], .d k], A) := by
  simp only [afinR, Option.map_some, afinish, ho, Bool.false_eq_true, if_false]
  unfold agrow
  by_cases h1 : rows = []
  · subst h1
    simp only [if_true, acleanR, acleanVs, acleanV, acleans, aclean]
    rw [acut_same rfl]
  · simp only [if_neg h1, acleanR, acleanVs, acleanV, acleans, aclean, arows]
    simp only [List.getElem?_append_right (Nat.le_refl _), Nat.sub_self, List.getElem?_cons_zero, if_true]
    unfold acut
    simp [AHeap.freeze, AV.noptr, AV.noptr2, AV.noptr1]
    rw [List.take_modify_front]
theorem replaced12 : ∀ e, E.Ok e → ∀ (k : Int) (A : AHeap), acl D 19 [E.av e, .d (.int .i64 k)] A = some (.tuple [E.av (replS e k).1, .d (.int .i64 (replS e k).2)], A) := by
  intro e
  induction e using E.ind with
  | h op n s args ih =>
    intro hok k A
    have hlen := hok.fit
    rw [k_call (c := D) (f := 19) rfl Try.func19 rfl (ok 19 (by kernel_rfl)) rfl Try.ntmps19 Try.results19 (by simp)]
    cases h1 : decide (op = 1) with
    | true =>
      simp only [replS, h1, if_true]
      cases h2 : decide (k = 0) with
      | true =>
        simp (maxSteps := 1000000) +contextual only [go_sem, acondK_bool, acB_merge, Nat.reduceLT, Nat.reduceLeDiff, Nat.reduceEqDiff, Nat.reduceAdd, Nat.reduceSub, Nat.reduceMul, Nat.reduceBEq, Nat.reduceBNe, Nat.reduceBneDiff, Nat.reduceBeqDiff, Int.reduceToNat, Int.reduceLE, Int.reduceLT, Int.reduceEq, Int.reduceNe, Int.reduceNeg, Int.reduceAdd, Int.reduceSub, ↓reduceIte, reduceCtorEq, List.getElem?_toArray, List.getElem?_cons_zero, List.getElem?_cons_succ, List.length_cons, List.length_nil, List.take_succ_cons, List.take_zero, List.drop_succ_cons, List.drop_zero, List.drop_nil, List.take_nil, List.nil_append, List.cons_append, List.append_nil, List.contains_cons, List.contains_nil, Bool.or_false, Bool.false_or, Bool.or_true, Bool.true_or, Bool.and_true, Bool.true_and, Bool.and_false, Bool.false_and, Bool.not_true, Bool.not_false, Bool.not_not, Option.isSome_some, Option.isSome_none, List.map_cons, List.map_nil, ite_not, not_true_eq_false, not_false_eq_true, Nat.zero_add, Nat.add_zero, h1, h2, k_drawn_t]
        rfl
      | false => simp (maxSteps := 1000000) +contextual only [go_sem, acondK_bool, acB_merge, Nat.reduceLT, Nat.reduceLeDiff, Nat.reduceEqDiff, Nat.reduceAdd, Nat.reduceSub, Nat.reduceMul, Nat.reduceBEq, Nat.reduceBNe, Nat.reduceBneDiff, Nat.reduceBeqDiff, Int.reduceToNat, Int.reduceLE, Int.reduceLT, Int.reduceEq, Int.reduceNe, Int.reduceNeg, Int.reduceAdd, Int.reduceSub, ↓reduceIte, reduceCtorEq, List.getElem?_toArray, List.getElem?_cons_zero, List.getElem?_cons_succ, List.length_cons, List.length_nil, List.take_succ_cons, List.take_zero, List.drop_succ_cons, List.drop_zero, List.drop_nil, List.take_nil, List.nil_append, List.cons_append, List.append_nil, List.contains_cons, List.contains_nil, Bool.or_false, Bool.false_or, Bool.or_true, Bool.true_or, Bool.and_true, Bool.true_and, Bool.and_false, Bool.false_and, Bool.not_true, Bool.not_false, Bool.not_not, Option.isSome_some, Option.isSome_none, List.map_cons, List.map_nil, ite_not, not_true_eq_false, not_false_eq_true, Nat.zero_add, Nat.add_zero, h1, h2, k_drawn_t]
    | false =>
    simp only [replS, h1, Bool.false_eq_true, if_false]
    simp (maxSteps := 1000000) +contextual only [go_sem, acondK_bool, acB_merge, Nat.reduceLT, Nat.reduceLeDiff, Nat.reduceEqDiff, Nat.reduceAdd, Nat.reduceSub, Nat.reduceMul, Nat.reduceBEq, Nat.reduceBNe, Nat.reduceBneDiff, Nat.reduceBeqDiff, Int.reduceToNat, Int.reduceLE, Int.reduceLT, Int.reduceEq, Int.reduceNe, Int.reduceNeg, Int.reduceAdd, Int.reduceSub, ↓reduceIte, reduceCtorEq, List.getElem?_toArray, List.getElem?_cons_zero, List.getElem?_cons_succ, List.length_cons, List.length_nil, List.take_succ_cons, List.take_zero, List.drop_succ_cons, List.drop_zero, List.drop_nil, List.take_nil, List.nil_append, List.cons_append, List.append_nil, List.contains_cons, List.contains_nil, Bool.or_false, Bool.false_or, Bool.or_true, Bool.true_or, Bool.and_true, Bool.true_and, Bool.and_false, Bool.false_and, Bool.not_true, Bool.not_false, Bool.not_not, Option.isSome_some, Option.isSome_none, List.map_cons, List.map_nil, ite_not, not_true_eq_false, not_false_eq_true, Nat.zero_add, Nat.add_zero, h1, k_drawn_t]
    refine loop_any (fun pre => [(1, .v (.d (.int .i64 (replL pre k).2))), (7, .v (.d (.int .i64 (pre.length : Nat)))), (6, .box [.d (.int .i64 op), .d (.int .i64 n), .d (.str s), (grE A (replL pre k).1).1]),
        (2, .box [.d (.int .i64 op), .d (.int .i64 n), .d (.str s), .d (.slice (args.map E.row))]), (4, .box [.d (.int .i64 0), .d (.int .i64 0), .d (.str []), .nilS])])
      (fun pre => (grE A (replL pre k).1).2) (fun _ _ => some (.tuple [E.av (.mk op n s (replL args k).1), .d (.int .i64 (replL args k).2)], A)) args (by simp [replL, grE, agrow]) (by simp [replL, grE, agrow]) rfl ?_
    intro pre suf hl ih2
    have hb : pre.length < 9223372036854775807 := by rw [hl] at hlen; simp at hlen; omega
    cases suf with
    | nil =>
      rw [List.append_nil] at hl
      subst hl
      have hf := afin_grownT (f := 19) rfl A 24 4 ((replL args k).1.map E.row) (.int .i64 op) (.int .i64 n) (.str s) (.int .i64 (replL args k).2)
      simp (maxSteps := 1000000) +contextual only [go_sem, acondK_bool, acB_merge, Nat.reduceLT, Nat.reduceLeDiff, Nat.reduceEqDiff, Nat.reduceAdd, Nat.reduceSub, Nat.reduceMul, Nat.reduceBEq, Nat.reduceBNe, Nat.reduceBneDiff, Nat.reduceBeqDiff, Int.reduceToNat, Int.reduceLE, Int.reduceLT, Int.reduceEq, Int.reduceNe, Int.reduceNeg, Int.reduceAdd, Int.reduceSub, ↓reduceIte, reduceCtorEq, List.getElem?_toArray, List.getElem?_cons_zero, List.getElem?_cons_succ, List.length_cons, List.length_nil, List.take_succ_cons, List.take_zero, List.drop_succ_cons, List.drop_zero, List.drop_nil, List.take_nil, List.nil_append, List.cons_append, List.append_nil, List.contains_cons, List.contains_nil, Bool.or_false, Bool.false_or, Bool.or_true, Bool.true_or, Bool.and_true, Bool.true_and, Bool.and_false, Bool.false_and, Bool.not_true, Bool.not_false, Bool.not_not, Option.isSome_some, Option.isSome_none, List.map_cons, List.map_nil, ite_not, not_true_eq_false, not_false_eq_true, Nat.zero_add, Nat.add_zero, one_grow, cells_grow, hf, k_drawn_t]
    | cons x suf =>
      have hx : x ∈ args := by rw [hl]; simp
      have e2 := ih2 x suf rfl
      rw [List.length_append, List.length_cons, List.length_nil, replL_append] at e2
      have e3 : (args.map E.row)[pre.length]? = some (E.row x) := by rw [hl]; exact map_mid
      have e4 : decide ((pre.length : Int) < (args.length : Int)) = true := by rw [hl]; simp; omega
      rw [E.row_eq] at e3
      have hpl : (replL pre k).1.length ≤ 4194303 := by rw [replL_len]; rw [hl] at hlen; simp at hlen; omega
      generalize replL pre k = st at *
      obtain ⟨out, k1⟩ := st
      have e1 := ih x hx (hok.arg x hx) k1 (grE A out).2
      cases h2 : decide (0 ≤ k1) with
      | true =>
        have g1 : replL [x] k1 = ([(replS x k1).1], (replS x k1).2) := by simp only [replL, h2, if_true]
        rw [g1] at e2
        dsimp only at e2
        have e5 := grE_append A out (replS x k1).1 hpl
        rw [E.row_eq] at e5
        simp (maxSteps := 1000000) +contextual only [go_sem, acondK_bool, acB_merge, Nat.reduceLT, Nat.reduceLeDiff, Nat.reduceEqDiff, Nat.reduceAdd, Nat.reduceSub, Nat.reduceMul, Nat.reduceBEq, Nat.reduceBNe, Nat.reduceBneDiff, Nat.reduceBeqDiff, Int.reduceToNat, Int.reduceLE, Int.reduceLT, Int.reduceEq, Int.reduceNe, Int.reduceNeg, Int.reduceAdd, Int.reduceSub, ↓reduceIte, reduceCtorEq, List.getElem?_toArray, List.getElem?_cons_zero, List.getElem?_cons_succ, List.length_cons, List.length_nil, List.take_succ_cons, List.take_zero, List.drop_succ_cons, List.drop_zero, List.drop_nil, List.take_nil, List.nil_append, List.cons_append, List.append_nil, List.contains_cons, List.contains_nil, Bool.or_false, Bool.false_or, Bool.or_true, Bool.true_or, Bool.and_true, Bool.true_and, Bool.and_false, Bool.false_and, Bool.not_true, Bool.not_false, Bool.not_not, Option.isSome_some, Option.isSome_none, List.map_cons, List.map_nil, ite_not, not_true_eq_false, not_false_eq_true, Nat.zero_add, Nat.add_zero, e3, e4, e1, e5, h2, one_grow, cells_grow, k_drawn_t]
        simp (maxSteps := 1000000) +contextual only [go_sem, acondK_bool, acB_merge, Nat.reduceLT, Nat.reduceLeDiff, Nat.reduceEqDiff, Nat.reduceAdd, Nat.reduceSub, Nat.reduceMul, Nat.reduceBEq, Nat.reduceBNe, Nat.reduceBneDiff, Nat.reduceBeqDiff, Int.reduceToNat, Int.reduceLE, Int.reduceLT, Int.reduceEq, Int.reduceNe, Int.reduceNeg, Int.reduceAdd, Int.reduceSub, ↓reduceIte, reduceCtorEq, List.getElem?_toArray, List.getElem?_cons_zero, List.getElem?_cons_succ, List.length_cons, List.length_nil, List.take_succ_cons, List.take_zero, List.drop_succ_cons, List.drop_zero, List.drop_nil, List.take_nil, List.nil_append, List.cons_append, List.append_nil, List.contains_cons, List.contains_nil, Bool.or_false, Bool.false_or, Bool.or_true, Bool.true_or, Bool.and_true, Bool.true_and, Bool.and_false, Bool.false_and, Bool.not_true, Bool.not_false, Bool.not_not, Option.isSome_some, Option.isSome_none, List.map_cons, List.map_nil, ite_not, not_true_eq_false, not_false_eq_true, Nat.zero_add, Nat.add_zero, e2, wrap_nat hb]
      | false =>
        have g1 : replL [x] k1 = ([x], k1) := by simp only [replL, h2, Bool.false_eq_true, if_false]
        rw [g1] at e2
        dsimp only at e2
        have e5 := grE_append A out x hpl
        rw [E.row_eq] at e5
        simp (maxSteps := 1000000) +contextual only [go_sem, acondK_bool, acB_merge, Nat.reduceLT, Nat.reduceLeDiff, Nat.reduceEqDiff, Nat.reduceAdd, Nat.reduceSub, Nat.reduceMul, Nat.reduceBEq, Nat.reduceBNe, Nat.reduceBneDiff, Nat.reduceBeqDiff, Int.reduceToNat, Int.reduceLE, Int.reduceLT, Int.reduceEq, Int.reduceNe, Int.reduceNeg, Int.reduceAdd, Int.reduceSub, ↓reduceIte, reduceCtorEq, List.getElem?_toArray, List.getElem?_cons_zero, List.getElem?_cons_succ, List.length_cons, List.length_nil, List.take_succ_cons, List.take_zero, List.drop_succ_cons, List.drop_zero, List.drop_nil, List.take_nil, List.nil_append, List.cons_append, List.append_nil, List.contains_cons, List.contains_nil, Bool.or_false, Bool.false_or, Bool.or_true, Bool.true_or, Bool.and_true, Bool.true_and, Bool.and_false, Bool.false_and, Bool.not_true, Bool.not_false, Bool.not_not, Option.isSome_some, Option.isSome_none, List.map_cons, List.map_nil, ite_not, not_true_eq_false, not_false_eq_true, Nat.zero_add, Nat.add_zero, e3, e4, e5, h2, one_grow, cells_grow, k_drawn_t]
        simp (maxSteps := 1000000) +contextual only [go_sem, acondK_bool, acB_merge, Nat.reduceLT, Nat.reduceLeDiff, Nat.reduceEqDiff, Nat.reduceAdd, Nat.reduceSub, Nat.reduceMul, Nat.reduceBEq, Nat.reduceBNe, Nat.reduceBneDiff, Nat.reduceBeqDiff, Int.reduceToNat, Int.reduceLE, Int.reduceLT, Int.reduceEq, Int.reduceNe, Int.reduceNeg, Int.reduceAdd, Int.reduceSub, ↓reduceIte, reduceCtorEq, List.getElem?_toArray, List.getElem?_cons_zero, List.getElem?_cons_succ, List.length_cons, List.length_nil, List.take_succ_cons, List.take_zero, List.drop_succ_cons, List.drop_zero, List.drop_nil, List.take_nil, List.nil_append, List.cons_append, List.append_nil, List.contains_cons, List.contains_nil, Bool.or_false, Bool.false_or, Bool.or_true, Bool.true_or, Bool.and_true, Bool.true_and, Bool.and_false, Bool.false_and, Bool.not_true, Bool.not_false, Bool.not_not, Option.isSome_some, Option.isSome_none, List.map_cons, List.map_nil, ite_not, not_true_eq_false, not_false_eq_true, Nat.zero_add, Nat.add_zero, e2, wrap_nat hb]
end Go.Proofs.Ytjaplboahgokhaa
set_option linter.all false
namespace Go.Proofs.Ytjaplboahgokhaa
open Go.Abs
set_option maxRecDepth 10000
/-- nothing is replaced while the number stays at or above zero -/
theorem wrap_dec {k : Int} (h : 0 ≤ k) (h' : k ≤ 1000) : IntKind.i64.wrap (k - 1) = k - 1 := by rw [wrap_in] <;> omega
theorem node_int {op n : Int} {s : Bytes} {len : Nat} {d : Int} (h1 : op = 1) (h : nodeS op n s len d = 0) : nodeS 25 0 [] 0 d = 0 := by
  have := (nodeS_zero h).2.2.2.1
  unfold nodeS
  simp [ar]
  omega
mutual
/-- a valid expression stays valid, and as large -/
theorem repl_chk : ∀ (e : E) (k d : Int), chkE e d = 0 → chkE (replS e k).1 d = 0
  | .mk op n s args, k, d, h => by
    have h0 := (chkE_zero op n s args d).1 h
    unfold replS
    by_cases h1 : decide (op = 1) = true
    · rw [if_pos h1]
      by_cases h2 : decide (k = 0) = true
      · rw [if_pos h2]
        show chkE (.mk 25 0 [] []) d = 0
        rw [chkE_zero]
        exact ⟨node_int (by simpa using h1) h0.1, rfl⟩
      · rw [if_neg h2]; exact h
    · rw [if_neg h1]
      show chkE (.mk op n s (replL args k).1) d = 0
      rw [chkE_zero, replL_len]
      exact ⟨h0.1, repl_chks args k _ h0.2⟩
theorem repl_chks : ∀ (l : List E) (k d : Int), chkL l d = 0 → chkL (replL l k).1 d = 0
  | [], k, d, h => h
  | x :: l, k, d, h => by
    rw [chkL_cons] at h
    unfold replL
    by_cases h1 : decide (0 ≤ k) = true
    · rw [if_pos h1]
      show chkL (_ :: _) d = 0
      rw [chkL_cons]
      exact ⟨repl_chk x k d h.1, repl_chks l _ d h.2⟩
    · rw [if_neg h1]
      show chkL (_ :: _) d = 0
      rw [chkL_cons]
      exact ⟨h.1, repl_chks l k d h.2⟩
end
mutual
theorem repl_vis : ∀ (e : E) (k d : Int) (r : Bool), chkE e d = 0 → (visE (replS e k).1 r).length = (visE e r).length
  | .mk op n s args, k, d, r, h => by
    have h0 := (chkE_zero op n s args d).1 h
    unfold replS
    by_cases h1 : decide (op = 1) = true
    · rw [if_pos h1]
      have h1' : op = 1 := by simpa using h1
      have ha : args = [] := by
        have := (nodeS_zero h0.1).2.2.1
        subst h1'
        simp [ar] at this
        exact this
      subst ha
      by_cases h2 : decide (k = 0) = true
      · rw [if_pos h2]; rfl
      · rw [if_neg h2]
    · rw [if_neg h1]
      show (visE (.mk op n s (replL args k).1) r).length = _
      rw [visE_len, visE_len]
      exact congrArg (· + 1) (repl_viss args k _ h0.2)
theorem repl_viss : ∀ (l : List E) (k d : Int), chkL l d = 0 → (visEs (replL l k).1).length = (visEs l).length
  | [], k, d, h => rfl
  | x :: l, k, d, h => by
    rw [chkL_cons] at h
    unfold replL
    by_cases h1 : decide (0 ≤ k) = true
    · rw [if_pos h1]
      simp only [visEs, List.length_append, repl_vis x k d false h.1, repl_viss l _ d h.2]
    · rw [if_neg h1]
      simp only [visEs, List.length_append, repl_viss l k d h.2]
end
mutual
/-- its type is the same -/
theorem repl_of (lk : Bytes → Option Int) : ∀ (e : E) (k d : Int), chkE e d = 0 → ofE lk (replS e k).1 = ofE lk e
  | .mk op n s args, k, d, h => by
    have h0 := (chkE_zero op n s args d).1 h
    unfold replS
    by_cases h1 : decide (op = 1) = true
    · rw [if_pos h1]
      have h1' : op = 1 := by simpa using h1
      have ha : args = [] := by
        have := (nodeS_zero h0.1).2.2.1
        subst h1'
        simp [ar] at this
        exact this
      subst ha
      subst h1'
      by_cases h2 : decide (k = 0) = true
      · rw [if_pos h2]; rfl
      · rw [if_neg h2]
    · rw [if_neg h1]
      simp only [ofE, repl_ofs lk op args k _ h0.2]
theorem repl_ofs (lk : Bytes → Option Int) (op : Int) : ∀ (l : List E) (k d : Int), chkL l d = 0 → ∀ ts, ofL lk op ts (replL l k).1 = ofL lk op ts l
  | [], k, d, h, ts => rfl
  | x :: l, k, d, h, ts => by
    rw [chkL_cons] at h
    unfold replL
    by_cases h1 : decide (0 ≤ k) = true
    · rw [if_pos h1]
      simp only [ofL, repl_of lk x k d h.1, repl_ofs lk op l _ d h.2]
    · rw [if_neg h1]
      simp only [ofL, repl_ofs lk op l k d h.2]
end
def fine (o : Int) : Bool := !(ndS o) || decide (o = 25)
mutual
/-- what is nondeterministic then is now; below zero it is there -/
theorem repl_ops : ∀ (e : E) (k : Int), 0 ≤ k → k ≤ 1000 → ((opsE e).any ndS = false → (opsE (replS e k).1).all fine = true) ∧ (-1 ≤ (replS e k).2 ∧ (replS e k).2 ≤ 1000) ∧ ((replS e k).2 < 0 → (opsE (replS e k).1).any ndS = true)
  | .mk op n s args, k, h0, hk => by
    unfold replS
    by_cases h1 : decide (op = 1) = true
    · rw [if_pos h1]
      have h1' : op = 1 := by simpa using h1
      by_cases h2 : decide (k = 0) = true
      · rw [if_pos h2]
        exact ⟨fun _ => rfl, by decide, fun _ => rfl⟩
      · rw [if_neg h2]
        have h2' : ¬ k = 0 := by simpa using h2
        refine ⟨fun h => ?_, ?_, fun h' => ?_⟩
        · rw [List.all_eq_true]
          intro o ho
          have := List.any_eq_false.1 h o ho
          simp [fine, this]
        · show -1 ≤ IntKind.i64.wrap (k - 1) ∧ IntKind.i64.wrap (k - 1) ≤ 1000
          rw [wrap_dec h0 hk]; omega
        · have h'' : IntKind.i64.wrap (k - 1) < 0 := h'
          rw [wrap_dec h0 hk] at h''
          omega
    · rw [if_neg h1]
      obtain ⟨a1, a2, a3⟩ := repl_opss args k (by omega) hk
      refine ⟨fun h => ?_, a2, fun h' => ?_⟩
      · rw [opsE, List.any_cons, Bool.or_eq_false_iff] at h
        show (opsE (.mk op n s (replL args k).1)).all fine = true
        rw [opsE, List.all_cons, Bool.and_eq_true]
        exact ⟨by simp [fine, h.1], a1 h.2⟩
      · show (opsE (.mk op n s (replL args k).1)).any ndS = true
        rw [opsE, List.any_cons, a3 h0 h', Bool.or_true]
theorem repl_opss : ∀ (l : List E) (k : Int), -1 ≤ k → k ≤ 1000 → ((opsEs l).any ndS = false → (opsEs (replL l k).1).all fine = true) ∧ (-1 ≤ (replL l k).2 ∧ (replL l k).2 ≤ 1000) ∧ (0 ≤ k → (replL l k).2 < 0 → (opsEs (replL l k).1).any ndS = true)
  | [], k, h0, hk => ⟨fun _ => rfl, ⟨h0, hk⟩, fun h h' => by simp [replL] at h'; omega⟩
  | x :: l, k, h0, hk => by
    unfold replL
    have old : (opsE x).any ndS = false → (opsE x).all fine = true := fun h => by
      rw [List.all_eq_true]
      intro o ho
      have := List.any_eq_false.1 h o ho
      simp [fine, this]
    by_cases h1 : decide (0 ≤ k) = true
    · rw [if_pos h1]
      obtain ⟨a1, a2, a3⟩ := repl_ops x k (by simpa using h1) hk
      obtain ⟨b1, b2, b3⟩ := repl_opss l (replS x k).2 a2.1 a2.2
      refine ⟨fun h => ?_, b2, fun h h' => ?_⟩
      · rw [opsEs, List.any_append, Bool.or_eq_false_iff] at h
        rw [opsEs, List.all_append, Bool.and_eq_true]
        exact ⟨a1 h.1, b1 h.2⟩
      · rw [opsEs, List.any_append]
        by_cases h3 : (replS x k).2 < 0
        · rw [a3 h3, Bool.true_or]
        · rw [b3 (by omega) h', Bool.or_true]
    · rw [if_neg h1]
      obtain ⟨b1, b2, b3⟩ := repl_opss l k h0 hk
      refine ⟨fun h => ?_, b2, fun h h' => ?_⟩
      · rw [opsEs, List.any_append, Bool.or_eq_false_iff] at h
        rw [opsEs, List.all_append, Bool.and_eq_true]
        exact ⟨old h.1, b1 h.2⟩
      · simp at h1; omega
end
end Go.Proofs.Ytjaplboahgokhaa
set_option linter.all false
namespace Go.Proofs.Ytjaplboahgokhaa
open Go.Abs
set_option maxRecDepth 10000
def setA (x : Stm) (e : E) : Stm := .mk x.op x.name x.max e x.b x.body x.els
theorem absE_op {e : E} (h : absE e = true) : e.op = 0 ∧ e.args = [] := by
  obtain ⟨op, n, s, args⟩ := e
  simp [absentS] at h
  exact ⟨h.1.1.1, h.2⟩
theorem repl_absent {e : E} {k : Int} (h : absE e = true) (hk : 0 ≤ k) : 0 ≤ (replS e k).2 := by
  obtain ⟨op, n, s, args⟩ := e
  obtain ⟨h1, h2⟩ := absE_op h
  change op = 0 at h1
  change args = [] at h2
  subst h1 h2
  exact hk
theorem chk_present {e : E} {d : Int} (h : chkE e d = 0) : absE e = false := by
  cases h1 : absE e with
  | false => rfl
  | true =>
    obtain ⟨op, n, s, args⟩ := e
    obtain ⟨h1, h2⟩ := absE_op h1
    change op = 0 at h1
    subst h1
    have := (nodeS_zero ((chkE_zero _ _ _ _ _).1 h).1).2.1
    simp [ar] at this
theorem stmt_setA {x : Stm} {d : Int} {e : E} (h : stmtS x d = 0) (hA : uA x.op = true) (he : chkE e 1 = 0) : stmtS (setA x e) d = 0 := by
  unfold stmtS at h ⊢
  have b1 : badF (uN x.op) (uA x.op) (uB x.op) (uM x.op) (uBo x.op) (uO x.op) (setA x e) = badF (uN x.op) (uA x.op) (uB x.op) (uM x.op) (uBo x.op) (uO x.op) x := by
    unfold badF
    rw [hA]
    rfl
  have b2 : maxOk (setA x e) = maxOk x := rfl
  have b3 : (setA x e).op = x.op := rfl
  have b4 : (setA x e).a = e := rfl
  have b5 : (setA x e).b = x.b := rfl
  have b6 : (setA x e).name = x.name := rfl
  rw [b3, b1, b2, b4, b5, b6]
  split at h
  · cases h
  · rename_i h1
    rw [if_neg h1]
    split at h
    · cases h
    · rename_i h2
      rw [if_neg h2]
      split at h
      · rename_i h3; rw [h] at h3; simp at h3
      · rw [if_neg (by rw [he]; simp)]
        exact h
/-- how the walk over the procedure is cut in two -/
theorem vis_cut (pre suf : List Stm) (x : Stm) (h : absE x.a = false) : visSs (pre ++ x :: suf) 1 = visSs pre 1 ++ (Vis.s x 1 :: (visE x.a true ++ ((if absE x.b = true then [] else visE x.b true) ++ (visSs x.body 2 ++ visSs x.els 2) ++ visSs suf 1))) := by
  rw [visSs_append, visSs]
  obtain ⟨op, name, max, a, b, body, els⟩ := x
  have w : IntKind.i64.wrap (1 + 1) = 2 := by decide
  simp only [visS, w]
  rw [if_neg (by rw [show absE a = false from h]; decide)]
  simp only [List.cons_append, List.append_assoc]
theorem setA_vld {p : Pr} {pre suf : List Stm} {x : Stm} {e : E} {k : Int} (V : Vld p) (hp : p.body = pre ++ x :: suf) (hx : absE x.a = false) (hA : uA x.op = true) (ha : chkE x.a 1 = 0) (he : e = (replS x.a k).1) :
    Vld ⟨p.name, p.params, pre ++ setA x e :: suf⟩ := by
  have hc : chkE e 1 = 0 := by rw [he]; exact repl_chk _ _ _ ha
  have hl : (visE e true).length = (visE x.a true).length := by rw [he]; exact repl_vis _ _ _ _ ha
  have c1 := vis_cut pre suf x hx
  have c2 := vis_cut pre suf (setA x e) (chk_present hc)
  refine ⟨V.name, V.prm, ?_, ?_⟩
  · intro y d hy
    show stmtS y d = 0
    change Vis.s y d ∈ visSs (pre ++ setA x e :: suf) 1 at hy
    rw [c2] at hy
    have key : ∀ y d, Vis.s y d ∈ visSs p.body 1 → stmtS y d = 0 := V.stm
    rw [hp, c1] at key
    rcases List.mem_append.1 hy with h | h
    · exact key y d (List.mem_append_left _ h)
    · rcases List.mem_cons.1 h with h | h
      · cases h
        exact stmt_setA (key x 1 (List.mem_append_right _ (List.mem_cons_self ..))) hA hc
      · rcases List.mem_append.1 h with h | h
        · obtain ⟨z, q, hz⟩ := visE_all e true _ h
          cases hz
        · exact key y d (List.mem_append_right _ (List.mem_cons_of_mem _ (List.mem_append_right _ h)))
  · have h1 := V.len
    rw [hp, c1] at h1
    show (visSs (pre ++ setA x e :: suf) 1).length ≤ 400
    rw [c2]
    simp only [List.length_append, List.length_cons] at h1 ⊢
    show _ + ((visE e true).length + _ + 1) ≤ 400
    rw [hl]
    exact h1
theorem opsS_setA {x : Stm} {k : Int} (ha : chkE x.a 1 = 0) (lk : Bytes → Option Int) : opsS lk (setA x (replS x.a k).1) = opsS lk x := by
  obtain ⟨op, name, max, a, b, body, els⟩ := x
  unfold opsS setA
  simp only [repl_of lk a k 1 ha]
theorem stP_setA {x : Stm} {k : Int} (ha : chkE x.a 1 = 0) (s : CkS) : stP s (setA x (replS x.a k).1) = stP s x := by
  have h := opsS_setA (k := k) ha s.vis.get
  obtain ⟨op, name, max, a, b, body, els⟩ := x
  unfold setA at h ⊢
  unfold stP
  simp only [h]
theorem blP_setA {x : Stm} {k : Int} (ha : chkE x.a 1 = 0) (suf : List Stm) : ∀ (pre : List Stm) (s : CkS), blP s (pre ++ setA x (replS x.a k).1 :: suf) = blP s (pre ++ x :: suf)
  | [], s => by simp only [List.nil_append, blP_cons, stP_setA ha]
  | y :: pre, s => by
    simp only [List.cons_append, blP_cons]
    rw [blP_setA ha suf pre]
theorem dels_setA {x : Stm} {e : E} (suf : List Stm) : ∀ (pre : List Stm) (m : NM), dels m (pre ++ setA x e :: suf) = dels m (pre ++ x :: suf)
  | [], m => rfl
  | y :: pre, m => by
    simp only [List.cons_append, dels]
    exact dels_setA suf pre _
theorem names_setA {x : Stm} {e : E} (d : Int) (suf : List Stm) : ∀ (pre : List Stm), namesV (visSs (pre ++ setA x e :: suf) d) = namesV (visSs (pre ++ x :: suf) d) := by
  intro pre
  rw [visSs_append, visSs_append, namesV_append, namesV_append, visSs, visSs, namesV_append, namesV_append]
  obtain ⟨op, name, max, a, b, body, els⟩ := x
  unfold setA
  rw [names_visS, names_visS]
theorem chk_setA {p : Pr} {pre suf : List Stm} {x : Stm} {k : Int} (V : Vld p) (hp : p.body = pre ++ x :: suf) (hx : absE x.a = false) (hA : uA x.op = true) (ha : chkE x.a 1 = 0) (hc : chkS p = 0) :
    chkS ⟨p.name, p.params, pre ++ setA x (replS x.a k).1 :: suf⟩ = 0 := by
  have V2 := setA_vld (k := k) V hp hx hA ha rfl
  have v1 := (valS_zero _).2 V2
  have v0 := (valS_zero _).2 V
  have hn : namesS ⟨p.name, p.params, pre ++ setA x (replS x.a k).1 :: suf⟩ = namesS p := by
    unfold namesS paramNames
    rw [V2.vis, V.vis, hp]
    show _ ++ namesV (visSs (pre ++ setA x (replS x.a k).1 :: suf) 1) = _
    rw [names_setA]
  have hpre : preErr ⟨p.name, p.params, pre ++ setA x (replS x.a k).1 :: suf⟩ = preErr p := by
    unfold preErr
    rw [v1, v0, hn]
  have hck : (ckB ⟨p.name, p.params, pre ++ setA x (replS x.a k).1 :: suf⟩).1 = (ckB p).1 := by
    unfold ckB endB ck0
    show (if decide ((blP _ (pre ++ setA x (replS x.a k).1 :: suf)).1 = 0) = true then _ else _ : Int × CkS).1 = _
    rw [blP_setA ha, hp]
    split <;> rfl
  unfold chkS at hc ⊢
  rw [hpre, hck]
  exact hc
theorem fst_fine : ∀ (l : List Int) (n : Nat), l.any ndS = true → l.all fine = true → (fstS l n).1 = 25 ∧ (fstS l n).2.2 = true
  | [], n, h, _ => by simp at h
  | x :: l, n, h, h2 => by
    rw [List.all_cons, Bool.and_eq_true] at h2
    rw [List.any_cons] at h
    rw [fstS]
    cases hx : ndS x with
    | true =>
      rw [if_pos rfl]
      refine ⟨?_, rfl⟩
      have := h2.1
      unfold fine at this
      rw [hx] at this
      simpa using this
    | false =>
      rw [if_neg (by decide)]
      exact fst_fine l (n + 1) (by rw [hx] at h; simpa using h) h2.2
theorem any_fine {l : List Int} (h : l.any ndS = false) : l.all fine = true := by
  rw [List.all_eq_true]
  intro o ho
  have := List.any_eq_false.1 h o ho
  simp [fine, this]
theorem fst_setA {p : Pr} {pre suf : List Stm} {x : Stm} {k : Int} (V : Vld p) (hp : p.body = pre ++ x :: suf) (hx : absE x.a = false) (hA : uA x.op = true) (ha : chkE x.a 1 = 0) (hf : (fstP p).2.2 = false)
    (h0 : 0 ≤ k) (hk : k ≤ 1000) (hr : (replS x.a k).2 < 0) : (fstP ⟨p.name, p.params, pre ++ setA x (replS x.a k).1 :: suf⟩).1 = 25 ∧ (fstP ⟨p.name, p.params, pre ++ setA x (replS x.a k).1 :: suf⟩).2.2 = true := by
  have V2 := setA_vld (k := k) V hp hx hA ha rfl
  have v1 := (valS_zero _).2 V2
  have v0 := (valS_zero _).2 V
  have hc : chkE (replS x.a k).1 1 = 0 := repl_chk _ _ _ ha
  obtain ⟨a1, _, a3⟩ := repl_ops x.a k h0 hk
  unfold fstP at hf ⊢
  rw [if_pos v0, fst_found] at hf
  rw [if_pos v1]
  unfold exprsS at hf ⊢
  rw [V.vis, hp, vis_cut pre suf x hx] at hf
  rw [V2.vis]
  show (fstS (opsEs (rootsV (visSs (pre ++ setA x (replS x.a k).1 :: suf) 1))) 0).1 = 25 ∧ (fstS (opsEs (rootsV (visSs (pre ++ setA x (replS x.a k).1 :: suf) 1))) 0).2.2 = true
  rw [vis_cut pre suf (setA x (replS x.a k).1) (chk_present hc)]
  rw [rootsV_append, show ∀ l, rootsV (Vis.s x 1 :: l) = rootsV l from fun _ => rfl, rootsV_append, roots_visE, opsEs_append, opsEs_append, List.any_append, List.any_append, Bool.or_eq_false_iff, Bool.or_eq_false_iff] at hf
  rw [rootsV_append, show ∀ l, rootsV (Vis.s (setA x (replS x.a k).1) 1 :: l) = rootsV l from fun _ => rfl, rootsV_append, show (setA x (replS x.a k).1).a = (replS x.a k).1 from rfl, roots_visE, opsEs_append, opsEs_append]
  have e1 : ∀ e, opsEs [e] = opsE e := fun e => by simp [opsEs]
  rw [e1] at hf
  rw [e1]
  refine fst_fine _ _ ?_ ?_
  · rw [List.any_append, List.any_append, a3 hr]
    simp
  · rw [List.all_append, List.all_append, any_fine hf.1, a1 hf.2.1]
    exact any_fine hf.2.2
theorem det_zero {p : Pr} (h : detS p = 0) : chkS p = 0 ∧ (fstP p).2.2 = false := by
  unfold detS at h
  by_cases h1 : decide (chkS p = 0) = true
  · rw [if_pos h1] at h
    refine ⟨by simpa using h1, ?_⟩
    cases h2 : (fstP p).2.2 with
    | false => rfl
    | true => rw [h2, if_pos rfl] at h; cases h
  · rw [if_neg h1] at h
    rw [h] at h1
    exact absurd rfl h1
/-- what the law needs to know -/
theorem replaced_law {p : Pr} {pre suf : List Stm} {x : Stm} {k : Int} (hd : detS p = 0) (hp : p.body = pre ++ x :: suf) (h0 : 0 ≤ k) (hk : k ≤ 1000) (hr : (replS x.a k).2 < 0) :
    detS ⟨p.name, p.params, pre ++ setA x (replS x.a k).1 :: suf⟩ = 12 ∧ (fstP ⟨p.name, p.params, pre ++ setA x (replS x.a k).1 :: suf⟩).1 = 25 ∧ (fstP ⟨p.name, p.params, pre ++ setA x (replS x.a k).1 :: suf⟩).2.2 = true := by
  obtain ⟨hc, hf⟩ := det_zero hd
  have V := (valS_zero p).1 (chk_val hc)
  have hx : absE x.a = false := by
    cases h : absE x.a with
    | false => rfl
    | true => have := repl_absent h h0; omega
  have hm : Vis.s x 1 ∈ visSs p.body 1 := by
    rw [hp, vis_cut pre suf x hx]
    exact List.mem_append_right _ (List.mem_cons_self ..)
  have hs := stmtS_zero (V.stm x 1 hm)
  have hA : uA x.op = true := by
    cases h : uA x.op with
    | true => rfl
    | false => rw [hs.na h] at hx; cases hx
  have ha := hs.a hA
  have c1 := chk_setA (k := k) V hp hx hA ha hc
  obtain ⟨f1, f2⟩ := fst_setA (k := k) V hp hx hA ha hf h0 hk hr
  refine ⟨?_, f1, f2⟩
  unfold detS
  rw [c1, f2]
  rfl
end Go.Proofs.Ytjaplboahgokhaa
set_option linter.all false
namespace Go.Proofs.Ytjaplboahgokhaa
open Go.Abs
-- CTX D
attribute [local congr] ite_congr
set_option maxRecDepth 10000
/-- a call takes its arguments cleaned -/
theorem acl_cleanD {f : FuncId} {fn : Func} {code : Code} {args args' : List AV} {A A' : AHeap} (hg : D.ext f = none) (hf : D.P.funcs[f]? = some fn) (hb : fn.body = some code) (hk : fnOk D.P f = true) (hn : args.length ≤ fn.ntmps) (hn' : args'.length ≤ fn.ntmps)
    (ho : D.own f = false) (key : acleanVs A args = (args', A')) (key' : acleanVs A' args' = (args', A')) (h1 : A.objs = A'.objs) (h2 : A.bufs.length = A'.bufs.length) : acl D f args A = acl D f args' A' := by
  rw [acl_eq hg hf hb hk hn, acl_eq hg hf hb hk hn']
  simp only [ho, Bool.false_eq_true, if_false, key, key']
  congr 1
  funext x
  have : ∀ v, afinish D f A v x.2.2 = afinish D f A' v x.2.2 := by
    intro v
    unfold afinish
    simp only [ho, Bool.false_eq_true, if_false]
    exact acut_congr h1 h2 _ _
  simp only [this]
noncomputable def hpB (rows : List (List Dat)) (fr : Nat) : AHeap := ⟨[], [⟨40, 13, rows, fr⟩]⟩
theorem hp_fin {f : FuncId} (ho : D.own f = false) (rows : List (List Dat)) (fr : Nat) (b : Bool) : afinR D f A00 (hpB rows fr) (some (.d (.bool b))) = some (.d (.bool b), A00) :=
  afinR_buf (c := D) (A0 := A00) (bufs := [⟨40, 13, rows, fr⟩]) (v := .d (.bool b)) ho rfl
theorem hp_clean (rows : List (List Dat)) (fr : Nat) (a b : Dat) : acleanVs (hpB rows fr) [.agg [.d a, .d b, .own 0 rows.length]] = ([.agg [.d a, .d b, .d (.slice rows)]], hpB rows rows.length) := by
  simp [acleanVs, acleanV, acleans, aclean, arows, hpB, AHeap.freeze]
mutual
theorem repl_ok : ∀ (e : E) (k : Int), e.Ok → (replS e k).1.Ok
  | .mk op n s args, k, h => by
    unfold replS
    split
    · split
      · exact .mk 25 0 [] [] (by constructor <;> decide) (by constructor <;> decide) (by simp) (by simp) (by simp) (fun x hx => by cases hx)
      · exact h
    · have h2 := repl_oks args k (fun x hx => h.arg x hx)
      exact .mk op n s _ h.op h.n h.s (by rw [replL_len]; exact h.len) (by rw [replL_len]; exact h.fit) h2
theorem repl_oks : ∀ (l : List E) (k : Int), (∀ x ∈ l, x.Ok) → ∀ x ∈ (replL l k).1, x.Ok
  | [], k, h, x, hx => by cases hx
  | y :: l, k, h, x, hx => by
    unfold replL at hx
    split at hx
    · rcases List.mem_cons.1 hx with rfl | hx
      · exact repl_ok y k (h y (List.mem_cons_self ..))
      · exact repl_oks l _ (fun z hz => h z (List.mem_cons_of_mem _ hz)) x hx
    · rcases List.mem_cons.1 hx with rfl | hx
      · exact h _ (List.mem_cons_self ..)
      · exact repl_oks l _ (fun z hz => h z (List.mem_cons_of_mem _ hz)) x hx
end
theorem setA_ok {x : Stm} {e : E} (h : x.Ok) (he : e.Ok) : (setA x e).Ok := by
  cases h
  rename_i op name max a b body els ho hm hn ha hb h1 h2 h5 h6 h3 h4
  exact .mk op name max e b body els ho hm hn he hb h1 h2 h5 h6 h3 h4
theorem lawReplaced (p : Pr) (at1 k1 : Int) (hp : p.Ok) (h1 : 0 ≤ at1 ∧ at1 ≤ 255) (h2 : 0 ≤ k1 ∧ k1 ≤ 255) : acl D 7 [Pr.av p, .d (.int .u8 at1), .d (.int .u8 k1)] A00 = some (.d (.bool true), A00) := by
  have d1 := detD p hp A00
  have w := works
  have v1 := up (validate p hp A00)
  rw [k_call (c := D) (f := 7) rfl Try.func7 rfl (ok 7 (by kernel_rfl)) rfl Try.ntmps7 Try.results7 (by simp)]
  cases c1 : decide (detS p = 0) with
  | false => simp (maxSteps := 1000000) only [go_sem, acondK_bool, acB_merge, Nat.reduceLT, Nat.reduceLeDiff, Nat.reduceEqDiff, Nat.reduceAdd, Nat.reduceSub, Nat.reduceMul, Nat.reduceBEq, Nat.reduceBNe, Nat.reduceBneDiff, Nat.reduceBeqDiff, Int.reduceToNat, Int.reduceLE, Int.reduceLT, Int.reduceEq, Int.reduceNe, Int.reduceNeg, Int.reduceAdd, Int.reduceSub, ↓reduceIte, reduceCtorEq, List.getElem?_toArray, List.getElem?_cons_zero, List.getElem?_cons_succ, List.length_cons, List.length_nil, List.take_succ_cons, List.take_zero, List.drop_succ_cons, List.drop_zero, List.drop_nil, List.take_nil, List.nil_append, List.cons_append, List.append_nil, List.contains_cons, List.contains_nil, Bool.or_false, Bool.false_or, Bool.or_true, Bool.true_or, Bool.and_true, Bool.true_and, Bool.and_false, Bool.false_and, Bool.not_true, Bool.not_false, Bool.not_not, Option.isSome_some, Option.isSome_none, List.map_cons, List.map_nil, ite_not, not_true_eq_false, not_false_eq_true, Nat.zero_add, Nat.add_zero, k_drawn_q, d1, c1, w]
  | true =>
  cases c2 : decide ((p.body.length : Int) = 0) with
  | true => simp (maxSteps := 1000000) only [go_sem, acondK_bool, acB_merge, Nat.reduceLT, Nat.reduceLeDiff, Nat.reduceEqDiff, Nat.reduceAdd, Nat.reduceSub, Nat.reduceMul, Nat.reduceBEq, Nat.reduceBNe, Nat.reduceBneDiff, Nat.reduceBeqDiff, Int.reduceToNat, Int.reduceLE, Int.reduceLT, Int.reduceEq, Int.reduceNe, Int.reduceNeg, Int.reduceAdd, Int.reduceSub, ↓reduceIte, reduceCtorEq, List.getElem?_toArray, List.getElem?_cons_zero, List.getElem?_cons_succ, List.length_cons, List.length_nil, List.take_succ_cons, List.take_zero, List.drop_succ_cons, List.drop_zero, List.drop_nil, List.take_nil, List.nil_append, List.cons_append, List.append_nil, List.contains_cons, List.contains_nil, Bool.or_false, Bool.false_or, Bool.or_true, Bool.true_or, Bool.and_true, Bool.true_and, Bool.and_false, Bool.false_and, Bool.not_true, Bool.not_false, Bool.not_not, Option.isSome_some, Option.isSome_none, List.map_cons, List.map_nil, ite_not, not_true_eq_false, not_false_eq_true, Nat.zero_add, Nat.add_zero, k_drawn_q, d1, c1, c2, w]
  | false =>
  have hne : 0 < p.body.length := by
    have : ¬ (p.body.length : Int) = 0 := by simpa using c2
    omega
  have ap : aappend Try.prog 40 13 A00 .nilS (p.body.map Stm.row) = some (.own 0 (p.body.length : Nat), hpB (p.body.map Stm.row) 0) := by
    have hb := hp.bfit
    unfold aappend
    rw [if_pos ⟨room_40_13, by rw [List.all_eq_true]; intro r hr; obtain ⟨y, _, rfl⟩ := List.mem_map.1 hr; rw [Stm.row_eq]; rfl⟩]
    have : ¬ p.body.map Stm.row = [] := by intro h; rw [List.map_eq_nil_iff] at h; rw [h] at hne; simp at hne
    simp only [if_neg this, List.length_map]
    rw [if_pos (by omega)]
    rfl
  have wr1 : IntKind.i64.wrap at1 = at1 := by rw [wrap_in] <;> omega
  obtain ⟨i, hi⟩ : ∃ i, i = at1.toNat % p.body.length := ⟨_, rfl⟩
  have hil : i < p.body.length := by rw [hi]; exact Nat.mod_lt _ hne
  have rm1 : abin Try.prog .rem 3 (.d (.int .i64 at1)) (.d (.int .i64 (p.body.length : Nat))) = some (.d (.int .i64 (i : Nat))) := by
    have e : at1.tmod (p.body.length : Nat) = (i : Nat) := by
      rw [Int.tmod_eq_emod_of_nonneg h1.1, hi, Int.natCast_emod, Int.toNat_of_nonneg h1.1]
    simp only [abin, aarith, if_true]
    rw [if_neg (by simpa using c2)]
    simp [e]
  have rm2 : abin Try.prog .rem 5 (.d (.int .u8 k1)) (.d (.int .u8 4)) = some (.d (.int .u8 (k1 % 4))) := by
    simp only [abin, aarith, if_true]
    rw [if_neg (by decide), Int.tmod_eq_emod_of_nonneg h2.1]
    rfl
  have hk0 : 0 ≤ k1 % 4 ∧ k1 % 4 ≤ 3 := by omega
  have wr2 : IntKind.i64.wrap (k1 % 4) = k1 % 4 := by rw [wrap_in] <;> omega
  generalize k1 % 4 = k at *
  obtain ⟨x, hx⟩ : ∃ x, p.body[i]? = some x := ⟨_, List.getElem?_eq_getElem hil⟩
  obtain ⟨pre, suf, hpb, hpl⟩ : ∃ pre suf, p.body = pre ++ x :: suf ∧ pre.length = i := by
    refine ⟨p.body.take i, p.body.drop (i + 1), ?_, by simp; omega⟩
    have hx2 : p.body[i] = x := by rw [List.getElem?_eq_getElem hil] at hx; simpa using hx
    rw [← hx2, List.getElem_cons_drop, List.take_append_drop]
  have hxo : x.Ok := hp.body x (by rw [hpb]; simp)
  have ix : aindex 13 (hpB (p.body.map Stm.row) 0) (i : Nat) (.own 0 p.body.length) = some (.eptr 0 p.body.length i 0) := by
    simp [aindex, hpB, hil]
  have rw1 : (p.body.map Stm.row)[i]? = some x.row := by rw [List.getElem?_map, hx]; rfl
  have ld : aload (hpB (p.body.map Stm.row) 0) 4 true (.eptr 0 p.body.length i 3) = some (E.av x.a) := by
    simp only [aload, hpB, List.getElem?_cons_zero, List.length_map, if_true, rw1]
    rw [Stm.row_eq]
    rfl
  have r1 := replaced12 x.a (Stm.Ok.a hxo) k (hpB (p.body.map Stm.row) 0)
  cases c3 : decide (0 ≤ (replS x.a k).2) with
  | true =>
    have fin := hp_fin (f := 7) rfl (p.body.map Stm.row) 0 true
    simp (maxSteps := 1000000) only [go_sem, acondK_bool, acB_merge, Nat.reduceLT, Nat.reduceLeDiff, Nat.reduceEqDiff, Nat.reduceAdd, Nat.reduceSub, Nat.reduceMul, Nat.reduceBEq, Nat.reduceBNe, Nat.reduceBneDiff, Nat.reduceBeqDiff, Int.reduceToNat, Int.reduceLE, Int.reduceLT, Int.reduceEq, Int.reduceNe, Int.reduceNeg, Int.reduceAdd, Int.reduceSub, ↓reduceIte, reduceCtorEq, List.getElem?_toArray, List.getElem?_cons_zero, List.getElem?_cons_succ, List.length_cons, List.length_nil, List.take_succ_cons, List.take_zero, List.drop_succ_cons, List.drop_zero, List.drop_nil, List.take_nil, List.nil_append, List.cons_append, List.append_nil, List.contains_cons, List.contains_nil, Bool.or_false, Bool.false_or, Bool.or_true, Bool.true_or, Bool.and_true, Bool.true_and, Bool.and_false, Bool.false_and, Bool.not_true, Bool.not_false, Bool.not_not, Option.isSome_some, Option.isSome_none, List.map_cons, List.map_nil, ite_not, not_true_eq_false, not_false_eq_true, Nat.zero_add, Nat.add_zero, k_drawn_t, d1, c1, c2, w, ap, wr1, wr2, rm1, rm2, ix, ld, r1, c3, fin]
  | false =>
    have hr : (replS x.a k).2 < 0 := by simpa using c3
    have hd : detS p = 0 := by simpa using c1
    obtain ⟨q1, q2, q3⟩ := replaced_law (k := k) hd hpb hk0.1 (by omega) hr
    have v0 : valS p = 0 := chk_val (det_zero hd).1
    have v2 := up (validate p hp (hpB (p.body.map Stm.row) 0))
    rw [v0] at v2
    have hqo : Pr.Ok ⟨p.name, p.params, pre ++ setA x (replS x.a k).1 :: suf⟩ := by
      refine ⟨hp.name, hp.plen, hp.params, ?_, ?_, hp.pfit, ?_⟩
      · have := hp.blen; rw [hpb] at this; simpa using this
      · intro y hy
        rcases List.mem_append.1 hy with h | h
        · exact hp.body y (by rw [hpb]; exact List.mem_append_left _ h)
        · rcases List.mem_cons.1 h with rfl | h
          · exact setA_ok hxo (repl_ok _ _ (Stm.Ok.a hxo))
          · exact hp.body y (by rw [hpb]; exact List.mem_append_right _ (List.mem_cons_of_mem _ h))
      · have := hp.bfit; rw [hpb] at this; simpa using this
    obtain ⟨rows', hrows⟩ : ∃ r, r = (pre ++ setA x (replS x.a k).1 :: suf).map Stm.row := ⟨_, rfl⟩
    have hrl : rows'.length = p.body.length := by rw [hrows, hpb]; simp
    have f1 := first_ops _ hqo (hpB rows' rows'.length)
    have g1 := detD _ hqo (hpB rows' rows'.length)
    rw [q1] at g1
    rw [q2, q3] at f1
    have cl := fun fr => hp_clean rows' fr (.str p.name) (.slice (p.params.map Pm.row))
    rw [hrl] at cl
    have av : Pr.av ⟨p.name, p.params, pre ++ setA x (replS x.a k).1 :: suf⟩ = .agg [.d (.str p.name), .d (.slice (p.params.map Pm.row)), .d (.slice rows')] := by rw [hrows]
    have f2 : acl D 15 [.agg [.d (.str p.name), .d (.slice (p.params.map Pm.row)), .own 0 p.body.length]] (hpB rows' 0) = some (.tuple [.d (.int .i64 25), .d (.int .i64 (fstP ⟨p.name, p.params, pre ++ setA x (replS x.a k).1 :: suf⟩).2.1), .d (.bool true)], hpB rows' rows'.length) := by
      rw [acl_ext (c := D) (f := 15) (g := outFn fstF) rfl] at f1 ⊢
      rw [← f1, av]
      unfold outFn
      rw [cl 0, hrl]
      rfl
    have g2 : acl D 14 [.agg [.d (.str p.name), .d (.slice (p.params.map Pm.row)), .own 0 p.body.length]] (hpB rows' rows'.length) = some (.d (.int .i64 12), hpB rows' rows'.length) := by
      rw [← g1, av]
      exact acl_cleanD rfl Try.func14 rfl (ok 14 (by kernel_rfl)) (by rw [Try.ntmps14]; simp) (by rw [Try.ntmps14]; simp) rfl (by rw [cl, hrl]) rfl rfl rfl
    have st : astore (hpB (p.body.map Stm.row) 0) [.d (.int .i64 (replS x.a k).1.op), .d (.int .i64 (replS x.a k).1.n), .d (.str (replS x.a k).1.s), .d (.slice ((replS x.a k).1.args.map E.row))] (.eptr 0 p.body.length i 3) = some (hpB rows' 0) := by
      simp only [astore, hpB, List.getElem?_cons_zero, List.length_map, rw1]
      rw [if_pos ⟨trivial, Nat.zero_le _⟩]
      have hset : (p.body.map Stm.row).set i (setA x (replS x.a k).1).row = rows' := by
        rw [hrows, hpb, ← hpl, List.map_append, List.map_append, List.map_cons, List.map_cons]
        have := List.set_append_right (s := pre.map Stm.row) (t := x.row :: suf.map Stm.row) pre.length (setA x (replS x.a k).1).row (by simp)
        rw [this]
        simp
      rw [← hset, Stm.row_eq, Stm.row_eq]
      rfl
    have fin := hp_fin (f := 7) rfl rows' rows'.length true
    simp (maxSteps := 1000000) only [go_sem, acondK_bool, acB_merge, Nat.reduceLT, Nat.reduceLeDiff, Nat.reduceEqDiff, Nat.reduceAdd, Nat.reduceSub, Nat.reduceMul, Nat.reduceBEq, Nat.reduceBNe, Nat.reduceBneDiff, Nat.reduceBeqDiff, Int.reduceToNat, Int.reduceLE, Int.reduceLT, Int.reduceEq, Int.reduceNe, Int.reduceNeg, Int.reduceAdd, Int.reduceSub, ↓reduceIte, reduceCtorEq, List.getElem?_toArray, List.getElem?_cons_zero, List.getElem?_cons_succ, List.length_cons, List.length_nil, List.take_succ_cons, List.take_zero, List.drop_succ_cons, List.drop_zero, List.drop_nil, List.take_nil, List.nil_append, List.cons_append, List.append_nil, List.contains_cons, List.contains_nil, Bool.or_false, Bool.false_or, Bool.or_true, Bool.true_or, Bool.and_true, Bool.true_and, Bool.and_false, Bool.false_and, Bool.not_true, Bool.not_false, Bool.not_not, Option.isSome_some, Option.isSome_none, List.map_cons, List.map_nil, ite_not, not_true_eq_false, not_false_eq_true, Nat.zero_add, Nat.add_zero, k_drawn_t, d1, c1, c2, w, ap, wr1, wr2, rm1, rm2, ix, ld, r1, c3, v2, one_own, cells_own, st, f2, g2, fin]
end Go.Proofs.Ytjaplboahgokhaa
