/- The walk over a procedure: the reference's list of visits. -/
import Derived.Test.YtfoibmfocmjmdaaWalk4
set_option linter.all false
set_option linter.unusedVariables false
set_option linter.unusedSimpArgs false
set_option linter.all false
set_option linter.deprecated false
namespace Go.Proofs.Ytfoibmfocmjmdaa
open Go.Abs
attribute [local congr] ite_congr
set_option maxRecDepth 10000
/-- the cells of a visit -/
def Vis.row : Vis → List Dat
  | .s x d => [.bool true, .int .i64 x.op, .str x.name, .int .i64 x.max, .int .i64 x.a.op, .int .i64 x.a.n, .str x.a.s, .slice (x.a.args.map E.row),
    .int .i64 x.b.op, .int .i64 x.b.n, .str x.b.s, .slice (x.b.args.map E.row), .slice (x.body.map Stm.row), .slice (x.els.map Stm.row), .int .i64 d, .int .i64 0, .int .i64 0, .str [], .slice [], .bool false]
  | .e y r => [.bool false, .int .i64 0, .str [], .int .i64 0, .int .i64 0, .int .i64 0, .str [], .slice [], .int .i64 0, .int .i64 0, .str [], .slice [], .slice [], .slice [], .int .i64 0,
    .int .i64 y.op, .int .i64 y.n, .str y.s, .slice (y.args.map E.row), .bool r]
/-- the slice of visits that grows -/
noncomputable abbrev gr (A : AHeap) (l : List Vis) : AV × AHeap := agrow A 67 20 (l.map Vis.row)
theorem gr_append (A : AHeap) (l : List Vis) (v : Vis) (h : l.length ≤ 400) :
    aappend Try.prog 67 20 (gr A l).2 (gr A l).1 [v.row] = some (gr A (l ++ [v])) := by
  have := agrow_append (P := Try.prog) (A := A) (ty := 67) (sz := 20) (rows := l.map Vis.row) (src := [v.row]) room_67_20 (by cases v <;> rfl) (by simp; omega)
  rw [this]
  unfold gr
  rw [List.map_append]
  rfl
theorem gr_afin {f : FuncId} (ho : C.own f = true) (A : AHeap) (l m : List Vis) : afinR C f (gr A l).2 (gr A (l ++ m)).2 (some (gr A (l ++ m)).1) = some (gr A (l ++ m)) :=
  afin_grow ho (by cases l <;> simp)
theorem gr_len (A A' : AHeap) (l : List Vis) : alen A' 2 (gr A l).1 = some l.length := by rw [alen_grow]; simp
theorem le_400 {n : Nat} (h : n ≤ 400) : decide ((400 : Int) < (n : Int)) = false := by simp; omega
theorem gt_400 {n : Nat} (h : ¬ n ≤ 400) : decide ((400 : Int) < (n : Int)) = true := by simp; omega
theorem le_400' {n : Nat} (h : n ≤ 400) : decide ((n : Int) ≤ 400) = true := by simp; omega
theorem gt_400' {n : Nat} (h : ¬ n ≤ 400) : decide ((n : Int) ≤ 400) = false := by simp; omega
/-- the visits that are added, as long as there are no more than 400 -/
def addE (l : List Vis) (m : List Vis) : List Vis := l ++ m.take (401 - l.length)
theorem addE_append (l m n : List Vis) : addE l (m ++ n) = addE (addE l m) n := by
  unfold addE
  rw [List.take_append, List.append_assoc, List.length_append, List.length_take]
  congr 3
  omega
theorem addE_le (l m : List Vis) (h : l.length ≤ 401) : (addE l m).length ≤ 401 := by
  unfold addE; simp; omega
theorem addE_nil (l : List Vis) : addE l [] = l := by simp [addE]
theorem addE_full (l m : List Vis) (h : ¬ l.length ≤ 400) : addE l m = l := by
  unfold addE
  rw [show 401 - l.length = 0 by omega]
  simp
theorem addE_pre (l m : List Vis) : ∃ n, addE l m = l ++ n := ⟨_, rfl⟩
theorem walkExpr : ∀ e, E.Ok e → ∀ (r : Bool) (l : List Vis) (A : AHeap), l.length ≤ 401 → acl C 97 [(gr A l).1, E.av e, .d (.bool r)] (gr A l).2 = some (gr A (addE l (visE e r))) := by
  intro e
  induction e using E.ind with
  | h op n s args ih =>
    intro hok r l A hl
    rw [k_call_own (c := C) (f := 97) rfl Try.func97 rfl (ok 97 (by kernel_rfl)) rfl Try.ntmps97 Try.results97 (by simp)]
    by_cases h4 : l.length ≤ 400
    · have e0 := gr_append A l (.e (.mk op n s args) r) h4
      simp only [Vis.row, E.op, E.n, E.s, E.args] at e0
      simp (maxSteps := 1000000) +contextual only [go_sem, acondK_bool, acB_merge, Nat.reduceLT, Nat.reduceLeDiff, Nat.reduceEqDiff, Nat.reduceAdd, Nat.reduceSub, Nat.reduceMul, Nat.reduceBEq, Nat.reduceBNe, Nat.reduceBneDiff, Nat.reduceBeqDiff, Int.reduceToNat, Int.reduceLE, Int.reduceLT, Int.reduceEq, Int.reduceNe, Int.reduceNeg, Int.reduceAdd, Int.reduceSub, ↓reduceIte, reduceCtorEq, List.getElem?_toArray, List.getElem?_cons_zero, List.getElem?_cons_succ, List.length_cons, List.length_nil, List.take_succ_cons, List.take_zero, List.drop_succ_cons, List.drop_zero, List.drop_nil, List.take_nil, List.nil_append, List.cons_append, List.append_nil, List.contains_cons, List.contains_nil, Bool.or_false, Bool.false_or, Bool.or_true, Bool.true_or, Bool.and_true, Bool.true_and, Bool.and_false, Bool.false_and, Bool.not_true, Bool.not_false, Bool.not_not, List.map_cons, List.map_nil, ite_not, not_true_eq_false, not_false_eq_true, Nat.zero_add, Nat.add_zero, gr_len, le_400 h4, e0, one_grow]
      have hv : addE l (visE (.mk op n s args) r) = addE (l ++ [.e (.mk op n s args) r]) (visEs args) := by
        have e1 : visE (.mk op n s args) r = [.e (.mk op n s args) r] ++ visEs args := by simp [visE]
        rw [e1, addE_append]
        congr 1
        unfold addE
        rw [List.take_of_length_le (by simp; omega)]
      rw [hv]
      generalize hl1 : l ++ [.e (.mk op n s args) r] = l1
      have hl1n : l1.length ≤ 401 := by rw [← hl1]; simp; omega
      refine loop_any (fun pre => [(0, .v (gr A (addE l1 (visEs pre))).1), (7, .v (.d (.int .i64 (pre.length : Nat)))), (4, .box [.d (.int .i64 op), .d (.int .i64 n), .d (.str s), .d (.slice (args.map E.row))])])
        (fun pre => (gr A (addE l1 (visEs pre))).2) (fun _ _ => some (gr A (addE l1 (visEs args)))) args (by rw [visEs, addE_nil, ← hl1]; rfl) (by rw [visEs, addE_nil, ← hl1]) rfl ?_
      intro pre suf hls ih2
      have hb : pre.length < 9223372036854775807 := by have := hok.len; rw [hls] at this; simp at this; omega
      have hfin : ∀ q, afinR C 97 (gr A l).2 (gr A (addE l1 q)).2 (some (gr A (addE l1 q)).1) = some (gr A (addE l1 q)) := by
        intro q
        obtain ⟨n, hn⟩ := addE_pre l1 q
        rw [hn, ← hl1, List.append_assoc]
        exact gr_afin rfl A l _
      have hf := hfin (visEs pre)
      cases suf with
      | nil =>
        rw [List.append_nil] at hls
        subst hls
        simp (maxSteps := 1000000) +contextual only [go_sem, acondK_bool, acB_merge, Nat.reduceLT, Nat.reduceLeDiff, Nat.reduceEqDiff, Nat.reduceAdd, Nat.reduceSub, Nat.reduceMul, Nat.reduceBEq, Nat.reduceBNe, Nat.reduceBneDiff, Nat.reduceBeqDiff, Int.reduceToNat, Int.reduceLE, Int.reduceLT, Int.reduceEq, Int.reduceNe, Int.reduceNeg, Int.reduceAdd, Int.reduceSub, ↓reduceIte, reduceCtorEq, List.getElem?_toArray, List.getElem?_cons_zero, List.getElem?_cons_succ, List.length_cons, List.length_nil, List.take_succ_cons, List.take_zero, List.drop_succ_cons, List.drop_zero, List.drop_nil, List.take_nil, List.nil_append, List.cons_append, List.append_nil, List.contains_cons, List.contains_nil, Bool.or_false, Bool.false_or, Bool.or_true, Bool.true_or, Bool.and_true, Bool.true_and, Bool.and_false, Bool.false_and, Bool.not_true, Bool.not_false, Bool.not_not, List.map_cons, List.map_nil, ite_not, not_true_eq_false, not_false_eq_true, Nat.zero_add, Nat.add_zero, hf]
      | cons x suf =>
        by_cases h5 : (addE l1 (visEs pre)).length ≤ 400
        · have hx : x ∈ args := by rw [hls]; simp
          have e1 := ih x hx (hok.arg x hx) false (addE l1 (visEs pre)) A (by omega)
          have e2 := ih2 x suf rfl
          rw [visEs_append, addE_append] at e2
          simp only [visEs, List.append_nil, List.length_append, List.length_cons, List.length_nil] at e2
          rw [hls] at e2 ⊢
          simp (maxSteps := 1000000) +contextual only [go_sem, acondK_bool, acB_merge, Nat.reduceLT, Nat.reduceLeDiff, Nat.reduceEqDiff, Nat.reduceAdd, Nat.reduceSub, Nat.reduceMul, Nat.reduceBEq, Nat.reduceBNe, Nat.reduceBneDiff, Nat.reduceBeqDiff, Int.reduceToNat, Int.reduceLE, Int.reduceLT, Int.reduceEq, Int.reduceNe, Int.reduceNeg, Int.reduceAdd, Int.reduceSub, ↓reduceIte, reduceCtorEq, List.getElem?_toArray, List.getElem?_cons_zero, List.getElem?_cons_succ, List.length_cons, List.length_nil, List.take_succ_cons, List.take_zero, List.drop_succ_cons, List.drop_zero, List.drop_nil, List.take_nil, List.nil_append, List.cons_append, List.append_nil, List.contains_cons, List.contains_nil, Bool.or_false, Bool.false_or, Bool.or_true, Bool.true_or, Bool.and_true, Bool.true_and, Bool.and_false, Bool.false_and, Bool.not_true, Bool.not_false, Bool.not_not, List.map_cons, List.map_nil, ite_not, not_true_eq_false, not_false_eq_true, Nat.zero_add, Nat.add_zero, gr_len, E.row_eq, le_400' h5, e1, e2, wrap_nat hb]
        · have hall : addE l1 (visEs args) = addE l1 (visEs pre) := by
            rw [hls, visEs_append, addE_append, addE_full _ _ h5]
          rw [hall, hls]
          simp (maxSteps := 1000000) +contextual only [go_sem, acondK_bool, acB_merge, Nat.reduceLT, Nat.reduceLeDiff, Nat.reduceEqDiff, Nat.reduceAdd, Nat.reduceSub, Nat.reduceMul, Nat.reduceBEq, Nat.reduceBNe, Nat.reduceBneDiff, Nat.reduceBeqDiff, Int.reduceToNat, Int.reduceLE, Int.reduceLT, Int.reduceEq, Int.reduceNe, Int.reduceNeg, Int.reduceAdd, Int.reduceSub, ↓reduceIte, reduceCtorEq, List.getElem?_toArray, List.getElem?_cons_zero, List.getElem?_cons_succ, List.length_cons, List.length_nil, List.take_succ_cons, List.take_zero, List.drop_succ_cons, List.drop_zero, List.drop_nil, List.take_nil, List.nil_append, List.cons_append, List.append_nil, List.contains_cons, List.contains_nil, Bool.or_false, Bool.false_or, Bool.or_true, Bool.true_or, Bool.and_true, Bool.true_and, Bool.and_false, Bool.false_and, Bool.not_true, Bool.not_false, Bool.not_not, List.map_cons, List.map_nil, ite_not, not_true_eq_false, not_false_eq_true, Nat.zero_add, Nat.add_zero, gr_len, gt_400' h5, hf]
    · rw [addE_full _ _ h4]
      have hf := gr_afin (f := 97) rfl A l []
      rw [List.append_nil] at hf
      simp (maxSteps := 1000000) +contextual only [go_sem, acondK_bool, acB_merge, Nat.reduceLT, Nat.reduceLeDiff, Nat.reduceEqDiff, Nat.reduceAdd, Nat.reduceSub, Nat.reduceMul, Nat.reduceBEq, Nat.reduceBNe, Nat.reduceBneDiff, Nat.reduceBeqDiff, Int.reduceToNat, Int.reduceLE, Int.reduceLT, Int.reduceEq, Int.reduceNe, Int.reduceNeg, Int.reduceAdd, Int.reduceSub, ↓reduceIte, reduceCtorEq, List.getElem?_toArray, List.getElem?_cons_zero, List.getElem?_cons_succ, List.length_cons, List.length_nil, List.take_succ_cons, List.take_zero, List.drop_succ_cons, List.drop_zero, List.drop_nil, List.take_nil, List.nil_append, List.cons_append, List.append_nil, List.contains_cons, List.contains_nil, Bool.or_false, Bool.false_or, Bool.or_true, Bool.true_or, Bool.and_true, Bool.true_and, Bool.and_false, Bool.false_and, Bool.not_true, Bool.not_false, Bool.not_not, List.map_cons, List.map_nil, ite_not, not_true_eq_false, not_false_eq_true, Nat.zero_add, Nat.add_zero, gr_len, gt_400 h4, hf]
theorem addE_one (l : List Vis) (v : Vis) (h : l.length ≤ 400) : addE l [v] = l ++ [v] := by
  unfold addE
  rw [List.take_of_length_le (by simp; omega)]
theorem walkBody_of (b : List Stm) (hlen : b.length ≤ 1099511627776) (hok : ∀ x ∈ b, x.Ok)
    (ih : ∀ x ∈ b, ∀ (m : List Stm), m = x.body ∨ m = x.els → ∀ (d : Int) (l : List Vis) (A : AHeap), l.length ≤ 401 → acl C 79 [(gr A l).1, .d (.slice (m.map Stm.row)), .d (.int .i64 d)] (gr A l).2 = some (gr A (addE l (visSs m d))))
    (d : Int) (l : List Vis) (A : AHeap) (hl : l.length ≤ 401) :
    acl C 79 [(gr A l).1, .d (.slice (b.map Stm.row)), .d (.int .i64 d)] (gr A l).2 = some (gr A (addE l (visSs b d))) := by
  rw [k_call_own (c := C) (f := 79) rfl Try.func79 rfl (ok 79 (by kernel_rfl)) rfl Try.ntmps79 Try.results79 (by simp)]
  simp (maxSteps := 1000000) +contextual only [go_sem, acondK_bool, acB_merge, Nat.reduceLT, Nat.reduceLeDiff, Nat.reduceEqDiff, Nat.reduceAdd, Nat.reduceSub, Nat.reduceMul, Nat.reduceBEq, Nat.reduceBNe, Nat.reduceBneDiff, Nat.reduceBeqDiff, Int.reduceToNat, Int.reduceLE, Int.reduceLT, Int.reduceEq, Int.reduceNe, Int.reduceNeg, Int.reduceAdd, Int.reduceSub, ↓reduceIte, reduceCtorEq, List.getElem?_toArray, List.getElem?_cons_zero, List.getElem?_cons_succ, List.length_cons, List.length_nil, List.take_succ_cons, List.take_zero, List.drop_succ_cons, List.drop_zero, List.drop_nil, List.take_nil, List.nil_append, List.cons_append, List.append_nil, List.contains_cons, List.contains_nil, Bool.or_false, Bool.false_or, Bool.or_true, Bool.true_or, Bool.and_true, Bool.true_and, Bool.and_false, Bool.false_and, Bool.not_true, Bool.not_false, Bool.not_not, List.map_cons, List.map_nil, ite_not, not_true_eq_false, not_false_eq_true, Nat.zero_add, Nat.add_zero]
  refine loop_any (fun pre => [(0, .v (gr A (addE l (visSs pre d))).1), (7, .v (.d (.int .i64 (pre.length : Nat)))), (2, .v (.d (.int .i64 d))), (1, .v (.d (.slice (b.map Stm.row))))])
    (fun pre => (gr A (addE l (visSs pre d))).2) (fun _ _ => some (gr A (addE l (visSs b d)))) b (by rw [visSs, addE_nil]; rfl) (by rw [visSs, addE_nil]) rfl ?_
  intro pre suf hls ih2
  have hb : pre.length < 9223372036854775807 := by rw [hls] at hlen; simp at hlen; omega
  have hf : afinR C 79 (gr A l).2 (gr A (addE l (visSs pre d))).2 (some (gr A (addE l (visSs pre d))).1) = some (gr A (addE l (visSs pre d))) := gr_afin rfl A l _
  cases suf with
  | nil =>
    rw [List.append_nil] at hls
    subst hls
    simp (maxSteps := 1000000) +contextual only [go_sem, acondK_bool, acB_merge, Nat.reduceLT, Nat.reduceLeDiff, Nat.reduceEqDiff, Nat.reduceAdd, Nat.reduceSub, Nat.reduceMul, Nat.reduceBEq, Nat.reduceBNe, Nat.reduceBneDiff, Nat.reduceBeqDiff, Int.reduceToNat, Int.reduceLE, Int.reduceLT, Int.reduceEq, Int.reduceNe, Int.reduceNeg, Int.reduceAdd, Int.reduceSub, ↓reduceIte, reduceCtorEq, List.getElem?_toArray, List.getElem?_cons_zero, List.getElem?_cons_succ, List.length_cons, List.length_nil, List.take_succ_cons, List.take_zero, List.drop_succ_cons, List.drop_zero, List.drop_nil, List.take_nil, List.nil_append, List.cons_append, List.append_nil, List.contains_cons, List.contains_nil, Bool.or_false, Bool.false_or, Bool.or_true, Bool.true_or, Bool.and_true, Bool.true_and, Bool.and_false, Bool.false_and, Bool.not_true, Bool.not_false, Bool.not_not, List.map_cons, List.map_nil, ite_not, not_true_eq_false, not_false_eq_true, Nat.zero_add, Nat.add_zero, hf]
  | cons x suf =>
    by_cases h5 : (addE l (visSs pre d)).length ≤ 400
    · have hx : x ∈ b := by rw [hls]; simp
      have hxo := hok x hx
      have e2 := ih2 x suf rfl
      rw [visSs_append, addE_append] at e2
      simp only [visSs, List.append_nil, List.length_append, List.length_cons, List.length_nil] at e2
      generalize hl0 : addE l (visSs pre d) = l0 at *
      have e0 := gr_append A l0 (.s x d) h5
      simp only [Vis.row] at e0
      generalize hl1 : l0 ++ [.s x d] = l1 at *
      have n1 : l1.length ≤ 401 := by rw [← hl1]; simp; omega
      have f1 := walkExpr x.a (Stm.Ok.a hxo) true l1 A n1
      have n2 := addE_le l1 (if absE x.a = true then [] else visE x.a true) n1
      have k2 : absE x.a = true → addE l1 (if absE x.a = true then [] else visE x.a true) = l1 := fun h => by rw [if_pos h, addE_nil]
      have k2' : absE x.a = false → addE l1 (visE x.a true) = addE l1 (if absE x.a = true then [] else visE x.a true) := fun h => by rw [if_neg (by rw [h]; simp)]
      generalize hl2 : addE l1 (if absE x.a = true then [] else visE x.a true) = l2 at *
      have f2 := walkExpr x.b (Stm.Ok.b hxo) true l2 A n2
      have n3 := addE_le l2 (if absE x.b = true then [] else visE x.b true) n2
      have k3 : absE x.b = true → addE l2 (if absE x.b = true then [] else visE x.b true) = l2 := fun h => by rw [if_pos h, addE_nil]
      have k3' : absE x.b = false → addE l2 (visE x.b true) = addE l2 (if absE x.b = true then [] else visE x.b true) := fun h => by rw [if_neg (by rw [h]; simp)]
      generalize hl3 : addE l2 (if absE x.b = true then [] else visE x.b true) = l3 at *
      have f3 := ih x hx x.body (.inl rfl) (IntKind.i64.wrap (d + 1)) l3 A n3
      have n4 := addE_le l3 (visSs x.body (IntKind.i64.wrap (d + 1))) n3
      generalize hl4 : addE l3 (visSs x.body (IntKind.i64.wrap (d + 1))) = l4 at *
      have f4 := ih x hx x.els (.inr rfl) (IntKind.i64.wrap (d + 1)) l4 A n4
      generalize hl5 : addE l4 (visSs x.els (IntKind.i64.wrap (d + 1))) = l5 at *
      have hV : addE l0 (visS x d) = l5 := by
        have hc : visS x d = [.s x d] ++ ((if absE x.a = true then [] else visE x.a true) ++ ((if absE x.b = true then [] else visE x.b true) ++ (visSs x.body (IntKind.i64.wrap (d + 1)) ++ visSs x.els (IntKind.i64.wrap (d + 1))))) := by
          cases x; simp [visS]
        rw [hc, addE_append, addE_one _ _ h5, hl1, addE_append, hl2, addE_append, hl3, addE_append, hl4, hl5]
      rw [hV] at e2
      rw [hls] at e2 ⊢
      cases ha : absE x.a with
      | true =>
        have g2 := k2 ha
        subst g2
        cases hbb : absE x.b with
        | true =>
          have g3 := k3 hbb
          subst g3
          simp (maxSteps := 1000000) +contextual only [go_sem, acondK_bool, acB_merge, Nat.reduceLT, Nat.reduceLeDiff, Nat.reduceEqDiff, Nat.reduceAdd, Nat.reduceSub, Nat.reduceMul, Nat.reduceBEq, Nat.reduceBNe, Nat.reduceBneDiff, Nat.reduceBeqDiff, Int.reduceToNat, Int.reduceLE, Int.reduceLT, Int.reduceEq, Int.reduceNe, Int.reduceNeg, Int.reduceAdd, Int.reduceSub, ↓reduceIte, reduceCtorEq, List.getElem?_toArray, List.getElem?_cons_zero, List.getElem?_cons_succ, List.length_cons, List.length_nil, List.take_succ_cons, List.take_zero, List.drop_succ_cons, List.drop_zero, List.drop_nil, List.take_nil, List.nil_append, List.cons_append, List.append_nil, List.contains_cons, List.contains_nil, Bool.or_false, Bool.false_or, Bool.or_true, Bool.true_or, Bool.and_true, Bool.true_and, Bool.and_false, Bool.false_and, Bool.not_true, Bool.not_false, Bool.not_not, List.map_cons, List.map_nil, ite_not, not_true_eq_false, not_false_eq_true, Nat.zero_add, Nat.add_zero, gr_len, Stm.row_eq, le_400' h5, e0, e2, ha, hbb, f3, f4, wrap_nat hb]
        | false =>
          rw [k3' hbb] at f2
          simp (maxSteps := 1000000) +contextual only [go_sem, acondK_bool, acB_merge, Nat.reduceLT, Nat.reduceLeDiff, Nat.reduceEqDiff, Nat.reduceAdd, Nat.reduceSub, Nat.reduceMul, Nat.reduceBEq, Nat.reduceBNe, Nat.reduceBneDiff, Nat.reduceBeqDiff, Int.reduceToNat, Int.reduceLE, Int.reduceLT, Int.reduceEq, Int.reduceNe, Int.reduceNeg, Int.reduceAdd, Int.reduceSub, ↓reduceIte, reduceCtorEq, List.getElem?_toArray, List.getElem?_cons_zero, List.getElem?_cons_succ, List.length_cons, List.length_nil, List.take_succ_cons, List.take_zero, List.drop_succ_cons, List.drop_zero, List.drop_nil, List.take_nil, List.nil_append, List.cons_append, List.append_nil, List.contains_cons, List.contains_nil, Bool.or_false, Bool.false_or, Bool.or_true, Bool.true_or, Bool.and_true, Bool.true_and, Bool.and_false, Bool.false_and, Bool.not_true, Bool.not_false, Bool.not_not, List.map_cons, List.map_nil, ite_not, not_true_eq_false, not_false_eq_true, Nat.zero_add, Nat.add_zero, gr_len, Stm.row_eq, le_400' h5, e0, e2, ha, hbb, f2, f3, f4, wrap_nat hb]
      | false =>
        rw [k2' ha] at f1
        cases hbb : absE x.b with
        | true =>
          have g3 := k3 hbb
          subst g3
          simp (maxSteps := 1000000) +contextual only [go_sem, acondK_bool, acB_merge, Nat.reduceLT, Nat.reduceLeDiff, Nat.reduceEqDiff, Nat.reduceAdd, Nat.reduceSub, Nat.reduceMul, Nat.reduceBEq, Nat.reduceBNe, Nat.reduceBneDiff, Nat.reduceBeqDiff, Int.reduceToNat, Int.reduceLE, Int.reduceLT, Int.reduceEq, Int.reduceNe, Int.reduceNeg, Int.reduceAdd, Int.reduceSub, ↓reduceIte, reduceCtorEq, List.getElem?_toArray, List.getElem?_cons_zero, List.getElem?_cons_succ, List.length_cons, List.length_nil, List.take_succ_cons, List.take_zero, List.drop_succ_cons, List.drop_zero, List.drop_nil, List.take_nil, List.nil_append, List.cons_append, List.append_nil, List.contains_cons, List.contains_nil, Bool.or_false, Bool.false_or, Bool.or_true, Bool.true_or, Bool.and_true, Bool.true_and, Bool.and_false, Bool.false_and, Bool.not_true, Bool.not_false, Bool.not_not, List.map_cons, List.map_nil, ite_not, not_true_eq_false, not_false_eq_true, Nat.zero_add, Nat.add_zero, gr_len, Stm.row_eq, le_400' h5, e0, e2, ha, hbb, f1, f3, f4, wrap_nat hb]
        | false =>
          rw [k3' hbb] at f2
          simp (maxSteps := 1000000) +contextual only [go_sem, acondK_bool, acB_merge, Nat.reduceLT, Nat.reduceLeDiff, Nat.reduceEqDiff, Nat.reduceAdd, Nat.reduceSub, Nat.reduceMul, Nat.reduceBEq, Nat.reduceBNe, Nat.reduceBneDiff, Nat.reduceBeqDiff, Int.reduceToNat, Int.reduceLE, Int.reduceLT, Int.reduceEq, Int.reduceNe, Int.reduceNeg, Int.reduceAdd, Int.reduceSub, ↓reduceIte, reduceCtorEq, List.getElem?_toArray, List.getElem?_cons_zero, List.getElem?_cons_succ, List.length_cons, List.length_nil, List.take_succ_cons, List.take_zero, List.drop_succ_cons, List.drop_zero, List.drop_nil, List.take_nil, List.nil_append, List.cons_append, List.append_nil, List.contains_cons, List.contains_nil, Bool.or_false, Bool.false_or, Bool.or_true, Bool.true_or, Bool.and_true, Bool.true_and, Bool.and_false, Bool.false_and, Bool.not_true, Bool.not_false, Bool.not_not, List.map_cons, List.map_nil, ite_not, not_true_eq_false, not_false_eq_true, Nat.zero_add, Nat.add_zero, gr_len, Stm.row_eq, le_400' h5, e0, e2, ha, hbb, f1, f2, f3, f4, wrap_nat hb]
    · have hall : addE l (visSs b d) = addE l (visSs pre d) := by
        rw [hls, visSs_append, addE_append, addE_full _ _ h5]
      rw [hall, hls]
      simp (maxSteps := 1000000) +contextual only [go_sem, acondK_bool, acB_merge, Nat.reduceLT, Nat.reduceLeDiff, Nat.reduceEqDiff, Nat.reduceAdd, Nat.reduceSub, Nat.reduceMul, Nat.reduceBEq, Nat.reduceBNe, Nat.reduceBneDiff, Nat.reduceBeqDiff, Int.reduceToNat, Int.reduceLE, Int.reduceLT, Int.reduceEq, Int.reduceNe, Int.reduceNeg, Int.reduceAdd, Int.reduceSub, ↓reduceIte, reduceCtorEq, List.getElem?_toArray, List.getElem?_cons_zero, List.getElem?_cons_succ, List.length_cons, List.length_nil, List.take_succ_cons, List.take_zero, List.drop_succ_cons, List.drop_zero, List.drop_nil, List.take_nil, List.nil_append, List.cons_append, List.append_nil, List.contains_cons, List.contains_nil, Bool.or_false, Bool.false_or, Bool.or_true, Bool.true_or, Bool.and_true, Bool.true_and, Bool.and_false, Bool.false_and, Bool.not_true, Bool.not_false, Bool.not_not, List.map_cons, List.map_nil, ite_not, not_true_eq_false, not_false_eq_true, Nat.zero_add, Nat.add_zero, gr_len, gt_400' h5, hf]
theorem walkBody_in : ∀ x : Stm, x.Ok → ∀ (m : List Stm), m = x.body ∨ m = x.els → ∀ (d : Int) (l : List Vis) (A : AHeap), l.length ≤ 401 → acl C 79 [(gr A l).1, .d (.slice (m.map Stm.row)), .d (.int .i64 d)] (gr A l).2 = some (gr A (addE l (visSs m d))) := by
  intro x
  induction x using Stm.ind with
  | h op name max a b body els ihb ihe =>
    intro hok m hm d l A hl
    rcases hm with rfl | rfl
    · exact walkBody_of _ (Stm.Ok.bodyLen hok) (Stm.Ok.bodyOk hok) (fun y hy => ihb y hy (Stm.Ok.bodyOk hok y hy)) d l A hl
    · exact walkBody_of _ (Stm.Ok.elsLen hok) (Stm.Ok.elsOk hok) (fun y hy => ihe y hy (Stm.Ok.elsOk hok y hy)) d l A hl
/-- the visits of a procedure -/
def visP (p : Pr) : List Vis := (visSs p.body 1).take 401
theorem walkR (p : Pr) (hp : p.Ok) (A : AHeap) : acl C 48 [Pr.av p] A = some (.d (.slice ((visP p).map Vis.row)), A) := by
  rw [k_call (c := C) (f := 48) rfl Try.func48 rfl (ok 48 (by kernel_rfl)) rfl Try.ntmps48 Try.results48 (by simp)]
  have e1 := walkBody_of p.body hp.blen hp.body (fun x hx => walkBody_in x (hp.body x hx)) 1 [] A (Nat.zero_le _)
  have e2 : addE [] (visSs p.body 1) = visP p := by simp [addE, visP]
  rw [e2] at e1
  have e3 : gr A [] = (.nilS, A) := rfl
  rw [e3] at e1
  simp only at e1
  have e4 : afinR C 48 A (gr A (visP p)).2 (some (gr A (visP p)).1) = some (.d (.slice ((visP p).map Vis.row)), A) := afin_grown rfl
  simp (maxSteps := 1000000) +contextual only [go_sem, acondK_bool, acB_merge, Nat.reduceLT, Nat.reduceLeDiff, Nat.reduceEqDiff, Nat.reduceAdd, Nat.reduceSub, Nat.reduceMul, Nat.reduceBEq, Nat.reduceBNe, Nat.reduceBneDiff, Nat.reduceBeqDiff, Int.reduceToNat, Int.reduceLE, Int.reduceLT, Int.reduceEq, Int.reduceNe, Int.reduceNeg, Int.reduceAdd, Int.reduceSub, ↓reduceIte, reduceCtorEq, List.getElem?_toArray, List.getElem?_cons_zero, List.getElem?_cons_succ, List.length_cons, List.length_nil, List.take_succ_cons, List.take_zero, List.drop_succ_cons, List.drop_zero, List.drop_nil, List.take_nil, List.nil_append, List.cons_append, List.append_nil, List.contains_cons, List.contains_nil, Bool.or_false, Bool.false_or, Bool.or_true, Bool.true_or, Bool.and_true, Bool.true_and, Bool.and_false, Bool.false_and, Bool.not_true, Bool.not_false, Bool.not_not, List.map_cons, List.map_nil, ite_not, not_true_eq_false, not_false_eq_true, Nat.zero_add, Nat.add_zero, e1, e4]
end Go.Proofs.Ytfoibmfocmjmdaa
