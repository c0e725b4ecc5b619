/- Nodes, Depth, Exprs and Names: the law. -/
import Derived.Test.YtfoibmfocmjmdaaSeatD
import Derived.Test.YtfoibmfocmjmdaaSeatC
import Derived.Test.YtfoibmfocmjmdaaSeatA
set_option linter.unusedVariables false
set_option linter.unusedSimpArgs false
set_option linter.all false
set_option linter.deprecated false
set_option linter.all false
namespace Go.Proofs.Ytfoibmfocmjmdaa
open Go.Abs
attribute [local congr] ite_congr
set_option maxRecDepth 10000
mutual
theorem eqE_refl : ∀ x, eqE x x = true
  | .mk op n s args => by simp [eqE, eqEs_refl args]
theorem eqEs_refl : ∀ l, eqEs l l = true
  | [] => rfl
  | x :: l => by simp [eqEs, eqE_refl x, eqEs_refl l]
end
theorem textsSame (l : List Bytes) (hl : l.length ≤ 1099511627776) (A : AHeap) : acl C 26 [.d (.slice (l.map sRow)), .d (.slice (l.map sRow))] A = some (.d (.bool true), A) := by
  rw [k_call (c := C) (f := 26) rfl Try.func26 rfl (ok 26 (by kernel_rfl)) rfl Try.ntmps26 Try.results26 (by simp)]
  simp (maxSteps := 1000000) +contextual only [go_sem, acondK_bool, acB_merge, Nat.reduceLT, Nat.reduceLeDiff, Nat.reduceEqDiff, Nat.reduceAdd, Nat.reduceSub, Nat.reduceMul, Nat.reduceBEq, Nat.reduceBNe, Nat.reduceBneDiff, Nat.reduceBeqDiff, Int.reduceToNat, Int.reduceLE, Int.reduceLT, Int.reduceEq, Int.reduceNe, Int.reduceNeg, Int.reduceAdd, Int.reduceSub, ↓reduceIte, reduceCtorEq, List.getElem?_toArray, List.getElem?_cons_zero, List.getElem?_cons_succ, List.length_cons, List.length_nil, List.take_succ_cons, List.take_zero, List.drop_succ_cons, List.drop_zero, List.drop_nil, List.take_nil, List.nil_append, List.cons_append, List.append_nil, List.contains_cons, List.contains_nil, Bool.or_false, Bool.false_or, Bool.or_true, Bool.true_or, Bool.and_true, Bool.true_and, Bool.and_false, Bool.false_and, Bool.not_true, Bool.not_false, Bool.not_not, Option.isSome_some, Option.isSome_none, List.map_cons, List.map_nil, ite_not, not_true_eq_false, not_false_eq_true, Nat.zero_add, Nat.add_zero]
  refine loop_any (fun pre => [(0, .v (.d (.slice (l.map sRow)))), (1, .v (.d (.slice (l.map sRow)))), (5, .v (.d (.int .i64 (pre.length : Nat))))])
    (fun _ => A) (fun _ _ => some (.d (.bool true), A)) l rfl rfl rfl ?_
  intro pre suf h ih
  have hb : pre.length < 9223372036854775807 := by rw [h] at hl; simp at hl; omega
  cases suf with
  | nil => rw [List.append_nil] at h; subst h; simp (maxSteps := 1000000) +contextual only [go_sem, acondK_bool, acB_merge, Nat.reduceLT, Nat.reduceLeDiff, Nat.reduceEqDiff, Nat.reduceAdd, Nat.reduceSub, Nat.reduceMul, Nat.reduceBEq, Nat.reduceBNe, Nat.reduceBneDiff, Nat.reduceBeqDiff, Int.reduceToNat, Int.reduceLE, Int.reduceLT, Int.reduceEq, Int.reduceNe, Int.reduceNeg, Int.reduceAdd, Int.reduceSub, ↓reduceIte, reduceCtorEq, List.getElem?_toArray, List.getElem?_cons_zero, List.getElem?_cons_succ, List.length_cons, List.length_nil, List.take_succ_cons, List.take_zero, List.drop_succ_cons, List.drop_zero, List.drop_nil, List.take_nil, List.nil_append, List.cons_append, List.append_nil, List.contains_cons, List.contains_nil, Bool.or_false, Bool.false_or, Bool.or_true, Bool.true_or, Bool.and_true, Bool.true_and, Bool.and_false, Bool.false_and, Bool.not_true, Bool.not_false, Bool.not_not, Option.isSome_some, Option.isSome_none, List.map_cons, List.map_nil, ite_not, not_true_eq_false, not_false_eq_true, Nat.zero_add, Nat.add_zero]
  | cons x suf =>
    have e2 := ih x suf rfl
    rw [List.length_append, List.length_cons, List.length_nil] at e2
    have e3 : (l.map sRow)[pre.length]? = some [.str x] := by rw [h]; exact map_mid
    have e4 : decide ((pre.length : Int) < (l.length : Int)) = true := by rw [h]; simp; omega
    simp (maxSteps := 1000000) +contextual only [go_sem, acondK_bool, acB_merge, Nat.reduceLT, Nat.reduceLeDiff, Nat.reduceEqDiff, Nat.reduceAdd, Nat.reduceSub, Nat.reduceMul, Nat.reduceBEq, Nat.reduceBNe, Nat.reduceBneDiff, Nat.reduceBeqDiff, Int.reduceToNat, Int.reduceLE, Int.reduceLT, Int.reduceEq, Int.reduceNe, Int.reduceNeg, Int.reduceAdd, Int.reduceSub, ↓reduceIte, reduceCtorEq, List.getElem?_toArray, List.getElem?_cons_zero, List.getElem?_cons_succ, List.length_cons, List.length_nil, List.take_succ_cons, List.take_zero, List.drop_succ_cons, List.drop_zero, List.drop_nil, List.take_nil, List.nil_append, List.cons_append, List.append_nil, List.contains_cons, List.contains_nil, Bool.or_false, Bool.false_or, Bool.or_true, Bool.true_or, Bool.and_true, Bool.true_and, Bool.and_false, Bool.false_and, Bool.not_true, Bool.not_false, Bool.not_not, Option.isSome_some, Option.isSome_none, List.map_cons, List.map_nil, ite_not, not_true_eq_false, not_false_eq_true, Nat.zero_add, Nat.add_zero, e3, e4, e2, k_drawn_q, wrap_nat hb, beq_self_eq_true]
theorem rootsV_ok {P : E → Prop} : ∀ (l : List Vis), (∀ x r, Vis.e x r ∈ l → P x) → ∀ x ∈ rootsV l, P x
  | [], _, x, h => by simp [rootsV] at h
  | .s y d :: l, hl, x, h => rootsV_ok l (fun x r hx => hl x r (List.mem_cons_of_mem _ hx)) x h
  | .e y false :: l, hl, x, h => rootsV_ok l (fun x r hx => hl x r (List.mem_cons_of_mem _ hx)) x h
  | .e y true :: l, hl, x, h => by
    simp only [rootsV, List.mem_cons] at h
    rcases h with rfl | h
    · exact hl x true (List.mem_cons_self ..)
    · exact rootsV_ok l (fun x r hx => hl x r (List.mem_cons_of_mem _ hx)) x h
mutual
theorem visE_okE : ∀ (e : E) (r : Bool), e.Ok → ∀ x q, Vis.e x q ∈ visE e r → x.Ok
  | .mk op n s args, r, h, x, q, hm => by
    simp only [visE, List.mem_cons] at hm
    rcases hm with hm | hm
    · injection hm with h1 h2; subst h1; exact h
    · exact visEs_okE args h.arg x q hm
theorem visEs_okE : ∀ (l : List E), (∀ y ∈ l, y.Ok) → ∀ x q, Vis.e x q ∈ visEs l → x.Ok
  | [], _, x, q, hm => by simp [visEs] at hm
  | y :: l, h, x, q, hm => by
    simp only [visEs, List.mem_append] at hm
    rcases hm with hm | hm
    · exact visE_okE y false (h y (List.mem_cons_self ..)) x q hm
    · exact visEs_okE l (fun z hz => h z (List.mem_cons_of_mem _ hz)) x q hm
end
mutual
theorem visS_okE : ∀ (s : Stm) (d : Int), s.Ok → ∀ x q, Vis.e x q ∈ visS s d → x.Ok
  | .mk op name max a b body els, d, h, x, q, hm => by
    simp only [visS, List.mem_cons, List.mem_append] at hm
    rcases hm with hm | hm | hm | hm | hm
    · cases hm
    · split at hm
      · simp at hm
      · exact visE_okE a true (Stm.Ok.a h) x q hm
    · split at hm
      · simp at hm
      · exact visE_okE b true (Stm.Ok.b h) x q hm
    · exact visSs_okE body _ (Stm.Ok.bodyOk h) x q hm
    · exact visSs_okE els _ (Stm.Ok.elsOk h) x q hm
theorem visSs_okE : ∀ (l : List Stm) (d : Int), (∀ y ∈ l, y.Ok) → ∀ x q, Vis.e x q ∈ visSs l d → x.Ok
  | [], _, _, x, q, hm => by simp [visSs] at hm
  | y :: l, d, h, x, q, hm => by
    simp only [visSs, List.mem_append] at hm
    rcases hm with hm | hm
    · exact visS_okE y d (h y (List.mem_cons_self ..)) x q hm
    · exact visSs_okE l d (fun z hz => h z (List.mem_cons_of_mem _ hz)) x q hm
end
theorem exprsS_ok (p : Pr) (hp : p.Ok) : ∀ x ∈ exprsS p, x.Ok :=
  rootsV_ok _ fun x r hm => visSs_okE p.body 1 hp.body x r (List.mem_of_mem_take hm)
theorem exprsS_len (p : Pr) : (exprsS p).length ≤ 401 := Nat.le_trans (rootsV_len _) (visP_len p)
theorem small40 {p : Pr} {m : Int} (h : smallS p m = true) : p.params.length ≤ 40 := by
  unfold smallS at h
  split at h
  · cases h
  · rename_i h1
    simp at h1
    omega
theorem namesS_len (p : Pr) (h : p.params.length ≤ 40) : (namesS p).length ≤ 441 := by
  unfold namesS paramNames
  have := namesV_len (visP p)
  have := visP_len p
  simp
  omega
theorem lawWalks (p : Pr) (hp : p.Ok) : acl C 6 [Pr.av p] A00 = some (.d (.bool true), A00) := by
  rw [k_call (c := C) (f := 6) rfl Try.func6 rfl (ok 6 (by kernel_rfl)) rfl Try.ntmps6 Try.results6 (by simp)]
  cases hs : smallS p 1600 with
  | false => simp (maxSteps := 1000000) +contextual only [go_sem, acondK_bool, acB_merge, Nat.reduceLT, Nat.reduceLeDiff, Nat.reduceEqDiff, Nat.reduceAdd, Nat.reduceSub, Nat.reduceMul, Nat.reduceBEq, Nat.reduceBNe, Nat.reduceBneDiff, Nat.reduceBeqDiff, Int.reduceToNat, Int.reduceLE, Int.reduceLT, Int.reduceEq, Int.reduceNe, Int.reduceNeg, Int.reduceAdd, Int.reduceSub, ↓reduceIte, reduceCtorEq, List.getElem?_toArray, List.getElem?_cons_zero, List.getElem?_cons_succ, List.length_cons, List.length_nil, List.take_succ_cons, List.take_zero, List.drop_succ_cons, List.drop_zero, List.drop_nil, List.take_nil, List.nil_append, List.cons_append, List.append_nil, List.contains_cons, List.contains_nil, Bool.or_false, Bool.false_or, Bool.or_true, Bool.true_or, Bool.and_true, Bool.true_and, Bool.and_false, Bool.false_and, Bool.not_true, Bool.not_false, Bool.not_not, Option.isSome_some, Option.isSome_none, List.map_cons, List.map_nil, ite_not, not_true_eq_false, not_false_eq_true, Nat.zero_add, Nat.add_zero, small p hp, works, hs]
  | true =>
  have h40 := small40 hs
  have n1 := names p hp (by omega)
  have n2 := namesR p hp (by omega)
  have n3 := textsSame (namesS p) (by have := namesS_len p h40; omega)
  have d1 := nodes p hp
  have d2 := nodesR p hp
  have d3 := depth p hp
  have d4 := depthR p hp
  have x1 := exprs p hp
  have x2 := exprsR p hp
  simp (maxSteps := 1000000) +contextual only [go_sem, acondK_bool, acB_merge, Nat.reduceLT, Nat.reduceLeDiff, Nat.reduceEqDiff, Nat.reduceAdd, Nat.reduceSub, Nat.reduceMul, Nat.reduceBEq, Nat.reduceBNe, Nat.reduceBneDiff, Nat.reduceBeqDiff, Int.reduceToNat, Int.reduceLE, Int.reduceLT, Int.reduceEq, Int.reduceNe, Int.reduceNeg, Int.reduceAdd, Int.reduceSub, ↓reduceIte, reduceCtorEq, List.getElem?_toArray, List.getElem?_cons_zero, List.getElem?_cons_succ, List.length_cons, List.length_nil, List.take_succ_cons, List.take_zero, List.drop_succ_cons, List.drop_zero, List.drop_nil, List.take_nil, List.nil_append, List.cons_append, List.append_nil, List.contains_cons, List.contains_nil, Bool.or_false, Bool.false_or, Bool.or_true, Bool.true_or, Bool.and_true, Bool.true_and, Bool.and_false, Bool.false_and, Bool.not_true, Bool.not_false, Bool.not_not, Option.isSome_some, Option.isSome_none, List.map_cons, List.map_nil, ite_not, not_true_eq_false, not_false_eq_true, Nat.zero_add, Nat.add_zero, small p hp, works, hs, n1, n2, n3, d1, d2, d3, d4, x1, x2, k_drawn_q]
  have hlen := exprsS_len p
  have hok := exprsS_ok p hp
  generalize exprsS p = l at *
  refine loop_any (fun pre => [(3, .v (.d (.slice (l.map E.row)))), (4, .v (.d (.slice (l.map E.row)))), (5, .v (.d (.int .i64 (pre.length : Nat))))])
    (fun _ => A00) (fun _ _ => some (.d (.bool true), A00)) l rfl rfl rfl ?_
  intro pre suf h ih
  have hb : pre.length < 9223372036854775807 := by rw [h] at hlen; simp at hlen; omega
  cases suf with
  | nil => rw [List.append_nil] at h; subst h; simp (maxSteps := 1000000) +contextual only [go_sem, acondK_bool, acB_merge, Nat.reduceLT, Nat.reduceLeDiff, Nat.reduceEqDiff, Nat.reduceAdd, Nat.reduceSub, Nat.reduceMul, Nat.reduceBEq, Nat.reduceBNe, Nat.reduceBneDiff, Nat.reduceBeqDiff, Int.reduceToNat, Int.reduceLE, Int.reduceLT, Int.reduceEq, Int.reduceNe, Int.reduceNeg, Int.reduceAdd, Int.reduceSub, ↓reduceIte, reduceCtorEq, List.getElem?_toArray, List.getElem?_cons_zero, List.getElem?_cons_succ, List.length_cons, List.length_nil, List.take_succ_cons, List.take_zero, List.drop_succ_cons, List.drop_zero, List.drop_nil, List.take_nil, List.nil_append, List.cons_append, List.append_nil, List.contains_cons, List.contains_nil, Bool.or_false, Bool.false_or, Bool.or_true, Bool.true_or, Bool.and_true, Bool.true_and, Bool.and_false, Bool.false_and, Bool.not_true, Bool.not_false, Bool.not_not, Option.isSome_some, Option.isSome_none, List.map_cons, List.map_nil, ite_not, not_true_eq_false, not_false_eq_true, Nat.zero_add, Nat.add_zero, works]
  | cons x suf =>
    have hx := hok x (by rw [h]; simp)
    have e1 := equalExprR x hx x hx
    rw [eqE_refl] at e1
    have e2 := ih x suf rfl
    rw [List.length_append, List.length_cons, List.length_nil] at e2
    have e3 : (l.map E.row)[pre.length]? = some (E.row x) := by rw [h]; exact map_mid
    have e4 : decide ((pre.length : Int) < (l.length : Int)) = true := by rw [h]; simp; omega
    rw [E.row_eq] at e3
    simp (maxSteps := 1000000) +contextual only [go_sem, acondK_bool, acB_merge, Nat.reduceLT, Nat.reduceLeDiff, Nat.reduceEqDiff, Nat.reduceAdd, Nat.reduceSub, Nat.reduceMul, Nat.reduceBEq, Nat.reduceBNe, Nat.reduceBneDiff, Nat.reduceBeqDiff, Int.reduceToNat, Int.reduceLE, Int.reduceLT, Int.reduceEq, Int.reduceNe, Int.reduceNeg, Int.reduceAdd, Int.reduceSub, ↓reduceIte, reduceCtorEq, List.getElem?_toArray, List.getElem?_cons_zero, List.getElem?_cons_succ, List.length_cons, List.length_nil, List.take_succ_cons, List.take_zero, List.drop_succ_cons, List.drop_zero, List.drop_nil, List.take_nil, List.nil_append, List.cons_append, List.append_nil, List.contains_cons, List.contains_nil, Bool.or_false, Bool.false_or, Bool.or_true, Bool.true_or, Bool.and_true, Bool.true_and, Bool.and_false, Bool.false_and, Bool.not_true, Bool.not_false, Bool.not_not, Option.isSome_some, Option.isSome_none, List.map_cons, List.map_nil, ite_not, not_true_eq_false, not_false_eq_true, Nat.zero_add, Nat.add_zero, e3, e4, e1, e2, k_drawn_q, wrap_nat hb]
end Go.Proofs.Ytfoibmfocmjmdaa
