/- The code of an expression: the law. -/
import Derived.Test.YtjmghomnbmbjnaaSeatR
import Derived.Test.YtjmghomnbmbjnaaSeatK
import Derived.Test.YtjmghomnbmbjnaaSeatN
set_option linter.unusedVariables false
set_option linter.unusedSimpArgs false
set_option linter.all false
set_option linter.deprecated false
set_option linter.all false
namespace Go.Proofs.Ytjmghomnbmbjnaa
open Go.Abs
-- CTX D
attribute [local congr] ite_congr
set_option maxRecDepth 10000
theorem lawCompileExprs (e : E) (S : List Bytes) (hok : e.Ok) (hlen : (visE e false).length ≤ 4000000) (hS : S.length ≤ 1099511627776) : acl D 3 [E.av e, .d (.slice (S.map sRow))] A00 = some (.d (.bool true), A00) := by
  have sm := up (smallExpr e hok 600 A00)
  have fw := up (fewBL S hS A00)
  have x1 := fun h => up (exprOf S h e hok hlen A00)
  have x2 := fun h => up (exprR17 S h e hok hlen A00)
  have s1 := fun h => up (sameR (exS S e).1 h A00)
  have hcl : (exS S e).1.length ≤ 4194303 := by
    have := codeM_len S e false
    unfold exS
    split
    · split
      · show (codeM S e).length ≤ _; omega
      · simp
    · simp
  have s1 := s1 hcl
  generalize exS S e = r at *
  obtain ⟨I, k⟩ := r
  generalize cntE e 600 = c at *
  obtain ⟨op, n, s, args⟩ := e
  cases h1 : decide (c ≤ 600) with
  | false =>
    rw [k_call (c := D) (f := 3) rfl Try.func3 rfl (ok 3 (by kernel_rfl)) rfl Try.ntmps3 Try.results3 (by simp)]
    simp (maxSteps := 1000000) only [go_sem, acondK_bool, acB_merge, Nat.reduceLT, Nat.reduceLeDiff, Nat.reduceEqDiff, Nat.reduceAdd, Nat.reduceSub, Nat.reduceMul, Nat.reduceBEq, Nat.reduceBNe, Nat.reduceBneDiff, Nat.reduceBeqDiff, Int.reduceToNat, Int.reduceLE, Int.reduceLT, Int.reduceEq, Int.reduceNe, Int.reduceNeg, Int.reduceAdd, Int.reduceSub, ↓reduceIte, reduceCtorEq, k_drawn_q, sm, works, h1]
  | true =>
  cases h2 : fewB S with
  | false =>
    rw [k_call (c := D) (f := 3) rfl Try.func3 rfl (ok 3 (by kernel_rfl)) rfl Try.ntmps3 Try.results3 (by simp)]
    simp (maxSteps := 1000000) only [go_sem, acondK_bool, acB_merge, Nat.reduceLT, Nat.reduceLeDiff, Nat.reduceEqDiff, Nat.reduceAdd, Nat.reduceSub, Nat.reduceMul, Nat.reduceBEq, Nat.reduceBNe, Nat.reduceBneDiff, Nat.reduceBeqDiff, Int.reduceToNat, Int.reduceLE, Int.reduceLT, Int.reduceEq, Int.reduceNe, Int.reduceNeg, Int.reduceAdd, Int.reduceSub, ↓reduceIte, reduceCtorEq, k_drawn_q, sm, works, h1, fw, h2]
  | true =>
  have hl : S.length ≤ 4194303 := by
    unfold fewB at h2
    split at h2
    · cases h2
    · rename_i h3
      simp at h3
      omega
  have x1 := x1 hl
  have x2 := x2 hl
  have e5 : decide (k = k) = true := by simp
  simp only at x1 x2 s1
  rw [k_call (c := D) (f := 3) rfl Try.func3 rfl (ok 3 (by kernel_rfl)) rfl Try.ntmps3 Try.results3 (by simp)]
  simp (maxSteps := 1000000) only [go_sem, acondK_bool, acB_merge, Nat.reduceLT, Nat.reduceLeDiff, Nat.reduceEqDiff, Nat.reduceAdd, Nat.reduceSub, Nat.reduceMul, Nat.reduceBEq, Nat.reduceBNe, Nat.reduceBneDiff, Nat.reduceBeqDiff, Int.reduceToNat, Int.reduceLE, Int.reduceLT, Int.reduceEq, Int.reduceNe, Int.reduceNeg, Int.reduceAdd, Int.reduceSub, ↓reduceIte, reduceCtorEq, k_drawn_q, sm, works, h1, fw, h2, x1, x2, s1, e5]
end Go.Proofs.Ytjmghomnbmbjnaa
set_option linter.all false
namespace Go.Proofs.Ytjmghomnbmbjnaa
open Go.Abs
-- CTX D
set_option maxRecDepth 10000
mutual
theorem vis_weight : ∀ (e : E) (r : Bool), (visE e r).length ≤ wRow e.row
  | .mk op n s args, r => by
    have := viss_weight args
    rw [E.row_mk]
    simp only [visE, List.length_cons, wRow, wD]
    omega
theorem viss_weight : ∀ (l : List E), (visEs l).length ≤ wRows (l.map E.row)
  | [] => by simp [visEs]
  | x :: l => by
    have h1 := vis_weight x false
    have h2 := viss_weight l
    simp only [visEs, List.length_append, List.map_cons, wRows]
    omega
end
theorem lawCompileExprsC (e : E) (S : List Bytes) (h : e.Ok ∧ wRow e.row ≤ 1048576) (hS : S.length ≤ 1048576 ∧ ∀ s ∈ S, s.length ≤ 1048576) : acl D 3 [E.av e, .d (.slice (S.map sRow1))] A00 = some (.d (.bool true), A00) := by
  have h1 := vis_weight e false
  exact lawCompileExprs e S h.1 (by have := h.2; omega) (by have := hS.1; omega)
end Go.Proofs.Ytjmghomnbmbjnaa
set_option linter.all false
namespace Go.Proofs.Ytjmghomnbmbjnaa
open Go.Abs
/-- does the code keep the stack, from a depth on, and end with one value? -/
def gdS : List In → Int → Bool
  | [], d => decide (d = 1)
  | x :: l, d => if decide (x.op = 1 ∨ x.op = 2 ∨ x.op = 3) = true then gdS l (d + 1) else if decide (x.op = 5) = true then (if decide (ar x.a < 0) || decide (d < ar x.a) then false else gdS l (d - ar x.a + 1)) else false
mutual
theorem gd_code (S : List Bytes) : ∀ (e : E) (k : Int) (d : Int) (l : List In), chkE e k = 0 → 0 ≤ d → gdS (codeM S e ++ l) d = gdS l (d + 1)
  | .mk op n s args, k, d, l, h, hd => by
    obtain ⟨h1, h2⟩ := chkE_parts h
    rw [codeM]
    by_cases o1 : op = 1
    · subst o1; simp [gdS]
    · by_cases o2 : op = 2
      · subst o2; simp [gdS]
      · by_cases o3 : op = 3
        · subst o3; simp [gdS, one]
        · have d1 : decide (op = 1) = false := by simpa using o1
          have d2 : decide (op = 2) = false := by simpa using o2
          have d3 : decide (op = 3) = false := by simpa using o3
          simp only [d1, d2, d3, Bool.false_eq_true, if_false]
          have hl : (args.length : Int) = ar op := by
            unfold nodeS at h1
            split at h1
            · cases h1
            · split at h1
              · cases h1
              · split at h1
                · cases h1
                · rename_i h9
                  simp only [Bool.or_eq_true, Bool.not_eq_true', not_or, Bool.not_eq_false] at h9
                  simpa using h9.2
          rw [List.append_assoc, gd_codes S args _ d _ h2 hd]
          have e1 : decide (ar op < 0) = false := by simp; omega
          have e2 : decide (d + (args.length : Int) < ar op) = false := by simp; omega
          simp only [List.cons_append, List.nil_append, gdS, one]
          rw [if_neg (by simp), if_pos (by simp), e1, e2, if_neg (by simp)]
          congr 1
          omega
theorem gd_codes (S : List Bytes) : ∀ (m : List E) (k : Int) (d : Int) (l : List In), chkL m k = 0 → 0 ≤ d → gdS (codeMs S m ++ l) d = gdS l (d + (m.length : Int))
  | [], k, d, l, h, hd => by simp [codeMs]
  | x :: m, k, d, l, h, hd => by
    obtain ⟨c1, c2⟩ := chkL_parts h
    rw [codeMs, List.append_assoc, gd_code S x k d _ c1 hd, gd_codes S m k (d + 1) l c2 (by omega)]
    congr 1
    simp
    omega
end
theorem gd_expr (S : List Bytes) {e : E} (h : chkE e 1 = 0) : gdS (codeM S e) 0 = true := by
  have := gd_code S e 1 0 [] h (by omega)
  rw [List.append_nil] at this
  rw [this]
  rfl
end Go.Proofs.Ytjmghomnbmbjnaa
set_option linter.all false
namespace Go.Proofs.Ytjmghomnbmbjnaa
open Go.Abs
-- CTX D
attribute [local congr] ite_congr
set_option maxRecDepth 10000
set_option maxHeartbeats 4000000 in
theorem lawCompileStacks (e : E) (S : List Bytes) (hok : e.Ok) (hlen : (visE e false).length ≤ 4000000) (hS : S.length ≤ 1099511627776) : acl D 5 [E.av e, .d (.slice (S.map sRow))] A00 = some (.d (.bool true), A00) := by
  have sm := up (smallExpr e hok 600 A00)
  have fw := up (fewBL S hS A00)
  have x1 := fun h => up (exprOf S h e hok hlen A00)
  have hcl := codeM_len S e false
  have hex : ((exS S e).2 = 0 ∧ (exS S e).1 = codeM S e ∧ chkE e 1 = 0) ∨ (decide ((exS S e).2 = 0) = false ∧ (exS S e).1 = []) := by
    unfold exS
    by_cases hk : chkE e 1 = 0
    · rw [if_pos hk]
      by_cases hb : okM S e = true
      · rw [if_pos hb]; exact .inl ⟨rfl, rfl, hk⟩
      · rw [if_neg hb]; exact .inr ⟨by decide, rfl⟩
    · rw [if_neg hk]; exact .inr ⟨by simpa using hk, rfl⟩
  have hgd : chkE e 1 = 0 → gdS (codeM S e) 0 = true := fun h => gd_expr S h
  generalize codeM S e = I at *
  generalize exS S e = r at *
  obtain ⟨J, k⟩ := r
  simp only at hex x1
  generalize chkE e 1 = ck at *
  generalize cntE e 600 = c at *
  obtain ⟨op, n, s, args⟩ := e
  cases h1 : decide (c ≤ 600) with
  | false =>
    rw [k_call (c := D) (f := 5) rfl Try.func5 rfl (ok 5 (by kernel_rfl)) rfl Try.ntmps5 Try.results5 (by simp)]
    simp (maxSteps := 1000000) only [go_sem, acondK_bool, acB_merge, Nat.reduceLT, Nat.reduceLeDiff, Nat.reduceEqDiff, Nat.reduceAdd, Nat.reduceSub, Nat.reduceMul, Nat.reduceBEq, Nat.reduceBNe, Nat.reduceBneDiff, Nat.reduceBeqDiff, Int.reduceToNat, Int.reduceLE, Int.reduceLT, Int.reduceEq, Int.reduceNe, Int.reduceNeg, Int.reduceAdd, Int.reduceSub, ↓reduceIte, reduceCtorEq, k_drawn_q, sm, works, h1]
  | true =>
  cases h2 : fewB S with
  | false =>
    rw [k_call (c := D) (f := 5) rfl Try.func5 rfl (ok 5 (by kernel_rfl)) rfl Try.ntmps5 Try.results5 (by simp)]
    simp (maxSteps := 1000000) only [go_sem, acondK_bool, acB_merge, Nat.reduceLT, Nat.reduceLeDiff, Nat.reduceEqDiff, Nat.reduceAdd, Nat.reduceSub, Nat.reduceMul, Nat.reduceBEq, Nat.reduceBNe, Nat.reduceBneDiff, Nat.reduceBeqDiff, Int.reduceToNat, Int.reduceLE, Int.reduceLT, Int.reduceEq, Int.reduceNe, Int.reduceNeg, Int.reduceAdd, Int.reduceSub, ↓reduceIte, reduceCtorEq, k_drawn_q, sm, works, h1, fw, h2]
  | true =>
  have hl : S.length ≤ 4194303 := by
    unfold fewB at h2
    split at h2
    · cases h2
    · rename_i h3
      simp at h3
      omega
  have x1 := x1 hl
  rcases hex with ⟨hk, hJ, hck⟩ | ⟨hk, hJ⟩
  · subst hk
    subst hJ
    have hg := hgd hck
    have hJl : J.length ≤ 4000000 := by omega
    clear hgd
    rw [k_call (c := D) (f := 5) rfl Try.func5 rfl (ok 5 (by kernel_rfl)) rfl Try.ntmps5 Try.results5 (by simp)]
    simp (maxSteps := 1000000) only [go_sem, acondK_bool, acB_merge, Nat.reduceLT, Nat.reduceLeDiff, Nat.reduceEqDiff, Nat.reduceAdd, Nat.reduceSub, Nat.reduceMul, Nat.reduceBEq, Nat.reduceBNe, Nat.reduceBneDiff, Nat.reduceBeqDiff, Int.reduceToNat, Int.reduceLE, Int.reduceLT, Int.reduceEq, Int.reduceNe, Int.reduceNeg, Int.reduceAdd, Int.reduceSub, ↓reduceIte, reduceCtorEq, k_drawn_q, sm, works, h1, fw, h2, x1]
    refine loop_invH (fun j (d : Int) => [(7, .v (.d (.int .i64 d))), (8, .v (.d (.int .i64 (j : Nat)))), (5, .v (.d (.slice (J.map In.row))))]) (fun _ => A00) (fun pre suf d => 0 ≤ d ∧ d ≤ (pre.length : Int) ∧ gdS suf d = true) J 0 rfl rfl ⟨by omega, by simp, hg⟩ ?_
    intro pre suf d h hI ih
    obtain ⟨i1, i2, i3⟩ := hI
    have hb : pre.length < 9223372036854775807 := by rw [h] at hJl; simp at hJl; omega
    cases suf with
    | nil =>
      have e4 : decide ((pre.length : Int) < (J.length : Int)) = false := by rw [h]; simp
      have e5 : decide (d = 1) = true := i3
      simp (maxSteps := 1000000) only [go_sem, acondK_bool, acB_merge, Nat.reduceLT, Nat.reduceLeDiff, Nat.reduceEqDiff, Nat.reduceAdd, Nat.reduceSub, Nat.reduceMul, Nat.reduceBEq, Nat.reduceBNe, Nat.reduceBneDiff, Nat.reduceBeqDiff, Int.reduceToNat, Int.reduceLE, Int.reduceLT, Int.reduceEq, Int.reduceNe, Int.reduceNeg, Int.reduceAdd, Int.reduceSub, ↓reduceIte, reduceCtorEq, e4, e5, works]
    | cons x suf =>
      have e2 := fun d' hI' => ih x suf d' rfl hI'
      have e3 : (J.map In.row)[pre.length]? = some [.int .i64 x.op, .int .i64 x.a, .int .i64 x.b, .int .i64 x.n, .str x.s] := by rw [h]; exact map_mid
      have e4 : decide ((pre.length : Int) < (J.length : Int)) = true := by rw [h]; simp; omega
      have hpl : pre.length ≤ 4000000 := by rw [h] at hJl; simp at hJl; omega
      have w1 : IntKind.i64.wrap (d + 1) = d + 1 := wrap_in (by omega) (by omega)
      rw [gdS] at i3
      by_cases o : x.op = 1 ∨ x.op = 2 ∨ x.op = 3
      · rw [if_pos (by simpa using o)] at i3
        have e6 := e2 (d + 1) ⟨by omega, by simp; omega, i3⟩
        by_cases o1 : x.op = 1
        · have d1 : decide (x.op = 1) = true := by simpa using o1
          simp (maxSteps := 1000000) only [go_sem, acondK_bool, acB_merge, Nat.reduceLT, Nat.reduceLeDiff, Nat.reduceEqDiff, Nat.reduceAdd, Nat.reduceSub, Nat.reduceMul, Nat.reduceBEq, Nat.reduceBNe, Nat.reduceBneDiff, Nat.reduceBeqDiff, Int.reduceToNat, Int.reduceLE, Int.reduceLT, Int.reduceEq, Int.reduceNe, Int.reduceNeg, Int.reduceAdd, Int.reduceSub, ↓reduceIte, reduceCtorEq, e3, e4, d1, w1, e6, wrap_nat hb]
        · have d1 : decide (x.op = 1) = false := by simpa using o1
          by_cases o2 : x.op = 2
          · have d2 : decide (x.op = 2) = true := by simpa using o2
            simp (maxSteps := 1000000) only [go_sem, acondK_bool, acB_merge, Nat.reduceLT, Nat.reduceLeDiff, Nat.reduceEqDiff, Nat.reduceAdd, Nat.reduceSub, Nat.reduceMul, Nat.reduceBEq, Nat.reduceBNe, Nat.reduceBneDiff, Nat.reduceBeqDiff, Int.reduceToNat, Int.reduceLE, Int.reduceLT, Int.reduceEq, Int.reduceNe, Int.reduceNeg, Int.reduceAdd, Int.reduceSub, ↓reduceIte, reduceCtorEq, e3, e4, d1, d2, w1, e6, wrap_nat hb]
          · have d2 : decide (x.op = 2) = false := by simpa using o2
            have d3 : decide (x.op = 3) = true := by simp; omega
            simp (maxSteps := 1000000) only [go_sem, acondK_bool, acB_merge, Nat.reduceLT, Nat.reduceLeDiff, Nat.reduceEqDiff, Nat.reduceAdd, Nat.reduceSub, Nat.reduceMul, Nat.reduceBEq, Nat.reduceBNe, Nat.reduceBneDiff, Nat.reduceBeqDiff, Int.reduceToNat, Int.reduceLE, Int.reduceLT, Int.reduceEq, Int.reduceNe, Int.reduceNeg, Int.reduceAdd, Int.reduceSub, ↓reduceIte, reduceCtorEq, e3, e4, d1, d2, d3, w1, e6, wrap_nat hb]
      · have d1 : decide (x.op = 1) = false := by simp; omega
        have d2 : decide (x.op = 2) = false := by simp; omega
        have d3 : decide (x.op = 3) = false := by simp; omega
        rw [if_neg (by simpa using o)] at i3
        cases d5 : decide (x.op = 5) with
        | false => rw [d5, if_neg (by decide)] at i3; cases i3
        | true =>
          rw [d5, if_pos rfl] at i3
          cases d6 : decide (ar x.a < 0) with
          | true => rw [d6, Bool.true_or, if_pos rfl] at i3; cases i3
          | false =>
            cases d7 : decide (d < ar x.a) with
            | true => rw [d6, d7, Bool.or_true, if_pos rfl] at i3; cases i3
            | false =>
              rw [d6, d7, Bool.or_false, if_neg (by decide)] at i3
              have a1 := up (arityR x.a A00)
              have n6 : ¬ ar x.a < 0 := by simpa using d6
              have n7 : ¬ d < ar x.a := by simpa using d7
              have w2 : IntKind.i64.wrap (d - ar x.a) = d - ar x.a := wrap_in (by omega) (by omega)
              have w3 : IntKind.i64.wrap (d - ar x.a + 1) = d - ar x.a + 1 := wrap_in (by omega) (by omega)
              have e6 := e2 (d - ar x.a + 1) ⟨by omega, by simp; omega, i3⟩
              generalize ar x.a = q at *
              simp (maxSteps := 1000000) only [go_sem, acondK_bool, acB_merge, Nat.reduceLT, Nat.reduceLeDiff, Nat.reduceEqDiff, Nat.reduceAdd, Nat.reduceSub, Nat.reduceMul, Nat.reduceBEq, Nat.reduceBNe, Nat.reduceBneDiff, Nat.reduceBeqDiff, Int.reduceToNat, Int.reduceLE, Int.reduceLT, Int.reduceEq, Int.reduceNe, Int.reduceNeg, Int.reduceAdd, Int.reduceSub, ↓reduceIte, reduceCtorEq, e3, e4, d1, d2, d3, d5, a1, d6, d7, w2, w3, e6, wrap_nat hb]
  · subst hJ
    rw [k_call (c := D) (f := 5) rfl Try.func5 rfl (ok 5 (by kernel_rfl)) rfl Try.ntmps5 Try.results5 (by simp)]
    simp (maxSteps := 1000000) only [go_sem, acondK_bool, acB_merge, Nat.reduceLT, Nat.reduceLeDiff, Nat.reduceEqDiff, Nat.reduceAdd, Nat.reduceSub, Nat.reduceMul, Nat.reduceBEq, Nat.reduceBNe, Nat.reduceBneDiff, Nat.reduceBeqDiff, Int.reduceToNat, Int.reduceLE, Int.reduceLT, Int.reduceEq, Int.reduceNe, Int.reduceNeg, Int.reduceAdd, Int.reduceSub, ↓reduceIte, reduceCtorEq, k_drawn_q, sm, works, h1, fw, h2, x1, hk, List.map_nil, List.length_nil]
theorem lawCompileStacksC (e : E) (S : List Bytes) (h : e.Ok ∧ wRow e.row ≤ 1048576) (hS : S.length ≤ 1048576 ∧ ∀ s ∈ S, s.length ≤ 1048576) : acl D 5 [E.av e, .d (.slice (S.map sRow1))] A00 = some (.d (.bool true), A00) := by
  have h1 := vis_weight e false
  exact lawCompileStacks e S h.1 (by have := h.2; omega) (by have := hS.1; omega)
end Go.Proofs.Ytjmghomnbmbjnaa
