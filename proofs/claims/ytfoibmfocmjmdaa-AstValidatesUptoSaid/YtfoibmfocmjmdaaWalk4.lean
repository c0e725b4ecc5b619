/- The walk over a procedure: the walker's start and end; how many nodes there are. -/
import Derived.Test.YtfoibmfocmjmdaaWalk3
set_option linter.all false
set_option linter.unusedVariables false
set_option linter.unusedSimpArgs false
set_option linter.all false
set_option linter.deprecated false
namespace Go.Proofs.Ytfoibmfocmjmdaa
open Go.Abs
attribute [local congr] ite_congr
set_option maxRecDepth 10000
/-- the cells of a procedure -/
abbrev Pr.av (p : Pr) : AV := .agg [.d (.str p.name), .d (.slice (p.params.map Pm.row)), .d (.slice (p.body.map Stm.row))]
theorem wrap_401 {k : Nat} (h : k ≤ 401) : IntKind.i64.wrap (401 - (k : Int)) = 401 - (k : Int) := by
  rw [wrap_in] <;> omega
theorem Wk.walk {σ : Type} (Z : Wk σ) (p : Pr) (hp : p.Ok) (t0 : σ) (A : AHeap) (hw : A.objs.length = Z.w) (hI : Z.Inv t0 401)
    (hH : (⟨A.objs ++ [.cells [.d (.int .i64 401), .func (.func Z.sfn) [] Z.scap, .func (.func Z.rfn) [] Z.rcap]], A.bufs⟩ : AHeap) = Z.H t0 401) :
    acl C 42 [Pr.av p, .func (.func Z.sfn) [] Z.scap, .func (.func Z.rfn) [] Z.rcap] A =
      afinR C 42 A (Z.H (run Z.fs Z.fr (visSs p.body 1) (t0, 401)).1 (run Z.fs Z.fr (visSs p.body 1) (t0, 401)).2) (some (.d (.int .i64 (401 - ((run Z.fs Z.fr (visSs p.body 1) (t0, 401)).2 : Int))))) := by
  rw [k_call (c := C) (f := 42) rfl Try.func42 rfl (ok 42 (by kernel_rfl)) rfl Try.ntmps42 Try.results42 (by simp)]
  have e1 := Z.block p.body hp.blen hp.body 1 t0 401 hI
  have hk := Z.le _ _ (Z.run_inv (visSs p.body 1) t0 401 hI)
  simp (maxSteps := 1000000) +contextual only [go_sem, acondK_bool, acB_merge, Nat.reduceLT, Nat.reduceLeDiff, Nat.reduceEqDiff, Nat.reduceAdd, Nat.reduceSub, Nat.reduceMul, Nat.reduceBEq, Nat.reduceBNe, Nat.reduceBneDiff, Nat.reduceBeqDiff, Int.reduceToNat, Int.reduceLE, Int.reduceLT, Int.reduceEq, Int.reduceNe, Int.reduceNeg, Int.reduceAdd, Int.reduceSub, ↓reduceIte, reduceCtorEq, List.getElem?_toArray, List.getElem?_cons_zero, List.getElem?_cons_succ, List.length_cons, List.length_nil, List.take_succ_cons, List.take_zero, List.drop_succ_cons, List.drop_zero, List.drop_nil, List.take_nil, List.nil_append, List.cons_append, List.append_nil, List.contains_cons, List.contains_nil, Bool.or_false, Bool.false_or, Bool.or_true, Bool.true_or, Bool.and_true, Bool.true_and, Bool.and_false, Bool.false_and, Bool.not_true, Bool.not_false, Bool.not_not, List.map_cons, List.map_nil, ite_not, not_true_eq_false, not_false_eq_true, Nat.zero_add, Nat.add_zero, hH, hw, e1, Z.obj, wrap_401 hk]
/-- the heap of a walk: what the client holds, and the walker behind it -/
def wkH {σ : Type} (sfn rfn : FuncId) (scap rcap : List AV) (base : σ → List AObj) (bufs : σ → List ABuf) (t : σ) (k : Nat) : AHeap :=
  ⟨base t ++ [.cells [.d (.int .i64 (k : Nat)), .func (.func sfn) [] scap, .func (.func rfn) [] rcap]], bufs t⟩
theorem wkH_obj {σ : Type} {sfn rfn : FuncId} {scap rcap : List AV} {base : σ → List AObj} {bufs : σ → List ABuf} {w : Nat} (hw : ∀ t, (base t).length = w) (t : σ) (k : Nat) :
    (wkH sfn rfn scap rcap base bufs t k).objs[w]? = some (.cells [.d (.int .i64 (k : Nat)), .func (.func sfn) [] scap, .func (.func rfn) [] rcap]) := by
  rw [← hw t]
  simp [wkH]
theorem wkH_set {σ : Type} {sfn rfn : FuncId} {scap rcap : List AV} {base : σ → List AObj} {bufs : σ → List ABuf} {w : Nat} (hw : ∀ t, (base t).length = w) (t : σ) (k k' : Nat) :
    (⟨(wkH sfn rfn scap rcap base bufs t k).objs.set w (.cells [.d (.int .i64 (k' : Nat)), .func (.func sfn) [] scap, .func (.func rfn) [] rcap]), (wkH sfn rfn scap rcap base bufs t k).bufs⟩ : AHeap) = wkH sfn rfn scap rcap base bufs t k' := by
  rw [← hw t]
  simp [wkH]
theorem noStmt (x : Stm) (d : Int) (A : AHeap) : acl C 50 [Stm.av x, .d (.int .i64 d)] A = some (.tuple [], A) := by
  rw [k_call (c := C) (f := 50) rfl Try.func50 rfl (ok 50 (by kernel_rfl)) rfl Try.ntmps50 Try.results50 (by simp)]
  simp (maxSteps := 1000000) +contextual only [go_sem, acondK_bool, acB_merge, Nat.reduceLT, Nat.reduceLeDiff, Nat.reduceEqDiff, Nat.reduceAdd, Nat.reduceSub, Nat.reduceMul, Nat.reduceBEq, Nat.reduceBNe, Nat.reduceBneDiff, Nat.reduceBeqDiff, Int.reduceToNat, Int.reduceLE, Int.reduceLT, Int.reduceEq, Int.reduceNe, Int.reduceNeg, Int.reduceAdd, Int.reduceSub, ↓reduceIte, reduceCtorEq, List.getElem?_toArray, List.getElem?_cons_zero, List.getElem?_cons_succ, List.length_cons, List.length_nil, List.take_succ_cons, List.take_zero, List.drop_succ_cons, List.drop_zero, List.drop_nil, List.take_nil, List.nil_append, List.cons_append, List.append_nil, List.contains_cons, List.contains_nil, Bool.or_false, Bool.false_or, Bool.or_true, Bool.true_or, Bool.and_true, Bool.true_and, Bool.and_false, Bool.false_and, Bool.not_true, Bool.not_false, Bool.not_not, List.map_cons, List.map_nil, ite_not, not_true_eq_false, not_false_eq_true, Nat.zero_add, Nat.add_zero]
theorem noRoot (e : E) (A : AHeap) : acl C 45 [E.av e] A = some (.tuple [], A) := by
  rw [k_call (c := C) (f := 45) rfl Try.func45 rfl (ok 45 (by kernel_rfl)) rfl Try.ntmps45 Try.results45 (by simp)]
  simp (maxSteps := 1000000) +contextual only [go_sem, acondK_bool, acB_merge, Nat.reduceLT, Nat.reduceLeDiff, Nat.reduceEqDiff, Nat.reduceAdd, Nat.reduceSub, Nat.reduceMul, Nat.reduceBEq, Nat.reduceBNe, Nat.reduceBneDiff, Nat.reduceBeqDiff, Int.reduceToNat, Int.reduceLE, Int.reduceLT, Int.reduceEq, Int.reduceNe, Int.reduceNeg, Int.reduceAdd, Int.reduceSub, ↓reduceIte, reduceCtorEq, List.getElem?_toArray, List.getElem?_cons_zero, List.getElem?_cons_succ, List.length_cons, List.length_nil, List.take_succ_cons, List.take_zero, List.drop_succ_cons, List.drop_zero, List.drop_nil, List.take_nil, List.nil_append, List.cons_append, List.append_nil, List.contains_cons, List.contains_nil, Bool.or_false, Bool.false_or, Bool.or_true, Bool.true_or, Bool.and_true, Bool.true_and, Bool.and_false, Bool.false_and, Bool.not_true, Bool.not_false, Bool.not_not, List.map_cons, List.map_nil, ite_not, not_true_eq_false, not_false_eq_true, Nat.zero_add, Nat.add_zero]
/-- the walk that does nothing -/
def wk0 (A : AHeap) : Wk Unit where
  w := A.objs.length
  sfn := 50
  rfn := 45
  scap := []
  rcap := []
  H := wkH 50 45 [] [] (fun _ => A.objs) (fun _ => A.bufs)
  fs := fun t _ _ => t
  fr := fun t _ => t
  Inv := fun _ k => k ≤ 401
  le := fun _ _ h => h
  obj := wkH_obj fun _ => rfl
  set := wkH_set fun _ => rfl
  stmt := fun t k x d _ _ => noStmt x d _
  root := fun t k e _ _ => noRoot e _
  inv_s := fun _ _ _ _ h => by omega
  inv_r := fun _ _ _ h => by omega
  inv_e := fun _ _ h => by omega
theorem run_len {σ : Type} (fs : σ → Stm → Int → σ) (fr : σ → E → σ) : ∀ (l : List Vis) (t : σ) (k : Nat), (run fs fr l (t, k)).2 = k - l.length
  | [], t, k => by simp [run]
  | v :: l, t, k => by
    simp only [run]
    split
    · rename_i h; subst h; simp
    · rw [run_len fs fr l]; simp; omega
/-- how many nodes are visited -/
def nodesS (p : Pr) : Nat := min 401 (visSs p.body 1).length
theorem nodes (p : Pr) (hp : p.Ok) (A : AHeap) : acl C 22 [Pr.av p] A = some (.d (.int .i64 (nodesS p : Nat)), A) := by
  rw [k_call (c := C) (f := 22) rfl Try.func22 rfl (ok 22 (by kernel_rfl)) rfl Try.ntmps22 Try.results22 (by simp)]
  have e1 := (wk0 A).walk p hp () A rfl (Nat.le_refl _) rfl
  have e3 : (401 : Int) - ((run (wk0 A).fs (wk0 A).fr (visSs p.body 1) ((), 401)).2 : Int) = (nodesS p : Nat) := by
    rw [run_len]; unfold nodesS; omega
  rw [e3] at e1
  have e2 : afinR C 42 A ((wk0 A).H (run (wk0 A).fs (wk0 A).fr (visSs p.body 1) ((), 401)).1 (run (wk0 A).fs (wk0 A).fr (visSs p.body 1) ((), 401)).2) (some (.d (.int .i64 (nodesS p : Nat)))) = some (.d (.int .i64 (nodesS p : Nat)), A) := afinR_obj rfl rfl
  rw [e2] at e1
  change acl C 42 [Pr.av p, .func (.func 50) [] [], .func (.func 45) [] []] A = _ at e1
  simp (maxSteps := 1000000) +contextual only [go_sem, acondK_bool, acB_merge, Nat.reduceLT, Nat.reduceLeDiff, Nat.reduceEqDiff, Nat.reduceAdd, Nat.reduceSub, Nat.reduceMul, Nat.reduceBEq, Nat.reduceBNe, Nat.reduceBneDiff, Nat.reduceBeqDiff, Int.reduceToNat, Int.reduceLE, Int.reduceLT, Int.reduceEq, Int.reduceNe, Int.reduceNeg, Int.reduceAdd, Int.reduceSub, ↓reduceIte, reduceCtorEq, List.getElem?_toArray, List.getElem?_cons_zero, List.getElem?_cons_succ, List.length_cons, List.length_nil, List.take_succ_cons, List.take_zero, List.drop_succ_cons, List.drop_zero, List.drop_nil, List.take_nil, List.nil_append, List.cons_append, List.append_nil, List.contains_cons, List.contains_nil, Bool.or_false, Bool.false_or, Bool.or_true, Bool.true_or, Bool.and_true, Bool.true_and, Bool.and_false, Bool.false_and, Bool.not_true, Bool.not_false, Bool.not_not, List.map_cons, List.map_nil, ite_not, not_true_eq_false, not_false_eq_true, Nat.zero_add, Nat.add_zero, e1]
end Go.Proofs.Ytfoibmfocmjmdaa
