/- The walk over a procedure: the program's walker. -/
import Derived.Test.YtfoibmfocmjmdaaWalk1
set_option linter.all false
set_option linter.unusedVariables false
set_option linter.unusedSimpArgs false
set_option linter.all false
set_option linter.deprecated false
namespace Go.Proofs.Ytfoibmfocmjmdaa
open Go.Abs
attribute [local congr] ite_congr
set_option maxRecDepth 10000
section
variable {σ : Type} (Z : Wk σ)
theorem visE_len (e : E) (r : Bool) : (visE e r).length = (visEs e.args).length + 1 := by
  cases e; simp [visE]
theorem run_root (e : E) (t : σ) (k : Nat) : run Z.fs Z.fr (visE e true) (t, k + 1) = (Z.fr t e, k + 1 - (visE e false).length) := by
  cases e
  simp only [visE, run, step1, Nat.add_one_ne_zero, if_false, Nat.add_sub_cancel, run_visEs, List.length_cons]
  congr 1
  omega
theorem Wk.first (e : E) (hok : E.Ok e) (t : σ) (k : Nat) (hI : Z.Inv t k) : acl C 92 [.ptr Z.w 0, E.av e] (Z.H t k) =
    some (.tuple [], Z.H (run Z.fs Z.fr (if absE e = true then [] else visE e true) (t, k)).1 (run Z.fs Z.fr (if absE e = true then [] else visE e true) (t, k)).2) := by
  rw [k_call (c := C) (f := 92) rfl Try.func92 rfl (ok 92 (by kernel_rfl)) rfl Try.ntmps92 Try.results92 (by simp)]
  have hk := Z.le t k hI
  cases k with
  | zero => simp (maxSteps := 1000000) +contextual only [go_sem, acondK_bool, acB_merge, Nat.reduceLT, Nat.reduceLeDiff, Nat.reduceEqDiff, Nat.reduceAdd, Nat.reduceSub, Nat.reduceMul, Nat.reduceBEq, Nat.reduceBNe, Nat.reduceBneDiff, Nat.reduceBeqDiff, Int.reduceToNat, Int.reduceLE, Int.reduceLT, Int.reduceEq, Int.reduceNe, Int.reduceNeg, Int.reduceAdd, Int.reduceSub, ↓reduceIte, reduceCtorEq, List.getElem?_toArray, List.getElem?_cons_zero, List.getElem?_cons_succ, List.length_cons, List.length_nil, List.take_succ_cons, List.take_zero, List.drop_succ_cons, List.drop_zero, List.drop_nil, List.take_nil, List.nil_append, List.cons_append, List.append_nil, List.contains_cons, List.contains_nil, Bool.or_false, Bool.false_or, Bool.or_true, Bool.true_or, Bool.and_true, Bool.true_and, Bool.and_false, Bool.false_and, Bool.not_true, Bool.not_false, Bool.not_not, List.map_cons, List.map_nil, ite_not, not_true_eq_false, not_false_eq_true, Nat.zero_add, Nat.add_zero, Z.obj, run_zero, k_drawn_t]
  | succ k =>
    simp (maxSteps := 1000000) only [go_sem, acB_merge, Nat.reduceLT, Nat.reduceLeDiff, Nat.reduceEqDiff, Nat.reduceAdd, Nat.reduceSub, Nat.reduceMul, Nat.reduceBEq, Nat.reduceBNe, Nat.reduceBneDiff, Nat.reduceBeqDiff, Int.reduceToNat, Int.reduceLE, Int.reduceLT, Int.reduceEq, Int.reduceNe, Int.reduceNeg, Int.reduceAdd, Int.reduceSub, ↓reduceIte, reduceCtorEq, List.getElem?_toArray, List.getElem?_cons_zero, List.getElem?_cons_succ, List.length_cons, List.length_nil, List.take_succ_cons, List.take_zero, List.drop_succ_cons, List.drop_zero, List.drop_nil, List.take_nil, List.nil_append, List.cons_append, List.append_nil, List.contains_cons, List.contains_nil, Bool.or_false, Bool.false_or, Bool.or_true, Bool.true_or, Bool.and_true, Bool.true_and, Bool.and_false, Bool.false_and, Bool.not_true, Bool.not_false, Bool.not_not, List.map_cons, List.map_nil, ite_not, not_true_eq_false, not_false_eq_true, Nat.zero_add, Nat.add_zero, Z.obj, succ_ne, k_drawn_t]
    refine wayK (fun h => ?_) (fun h => ?_)
    · simp (maxSteps := 1000000) +contextual only [go_sem, acondK_bool, acB_merge, Nat.reduceLT, Nat.reduceLeDiff, Nat.reduceEqDiff, Nat.reduceAdd, Nat.reduceSub, Nat.reduceMul, Nat.reduceBEq, Nat.reduceBNe, Nat.reduceBneDiff, Nat.reduceBeqDiff, Int.reduceToNat, Int.reduceLE, Int.reduceLT, Int.reduceEq, Int.reduceNe, Int.reduceNeg, Int.reduceAdd, Int.reduceSub, ↓reduceIte, reduceCtorEq, List.getElem?_toArray, List.getElem?_cons_zero, List.getElem?_cons_succ, List.length_cons, List.length_nil, List.take_succ_cons, List.take_zero, List.drop_succ_cons, List.drop_zero, List.drop_nil, List.take_nil, List.nil_append, List.cons_append, List.append_nil, List.contains_cons, List.contains_nil, Bool.or_false, Bool.false_or, Bool.or_true, Bool.true_or, Bool.and_true, Bool.true_and, Bool.and_false, Bool.false_and, Bool.not_true, Bool.not_false, Bool.not_not, List.map_cons, List.map_nil, ite_not, not_true_eq_false, not_false_eq_true, Nat.zero_add, Nat.add_zero, h, run]
    · have e1 := Z.root t k e hok hI
      simp (maxSteps := 1000000) +contextual only [go_sem, acondK_bool, acB_merge, Nat.reduceLT, Nat.reduceLeDiff, Nat.reduceEqDiff, Nat.reduceAdd, Nat.reduceSub, Nat.reduceMul, Nat.reduceBEq, Nat.reduceBNe, Nat.reduceBneDiff, Nat.reduceBeqDiff, Int.reduceToNat, Int.reduceLE, Int.reduceLT, Int.reduceEq, Int.reduceNe, Int.reduceNeg, Int.reduceAdd, Int.reduceSub, ↓reduceIte, reduceCtorEq, List.getElem?_toArray, List.getElem?_cons_zero, List.getElem?_cons_succ, List.length_cons, List.length_nil, List.take_succ_cons, List.take_zero, List.drop_succ_cons, List.drop_zero, List.drop_nil, List.take_nil, List.nil_append, List.cons_append, List.append_nil, List.contains_cons, List.contains_nil, Bool.or_false, Bool.false_or, Bool.or_true, Bool.true_or, Bool.and_true, Bool.true_and, Bool.and_false, Bool.false_and, Bool.not_true, Bool.not_false, Bool.not_not, List.map_cons, List.map_nil, ite_not, not_true_eq_false, not_false_eq_true, Nat.zero_add, Nat.add_zero, h, k_drawn_t, Z.obj, e1]
      refine Eq.trans (ctE_ok (by repeat (first | exact MLe.nil | apply MLe.q | apply MLe.o | apply MLe.b | apply MLe.l)) (by kernel_rfl)) ?_
      have e2 := Z.expr e hok (Z.fr t e) (k + 1) hk
      have hf := Z.afin (f := 92) rfl (t := t) (t' := Z.fr t e) (k := k + 1) (k' := k + 1 - (visE e false).length) (.inr (by rw [visE_len]; omega))
      simp (maxSteps := 1000000) +contextual only [go_sem, acondK_bool, acB_merge, Nat.reduceLT, Nat.reduceLeDiff, Nat.reduceEqDiff, Nat.reduceAdd, Nat.reduceSub, Nat.reduceMul, Nat.reduceBEq, Nat.reduceBNe, Nat.reduceBneDiff, Nat.reduceBeqDiff, Int.reduceToNat, Int.reduceLE, Int.reduceLT, Int.reduceEq, Int.reduceNe, Int.reduceNeg, Int.reduceAdd, Int.reduceSub, ↓reduceIte, reduceCtorEq, List.getElem?_toArray, List.getElem?_cons_zero, List.getElem?_cons_succ, List.length_cons, List.length_nil, List.take_succ_cons, List.take_zero, List.drop_succ_cons, List.drop_zero, List.drop_nil, List.take_nil, List.nil_append, List.cons_append, List.append_nil, List.contains_cons, List.contains_nil, Bool.or_false, Bool.false_or, Bool.or_true, Bool.true_or, Bool.and_true, Bool.true_and, Bool.and_false, Bool.false_and, Bool.not_true, Bool.not_false, Bool.not_not, List.map_cons, List.map_nil, ite_not, not_true_eq_false, not_false_eq_true, Nat.zero_add, Nat.add_zero, e2, hf, run_root]
theorem Stm.Ok.a {x : Stm} (h : x.Ok) : x.a.Ok := by cases h; assumption
theorem Stm.Ok.b {x : Stm} (h : x.Ok) : x.b.Ok := by cases h; assumption
theorem Stm.Ok.bodyLen {x : Stm} (h : x.Ok) : x.body.length ≤ 1099511627776 := by cases h; assumption
theorem Stm.Ok.elsLen {x : Stm} (h : x.Ok) : x.els.length ≤ 1099511627776 := by cases h; assumption
theorem Stm.Ok.bodyOk {x : Stm} (h : x.Ok) : ∀ y, y ∈ x.body → y.Ok := by cases h; assumption
theorem Stm.Ok.elsOk {x : Stm} (h : x.Ok) : ∀ y, y ∈ x.els → y.Ok := by cases h; assumption
/-- the walk of a block, when those of the statements in it are known -/
theorem Wk.block_of (l : List Stm) (hlen : l.length ≤ 1099511627776) (hok : ∀ x ∈ l, x.Ok)
    (ih : ∀ x ∈ l, ∀ (m : List Stm), m = x.body ∨ m = x.els → ∀ (d : Int) (t : σ) (k : Nat), Z.Inv t k → acl C 73 [.ptr Z.w 0, .d (.slice (m.map Stm.row)), .d (.int .i64 d)] (Z.H t k) = some (.tuple [], Z.H (run Z.fs Z.fr (visSs m d) (t, k)).1 (run Z.fs Z.fr (visSs m d) (t, k)).2))
    (d : Int) (t : σ) (k : Nat) (hI : Z.Inv t k) :
    acl C 73 [.ptr Z.w 0, .d (.slice (l.map Stm.row)), .d (.int .i64 d)] (Z.H t k) = some (.tuple [], Z.H (run Z.fs Z.fr (visSs l d) (t, k)).1 (run Z.fs Z.fr (visSs l d) (t, k)).2) := by
  rw [k_call (c := C) (f := 73) rfl Try.func73 rfl (ok 73 (by kernel_rfl)) rfl Try.ntmps73 Try.results73 (by simp)]
  simp (maxSteps := 1000000) +contextual only [go_sem, acondK_bool, acB_merge, Nat.reduceLT, Nat.reduceLeDiff, Nat.reduceEqDiff, Nat.reduceAdd, Nat.reduceSub, Nat.reduceMul, Nat.reduceBEq, Nat.reduceBNe, Nat.reduceBneDiff, Nat.reduceBeqDiff, Int.reduceToNat, Int.reduceLE, Int.reduceLT, Int.reduceEq, Int.reduceNe, Int.reduceNeg, Int.reduceAdd, Int.reduceSub, ↓reduceIte, reduceCtorEq, List.getElem?_toArray, List.getElem?_cons_zero, List.getElem?_cons_succ, List.length_cons, List.length_nil, List.take_succ_cons, List.take_zero, List.drop_succ_cons, List.drop_zero, List.drop_nil, List.take_nil, List.nil_append, List.cons_append, List.append_nil, List.contains_cons, List.contains_nil, Bool.or_false, Bool.false_or, Bool.or_true, Bool.true_or, Bool.and_true, Bool.true_and, Bool.and_false, Bool.false_and, Bool.not_true, Bool.not_false, Bool.not_not, List.map_cons, List.map_nil, ite_not, not_true_eq_false, not_false_eq_true, Nat.zero_add, Nat.add_zero]
  refine loop_any (fun pre => [(9, .v (.d (.int .i64 (l.length : Nat)))), (8, .v (.d (.slice (l.map Stm.row)))), (2, .v (.d (.int .i64 d))), (0, .v (.ptr Z.w 0)), (10, .v (.d (.int .i64 (pre.length : Nat))))])
    (fun pre => Z.H (run Z.fs Z.fr (visSs pre d) (t, k)).1 (run Z.fs Z.fr (visSs pre d) (t, k)).2)
    (fun _ _ => some (.tuple [], Z.H (run Z.fs Z.fr (visSs l d) (t, k)).1 (run Z.fs Z.fr (visSs l d) (t, k)).2)) l rfl (by simp [visSs, run]) rfl ?_
  intro pre suf hl ih2
  have hb : pre.length < 9223372036854775807 := by rw [hl] at hlen; simp at hlen; omega
  have hIp := Z.run_inv (visSs pre d) t k hI
  have hcase := run_le Z.fs Z.fr (visSs pre d) (t, k)
  cases suf with
  | nil =>
    rw [List.append_nil] at hl
    subst hl
    have hf := Z.afin (f := 73) rfl (t := t) (t' := (run Z.fs Z.fr (visSs l d) (t, k)).1) (k := k) (k' := (run Z.fs Z.fr (visSs l d) (t, k)).2) hcase
    simp (maxSteps := 1000000) +contextual only [go_sem, acondK_bool, acB_merge, Nat.reduceLT, Nat.reduceLeDiff, Nat.reduceEqDiff, Nat.reduceAdd, Nat.reduceSub, Nat.reduceMul, Nat.reduceBEq, Nat.reduceBNe, Nat.reduceBneDiff, Nat.reduceBeqDiff, Int.reduceToNat, Int.reduceLE, Int.reduceLT, Int.reduceEq, Int.reduceNe, Int.reduceNeg, Int.reduceAdd, Int.reduceSub, ↓reduceIte, reduceCtorEq, List.getElem?_toArray, List.getElem?_cons_zero, List.getElem?_cons_succ, List.length_cons, List.length_nil, List.take_succ_cons, List.take_zero, List.drop_succ_cons, List.drop_zero, List.drop_nil, List.take_nil, List.nil_append, List.cons_append, List.append_nil, List.contains_cons, List.contains_nil, Bool.or_false, Bool.false_or, Bool.or_true, Bool.true_or, Bool.and_true, Bool.true_and, Bool.and_false, Bool.false_and, Bool.not_true, Bool.not_false, Bool.not_not, List.map_cons, List.map_nil, ite_not, not_true_eq_false, not_false_eq_true, Nat.zero_add, Nat.add_zero, hf]
  | cons x suf =>
    have hx : x ∈ l := by rw [hl]; simp
    have hxo := hok x hx
    have e2 := ih2 x suf rfl
    rw [visSs_append, run_append] at e2
    simp only [visSs, List.append_nil, List.length_append, List.length_cons, List.length_nil] at e2
    have hall : run Z.fs Z.fr (visSs l d) (t, k) = run Z.fs Z.fr (visSs suf d) (run Z.fs Z.fr (visS x d) (run Z.fs Z.fr (visSs pre d) (t, k))) := by
      rw [hl, visSs_append, run_append]
      simp only [visSs, run_append]
    generalize hr : run Z.fs Z.fr (visSs pre d) (t, k) = r at *
    obtain ⟨t1, k1⟩ := r
    cases k1 with
    | zero =>
      have hf := Z.afin (f := 73) rfl (t := t) (t' := t1) (k := k) (k' := 0) hcase
      have hend : run Z.fs Z.fr (visSs l d) (t, k) = (t1, 0) := by rw [hall, run_zero, run_zero]
      rw [hend, hl]
      simp only [List.length_append, List.length_cons]
      simp (maxSteps := 1000000) +contextual only [go_sem, acondK_bool, acB_merge, Nat.reduceLT, Nat.reduceLeDiff, Nat.reduceEqDiff, Nat.reduceAdd, Nat.reduceSub, Nat.reduceMul, Nat.reduceBEq, Nat.reduceBNe, Nat.reduceBneDiff, Nat.reduceBeqDiff, Int.reduceToNat, Int.reduceLE, Int.reduceLT, Int.reduceEq, Int.reduceNe, Int.reduceNeg, Int.reduceAdd, Int.reduceSub, ↓reduceIte, reduceCtorEq, List.getElem?_toArray, List.getElem?_cons_zero, List.getElem?_cons_succ, List.length_cons, List.length_nil, List.take_succ_cons, List.take_zero, List.drop_succ_cons, List.drop_zero, List.drop_nil, List.take_nil, List.nil_append, List.cons_append, List.append_nil, List.contains_cons, List.contains_nil, Bool.or_false, Bool.false_or, Bool.or_true, Bool.true_or, Bool.and_true, Bool.true_and, Bool.and_false, Bool.false_and, Bool.not_true, Bool.not_false, Bool.not_not, List.map_cons, List.map_nil, ite_not, not_true_eq_false, not_false_eq_true, Nat.zero_add, Nat.add_zero, Stm.row_eq, Z.obj, hf]
    | succ k1 =>
      have hle := Z.le _ _ hIp
      have e3 := Z.stmt t1 k1 x d hxo hIp
      have hI3 := Z.inv_s t1 k1 x d hIp
      rw [hl] at e2 ⊢
      simp only [List.length_append, List.length_cons] at e2 ⊢
      simp (maxSteps := 1000000) +contextual only [go_sem, acondK_bool, acB_merge, Nat.reduceLT, Nat.reduceLeDiff, Nat.reduceEqDiff, Nat.reduceAdd, Nat.reduceSub, Nat.reduceMul, Nat.reduceBEq, Nat.reduceBNe, Nat.reduceBneDiff, Nat.reduceBeqDiff, Int.reduceToNat, Int.reduceLE, Int.reduceLT, Int.reduceEq, Int.reduceNe, Int.reduceNeg, Int.reduceAdd, Int.reduceSub, ↓reduceIte, reduceCtorEq, List.getElem?_toArray, List.getElem?_cons_zero, List.getElem?_cons_succ, List.length_cons, List.length_nil, List.take_succ_cons, List.take_zero, List.drop_succ_cons, List.drop_zero, List.drop_nil, List.take_nil, List.nil_append, List.cons_append, List.append_nil, List.contains_cons, List.contains_nil, Bool.or_false, Bool.false_or, Bool.or_true, Bool.true_or, Bool.and_true, Bool.true_and, Bool.and_false, Bool.false_and, Bool.not_true, Bool.not_false, Bool.not_not, List.map_cons, List.map_nil, ite_not, not_true_eq_false, not_false_eq_true, Nat.zero_add, Nat.add_zero, Stm.row_eq, Z.obj, succ_ne, wrap_pred (show k1 ≤ 401 by omega), Z.set, k_drawn_t, e3]
      refine Eq.trans (ctE_ok (by repeat (first | exact MLe.nil | apply MLe.q | apply MLe.o | apply MLe.b | apply MLe.l)) (by kernel_rfl)) ?_
      have f1 := Z.first x.a (Stm.Ok.a hxo) (Z.fs t1 x d) k1 hI3
      have I1 := Z.run_inv (if absE x.a = true then [] else visE x.a true) (Z.fs t1 x d) k1 hI3
      generalize hp1 : run Z.fs Z.fr (if absE x.a = true then [] else visE x.a true) (Z.fs t1 x d, k1) = p1 at f1 I1
      have f2 := Z.first x.b (Stm.Ok.b hxo) p1.1 p1.2 I1
      have I2 := Z.run_inv (if absE x.b = true then [] else visE x.b true) p1.1 p1.2 I1
      generalize hp2 : run Z.fs Z.fr (if absE x.b = true then [] else visE x.b true) (p1.1, p1.2) = p2 at f2 I2
      have f3 := ih x hx x.body (.inl rfl) (IntKind.i64.wrap (d + 1)) p2.1 p2.2 I2
      have I3 := Z.run_inv (visSs x.body (IntKind.i64.wrap (d + 1))) p2.1 p2.2 I2
      generalize hp3 : run Z.fs Z.fr (visSs x.body (IntKind.i64.wrap (d + 1))) (p2.1, p2.2) = p3 at f3 I3
      have f4 := ih x hx x.els (.inr rfl) (IntKind.i64.wrap (d + 1)) p3.1 p3.2 I3
      generalize hp4 : run Z.fs Z.fr (visSs x.els (IntKind.i64.wrap (d + 1))) (p3.1, p3.2) = p4 at f4
      have hV : run Z.fs Z.fr (visS x d) (t1, k1 + 1) = p4 := by
        rw [← hp4]
        obtain ⟨op, name, max, a, b, body, els⟩ := x
        simp only [visS, run, step1, Nat.add_one_ne_zero, if_false, Nat.add_sub_cancel, run_append]
        simp only [hp1, hp2, hp3]
      rw [hV] at e2
      simp (maxSteps := 1000000) +contextual only [go_sem, acondK_bool, acB_merge, Nat.reduceLT, Nat.reduceLeDiff, Nat.reduceEqDiff, Nat.reduceAdd, Nat.reduceSub, Nat.reduceMul, Nat.reduceBEq, Nat.reduceBNe, Nat.reduceBneDiff, Nat.reduceBeqDiff, Int.reduceToNat, Int.reduceLE, Int.reduceLT, Int.reduceEq, Int.reduceNe, Int.reduceNeg, Int.reduceAdd, Int.reduceSub, ↓reduceIte, reduceCtorEq, List.getElem?_toArray, List.getElem?_cons_zero, List.getElem?_cons_succ, List.length_cons, List.length_nil, List.take_succ_cons, List.take_zero, List.drop_succ_cons, List.drop_zero, List.drop_nil, List.take_nil, List.nil_append, List.cons_append, List.append_nil, List.contains_cons, List.contains_nil, Bool.or_false, Bool.false_or, Bool.or_true, Bool.true_or, Bool.and_true, Bool.true_and, Bool.and_false, Bool.false_and, Bool.not_true, Bool.not_false, Bool.not_not, List.map_cons, List.map_nil, ite_not, not_true_eq_false, not_false_eq_true, Nat.zero_add, Nat.add_zero, f1, f2, f3, f4, e2, wrap_nat hb]
theorem Wk.inner : ∀ x : Stm, x.Ok → ∀ (m : List Stm), m = x.body ∨ m = x.els → ∀ (d : Int) (t : σ) (k : Nat), Z.Inv t k → acl C 73 [.ptr Z.w 0, .d (.slice (m.map Stm.row)), .d (.int .i64 d)] (Z.H t k) = some (.tuple [], Z.H (run Z.fs Z.fr (visSs m d) (t, k)).1 (run Z.fs Z.fr (visSs m d) (t, k)).2) := by
  intro x
  induction x using Stm.ind with
  | h op name max a b body els ihb ihe =>
    intro hok m hm d t k hI
    rcases hm with rfl | rfl
    · exact Z.block_of _ (Stm.Ok.bodyLen hok) (Stm.Ok.bodyOk hok) (fun y hy => ihb y hy (Stm.Ok.bodyOk hok y hy)) d t k hI
    · exact Z.block_of _ (Stm.Ok.elsLen hok) (Stm.Ok.elsOk hok) (fun y hy => ihe y hy (Stm.Ok.elsOk hok y hy)) d t k hI
theorem Wk.block (l : List Stm) (hlen : l.length ≤ 1099511627776) (hok : ∀ x ∈ l, x.Ok) (d : Int) (t : σ) (k : Nat) (hI : Z.Inv t k) :
    acl C 73 [.ptr Z.w 0, .d (.slice (l.map Stm.row)), .d (.int .i64 d)] (Z.H t k) = some (.tuple [], Z.H (run Z.fs Z.fr (visSs l d) (t, k)).1 (run Z.fs Z.fr (visSs l d) (t, k)).2) :=
  Z.block_of l hlen hok (fun x hx => Z.inner x (hok x hx)) d t k hI
end
end Go.Proofs.Ytfoibmfocmjmdaa
