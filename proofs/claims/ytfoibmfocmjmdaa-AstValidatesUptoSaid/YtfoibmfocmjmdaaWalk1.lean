/- The walk over a procedure: in what order it visits, and what it does at each node. -/
import Derived.Test.YtfoibmfocmjmdaaAst2
set_option linter.all false
set_option linter.unusedVariables false
set_option linter.unusedSimpArgs false
set_option linter.all false
set_option linter.deprecated false
namespace Go.Proofs.Ytfoibmfocmjmdaa
open Go.Abs
attribute [local congr] ite_congr
set_option maxRecDepth 10000
/-- the cells of a whole statement -/
abbrev Stm.av (x : Stm) : AV := .agg [.d (.int .i64 x.op), .d (.str x.name), .d (.int .i64 x.max), .d (.int .i64 x.a.op), .d (.int .i64 x.a.n), .d (.str x.a.s), .d (.slice (x.a.args.map E.row)),
    .d (.int .i64 x.b.op), .d (.int .i64 x.b.n), .d (.str x.b.s), .d (.slice (x.b.args.map E.row)), .d (.slice (x.body.map Stm.row)), .d (.slice (x.els.map Stm.row))]
/-- what is visited: a statement at a depth, or a node of an expression -/
inductive Vis where
  | s (x : Stm) (d : Int)
  | e (x : E) (root : Bool)
mutual
def visE : E → Bool → List Vis
  | .mk op n s args, r => .e (.mk op n s args) r :: visEs args
def visEs : List E → List Vis
  | [] => []
  | x :: l => visE x false ++ visEs l
end
abbrev absE (e : E) : Bool := absentS e.op e.n e.s e.args.length
mutual
def visS : Stm → Int → List Vis
  | .mk op name max a b body els, d => .s (.mk op name max a b body els) d :: ((if absE a = true then [] else visE a true) ++ ((if absE b = true then [] else visE b true) ++
      (visSs body (IntKind.i64.wrap (d + 1)) ++ visSs els (IntKind.i64.wrap (d + 1)))))
def visSs : List Stm → Int → List Vis
  | [], _ => []
  | x :: l, d => visS x d ++ visSs l d
end
theorem visEs_append : ∀ (l m : List E), visEs (l ++ m) = visEs l ++ visEs m
  | [], m => by simp [visEs]
  | x :: l, m => by simp only [List.cons_append, visEs, visEs_append l m, List.append_assoc]
theorem visSs_append (d : Int) : ∀ (l m : List Stm), visSs (l ++ m) d = visSs l d ++ visSs m d
  | [], m => by simp [visSs]
  | x :: l, m => by simp only [List.cons_append, visSs, visSs_append d l m, List.append_assoc]

section
variable {σ : Type} (fs : σ → Stm → Int → σ) (fr : σ → E → σ)
def step1 : Vis → σ → σ
  | .s x d, t => fs t x d
  | .e x true, t => fr t x
  | .e _ false, t => t
/-- visits, as long as some are left -/
def run : List Vis → σ × Nat → σ × Nat
  | [], p => p
  | v :: l, (t, k) => if k = 0 then (t, 0) else run l (step1 fs fr v t, k - 1)
theorem run_zero : ∀ (l : List Vis) (t : σ), run fs fr l (t, 0) = (t, 0)
  | [], _ => rfl
  | _ :: _, _ => by simp [run]
theorem run_append : ∀ (l m : List Vis) (p : σ × Nat), run fs fr (l ++ m) p = run fs fr m (run fs fr l p)
  | [], _, _ => rfl
  | v :: l, m, (t, k) => by
    simp only [List.cons_append, run]
    split
    · rw [run_zero]
    · exact run_append l m _
theorem run_le : ∀ (l : List Vis) (p : σ × Nat), run fs fr l p = p ∨ (run fs fr l p).2 < p.2
  | [], _ => .inl rfl
  | v :: l, (t, k) => by
    simp only [run]
    split
    · rename_i h; subst h; exact .inl rfl
    · right
      rcases run_le l (step1 fs fr v t, k - 1) with h | h
      · rw [h]; show k - 1 < k; omega
      · have : k - 1 < k := by omega
        exact Nat.lt_trans h this
mutual
theorem run_visE (t : σ) : ∀ (e : E) (k : Nat), run fs fr (visE e false) (t, k) = (t, k - (visE e false).length)
  | .mk op n s args, k => by
    simp only [visE, run, step1, List.length_cons]
    split
    · rename_i h; subst h; simp
    · rw [run_visEs t args]; congr 1; omega
theorem run_visEs (t : σ) : ∀ (l : List E) (k : Nat), run fs fr (visEs l) (t, k) = (t, k - (visEs l).length)
  | [], k => by simp [visEs, run]
  | x :: l, k => by
    simp only [visEs, run_append, List.length_append]
    rw [run_visE t x, run_visEs t l]
    congr 1
    omega
end
end

/-- a walker in the heap, and what its two functions do -/
structure Wk (σ : Type) where
  w : Nat
  sfn : FuncId
  rfn : FuncId
  scap : List AV
  rcap : List AV
  H : σ → Nat → AHeap
  fs : σ → Stm → Int → σ
  fr : σ → E → σ
  Inv : σ → Nat → Prop
  le : ∀ t k, Inv t k → k ≤ 401
  obj : ∀ t k, (H t k).objs[w]? = some (.cells [.d (.int .i64 (k : Nat)), .func (.func sfn) [] scap, .func (.func rfn) [] rcap])
  set : ∀ t k k', (⟨(H t k).objs.set w (.cells [.d (.int .i64 (k' : Nat)), .func (.func sfn) [] scap, .func (.func rfn) [] rcap]), (H t k).bufs⟩ : AHeap) = H t k'
  stmt : ∀ t k x d, x.Ok → Inv t (k + 1) → acl C sfn (Stm.av x :: .d (.int .i64 d) :: scap) (H t k) = some (.tuple [], H (fs t x d) k)
  root : ∀ t k e, e.Ok → Inv t (k + 1) → acl C rfn (E.av e :: rcap) (H t (k + 1)) = some (.tuple [], H (fr t e) (k + 1))
  inv_s : ∀ t k x d, Inv t (k + 1) → Inv (fs t x d) k
  inv_r : ∀ t k e, Inv t (k + 1) → Inv (fr t e) k
  inv_e : ∀ t k, Inv t (k + 1) → Inv t k

theorem wrap_pred {k : Nat} (h : k ≤ 401) : IntKind.i64.wrap (((k + 1 : Nat) : Int) - 1) = (k : Int) := by
  rw [wrap_in] <;> omega
theorem succ_ne {k : Nat} : decide (((k + 1 : Nat) : Int) = 0) = false := by simp; omega

section
variable {σ : Type} (Z : Wk σ)
theorem Wk.run_inv : ∀ (l : List Vis) (t : σ) (k : Nat), Z.Inv t k → Z.Inv (run Z.fs Z.fr l (t, k)).1 (run Z.fs Z.fr l (t, k)).2
  | [], _, _, h => h
  | v :: l, t, k, h => by
    simp only [run]
    split
    · rename_i h0; subst h0; exact h
    · obtain ⟨j, rfl⟩ : ∃ j, k = j + 1 := ⟨k - 1, by omega⟩
      refine Wk.run_inv l _ _ ?_
      rw [Nat.add_sub_cancel]
      match v with
      | .s x d => exact Z.inv_s t j x d h
      | .e x true => exact Z.inv_r t j x h
      | .e x false => exact Z.inv_e t j h
theorem Wk.loud {t t' : σ} {k k' : Nat} (h : k ≠ k') : (Z.H t k).objs.take (Z.H t' k').objs.length ≠ (Z.H t' k').objs := by
  intro he
  have h1 := Z.obj t' k'
  have h2 : ((Z.H t k).objs.take (Z.H t' k').objs.length)[Z.w]? = (Z.H t k).objs[Z.w]? := by
    rw [List.getElem?_take, if_pos (lt_of_get h1)]
  rw [he, h1, Z.obj t k] at h2
  simp at h2
  omega
theorem Wk.afin {f : FuncId} (ho : C.own f = false) {t t' : σ} {k k' : Nat} (h : (t', k') = (t, k) ∨ k' < k) : afinR C f (Z.H t k) (Z.H t' k') (some (.tuple [])) = some (.tuple [], Z.H t' k') := by
  rcases h with h | h
  · cases h; exact afinR_still ho rfl
  · exact afinR_loud ho rfl (Z.loud (by omega))

theorem Wk.expr : ∀ e, E.Ok e → ∀ (t : σ) (k : Nat), k ≤ 401 → acl C 101 [.ptr Z.w 0, E.av e] (Z.H t k) = some (.tuple [], Z.H t (k - (visE e false).length)) := by
  intro e
  induction e using E.ind with
  | h op n s args ih =>
    intro hok t k hk
    rw [k_call (c := C) (f := 101) rfl Try.func101 rfl (ok 101 (by kernel_rfl)) rfl Try.ntmps101 Try.results101 (by simp)]
    cases k with
    | zero => simp (maxSteps := 1000000) +contextual only [go_sem, acondK_bool, acB_merge, Nat.reduceLT, Nat.reduceLeDiff, Nat.reduceEqDiff, Nat.reduceAdd, Nat.reduceSub, Nat.reduceMul, Nat.reduceBEq, Nat.reduceBNe, Nat.reduceBneDiff, Nat.reduceBeqDiff, Int.reduceToNat, Int.reduceLE, Int.reduceLT, Int.reduceEq, Int.reduceNe, Int.reduceNeg, Int.reduceAdd, Int.reduceSub, ↓reduceIte, reduceCtorEq, List.getElem?_toArray, List.getElem?_cons_zero, List.getElem?_cons_succ, List.length_cons, List.length_nil, List.take_succ_cons, List.take_zero, List.drop_succ_cons, List.drop_zero, List.drop_nil, List.take_nil, List.nil_append, List.cons_append, List.append_nil, List.contains_cons, List.contains_nil, Bool.or_false, Bool.false_or, Bool.or_true, Bool.true_or, Bool.and_true, Bool.true_and, Bool.and_false, Bool.false_and, Bool.not_true, Bool.not_false, Bool.not_not, List.map_cons, List.map_nil, ite_not, not_true_eq_false, not_false_eq_true, Nat.zero_add, Nat.add_zero, Z.obj, Nat.zero_sub]
    | succ k =>
      simp (maxSteps := 1000000) +contextual only [go_sem, acondK_bool, acB_merge, Nat.reduceLT, Nat.reduceLeDiff, Nat.reduceEqDiff, Nat.reduceAdd, Nat.reduceSub, Nat.reduceMul, Nat.reduceBEq, Nat.reduceBNe, Nat.reduceBneDiff, Nat.reduceBeqDiff, Int.reduceToNat, Int.reduceLE, Int.reduceLT, Int.reduceEq, Int.reduceNe, Int.reduceNeg, Int.reduceAdd, Int.reduceSub, ↓reduceIte, reduceCtorEq, List.getElem?_toArray, List.getElem?_cons_zero, List.getElem?_cons_succ, List.length_cons, List.length_nil, List.take_succ_cons, List.take_zero, List.drop_succ_cons, List.drop_zero, List.drop_nil, List.take_nil, List.nil_append, List.cons_append, List.append_nil, List.contains_cons, List.contains_nil, Bool.or_false, Bool.false_or, Bool.or_true, Bool.true_or, Bool.and_true, Bool.true_and, Bool.and_false, Bool.false_and, Bool.not_true, Bool.not_false, Bool.not_not, List.map_cons, List.map_nil, ite_not, not_true_eq_false, not_false_eq_true, Nat.zero_add, Nat.add_zero, Z.obj, succ_ne, wrap_pred (show k ≤ 401 by omega), Z.set]
      refine loop_any (fun pre => [(21, .v (.d (.int .i64 (pre.length : Nat)))), (0, .v (.ptr Z.w 0)), (19, .v (.d (.slice (args.map E.row)))), (20, .v (.d (.int .i64 (args.length : Nat))))])
        (fun pre => Z.H t (k - (visEs pre).length)) (fun _ _ => some (.tuple [], Z.H t (k - (visEs args).length))) args rfl (by simp [visEs]) ?_ ?_
      · simp only [visE, List.length_cons, Nat.add_sub_add_right]
      intro pre suf hl ih2
      have hb : pre.length < 9223372036854775807 := by have := hok.len; rw [hl] at this; simp at this; omega
      cases suf with
      | nil =>
        rw [List.append_nil] at hl
        subst hl
        have hf := Z.afin (f := 101) rfl (t := t) (t' := t) (k := k + 1) (k' := k - (visEs args).length) (.inr (by omega))
        simp (maxSteps := 1000000) +contextual only [go_sem, acondK_bool, acB_merge, Nat.reduceLT, Nat.reduceLeDiff, Nat.reduceEqDiff, Nat.reduceAdd, Nat.reduceSub, Nat.reduceMul, Nat.reduceBEq, Nat.reduceBNe, Nat.reduceBneDiff, Nat.reduceBeqDiff, Int.reduceToNat, Int.reduceLE, Int.reduceLT, Int.reduceEq, Int.reduceNe, Int.reduceNeg, Int.reduceAdd, Int.reduceSub, ↓reduceIte, reduceCtorEq, List.getElem?_toArray, List.getElem?_cons_zero, List.getElem?_cons_succ, List.length_cons, List.length_nil, List.take_succ_cons, List.take_zero, List.drop_succ_cons, List.drop_zero, List.drop_nil, List.take_nil, List.nil_append, List.cons_append, List.append_nil, List.contains_cons, List.contains_nil, Bool.or_false, Bool.false_or, Bool.or_true, Bool.true_or, Bool.and_true, Bool.true_and, Bool.and_false, Bool.false_and, Bool.not_true, Bool.not_false, Bool.not_not, List.map_cons, List.map_nil, ite_not, not_true_eq_false, not_false_eq_true, Nat.zero_add, Nat.add_zero, hf]
      | cons x suf =>
        have hx : x ∈ args := by rw [hl]; simp
        have e1 := ih x hx (hok.arg x hx) t (k - (visEs pre).length) (by omega)
        have e2 := ih2 x suf rfl
        rw [visEs_append] at e2
        simp only [visEs, List.append_nil, List.length_append, List.length_cons, List.length_nil] at e2
        have e3 : k - (visEs pre).length - (visE x false).length = k - ((visEs pre).length + (visE x false).length) := by omega
        rw [e3] at e1
        rw [hl] at e2 ⊢
        simp only [List.length_append, List.length_cons] at e2
        simp (maxSteps := 1000000) +contextual only [go_sem, acondK_bool, acB_merge, Nat.reduceLT, Nat.reduceLeDiff, Nat.reduceEqDiff, Nat.reduceAdd, Nat.reduceSub, Nat.reduceMul, Nat.reduceBEq, Nat.reduceBNe, Nat.reduceBneDiff, Nat.reduceBeqDiff, Int.reduceToNat, Int.reduceLE, Int.reduceLT, Int.reduceEq, Int.reduceNe, Int.reduceNeg, Int.reduceAdd, Int.reduceSub, ↓reduceIte, reduceCtorEq, List.getElem?_toArray, List.getElem?_cons_zero, List.getElem?_cons_succ, List.length_cons, List.length_nil, List.take_succ_cons, List.take_zero, List.drop_succ_cons, List.drop_zero, List.drop_nil, List.take_nil, List.nil_append, List.cons_append, List.append_nil, List.contains_cons, List.contains_nil, Bool.or_false, Bool.false_or, Bool.or_true, Bool.true_or, Bool.and_true, Bool.true_and, Bool.and_false, Bool.false_and, Bool.not_true, Bool.not_false, Bool.not_not, List.map_cons, List.map_nil, ite_not, not_true_eq_false, not_false_eq_true, Nat.zero_add, Nat.add_zero, E.row_eq, e1, e2, wrap_nat hb]
end
end Go.Proofs.Ytfoibmfocmjmdaa
