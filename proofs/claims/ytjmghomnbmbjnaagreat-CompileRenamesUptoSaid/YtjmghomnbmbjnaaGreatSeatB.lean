/- The walk over a procedure: in what order it visits, and what it does at each node. -/
import Derived.Test.YtjmghomnbmbjnaaGreatSeatA
set_option linter.unusedVariables false
set_option linter.unusedSimpArgs false
set_option linter.all false
set_option linter.deprecated false
set_option linter.all false
namespace Go.Proofs.YtjmghomnbmbjnaaGreat
open Go.Abs
attribute [local congr] ite_congr
set_option maxRecDepth 10000
abbrev Stm.av (x : Stm) : AV := .agg [.d (.int .i64 x.op), .d (.str x.name), .d (.int .i64 x.max), .d (.int .i64 x.a.op), .d (.int .i64 x.a.n), .d (.str x.a.s), .d (.slice (x.a.args.map E.row)),
    .d (.int .i64 x.b.op), .d (.int .i64 x.b.n), .d (.str x.b.s), .d (.slice (x.b.args.map E.row)), .d (.slice (x.body.map Stm.row)), .d (.slice (x.els.map Stm.row))]
inductive Vis where
  | s (x : Stm) (d : Int)
  | e (x : E) (root : Bool)
mutual
def visE : E → Bool → List Vis
  | .mk op n s args, r => .e (.mk op n s args) r :: visEs args
def visEs : List E → List Vis
  | [] => []
  | x :: l => visE x false ++ visEs l
end
abbrev absE (e : E) : Bool := absentS e.op e.n e.s e.args.length
mutual
def visS : Stm → Int → List Vis
  | .mk op name max a b body els, d => .s (.mk op name max a b body els) d :: ((if absE a = true then [] else visE a true) ++ ((if absE b = true then [] else visE b true) ++
      (visSs body (IntKind.i64.wrap (d + 1)) ++ visSs els (IntKind.i64.wrap (d + 1)))))
def visSs : List Stm → Int → List Vis
  | [], _ => []
  | x :: l, d => visS x d ++ visSs l d
end
theorem visEs_append : ∀ (l m : List E), visEs (l ++ m) = visEs l ++ visEs m
  | [], m => by simp [visEs]
  | x :: l, m => by simp only [List.cons_append, visEs, visEs_append l m, List.append_assoc]
theorem visSs_append (d : Int) : ∀ (l m : List Stm), visSs (l ++ m) d = visSs l d ++ visSs m d
  | [], m => by simp [visSs]
  | x :: l, m => by simp only [List.cons_append, visSs, visSs_append d l m, List.append_assoc]

section
variable {σ : Type} (fs : σ → Stm → Int → σ) (fr : σ → E → σ)
def step1 : Vis → σ → σ
  | .s x d, t => fs t x d
  | .e x true, t => fr t x
  | .e _ false, t => t
def run : List Vis → σ × Nat → σ × Nat
  | [], p => p
  | v :: l, (t, k) => if k = 0 then (t, 0) else run l (step1 fs fr v t, k - 1)
theorem run_zero : ∀ (l : List Vis) (t : σ), run fs fr l (t, 0) = (t, 0)
  | [], _ => rfl
  | _ :: _, _ => by simp [run]
theorem run_append : ∀ (l m : List Vis) (p : σ × Nat), run fs fr (l ++ m) p = run fs fr m (run fs fr l p)
  | [], _, _ => rfl
  | v :: l, m, (t, k) => by
    simp only [List.cons_append, run]
    split
    · rw [run_zero]
    · exact run_append l m _
theorem run_le : ∀ (l : List Vis) (p : σ × Nat), run fs fr l p = p ∨ (run fs fr l p).2 < p.2
  | [], _ => .inl rfl
  | v :: l, (t, k) => by
    simp only [run]
    split
    · rename_i h; subst h; exact .inl rfl
    · right
      rcases run_le l (step1 fs fr v t, k - 1) with h | h
      · rw [h]; show k - 1 < k; omega
      · have : k - 1 < k := by omega
        exact Nat.lt_trans h this
mutual
theorem run_visE (t : σ) : ∀ (e : E) (k : Nat), run fs fr (visE e false) (t, k) = (t, k - (visE e false).length)
  | .mk op n s args, k => by
    simp only [visE, run, step1, List.length_cons]
    split
    · rename_i h; subst h; simp
    · rw [run_visEs t args]; congr 1; omega
theorem run_visEs (t : σ) : ∀ (l : List E) (k : Nat), run fs fr (visEs l) (t, k) = (t, k - (visEs l).length)
  | [], k => by simp [visEs, run]
  | x :: l, k => by
    simp only [visEs, run_append, List.length_append]
    rw [run_visE t x, run_visEs t l]
    congr 1
    omega
end
end

structure Wk (σ : Type) where
  w : Nat
  sfn : FuncId
  rfn : FuncId
  scap : List AV
  rcap : List AV
  H : σ → Nat → AHeap
  fs : σ → Stm → Int → σ
  fr : σ → E → σ
  Inv : σ → Nat → Prop
  le : ∀ t k, Inv t k → k ≤ 401
  obj : ∀ t k, (H t k).objs[w]? = some (.cells [.d (.int .i64 (k : Nat)), .func (.func sfn) [] scap, .func (.func rfn) [] rcap])
  set : ∀ t k k', (⟨(H t k).objs.set w (.cells [.d (.int .i64 (k' : Nat)), .func (.func sfn) [] scap, .func (.func rfn) [] rcap]), (H t k).bufs⟩ : AHeap) = H t k'
  stmt : ∀ t k x d, x.Ok → Inv t (k + 1) → acl C sfn (Stm.av x :: .d (.int .i64 d) :: scap) (H t k) = some (.tuple [], H (fs t x d) k)
  root : ∀ t k e, e.Ok → Inv t (k + 1) → acl C rfn (E.av e :: rcap) (H t (k + 1)) = some (.tuple [], H (fr t e) (k + 1))
  inv_s : ∀ t k x d, Inv t (k + 1) → Inv (fs t x d) k
  inv_r : ∀ t k e, Inv t (k + 1) → Inv (fr t e) k
  inv_e : ∀ t k, Inv t (k + 1) → Inv t k

theorem wrap_pred {k : Nat} (h : k ≤ 401) : IntKind.i64.wrap (((k + 1 : Nat) : Int) - 1) = (k : Int) := by
  rw [wrap_in] <;> omega
theorem succ_ne {k : Nat} : decide (((k + 1 : Nat) : Int) = 0) = false := by simp; omega

section
variable {σ : Type} (Z : Wk σ)
theorem Wk.run_inv : ∀ (l : List Vis) (t : σ) (k : Nat), Z.Inv t k → Z.Inv (run Z.fs Z.fr l (t, k)).1 (run Z.fs Z.fr l (t, k)).2
  | [], _, _, h => h
  | v :: l, t, k, h => by
    simp only [run]
    split
    · rename_i h0; subst h0; exact h
    · obtain ⟨j, rfl⟩ : ∃ j, k = j + 1 := ⟨k - 1, by omega⟩
      refine Wk.run_inv l _ _ ?_
      rw [Nat.add_sub_cancel]
      match v with
      | .s x d => exact Z.inv_s t j x d h
      | .e x true => exact Z.inv_r t j x h
      | .e x false => exact Z.inv_e t j h
theorem Wk.loud {t t' : σ} {k k' : Nat} (h : k ≠ k') : (Z.H t k).objs.take (Z.H t' k').objs.length ≠ (Z.H t' k').objs := by
  intro he
  have h1 := Z.obj t' k'
  have h2 : ((Z.H t k).objs.take (Z.H t' k').objs.length)[Z.w]? = (Z.H t k).objs[Z.w]? := by
    rw [List.getElem?_take, if_pos (lt_of_get h1)]
  rw [he, h1, Z.obj t k] at h2
  simp at h2
  omega
theorem Wk.afin {f : FuncId} (ho : C.own f = false) {t t' : σ} {k k' : Nat} (h : (t', k') = (t, k) ∨ k' < k) : afinR C f (Z.H t k) (Z.H t' k') (some (.tuple [])) = some (.tuple [], Z.H t' k') := by
  rcases h with h | h
  · cases h; exact afinR_still ho rfl
  · exact afinR_loud ho rfl (Z.loud (by omega))

theorem Wk.expr : ∀ e, E.Ok e → ∀ (t : σ) (k : Nat), k ≤ 401 → acl C 146 [.ptr Z.w 0, E.av e] (Z.H t k) = some (.tuple [], Z.H t (k - (visE e false).length)) := by
  intro e
  induction e using E.ind with
  | h op n s args ih =>
    intro hok t k hk
    rw [k_call (c := C) (f := 146) rfl Tryz.func146 rfl (ok 146 (by kernel_rfl)) rfl Tryz.ntmps146 Tryz.results146 (by simp)]
    cases k with
    | zero => simp (maxSteps := 1000000) +contextual only [go_sem, acondK_bool, acB_merge, Nat.reduceLT, Nat.reduceLeDiff, Nat.reduceEqDiff, Nat.reduceAdd, Nat.reduceSub, Nat.reduceMul, Nat.reduceBEq, Nat.reduceBNe, Nat.reduceBneDiff, Nat.reduceBeqDiff, Int.reduceToNat, Int.reduceLE, Int.reduceLT, Int.reduceEq, Int.reduceNe, Int.reduceNeg, Int.reduceAdd, Int.reduceSub, ↓reduceIte, reduceCtorEq, Z.obj, Nat.zero_sub]
    | succ k =>
      simp (maxSteps := 1000000) +contextual only [go_sem, acondK_bool, acB_merge, Nat.reduceLT, Nat.reduceLeDiff, Nat.reduceEqDiff, Nat.reduceAdd, Nat.reduceSub, Nat.reduceMul, Nat.reduceBEq, Nat.reduceBNe, Nat.reduceBneDiff, Nat.reduceBeqDiff, Int.reduceToNat, Int.reduceLE, Int.reduceLT, Int.reduceEq, Int.reduceNe, Int.reduceNeg, Int.reduceAdd, Int.reduceSub, ↓reduceIte, reduceCtorEq, Z.obj, succ_ne, wrap_pred (show k ≤ 401 by omega), Z.set]
      refine loop_any (fun pre => [(21, .v (.d (.int .i64 (pre.length : Nat)))), (0, .v (.ptr Z.w 0)), (19, .v (.d (.slice (args.map E.row)))), (20, .v (.d (.int .i64 (args.length : Nat))))])
        (fun pre => Z.H t (k - (visEs pre).length)) (fun _ _ => some (.tuple [], Z.H t (k - (visEs args).length))) args rfl (by simp [visEs]) ?_ ?_
      · simp only [visE, List.length_cons, Nat.add_sub_add_right]
      intro pre suf hl ih2
      have hb : pre.length < 9223372036854775807 := by have := hok.len; rw [hl] at this; simp at this; omega
      cases suf with
      | nil =>
        rw [List.append_nil] at hl
        subst hl
        have hf := Z.afin (f := 146) rfl (t := t) (t' := t) (k := k + 1) (k' := k - (visEs args).length) (.inr (by omega))
        simp (maxSteps := 1000000) +contextual only [go_sem, acondK_bool, acB_merge, Nat.reduceLT, Nat.reduceLeDiff, Nat.reduceEqDiff, Nat.reduceAdd, Nat.reduceSub, Nat.reduceMul, Nat.reduceBEq, Nat.reduceBNe, Nat.reduceBneDiff, Nat.reduceBeqDiff, Int.reduceToNat, Int.reduceLE, Int.reduceLT, Int.reduceEq, Int.reduceNe, Int.reduceNeg, Int.reduceAdd, Int.reduceSub, ↓reduceIte, reduceCtorEq, hf]
      | cons x suf =>
        have hx : x ∈ args := by rw [hl]; simp
        have e1 := ih x hx (hok.arg x hx) t (k - (visEs pre).length) (by omega)
        have e2 := ih2 x suf rfl
        rw [visEs_append] at e2
        simp only [visEs, List.append_nil, List.length_append, List.length_cons, List.length_nil] at e2
        have e3 : k - (visEs pre).length - (visE x false).length = k - ((visEs pre).length + (visE x false).length) := by omega
        rw [e3] at e1
        rw [hl] at e2 ⊢
        simp only [List.length_append, List.length_cons] at e2
        simp (maxSteps := 1000000) +contextual only [go_sem, acondK_bool, acB_merge, Nat.reduceLT, Nat.reduceLeDiff, Nat.reduceEqDiff, Nat.reduceAdd, Nat.reduceSub, Nat.reduceMul, Nat.reduceBEq, Nat.reduceBNe, Nat.reduceBneDiff, Nat.reduceBeqDiff, Int.reduceToNat, Int.reduceLE, Int.reduceLT, Int.reduceEq, Int.reduceNe, Int.reduceNeg, Int.reduceAdd, Int.reduceSub, ↓reduceIte, reduceCtorEq, E.row_eq, e1, e2, wrap_nat hb]
end
end Go.Proofs.YtjmghomnbmbjnaaGreat
set_option linter.all false
namespace Go.Proofs.YtjmghomnbmbjnaaGreat
open Go.Abs
attribute [local congr] ite_congr
set_option maxRecDepth 10000
section
variable {σ : Type} (Z : Wk σ)
theorem visE_len (e : E) (r : Bool) : (visE e r).length = (visEs e.args).length + 1 := by
  cases e; simp [visE]
theorem run_root (e : E) (t : σ) (k : Nat) : run Z.fs Z.fr (visE e true) (t, k + 1) = (Z.fr t e, k + 1 - (visE e false).length) := by
  cases e
  simp only [visE, run, step1, Nat.add_one_ne_zero, if_false, Nat.add_sub_cancel, run_visEs, List.length_cons]
  congr 1
  omega
theorem Wk.first (e : E) (hok : E.Ok e) (t : σ) (k : Nat) (hI : Z.Inv t k) : acl C 134 [.ptr Z.w 0, E.av e] (Z.H t k) =
    some (.tuple [], Z.H (run Z.fs Z.fr (if absE e = true then [] else visE e true) (t, k)).1 (run Z.fs Z.fr (if absE e = true then [] else visE e true) (t, k)).2) := by
  rw [k_call (c := C) (f := 134) rfl Tryz.func134 rfl (ok 134 (by kernel_rfl)) rfl Tryz.ntmps134 Tryz.results134 (by simp)]
  have hk := Z.le t k hI
  cases k with
  | zero => simp (maxSteps := 1000000) +contextual only [go_sem, acondK_bool, acB_merge, Nat.reduceLT, Nat.reduceLeDiff, Nat.reduceEqDiff, Nat.reduceAdd, Nat.reduceSub, Nat.reduceMul, Nat.reduceBEq, Nat.reduceBNe, Nat.reduceBneDiff, Nat.reduceBeqDiff, Int.reduceToNat, Int.reduceLE, Int.reduceLT, Int.reduceEq, Int.reduceNe, Int.reduceNeg, Int.reduceAdd, Int.reduceSub, ↓reduceIte, reduceCtorEq, Z.obj, run_zero, k_drawn_t]
  | succ k =>
    simp (maxSteps := 1000000) only [go_sem, acB_merge, Nat.reduceLT, Nat.reduceLeDiff, Nat.reduceEqDiff, Nat.reduceAdd, Nat.reduceSub, Nat.reduceMul, Nat.reduceBEq, Nat.reduceBNe, Nat.reduceBneDiff, Nat.reduceBeqDiff, Int.reduceToNat, Int.reduceLE, Int.reduceLT, Int.reduceEq, Int.reduceNe, Int.reduceNeg, Int.reduceAdd, Int.reduceSub, ↓reduceIte, reduceCtorEq, Z.obj, succ_ne, k_drawn_t]
    refine wayK (fun h => ?_) (fun h => ?_)
    · simp (maxSteps := 1000000) +contextual only [go_sem, acondK_bool, acB_merge, Nat.reduceLT, Nat.reduceLeDiff, Nat.reduceEqDiff, Nat.reduceAdd, Nat.reduceSub, Nat.reduceMul, Nat.reduceBEq, Nat.reduceBNe, Nat.reduceBneDiff, Nat.reduceBeqDiff, Int.reduceToNat, Int.reduceLE, Int.reduceLT, Int.reduceEq, Int.reduceNe, Int.reduceNeg, Int.reduceAdd, Int.reduceSub, ↓reduceIte, reduceCtorEq, h, run]
    · have e1 := Z.root t k e hok hI
      simp (maxSteps := 1000000) +contextual only [go_sem, acondK_bool, acB_merge, Nat.reduceLT, Nat.reduceLeDiff, Nat.reduceEqDiff, Nat.reduceAdd, Nat.reduceSub, Nat.reduceMul, Nat.reduceBEq, Nat.reduceBNe, Nat.reduceBneDiff, Nat.reduceBeqDiff, Int.reduceToNat, Int.reduceLE, Int.reduceLT, Int.reduceEq, Int.reduceNe, Int.reduceNeg, Int.reduceAdd, Int.reduceSub, ↓reduceIte, reduceCtorEq, h, k_drawn_t, Z.obj, e1]
      refine Eq.trans (ctE_ok (by repeat (first | exact MLe.nil | apply MLe.q | apply MLe.o | apply MLe.b | apply MLe.l)) (by kernel_rfl)) ?_
      have e2 := Z.expr e hok (Z.fr t e) (k + 1) hk
      have hf := Z.afin (f := 134) rfl (t := t) (t' := Z.fr t e) (k := k + 1) (k' := k + 1 - (visE e false).length) (.inr (by rw [visE_len]; omega))
      simp (maxSteps := 1000000) +contextual only [go_sem, acondK_bool, acB_merge, Nat.reduceLT, Nat.reduceLeDiff, Nat.reduceEqDiff, Nat.reduceAdd, Nat.reduceSub, Nat.reduceMul, Nat.reduceBEq, Nat.reduceBNe, Nat.reduceBneDiff, Nat.reduceBeqDiff, Int.reduceToNat, Int.reduceLE, Int.reduceLT, Int.reduceEq, Int.reduceNe, Int.reduceNeg, Int.reduceAdd, Int.reduceSub, ↓reduceIte, reduceCtorEq, e2, hf, run_root]
theorem Stm.Ok.a {x : Stm} (h : x.Ok) : x.a.Ok := by cases h; assumption
theorem Stm.Ok.b {x : Stm} (h : x.Ok) : x.b.Ok := by cases h; assumption
theorem Stm.Ok.bodyLen {x : Stm} (h : x.Ok) : x.body.length ≤ 1099511627776 := by cases h; assumption
theorem Stm.Ok.elsLen {x : Stm} (h : x.Ok) : x.els.length ≤ 1099511627776 := by cases h; assumption
theorem Stm.Ok.bodyOk {x : Stm} (h : x.Ok) : ∀ y, y ∈ x.body → y.Ok := by cases h; assumption
theorem Stm.Ok.elsOk {x : Stm} (h : x.Ok) : ∀ y, y ∈ x.els → y.Ok := by cases h; assumption
theorem Wk.block_of (l : List Stm) (hlen : l.length ≤ 1099511627776) (hok : ∀ x ∈ l, x.Ok)
    (ih : ∀ x ∈ l, ∀ (m : List Stm), m = x.body ∨ m = x.els → ∀ (d : Int) (t : σ) (k : Nat), Z.Inv t k → acl C 105 [.ptr Z.w 0, .d (.slice (m.map Stm.row)), .d (.int .i64 d)] (Z.H t k) = some (.tuple [], Z.H (run Z.fs Z.fr (visSs m d) (t, k)).1 (run Z.fs Z.fr (visSs m d) (t, k)).2))
    (d : Int) (t : σ) (k : Nat) (hI : Z.Inv t k) :
    acl C 105 [.ptr Z.w 0, .d (.slice (l.map Stm.row)), .d (.int .i64 d)] (Z.H t k) = some (.tuple [], Z.H (run Z.fs Z.fr (visSs l d) (t, k)).1 (run Z.fs Z.fr (visSs l d) (t, k)).2) := by
  rw [k_call (c := C) (f := 105) rfl Tryz.func105 rfl (ok 105 (by kernel_rfl)) rfl Tryz.ntmps105 Tryz.results105 (by simp)]
  simp (maxSteps := 1000000) +contextual only [go_sem, acondK_bool, acB_merge, Nat.reduceLT, Nat.reduceLeDiff, Nat.reduceEqDiff, Nat.reduceAdd, Nat.reduceSub, Nat.reduceMul, Nat.reduceBEq, Nat.reduceBNe, Nat.reduceBneDiff, Nat.reduceBeqDiff, Int.reduceToNat, Int.reduceLE, Int.reduceLT, Int.reduceEq, Int.reduceNe, Int.reduceNeg, Int.reduceAdd, Int.reduceSub, ↓reduceIte, reduceCtorEq]
  refine loop_any (fun pre => [(9, .v (.d (.int .i64 (l.length : Nat)))), (8, .v (.d (.slice (l.map Stm.row)))), (2, .v (.d (.int .i64 d))), (0, .v (.ptr Z.w 0)), (10, .v (.d (.int .i64 (pre.length : Nat))))])
    (fun pre => Z.H (run Z.fs Z.fr (visSs pre d) (t, k)).1 (run Z.fs Z.fr (visSs pre d) (t, k)).2)
    (fun _ _ => some (.tuple [], Z.H (run Z.fs Z.fr (visSs l d) (t, k)).1 (run Z.fs Z.fr (visSs l d) (t, k)).2)) l rfl (by simp [visSs, run]) rfl ?_
  intro pre suf hl ih2
  have hb : pre.length < 9223372036854775807 := by rw [hl] at hlen; simp at hlen; omega
  have hIp := Z.run_inv (visSs pre d) t k hI
  have hcase := run_le Z.fs Z.fr (visSs pre d) (t, k)
  cases suf with
  | nil =>
    rw [List.append_nil] at hl
    subst hl
    have hf := Z.afin (f := 105) rfl (t := t) (t' := (run Z.fs Z.fr (visSs l d) (t, k)).1) (k := k) (k' := (run Z.fs Z.fr (visSs l d) (t, k)).2) hcase
    simp (maxSteps := 1000000) +contextual only [go_sem, acondK_bool, acB_merge, Nat.reduceLT, Nat.reduceLeDiff, Nat.reduceEqDiff, Nat.reduceAdd, Nat.reduceSub, Nat.reduceMul, Nat.reduceBEq, Nat.reduceBNe, Nat.reduceBneDiff, Nat.reduceBeqDiff, Int.reduceToNat, Int.reduceLE, Int.reduceLT, Int.reduceEq, Int.reduceNe, Int.reduceNeg, Int.reduceAdd, Int.reduceSub, ↓reduceIte, reduceCtorEq, hf]
  | cons x suf =>
    have hx : x ∈ l := by rw [hl]; simp
    have hxo := hok x hx
    have e2 := ih2 x suf rfl
    rw [visSs_append, run_append] at e2
    simp only [visSs, List.append_nil, List.length_append, List.length_cons, List.length_nil] at e2
    have hall : run Z.fs Z.fr (visSs l d) (t, k) = run Z.fs Z.fr (visSs suf d) (run Z.fs Z.fr (visS x d) (run Z.fs Z.fr (visSs pre d) (t, k))) := by
      rw [hl, visSs_append, run_append]
      simp only [visSs, run_append]
    generalize hr : run Z.fs Z.fr (visSs pre d) (t, k) = r at *
    obtain ⟨t1, k1⟩ := r
    cases k1 with
    | zero =>
      have hf := Z.afin (f := 105) rfl (t := t) (t' := t1) (k := k) (k' := 0) hcase
      have hend : run Z.fs Z.fr (visSs l d) (t, k) = (t1, 0) := by rw [hall, run_zero, run_zero]
      rw [hend, hl]
      simp only [List.length_append, List.length_cons]
      simp (maxSteps := 1000000) +contextual only [go_sem, acondK_bool, acB_merge, Nat.reduceLT, Nat.reduceLeDiff, Nat.reduceEqDiff, Nat.reduceAdd, Nat.reduceSub, Nat.reduceMul, Nat.reduceBEq, Nat.reduceBNe, Nat.reduceBneDiff, Nat.reduceBeqDiff, Int.reduceToNat, Int.reduceLE, Int.reduceLT, Int.reduceEq, Int.reduceNe, Int.reduceNeg, Int.reduceAdd, Int.reduceSub, ↓reduceIte, reduceCtorEq, Stm.row_eq, Z.obj, hf]
    | succ k1 =>
      have hle := Z.le _ _ hIp
      have e3 := Z.stmt t1 k1 x d hxo hIp
      have hI3 := Z.inv_s t1 k1 x d hIp
      rw [hl] at e2 ⊢
      simp only [List.length_append, List.length_cons] at e2 ⊢
      simp (maxSteps := 1000000) +contextual only [go_sem, acondK_bool, acB_merge, Nat.reduceLT, Nat.reduceLeDiff, Nat.reduceEqDiff, Nat.reduceAdd, Nat.reduceSub, Nat.reduceMul, Nat.reduceBEq, Nat.reduceBNe, Nat.reduceBneDiff, Nat.reduceBeqDiff, Int.reduceToNat, Int.reduceLE, Int.reduceLT, Int.reduceEq, Int.reduceNe, Int.reduceNeg, Int.reduceAdd, Int.reduceSub, ↓reduceIte, reduceCtorEq, Stm.row_eq, Z.obj, succ_ne, wrap_pred (show k1 ≤ 401 by omega), Z.set, k_drawn_t, e3]
      refine Eq.trans (ctE_ok (by repeat (first | exact MLe.nil | apply MLe.q | apply MLe.o | apply MLe.b | apply MLe.l)) (by kernel_rfl)) ?_
      have f1 := Z.first x.a (Stm.Ok.a hxo) (Z.fs t1 x d) k1 hI3
      have I1 := Z.run_inv (if absE x.a = true then [] else visE x.a true) (Z.fs t1 x d) k1 hI3
      generalize hp1 : run Z.fs Z.fr (if absE x.a = true then [] else visE x.a true) (Z.fs t1 x d, k1) = p1 at f1 I1
      have f2 := Z.first x.b (Stm.Ok.b hxo) p1.1 p1.2 I1
      have I2 := Z.run_inv (if absE x.b = true then [] else visE x.b true) p1.1 p1.2 I1
      generalize hp2 : run Z.fs Z.fr (if absE x.b = true then [] else visE x.b true) (p1.1, p1.2) = p2 at f2 I2
      have f3 := ih x hx x.body (.inl rfl) (IntKind.i64.wrap (d + 1)) p2.1 p2.2 I2
      have I3 := Z.run_inv (visSs x.body (IntKind.i64.wrap (d + 1))) p2.1 p2.2 I2
      generalize hp3 : run Z.fs Z.fr (visSs x.body (IntKind.i64.wrap (d + 1))) (p2.1, p2.2) = p3 at f3 I3
      have f4 := ih x hx x.els (.inr rfl) (IntKind.i64.wrap (d + 1)) p3.1 p3.2 I3
      generalize hp4 : run Z.fs Z.fr (visSs x.els (IntKind.i64.wrap (d + 1))) (p3.1, p3.2) = p4 at f4
      have hV : run Z.fs Z.fr (visS x d) (t1, k1 + 1) = p4 := by
        rw [← hp4]
        obtain ⟨op, name, max, a, b, body, els⟩ := x
        simp only [visS, run, step1, Nat.add_one_ne_zero, if_false, Nat.add_sub_cancel, run_append]
        simp only [hp1, hp2, hp3]
      rw [hV] at e2
      simp (maxSteps := 1000000) +contextual only [go_sem, acondK_bool, acB_merge, Nat.reduceLT, Nat.reduceLeDiff, Nat.reduceEqDiff, Nat.reduceAdd, Nat.reduceSub, Nat.reduceMul, Nat.reduceBEq, Nat.reduceBNe, Nat.reduceBneDiff, Nat.reduceBeqDiff, Int.reduceToNat, Int.reduceLE, Int.reduceLT, Int.reduceEq, Int.reduceNe, Int.reduceNeg, Int.reduceAdd, Int.reduceSub, ↓reduceIte, reduceCtorEq, f1, f2, f3, f4, e2, wrap_nat hb]
theorem Wk.inner : ∀ x : Stm, x.Ok → ∀ (m : List Stm), m = x.body ∨ m = x.els → ∀ (d : Int) (t : σ) (k : Nat), Z.Inv t k → acl C 105 [.ptr Z.w 0, .d (.slice (m.map Stm.row)), .d (.int .i64 d)] (Z.H t k) = some (.tuple [], Z.H (run Z.fs Z.fr (visSs m d) (t, k)).1 (run Z.fs Z.fr (visSs m d) (t, k)).2) := by
  intro x
  induction x using Stm.ind with
  | h op name max a b body els ihb ihe =>
    intro hok m hm d t k hI
    rcases hm with rfl | rfl
    · exact Z.block_of _ (Stm.Ok.bodyLen hok) (Stm.Ok.bodyOk hok) (fun y hy => ihb y hy (Stm.Ok.bodyOk hok y hy)) d t k hI
    · exact Z.block_of _ (Stm.Ok.elsLen hok) (Stm.Ok.elsOk hok) (fun y hy => ihe y hy (Stm.Ok.elsOk hok y hy)) d t k hI
theorem Wk.block (l : List Stm) (hlen : l.length ≤ 1099511627776) (hok : ∀ x ∈ l, x.Ok) (d : Int) (t : σ) (k : Nat) (hI : Z.Inv t k) :
    acl C 105 [.ptr Z.w 0, .d (.slice (l.map Stm.row)), .d (.int .i64 d)] (Z.H t k) = some (.tuple [], Z.H (run Z.fs Z.fr (visSs l d) (t, k)).1 (run Z.fs Z.fr (visSs l d) (t, k)).2) :=
  Z.block_of l hlen hok (fun x hx => Z.inner x (hok x hx)) d t k hI
end
end Go.Proofs.YtjmghomnbmbjnaaGreat
set_option linter.all false
namespace Go.Proofs.YtjmghomnbmbjnaaGreat
open Go.Abs
attribute [local congr] ite_congr
set_option maxRecDepth 10000
abbrev Pr.av (p : Pr) : AV := .agg [.d (.str p.name), .d (.slice (p.params.map Pm.row)), .d (.slice (p.body.map Stm.row))]
theorem wrap_401 {k : Nat} (h : k ≤ 401) : IntKind.i64.wrap (401 - (k : Int)) = 401 - (k : Int) := by
  rw [wrap_in] <;> omega
theorem Wk.walk {σ : Type} (Z : Wk σ) (p : Pr) (hp : p.Ok) (t0 : σ) (A : AHeap) (hw : A.objs.length = Z.w) (hI : Z.Inv t0 401)
    (hH : (⟨A.objs ++ [.cells [.d (.int .i64 401), .func (.func Z.sfn) [] Z.scap, .func (.func Z.rfn) [] Z.rcap]], A.bufs⟩ : AHeap) = Z.H t0 401) :
    acl C 73 [Pr.av p, .func (.func Z.sfn) [] Z.scap, .func (.func Z.rfn) [] Z.rcap] A =
      afinR C 73 A (Z.H (run Z.fs Z.fr (visSs p.body 1) (t0, 401)).1 (run Z.fs Z.fr (visSs p.body 1) (t0, 401)).2) (some (.d (.int .i64 (401 - ((run Z.fs Z.fr (visSs p.body 1) (t0, 401)).2 : Int))))) := by
  rw [k_call (c := C) (f := 73) rfl Tryz.func73 rfl (ok 73 (by kernel_rfl)) rfl Tryz.ntmps73 Tryz.results73 (by simp)]
  have e1 := Z.block p.body hp.blen hp.body 1 t0 401 hI
  have hk := Z.le _ _ (Z.run_inv (visSs p.body 1) t0 401 hI)
  simp (maxSteps := 1000000) +contextual only [go_sem, acondK_bool, acB_merge, Nat.reduceLT, Nat.reduceLeDiff, Nat.reduceEqDiff, Nat.reduceAdd, Nat.reduceSub, Nat.reduceMul, Nat.reduceBEq, Nat.reduceBNe, Nat.reduceBneDiff, Nat.reduceBeqDiff, Int.reduceToNat, Int.reduceLE, Int.reduceLT, Int.reduceEq, Int.reduceNe, Int.reduceNeg, Int.reduceAdd, Int.reduceSub, ↓reduceIte, reduceCtorEq, hH, hw, e1, Z.obj, wrap_401 hk]
def wkH {σ : Type} (sfn rfn : FuncId) (scap rcap : List AV) (base : σ → List AObj) (bufs : σ → List ABuf) (t : σ) (k : Nat) : AHeap :=
  ⟨base t ++ [.cells [.d (.int .i64 (k : Nat)), .func (.func sfn) [] scap, .func (.func rfn) [] rcap]], bufs t⟩
theorem wkH_obj {σ : Type} {sfn rfn : FuncId} {scap rcap : List AV} {base : σ → List AObj} {bufs : σ → List ABuf} {w : Nat} (hw : ∀ t, (base t).length = w) (t : σ) (k : Nat) :
    (wkH sfn rfn scap rcap base bufs t k).objs[w]? = some (.cells [.d (.int .i64 (k : Nat)), .func (.func sfn) [] scap, .func (.func rfn) [] rcap]) := by
  rw [← hw t]
  simp [wkH]
theorem wkH_set {σ : Type} {sfn rfn : FuncId} {scap rcap : List AV} {base : σ → List AObj} {bufs : σ → List ABuf} {w : Nat} (hw : ∀ t, (base t).length = w) (t : σ) (k k' : Nat) :
    (⟨(wkH sfn rfn scap rcap base bufs t k).objs.set w (.cells [.d (.int .i64 (k' : Nat)), .func (.func sfn) [] scap, .func (.func rfn) [] rcap]), (wkH sfn rfn scap rcap base bufs t k).bufs⟩ : AHeap) = wkH sfn rfn scap rcap base bufs t k' := by
  rw [← hw t]
  simp [wkH]
theorem noStmt (x : Stm) (d : Int) (A : AHeap) : acl C 135 [Stm.av x, .d (.int .i64 d)] A = some (.tuple [], A) := by
  rw [k_call (c := C) (f := 135) rfl Tryz.func135 rfl (ok 135 (by kernel_rfl)) rfl Tryz.ntmps135 Tryz.results135 (by simp)]
  simp (maxSteps := 1000000) +contextual only [go_sem, acondK_bool, acB_merge, Nat.reduceLT, Nat.reduceLeDiff, Nat.reduceEqDiff, Nat.reduceAdd, Nat.reduceSub, Nat.reduceMul, Nat.reduceBEq, Nat.reduceBNe, Nat.reduceBneDiff, Nat.reduceBeqDiff, Int.reduceToNat, Int.reduceLE, Int.reduceLT, Int.reduceEq, Int.reduceNe, Int.reduceNeg, Int.reduceAdd, Int.reduceSub, ↓reduceIte, reduceCtorEq]
theorem noRoot (e : E) (A : AHeap) : acl C 75 [E.av e] A = some (.tuple [], A) := by
  rw [k_call (c := C) (f := 75) rfl Tryz.func75 rfl (ok 75 (by kernel_rfl)) rfl Tryz.ntmps75 Tryz.results75 (by simp)]
  simp (maxSteps := 1000000) +contextual only [go_sem, acondK_bool, acB_merge, Nat.reduceLT, Nat.reduceLeDiff, Nat.reduceEqDiff, Nat.reduceAdd, Nat.reduceSub, Nat.reduceMul, Nat.reduceBEq, Nat.reduceBNe, Nat.reduceBneDiff, Nat.reduceBeqDiff, Int.reduceToNat, Int.reduceLE, Int.reduceLT, Int.reduceEq, Int.reduceNe, Int.reduceNeg, Int.reduceAdd, Int.reduceSub, ↓reduceIte, reduceCtorEq]
theorem run_len {σ : Type} (fs : σ → Stm → Int → σ) (fr : σ → E → σ) : ∀ (l : List Vis) (t : σ) (k : Nat), (run fs fr l (t, k)).2 = k - l.length
  | [], t, k => by simp [run]
  | v :: l, t, k => by
    simp only [run]
    split
    · rename_i h; subst h; simp
    · rw [run_len fs fr l]; simp; omega
end Go.Proofs.YtjmghomnbmbjnaaGreat
set_option linter.all false
namespace Go.Proofs.YtjmghomnbmbjnaaGreat
open Go.Abs
attribute [local congr] ite_congr
set_option maxRecDepth 10000
def Vis.row : Vis → List Dat
  | .s x d => [.bool true, .int .i64 x.op, .str x.name, .int .i64 x.max, .int .i64 x.a.op, .int .i64 x.a.n, .str x.a.s, .slice (x.a.args.map E.row),
    .int .i64 x.b.op, .int .i64 x.b.n, .str x.b.s, .slice (x.b.args.map E.row), .slice (x.body.map Stm.row), .slice (x.els.map Stm.row), .int .i64 d, .int .i64 0, .int .i64 0, .str [], .slice [], .bool false]
  | .e y r => [.bool false, .int .i64 0, .str [], .int .i64 0, .int .i64 0, .int .i64 0, .str [], .slice [], .int .i64 0, .int .i64 0, .str [], .slice [], .slice [], .slice [], .int .i64 0,
    .int .i64 y.op, .int .i64 y.n, .str y.s, .slice (y.args.map E.row), .bool r]
noncomputable abbrev grVis (A : AHeap) (l : List Vis) : AV × AHeap := agrow A 65 20 (l.map Vis.row)
theorem gr_append (A : AHeap) (l : List Vis) (v : Vis) (h : l.length ≤ 400) :
    aappend Tryz.prog 65 20 (grVis A l).2 (grVis A l).1 [v.row] = some (grVis A (l ++ [v])) := by
  have := agrow_append (P := Tryz.prog) (A := A) (ty := 65) (sz := 20) (rows := l.map Vis.row) (src := [v.row]) room_65_20 (by cases v <;> rfl) (by simp; omega)
  rw [this]
  unfold grVis
  rw [List.map_append]
  rfl
theorem gr_afin {f : FuncId} (ho : C.own f = true) (A : AHeap) (l m : List Vis) : afinR C f (grVis A l).2 (grVis A (l ++ m)).2 (some (grVis A (l ++ m)).1) = some (grVis A (l ++ m)) :=
  afin_grow ho (by cases l <;> simp)
theorem gr_len (A A' : AHeap) (l : List Vis) : alen A' 2 (grVis A l).1 = some l.length := by rw [alen_grow]; simp
theorem le_400 {n : Nat} (h : n ≤ 400) : decide ((400 : Int) < (n : Int)) = false := by simp; omega
theorem gt_400 {n : Nat} (h : ¬ n ≤ 400) : decide ((400 : Int) < (n : Int)) = true := by simp; omega
theorem le_400' {n : Nat} (h : n ≤ 400) : decide ((n : Int) ≤ 400) = true := by simp; omega
theorem gt_400' {n : Nat} (h : ¬ n ≤ 400) : decide ((n : Int) ≤ 400) = false := by simp; omega
def addE (l : List Vis) (m : List Vis) : List Vis := l ++ m.take (401 - l.length)
theorem addE_append (l m n : List Vis) : addE l (m ++ n) = addE (addE l m) n := by
  unfold addE
  rw [List.take_append, List.append_assoc, List.length_append, List.length_take]
  congr 3
  omega
theorem addE_le (l m : List Vis) (h : l.length ≤ 401) : (addE l m).length ≤ 401 := by
  unfold addE; simp; omega
theorem addE_nil (l : List Vis) : addE l [] = l := by simp [addE]
theorem addE_full (l m : List Vis) (h : ¬ l.length ≤ 400) : addE l m = l := by
  unfold addE
  rw [show 401 - l.length = 0 by omega]
  simp
theorem addE_pre (l m : List Vis) : ∃ n, addE l m = l ++ n := ⟨_, rfl⟩
theorem walkExpr : ∀ e, E.Ok e → ∀ (r : Bool) (l : List Vis) (A : AHeap), l.length ≤ 401 → acl C 80 [(grVis A l).1, E.av e, .d (.bool r)] (grVis A l).2 = some (grVis A (addE l (visE e r))) := by
  intro e
  induction e using E.ind with
  | h op n s args ih =>
    intro hok r l A hl
    rw [k_call_own (c := C) (f := 80) rfl Tryz.func80 rfl (ok 80 (by kernel_rfl)) rfl Tryz.ntmps80 Tryz.results80 (by simp)]
    by_cases h4 : l.length ≤ 400
    · have e0 := gr_append A l (.e (.mk op n s args) r) h4
      simp only [Vis.row, E.op, E.n, E.s, E.args] at e0
      simp (maxSteps := 1000000) +contextual only [go_sem, acondK_bool, acB_merge, Nat.reduceLT, Nat.reduceLeDiff, Nat.reduceEqDiff, Nat.reduceAdd, Nat.reduceSub, Nat.reduceMul, Nat.reduceBEq, Nat.reduceBNe, Nat.reduceBneDiff, Nat.reduceBeqDiff, Int.reduceToNat, Int.reduceLE, Int.reduceLT, Int.reduceEq, Int.reduceNe, Int.reduceNeg, Int.reduceAdd, Int.reduceSub, ↓reduceIte, reduceCtorEq, gr_len, le_400 h4, e0, one_grow]
      have hv : addE l (visE (.mk op n s args) r) = addE (l ++ [.e (.mk op n s args) r]) (visEs args) := by
        have e1 : visE (.mk op n s args) r = [.e (.mk op n s args) r] ++ visEs args := by simp [visE]
        rw [e1, addE_append]
        congr 1
        unfold addE
        rw [List.take_of_length_le (by simp; omega)]
      rw [hv]
      generalize hl1 : l ++ [.e (.mk op n s args) r] = l1
      have hl1n : l1.length ≤ 401 := by rw [← hl1]; simp; omega
      refine loop_any (fun pre => [(0, .v (grVis A (addE l1 (visEs pre))).1), (7, .v (.d (.int .i64 (pre.length : Nat)))), (4, .box [.d (.int .i64 op), .d (.int .i64 n), .d (.str s), .d (.slice (args.map E.row))])])
        (fun pre => (grVis A (addE l1 (visEs pre))).2) (fun _ _ => some (grVis A (addE l1 (visEs args)))) args (by rw [visEs, addE_nil, ← hl1]; rfl) (by rw [visEs, addE_nil, ← hl1]) rfl ?_
      intro pre suf hls ih2
      have hb : pre.length < 9223372036854775807 := by have := hok.len; rw [hls] at this; simp at this; omega
      have hfin : ∀ q, afinR C 80 (grVis A l).2 (grVis A (addE l1 q)).2 (some (grVis A (addE l1 q)).1) = some (grVis A (addE l1 q)) := by
        intro q
        obtain ⟨n, hn⟩ := addE_pre l1 q
        rw [hn, ← hl1, List.append_assoc]
        exact gr_afin rfl A l _
      have hf := hfin (visEs pre)
      cases suf with
      | nil =>
        rw [List.append_nil] at hls
        subst hls
        simp (maxSteps := 1000000) +contextual only [go_sem, acondK_bool, acB_merge, Nat.reduceLT, Nat.reduceLeDiff, Nat.reduceEqDiff, Nat.reduceAdd, Nat.reduceSub, Nat.reduceMul, Nat.reduceBEq, Nat.reduceBNe, Nat.reduceBneDiff, Nat.reduceBeqDiff, Int.reduceToNat, Int.reduceLE, Int.reduceLT, Int.reduceEq, Int.reduceNe, Int.reduceNeg, Int.reduceAdd, Int.reduceSub, ↓reduceIte, reduceCtorEq, hf]
      | cons x suf =>
        by_cases h5 : (addE l1 (visEs pre)).length ≤ 400
        · have hx : x ∈ args := by rw [hls]; simp
          have e1 := ih x hx (hok.arg x hx) false (addE l1 (visEs pre)) A (by omega)
          have e2 := ih2 x suf rfl
          rw [visEs_append, addE_append] at e2
          simp only [visEs, List.append_nil, List.length_append, List.length_cons, List.length_nil] at e2
          rw [hls] at e2 ⊢
          simp (maxSteps := 1000000) +contextual only [go_sem, acondK_bool, acB_merge, Nat.reduceLT, Nat.reduceLeDiff, Nat.reduceEqDiff, Nat.reduceAdd, Nat.reduceSub, Nat.reduceMul, Nat.reduceBEq, Nat.reduceBNe, Nat.reduceBneDiff, Nat.reduceBeqDiff, Int.reduceToNat, Int.reduceLE, Int.reduceLT, Int.reduceEq, Int.reduceNe, Int.reduceNeg, Int.reduceAdd, Int.reduceSub, ↓reduceIte, reduceCtorEq, gr_len, E.row_eq, le_400' h5, e1, e2, wrap_nat hb]
        · have hall : addE l1 (visEs args) = addE l1 (visEs pre) := by
            rw [hls, visEs_append, addE_append, addE_full _ _ h5]
          rw [hall, hls]
          simp (maxSteps := 1000000) +contextual only [go_sem, acondK_bool, acB_merge, Nat.reduceLT, Nat.reduceLeDiff, Nat.reduceEqDiff, Nat.reduceAdd, Nat.reduceSub, Nat.reduceMul, Nat.reduceBEq, Nat.reduceBNe, Nat.reduceBneDiff, Nat.reduceBeqDiff, Int.reduceToNat, Int.reduceLE, Int.reduceLT, Int.reduceEq, Int.reduceNe, Int.reduceNeg, Int.reduceAdd, Int.reduceSub, ↓reduceIte, reduceCtorEq, gr_len, gt_400' h5, hf]
    · rw [addE_full _ _ h4]
      have hf := gr_afin (f := 80) rfl A l []
      rw [List.append_nil] at hf
      simp (maxSteps := 1000000) +contextual only [go_sem, acondK_bool, acB_merge, Nat.reduceLT, Nat.reduceLeDiff, Nat.reduceEqDiff, Nat.reduceAdd, Nat.reduceSub, Nat.reduceMul, Nat.reduceBEq, Nat.reduceBNe, Nat.reduceBneDiff, Nat.reduceBeqDiff, Int.reduceToNat, Int.reduceLE, Int.reduceLT, Int.reduceEq, Int.reduceNe, Int.reduceNeg, Int.reduceAdd, Int.reduceSub, ↓reduceIte, reduceCtorEq, gr_len, gt_400 h4, hf]
theorem addE_one (l : List Vis) (v : Vis) (h : l.length ≤ 400) : addE l [v] = l ++ [v] := by
  unfold addE
  rw [List.take_of_length_le (by simp; omega)]
theorem walkBody_of (b : List Stm) (hlen : b.length ≤ 1099511627776) (hok : ∀ x ∈ b, x.Ok)
    (ih : ∀ x ∈ b, ∀ (m : List Stm), m = x.body ∨ m = x.els → ∀ (d : Int) (l : List Vis) (A : AHeap), l.length ≤ 401 → acl C 49 [(grVis A l).1, .d (.slice (m.map Stm.row)), .d (.int .i64 d)] (grVis A l).2 = some (grVis A (addE l (visSs m d))))
    (d : Int) (l : List Vis) (A : AHeap) (hl : l.length ≤ 401) :
    acl C 49 [(grVis A l).1, .d (.slice (b.map Stm.row)), .d (.int .i64 d)] (grVis A l).2 = some (grVis A (addE l (visSs b d))) := by
  rw [k_call_own (c := C) (f := 49) rfl Tryz.func49 rfl (ok 49 (by kernel_rfl)) rfl Tryz.ntmps49 Tryz.results49 (by simp)]
  simp (maxSteps := 1000000) +contextual only [go_sem, acondK_bool, acB_merge, Nat.reduceLT, Nat.reduceLeDiff, Nat.reduceEqDiff, Nat.reduceAdd, Nat.reduceSub, Nat.reduceMul, Nat.reduceBEq, Nat.reduceBNe, Nat.reduceBneDiff, Nat.reduceBeqDiff, Int.reduceToNat, Int.reduceLE, Int.reduceLT, Int.reduceEq, Int.reduceNe, Int.reduceNeg, Int.reduceAdd, Int.reduceSub, ↓reduceIte, reduceCtorEq]
  refine loop_any (fun pre => [(0, .v (grVis A (addE l (visSs pre d))).1), (7, .v (.d (.int .i64 (pre.length : Nat)))), (2, .v (.d (.int .i64 d))), (1, .v (.d (.slice (b.map Stm.row))))])
    (fun pre => (grVis A (addE l (visSs pre d))).2) (fun _ _ => some (grVis A (addE l (visSs b d)))) b (by rw [visSs, addE_nil]; rfl) (by rw [visSs, addE_nil]) rfl ?_
  intro pre suf hls ih2
  have hb : pre.length < 9223372036854775807 := by rw [hls] at hlen; simp at hlen; omega
  have hf : afinR C 49 (grVis A l).2 (grVis A (addE l (visSs pre d))).2 (some (grVis A (addE l (visSs pre d))).1) = some (grVis A (addE l (visSs pre d))) := gr_afin rfl A l _
  cases suf with
  | nil =>
    rw [List.append_nil] at hls
    subst hls
    simp (maxSteps := 1000000) +contextual only [go_sem, acondK_bool, acB_merge, Nat.reduceLT, Nat.reduceLeDiff, Nat.reduceEqDiff, Nat.reduceAdd, Nat.reduceSub, Nat.reduceMul, Nat.reduceBEq, Nat.reduceBNe, Nat.reduceBneDiff, Nat.reduceBeqDiff, Int.reduceToNat, Int.reduceLE, Int.reduceLT, Int.reduceEq, Int.reduceNe, Int.reduceNeg, Int.reduceAdd, Int.reduceSub, ↓reduceIte, reduceCtorEq, hf]
  | cons x suf =>
    by_cases h5 : (addE l (visSs pre d)).length ≤ 400
    · have hx : x ∈ b := by rw [hls]; simp
      have hxo := hok x hx
      have e2 := ih2 x suf rfl
      rw [visSs_append, addE_append] at e2
      simp only [visSs, List.append_nil, List.length_append, List.length_cons, List.length_nil] at e2
      generalize hl0 : addE l (visSs pre d) = l0 at *
      have e0 := gr_append A l0 (.s x d) h5
      simp only [Vis.row] at e0
      generalize hl1 : l0 ++ [.s x d] = l1 at *
      have n1 : l1.length ≤ 401 := by rw [← hl1]; simp; omega
      have f1 := walkExpr x.a (Stm.Ok.a hxo) true l1 A n1
      have n2 := addE_le l1 (if absE x.a = true then [] else visE x.a true) n1
      have k2 : absE x.a = true → addE l1 (if absE x.a = true then [] else visE x.a true) = l1 := fun h => by rw [if_pos h, addE_nil]
      have k2' : absE x.a = false → addE l1 (visE x.a true) = addE l1 (if absE x.a = true then [] else visE x.a true) := fun h => by rw [if_neg (by rw [h]; simp)]
      generalize hl2 : addE l1 (if absE x.a = true then [] else visE x.a true) = l2 at *
      have f2 := walkExpr x.b (Stm.Ok.b hxo) true l2 A n2
      have n3 := addE_le l2 (if absE x.b = true then [] else visE x.b true) n2
      have k3 : absE x.b = true → addE l2 (if absE x.b = true then [] else visE x.b true) = l2 := fun h => by rw [if_pos h, addE_nil]
      have k3' : absE x.b = false → addE l2 (visE x.b true) = addE l2 (if absE x.b = true then [] else visE x.b true) := fun h => by rw [if_neg (by rw [h]; simp)]
      generalize hl3 : addE l2 (if absE x.b = true then [] else visE x.b true) = l3 at *
      have f3 := ih x hx x.body (.inl rfl) (IntKind.i64.wrap (d + 1)) l3 A n3
      have n4 := addE_le l3 (visSs x.body (IntKind.i64.wrap (d + 1))) n3
      generalize hl4 : addE l3 (visSs x.body (IntKind.i64.wrap (d + 1))) = l4 at *
      have f4 := ih x hx x.els (.inr rfl) (IntKind.i64.wrap (d + 1)) l4 A n4
      generalize hl5 : addE l4 (visSs x.els (IntKind.i64.wrap (d + 1))) = l5 at *
      have hV : addE l0 (visS x d) = l5 := by
        have hc : visS x d = [.s x d] ++ ((if absE x.a = true then [] else visE x.a true) ++ ((if absE x.b = true then [] else visE x.b true) ++ (visSs x.body (IntKind.i64.wrap (d + 1)) ++ visSs x.els (IntKind.i64.wrap (d + 1))))) := by
          cases x; simp [visS]
        rw [hc, addE_append, addE_one _ _ h5, hl1, addE_append, hl2, addE_append, hl3, addE_append, hl4, hl5]
      rw [hV] at e2
      rw [hls] at e2 ⊢
      cases ha : absE x.a with
      | true =>
        have g2 := k2 ha
        subst g2
        cases hbb : absE x.b with
        | true =>
          have g3 := k3 hbb
          subst g3
          simp (maxSteps := 1000000) +contextual only [go_sem, acondK_bool, acB_merge, Nat.reduceLT, Nat.reduceLeDiff, Nat.reduceEqDiff, Nat.reduceAdd, Nat.reduceSub, Nat.reduceMul, Nat.reduceBEq, Nat.reduceBNe, Nat.reduceBneDiff, Nat.reduceBeqDiff, Int.reduceToNat, Int.reduceLE, Int.reduceLT, Int.reduceEq, Int.reduceNe, Int.reduceNeg, Int.reduceAdd, Int.reduceSub, ↓reduceIte, reduceCtorEq, gr_len, Stm.row_eq, le_400' h5, e0, e2, ha, hbb, f3, f4, wrap_nat hb]
        | false =>
          rw [k3' hbb] at f2
          simp (maxSteps := 1000000) +contextual only [go_sem, acondK_bool, acB_merge, Nat.reduceLT, Nat.reduceLeDiff, Nat.reduceEqDiff, Nat.reduceAdd, Nat.reduceSub, Nat.reduceMul, Nat.reduceBEq, Nat.reduceBNe, Nat.reduceBneDiff, Nat.reduceBeqDiff, Int.reduceToNat, Int.reduceLE, Int.reduceLT, Int.reduceEq, Int.reduceNe, Int.reduceNeg, Int.reduceAdd, Int.reduceSub, ↓reduceIte, reduceCtorEq, gr_len, Stm.row_eq, le_400' h5, e0, e2, ha, hbb, f2, f3, f4, wrap_nat hb]
      | false =>
        rw [k2' ha] at f1
        cases hbb : absE x.b with
        | true =>
          have g3 := k3 hbb
          subst g3
          simp (maxSteps := 1000000) +contextual only [go_sem, acondK_bool, acB_merge, Nat.reduceLT, Nat.reduceLeDiff, Nat.reduceEqDiff, Nat.reduceAdd, Nat.reduceSub, Nat.reduceMul, Nat.reduceBEq, Nat.reduceBNe, Nat.reduceBneDiff, Nat.reduceBeqDiff, Int.reduceToNat, Int.reduceLE, Int.reduceLT, Int.reduceEq, Int.reduceNe, Int.reduceNeg, Int.reduceAdd, Int.reduceSub, ↓reduceIte, reduceCtorEq, gr_len, Stm.row_eq, le_400' h5, e0, e2, ha, hbb, f1, f3, f4, wrap_nat hb]
        | false =>
          rw [k3' hbb] at f2
          simp (maxSteps := 1000000) +contextual only [go_sem, acondK_bool, acB_merge, Nat.reduceLT, Nat.reduceLeDiff, Nat.reduceEqDiff, Nat.reduceAdd, Nat.reduceSub, Nat.reduceMul, Nat.reduceBEq, Nat.reduceBNe, Nat.reduceBneDiff, Nat.reduceBeqDiff, Int.reduceToNat, Int.reduceLE, Int.reduceLT, Int.reduceEq, Int.reduceNe, Int.reduceNeg, Int.reduceAdd, Int.reduceSub, ↓reduceIte, reduceCtorEq, gr_len, Stm.row_eq, le_400' h5, e0, e2, ha, hbb, f1, f2, f3, f4, wrap_nat hb]
    · have hall : addE l (visSs b d) = addE l (visSs pre d) := by
        rw [hls, visSs_append, addE_append, addE_full _ _ h5]
      rw [hall, hls]
      simp (maxSteps := 1000000) +contextual only [go_sem, acondK_bool, acB_merge, Nat.reduceLT, Nat.reduceLeDiff, Nat.reduceEqDiff, Nat.reduceAdd, Nat.reduceSub, Nat.reduceMul, Nat.reduceBEq, Nat.reduceBNe, Nat.reduceBneDiff, Nat.reduceBeqDiff, Int.reduceToNat, Int.reduceLE, Int.reduceLT, Int.reduceEq, Int.reduceNe, Int.reduceNeg, Int.reduceAdd, Int.reduceSub, ↓reduceIte, reduceCtorEq, gr_len, gt_400' h5, hf]
theorem walkBody_in : ∀ x : Stm, x.Ok → ∀ (m : List Stm), m = x.body ∨ m = x.els → ∀ (d : Int) (l : List Vis) (A : AHeap), l.length ≤ 401 → acl C 49 [(grVis A l).1, .d (.slice (m.map Stm.row)), .d (.int .i64 d)] (grVis A l).2 = some (grVis A (addE l (visSs m d))) := by
  intro x
  induction x using Stm.ind with
  | h op name max a b body els ihb ihe =>
    intro hok m hm d l A hl
    rcases hm with rfl | rfl
    · exact walkBody_of _ (Stm.Ok.bodyLen hok) (Stm.Ok.bodyOk hok) (fun y hy => ihb y hy (Stm.Ok.bodyOk hok y hy)) d l A hl
    · exact walkBody_of _ (Stm.Ok.elsLen hok) (Stm.Ok.elsOk hok) (fun y hy => ihe y hy (Stm.Ok.elsOk hok y hy)) d l A hl
def visP (p : Pr) : List Vis := (visSs p.body 1).take 401
theorem walkR (p : Pr) (hp : p.Ok) (A : AHeap) : acl C 27 [Pr.av p] A = some (.d (.slice ((visP p).map Vis.row)), A) := by
  rw [k_call (c := C) (f := 27) rfl Tryz.func27 rfl (ok 27 (by kernel_rfl)) rfl Tryz.ntmps27 Tryz.results27 (by simp)]
  have e1 := walkBody_of p.body hp.blen hp.body (fun x hx => walkBody_in x (hp.body x hx)) 1 [] A (Nat.zero_le _)
  have e2 : addE [] (visSs p.body 1) = visP p := by simp [addE, visP]
  rw [e2] at e1
  have e3 : grVis A [] = (.nilS, A) := rfl
  rw [e3] at e1
  simp only at e1
  have e4 : afinR C 27 A (grVis A (visP p)).2 (some (grVis A (visP p)).1) = some (.d (.slice ((visP p).map Vis.row)), A) := afin_grown rfl
  simp (maxSteps := 1000000) +contextual only [go_sem, acondK_bool, acB_merge, Nat.reduceLT, Nat.reduceLeDiff, Nat.reduceEqDiff, Nat.reduceAdd, Nat.reduceSub, Nat.reduceMul, Nat.reduceBEq, Nat.reduceBNe, Nat.reduceBneDiff, Nat.reduceBeqDiff, Int.reduceToNat, Int.reduceLE, Int.reduceLT, Int.reduceEq, Int.reduceNe, Int.reduceNeg, Int.reduceAdd, Int.reduceSub, ↓reduceIte, reduceCtorEq, e1, e4]
end Go.Proofs.YtjmghomnbmbjnaaGreat
