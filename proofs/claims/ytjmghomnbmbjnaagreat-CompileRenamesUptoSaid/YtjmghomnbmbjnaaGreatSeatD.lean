/- The walk with a variable of the caller's: what it is afterwards. -/
import Derived.Test.YtjmghomnbmbjnaaGreatSeatC
import Derived.Test.YtjmghomnbmbjnaaGreatSeatA
set_option linter.unusedVariables false
set_option linter.unusedSimpArgs false
set_option linter.all false
set_option linter.deprecated false
set_option linter.all false
namespace Go.Proofs.YtjmghomnbmbjnaaGreat
open Go.Abs
attribute [local congr] ite_congr
set_option maxRecDepth 10000
theorem run_fold {σ : Type} (fs : σ → Stm → Int → σ) (fr : σ → E → σ) : ∀ (l : List Vis) (t : σ) (k : Nat), (run fs fr l (t, k)).1 = (l.take k).foldl (fun t v => step1 fs fr v t) t
  | [], t, k => by simp [run]
  | v :: l, t, k => by
    simp only [run]
    split
    · rename_i h; subst h; rfl
    · obtain ⟨j, rfl⟩ : ∃ j, k = j + 1 := ⟨k - 1, by omega⟩
      rw [Nat.add_sub_cancel, List.take_succ_cons, List.foldl_cons]
      exact run_fold fs fr l _ j
end Go.Proofs.YtjmghomnbmbjnaaGreat
set_option linter.all false
namespace Go.Proofs.YtjmghomnbmbjnaaGreat
open Go.Abs
attribute [local congr] ite_congr
set_option maxRecDepth 10000
theorem afin_grownE {f : FuncId} (ho : C.own f = false) (A : AHeap) (e sz : Nat) (rows : List (List Dat)) (a b c : Dat) :
    afinR C f A (agrow A e sz rows).2 (some (.agg [.d a, .d b, .d c, (agrow A e sz rows).1])) = some (.agg [.d a, .d b, .d c, .d (.slice rows)], A) := by
  simp only [afinR, Option.map_some, afinish, ho, Bool.false_eq_true, if_false]
  unfold agrow
  by_cases h1 : rows = []
  · subst h1
    simp only [if_true, acleanR, acleanV, acleans, aclean]
    rw [acut_same rfl]
  · simp only [if_neg h1, acleanR, acleanV, acleans, aclean, arows]
    simp only [List.getElem?_append_right (Nat.le_refl _), Nat.sub_self, List.getElem?_cons_zero, if_true]
    unfold acut
    simp [AHeap.freeze, AV.noptr, AV.noptr2, AV.noptr1]
    rw [List.take_modify_front]
theorem cells_grow {A : AHeap} {e sz : Nat} {rows : List (List Dat)} : (agrow A e sz rows).1.cells = [(agrow A e sz rows).1] := by
  unfold agrow
  split <;> rfl
noncomputable abbrev grE (A : AHeap) (l : List E) : AV × AHeap := agrow A 50 4 (l.map E.row)
theorem grE_append (A : AHeap) (l : List E) (x : E) (h : l.length ≤ 4194303) : aappend Tryz.prog 50 4 (grE A l).2 (grE A l).1 [x.row] = some (grE A (l ++ [x])) := by
  have := agrow_append (P := Tryz.prog) (A := A) (ty := 50) (sz := 4) (rows := l.map E.row) (src := [x.row]) room_50_4 (by rw [E.row_eq]; rfl) (by simp; omega)
  rw [this]
  unfold grE
  rw [List.map_append]
  rfl
theorem copied : ∀ e, E.Ok e → ∀ (A : AHeap), acl C 137 [E.av e] A = some (E.av e, A) := by
  intro e
  induction e using E.ind with
  | h op n s args ih =>
    intro hok A
    have hlen := hok.fit
    rw [k_call (c := C) (f := 137) rfl Tryz.func137 rfl (ok 137 (by kernel_rfl)) rfl Tryz.ntmps137 Tryz.results137 (by simp)]
    simp (maxSteps := 1000000) +contextual only [go_sem, acondK_bool, acB_merge, Nat.reduceLT, Nat.reduceLeDiff, Nat.reduceEqDiff, Nat.reduceAdd, Nat.reduceSub, Nat.reduceMul, Nat.reduceBEq, Nat.reduceBNe, Nat.reduceBneDiff, Nat.reduceBeqDiff, Int.reduceToNat, Int.reduceLE, Int.reduceLT, Int.reduceEq, Int.reduceNe, Int.reduceNeg, Int.reduceAdd, Int.reduceSub, ↓reduceIte, reduceCtorEq]
    refine loop_any (fun pre => [(11, .v (.d (.int .i64 (pre.length : Nat)))), (1, .box [.d (.int .i64 op), .d (.int .i64 n), .d (.str s), (grE A pre).1]), (9, .v (.d (.slice (args.map E.row)))),
        (2, .box [.d (.int .i64 0), .d (.int .i64 0), .d (.str []), .nilS]), (10, .v (.d (.int .i64 (args.length : Nat))))])
      (fun pre => (grE A pre).2) (fun _ _ => some (E.av (.mk op n s args), A)) args rfl rfl rfl ?_
    intro pre suf hl ih2
    have hb : pre.length < 9223372036854775807 := by rw [hl] at hlen; simp at hlen; omega
    cases suf with
    | nil =>
      rw [List.append_nil] at hl
      subst hl
      have hf := afin_grownE (f := 137) rfl A 50 4 (args.map E.row) (.int .i64 op) (.int .i64 n) (.str s)
      simp (maxSteps := 1000000) +contextual only [go_sem, acondK_bool, acB_merge, Nat.reduceLT, Nat.reduceLeDiff, Nat.reduceEqDiff, Nat.reduceAdd, Nat.reduceSub, Nat.reduceMul, Nat.reduceBEq, Nat.reduceBNe, Nat.reduceBneDiff, Nat.reduceBeqDiff, Int.reduceToNat, Int.reduceLE, Int.reduceLT, Int.reduceEq, Int.reduceNe, Int.reduceNeg, Int.reduceAdd, Int.reduceSub, ↓reduceIte, reduceCtorEq, one_grow, cells_grow, hf]
    | cons x suf =>
      have hx : x ∈ args := by rw [hl]; simp
      have e1 := ih x hx (hok.arg x hx) (grE A pre).2
      have e2 := ih2 x suf rfl
      rw [List.length_append, List.length_cons, List.length_nil] at e2
      have e3 : (args.map E.row)[pre.length]? = some (E.row x) := by rw [hl]; exact map_mid
      have e4 : decide ((pre.length : Int) < (args.length : Int)) = true := by rw [hl]; simp; omega
      have e5 := grE_append A pre x (by rw [hl] at hlen; simp at hlen; omega)
      rw [E.row_eq] at e3 e5
      simp (maxSteps := 1000000) +contextual only [go_sem, acondK_bool, acB_merge, Nat.reduceLT, Nat.reduceLeDiff, Nat.reduceEqDiff, Nat.reduceAdd, Nat.reduceSub, Nat.reduceMul, Nat.reduceBEq, Nat.reduceBNe, Nat.reduceBneDiff, Nat.reduceBeqDiff, Int.reduceToNat, Int.reduceLE, Int.reduceLT, Int.reduceEq, Int.reduceNe, Int.reduceNeg, Int.reduceAdd, Int.reduceSub, ↓reduceIte, reduceCtorEq, e3, e4, e1, e5, one_grow, cells_grow, k_drawn_t]
      refine Eq.trans (ctE_ok (by repeat (first | exact MLe.nil | apply MLe.q | apply MLe.o | apply MLe.b | apply MLe.l)) (by kernel_rfl)) ?_
      simp (maxSteps := 1000000) +contextual only [go_sem, acondK_bool, acB_merge, Nat.reduceLT, Nat.reduceLeDiff, Nat.reduceEqDiff, Nat.reduceAdd, Nat.reduceSub, Nat.reduceMul, Nat.reduceBEq, Nat.reduceBNe, Nat.reduceBneDiff, Nat.reduceBeqDiff, Int.reduceToNat, Int.reduceLE, Int.reduceLT, Int.reduceEq, Int.reduceNe, Int.reduceNeg, Int.reduceAdd, Int.reduceSub, ↓reduceIte, reduceCtorEq, e2, wrap_nat hb]
theorem grow_fst {A B : AHeap} {e sz : Nat} {rows : List (List Dat)} (h : A.bufs = B.bufs) : (agrow A e sz rows).1 = (agrow B e sz rows).1 := by
  unfold agrow
  rw [h]
  split <;> rfl
theorem grow_heap {A : AHeap} {e sz : Nat} {rows : List (List Dat)} {os : List AObj} : (⟨os, (agrow A e sz rows).2.bufs⟩ : AHeap) = (agrow ⟨os, A.bufs⟩ e sz rows).2 := by
  unfold agrow
  by_cases h : rows = [] <;> simp [h]
theorem usN_grow {A : AHeap} {e sz : Nat} {rows : List (List Dat)} : usN (some [(agrow A e sz rows).1]) = (false, false) := by
  unfold agrow
  split <;> rfl
theorem alen_grE {A A' : AHeap} {l : List E} : alen A' 2 (grE A l).1 = some l.length := by
  rw [alen_grow]; simp
theorem grow_snoc {A : AHeap} {e sz : Nat} {rows : List (List Dat)} {r : List Dat} : agrow A e sz (rows ++ [r]) = (.own A.bufs.length (rows.length + 1), ⟨A.objs, A.bufs ++ [⟨e, sz, rows ++ [r], 0⟩]⟩) := by
  unfold agrow
  rw [if_neg (by simp)]
  simp
theorem astore_grow {A : AHeap} {e sz : Nat} {rows : List (List Dat)} {r r' : List Dat} {vs : List AV} (hv : adatL vs = some r') (hr : r.length = r'.length) :
    astore (agrow A e sz (rows ++ [r])).2 vs (.eptr A.bufs.length (rows.length + 1) rows.length 0) = some (agrow A e sz (rows ++ [r'])).2 := by
  rw [grow_snoc, grow_snoc]
  have h1 := adats_L (A := ⟨A.objs, A.bufs ++ [⟨e, sz, rows ++ [r], 0⟩]⟩) hv
  simp [astore, h1, hr]
def zE : E := .mk 0 0 [] []
theorem grE_snoc (A : AHeap) (l : List E) (x : E) : grE A (l ++ [x]) = (.own A.bufs.length (l.length + 1), ⟨A.objs, A.bufs ++ [⟨50, 4, l.map E.row ++ [x.row], 0⟩]⟩) := by
  unfold grE
  rw [List.map_append, List.map_cons, List.map_nil, grow_snoc, List.length_map]
theorem grE_fst_ne (A : AHeap) (l : List E) : (grE A l).1 ≠ .own A.bufs.length (l.length + 1) := by
  unfold grE agrow
  split
  · intro h; cases h
  · intro h
    simp at h
theorem exprsStep (e : E) (hok : e.Ok) (l : List E) (hl : l.length ≤ 4194303) (A : AHeap) (w : AObj) :
    acl C 136 [E.av e, .ptr A.objs.length 0] ⟨A.objs ++ [.cells [(grE A l).1], w], (grE A l).2.bufs⟩ = some (.tuple [], ⟨A.objs ++ [.cells [(grE A (l ++ [e])).1], w], (grE A (l ++ [e])).2.bufs⟩) := by
  rw [k_call (c := C) (f := 136) rfl Tryz.func136 rfl (ok 136 (by kernel_rfl)) rfl Tryz.ntmps136 Tryz.results136 (by simp)]
  have e1 := copied e hok
  have g1 : ∀ os m, (⟨os, (grE A m).2.bufs⟩ : AHeap) = (grE ⟨os, A.bufs⟩ m).2 := fun os m => grow_heap
  have g2 : ∀ os m, (grE A m).1 = (grE ⟨os, A.bufs⟩ m).1 := fun os m => grow_fst rfl
  have e5 := grE_append ⟨A.objs ++ [.cells [(grE A l).1], w], A.bufs⟩ l zE hl
  rw [← g2 (A.objs ++ [.cells [(grE A l).1], w]) l, ← g1, show zE.row = [.int .i64 0, .int .i64 0, .str [], .slice []] from rfl, grE_snoc] at e5
  have e6 : aindex 4 ⟨A.objs ++ [.cells [(grE A l).1], w], A.bufs ++ [⟨50, 4, l.map E.row ++ [zE.row], 0⟩]⟩ (l.length : Nat) (.own A.bufs.length (l.length + 1)) = some (.eptr A.bufs.length (l.length + 1) l.length 0) := by
    simp [aindex]
  have e7 : astore ⟨A.objs ++ [.cells [(grE A l).1], w], A.bufs ++ [⟨50, 4, l.map E.row ++ [zE.row], 0⟩]⟩ [.d (.int .i64 e.op), .d (.int .i64 e.n), .d (.str e.s), .d (.slice (e.args.map E.row))] (.eptr A.bufs.length (l.length + 1) l.length 0) =
      some ⟨A.objs ++ [.cells [(grE A l).1], w], A.bufs ++ [⟨50, 4, l.map E.row ++ [e.row], 0⟩]⟩ := by
    have h1 := astore_grow (A := ⟨A.objs ++ [.cells [(grE A l).1], w], A.bufs⟩) (e := 50) (sz := 4) (rows := l.map E.row) (r := zE.row) (r' := e.row)
      (vs := [.d (.int .i64 e.op), .d (.int .i64 e.n), .d (.str e.s), .d (.slice (e.args.map E.row))]) (by rw [E.row_eq]; rfl) (by rw [E.row_eq, E.row_eq]; rfl)
    rw [grow_snoc, grow_snoc, List.length_map] at h1
    exact h1
  have e8 : ∀ A0 A' : AHeap, A0 = ⟨A.objs ++ [.cells [(grE A l).1], w], (grE A l).2.bufs⟩ → A' = ⟨A.objs ++ [.cells [.own A.bufs.length (l.length + 1)], w], A.bufs ++ [⟨50, 4, l.map E.row ++ [e.row], 0⟩]⟩ → afinR C 136 A0 A' (some (.tuple [])) = some (.tuple [], A') := by
    intro A0 A' h1 h2
    refine afinR_loud rfl rfl ?_
    rw [h1, h2]
    intro hh
    have h9 := congrArg (fun l : List AObj => l[A.objs.length]?) hh
    simp [List.getElem?_take] at h9
    exact grE_fst_ne A l h9.symm
  rw [grE_snoc]
  have e9 := e8 _ _ rfl rfl
  simp (maxSteps := 1000000) +contextual only [go_sem, acondK_bool, acB_merge, Nat.reduceLT, Nat.reduceLeDiff, Nat.reduceEqDiff, Nat.reduceAdd, Nat.reduceSub, Nat.reduceMul, Nat.reduceBEq, Nat.reduceBNe, Nat.reduceBneDiff, Nat.reduceBeqDiff, Int.reduceToNat, Int.reduceLE, Int.reduceLT, Int.reduceEq, Int.reduceNe, Int.reduceNeg, Int.reduceAdd, Int.reduceSub, ↓reduceIte, reduceCtorEq, k_drawn_t, e1, usN_grow, alen_grE, e5, e6, e7]
  refine Eq.trans (ctE_ok (by repeat (first | exact MLe.nil | apply MLe.qq | apply MLe.o | apply MLe.b | apply MLe.l)) (by kernel_rfl)) ?_
  simp (maxSteps := 1000000) +contextual only [go_sem, acondK_bool, acB_merge, Nat.reduceLT, Nat.reduceLeDiff, Nat.reduceEqDiff, Nat.reduceAdd, Nat.reduceSub, Nat.reduceMul, Nat.reduceBEq, Nat.reduceBNe, Nat.reduceBneDiff, Nat.reduceBeqDiff, Int.reduceToNat, Int.reduceLE, Int.reduceLT, Int.reduceEq, Int.reduceNe, Int.reduceNeg, Int.reduceAdd, Int.reduceSub, ↓reduceIte, reduceCtorEq, e9]
def exF (t : List E) (e : E) : List E := t ++ [e]
noncomputable def wkX (A : AHeap) : Wk (List E) where
  w := A.objs.length + 1
  sfn := 135
  rfn := 136
  scap := []
  rcap := [.ptr A.objs.length 0]
  H := wkH 135 136 [] [.ptr A.objs.length 0] (fun t => A.objs ++ [.cells [(grE A t).1]]) (fun t => (grE A t).2.bufs)
  fs := fun t _ _ => t
  fr := exF
  Inv := fun t k => k ≤ 401 ∧ t.length + k ≤ 401
  le := fun _ _ h => h.1
  obj := wkH_obj fun _ => by simp
  set := wkH_set fun _ => by simp
  stmt := fun t k x d _ _ => noStmt x d _
  root := fun t k e he h => by
    have := exprsStep e he t (by have := h.2; omega) A (.cells [.d (.int .i64 ((k + 1 : Nat) : Int)), .func (.func 135) [] [], .func (.func 136) [] [.ptr A.objs.length 0]])
    unfold wkH exF
    simp only [List.append_assoc, List.cons_append, List.nil_append]
    exact this
  inv_s := fun t k _ _ h => ⟨by omega, by omega⟩
  inv_r := fun t k _ h => ⟨by omega, by simp [exF]; omega⟩
  inv_e := fun t k h => ⟨by omega, by omega⟩
def rootsV : List Vis → List E
  | [] => []
  | .e x true :: l => x :: rootsV l
  | .e _ false :: l => rootsV l
  | .s _ _ :: l => rootsV l
theorem roots_fold : ∀ (l : List Vis) (t : List E), l.foldl (fun t v => step1 (fun t _ _ => t) exF v t) t = t ++ rootsV l
  | [], t => by simp [rootsV]
  | .s x d :: l, t => by rw [List.foldl_cons]; exact roots_fold l t
  | .e x true :: l, t => by rw [List.foldl_cons]; exact (roots_fold l (t ++ [x])).trans (by simp [rootsV])
  | .e x false :: l, t => by rw [List.foldl_cons]; exact roots_fold l t
def exprsS (p : Pr) : List E := rootsV (visP p)
theorem walk_endG (A : AHeap) (t : List E) (w : AObj) (n : Int) : ∃ xs, afinR C 73 ⟨A.objs ++ [.cells [.nilS]], A.bufs⟩ ⟨A.objs ++ [.cells [(grE A t).1]] ++ [w], (grE A t).2.bufs⟩ (some (.d (.int .i64 n))) = some (.d (.int .i64 n), ⟨A.objs ++ (.cells [(grE A t).1] :: xs), (grE A t).2.bufs⟩) := by
  by_cases h : t = []
  · subst h
    exact ⟨[], afinR_obj (c := C) (f := 73) (A0 := ⟨A.objs ++ [.cells [.nilS]], A.bufs⟩) (v := .d (.int .i64 n)) rfl rfl⟩
  · refine ⟨[w], ?_⟩
    have := afinR_loud (c := C) (f := 73) (A0 := ⟨A.objs ++ [.cells [.nilS]], A.bufs⟩) (A := ⟨A.objs ++ [.cells [(grE A t).1]] ++ [w], (grE A t).2.bufs⟩) (v := .d (.int .i64 n)) rfl rfl (by
      intro hh
      have h9 := congrArg (fun l : List AObj => l[A.objs.length]?) hh
      simp [List.getElem?_take] at h9
      have h8 : (grE A t).1 = .nilS := h9
      unfold grE agrow at h8
      rw [if_neg (by simpa using h)] at h8
      cases h8)
    rw [this]
    simp [AV.clean3, AV.clean2, AV.clean1]
theorem afin_growX {f : FuncId} (ho : C.own f = false) (A : AHeap) (t : List E) (xs : List AObj) : afinR C f A ⟨A.objs ++ xs, (grE A t).2.bufs⟩ (some (grE A t).1) = some (.d (.slice (t.map E.row)), A) := by
  simp only [afinR, Option.map_some, afinish, ho, Bool.false_eq_true, if_false]
  unfold grE agrow
  by_cases h1 : t.map E.row = []
  · simp only [h1, if_true, acleanR, acleanV, aclean]
    unfold acut
    simp [AV.noptr, AV.noptr2, AV.noptr1]
  · simp only [if_neg h1, acleanR, acleanV, aclean, arows]
    simp only [List.getElem?_append_right (Nat.le_refl _), Nat.sub_self, List.getElem?_cons_zero, if_true]
    unfold acut
    simp [AHeap.freeze, AV.noptr, AV.noptr2, AV.noptr1]
    rw [List.take_modify_front]
theorem exprs (p : Pr) (hp : p.Ok) (A : AHeap) : acl C 107 [Pr.av p] A = some (.d (.slice ((exprsS p).map E.row)), A) := by
  rw [k_call (c := C) (f := 107) rfl Tryz.func107 rfl (ok 107 (by kernel_rfl)) rfl Tryz.ntmps107 Tryz.results107 (by simp)]
  have e1 := (wkX A).walk p hp [] ⟨A.objs ++ [.cells [.nilS]], A.bufs⟩ (by simp [wkX]) ⟨Nat.le_refl _, by simp⟩ rfl
  have e2 : (run (wkX A).fs (wkX A).fr (visSs p.body 1) ([], 401)).1 = exprsS p := (run_fold _ _ _ _ _).trans ((roots_fold _ _).trans (List.nil_append _))
  rw [e2] at e1
  generalize (run (wkX A).fs (wkX A).fr (visSs p.body 1) ([], 401)).2 = k at e1
  obtain ⟨xs, e4⟩ := walk_endG A (exprsS p) (.cells [.d (.int .i64 (k : Nat)), .func (.func 135) [] [], .func (.func 136) [] [.ptr A.objs.length 0]]) (401 - (k : Int))
  have e5 := e1.trans e4
  change acl C 73 [Pr.av p, .func (.func 135) [] [], .func (.func 136) [] [.ptr A.objs.length 0]] _ = _ at e5
  have e6 := afin_growX (f := 107) rfl A (exprsS p) (.cells [(grE A (exprsS p)).1] :: xs)
  simp (maxSteps := 1000000) +contextual only [go_sem, acondK_bool, acB_merge, Nat.reduceLT, Nat.reduceLeDiff, Nat.reduceEqDiff, Nat.reduceAdd, Nat.reduceSub, Nat.reduceMul, Nat.reduceBEq, Nat.reduceBNe, Nat.reduceBneDiff, Nat.reduceBeqDiff, Int.reduceToNat, Int.reduceLE, Int.reduceLT, Int.reduceEq, Int.reduceNe, Int.reduceNeg, Int.reduceAdd, Int.reduceSub, ↓reduceIte, reduceCtorEq, e5, e6]
end Go.Proofs.YtjmghomnbmbjnaaGreat
set_option linter.all false
namespace Go.Proofs.YtjmghomnbmbjnaaGreat
open Go.Abs
attribute [local congr] ite_congr
set_option maxRecDepth 10000
theorem rootsV_append : ∀ (l m : List Vis), rootsV (l ++ m) = rootsV l ++ rootsV m
  | [], _ => rfl
  | .s x d :: l, m => by simp only [List.cons_append, rootsV]; exact rootsV_append l m
  | .e x true :: l, m => by simp only [List.cons_append, rootsV]; rw [rootsV_append l m]
  | .e x false :: l, m => by simp only [List.cons_append, rootsV]; exact rootsV_append l m
theorem rootsV_len : ∀ (l : List Vis), (rootsV l).length ≤ l.length
  | [] => Nat.le_refl _
  | .s x d :: l => by have := rootsV_len l; simp [rootsV]; omega
  | .e x true :: l => by have := rootsV_len l; simp [rootsV]; omega
  | .e x false :: l => by have := rootsV_len l; simp [rootsV]; omega
mutual
def eqE : E → E → Bool
  | .mk op n s args, y => decide (op = y.op) && decide (n = y.n) && (s == y.s) && decide ((args.length : Int) = (y.args.length : Int)) && eqEs args y.args
def eqEs : List E → List E → Bool
  | [], _ => true
  | x :: l, y :: m => eqE x y && eqEs l m
  | _ :: _, [] => true
end
end Go.Proofs.YtjmghomnbmbjnaaGreat
set_option linter.all false
namespace Go.Proofs.YtjmghomnbmbjnaaGreat
open Go.Abs
attribute [local congr] ite_congr
set_option maxRecDepth 10000
def sRow (s : Bytes) : List Dat := [.str s]
noncomputable abbrev grS (A : AHeap) (l : List Bytes) : AV × AHeap := agrow A 9 1 (l.map sRow)
theorem grS_append (A : AHeap) (l : List Bytes) (x : Bytes) (h : l.length ≤ 4194303) : aappend Tryz.prog 9 1 (grS A l).2 (grS A l).1 [[.str x]] = some (grS A (l ++ [x])) := by
  have := agrow_append (P := Tryz.prog) (A := A) (ty := 9) (sz := 1) (rows := l.map sRow) (src := [[.str x]]) room_9_1 (by rfl) (by simp; omega)
  rw [this]
  unfold grS
  rw [List.map_append]
  rfl
theorem grS_snoc (A : AHeap) (l : List Bytes) (x : Bytes) : grS A (l ++ [x]) = (.own A.bufs.length (l.length + 1), ⟨A.objs, A.bufs ++ [⟨9, 1, l.map sRow ++ [sRow x], 0⟩]⟩) := by
  unfold grS
  rw [List.map_append, List.map_cons, List.map_nil, grow_snoc, List.length_map]
theorem grS_fst_ne (A : AHeap) (l : List Bytes) : (grS A l).1 ≠ .own A.bufs.length (l.length + 1) := by
  unfold grS agrow
  split
  · intro h; cases h
  · intro h
    simp at h
def nameF (t : List Bytes) (x : Stm) (_ : Int) : List Bytes := if (decide (x.op = 1) || decide (x.op = 6)) = true then t ++ [x.name] else t
theorem namesStep (x : Stm) (d : Int) (l : List Bytes) (hl : l.length ≤ 4194303) (A : AHeap) (w : AObj) :
    acl C 74 [Stm.av x, .d (.int .i64 d), .ptr A.objs.length 0] ⟨A.objs ++ [.cells [(grS A l).1], w], (grS A l).2.bufs⟩ = some (.tuple [], ⟨A.objs ++ [.cells [(grS A (nameF l x d)).1], w], (grS A (nameF l x d)).2.bufs⟩) := by
  rw [k_call (c := C) (f := 74) rfl Tryz.func74 rfl (ok 74 (by kernel_rfl)) rfl Tryz.ntmps74 Tryz.results74 (by simp)]
  have g1 : ∀ os m, (⟨os, (grS A m).2.bufs⟩ : AHeap) = (grS ⟨os, A.bufs⟩ m).2 := fun os m => grow_heap
  have g2 : ∀ os m, (grS A m).1 = (grS ⟨os, A.bufs⟩ m).1 := fun os m => grow_fst rfl
  have e5 := grS_append ⟨A.objs ++ [.cells [(grS A l).1], w], A.bufs⟩ l x.name hl
  rw [← g2 (A.objs ++ [.cells [(grS A l).1], w]) l, ← g1, grS_snoc] at e5
  have e8 : ∀ A0 A' : AHeap, A0 = ⟨A.objs ++ [.cells [(grS A l).1], w], (grS A l).2.bufs⟩ → A' = ⟨A.objs ++ [.cells [.own A.bufs.length (l.length + 1)], w], A.bufs ++ [⟨9, 1, l.map sRow ++ [sRow x.name], 0⟩]⟩ → afinR C 74 A0 A' (some (.tuple [])) = some (.tuple [], A') := by
    intro A0 A' h1 h2
    refine afinR_loud rfl rfl ?_
    rw [h1, h2]
    intro hh
    have h9 := congrArg (fun l : List AObj => l[A.objs.length]?) hh
    simp [List.getElem?_take] at h9
    exact grS_fst_ne A l h9.symm
  have e9 := e8 _ _ rfl rfl
  unfold nameF
  cases h1 : decide (x.op = 1) || decide (x.op = 6) with
  | false => simp (maxSteps := 1000000) +contextual only [go_sem, acondK_bool, acB_merge, Nat.reduceLT, Nat.reduceLeDiff, Nat.reduceEqDiff, Nat.reduceAdd, Nat.reduceSub, Nat.reduceMul, Nat.reduceBEq, Nat.reduceBNe, Nat.reduceBneDiff, Nat.reduceBeqDiff, Int.reduceToNat, Int.reduceLE, Int.reduceLT, Int.reduceEq, Int.reduceNe, Int.reduceNeg, Int.reduceAdd, Int.reduceSub, ↓reduceIte, reduceCtorEq, h1]
  | true =>
    simp only [if_true]
    rw [grS_snoc]
    simp (maxSteps := 1000000) +contextual only [go_sem, acondK_bool, acB_merge, Nat.reduceLT, Nat.reduceLeDiff, Nat.reduceEqDiff, Nat.reduceAdd, Nat.reduceSub, Nat.reduceMul, Nat.reduceBEq, Nat.reduceBNe, Nat.reduceBneDiff, Nat.reduceBeqDiff, Int.reduceToNat, Int.reduceLE, Int.reduceLT, Int.reduceEq, Int.reduceNe, Int.reduceNeg, Int.reduceAdd, Int.reduceSub, ↓reduceIte, reduceCtorEq, h1, e5, e9]
end Go.Proofs.YtjmghomnbmbjnaaGreat
set_option linter.all false
namespace Go.Proofs.YtjmghomnbmbjnaaGreat
open Go.Abs
attribute [local congr] ite_congr
set_option maxRecDepth 10000
def namesV : List Vis → List Bytes
  | [] => []
  | .s x _ :: l => if (decide (x.op = 1) || decide (x.op = 6)) = true then x.name :: namesV l else namesV l
  | .e _ _ :: l => namesV l
theorem namesV_append : ∀ (l m : List Vis), namesV (l ++ m) = namesV l ++ namesV m
  | [], _ => rfl
  | .s x d :: l, m => by
    simp only [List.cons_append, namesV]
    split
    · rw [namesV_append l m, List.cons_append]
    · exact namesV_append l m
  | .e x r :: l, m => by simp only [List.cons_append, namesV]; exact namesV_append l m
theorem namesV_len : ∀ (l : List Vis), (namesV l).length ≤ l.length
  | [] => Nat.le_refl _
  | .s x d :: l => by
    have := namesV_len l
    simp only [namesV, List.length_cons]
    split
    · simp; omega
    · omega
  | .e x r :: l => by have := namesV_len l; simp [namesV]; omega
theorem names_fold : ∀ (l : List Vis) (t : List Bytes), l.foldl (fun t v => step1 nameF (fun t _ => t) v t) t = t ++ namesV l
  | [], t => by simp [namesV]
  | .s x d :: l, t => by
    rw [List.foldl_cons]
    refine (names_fold l _).trans ?_
    simp only [step1, nameF, namesV]
    split
    · simp
    · rfl
  | .e x true :: l, t => by rw [List.foldl_cons]; exact names_fold l t
  | .e x false :: l, t => by rw [List.foldl_cons]; exact names_fold l t
def paramNames (p : Pr) : List Bytes := p.params.map Pm.name
def namesS (p : Pr) : List Bytes := paramNames p ++ namesV (visP p)
noncomputable def wkN (A : AHeap) (n : Nat) (hn : n ≤ 4000000) : Wk (List Bytes) where
  w := A.objs.length + 1
  sfn := 74
  rfn := 75
  scap := [.ptr A.objs.length 0]
  rcap := []
  H := wkH 74 75 [.ptr A.objs.length 0] [] (fun t => A.objs ++ [.cells [(grS A t).1]]) (fun t => (grS A t).2.bufs)
  fs := nameF
  fr := fun t _ => t
  Inv := fun t k => k ≤ 401 ∧ t.length + k ≤ 401 + n
  le := fun _ _ h => h.1
  obj := wkH_obj fun _ => by simp
  set := wkH_set fun _ => by simp
  stmt := fun t k x d hx h => by
    have := namesStep x d t (by have := h.2; omega) A (.cells [.d (.int .i64 (k : Nat)), .func (.func 74) [] [.ptr A.objs.length 0], .func (.func 75) [] []])
    unfold wkH
    simp only [List.append_assoc, List.cons_append, List.nil_append]
    exact this
  root := fun t k e _ _ => noRoot e _
  inv_s := fun t k x _ h => ⟨by omega, by
    have := h.2
    unfold nameF
    split
    · rw [List.length_append, List.length_cons, List.length_nil]; omega
    · omega⟩
  inv_r := fun t k _ h => ⟨by omega, by have := h.2; omega⟩
  inv_e := fun t k h => ⟨by omega, by omega⟩
theorem grS_ne (A : AHeap) {ns t : List Bytes} (h : ns.length < t.length) : (grS A t).1 ≠ (grS A ns).1 := by
  have ht : t.map sRow ≠ [] := by intro e; rw [List.map_eq_nil_iff] at e; subst e; simp at h
  unfold grS agrow
  rw [if_neg ht]
  split
  · intro e; cases e
  · intro e; simp at e; omega
theorem walk_endS (A : AHeap) (ns t : List Bytes) (h : t = ns ∨ ns.length < t.length) (w : AObj) (n : Int) :
    ∃ xs, afinR C 73 ⟨A.objs ++ [.cells [(grS A ns).1]], (grS A ns).2.bufs⟩ ⟨A.objs ++ [.cells [(grS A t).1]] ++ [w], (grS A t).2.bufs⟩ (some (.d (.int .i64 n))) = some (.d (.int .i64 n), ⟨A.objs ++ (.cells [(grS A t).1] :: xs), (grS A t).2.bufs⟩) := by
  rcases h with h | h
  · subst h
    exact ⟨[], afinR_obj (c := C) (f := 73) (A0 := ⟨A.objs ++ [.cells [(grS A t).1]], (grS A t).2.bufs⟩) (v := .d (.int .i64 n)) rfl rfl⟩
  · refine ⟨[w], ?_⟩
    have := afinR_loud (c := C) (f := 73) (A0 := ⟨A.objs ++ [.cells [(grS A ns).1]], (grS A ns).2.bufs⟩) (A := ⟨A.objs ++ [.cells [(grS A t).1]] ++ [w], (grS A t).2.bufs⟩) (v := .d (.int .i64 n)) rfl rfl (by
      intro hh
      have h9 := congrArg (fun l : List AObj => l[A.objs.length]?) hh
      simp [List.getElem?_take] at h9
      exact grS_ne A h h9)
    rw [this]
    simp [AV.clean3, AV.clean2, AV.clean1]
theorem afin_growY {f : FuncId} (ho : C.own f = false) (A : AHeap) (e sz : Nat) (rows : List (List Dat)) (xs : List AObj) : afinR C f A ⟨A.objs ++ xs, (agrow A e sz rows).2.bufs⟩ (some (agrow A e sz rows).1) = some (.d (.slice rows), A) := by
  simp only [afinR, Option.map_some, afinish, ho, Bool.false_eq_true, if_false]
  unfold agrow
  by_cases h1 : rows = []
  · simp only [h1, if_true, acleanR, acleanV, aclean]
    unfold acut
    simp [AV.noptr, AV.noptr2, AV.noptr1]
  · simp only [if_neg h1, acleanR, acleanV, aclean, arows]
    simp only [List.getElem?_append_right (Nat.le_refl _), Nat.sub_self, List.getElem?_cons_zero, if_true]
    unfold acut
    simp [AHeap.freeze, AV.noptr, AV.noptr2, AV.noptr1]
    rw [List.take_modify_front]
theorem names (p : Pr) (hp : p.Ok) (hn : p.params.length ≤ 4000000) (A : AHeap) : acl C 45 [Pr.av p] A = some (.d (.slice ((namesS p).map sRow)), A) := by
  rw [k_call (c := C) (f := 45) rfl Tryz.func45 rfl (ok 45 (by kernel_rfl)) rfl Tryz.ntmps45 Tryz.results45 (by simp)]
  simp (maxSteps := 1000000) +contextual only [go_sem, acondK_bool, acB_merge, Nat.reduceLT, Nat.reduceLeDiff, Nat.reduceEqDiff, Nat.reduceAdd, Nat.reduceSub, Nat.reduceMul, Nat.reduceBEq, Nat.reduceBNe, Nat.reduceBneDiff, Nat.reduceBeqDiff, Int.reduceToNat, Int.reduceLE, Int.reduceLT, Int.reduceEq, Int.reduceNe, Int.reduceNeg, Int.reduceAdd, Int.reduceSub, ↓reduceIte, reduceCtorEq]
  refine loop_any (fun pre => [(9, .v (.d (.int .i64 (pre.length : Nat)))), (3, .v (.ptr A.objs.length 0)), (7, .v (.d (.slice (p.params.map Pm.row)))), (1, .box [.d (.str p.name), .d (.slice (p.params.map Pm.row)), .d (.slice (p.body.map Stm.row))]), (8, .v (.d (.int .i64 (p.params.length : Nat))))])
    (fun pre => ⟨A.objs ++ [.cells [(grS A (pre.map Pm.name)).1]], (grS A (pre.map Pm.name)).2.bufs⟩) (fun _ _ => some (.d (.slice ((namesS p).map sRow)), A)) p.params rfl rfl rfl ?_
  intro pre suf h ih
  have hb : pre.length < 9223372036854775807 := by rw [h] at hn; simp at hn; omega
  cases suf with
  | nil =>
    rw [List.append_nil] at h
    subst h
    have e1 := (wkN A p.params.length hn).walk p hp (p.params.map Pm.name) ⟨A.objs ++ [.cells [(grS A (p.params.map Pm.name)).1]], (grS A (p.params.map Pm.name)).2.bufs⟩ (by simp [wkN]) ⟨Nat.le_refl _, by simp; omega⟩ rfl
    have e2 : (run (wkN A p.params.length hn).fs (wkN A p.params.length hn).fr (visSs p.body 1) (p.params.map Pm.name, 401)).1 = namesS p := (run_fold _ _ _ _ _).trans (names_fold _ _)
    rw [e2] at e1
    generalize (run (wkN A p.params.length hn).fs (wkN A p.params.length hn).fr (visSs p.body 1) (p.params.map Pm.name, 401)).2 = k at e1
    obtain ⟨xs, e4⟩ := walk_endS A (p.params.map Pm.name) (namesS p) (by
      unfold namesS paramNames
      by_cases h0 : namesV (visP p) = []
      · left; rw [h0, List.append_nil]
      · right
        have := List.length_pos_iff.2 h0
        rw [List.length_append]
        omega) (.cells [.d (.int .i64 (k : Nat)), .func (.func 74) [] [.ptr A.objs.length 0], .func (.func 75) [] []]) (401 - (k : Int))
    have e5 := e1.trans e4
    change acl C 73 [Pr.av p, .func (.func 74) [] [.ptr A.objs.length 0], .func (.func 75) [] []] _ = _ at e5
    have e6 := afin_growY (f := 45) rfl A 9 1 ((namesS p).map sRow) (.cells [(grS A (namesS p)).1] :: xs)
    simp (maxSteps := 1000000) +contextual only [go_sem, acondK_bool, acB_merge, Nat.reduceLT, Nat.reduceLeDiff, Nat.reduceEqDiff, Nat.reduceAdd, Nat.reduceSub, Nat.reduceMul, Nat.reduceBEq, Nat.reduceBNe, Nat.reduceBneDiff, Nat.reduceBeqDiff, Int.reduceToNat, Int.reduceLE, Int.reduceLT, Int.reduceEq, Int.reduceNe, Int.reduceNeg, Int.reduceAdd, Int.reduceSub, ↓reduceIte, reduceCtorEq, e5, e6]
  | cons x suf =>
    have e2 := ih x suf rfl
    rw [List.length_append, List.length_cons, List.length_nil, List.map_append, List.map_cons, List.map_nil, grS_snoc, List.length_map] at e2
    have e3 : (p.params.map Pm.row)[pre.length]? = some [.str x.name, .int .i64 x.type] := by rw [h]; exact map_mid
    have e4 : decide ((pre.length : Int) < (p.params.length : Int)) = true := by rw [h]; simp; omega
    have g1 : ∀ os m, (⟨os, (grS A m).2.bufs⟩ : AHeap) = (grS ⟨os, A.bufs⟩ m).2 := fun os m => grow_heap
    have g2 : ∀ os m, (grS A m).1 = (grS ⟨os, A.bufs⟩ m).1 := fun os m => grow_fst rfl
    have e5 := grS_append ⟨A.objs ++ [.cells [(grS A (pre.map Pm.name)).1]], A.bufs⟩ (pre.map Pm.name) x.name (by rw [h] at hn; simp at hn ⊢; omega)
    rw [← g2 (A.objs ++ [AObj.cells [(grS A (pre.map Pm.name)).1]]) (pre.map Pm.name), ← g1, grS_snoc] at e5
    simp (maxSteps := 1000000) +contextual only [go_sem, acondK_bool, acB_merge, Nat.reduceLT, Nat.reduceLeDiff, Nat.reduceEqDiff, Nat.reduceAdd, Nat.reduceSub, Nat.reduceMul, Nat.reduceBEq, Nat.reduceBNe, Nat.reduceBneDiff, Nat.reduceBeqDiff, Int.reduceToNat, Int.reduceLE, Int.reduceLT, Int.reduceEq, Int.reduceNe, Int.reduceNeg, Int.reduceAdd, Int.reduceSub, ↓reduceIte, reduceCtorEq, e3, e4, e5, e2, wrap_nat hb]
theorem namesR (p : Pr) (hp : p.Ok) (hn : p.params.length ≤ 4000000) (A : AHeap) : acl C 36 [Pr.av p] A = some (.d (.slice ((namesS p).map sRow)), A) := by
  rw [k_call (c := C) (f := 36) rfl Tryz.func36 rfl (ok 36 (by kernel_rfl)) rfl Tryz.ntmps36 Tryz.results36 (by simp)]
  simp (maxSteps := 1000000) +contextual only [go_sem, acondK_bool, acB_merge, Nat.reduceLT, Nat.reduceLeDiff, Nat.reduceEqDiff, Nat.reduceAdd, Nat.reduceSub, Nat.reduceMul, Nat.reduceBEq, Nat.reduceBNe, Nat.reduceBneDiff, Nat.reduceBeqDiff, Int.reduceToNat, Int.reduceLE, Int.reduceLT, Int.reduceEq, Int.reduceNe, Int.reduceNeg, Int.reduceAdd, Int.reduceSub, ↓reduceIte, reduceCtorEq]
  refine loop_any (fun pre => [(3, .v (grS A (pre.map Pm.name)).1), (4, .v (.d (.int .i64 (pre.length : Nat)))), (1, .box [.d (.str p.name), .d (.slice (p.params.map Pm.row)), .d (.slice (p.body.map Stm.row))])])
    (fun pre => (grS A (pre.map Pm.name)).2) (fun _ _ => some (.d (.slice ((namesS p).map sRow)), A)) p.params rfl rfl rfl ?_
  intro pre suf h ih
  have hb : pre.length < 9223372036854775807 := by rw [h] at hn; simp at hn; omega
  cases suf with
  | nil =>
    rw [List.append_nil] at h
    subst h
    simp (maxSteps := 1000000) +contextual only [go_sem, acondK_bool, acB_merge, Nat.reduceLT, Nat.reduceLeDiff, Nat.reduceEqDiff, Nat.reduceAdd, Nat.reduceSub, Nat.reduceMul, Nat.reduceBEq, Nat.reduceBNe, Nat.reduceBneDiff, Nat.reduceBeqDiff, Int.reduceToNat, Int.reduceLE, Int.reduceLT, Int.reduceEq, Int.reduceNe, Int.reduceNeg, Int.reduceAdd, Int.reduceSub, ↓reduceIte, reduceCtorEq, walkR p hp]
    have hlen := visP_len p
    refine loop_any (fun pre => [(3, .v (grS A (p.params.map Pm.name ++ namesV pre)).1), (6, .v (.d (.int .i64 (pre.length : Nat)))), (5, .v (.d (.slice ((visP p).map Vis.row))))])
      (fun pre => (grS A (p.params.map Pm.name ++ namesV pre)).2) (fun _ _ => some (.d (.slice ((namesS p).map sRow)), A)) (visP p) (by simp [namesV]) (by simp [namesV]) rfl ?_
    unfold namesS paramNames
    intro pre suf h ih
    generalize visP p = l at *
    have hb : pre.length < 9223372036854775807 := by rw [h] at hlen; simp at hlen; omega
    cases suf with
    | nil =>
      rw [List.append_nil] at h
      subst h
      have hf : afinR C 36 A (grS A (p.params.map Pm.name ++ namesV l)).2 (some (grS A (p.params.map Pm.name ++ namesV l)).1) = some (.d (.slice ((p.params.map Pm.name ++ namesV l).map sRow)), A) := afin_grown rfl
      simp (maxSteps := 1000000) +contextual only [go_sem, acondK_bool, acB_merge, Nat.reduceLT, Nat.reduceLeDiff, Nat.reduceEqDiff, Nat.reduceAdd, Nat.reduceSub, Nat.reduceMul, Nat.reduceBEq, Nat.reduceBNe, Nat.reduceBneDiff, Nat.reduceBeqDiff, Int.reduceToNat, Int.reduceLE, Int.reduceLT, Int.reduceEq, Int.reduceNe, Int.reduceNeg, Int.reduceAdd, Int.reduceSub, ↓reduceIte, reduceCtorEq, hf]
    | cons v suf =>
      have e2 := ih v suf rfl
      rw [namesV_append, List.length_append, List.length_cons, List.length_nil] at e2
      have e3 : (l.map Vis.row)[pre.length]? = some (Vis.row v) := by rw [h]; exact map_mid
      have e4 : decide ((pre.length : Int) < (l.length : Int)) = true := by rw [h]; simp; omega
      have hr := namesV_len pre
      have hpl : pre.length ≤ 401 := by rw [h] at hlen; simp at hlen; omega
      match v with
      | .s x d =>
        simp only [Vis.row] at e3
        cases h1 : decide (x.op = 1) || decide (x.op = 6) with
        | false =>
          simp only [namesV, h1, Bool.false_eq_true, if_false, List.append_nil] at e2
          simp (maxSteps := 1000000) +contextual only [go_sem, acondK_bool, acB_merge, Nat.reduceLT, Nat.reduceLeDiff, Nat.reduceEqDiff, Nat.reduceAdd, Nat.reduceSub, Nat.reduceMul, Nat.reduceBEq, Nat.reduceBNe, Nat.reduceBneDiff, Nat.reduceBeqDiff, Int.reduceToNat, Int.reduceLE, Int.reduceLT, Int.reduceEq, Int.reduceNe, Int.reduceNeg, Int.reduceAdd, Int.reduceSub, ↓reduceIte, reduceCtorEq, e3, e4, e2, h1, wrap_nat hb]
        | true =>
          simp only [namesV, h1, if_true] at e2
          have e5 := grS_append A (p.params.map Pm.name ++ namesV pre) x.name (by simp; omega)
          rw [List.append_assoc] at e5
          simp (maxSteps := 1000000) +contextual only [go_sem, acondK_bool, acB_merge, Nat.reduceLT, Nat.reduceLeDiff, Nat.reduceEqDiff, Nat.reduceAdd, Nat.reduceSub, Nat.reduceMul, Nat.reduceBEq, Nat.reduceBNe, Nat.reduceBneDiff, Nat.reduceBeqDiff, Int.reduceToNat, Int.reduceLE, Int.reduceLT, Int.reduceEq, Int.reduceNe, Int.reduceNeg, Int.reduceAdd, Int.reduceSub, ↓reduceIte, reduceCtorEq, e3, e4, e5, e2, h1, wrap_nat hb]
      | .e y r =>
        simp only [Vis.row] at e3
        simp only [namesV, List.append_nil] at e2
        simp (maxSteps := 1000000) +contextual only [go_sem, acondK_bool, acB_merge, Nat.reduceLT, Nat.reduceLeDiff, Nat.reduceEqDiff, Nat.reduceAdd, Nat.reduceSub, Nat.reduceMul, Nat.reduceBEq, Nat.reduceBNe, Nat.reduceBneDiff, Nat.reduceBeqDiff, Int.reduceToNat, Int.reduceLE, Int.reduceLT, Int.reduceEq, Int.reduceNe, Int.reduceNeg, Int.reduceAdd, Int.reduceSub, ↓reduceIte, reduceCtorEq, e3, e4, e2, wrap_nat hb]
  | cons x suf =>
    have e2 := ih x suf rfl
    rw [List.length_append, List.length_cons, List.length_nil, List.map_append, List.map_cons, List.map_nil] at e2
    have e3 : (p.params.map Pm.row)[pre.length]? = some [.str x.name, .int .i64 x.type] := by rw [h]; exact map_mid
    have e4 : decide ((pre.length : Int) < (p.params.length : Int)) = true := by rw [h]; simp; omega
    have e5 := grS_append A (pre.map Pm.name) x.name (by rw [h] at hn; simp at hn ⊢; omega)
    simp (maxSteps := 1000000) +contextual only [go_sem, acondK_bool, acB_merge, Nat.reduceLT, Nat.reduceLeDiff, Nat.reduceEqDiff, Nat.reduceAdd, Nat.reduceSub, Nat.reduceMul, Nat.reduceBEq, Nat.reduceBNe, Nat.reduceBneDiff, Nat.reduceBeqDiff, Int.reduceToNat, Int.reduceLE, Int.reduceLT, Int.reduceEq, Int.reduceNe, Int.reduceNeg, Int.reduceAdd, Int.reduceSub, ↓reduceIte, reduceCtorEq, e3, e4, e5, e2, wrap_nat hb]
end Go.Proofs.YtjmghomnbmbjnaaGreat
set_option linter.all false
namespace Go.Proofs.YtjmghomnbmbjnaaGreat
open Go.Abs
attribute [local congr] ite_congr
set_option maxRecDepth 10000
mutual
theorem eqE_refl : ∀ x, eqE x x = true
  | .mk op n s args => by simp [eqE, eqEs_refl args]
theorem eqEs_refl : ∀ l, eqEs l l = true
  | [] => rfl
  | x :: l => by simp [eqEs, eqE_refl x, eqEs_refl l]
end
mutual
theorem visE_okE : ∀ (e : E) (r : Bool), e.Ok → ∀ x q, Vis.e x q ∈ visE e r → x.Ok
  | .mk op n s args, r, h, x, q, hm => by
    simp only [visE, List.mem_cons] at hm
    rcases hm with hm | hm
    · injection hm with h1 h2; subst h1; exact h
    · exact visEs_okE args h.arg x q hm
theorem visEs_okE : ∀ (l : List E), (∀ y ∈ l, y.Ok) → ∀ x q, Vis.e x q ∈ visEs l → x.Ok
  | [], _, x, q, hm => by simp [visEs] at hm
  | y :: l, h, x, q, hm => by
    simp only [visEs, List.mem_append] at hm
    rcases hm with hm | hm
    · exact visE_okE y false (h y (List.mem_cons_self ..)) x q hm
    · exact visEs_okE l (fun z hz => h z (List.mem_cons_of_mem _ hz)) x q hm
end
mutual
theorem visS_okE : ∀ (s : Stm) (d : Int), s.Ok → ∀ x q, Vis.e x q ∈ visS s d → x.Ok
  | .mk op name max a b body els, d, h, x, q, hm => by
    simp only [visS, List.mem_cons, List.mem_append] at hm
    rcases hm with hm | hm | hm | hm | hm
    · cases hm
    · split at hm
      · simp at hm
      · exact visE_okE a true (Stm.Ok.a h) x q hm
    · split at hm
      · simp at hm
      · exact visE_okE b true (Stm.Ok.b h) x q hm
    · exact visSs_okE body _ (Stm.Ok.bodyOk h) x q hm
    · exact visSs_okE els _ (Stm.Ok.elsOk h) x q hm
theorem visSs_okE : ∀ (l : List Stm) (d : Int), (∀ y ∈ l, y.Ok) → ∀ x q, Vis.e x q ∈ visSs l d → x.Ok
  | [], _, _, x, q, hm => by simp [visSs] at hm
  | y :: l, d, h, x, q, hm => by
    simp only [visSs, List.mem_append] at hm
    rcases hm with hm | hm
    · exact visS_okE y d (h y (List.mem_cons_self ..)) x q hm
    · exact visSs_okE l d (fun z hz => h z (List.mem_cons_of_mem _ hz)) x q hm
end
theorem exprsS_len (p : Pr) : (exprsS p).length ≤ 401 := Nat.le_trans (rootsV_len _) (visP_len p)
theorem small40 {p : Pr} {m : Int} (h : smallS p m = true) : p.params.length ≤ 40 := by
  unfold smallS at h
  split at h
  · cases h
  · rename_i h1
    simp at h1
    omega
theorem namesS_len (p : Pr) (h : p.params.length ≤ 40) : (namesS p).length ≤ 441 := by
  unfold namesS paramNames
  have := namesV_len (visP p)
  have := visP_len p
  simp
  omega
end Go.Proofs.YtjmghomnbmbjnaaGreat
