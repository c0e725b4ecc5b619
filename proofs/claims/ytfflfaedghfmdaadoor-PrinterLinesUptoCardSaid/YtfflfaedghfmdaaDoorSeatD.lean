/- The walk with a variable of the caller's: what it is afterwards. -/
import Derived.Test.YtfflfaedghfmdaaDoorSeatC
set_option linter.unusedVariables false
set_option linter.unusedSimpArgs false
set_option linter.all false
set_option linter.deprecated false
set_option linter.all false
namespace Go.Proofs.YtfflfaedghfmdaaDoor
open Go.Abs
attribute [local congr] ite_congr
set_option maxRecDepth 10000
theorem run_fold {σ : Type} (fs : σ → Stm → Int → σ) (fr : σ → E → σ) : ∀ (l : List Vis) (t : σ) (k : Nat), (run fs fr l (t, k)).1 = (l.take k).foldl (fun t v => step1 fs fr v t) t
  | [], t, k => by simp [run]
  | v :: l, t, k => by
    simp only [run]
    split
    · rename_i h; subst h; rfl
    · obtain ⟨j, rfl⟩ : ∃ j, k = j + 1 := ⟨k - 1, by omega⟩
      rw [Nat.add_sub_cancel, List.take_succ_cons, List.foldl_cons]
      exact run_fold fs fr l _ j
/-- the walk ends: the variable has its new value, and whatever lies behind it is of no account -/
theorem walk_end (A : AHeap) (c0 c1 : AObj) (w : AObj) (n : Int) : ∃ xs, afinR C 19 ⟨A.objs ++ [c0], A.bufs⟩ ⟨A.objs ++ [c1] ++ [w], A.bufs⟩ (some (.d (.int .i64 n))) = some (.d (.int .i64 n), ⟨A.objs ++ (c1 :: xs), A.bufs⟩) := by
  by_cases h : c1 = c0
  · subst h
    exact ⟨[], afinR_obj (c := C) (f := 19) (A0 := ⟨A.objs ++ [c1], A.bufs⟩) (v := .d (.int .i64 n)) rfl rfl⟩
  · refine ⟨[w], ?_⟩
    have := afinR_loud (c := C) (f := 19) (A0 := ⟨A.objs ++ [c0], A.bufs⟩) (A := ⟨A.objs ++ [c1] ++ [w], A.bufs⟩) (v := .d (.int .i64 n)) rfl rfl (by
      intro hh
      have h9 := congrArg (fun l : List AObj => l[A.objs.length]?) hh
      simp [List.getElem?_take] at h9
      exact h h9)
    rw [this]
    simp [AV.clean3, AV.clean2, AV.clean1]
def depF (t : Int) (_ : Stm) (d : Int) : Int := if d > t then d else t
def depS (p : Pr) : Int := (visP p).foldl (fun t v => step1 depF (fun t _ => t) v t) 0
def depG (t : Int) : Vis → Int
  | .s _ d => if d > t then d else t
  | .e _ _ => if 0 > t then 0 else t
theorem depG_eq : ∀ (l : List Vis) (t : Int), 0 ≤ t → l.foldl depG t = l.foldl (fun t v => step1 depF (fun t _ => t) v t) t
  | [], _, _ => rfl
  | .s x d :: l, t, h => by
    simp only [List.foldl_cons, depG, step1, depF]
    exact depG_eq l _ (by split <;> omega)
  | .e x true :: l, t, h => by
    simp only [List.foldl_cons, depG, step1]
    rw [if_neg (by omega)]
    exact depG_eq l t h
  | .e x false :: l, t, h => by
    simp only [List.foldl_cons, depG, step1]
    rw [if_neg (by omega)]
    exact depG_eq l t h
end Go.Proofs.YtfflfaedghfmdaaDoor
set_option linter.all false
namespace Go.Proofs.YtfflfaedghfmdaaDoor
open Go.Abs
attribute [local congr] ite_congr
set_option maxRecDepth 10000
/-- a struct whose last cell is a slice that has grown is handed out -/
theorem afin_grownE {f : FuncId} (ho : C.own f = false) (A : AHeap) (e sz : Nat) (rows : List (List Dat)) (a b c : Dat) :
    afinR C f A (agrow A e sz rows).2 (some (.agg [.d a, .d b, .d c, (agrow A e sz rows).1])) = some (.agg [.d a, .d b, .d c, .d (.slice rows)], A) := by
  simp only [afinR, Option.map_some, afinish, ho, Bool.false_eq_true, if_false]
  unfold agrow
  by_cases h1 : rows = []
  · subst h1
    simp only [if_true, acleanR, acleanV, acleans, aclean]
    rw [acut_same rfl]
  · simp only [if_neg h1, acleanR, acleanV, acleans, aclean, arows]
    simp only [List.getElem?_append_right (Nat.le_refl _), Nat.sub_self, List.getElem?_cons_zero, if_true]
    unfold acut
    simp [AHeap.freeze, AV.noptr, AV.noptr2, AV.noptr1]
    rw [List.take_modify_front]
theorem cells_grow {A : AHeap} {e sz : Nat} {rows : List (List Dat)} : (agrow A e sz rows).1.cells = [(agrow A e sz rows).1] := by
  unfold agrow
  split <;> rfl
noncomputable abbrev grE (A : AHeap) (l : List E) : AV × AHeap := agrow A 28 4 (l.map E.row)
theorem grow_fst {A B : AHeap} {e sz : Nat} {rows : List (List Dat)} (h : A.bufs = B.bufs) : (agrow A e sz rows).1 = (agrow B e sz rows).1 := by
  unfold agrow
  rw [h]
  split <;> rfl
theorem grow_bufs {A B : AHeap} {e sz : Nat} {rows : List (List Dat)} (h : A.bufs = B.bufs) : (agrow A e sz rows).2.bufs = (agrow B e sz rows).2.bufs := by
  unfold agrow
  split
  · exact h
  · show A.bufs ++ _ = B.bufs ++ _
    rw [h]
theorem grow_objs {A : AHeap} {e sz : Nat} {rows : List (List Dat)} : (agrow A e sz rows).2.objs = A.objs := by
  unfold agrow
  split <;> rfl
/-- the heap of a slice that grows, with its objects named -/
theorem grow_heap {A : AHeap} {e sz : Nat} {rows : List (List Dat)} {os : List AObj} : (⟨os, (agrow A e sz rows).2.bufs⟩ : AHeap) = (agrow ⟨os, A.bufs⟩ e sz rows).2 := by
  unfold agrow
  by_cases h : rows = [] <;> simp [h]
theorem usN_grow {A : AHeap} {e sz : Nat} {rows : List (List Dat)} : usN (some [(agrow A e sz rows).1]) = (false, false) := by
  unfold agrow
  split <;> rfl
theorem alen_grE {A A' : AHeap} {l : List E} : alen A' 2 (grE A l).1 = some l.length := by
  rw [alen_grow]; simp
theorem grow_snoc {A : AHeap} {e sz : Nat} {rows : List (List Dat)} {r : List Dat} : agrow A e sz (rows ++ [r]) = (.own A.bufs.length (rows.length + 1), ⟨A.objs, A.bufs ++ [⟨e, sz, rows ++ [r], 0⟩]⟩) := by
  unfold agrow
  rw [if_neg (by simp)]
  simp
theorem usI_grow {A : AHeap} {e sz : Nat} {rows : List (List Dat)} {r : List Dat} : usI (some (agrow A e sz (rows ++ [r])).1) = (false, true) := by
  rw [grow_snoc]
  rfl
/-- the new last element of a slice that grows -/
theorem aindex_grow {A : AHeap} {e sz : Nat} {rows : List (List Dat)} {r : List Dat} : aindex sz (agrow A e sz (rows ++ [r])).2 (rows.length : Nat) (agrow A e sz (rows ++ [r])).1 = some (.eptr A.bufs.length (rows.length + 1) rows.length 0) := by
  rw [grow_snoc]
  simp [aindex]
theorem astore_grow {A : AHeap} {e sz : Nat} {rows : List (List Dat)} {r r' : List Dat} {vs : List AV} (hv : adatL vs = some r') (hr : r.length = r'.length) :
    astore (agrow A e sz (rows ++ [r])).2 vs (.eptr A.bufs.length (rows.length + 1) rows.length 0) = some (agrow A e sz (rows ++ [r'])).2 := by
  rw [grow_snoc, grow_snoc]
  have h1 := adats_L (A := ⟨A.objs, A.bufs ++ [⟨e, sz, rows ++ [r], 0⟩]⟩) hv
  simp [astore, h1, hr]
def zE : E := .mk 0 0 [] []
theorem grE_snoc (A : AHeap) (l : List E) (x : E) : grE A (l ++ [x]) = (.own A.bufs.length (l.length + 1), ⟨A.objs, A.bufs ++ [⟨28, 4, l.map E.row ++ [x.row], 0⟩]⟩) := by
  unfold grE
  rw [List.map_append, List.map_cons, List.map_nil, grow_snoc, List.length_map]
theorem grE_fst_ne (A : AHeap) (l : List E) : (grE A l).1 ≠ .own A.bufs.length (l.length + 1) := by
  unfold grE agrow
  split
  · intro h; cases h
  · intro h
    simp at h
def exF (t : List E) (e : E) : List E := t ++ [e]
/-- the expressions of the statements that are visited -/
def rootsV : List Vis → List E
  | [] => []
  | .e x true :: l => x :: rootsV l
  | .e _ false :: l => rootsV l
  | .s _ _ :: l => rootsV l
theorem roots_fold : ∀ (l : List Vis) (t : List E), l.foldl (fun t v => step1 (fun t _ _ => t) exF v t) t = t ++ rootsV l
  | [], t => by simp [rootsV]
  | .s x d :: l, t => by rw [List.foldl_cons]; exact roots_fold l t
  | .e x true :: l, t => by rw [List.foldl_cons]; exact (roots_fold l (t ++ [x])).trans (by simp [rootsV])
  | .e x false :: l, t => by rw [List.foldl_cons]; exact roots_fold l t
def exprsS (p : Pr) : List E := rootsV (visP p)
/-- the walk ends, and the slice may have grown -/
theorem walk_endG (A : AHeap) (t : List E) (w : AObj) (n : Int) : ∃ xs, afinR C 19 ⟨A.objs ++ [.cells [.nilS]], A.bufs⟩ ⟨A.objs ++ [.cells [(grE A t).1]] ++ [w], (grE A t).2.bufs⟩ (some (.d (.int .i64 n))) = some (.d (.int .i64 n), ⟨A.objs ++ (.cells [(grE A t).1] :: xs), (grE A t).2.bufs⟩) := by
  by_cases h : t = []
  · subst h
    exact ⟨[], afinR_obj (c := C) (f := 19) (A0 := ⟨A.objs ++ [.cells [.nilS]], A.bufs⟩) (v := .d (.int .i64 n)) rfl rfl⟩
  · refine ⟨[w], ?_⟩
    have := afinR_loud (c := C) (f := 19) (A0 := ⟨A.objs ++ [.cells [.nilS]], A.bufs⟩) (A := ⟨A.objs ++ [.cells [(grE A t).1]] ++ [w], (grE A t).2.bufs⟩) (v := .d (.int .i64 n)) rfl rfl (by
      intro hh
      have h9 := congrArg (fun l : List AObj => l[A.objs.length]?) hh
      simp [List.getElem?_take] at h9
      have h8 : (grE A t).1 = .nilS := h9
      unfold grE agrow at h8
      rw [if_neg (by simpa using h)] at h8
      cases h8)
    rw [this]
    simp [AV.clean3, AV.clean2, AV.clean1]
theorem afin_growX {f : FuncId} (ho : C.own f = false) (A : AHeap) (t : List E) (xs : List AObj) : afinR C f A ⟨A.objs ++ xs, (grE A t).2.bufs⟩ (some (grE A t).1) = some (.d (.slice (t.map E.row)), A) := by
  simp only [afinR, Option.map_some, afinish, ho, Bool.false_eq_true, if_false]
  unfold grE agrow
  by_cases h1 : t.map E.row = []
  · simp only [h1, if_true, acleanR, acleanV, aclean]
    unfold acut
    simp [AV.noptr, AV.noptr2, AV.noptr1]
  · simp only [if_neg h1, acleanR, acleanV, aclean, arows]
    simp only [List.getElem?_append_right (Nat.le_refl _), Nat.sub_self, List.getElem?_cons_zero, if_true]
    unfold acut
    simp [AHeap.freeze, AV.noptr, AV.noptr2, AV.noptr1]
    rw [List.take_modify_front]
end Go.Proofs.YtfflfaedghfmdaaDoor
set_option linter.all false
namespace Go.Proofs.YtfflfaedghfmdaaDoor
open Go.Abs
attribute [local congr] ite_congr
set_option maxRecDepth 10000
theorem rootsV_append : ∀ (l m : List Vis), rootsV (l ++ m) = rootsV l ++ rootsV m
  | [], _ => rfl
  | .s x d :: l, m => by simp only [List.cons_append, rootsV]; exact rootsV_append l m
  | .e x true :: l, m => by simp only [List.cons_append, rootsV]; rw [rootsV_append l m]
  | .e x false :: l, m => by simp only [List.cons_append, rootsV]; exact rootsV_append l m
theorem rootsV_len : ∀ (l : List Vis), (rootsV l).length ≤ l.length
  | [] => Nat.le_refl _
  | .s x d :: l => by have := rootsV_len l; simp [rootsV]; omega
  | .e x true :: l => by have := rootsV_len l; simp [rootsV]; omega
  | .e x false :: l => by have := rootsV_len l; simp [rootsV]; omega
mutual
def eqE : E → E → Bool
  | .mk op n s args, y => decide (op = y.op) && decide (n = y.n) && (s == y.s) && decide ((args.length : Int) = (y.args.length : Int)) && eqEs args y.args
def eqEs : List E → List E → Bool
  | [], _ => true
  | x :: l, y :: m => eqE x y && eqEs l m
  | _ :: _, [] => true
end
theorem equalExprR : ∀ x, E.Ok x → ∀ y, E.Ok y → ∀ (A : AHeap), acl C 47 [E.av x, E.av y] A = some (.d (.bool (eqE x y)), A) := by
  intro x
  induction x using E.ind with
  | h op n s args ih =>
    intro hx y hy A
    rw [k_call (c := C) (f := 47) rfl Tryd.func47 rfl (ok 47 (by kernel_rfl)) rfl Tryd.ntmps47 Tryd.results47 (by simp)]
    cases h1 : decide (op = y.op) with
    | false => simp (maxSteps := 1000000) +contextual only [go_sem, acondK_bool, acB_merge, Nat.reduceLT, Nat.reduceLeDiff, Nat.reduceEqDiff, Nat.reduceAdd, Nat.reduceSub, Nat.reduceMul, Nat.reduceBEq, Nat.reduceBNe, Nat.reduceBneDiff, Nat.reduceBeqDiff, Int.reduceToNat, Int.reduceLE, Int.reduceLT, Int.reduceEq, Int.reduceNe, Int.reduceNeg, Int.reduceAdd, Int.reduceSub, ↓reduceIte, reduceCtorEq, eqE, h1]
    | true =>
    cases h2 : decide (n = y.n) with
    | false => simp (maxSteps := 1000000) +contextual only [go_sem, acondK_bool, acB_merge, Nat.reduceLT, Nat.reduceLeDiff, Nat.reduceEqDiff, Nat.reduceAdd, Nat.reduceSub, Nat.reduceMul, Nat.reduceBEq, Nat.reduceBNe, Nat.reduceBneDiff, Nat.reduceBeqDiff, Int.reduceToNat, Int.reduceLE, Int.reduceLT, Int.reduceEq, Int.reduceNe, Int.reduceNeg, Int.reduceAdd, Int.reduceSub, ↓reduceIte, reduceCtorEq, eqE, h1, h2]
    | true =>
    cases h3 : (s == y.s) with
    | false => simp (maxSteps := 1000000) +contextual only [go_sem, acondK_bool, acB_merge, Nat.reduceLT, Nat.reduceLeDiff, Nat.reduceEqDiff, Nat.reduceAdd, Nat.reduceSub, Nat.reduceMul, Nat.reduceBEq, Nat.reduceBNe, Nat.reduceBneDiff, Nat.reduceBeqDiff, Int.reduceToNat, Int.reduceLE, Int.reduceLT, Int.reduceEq, Int.reduceNe, Int.reduceNeg, Int.reduceAdd, Int.reduceSub, ↓reduceIte, reduceCtorEq, eqE, h1, h2, h3]
    | true =>
    cases h4 : decide ((args.length : Int) = (y.args.length : Int)) with
    | false => simp (maxSteps := 1000000) +contextual only [go_sem, acondK_bool, acB_merge, Nat.reduceLT, Nat.reduceLeDiff, Nat.reduceEqDiff, Nat.reduceAdd, Nat.reduceSub, Nat.reduceMul, Nat.reduceBEq, Nat.reduceBNe, Nat.reduceBneDiff, Nat.reduceBeqDiff, Int.reduceToNat, Int.reduceLE, Int.reduceLT, Int.reduceEq, Int.reduceNe, Int.reduceNeg, Int.reduceAdd, Int.reduceSub, ↓reduceIte, reduceCtorEq, eqE, h1, h2, h3, h4]
    | true =>
    simp (maxSteps := 1000000) +contextual only [go_sem, acondK_bool, acB_merge, Nat.reduceLT, Nat.reduceLeDiff, Nat.reduceEqDiff, Nat.reduceAdd, Nat.reduceSub, Nat.reduceMul, Nat.reduceBEq, Nat.reduceBNe, Nat.reduceBneDiff, Nat.reduceBeqDiff, Int.reduceToNat, Int.reduceLE, Int.reduceLT, Int.reduceEq, Int.reduceNe, Int.reduceNeg, Int.reduceAdd, Int.reduceSub, ↓reduceIte, reduceCtorEq, eqE, h1, h2, h3, h4]
    refine loop_any (fun pre => [(2, .box [.d (.int .i64 op), .d (.int .i64 n), .d (.str s), .d (.slice (args.map E.row))]), (3, .box [.d (.int .i64 y.op), .d (.int .i64 y.n), .d (.str y.s), .d (.slice (y.args.map E.row))]), (5, .v (.d (.int .i64 (pre.length : Nat))))])
      (fun _ => A) (fun pre suf => some (.d (.bool (eqEs suf (y.args.drop pre.length))), A)) args rfl rfl rfl ?_
    intro pre suf hl ih2
    have hb : pre.length < 9223372036854775807 := by have := hx.len; rw [hl] at this; simp at this; omega
    cases suf with
    | nil => rw [List.append_nil] at hl; subst hl; simp (maxSteps := 1000000) +contextual only [go_sem, acondK_bool, acB_merge, Nat.reduceLT, Nat.reduceLeDiff, Nat.reduceEqDiff, Nat.reduceAdd, Nat.reduceSub, Nat.reduceMul, Nat.reduceBEq, Nat.reduceBNe, Nat.reduceBneDiff, Nat.reduceBeqDiff, Int.reduceToNat, Int.reduceLE, Int.reduceLT, Int.reduceEq, Int.reduceNe, Int.reduceNeg, Int.reduceAdd, Int.reduceSub, ↓reduceIte, reduceCtorEq, eqEs]
    | cons x suf =>
      have hxa : x ∈ args := by rw [hl]; simp
      have hlen : pre.length < y.args.length := by simp at h4; rw [hl] at h4; simp at h4; omega
      have hd : y.args.drop pre.length = y.args[pre.length] :: y.args.drop (pre.length + 1) := List.drop_eq_getElem_cons hlen
      have f3 : (y.args.map E.row)[pre.length]? = some (E.row y.args[pre.length]) := by rw [List.getElem?_map, List.getElem?_eq_getElem hlen]; rfl
      have hyo : E.Ok y.args[pre.length] := by cases hy; rename_i hh; exact hh _ (List.getElem_mem hlen)
      have e1 := ih x hxa (hx.arg x hxa) y.args[pre.length] hyo A
      generalize y.args[pre.length] = z at *
      have e2 := ih2 x suf rfl
      rw [List.length_append, List.length_cons, List.length_nil] at e2
      have e3 : (args.map E.row)[pre.length]? = some (E.row x) := by rw [hl]; exact map_mid
      have e4 : decide ((pre.length : Int) < (args.length : Int)) = true := by rw [hl]; simp; omega
      rw [E.row_eq] at e3 f3
      rw [hd]
      simp (maxSteps := 1000000) +contextual only [go_sem, acondK_bool, acB_merge, Nat.reduceLT, Nat.reduceLeDiff, Nat.reduceEqDiff, Nat.reduceAdd, Nat.reduceSub, Nat.reduceMul, Nat.reduceBEq, Nat.reduceBNe, Nat.reduceBneDiff, Nat.reduceBeqDiff, Int.reduceToNat, Int.reduceLE, Int.reduceLT, Int.reduceEq, Int.reduceNe, Int.reduceNeg, Int.reduceAdd, Int.reduceSub, ↓reduceIte, reduceCtorEq, e3, e4, f3, e1, e2, k_drawn_q, wrap_nat hb, eqEs]
end Go.Proofs.YtfflfaedghfmdaaDoor
set_option linter.all false
namespace Go.Proofs.YtfflfaedghfmdaaDoor
open Go.Abs
attribute [local congr] ite_congr
set_option maxRecDepth 10000
def sRow (s : Bytes) : List Dat := [.str s]
noncomputable abbrev grS (A : AHeap) (l : List Bytes) : AV × AHeap := agrow A 9 1 (l.map sRow)
theorem grS_append (A : AHeap) (l : List Bytes) (x : Bytes) (h : l.length ≤ 4194303) : aappend Tryd.prog 9 1 (grS A l).2 (grS A l).1 [[.str x]] = some (grS A (l ++ [x])) := by
  have := agrow_append (P := Tryd.prog) (A := A) (ty := 9) (sz := 1) (rows := l.map sRow) (src := [[.str x]]) room_9_1 (by rfl) (by simp; omega)
  rw [this]
  unfold grS
  rw [List.map_append]
  rfl
theorem grS_snoc (A : AHeap) (l : List Bytes) (x : Bytes) : grS A (l ++ [x]) = (.own A.bufs.length (l.length + 1), ⟨A.objs, A.bufs ++ [⟨9, 1, l.map sRow ++ [sRow x], 0⟩]⟩) := by
  unfold grS
  rw [List.map_append, List.map_cons, List.map_nil, grow_snoc, List.length_map]
theorem grS_fst_ne (A : AHeap) (l : List Bytes) : (grS A l).1 ≠ .own A.bufs.length (l.length + 1) := by
  unfold grS agrow
  split
  · intro h; cases h
  · intro h
    simp at h
def nameF (t : List Bytes) (x : Stm) (_ : Int) : List Bytes := if (decide (x.op = 1) || decide (x.op = 6)) = true then t ++ [x.name] else t
end Go.Proofs.YtfflfaedghfmdaaDoor
set_option linter.all false
namespace Go.Proofs.YtfflfaedghfmdaaDoor
open Go.Abs
attribute [local congr] ite_congr
set_option maxRecDepth 10000
/-- the names that the visited statements declare -/
def namesV : List Vis → List Bytes
  | [] => []
  | .s x _ :: l => if (decide (x.op = 1) || decide (x.op = 6)) = true then x.name :: namesV l else namesV l
  | .e _ _ :: l => namesV l
theorem namesV_append : ∀ (l m : List Vis), namesV (l ++ m) = namesV l ++ namesV m
  | [], _ => rfl
  | .s x d :: l, m => by
    simp only [List.cons_append, namesV]
    split
    · rw [namesV_append l m, List.cons_append]
    · exact namesV_append l m
  | .e x r :: l, m => by simp only [List.cons_append, namesV]; exact namesV_append l m
theorem namesV_len : ∀ (l : List Vis), (namesV l).length ≤ l.length
  | [] => Nat.le_refl _
  | .s x d :: l => by
    have := namesV_len l
    simp only [namesV, List.length_cons]
    split
    · simp; omega
    · omega
  | .e x r :: l => by have := namesV_len l; simp [namesV]; omega
theorem names_fold : ∀ (l : List Vis) (t : List Bytes), l.foldl (fun t v => step1 nameF (fun t _ => t) v t) t = t ++ namesV l
  | [], t => by simp [namesV]
  | .s x d :: l, t => by
    rw [List.foldl_cons]
    refine (names_fold l _).trans ?_
    simp only [step1, nameF, namesV]
    split
    · simp
    · rfl
  | .e x true :: l, t => by rw [List.foldl_cons]; exact names_fold l t
  | .e x false :: l, t => by rw [List.foldl_cons]; exact names_fold l t
def paramNames (p : Pr) : List Bytes := p.params.map Pm.name
def namesS (p : Pr) : List Bytes := paramNames p ++ namesV (visP p)
theorem grS_ne (A : AHeap) {ns t : List Bytes} (h : ns.length < t.length) : (grS A t).1 ≠ (grS A ns).1 := by
  have ht : t.map sRow ≠ [] := by intro e; rw [List.map_eq_nil_iff] at e; subst e; simp at h
  unfold grS agrow
  rw [if_neg ht]
  split
  · intro e; cases e
  · intro e; simp at e; omega
/-- the walk ends, and the slice may have grown -/
theorem walk_endS (A : AHeap) (ns t : List Bytes) (h : t = ns ∨ ns.length < t.length) (w : AObj) (n : Int) :
    ∃ xs, afinR C 19 ⟨A.objs ++ [.cells [(grS A ns).1]], (grS A ns).2.bufs⟩ ⟨A.objs ++ [.cells [(grS A t).1]] ++ [w], (grS A t).2.bufs⟩ (some (.d (.int .i64 n))) = some (.d (.int .i64 n), ⟨A.objs ++ (.cells [(grS A t).1] :: xs), (grS A t).2.bufs⟩) := by
  rcases h with h | h
  · subst h
    exact ⟨[], afinR_obj (c := C) (f := 19) (A0 := ⟨A.objs ++ [.cells [(grS A t).1]], (grS A t).2.bufs⟩) (v := .d (.int .i64 n)) rfl rfl⟩
  · refine ⟨[w], ?_⟩
    have := afinR_loud (c := C) (f := 19) (A0 := ⟨A.objs ++ [.cells [(grS A ns).1]], (grS A ns).2.bufs⟩) (A := ⟨A.objs ++ [.cells [(grS A t).1]] ++ [w], (grS A t).2.bufs⟩) (v := .d (.int .i64 n)) rfl rfl (by
      intro hh
      have h9 := congrArg (fun l : List AObj => l[A.objs.length]?) hh
      simp [List.getElem?_take] at h9
      exact grS_ne A h h9)
    rw [this]
    simp [AV.clean3, AV.clean2, AV.clean1]
/-- a slice that has grown is handed out; what lies behind the old objects is forgotten -/
theorem afin_growY {f : FuncId} (ho : C.own f = false) (A : AHeap) (e sz : Nat) (rows : List (List Dat)) (xs : List AObj) : afinR C f A ⟨A.objs ++ xs, (agrow A e sz rows).2.bufs⟩ (some (agrow A e sz rows).1) = some (.d (.slice rows), A) := by
  simp only [afinR, Option.map_some, afinish, ho, Bool.false_eq_true, if_false]
  unfold agrow
  by_cases h1 : rows = []
  · simp only [h1, if_true, acleanR, acleanV, aclean]
    unfold acut
    simp [AV.noptr, AV.noptr2, AV.noptr1]
  · simp only [if_neg h1, acleanR, acleanV, aclean, arows]
    simp only [List.getElem?_append_right (Nat.le_refl _), Nat.sub_self, List.getElem?_cons_zero, if_true]
    unfold acut
    simp [AHeap.freeze, AV.noptr, AV.noptr2, AV.noptr1]
    rw [List.take_modify_front]
end Go.Proofs.YtfflfaedghfmdaaDoor
