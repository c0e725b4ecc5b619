/- Validate: the program and the reference. -/
import Derived.Test.YtfoibmfocmjmdaaValid1
set_option linter.all false
set_option linter.unusedVariables false
set_option linter.unusedSimpArgs false
set_option linter.all false
set_option linter.deprecated false
namespace Go.Proofs.Ytfoibmfocmjmdaa
open Go.Abs
attribute [local congr] ite_congr
set_option maxRecDepth 10000
def valF (t : Int) (x : Stm) (d : Int) : Int := if decide (t = 0) = true then stmtS x d else t
theorem validateStep (x : Stm) (hx : x.Ok) (d t : Int) (A : AHeap) (w : AObj) (b : List ABuf) : acl C 43 [Stm.av x, .d (.int .i64 d), .ptr A.objs.length 0] ⟨A.objs ++ [.cells [.d (.int .i64 t)], w], b⟩ =
    some (.tuple [], ⟨A.objs ++ [.cells [.d (.int .i64 (valF t x d))], w], b⟩) := by
  rw [k_call (c := C) (f := 43) rfl Try.func43 rfl (ok 43 (by kernel_rfl)) rfl Try.ntmps43 Try.results43 (by simp)]
  unfold valF
  cases h : decide (t = 0) with
  | true => simp (maxSteps := 1000000) +contextual only [go_sem, acondK_bool, acB_merge, Nat.reduceLT, Nat.reduceLeDiff, Nat.reduceEqDiff, Nat.reduceAdd, Nat.reduceSub, Nat.reduceMul, Nat.reduceBEq, Nat.reduceBNe, Nat.reduceBneDiff, Nat.reduceBeqDiff, Int.reduceToNat, Int.reduceLE, Int.reduceLT, Int.reduceEq, Int.reduceNe, Int.reduceNeg, Int.reduceAdd, Int.reduceSub, ↓reduceIte, reduceCtorEq, List.getElem?_toArray, List.getElem?_cons_zero, List.getElem?_cons_succ, List.length_cons, List.length_nil, List.take_succ_cons, List.take_zero, List.drop_succ_cons, List.drop_zero, List.drop_nil, List.take_nil, List.nil_append, List.cons_append, List.append_nil, List.contains_cons, List.contains_nil, Bool.or_false, Bool.false_or, Bool.or_true, Bool.true_or, Bool.and_true, Bool.true_and, Bool.and_false, Bool.false_and, Bool.not_true, Bool.not_false, Bool.not_not, List.map_cons, List.map_nil, ite_not, not_true_eq_false, not_false_eq_true, Nat.zero_add, Nat.add_zero, h, statement x hx, afinR_len]
  | false => simp (maxSteps := 1000000) +contextual only [go_sem, acondK_bool, acB_merge, Nat.reduceLT, Nat.reduceLeDiff, Nat.reduceEqDiff, Nat.reduceAdd, Nat.reduceSub, Nat.reduceMul, Nat.reduceBEq, Nat.reduceBNe, Nat.reduceBneDiff, Nat.reduceBeqDiff, Int.reduceToNat, Int.reduceLE, Int.reduceLT, Int.reduceEq, Int.reduceNe, Int.reduceNeg, Int.reduceAdd, Int.reduceSub, ↓reduceIte, reduceCtorEq, List.getElem?_toArray, List.getElem?_cons_zero, List.getElem?_cons_succ, List.length_cons, List.length_nil, List.take_succ_cons, List.take_zero, List.drop_succ_cons, List.drop_zero, List.drop_nil, List.take_nil, List.nil_append, List.cons_append, List.append_nil, List.contains_cons, List.contains_nil, Bool.or_false, Bool.false_or, Bool.or_true, Bool.true_or, Bool.and_true, Bool.true_and, Bool.and_false, Bool.false_and, Bool.not_true, Bool.not_false, Bool.not_not, List.map_cons, List.map_nil, ite_not, not_true_eq_false, not_false_eq_true, Nat.zero_add, Nat.add_zero, h, statement x hx, afinR_len]
def wkV (A : AHeap) : Wk Int where
  w := A.objs.length + 1
  sfn := 43
  rfn := 45
  scap := [.ptr A.objs.length 0]
  rcap := []
  H := wkH 43 45 [.ptr A.objs.length 0] [] (fun t => A.objs ++ [.cells [.d (.int .i64 t)]]) (fun _ => A.bufs)
  fs := valF
  fr := fun t _ => t
  Inv := fun _ k => k ≤ 401
  le := fun _ _ h => h
  obj := wkH_obj fun _ => by simp
  set := wkH_set fun _ => by simp
  stmt := fun t k x d hx _ => by
    have := validateStep x hx d t A (.cells [.d (.int .i64 (k : Nat)), .func (.func 43) [] [.ptr A.objs.length 0], .func (.func 45) [] []]) A.bufs
    unfold wkH
    simp only [List.append_assoc, List.cons_append, List.nil_append]
    exact this
  root := fun t k e _ _ => noRoot e _
  inv_s := fun _ _ _ _ h => by omega
  inv_r := fun _ _ _ h => by omega
  inv_e := fun _ _ h => by omega
/-- the first error of the statements that are visited -/
def errV : List Vis → Int
  | [] => 0
  | .s x d :: l => if stmtS x d = 0 then errV l else stmtS x d
  | .e _ _ :: l => errV l
theorem run_val_err : ∀ (l : List Vis) (t : Int) (k : Nat), t ≠ 0 → (run valF (fun t _ => t) l (t, k)).1 = t
  | [], t, k, _ => rfl
  | v :: l, t, k, h => by
    simp only [run]
    split
    · rfl
    · have hs : step1 valF (fun t _ => t) v t = t := by
        match v with
        | .s x d => simp [step1, valF, h]
        | .e x true => rfl
        | .e x false => rfl
      rw [hs]
      exact run_val_err l t _ h
theorem run_val : ∀ (l : List Vis) (k : Nat), (run valF (fun t _ => t) l (0, k)).1 = errV (l.take k)
  | [], k => by simp [run, errV]
  | v :: l, k => by
    simp only [run]
    split
    · rename_i h; subst h; rfl
    · obtain ⟨j, rfl⟩ : ∃ j, k = j + 1 := ⟨k - 1, by omega⟩
      rw [Nat.add_sub_cancel, List.take_succ_cons]
      match v with
      | .s x d =>
        simp only [step1, valF, errV, decide_true, if_true]
        by_cases h : stmtS x d = 0
        · rw [h, if_pos rfl]; exact run_val l j
        · rw [if_neg h]; exact run_val_err l _ j h
      | .e x true => exact run_val l j
      | .e x false => exact run_val l j
/-- the error of a procedure -/
def valS (p : Pr) : Int := if (!isName p.name) = true then 7 else if prmS p.params = 0 then (if errV (visP p) = 0 then (if decide ((400 : Int) < (((visP p).length : Nat) : Int)) = true then 2 else 0) else errV (visP p)) else prmS p.params
theorem validate (p : Pr) (hp : p.Ok) (A : AHeap) : acl C 18 [Pr.av p] A = some (.d (.int .i64 (valS p)), A) := by
  rw [k_call (c := C) (f := 18) rfl Try.func18 rfl (ok 18 (by kernel_rfl)) rfl Try.ntmps18 Try.results18 (by simp)]
  cases h1 : isName p.name with
  | false => simp (maxSteps := 1000000) +contextual only [go_sem, acondK_bool, acB_merge, Nat.reduceLT, Nat.reduceLeDiff, Nat.reduceEqDiff, Nat.reduceAdd, Nat.reduceSub, Nat.reduceMul, Nat.reduceBEq, Nat.reduceBNe, Nat.reduceBneDiff, Nat.reduceBeqDiff, Int.reduceToNat, Int.reduceLE, Int.reduceLT, Int.reduceEq, Int.reduceNe, Int.reduceNeg, Int.reduceAdd, Int.reduceSub, ↓reduceIte, reduceCtorEq, List.getElem?_toArray, List.getElem?_cons_zero, List.getElem?_cons_succ, List.length_cons, List.length_nil, List.take_succ_cons, List.take_zero, List.drop_succ_cons, List.drop_zero, List.drop_nil, List.take_nil, List.nil_append, List.cons_append, List.append_nil, List.contains_cons, List.contains_nil, Bool.or_false, Bool.false_or, Bool.or_true, Bool.true_or, Bool.and_true, Bool.true_and, Bool.and_false, Bool.false_and, Bool.not_true, Bool.not_false, Bool.not_not, List.map_cons, List.map_nil, ite_not, not_true_eq_false, not_false_eq_true, Nat.zero_add, Nat.add_zero, hp.name, h1, valS]
  | true =>
  by_cases h2 : prmS p.params = 0
  · have e1 := (wkV A).walk p hp 0 ⟨A.objs ++ [.cells [.d (.int .i64 0)]], A.bufs⟩ (by simp [wkV]) (Nat.le_refl _) rfl
    have e2 : (run (wkV A).fs (wkV A).fr (visSs p.body 1) (0, 401)).1 = errV (visP p) := run_val _ _
    have e3 : (401 : Int) - ((run (wkV A).fs (wkV A).fr (visSs p.body 1) (0, 401)).2 : Int) = ((visP p).length : Nat) := by
      rw [run_len]; unfold visP; simp; omega
    rw [e3, e2] at e1
    generalize (run (wkV A).fs (wkV A).fr (visSs p.body 1) (0, 401)).2 = k at e1
    by_cases h3 : errV (visP p) = 0
    · have e4 : afinR C 42 ⟨A.objs ++ [.cells [.d (.int .i64 0)]], A.bufs⟩ ((wkV A).H (errV (visP p)) k) (some (.d (.int .i64 ((visP p).length : Nat)))) = some (.d (.int .i64 ((visP p).length : Nat)), ⟨A.objs ++ [.cells [.d (.int .i64 0)]], A.bufs⟩) := by
        rw [h3]
        exact afinR_obj (c := C) (f := 42) (A0 := ⟨A.objs ++ [.cells [.d (.int .i64 0)]], A.bufs⟩) (v := .d (.int .i64 ((visP p).length : Nat))) rfl rfl
      rw [e4] at e1
      change acl C 42 [Pr.av p, .func (.func 43) [] [.ptr A.objs.length 0], .func (.func 45) [] []] _ = _ at e1
      simp (maxSteps := 1000000) +contextual only [go_sem, acondK_bool, acB_merge, Nat.reduceLT, Nat.reduceLeDiff, Nat.reduceEqDiff, Nat.reduceAdd, Nat.reduceSub, Nat.reduceMul, Nat.reduceBEq, Nat.reduceBNe, Nat.reduceBneDiff, Nat.reduceBeqDiff, Int.reduceToNat, Int.reduceLE, Int.reduceLT, Int.reduceEq, Int.reduceNe, Int.reduceNeg, Int.reduceAdd, Int.reduceSub, ↓reduceIte, reduceCtorEq, List.getElem?_toArray, List.getElem?_cons_zero, List.getElem?_cons_succ, List.length_cons, List.length_nil, List.take_succ_cons, List.take_zero, List.drop_succ_cons, List.drop_zero, List.drop_nil, List.take_nil, List.nil_append, List.cons_append, List.append_nil, List.contains_cons, List.contains_nil, Bool.or_false, Bool.false_or, Bool.or_true, Bool.true_or, Bool.and_true, Bool.true_and, Bool.and_false, Bool.false_and, Bool.not_true, Bool.not_false, Bool.not_not, List.map_cons, List.map_nil, ite_not, not_true_eq_false, not_false_eq_true, Nat.zero_add, Nat.add_zero, hp.name, h1, h2, params p.params hp.plen hp.params, e1]
      refine leafI ?_
      simp [valS, h1, h2, h3]
    · have e4 : afinR C 42 ⟨A.objs ++ [.cells [.d (.int .i64 0)]], A.bufs⟩ ((wkV A).H (errV (visP p)) k) (some (.d (.int .i64 ((visP p).length : Nat)))) = some (.d (.int .i64 ((visP p).length : Nat)), (wkV A).H (errV (visP p)) k) := by
        refine afinR_loud rfl rfl ?_
        intro hh
        have h9 := congrArg (fun l : List AObj => l[A.objs.length]?) hh
        simp [wkV, wkH, List.getElem?_take] at h9
        exact h3 h9
      rw [e4] at e1
      change acl C 42 [Pr.av p, .func (.func 43) [] [.ptr A.objs.length 0], .func (.func 45) [] []] _ = _ at e1
      simp only [wkV, wkH, List.append_assoc, List.cons_append, List.nil_append] at e1
      simp (maxSteps := 1000000) +contextual only [go_sem, acondK_bool, acB_merge, Nat.reduceLT, Nat.reduceLeDiff, Nat.reduceEqDiff, Nat.reduceAdd, Nat.reduceSub, Nat.reduceMul, Nat.reduceBEq, Nat.reduceBNe, Nat.reduceBneDiff, Nat.reduceBeqDiff, Int.reduceToNat, Int.reduceLE, Int.reduceLT, Int.reduceEq, Int.reduceNe, Int.reduceNeg, Int.reduceAdd, Int.reduceSub, ↓reduceIte, reduceCtorEq, List.getElem?_toArray, List.getElem?_cons_zero, List.getElem?_cons_succ, List.length_cons, List.length_nil, List.take_succ_cons, List.take_zero, List.drop_succ_cons, List.drop_zero, List.drop_nil, List.take_nil, List.nil_append, List.cons_append, List.append_nil, List.contains_cons, List.contains_nil, Bool.or_false, Bool.false_or, Bool.or_true, Bool.true_or, Bool.and_true, Bool.true_and, Bool.and_false, Bool.false_and, Bool.not_true, Bool.not_false, Bool.not_not, List.map_cons, List.map_nil, ite_not, not_true_eq_false, not_false_eq_true, Nat.zero_add, Nat.add_zero, hp.name, h1, h2, params p.params hp.plen hp.params, e1]
      refine leafI ?_
      simp [valS, h1, h2, h3]
  · simp (maxSteps := 1000000) +contextual only [go_sem, acondK_bool, acB_merge, Nat.reduceLT, Nat.reduceLeDiff, Nat.reduceEqDiff, Nat.reduceAdd, Nat.reduceSub, Nat.reduceMul, Nat.reduceBEq, Nat.reduceBNe, Nat.reduceBneDiff, Nat.reduceBeqDiff, Int.reduceToNat, Int.reduceLE, Int.reduceLT, Int.reduceEq, Int.reduceNe, Int.reduceNeg, Int.reduceAdd, Int.reduceSub, ↓reduceIte, reduceCtorEq, List.getElem?_toArray, List.getElem?_cons_zero, List.getElem?_cons_succ, List.length_cons, List.length_nil, List.take_succ_cons, List.take_zero, List.drop_succ_cons, List.drop_zero, List.drop_nil, List.take_nil, List.nil_append, List.cons_append, List.append_nil, List.contains_cons, List.contains_nil, Bool.or_false, Bool.false_or, Bool.or_true, Bool.true_or, Bool.and_true, Bool.true_and, Bool.and_false, Bool.false_and, Bool.not_true, Bool.not_false, Bool.not_not, List.map_cons, List.map_nil, ite_not, not_true_eq_false, not_false_eq_true, Nat.zero_add, Nat.add_zero, hp.name, h1, h2, params p.params hp.plen hp.params]
    refine leafI ?_
    simp [valS, h1, h2]
def Vis.Ok : Vis → Prop
  | .s x _ => x.Ok
  | .e x _ => x.Ok
mutual
theorem visE_ok : ∀ (e : E) (r : Bool), e.Ok → ∀ v ∈ visE e r, Vis.Ok v
  | .mk op n s args, r, h, v, hv => by
    simp only [visE, List.mem_cons] at hv
    rcases hv with rfl | hv
    · exact h
    · exact visEs_ok args (fun x hx => h.arg x hx) v hv
theorem visEs_ok : ∀ (l : List E), (∀ x ∈ l, x.Ok) → ∀ v ∈ visEs l, Vis.Ok v
  | [], _, v, hv => by simp [visEs] at hv
  | x :: l, h, v, hv => by
    simp only [visEs, List.mem_append] at hv
    rcases hv with hv | hv
    · exact visE_ok x false (h x (List.mem_cons_self ..)) v hv
    · exact visEs_ok l (fun y hy => h y (List.mem_cons_of_mem _ hy)) v hv
end
mutual
theorem visS_ok : ∀ (x : Stm) (d : Int), x.Ok → ∀ v ∈ visS x d, Vis.Ok v
  | .mk op name max a b body els, d, h, v, hv => by
    simp only [visS, List.mem_cons, List.mem_append] at hv
    rcases hv with rfl | hv | hv | hv | hv
    · exact h
    · split at hv
      · cases hv
      · exact visE_ok a true (Stm.Ok.a h) v hv
    · split at hv
      · cases hv
      · exact visE_ok b true (Stm.Ok.b h) v hv
    · exact visSs_ok body _ (Stm.Ok.bodyOk h) v hv
    · exact visSs_ok els _ (Stm.Ok.elsOk h) v hv
theorem visSs_ok : ∀ (l : List Stm) (d : Int), (∀ x ∈ l, x.Ok) → ∀ v ∈ visSs l d, Vis.Ok v
  | [], _, _, v, hv => by simp [visSs] at hv
  | x :: l, d, h, v, hv => by
    simp only [visSs, List.mem_append] at hv
    rcases hv with hv | hv
    · exact visS_ok x d (h x (List.mem_cons_self ..)) v hv
    · exact visSs_ok l d (fun y hy => h y (List.mem_cons_of_mem _ hy)) v hv
end
theorem visP_ok (p : Pr) (hp : p.Ok) : ∀ v ∈ visP p, Vis.Ok v := fun v hv => visSs_ok _ _ hp.body v (List.mem_of_mem_take hv)
theorem visP_len (p : Pr) : (visP p).length ≤ 401 := by unfold visP; simp; omega
theorem validateR (p : Pr) (hp : p.Ok) (A : AHeap) : acl C 19 [Pr.av p] A = some (.d (.int .i64 (valS p)), A) := by
  rw [k_call (c := C) (f := 19) rfl Try.func19 rfl (ok 19 (by kernel_rfl)) rfl Try.ntmps19 Try.results19 (by simp)]
  cases h1 : isName p.name with
  | false => simp (maxSteps := 1000000) +contextual only [go_sem, acondK_bool, acB_merge, Nat.reduceLT, Nat.reduceLeDiff, Nat.reduceEqDiff, Nat.reduceAdd, Nat.reduceSub, Nat.reduceMul, Nat.reduceBEq, Nat.reduceBNe, Nat.reduceBneDiff, Nat.reduceBeqDiff, Int.reduceToNat, Int.reduceLE, Int.reduceLT, Int.reduceEq, Int.reduceNe, Int.reduceNeg, Int.reduceAdd, Int.reduceSub, ↓reduceIte, reduceCtorEq, List.getElem?_toArray, List.getElem?_cons_zero, List.getElem?_cons_succ, List.length_cons, List.length_nil, List.take_succ_cons, List.take_zero, List.drop_succ_cons, List.drop_zero, List.drop_nil, List.take_nil, List.nil_append, List.cons_append, List.append_nil, List.contains_cons, List.contains_nil, Bool.or_false, Bool.false_or, Bool.or_true, Bool.true_or, Bool.and_true, Bool.true_and, Bool.and_false, Bool.false_and, Bool.not_true, Bool.not_false, Bool.not_not, List.map_cons, List.map_nil, ite_not, not_true_eq_false, not_false_eq_true, Nat.zero_add, Nat.add_zero, hp.name, h1, valS]
  | true =>
  by_cases h2 : prmS p.params = 0
  · simp (maxSteps := 1000000) +contextual only [go_sem, acondK_bool, acB_merge, Nat.reduceLT, Nat.reduceLeDiff, Nat.reduceEqDiff, Nat.reduceAdd, Nat.reduceSub, Nat.reduceMul, Nat.reduceBEq, Nat.reduceBNe, Nat.reduceBneDiff, Nat.reduceBeqDiff, Int.reduceToNat, Int.reduceLE, Int.reduceLT, Int.reduceEq, Int.reduceNe, Int.reduceNeg, Int.reduceAdd, Int.reduceSub, ↓reduceIte, reduceCtorEq, List.getElem?_toArray, List.getElem?_cons_zero, List.getElem?_cons_succ, List.length_cons, List.length_nil, List.take_succ_cons, List.take_zero, List.drop_succ_cons, List.drop_zero, List.drop_nil, List.take_nil, List.nil_append, List.cons_append, List.append_nil, List.contains_cons, List.contains_nil, Bool.or_false, Bool.false_or, Bool.or_true, Bool.true_or, Bool.and_true, Bool.true_and, Bool.and_false, Bool.false_and, Bool.not_true, Bool.not_false, Bool.not_not, List.map_cons, List.map_nil, ite_not, not_true_eq_false, not_false_eq_true, Nat.zero_add, Nat.add_zero, hp.name, h1, h2, paramsR p.params hp.plen hp.params, walkR p hp]
    have hlen := visP_len p
    have hok := visP_ok p hp
    refine loop_list (fun i => [(4, .v (.d (.slice ((visP p).map Vis.row)))), (5, .v (.d (.int .i64 (i : Nat))))])
      (fun _ suf => some (.d (.int .i64 (if errV suf = 0 then (if decide ((400 : Int) < (((visP p).length : Nat) : Int)) = true then 2 else 0) else errV suf)), A)) (visP p) rfl (by simp [valS, h1, h2]) ?_
    intro pre suf h ih
    generalize hl : visP p = l at *
    have hb : pre.length < 9223372036854775807 := by rw [h] at hlen; simp at hlen; omega
    cases suf with
    | nil =>
      rw [List.append_nil] at h
      subst h
      simp (maxSteps := 1000000) +contextual only [go_sem, acondK_bool, acB_merge, Nat.reduceLT, Nat.reduceLeDiff, Nat.reduceEqDiff, Nat.reduceAdd, Nat.reduceSub, Nat.reduceMul, Nat.reduceBEq, Nat.reduceBNe, Nat.reduceBneDiff, Nat.reduceBeqDiff, Int.reduceToNat, Int.reduceLE, Int.reduceLT, Int.reduceEq, Int.reduceNe, Int.reduceNeg, Int.reduceAdd, Int.reduceSub, ↓reduceIte, reduceCtorEq, List.getElem?_toArray, List.getElem?_cons_zero, List.getElem?_cons_succ, List.length_cons, List.length_nil, List.take_succ_cons, List.take_zero, List.drop_succ_cons, List.drop_zero, List.drop_nil, List.take_nil, List.nil_append, List.cons_append, List.append_nil, List.contains_cons, List.contains_nil, Bool.or_false, Bool.false_or, Bool.or_true, Bool.true_or, Bool.and_true, Bool.true_and, Bool.and_false, Bool.false_and, Bool.not_true, Bool.not_false, Bool.not_not, List.map_cons, List.map_nil, ite_not, not_true_eq_false, not_false_eq_true, Nat.zero_add, Nat.add_zero, errV]
    | cons v suf =>
      have e2 := ih v suf rfl
      have hv := hok v (by rw [h]; simp)
      have e3 : (l.map Vis.row)[pre.length]? = some (Vis.row v) := by rw [h]; exact map_mid
      have e4 : decide ((pre.length : Int) < (l.length : Int)) = true := by rw [h]; simp; omega
      match v, hv with
      | .s x d, hv =>
        have e5 := stmtR x hv d A
        simp only [Vis.row] at e3
        simp (maxSteps := 1000000) +contextual only [go_sem, acondK_bool, acB_merge, Nat.reduceLT, Nat.reduceLeDiff, Nat.reduceEqDiff, Nat.reduceAdd, Nat.reduceSub, Nat.reduceMul, Nat.reduceBEq, Nat.reduceBNe, Nat.reduceBneDiff, Nat.reduceBeqDiff, Int.reduceToNat, Int.reduceLE, Int.reduceLT, Int.reduceEq, Int.reduceNe, Int.reduceNeg, Int.reduceAdd, Int.reduceSub, ↓reduceIte, reduceCtorEq, List.getElem?_toArray, List.getElem?_cons_zero, List.getElem?_cons_succ, List.length_cons, List.length_nil, List.take_succ_cons, List.take_zero, List.drop_succ_cons, List.drop_zero, List.drop_nil, List.take_nil, List.nil_append, List.cons_append, List.append_nil, List.contains_cons, List.contains_nil, Bool.or_false, Bool.false_or, Bool.or_true, Bool.true_or, Bool.and_true, Bool.true_and, Bool.and_false, Bool.false_and, Bool.not_true, Bool.not_false, Bool.not_not, List.map_cons, List.map_nil, ite_not, not_true_eq_false, not_false_eq_true, Nat.zero_add, Nat.add_zero, e3, e4, e5, e2, k_drawn_q, wrap_nat hb, errV]
        refine leafI ?_
        by_cases h5 : stmtS x d = 0 <;> simp [h5]
      | .e y r, hv =>
        simp only [Vis.row] at e3
        simp (maxSteps := 1000000) +contextual only [go_sem, acondK_bool, acB_merge, Nat.reduceLT, Nat.reduceLeDiff, Nat.reduceEqDiff, Nat.reduceAdd, Nat.reduceSub, Nat.reduceMul, Nat.reduceBEq, Nat.reduceBNe, Nat.reduceBneDiff, Nat.reduceBeqDiff, Int.reduceToNat, Int.reduceLE, Int.reduceLT, Int.reduceEq, Int.reduceNe, Int.reduceNeg, Int.reduceAdd, Int.reduceSub, ↓reduceIte, reduceCtorEq, List.getElem?_toArray, List.getElem?_cons_zero, List.getElem?_cons_succ, List.length_cons, List.length_nil, List.take_succ_cons, List.take_zero, List.drop_succ_cons, List.drop_zero, List.drop_nil, List.take_nil, List.nil_append, List.cons_append, List.append_nil, List.contains_cons, List.contains_nil, Bool.or_false, Bool.false_or, Bool.or_true, Bool.true_or, Bool.and_true, Bool.true_and, Bool.and_false, Bool.false_and, Bool.not_true, Bool.not_false, Bool.not_not, List.map_cons, List.map_nil, ite_not, not_true_eq_false, not_false_eq_true, Nat.zero_add, Nat.add_zero, e3, e4, e2, wrap_nat hb, errV]
        rfl
  · simp (maxSteps := 1000000) +contextual only [go_sem, acondK_bool, acB_merge, Nat.reduceLT, Nat.reduceLeDiff, Nat.reduceEqDiff, Nat.reduceAdd, Nat.reduceSub, Nat.reduceMul, Nat.reduceBEq, Nat.reduceBNe, Nat.reduceBneDiff, Nat.reduceBeqDiff, Int.reduceToNat, Int.reduceLE, Int.reduceLT, Int.reduceEq, Int.reduceNe, Int.reduceNeg, Int.reduceAdd, Int.reduceSub, ↓reduceIte, reduceCtorEq, List.getElem?_toArray, List.getElem?_cons_zero, List.getElem?_cons_succ, List.length_cons, List.length_nil, List.take_succ_cons, List.take_zero, List.drop_succ_cons, List.drop_zero, List.drop_nil, List.take_nil, List.nil_append, List.cons_append, List.append_nil, List.contains_cons, List.contains_nil, Bool.or_false, Bool.false_or, Bool.or_true, Bool.true_or, Bool.and_true, Bool.true_and, Bool.and_false, Bool.false_and, Bool.not_true, Bool.not_false, Bool.not_not, List.map_cons, List.map_nil, ite_not, not_true_eq_false, not_false_eq_true, Nat.zero_add, Nat.add_zero, hp.name, h1, h2, paramsR p.params hp.plen hp.params]
    refine leafI ?_
    simp [valS, h1, h2]
end Go.Proofs.Ytfoibmfocmjmdaa
