/- Does a name occur in a procedure? Both sides, and the whole renaming. -/
import Derived.Test.YtjmghomnbmbjnaaGreatSeatP
import Derived.Test.YtjmghomnbmbjnaaGreatGenC
import Derived.Test.YtjmghomnbmbjnaaGreatSeatO
set_option linter.unusedVariables false
set_option linter.unusedSimpArgs false
set_option linter.all false
set_option linter.deprecated false
set_option linter.all false
namespace Go.Proofs.YtjmghomnbmbjnaaGreat
open Go.Abs
attribute [local congr] ite_congr
set_option maxRecDepth 10000
def occS (p : Pr) (w : Bytes) : Bool := (visP p).foldl (fun t v => step1 (occF w) (occR w) v t) (hasN (namesS p) w)
def visHas (w : Bytes) : Vis → Bool
  | .s x _ => x.name == w
  | .e x _ => decide (x.op = 3) && (x.s == w)
def occT (p : Pr) (w : Bytes) : Bool := p.params.any (fun x => x.name == w) || (visP p).any (visHas w)
theorem occursR (p : Pr) (hp : p.Ok) (w : Bytes) (A : AHeap) : acl C 37 [Pr.av p, .d (.str w)] A = some (.d (.bool (occT p w)), A) := by
  rw [k_call (c := C) (f := 37) rfl Tryz.func37 rfl (ok 37 (by kernel_rfl)) rfl Tryz.ntmps37 Tryz.results37 (by simp)]
  simp (maxSteps := 1000000) +contextual only [go_sem, acondK_bool, acB_merge, Nat.reduceLT, Nat.reduceLeDiff, Nat.reduceEqDiff, Nat.reduceAdd, Nat.reduceSub, Nat.reduceMul, Nat.reduceBEq, Nat.reduceBNe, Nat.reduceBneDiff, Nat.reduceBeqDiff, Int.reduceToNat, Int.reduceLE, Int.reduceLT, Int.reduceEq, Int.reduceNe, Int.reduceNeg, Int.reduceAdd, Int.reduceSub, ↓reduceIte, reduceCtorEq]
  refine loop_any (fun pre => [(2, .box [.d (.str p.name), .d (.slice (p.params.map Pm.row)), .d (.slice (p.body.map Stm.row))]), (1, .v (.d (.str w))), (5, .v (.d (.int .i64 (pre.length : Nat))))])
    (fun _ => A) (fun _ suf => some (.d (.bool (suf.any (fun x => x.name == w) || (visP p).any (visHas w))), A)) p.params rfl rfl rfl ?_
  intro pre suf h ih
  have hpl := hp.plen
  have hb : pre.length < 9223372036854775807 := by rw [h] at hpl; simp at hpl; omega
  cases suf with
  | nil =>
    rw [List.append_nil] at h
    subst h
    simp (maxSteps := 1000000) +contextual only [go_sem, acondK_bool, acB_merge, Nat.reduceLT, Nat.reduceLeDiff, Nat.reduceEqDiff, Nat.reduceAdd, Nat.reduceSub, Nat.reduceMul, Nat.reduceBEq, Nat.reduceBNe, Nat.reduceBneDiff, Nat.reduceBeqDiff, Int.reduceToNat, Int.reduceLE, Int.reduceLT, Int.reduceEq, Int.reduceNe, Int.reduceNeg, Int.reduceAdd, Int.reduceSub, ↓reduceIte, reduceCtorEq, walkR p hp, List.any_nil]
    have hlen := visP_len p
    refine loop_any (fun pre => [(6, .v (.d (.slice ((visP p).map Vis.row)))), (1, .v (.d (.str w))), (7, .v (.d (.int .i64 (pre.length : Nat))))])
      (fun _ => A) (fun _ suf => some (.d (.bool (suf.any (visHas w))), A)) (visP p) rfl rfl rfl ?_
    intro pre suf h ih
    generalize visP p = l at *
    have hb : pre.length < 9223372036854775807 := by rw [h] at hlen; simp at hlen; omega
    cases suf with
    | nil => rw [List.append_nil] at h; subst h; simp (maxSteps := 1000000) +contextual only [go_sem, acondK_bool, acB_merge, Nat.reduceLT, Nat.reduceLeDiff, Nat.reduceEqDiff, Nat.reduceAdd, Nat.reduceSub, Nat.reduceMul, Nat.reduceBEq, Nat.reduceBNe, Nat.reduceBneDiff, Nat.reduceBeqDiff, Int.reduceToNat, Int.reduceLE, Int.reduceLT, Int.reduceEq, Int.reduceNe, Int.reduceNeg, Int.reduceAdd, Int.reduceSub, ↓reduceIte, reduceCtorEq, List.any_nil]
    | cons v suf =>
      have e2 := ih v suf rfl
      rw [List.length_append, List.length_cons, List.length_nil] at e2
      have e3 : (l.map Vis.row)[pre.length]? = some (Vis.row v) := by rw [h]; exact map_mid
      have e4 : decide ((pre.length : Int) < (l.length : Int)) = true := by rw [h]; simp; omega
      match v with
      | .s x d =>
        simp only [Vis.row] at e3
        cases h1 : (x.name == w) with
        | false => simp (maxSteps := 1000000) only [go_sem, acondK_bool, acB_merge, Nat.reduceLT, Nat.reduceLeDiff, Nat.reduceEqDiff, Nat.reduceAdd, Nat.reduceSub, Nat.reduceMul, Nat.reduceBEq, Nat.reduceBNe, Nat.reduceBneDiff, Nat.reduceBeqDiff, Int.reduceToNat, Int.reduceLE, Int.reduceLT, Int.reduceEq, Int.reduceNe, Int.reduceNeg, Int.reduceAdd, Int.reduceSub, ↓reduceIte, reduceCtorEq, e3, e4, e2, h1, visHas, List.any_cons, wrap_nat hb]
        | true => simp (maxSteps := 1000000) only [go_sem, acondK_bool, acB_merge, Nat.reduceLT, Nat.reduceLeDiff, Nat.reduceEqDiff, Nat.reduceAdd, Nat.reduceSub, Nat.reduceMul, Nat.reduceBEq, Nat.reduceBNe, Nat.reduceBneDiff, Nat.reduceBeqDiff, Int.reduceToNat, Int.reduceLE, Int.reduceLT, Int.reduceEq, Int.reduceNe, Int.reduceNeg, Int.reduceAdd, Int.reduceSub, ↓reduceIte, reduceCtorEq, e3, e4, e2, h1, visHas, List.any_cons, wrap_nat hb]
      | .e y r =>
        simp only [Vis.row] at e3
        cases h1 : decide (y.op = 3) with
        | false => simp (maxSteps := 1000000) only [go_sem, acondK_bool, acB_merge, Nat.reduceLT, Nat.reduceLeDiff, Nat.reduceEqDiff, Nat.reduceAdd, Nat.reduceSub, Nat.reduceMul, Nat.reduceBEq, Nat.reduceBNe, Nat.reduceBneDiff, Nat.reduceBeqDiff, Int.reduceToNat, Int.reduceLE, Int.reduceLT, Int.reduceEq, Int.reduceNe, Int.reduceNeg, Int.reduceAdd, Int.reduceSub, ↓reduceIte, reduceCtorEq, e3, e4, e2, h1, visHas, List.any_cons, wrap_nat hb]
        | true =>
          cases h2 : (y.s == w) with
          | false => simp (maxSteps := 1000000) only [go_sem, acondK_bool, acB_merge, Nat.reduceLT, Nat.reduceLeDiff, Nat.reduceEqDiff, Nat.reduceAdd, Nat.reduceSub, Nat.reduceMul, Nat.reduceBEq, Nat.reduceBNe, Nat.reduceBneDiff, Nat.reduceBeqDiff, Int.reduceToNat, Int.reduceLE, Int.reduceLT, Int.reduceEq, Int.reduceNe, Int.reduceNeg, Int.reduceAdd, Int.reduceSub, ↓reduceIte, reduceCtorEq, e3, e4, e2, h1, h2, visHas, List.any_cons, wrap_nat hb]
          | true => simp (maxSteps := 1000000) only [go_sem, acondK_bool, acB_merge, Nat.reduceLT, Nat.reduceLeDiff, Nat.reduceEqDiff, Nat.reduceAdd, Nat.reduceSub, Nat.reduceMul, Nat.reduceBEq, Nat.reduceBNe, Nat.reduceBneDiff, Nat.reduceBeqDiff, Int.reduceToNat, Int.reduceLE, Int.reduceLT, Int.reduceEq, Int.reduceNe, Int.reduceNeg, Int.reduceAdd, Int.reduceSub, ↓reduceIte, reduceCtorEq, e3, e4, e2, h1, h2, visHas, List.any_cons, wrap_nat hb]
  | cons x suf =>
    have e2 := ih x suf rfl
    rw [List.length_append, List.length_cons, List.length_nil] at e2
    have e3 : (p.params.map Pm.row)[pre.length]? = some [.str x.name, .int .i64 x.type] := by rw [h]; exact map_mid
    have e4 : decide ((pre.length : Int) < (p.params.length : Int)) = true := by rw [h]; simp; omega
    cases h1 : (x.name == w) with
    | false => simp (maxSteps := 1000000) only [go_sem, acondK_bool, acB_merge, Nat.reduceLT, Nat.reduceLeDiff, Nat.reduceEqDiff, Nat.reduceAdd, Nat.reduceSub, Nat.reduceMul, Nat.reduceBEq, Nat.reduceBNe, Nat.reduceBneDiff, Nat.reduceBeqDiff, Int.reduceToNat, Int.reduceLE, Int.reduceLT, Int.reduceEq, Int.reduceNe, Int.reduceNeg, Int.reduceAdd, Int.reduceSub, ↓reduceIte, reduceCtorEq, e3, e4, e2, h1, List.any_cons, wrap_nat hb]
    | true => simp (maxSteps := 1000000) only [go_sem, acondK_bool, acB_merge, Nat.reduceLT, Nat.reduceLeDiff, Nat.reduceEqDiff, Nat.reduceAdd, Nat.reduceSub, Nat.reduceMul, Nat.reduceBEq, Nat.reduceBNe, Nat.reduceBneDiff, Nat.reduceBeqDiff, Int.reduceToNat, Int.reduceLE, Int.reduceLT, Int.reduceEq, Int.reduceNe, Int.reduceNeg, Int.reduceAdd, Int.reduceSub, ↓reduceIte, reduceCtorEq, e3, e4, e2, h1, List.any_cons, wrap_nat hb]
end Go.Proofs.YtjmghomnbmbjnaaGreat
set_option linter.all false
namespace Go.Proofs.YtjmghomnbmbjnaaGreat
open Go.Abs
attribute [local congr] ite_congr
set_option maxRecDepth 10000
def renPm (a b : Bytes) (x : Pm) : Pm := ⟨renN a b x.name, x.type⟩
def renP (a b : Bytes) (p : Pr) : Pr := ⟨p.name, p.params.map (renPm a b), renSs a b p.body⟩
def zP : Pr := ⟨[], [], []⟩
theorem zP_av : Pr.av zP = .agg [.d (.str []), .d (.slice []), .d (.slice [])] := by rfl
noncomputable abbrev grP (A : AHeap) (l : List Pm) : AV × AHeap := agrow A 44 2 (l.map Pm.row)
theorem grP_append (A : AHeap) (l : List Pm) (x : Pm) (h : l.length ≤ 4194303) : aappend Tryz.prog 44 2 (grP A l).2 (grP A l).1 [x.row] = some (grP A (l ++ [x])) := by
  have := agrow_append (P := Tryz.prog) (A := A) (ty := 44) (sz := 2) (rows := l.map Pm.row) (src := [x.row]) room_44_2 (by rfl) (by simp; omega)
  rw [this]
  unfold grP
  rw [List.map_append]
  rfl
theorem afin_grownP {f : FuncId} (ho : C.own f = false) (A : AHeap) (e sz : Nat) (rows : List (List Dat)) (a c : Dat) (k : Dat) :
    afinR C f A (agrow A e sz rows).2 (some (.tuple [.agg [.d a, (agrow A e sz rows).1, .d c], .d k])) = some (.tuple [.agg [.d a, .d (.slice rows), .d c], .d k], A) := by
  simp only [afinR, Option.map_some, afinish, ho, Bool.false_eq_true, if_false]
  unfold agrow
  by_cases h1 : rows = []
  · subst h1
    simp only [if_true, acleanR, acleanVs, acleanV, acleans, aclean]
    rw [acut_same rfl]
  · simp only [if_neg h1, acleanR, acleanVs, acleanV, acleans, aclean, arows]
    simp only [List.getElem?_append_right (Nat.le_refl _), Nat.sub_self, List.getElem?_cons_zero, if_true]
    unfold acut
    simp [AHeap.freeze, AV.noptr, AV.noptr2, AV.noptr1]
    rw [List.take_modify_front]
def rnmS (p : Pr) (a b : Bytes) : Pr × Int := if valS p = 0 then (if isName b = true then (if hasN (namesS p) a = true then (if occS p b = true then (zP, 8) else (renP a b p, 0)) else (zP, 9)) else (zP, 7)) else (zP, 1)
def rnmT (p : Pr) (a b : Bytes) : Pr × Int := if valS p = 0 then (if isName b = true then (if hasN (namesS p) a = true then (if occT p b = true then (zP, 8) else (renP a b p, 0)) else (zP, 9)) else (zP, 7)) else (zP, 1)
theorem renameR (p : Pr) (hp : p.Ok) (h40 : p.params.length ≤ 40) (a b : Bytes) (hb1 : b.length ≤ 1099511627776) (A : AHeap) :
    acl C 14 [Pr.av p, .d (.str a), .d (.str b)] A = some (.tuple [Pr.av (rnmT p a b).1, .d (.int .i64 (rnmT p a b).2)], A) := by
  have v1 := validateR p hp
  have n1 := namesR p hp (by omega)
  have o1 := occursR p hp b
  have i1 := fun A => isNameR b A hb1
  rw [k_call (c := C) (f := 14) rfl Tryz.func14 rfl (ok 14 (by kernel_rfl)) rfl Tryz.ntmps14 Tryz.results14 (by simp)]
  unfold rnmT
  by_cases h1 : valS p = 0
  · have d1 : decide (valS p = 0) = true := by simp [h1]
    rw [if_pos h1]
    cases h2 : isName b with
    | false => simp (maxSteps := 1000000) only [go_sem, acondK_bool, acB_merge, Nat.reduceLT, Nat.reduceLeDiff, Nat.reduceEqDiff, Nat.reduceAdd, Nat.reduceSub, Nat.reduceMul, Nat.reduceBEq, Nat.reduceBNe, Nat.reduceBneDiff, Nat.reduceBeqDiff, Int.reduceToNat, Int.reduceLE, Int.reduceLT, Int.reduceEq, Int.reduceNe, Int.reduceNeg, Int.reduceAdd, Int.reduceSub, ↓reduceIte, reduceCtorEq, v1, d1, i1, h2, zP_av]
    | true =>
    simp (maxSteps := 1000000) only [go_sem, acondK_bool, acB_merge, Nat.reduceLT, Nat.reduceLeDiff, Nat.reduceEqDiff, Nat.reduceAdd, Nat.reduceSub, Nat.reduceMul, Nat.reduceBEq, Nat.reduceBNe, Nat.reduceBneDiff, Nat.reduceBeqDiff, Int.reduceToNat, Int.reduceLE, Int.reduceLT, Int.reduceEq, Int.reduceNe, Int.reduceNeg, Int.reduceAdd, Int.reduceSub, ↓reduceIte, reduceCtorEq, v1, d1, i1, h2, n1]
    have hnl := namesS_len p h40
    refine loop_any (fun pre => [(9, .v (.d (.bool (hasN pre a)))), (10, .v (.d (.int .i64 (pre.length : Nat)))), (1, .v (.d (.str a))), (8, .v (.d (.slice ((namesS p).map sRow)))), (3, .box [.d (.str p.name), .d (.slice (p.params.map Pm.row)), .d (.slice (p.body.map Stm.row))]), (2, .v (.d (.str b))), (6, .box [.d (.str []), .nilS, .nilS])])
      (fun _ => A) (fun _ _ => some (.tuple [Pr.av (if hasN (namesS p) a = true then (if occT p b = true then (zP, 8) else (renP a b p, 0)) else (zP, 9)).1, .d (.int .i64 (if hasN (namesS p) a = true then (if occT p b = true then (zP, 8) else (renP a b p, 0)) else (zP, 9)).2)], A)) (namesS p) rfl rfl rfl ?_
    intro pre suf hl ih
    generalize namesS p = names at *
    have hb : pre.length < 9223372036854775807 := by rw [hl] at hnl; simp at hnl; omega
    cases suf with
    | cons x suf =>
      have e2 := ih x suf rfl
      rw [List.length_append, List.length_cons, List.length_nil] at e2
      have e3 : (names.map sRow)[pre.length]? = some [.str x] := by rw [hl]; exact map_mid
      have e4 : decide ((pre.length : Int) < (names.length : Int)) = true := by rw [hl]; simp; omega
      have e6 : hasN (pre ++ [x]) a = (hasN pre a || (x == a)) := by
        simp [hasN, Bool.beq_comm]
      rw [e6] at e2
      cases h5 : hasN pre a with
      | true =>
        rw [h5, Bool.true_or] at e2
        simp (maxSteps := 1000000) +contextual only [go_sem, acondK_bool, acB_merge, Nat.reduceLT, Nat.reduceLeDiff, Nat.reduceEqDiff, Nat.reduceAdd, Nat.reduceSub, Nat.reduceMul, Nat.reduceBEq, Nat.reduceBNe, Nat.reduceBneDiff, Nat.reduceBeqDiff, Int.reduceToNat, Int.reduceLE, Int.reduceLT, Int.reduceEq, Int.reduceNe, Int.reduceNeg, Int.reduceAdd, Int.reduceSub, ↓reduceIte, reduceCtorEq, e3, e4, h5, e2, wrap_nat hb]
      | false =>
        rw [h5, Bool.false_or] at e2
        simp (maxSteps := 1000000) +contextual only [go_sem, acondK_bool, acB_merge, Nat.reduceLT, Nat.reduceLeDiff, Nat.reduceEqDiff, Nat.reduceAdd, Nat.reduceSub, Nat.reduceMul, Nat.reduceBEq, Nat.reduceBNe, Nat.reduceBneDiff, Nat.reduceBeqDiff, Int.reduceToNat, Int.reduceLE, Int.reduceLT, Int.reduceEq, Int.reduceNe, Int.reduceNeg, Int.reduceAdd, Int.reduceSub, ↓reduceIte, reduceCtorEq, e3, e4, h5, e2, wrap_nat hb]
    | nil =>
    rw [List.append_nil] at hl
    subst hl
    cases h3 : hasN names a with
    | false => simp (maxSteps := 1000000) only [go_sem, acondK_bool, acB_merge, Nat.reduceLT, Nat.reduceLeDiff, Nat.reduceEqDiff, Nat.reduceAdd, Nat.reduceSub, Nat.reduceMul, Nat.reduceBEq, Nat.reduceBNe, Nat.reduceBneDiff, Nat.reduceBeqDiff, Int.reduceToNat, Int.reduceLE, Int.reduceLT, Int.reduceEq, Int.reduceNe, Int.reduceNeg, Int.reduceAdd, Int.reduceSub, ↓reduceIte, reduceCtorEq, h3, zP_av]
    | true =>
    cases h4 : occT p b with
    | true => simp (maxSteps := 1000000) only [go_sem, acondK_bool, acB_merge, Nat.reduceLT, Nat.reduceLeDiff, Nat.reduceEqDiff, Nat.reduceAdd, Nat.reduceSub, Nat.reduceMul, Nat.reduceBEq, Nat.reduceBNe, Nat.reduceBneDiff, Nat.reduceBeqDiff, Int.reduceToNat, Int.reduceLE, Int.reduceLT, Int.reduceEq, Int.reduceNe, Int.reduceNeg, Int.reduceAdd, Int.reduceSub, ↓reduceIte, reduceCtorEq, h3, o1, h4, zP_av]
    | false =>
    have b1 := renameBody a b p hp
    simp (maxSteps := 1000000) only [go_sem, acondK_bool, acB_merge, Nat.reduceLT, Nat.reduceLeDiff, Nat.reduceEqDiff, Nat.reduceAdd, Nat.reduceSub, Nat.reduceMul, Nat.reduceBEq, Nat.reduceBNe, Nat.reduceBneDiff, Nat.reduceBeqDiff, Int.reduceToNat, Int.reduceLE, Int.reduceLT, Int.reduceEq, Int.reduceNe, Int.reduceNeg, Int.reduceAdd, Int.reduceSub, ↓reduceIte, reduceCtorEq, h3, o1, h4, k_drawn_t]
    simp (maxSteps := 1000000) only [go_sem, acondK_bool, acB_merge, Nat.reduceLT, Nat.reduceLeDiff, Nat.reduceEqDiff, Nat.reduceAdd, Nat.reduceSub, Nat.reduceMul, Nat.reduceBEq, Nat.reduceBNe, Nat.reduceBneDiff, Nat.reduceBeqDiff, Int.reduceToNat, Int.reduceLE, Int.reduceLT, Int.reduceEq, Int.reduceNe, Int.reduceNeg, Int.reduceAdd, Int.reduceSub, ↓reduceIte, reduceCtorEq, b1]
    refine Eq.trans (ctE_ok (by repeat (first | exact MLe.nil | apply MLe.qq | apply MLe.q | apply MLe.o | apply MLe.b | apply MLe.l)) (by kernel_rfl)) ?_
    simp (maxSteps := 1000000) only [go_sem, acondK_bool, acB_merge, Nat.reduceLT, Nat.reduceLeDiff, Nat.reduceEqDiff, Nat.reduceAdd, Nat.reduceSub, Nat.reduceMul, Nat.reduceBEq, Nat.reduceBNe, Nat.reduceBneDiff, Nat.reduceBeqDiff, Int.reduceToNat, Int.reduceLE, Int.reduceLT, Int.reduceEq, Int.reduceNe, Int.reduceNeg, Int.reduceAdd, Int.reduceSub, ↓reduceIte, reduceCtorEq]
    refine loop_any (fun pre => [(12, .v (.d (.int .i64 (pre.length : Nat)))), (11, .box [.d (.str p.name), (grP A (pre.map (renPm a b))).1, .d (.slice ((renSs a b p.body).map Stm.row))]), (3, .box [.d (.str p.name), .d (.slice (p.params.map Pm.row)), .d (.slice (p.body.map Stm.row))]), (2, .v (.d (.str b))), (1, .v (.d (.str a))),
        (6, .box [.d (.str []), .nilS, .nilS])])
      (fun pre => (grP A (pre.map (renPm a b))).2) (fun _ _ => some (.tuple [Pr.av (renP a b p), .d (.int .i64 0)], A)) p.params rfl rfl rfl ?_
    intro pre suf hl ih
    have hb : pre.length < 9223372036854775807 := by rw [hl] at h40; simp at h40; omega
    cases suf with
    | nil =>
      rw [List.append_nil] at hl
      subst hl
      have hf := afin_grownP (f := 14) rfl A 44 2 ((p.params.map (renPm a b)).map Pm.row) (.str p.name) (.slice ((renSs a b p.body).map Stm.row)) (.int .i64 0)
      simp (maxSteps := 1000000) only [go_sem, acondK_bool, acB_merge, Nat.reduceLT, Nat.reduceLeDiff, Nat.reduceEqDiff, Nat.reduceAdd, Nat.reduceSub, Nat.reduceMul, Nat.reduceBEq, Nat.reduceBNe, Nat.reduceBneDiff, Nat.reduceBeqDiff, Int.reduceToNat, Int.reduceLE, Int.reduceLT, Int.reduceEq, Int.reduceNe, Int.reduceNeg, Int.reduceAdd, Int.reduceSub, ↓reduceIte, reduceCtorEq, one_grow, cells_grow, hf, renP]
    | cons x suf =>
      have e2 := ih x suf rfl
      rw [List.length_append, List.length_cons, List.length_nil, List.map_append, List.map_cons, List.map_nil] at e2
      have e3 : (p.params.map Pm.row)[pre.length]? = some [.str x.name, .int .i64 x.type] := by rw [hl]; exact map_mid
      have e4 : decide ((pre.length : Int) < (p.params.length : Int)) = true := by rw [hl]; simp; omega
      have e5 := grP_append A (pre.map (renPm a b)) (renPm a b x) (by rw [hl] at h40; simp at h40 ⊢; omega)
      simp only [Pm.row, renPm] at e5
      simp (maxSteps := 1000000) +contextual only [go_sem, acondK_bool, acB_merge, Nat.reduceLT, Nat.reduceLeDiff, Nat.reduceEqDiff, Nat.reduceAdd, Nat.reduceSub, Nat.reduceMul, Nat.reduceBEq, Nat.reduceBNe, Nat.reduceBneDiff, Nat.reduceBeqDiff, Int.reduceToNat, Int.reduceLE, Int.reduceLT, Int.reduceEq, Int.reduceNe, Int.reduceNeg, Int.reduceAdd, Int.reduceSub, ↓reduceIte, reduceCtorEq, e3, e4, k_drawn_t]
      simp (maxSteps := 1000000) +contextual only [go_sem, acondK_bool, acB_merge, Nat.reduceLT, Nat.reduceLeDiff, Nat.reduceEqDiff, Nat.reduceAdd, Nat.reduceSub, Nat.reduceMul, Nat.reduceBEq, Nat.reduceBNe, Nat.reduceBneDiff, Nat.reduceBeqDiff, Int.reduceToNat, Int.reduceLE, Int.reduceLT, Int.reduceEq, Int.reduceNe, Int.reduceNeg, Int.reduceAdd, Int.reduceSub, ↓reduceIte, reduceCtorEq, e5, one_grow, cells_grow]
      refine Eq.trans (ctE_ok (by repeat (first | exact MLe.nil | apply MLe.q | apply MLe.o | apply MLe.b | apply MLe.l)) (by kernel_rfl)) ?_
      simp only [renPm] at e2
      simp (maxSteps := 1000000) +contextual only [go_sem, acondK_bool, acB_merge, Nat.reduceLT, Nat.reduceLeDiff, Nat.reduceEqDiff, Nat.reduceAdd, Nat.reduceSub, Nat.reduceMul, Nat.reduceBEq, Nat.reduceBNe, Nat.reduceBneDiff, Nat.reduceBeqDiff, Int.reduceToNat, Int.reduceLE, Int.reduceLT, Int.reduceEq, Int.reduceNe, Int.reduceNeg, Int.reduceAdd, Int.reduceSub, ↓reduceIte, reduceCtorEq, e2, wrap_nat hb]
  · have d1 : decide (valS p = 0) = false := by simp [h1]
    rw [if_neg h1]
    simp (maxSteps := 1000000) only [go_sem, acondK_bool, acB_merge, Nat.reduceLT, Nat.reduceLeDiff, Nat.reduceEqDiff, Nat.reduceAdd, Nat.reduceSub, Nat.reduceMul, Nat.reduceBEq, Nat.reduceBNe, Nat.reduceBneDiff, Nat.reduceBeqDiff, Int.reduceToNat, Int.reduceLE, Int.reduceLT, Int.reduceEq, Int.reduceNe, Int.reduceNeg, Int.reduceAdd, Int.reduceSub, ↓reduceIte, reduceCtorEq, v1, d1, zP_av]
end Go.Proofs.YtjmghomnbmbjnaaGreat
set_option linter.all false
namespace Go.Proofs.YtjmghomnbmbjnaaGreat
open Go.Abs
theorem prmF_zero : ∀ (l pre : List Pm), prmF pre l = 0 → (∀ x ∈ l, isName x.name = true ∧ 1 ≤ x.type ∧ x.type ≤ 3) ∧ (∀ x ∈ l, ∀ y ∈ pre, y.name ≠ x.name) ∧ (l.map Pm.name).Nodup
  | [], pre, _ => by simp
  | x :: l, pre, h => by
    unfold prmF at h
    split at h
    · cases h
    rename_i h1
    split at h
    · cases h
    rename_i h2
    split at h
    · cases h
    rename_i h3
    obtain ⟨k1, k2, k3⟩ := prmF_zero l (pre ++ [x]) h
    simp at h1 h2 h3
    refine ⟨fun y hy => ?_, fun y hy z hz => ?_, ?_⟩
    · rcases List.mem_cons.1 hy with rfl | hy
      · exact ⟨h1, by omega, by omega⟩
      · exact k1 y hy
    · rcases List.mem_cons.1 hy with rfl | hy
      · exact h3 z hz
      · exact k2 y hy z (List.mem_append_left _ hz)
    · rw [List.map_cons, List.nodup_cons]
      refine ⟨fun hm => ?_, k3⟩
      obtain ⟨y, hy, he⟩ := List.mem_map.1 hm
      exact k2 y hy x (List.mem_append_right _ (List.mem_cons_self ..)) he.symm
theorem prmF_of : ∀ (l pre : List Pm), (∀ x ∈ l, isName x.name = true ∧ 1 ≤ x.type ∧ x.type ≤ 3) → (∀ x ∈ l, ∀ y ∈ pre, y.name ≠ x.name) → (l.map Pm.name).Nodup → prmF pre l = 0
  | [], pre, _, _, _ => rfl
  | x :: l, pre, h1, h2, h3 => by
    unfold prmF
    obtain ⟨a1, a2, a3⟩ := h1 x (List.mem_cons_self ..)
    rw [if_neg (by simp [a1]), if_neg (by simp; omega), if_neg (by simp; exact h2 x (List.mem_cons_self ..))]
    rw [List.map_cons, List.nodup_cons] at h3
    refine prmF_of l (pre ++ [x]) (fun y hy => h1 y (List.mem_cons_of_mem _ hy)) (fun y hy z hz => ?_) h3.2
    rcases List.mem_append.1 hz with hz | hz
    · exact h2 y (List.mem_cons_of_mem _ hy) z hz
    · rw [List.mem_singleton] at hz
      subst hz
      intro e
      exact h3.1 (List.mem_map.2 ⟨y, hy, e.symm⟩)
theorem prmS_zero (l : List Pm) : prmS l = 0 ↔ l.length ≤ 6 ∧ (∀ x ∈ l, isName x.name = true ∧ 1 ≤ x.type ∧ x.type ≤ 3) ∧ (l.map Pm.name).Nodup := by
  unfold prmS
  by_cases h : l.length ≤ 6
  · rw [if_neg (by simp; omega)]
    constructor
    · intro h'
      obtain ⟨k1, _, k3⟩ := prmF_zero l [] h'
      exact ⟨h, k1, k3⟩
    · rintro ⟨_, k1, k3⟩
      exact prmF_of l [] k1 (by simp) k3
  · rw [if_pos (by simp; omega)]
    exact ⟨fun h' => (by cases h'), fun h' => absurd h'.1 h⟩
mutual
theorem any_visE (w : Bytes) : ∀ (e : E) (r : Bool), (visE e r).any (visHas w) = menE w e
  | .mk op n s args, r => by
    simp only [visE, List.any_cons, visHas, menE]
    rw [any_visEs w args]
theorem any_visEs (w : Bytes) : ∀ (l : List E), (visEs l).any (visHas w) = menE.menEs w l
  | [] => by simp [visEs, menE.menEs]
  | x :: l => by simp only [visEs, List.any_append, menE.menEs]; rw [any_visE w x false, any_visEs w l]
end
def visQ (w : Bytes) : Vis → Bool
  | .s x _ => x.name == w
  | .e x true => menE w x
  | .e _ false => false
theorem anyQ_no (w : Bytes) : ∀ (l : List Vis), (∀ v ∈ l, ∃ x, v = .e x false) → l.any (visQ w) = false
  | [], _ => rfl
  | v :: l, h => by
    obtain ⟨x, rfl⟩ := h v (List.mem_cons_self ..)
    rw [List.any_cons, anyQ_no w l fun v hv => h v (List.mem_cons_of_mem _ hv)]
    rfl
mutual
theorem visE_false : ∀ (e : E), ∀ v ∈ visE e false, ∃ x, v = Vis.e x false
  | .mk op n s args, v, h => by
    simp only [visE, List.mem_cons] at h
    rcases h with h | h
    · exact ⟨_, h⟩
    · exact visEs_false args v h
theorem visEs_false : ∀ (l : List E), ∀ v ∈ visEs l, ∃ x, v = Vis.e x false
  | [], v, h => by simp [visEs] at h
  | x :: l, v, h => by
    simp only [visEs, List.mem_append] at h
    rcases h with h | h
    · exact visE_false x v h
    · exact visEs_false l v h
end
theorem anyQ_visE (w : Bytes) (e : E) : (visE e true).any (visQ w) = menE w e := by
  cases e with
  | mk op n s args =>
    simp only [visE, List.any_cons, visQ]
    rw [anyQ_no w _ (visEs_false args), Bool.or_false]
mutual
theorem anyQ_S (w : Bytes) : ∀ (x : Stm) (d : Int), (visS x d).any (visHas w) = (visS x d).any (visQ w)
  | .mk op name max a b body els, d => by
    simp only [visS, List.any_cons, List.any_append]
    rw [anyQ_Ss w body, anyQ_Ss w els]
    congr 1
    congr 1
    · split
      · rfl
      · rw [any_visE, anyQ_visE]
    · congr 1
      split
      · rfl
      · rw [any_visE, anyQ_visE]
theorem anyQ_Ss (w : Bytes) : ∀ (l : List Stm) (d : Int), (visSs l d).any (visHas w) = (visSs l d).any (visQ w)
  | [], _ => by simp [visSs]
  | x :: l, d => by simp only [visSs, List.any_append]; rw [anyQ_S w x d, anyQ_Ss w l d]
end
def visO (w : Bytes) : Vis → Bool
  | .s x _ => decide (x.op = 2) && (x.name == w)
  | .e x true => menE w x
  | .e _ false => false
theorem occ_fold (w : Bytes) : ∀ (l : List Vis) (t : Bool), l.foldl (fun t v => step1 (occF w) (occR w) v t) t = (t || l.any (visO w))
  | [], t => by simp
  | .s x d :: l, t => by rw [List.foldl_cons]; refine (occ_fold w l _).trans ?_; simp only [step1, occF, List.any_cons, visO, Bool.or_assoc]
  | .e x true :: l, t => by rw [List.foldl_cons]; refine (occ_fold w l _).trans ?_; simp only [step1, occR, List.any_cons, visO, Bool.or_assoc]
  | .e x false :: l, t => by rw [List.foldl_cons]; refine (occ_fold w l _).trans ?_; simp only [step1, List.any_cons, visO, Bool.false_or]
theorem hasN_append (l m : List Bytes) (w : Bytes) : hasN (l ++ m) w = (hasN l w || hasN m w) := by simp [hasN]
theorem hasN_params (w : Bytes) : ∀ l : List Pm, hasN (l.map Pm.name) w = l.any fun x => x.name == w
  | [] => rfl
  | x :: l => by
    have := hasN_params w l
    unfold hasN at this ⊢
    rw [List.map_cons, List.any_cons, List.any_cons, this, Bool.beq_comm]
theorem uN_iff (op : Int) : uN op = true ↔ op = 1 ∨ op = 2 ∨ op = 6 := by simp [uN, or_assoc]
theorem any_names (w : Bytes) (hw : w ≠ []) : ∀ (l : List Vis), (∀ x d, Vis.s x d ∈ l → StmOk x d) → (hasN (namesV l) w || l.any (visO w)) = l.any (visQ w)
  | [], _ => by simp [namesV, hasN]
  | .e x true :: l, h => by
    have ih := any_names w hw l fun x d hm => h x d (List.mem_cons_of_mem _ hm)
    simp only [namesV, List.any_cons, visO, visQ]
    rw [← ih]
    cases hasN (namesV l) w <;> cases menE w x <;> simp
  | .e x false :: l, h => by
    have ih := any_names w hw l fun x d hm => h x d (List.mem_cons_of_mem _ hm)
    simp only [namesV, List.any_cons, visO, visQ]
    rw [← ih]
    simp
  | .s x d :: l, h => by
    have ih := any_names w hw l fun x d hm => h x d (List.mem_cons_of_mem _ hm)
    have hs := h x d (List.mem_cons_self ..)
    simp only [namesV, List.any_cons, visO, visQ]
    rw [← ih]
    by_cases hu : uN x.op = true
    · rw [uN_iff] at hu
      rcases hu with hu | hu | hu
      · rw [hu]
        simp only [decide_true, Bool.true_or, if_true]
        have : hasN (x.name :: namesV l) w = ((x.name == w) || hasN (namesV l) w) := by simp [hasN, Bool.beq_comm]
        rw [this]
        cases (x.name == w) <;> cases hasN (namesV l) w <;> simp
      · rw [hu]
        simp
        cases (x.name == w) <;> cases hasN (namesV l) w <;> simp
      · rw [hu]
        simp only [decide_true, Bool.or_true, if_true]
        have : hasN (x.name :: namesV l) w = ((x.name == w) || hasN (namesV l) w) := by simp [hasN, Bool.beq_comm]
        rw [this]
        cases (x.name == w) <;> cases hasN (namesV l) w <;> simp
    · have hu' : uN x.op = false := by simpa using hu
      have h0 := hs.nname hu'
      have h1 : (x.name == w) = false := by
        rw [h0]
        simp
        exact fun e => hw e
      have h2 : ¬ (decide (x.op = 1) || decide (x.op = 6)) = true := by
        intro hh
        apply hu
        rw [uN_iff]
        simp at hh
        omega
      rw [if_neg h2, h1]
      simp
theorem Vld.stmOk {p : Pr} (h : Vld p) : ∀ x d, Vis.s x d ∈ visSs p.body 1 → StmOk x d := fun x d hm => stmtS_zero (h.stm x d hm)
theorem occ_eq {p : Pr} (h : Vld p) {w : Bytes} (hw : w ≠ []) : occS p w = occT p w := by
  unfold occS occT
  rw [occ_fold, h.vis]
  unfold namesS paramNames
  rw [hasN_append, hasN_params, Bool.or_assoc, h.vis, any_names w hw _ h.stmOk, ← anyQ_Ss]
theorem namesV_ok : ∀ (l : List Vis), (∀ x d, Vis.s x d ∈ l → StmOk x d) → ∀ s ∈ namesV l, isName s = true
  | [], _, s, hs => by simp [namesV] at hs
  | .e x r :: l, h, s, hs => namesV_ok l (fun x d hm => h x d (List.mem_cons_of_mem _ hm)) s hs
  | .s x d :: l, h, s, hs => by
    have ih := namesV_ok l fun x d hm => h x d (List.mem_cons_of_mem _ hm)
    simp only [namesV] at hs
    split at hs
    · rename_i ho
      rcases List.mem_cons.1 hs with rfl | hs
      · exact (h x d (List.mem_cons_self ..)).name (by rw [uN_iff]; simp at ho; omega)
      · exact ih s hs
    · exact ih s hs
theorem Vld.names {p : Pr} (h : Vld p) : ∀ s ∈ namesS p, isName s = true := by
  intro s hs
  unfold namesS paramNames at hs
  rcases List.mem_append.1 hs with hs | hs
  · obtain ⟨x, hx, rfl⟩ := List.mem_map.1 hs
    exact (((prmS_zero _).1 h.prm).2.1 x hx).1
  · rw [h.vis] at hs
    exact namesV_ok _ h.stmOk s hs
theorem hasN_mem {l : List Bytes} {w : Bytes} : hasN l w = true ↔ w ∈ l := by
  unfold hasN
  rw [List.any_eq_true]
  constructor
  · rintro ⟨x, hx, h⟩
    rw [beq_iff_eq] at h
    rw [h]; exact hx
  · intro h
    exact ⟨w, h, by simp⟩
theorem Vld.isName {p : Pr} (h : Vld p) {a : Bytes} (ha : hasN (namesS p) a = true) : isName a = true := h.names a (hasN_mem.1 ha)
theorem isName_ne {s : Bytes} (h : isName s = true) : s ≠ [] := by rintro rfl; simp [Go.Proofs.YtjmghomnbmbjnaaGreat.isName] at h
theorem rnm_eq (p : Pr) (a b : Bytes) : rnmS p a b = rnmT p a b := by
  unfold rnmS rnmT
  split
  · rename_i hv
    split
    · rename_i hb
      rw [occ_eq ((valS_zero p).1 hv) (isName_ne hb)]
    · rfl
  · rfl
end Go.Proofs.YtjmghomnbmbjnaaGreat
set_option linter.all false
namespace Go.Proofs.YtjmghomnbmbjnaaGreat
open Go.Abs
attribute [local congr] ite_congr
set_option maxRecDepth 10000
theorem renN_len {a b s : Bytes} {N : Nat} (hb : b.length ≤ N) (hs : s.length ≤ N) : (renN a b s).length ≤ N := by
  unfold renN; split <;> assumption
theorem renE_ok {a b : Bytes} (hb : b.length ≤ 1099511627776) : ∀ e : E, E.Ok e → E.Ok (renE a b e) := by
  intro e
  induction e using E.ind with
  | h op n s args ih =>
    intro h
    rw [renE, renEs_map]
    refine .mk _ _ _ _ h.op h.n ?_ (by simpa using h.len) (by simpa using h.fit) ?_
    · split
      · exact renN_len hb h.s
      · exact h.s
    · intro x hx
      obtain ⟨y, hy, rfl⟩ := List.mem_map.1 hx
      exact ih y hy (h.arg y hy)
theorem renS_ok {a b : Bytes} (hb : b.length ≤ 1099511627776) : ∀ x : Stm, x.Ok → (renS a b x).Ok := by
  intro x
  induction x using Stm.ind with
  | h op name max u v body els ihb ihe =>
    intro h
    rw [renS, renSs_map, renSs_map]
    cases h with
    | mk _ _ _ _ _ _ _ ho hm hn ha hb' h1 h2 h5 h6 h3 h4 =>
    refine .mk _ _ _ _ _ _ _ ho hm (renN_len hb hn) (renE_ok hb _ ha) (renE_ok hb _ hb') (by simpa using h1) (by simpa using h2) (by simpa using h5) (by simpa using h6) ?_ ?_
    · intro x hx
      obtain ⟨y, hy, rfl⟩ := List.mem_map.1 hx
      exact ihb y hy (h3 y hy)
    · intro x hx
      obtain ⟨y, hy, rfl⟩ := List.mem_map.1 hx
      exact ihe y hy (h4 y hy)
theorem renP_ok {a b : Bytes} (hb : b.length ≤ 1099511627776) (p : Pr) (h : p.Ok) : (renP a b p).Ok where
  name := h.name
  plen := by simpa [renP] using h.plen
  params := by
    intro x hx
    obtain ⟨y, hy, rfl⟩ := List.mem_map.1 hx
    exact ⟨renN_len hb (h.params y hy).name, (h.params y hy).type⟩
  blen := by simpa [renP, renSs_map] using h.blen
  body := by
    intro x hx
    simp only [renP, renSs_map] at hx
    obtain ⟨y, hy, rfl⟩ := List.mem_map.1 hx
    exact renS_ok hb y (h.body y hy)
  pfit := by simpa [renP] using h.pfit
  bfit := by simpa [renP, renSs_map] using h.bfit
end Go.Proofs.YtjmghomnbmbjnaaGreat
set_option linter.all false
namespace Go.Proofs.YtjmghomnbmbjnaaGreat
open Go.Abs
attribute [local congr] ite_congr
set_option maxRecDepth 10000
def renV (a b : Bytes) : Vis → Vis
  | .s x d => .s (renS a b x) d
  | .e x r => .e (renE a b x) r
mutual
theorem visE_ren (a b : Bytes) : ∀ (e : E) (r : Bool), visE (renE a b e) r = (visE e r).map (renV a b)
  | .mk op n s args, r => by
    simp only [renE, visE, List.map_cons, renV]
    rw [visEs_ren a b args]
theorem visEs_ren (a b : Bytes) : ∀ (l : List E), visEs (renEs a b l) = (visEs l).map (renV a b)
  | [] => by simp [renEs, visEs]
  | x :: l => by simp only [renEs, visEs, List.map_append]; rw [visE_ren a b x false, visEs_ren a b l]
end
theorem renEs_len (a b : Bytes) (l : List E) : (renEs a b l).length = l.length := by rw [renEs_map]; simp
theorem renSs_len (a b : Bytes) (l : List Stm) : (renSs a b l).length = l.length := by rw [renSs_map]; simp
theorem absE_ren (a b : Bytes) (e : E) : absE (renE a b e) = absE e := by
  cases e with
  | mk op n s args =>
    simp only [absE, absentS, renE, E.op, E.n, E.s, E.args, renEs_len]
    by_cases h : op = 3
    · subst h; simp
    · have : decide (op = 3) = false := by simp [h]
      simp only [this, Bool.false_eq_true, if_false]
      first | done | rfl | congr
mutual
theorem visS_ren (a b : Bytes) : ∀ (x : Stm) (d : Int), visS (renS a b x) d = (visS x d).map (renV a b)
  | .mk op name max u v body els, d => by
    simp only [renS, visS, List.map_cons, List.map_append, absE_ren]
    rw [visSs_ren a b body, visSs_ren a b els]
    simp only [renV, renS]
    congr 1
    congr 1
    · split
      · rfl
      · rw [visE_ren]
    · congr 1
      split
      · rfl
      · rw [visE_ren]
theorem visSs_ren (a b : Bytes) : ∀ (l : List Stm) (d : Int), visSs (renSs a b l) d = (visSs l d).map (renV a b)
  | [], _ => by simp [renSs, visSs]
  | x :: l, d => by simp only [renSs, visSs, List.map_append]; rw [visS_ren a b x d, visSs_ren a b l d]
end
section
variable {a b : Bytes} (ha : isName a = true) (hb : isName b = true)
include ha hb
theorem isName_ren (s : Bytes) : isName (renN a b s) = isName s := by
  unfold renN
  split
  · rename_i h
    rw [beq_iff_eq] at h
    rw [h, ha, hb]
  · rfl
theorem renN_nilI (s : Bytes) : (renN a b s == []) = (s == []) := by
  unfold renN
  split
  · rename_i h
    rw [beq_iff_eq] at h
    rw [h]
    have h1 := isName_ne ha
    have h2 := isName_ne hb
    cases a <;> cases b <;> simp_all
  · rfl
theorem nodeS_ren (op n : Int) (s : Bytes) (len : Nat) (d : Int) : nodeS op n (if decide (op = 3) = true then renN a b s else s) len d = nodeS op n s len d := by
  by_cases h : op = 3
  · subst h
    simp only [nodeS, decide_true, if_true, isName_ren ha hb]
    simp
  · simp [h]
mutual
theorem chkE_ren : ∀ (e : E) (d : Int), chkE (renE a b e) d = chkE e d
  | .mk op n s args, d => by
    simp only [renE, chkE, renEs_len, nodeS_ren ha hb]
    rw [chkL_ren args]
theorem chkL_ren : ∀ (l : List E) (d : Int), chkL (renEs a b l) d = chkL l d
  | [], _ => by simp [renEs, chkL]
  | x :: l, d => by simp only [renEs, chkL]; rw [chkE_ren x d, chkL_ren l d]
end
theorem stmtS_ren (x : Stm) (d : Int) : stmtS (renS a b x) d = stmtS x d := by
  cases x with
  | mk op name max u v body els =>
    simp only [renS, stmtS, badF, maxOk, Stm.op, Stm.name, Stm.max, Stm.a, Stm.b, Stm.body, Stm.els, absE_ren, renSs_len, isName_ren ha hb, renN_nilI ha hb, chkE_ren ha hb]
    first | done | rfl | congr
theorem renN_inj {s t : Bytes} (hs : s ≠ b) (ht : t ≠ b) (h : renN a b s = renN a b t) : s = t := by
  unfold renN at h
  split at h <;> rename_i h1 <;> split at h <;> rename_i h2
  · rw [beq_iff_eq] at h1 h2; rw [h1, h2]
  · exact absurd h.symm ht
  · exact absurd h hs
  · exact h
theorem vld_ren {p : Pr} (V : Vld p) (ho : occT p b = false) : Vld (renP a b p) where
  name := V.name
  prm := by
    rw [prmS_zero]
    obtain ⟨h1, h2, h3⟩ := (prmS_zero _).1 V.prm
    unfold occT at ho
    rw [Bool.or_eq_false_iff] at ho
    have hn : ∀ x ∈ p.params, x.name ≠ b := by
      intro x hx e
      have := List.any_eq_false.1 ho.1 x hx
      simp [e] at this
    refine ⟨by simpa [renP] using h1, ?_, ?_⟩
    · intro x hx
      obtain ⟨y, hy, rfl⟩ := List.mem_map.1 hx
      obtain ⟨k1, k2, k3⟩ := h2 y hy
      exact ⟨by simp only [renPm]; rw [isName_ren ha hb]; exact k1, k2, k3⟩
    · simp only [renP, List.map_map]
      have : (Pm.name ∘ renPm a b) = (renN a b ∘ Pm.name) := rfl
      rw [this, ← List.map_map]
      revert hn
      generalize p.params = l at *
      intro hn
      clear h1 h2 ho
      induction l with
      | nil => simp
      | cons x l ih =>
        rw [List.map_cons, List.nodup_cons] at h3
        rw [List.map_cons, List.map_cons, List.nodup_cons]
        refine ⟨fun hm => ?_, ih h3.2 fun y hy => hn y (List.mem_cons_of_mem _ hy)⟩
        obtain ⟨s, hs, he⟩ := List.mem_map.1 hm
        obtain ⟨y, hy, rfl⟩ := List.mem_map.1 hs
        have := renN_inj ha hb (hn y (List.mem_cons_of_mem _ hy)) (hn x (List.mem_cons_self ..)) he
        exact h3.1 (this ▸ List.mem_map.2 ⟨y, hy, rfl⟩)
  stm := by
    intro x d hm
    simp only [renP] at hm
    rw [visSs_ren] at hm
    obtain ⟨v, hv, he⟩ := List.mem_map.1 hm
    cases v with
    | s y k =>
      simp only [renV] at he
      injection he with h1 h2
      subst h1; subst h2
      rw [stmtS_ren ha hb]
      exact V.stm y k hv
    | e y r => simp only [renV] at he; cases he
  len := by
    simp only [renP]
    rw [visSs_ren, List.length_map]
    exact V.len
end
theorem visP_ren (a b : Bytes) (p : Pr) : visP (renP a b p) = (visP p).map (renV a b) := by
  unfold visP renP
  simp only [visSs_ren, List.map_take]
theorem namesV_ren (a b : Bytes) : ∀ l : List Vis, namesV (l.map (renV a b)) = (namesV l).map (renN a b)
  | [] => rfl
  | .s x d :: l => by
    have ih := namesV_ren a b l
    cases x with
    | mk op name max u v body els =>
      simp only [List.map_cons, renV, namesV, renS, Stm.op, Stm.name]
      split
      · rw [List.map_cons, ih]
      · exact ih
  | .e x r :: l => by simp only [List.map_cons, renV, namesV]; exact namesV_ren a b l
theorem namesS_ren (a b : Bytes) (p : Pr) : namesS (renP a b p) = (namesS p).map (renN a b) := by
  unfold namesS paramNames
  rw [visP_ren, namesV_ren, List.map_append, renP, List.map_map, List.map_map]
  rfl
theorem renN_back {a b s : Bytes} (hs : (s == b) = false) : renN b a (renN a b s) = s := by
  unfold renN
  by_cases h : (s == a) = true
  · rw [if_pos h]
    simp
    rw [beq_iff_eq] at h
    exact h.symm
  · rw [if_neg h, if_neg (by simp [hs])]
mutual
theorem renE_back {a b : Bytes} : ∀ e : E, menE b e = false → renE b a (renE a b e) = e
  | .mk op n s args, h => by
    rw [menE, Bool.or_eq_false_iff] at h
    simp only [renE]
    rw [renEs_back args h.2]
    by_cases h3 : op = 3
    · subst h3
      simp only [decide_true, Bool.true_and] at h
      simp only [decide_true, if_true, renN_back h.1]
    · simp [h3]
theorem renEs_back {a b : Bytes} : ∀ l : List E, menE.menEs b l = false → renEs b a (renEs a b l) = l
  | [], _ => rfl
  | x :: l, h => by
    rw [menE.menEs, Bool.or_eq_false_iff] at h
    simp only [renEs]
    rw [renE_back x h.1, renEs_back l h.2]
end
theorem renE_abs {a b : Bytes} (e : E) (h : absE e = true) : renE a b e = e := by
  cases e with
  | mk op n s args =>
    simp only [absE, absentS, E.op, E.n, E.s, E.args, Bool.and_eq_true, decide_eq_true_eq] at h
    obtain ⟨⟨⟨h1, _⟩, _⟩, h4⟩ := h
    subst h1
    have : args = [] := by cases args with | nil => rfl | cons _ _ => simp at h4; omega
    subst this
    simp [renE, renEs]
theorem renE_vis {a b : Bytes} (e : E) (h : (if absE e = true then [] else visE e true).any (visHas b) = false) : renE b a (renE a b e) = e := by
  by_cases ha : absE e = true
  · rw [renE_abs (a := a) (b := b) e ha, renE_abs e ha]
  · rw [if_neg ha, any_visE] at h
    exact renE_back e h
mutual
theorem renS_back {a b : Bytes} : ∀ (x : Stm) (d : Int), (visS x d).any (visHas b) = false → renS b a (renS a b x) = x
  | .mk op name max u v body els, d, h => by
    simp only [visS, List.any_cons, List.any_append, Bool.or_eq_false_iff, visHas] at h
    obtain ⟨h1, h2, h3, h4, h5⟩ := h
    simp only [renS]
    rw [renN_back h1, renE_vis u h2, renE_vis v h3, renSs_back body _ h4, renSs_back els _ h5]
theorem renSs_back {a b : Bytes} : ∀ (l : List Stm) (d : Int), (visSs l d).any (visHas b) = false → renSs b a (renSs a b l) = l
  | [], _, _ => rfl
  | x :: l, d, h => by
    simp only [visSs, List.any_append, Bool.or_eq_false_iff] at h
    simp only [renSs]
    rw [renS_back x d h.1, renSs_back l d h.2]
end
theorem rnm_cases (p : Pr) (a b : Bytes) : (rnmS p a b = (zP, (rnmS p a b).2) ∧ (rnmS p a b).2 ≠ 0) ∨ (rnmS p a b = (renP a b p, 0) ∧ Vld p ∧ isName b = true ∧ hasN (namesS p) a = true ∧ occS p b = false) := by
  unfold rnmS
  split
  · rename_i hv
    split
    · rename_i hb
      split
      · rename_i ha
        split
        · left; exact ⟨rfl, by decide⟩
        · rename_i ho
          right
          exact ⟨rfl, (valS_zero p).1 hv, hb, ha, by simpa using ho⟩
      · left; exact ⟨rfl, by decide⟩
    · left; exact ⟨rfl, by decide⟩
  · left; exact ⟨rfl, by decide⟩
end Go.Proofs.YtjmghomnbmbjnaaGreat
set_option linter.all false
namespace Go.Proofs.YtjmghomnbmbjnaaGreat
open Go.Abs
theorem menE_abs {w : Bytes} {e : E} (h : absE e = true) : menE w e = false := by
  cases e with
  | mk op n s args =>
    simp only [absE, absentS, Bool.and_eq_true, decide_eq_true_eq] at h
    obtain ⟨⟨⟨h1, _⟩, _⟩, h4⟩ := h
    have : args = [] := by cases args with | nil => rfl | cons _ _ => simp at h4; omega
    subst this
    simp [menE, menE.menEs, h1]
theorem menE_vis {w : Bytes} {e : E} (h : (if absE e = true then [] else visE e true).any (visHas w) = false) : menE w e = false := by
  by_cases ha : absE e = true
  · exact menE_abs ha
  · rw [if_neg ha, any_visE] at h
    exact h
theorem free_S {w : Bytes} {op : Int} {name : Bytes} {max : Int} {x y : E} {body els : List Stm} {d : Int} (h : (visS (.mk op name max x y body els) d).any (visHas w) = false) :
    name ≠ w ∧ menE w x = false ∧ menE w y = false ∧ (visSs body (IntKind.i64.wrap (d + 1))).any (visHas w) = false ∧ (visSs els (IntKind.i64.wrap (d + 1))).any (visHas w) = false := by
  simp only [visS, List.any_cons, List.any_append, Bool.or_eq_false_iff] at h
  obtain ⟨h1, h2, h3, h4, h5⟩ := h
  refine ⟨?_, menE_vis h2, menE_vis h3, h4, h5⟩
  intro e
  simp [visHas, Stm.name, e] at h1
section
variable {a b : Bytes} (ha : isName a = true) (hb : isName b = true)
include ha hb
theorem renN_beq {s t : Bytes} (hs : s ≠ b) (ht : t ≠ b) : (renN a b s == renN a b t) = (s == t) := by
  by_cases h : s = t
  · subst h; simp
  · have h1 : (s == t) = false := by simpa using h
    rw [h1]
    have : renN a b s ≠ renN a b t := fun e => h (renN_inj ha hb hs ht e)
    simpa using this
theorem getP_ren : ∀ (l : List Pm) (k : Bytes), (∀ x ∈ l, x.name ≠ b) → k ≠ b → getP (l.map (renPm a b)) (renN a b k) = getP l k
  | [], k, _, _ => rfl
  | x :: l, k, hl, hk => by
    simp only [List.map_cons, getP, renPm]
    rw [renN_beq ha hb (hl x (List.mem_cons_self ..)) hk, getP_ren l k (fun y hy => hl y (List.mem_cons_of_mem _ hy)) hk]
mutual
theorem ofE_ren {l : List Pm} (hl : ∀ x ∈ l, x.name ≠ b) : ∀ e : E, menE b e = false → ofE (getP (l.map (renPm a b))) (renE a b e) = ofE (getP l) e
  | .mk op n s args, h => by
    simp only [menE, Bool.or_eq_false_iff] at h
    simp only [renE, ofE]
    by_cases h3 : op = 3
    · subst h3
      have hs : s ≠ b := by simpa using h.1
      simp only [decide_true, if_true]
      rw [getP_ren ha hb l s hl hs]
    · rw [if_neg (by simpa using h3), if_neg (by simpa using h3)]
      exact ofL_ren hl op [] args h.2
theorem ofL_ren {l : List Pm} (hl : ∀ x ∈ l, x.name ≠ b) (op : Int) : ∀ (ts : List Int) (m : List E), menE.menEs b m = false → ofL (getP (l.map (renPm a b))) op ts (renEs a b m) = ofL (getP l) op ts m
  | ts, [], h => rfl
  | ts, x :: m, h => by
    simp only [menE.menEs, Bool.or_eq_false_iff] at h
    simp only [renEs, ofL]
    rw [ofE_ren hl x h.1]
    split
    · exact ofL_ren hl op _ m h.2
    · rfl
end
theorem ofS_ren {l : List Pm} (hl : ∀ x ∈ l, x.name ≠ b) (e : E) (h : menE b e = false) : ofS (renE a b e) (l.map (renPm a b)) = ofS e l := by
  unfold ofS
  rw [chkE_ren ha hb, ofE_ren ha hb hl e h]
theorem opsS_ren {l : List Pm} (hl : ∀ x ∈ l, x.name ≠ b) (x : Stm) (h1 : menE b x.a = false) (h2 : menE b x.b = false) : opsS (getP (l.map (renPm a b))) (renS a b x) = opsS (getP l) x := by
  cases x with
  | mk op name max u v body els =>
    simp only [Stm.a, Stm.b] at h1 h2
    show opsS _ (.mk op (renN a b name) max (renE a b u) (renE a b v) (renSs a b body) (renSs a b els)) = _
    unfold opsS
    simp only [Stm.a, Stm.b]
    rw [ofE_ren ha hb hl u h1, ofE_ren ha hb hl v h2]
theorem any_ren {w : Bytes} (hw : w ≠ b) : ∀ (l : List Bytes), (∀ k ∈ l, k ≠ b) → (l.map (renN a b)).any (fun j => j == renN a b w) = l.any (fun j => j == w)
  | [], _ => rfl
  | x :: l, h => by
    simp only [List.map_cons, List.any_cons]
    rw [renN_beq ha hb (h x (List.mem_cons_self ..)) hw, any_ren hw l (fun k hk => h k (List.mem_cons_of_mem _ hk))]
theorem asgS_ren {vars : List Pm} {loops : List Bytes} (hl : ∀ x ∈ vars, x.name ≠ b) (hk : ∀ k ∈ loops, k ≠ b) {w : Bytes} (hw : w ≠ b) (t : Int) : asgS (vars.map (renPm a b)) (loops.map (renN a b)) (renN a b w) t = asgS vars loops w t := by
  unfold asgS
  rw [getP_ren ha hb vars w hl hw, any_ren ha hb hw loops hk]
mutual
theorem stR_ren : ∀ (x : Stm) (d : Int) (vars : List Pm) (loops : List Bytes), (∀ y ∈ vars, y.name ≠ b) → (∀ k ∈ loops, k ≠ b) → (visS x d).any (visHas b) = false → stR (vars.map (renPm a b)) (loops.map (renN a b)) (renS a b x) = stR vars loops x
  | .mk op name max x y body els, d, vars, loops, hl, hk, h => by
    obtain ⟨h1, h2, h3, h4, h5⟩ := free_S h
    have o := opsS_ren ha hb hl (.mk op name max x y body els) h2 h3
    have g := fun t => asgS_ren ha hb hl hk h1 t
    have b1 := bdR_ren body _ vars loops hl hk h4
    have b2 := bdR_ren els _ vars loops hl hk h5
    have b3 := bdR_ren body _ (vars ++ [⟨name, 1⟩]) (loops ++ [name]) (by
      intro z hz
      rcases List.mem_append.1 hz with hz | hz
      · exact hl z hz
      · simp at hz; subst hz; exact h1) (by
      intro z hz
      rcases List.mem_append.1 hz with hz | hz
      · exact hk z hz
      · simp at hz; subst hz; exact h1) h4
    rw [List.map_append, List.map_append, List.map_cons, List.map_cons, List.map_nil, List.map_nil] at b3
    simp only [renS] at o ⊢
    rw [stR, stR, o, g]
    have e1 : renPm a b ⟨name, 1⟩ = ⟨renN a b name, 1⟩ := rfl
    rw [e1] at b3
    rw [b1, b2, b3]
theorem bdR_ren : ∀ (l : List Stm) (d : Int) (vars : List Pm) (loops : List Bytes), (∀ y ∈ vars, y.name ≠ b) → (∀ k ∈ loops, k ≠ b) → (visSs l d).any (visHas b) = false → bdR (vars.map (renPm a b)) (loops.map (renN a b)) (renSs a b l) = bdR vars loops l
  | [], d, vars, loops, hl, hk, h => by simp only [renSs]; rw [bdR_nil, bdR_nil]
  | x :: l, d, vars, loops, hl, hk, h => by
    simp only [visSs, List.any_append, Bool.or_eq_false_iff] at h
    simp only [renSs]
    rw [bdR_cons, bdR_cons, stR_ren x d vars loops hl hk h.1]
    cases x with
    | mk op name max u v body els =>
    obtain ⟨h1, h2, h3, h4, h5⟩ := free_S h.1
    have o := opsS_ren ha hb hl (.mk op name max u v body els) h2 h3
    rw [o]
    have key : (if decide ((renS a b (.mk op name max u v body els)).op = 1) = true then vars.map (renPm a b) ++ [⟨(renS a b (.mk op name max u v body els)).name, (opsS (getP vars) (.mk op name max u v body els)).1⟩] else vars.map (renPm a b)) =
        (if decide ((Stm.mk op name max u v body els).op = 1) = true then vars ++ [⟨(Stm.mk op name max u v body els).name, (opsS (getP vars) (.mk op name max u v body els)).1⟩] else vars).map (renPm a b) := by
      show (if decide (op = 1) = true then vars.map (renPm a b) ++ [⟨renN a b name, (opsS (getP vars) (.mk op name max u v body els)).1⟩] else vars.map (renPm a b)) = (if decide (op = 1) = true then vars ++ [⟨name, (opsS (getP vars) (.mk op name max u v body els)).1⟩] else vars).map (renPm a b)
      split
      · rw [List.map_append]; rfl
      · rfl
    rw [key]
    rw [bdR_ren l d _ loops (by
      intro z hz
      split at hz
      · rcases List.mem_append.1 hz with hz | hz
        · exact hl z hz
        · simp only [List.mem_singleton] at hz
          subst hz
          exact h1
      · exact hl z hz) hk h.2]
end
theorem rvF_ren {T : List Pm} (hT : ∀ x ∈ T, x.name ≠ b) (v : Vis) (hv : (∀ x d, v = .s x d → menE b x.a = false)) : rvF (T.map (renPm a b)) (renV a b v) = (rvF T v).map (renPm a b) := by
  cases v with
  | e x r => rfl
  | s x d =>
    have h := hv x d rfl
    cases x with
    | mk op name max u w body els =>
      simp only [Stm.a] at h
      simp only [renV, rvF, renS, Stm.op, Stm.name, Stm.a]
      rw [ofS_ren ha hb hT u h]
      split
      · rw [List.map_append]; rfl
      · split
        · rw [List.map_append]; rfl
        · rfl
theorem rvF_free {T : List Pm} (hT : ∀ x ∈ T, x.name ≠ b) (v : Vis) (hv : visHas b v = false) : ∀ x ∈ rvF T v, x.name ≠ b := by
  cases v with
  | e x r => exact hT
  | s x d =>
    have hn : x.name ≠ b := by intro e; simp [visHas, e] at hv
    intro y hy
    simp only [rvF] at hy
    split at hy
    · rcases List.mem_append.1 hy with hy | hy
      · exact hT y hy
      · simp at hy; subst hy; exact hn
    · split at hy
      · rcases List.mem_append.1 hy with hy | hy
        · exact hT y hy
        · simp at hy; subst hy; exact hn
      · exact hT y hy
theorem fold_ren : ∀ (l : List Vis) (T : List Pm), (∀ x ∈ T, x.name ≠ b) → l.any (visHas b) = false → (∀ x d, Vis.s x d ∈ l → menE b x.a = false) → (l.map (renV a b)).foldl rvF (T.map (renPm a b)) = (l.foldl rvF T).map (renPm a b)
  | [], T, _, _, _ => rfl
  | v :: l, T, hT, hl, hm => by
    rw [List.any_cons, Bool.or_eq_false_iff] at hl
    rw [List.map_cons, List.foldl_cons, List.foldl_cons, rvF_ren ha hb hT v (fun x d hv => hm x d (by rw [hv]; exact List.mem_cons_self ..))]
    exact fold_ren l _ (rvF_free ha hb hT v hl.1) hl.2 (fun x d hv => hm x d (List.mem_cons_of_mem _ hv))
theorem dupR_ren : ∀ (l pre : List Bytes), (∀ k ∈ l, k ≠ b) → (∀ k ∈ pre, k ≠ b) → dupR (pre.map (renN a b)) (l.map (renN a b)) = dupR pre l
  | [], pre, _, _ => rfl
  | x :: l, pre, hl, hp => by
    have hx := hl x (List.mem_cons_self ..)
    rw [List.map_cons, dupR, dupR, any_ren ha hb hx pre hp]
    have := dupR_ren l (pre ++ [x]) (fun k hk => hl k (List.mem_cons_of_mem _ hk)) (by
      intro k hk
      rcases List.mem_append.1 hk with hk | hk
      · exact hp k hk
      · simp at hk; subst hk; exact hx)
    rw [List.map_append, List.map_cons, List.map_nil] at this
    rw [this]
theorem prm_free {p : Pr} (ho : occT p b = false) : ∀ x ∈ p.params, x.name ≠ b := by
  unfold occT at ho
  rw [Bool.or_eq_false_iff] at ho
  intro x hx e
  have := List.any_eq_false.1 ho.1 x hx
  simp [e] at this
omit ha hb in
theorem namesV_has {w : Bytes} : ∀ (l : List Vis), l.any (visHas w) = false → ∀ k ∈ namesV l, k ≠ w
  | [], _, k, hk => by simp [namesV] at hk
  | .e x r :: l, h, k, hk => by
    rw [List.any_cons, Bool.or_eq_false_iff] at h
    exact namesV_has l h.2 k (by simpa [namesV] using hk)
  | .s x d :: l, h, k, hk => by
    rw [List.any_cons, Bool.or_eq_false_iff] at h
    simp only [namesV] at hk
    split at hk
    · rcases List.mem_cons.1 hk with rfl | hk
      · intro e; simp [visHas, e] at h
      · exact namesV_has l h.2 k hk
    · exact namesV_has l h.2 k hk
omit ha hb in
mutual
theorem free_in {w : Bytes} : ∀ (x : Stm) (d : Int), (visS x d).any (visHas w) = false → ∀ y k, Vis.s y k ∈ visS x d → menE w y.a = false ∧ menE w y.b = false ∧ y.name ≠ w
  | .mk op name max u v body els, d, h, y, k, hy => by
    obtain ⟨h1, h2, h3, h4, h5⟩ := free_S h
    simp only [visS, List.mem_cons, List.mem_append] at hy
    rcases hy with hy | hy | hy | hy | hy
    · simp only [Vis.s.injEq] at hy
      obtain ⟨rfl, _⟩ := hy
      exact ⟨h2, h3, h1⟩
    · obtain ⟨z, r, hz⟩ := visA_all u _ hy
      cases hz
    · obtain ⟨z, r, hz⟩ := visA_all v _ hy
      cases hz
    · exact free_ins body _ h4 y k hy
    · exact free_ins els _ h5 y k hy
theorem free_ins {w : Bytes} : ∀ (l : List Stm) (d : Int), (visSs l d).any (visHas w) = false → ∀ y k, Vis.s y k ∈ visSs l d → menE w y.a = false ∧ menE w y.b = false ∧ y.name ≠ w
  | [], d, h, y, k, hy => by simp [visSs] at hy
  | x :: l, d, h, y, k, hy => by
    simp only [visSs, List.any_append, Bool.or_eq_false_iff] at h
    simp only [visSs, List.mem_append] at hy
    rcases hy with hy | hy
    · exact free_in x d h.1 y k hy
    · exact free_ins l d h.2 y k hy
end
theorem chkS_ren {p : Pr} (V : Vld p) (ho : occT p b = false) : chkS (renP a b p) = chkS p ∧ allV (renP a b p) = (allV p).map (renPm a b) := by
  have hf := prm_free ha hb ho
  have hv : (visSs p.body 1).any (visHas b) = false := by
    unfold occT at ho
    rw [Bool.or_eq_false_iff, V.vis] at ho
    exact ho.2
  have V' := vld_ren ha hb V ho
  have v0 : valS p = 0 := (valS_zero p).2 V
  have v1 : valS (renP a b p) = 0 := (valS_zero _).2 V'
  have hb2 : prmBool (renP a b p).params = prmBool p.params := by
    unfold prmBool renP
    simp only [List.any_map]
    rfl
  have hnm : ∀ k ∈ namesS p, k ≠ b := by
    unfold namesS paramNames
    rw [V.vis]
    intro k hk
    rcases List.mem_append.1 hk with hk | hk
    · obtain ⟨x, hx, rfl⟩ := List.mem_map.1 hk
      exact hf x hx
    · exact namesV_has _ hv k hk
  have hd := dupR_ren ha hb (namesS p) [] hnm (by simp)
  rw [← namesS_ren] at hd
  have hbd := bdR_ren ha hb p.body 1 p.params [] hf (by simp) hv
  refine ⟨?_, ?_⟩
  · rw [chk_eq, chk_eq]
    unfold chkT
    rw [v0, v1, hb2]
    have hd' : dupR [] (namesS (renP a b p)) = dupR [] (namesS p) := hd
    rw [hd']
    have hbd' : bdR (renP a b p).params [] (renP a b p).body = bdR p.params [] p.body := hbd
    rw [hbd']
  · unfold allV
    show (visSs (renSs a b p.body) 1).foldl rvF (p.params.map (renPm a b)) = _
    rw [visSs_ren]
    exact fold_ren ha hb _ _ hf hv (fun x d hx => (free_ins p.body 1 hv x d hx).1)
end
end Go.Proofs.YtjmghomnbmbjnaaGreat
