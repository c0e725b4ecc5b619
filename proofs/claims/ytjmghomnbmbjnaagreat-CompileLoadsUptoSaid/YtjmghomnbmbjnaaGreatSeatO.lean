/- The variables of a procedure with their types, on both sides: the law. -/
import Derived.Test.YtjmghomnbmbjnaaGreatSeatH
set_option linter.unusedVariables false
set_option linter.unusedSimpArgs false
set_option linter.all false
set_option linter.deprecated false
set_option linter.all false
namespace Go.Proofs.YtjmghomnbmbjnaaGreat
open Go.Abs
attribute [local congr] ite_congr
set_option maxRecDepth 10000
theorem getP_self : ∀ (l : List Pm), (l.map Pm.name).Nodup → ∀ x ∈ l, getP l x.name = some x.type
  | [], _, x, h => by simp at h
  | y :: l, hn, x, h => by
    rw [List.map_cons, List.nodup_cons] at hn
    simp only [getP]
    rcases List.mem_cons.1 h with rfl | h
    · simp
    · rw [if_neg]
      · exact getP_self l hn.2 x h
      · intro e
        have : y.name = x.name := by simpa using e
        exact hn.1 (this ▸ List.mem_map.2 ⟨x, h, rfl⟩)
def varsS (p : Pr) : List Pm := if decide (chkS p = 0) = true then allV p else []
theorem allV_names {p : Pr} (V : Vld p) : (allV p).map Pm.name = namesS p := by
  unfold allV namesS paramNames
  rw [rvF_names, V.vis]
theorem chk_zero {p : Pr} (h : chkS p = 0) : Vld p ∧ prmBool p.params = false ∧ dupR [] (namesS p) = false ∧ preErr p = 0 ∧ (ckB p).1 = 0 := by
  unfold chkS at h
  by_cases h0 : preErr p = 0
  · rw [if_pos (by simpa using h0)] at h
    have h1 := h0
    unfold preErr at h1
    by_cases hv : valS p = 0
    · rw [if_pos (by simpa using hv)] at h1
      split at h1
      · cases h1
      · rename_i hb
        split at h1
        · cases h1
        · rename_i hd
          have hdup : dupF [] (namesS p) = dupR [] (namesS p) := dup_eq (namesS p) []
          exact ⟨(valS_zero p).1 hv, by simpa using hb, by rw [← hdup]; simpa using hd, h0, h⟩
    · rw [if_neg (by simpa using hv)] at h1
      exact absurd h1 hv
  · rw [if_neg (by simpa using h0)] at h
    exact absurd h h0
theorem afin_vars {f : FuncId} (ho : C.own f = false) {A : AHeap} {R : List AObj} {s : CkS} {l : List Pm} : afinR C f A (grQ (ckH A.objs R A.bufs s) l).2 (some (grQ (ckH A.objs R A.bufs s) l).1) = some (.d (.slice (l.map Pm.row)), A) := by
  have h1 := afin_growY (f := f) ho A 44 2 (l.map Pm.row) (.map (mi s.vis) :: .map (mb s.loops) :: .map (mi s.all) :: .cells [.mapr A.objs.length, .mapr (A.objs.length + 1), .mapr (A.objs.length + 2)] :: R)
  have h2 : (grQ (ckH A.objs R A.bufs s) l).1 = (agrow A 44 2 (l.map Pm.row)).1 := grow_fst rfl
  have h3 : (grQ (ckH A.objs R A.bufs s) l).2 = ⟨A.objs ++ (.map (mi s.vis) :: .map (mb s.loops) :: .map (mi s.all) :: .cells [.mapr A.objs.length, .mapr (A.objs.length + 1), .mapr (A.objs.length + 2)] :: R), (agrow A 44 2 (l.map Pm.row)).2.bufs⟩ := (grow_heap (A := A)).symm
  rw [h2, h3]
  exact h1
set_option maxHeartbeats 1000000 in
theorem varsOf (p : Pr) (hp : p.Ok) (h40 : p.params.length ≤ 40) (A : AHeap) : acl C 24 [Pr.av p] A = some (.d (.slice ((varsS p).map Pm.row)), A) := by
  obtain ⟨c1, c2⟩ := check_all p hp h40 A
  rw [k_call (c := C) (f := 24) rfl Tryz.func24 rfl (ok 24 (by kernel_rfl)) rfl Tryz.ntmps24 Tryz.results24 (by simp)]
  unfold varsS
  by_cases hc : chkS p = 0
  · obtain ⟨V, hb, hd, h0, hk⟩ := chk_zero hc
    have L := (ck_link V hd).2 hk
    rw [if_pos (by simpa using hc)]
    have hnd : ((allV p).map Pm.name).Nodup := by rw [allV_names V]; exact ((dupR_false _ _).1 hd).1
    have n1 := names p hp (by omega)
    rw [← allV_names V] at n1
    have hlen : (allV p).length ≤ 441 := by
      have := namesS_len p h40
      rw [← allV_names V] at this
      simpa using this
    have c3 := c2 h0
    rw [hk] at c3
    have hall : ∀ x ∈ allV p, (ckB p).2.all.get x.name = some x.type := fun x hx => by rw [L.l4]; exact getP_self _ hnd x hx
    generalize allV p = T at *
    generalize (ckB p).2 = s at *
    simp (maxSteps := 1000000) only [go_sem, acondK_bool, acB_merge, Nat.reduceLT, Nat.reduceLeDiff, Nat.reduceEqDiff, Nat.reduceAdd, Nat.reduceSub, Nat.reduceMul, Nat.reduceBEq, Nat.reduceBNe, Nat.reduceBneDiff, Nat.reduceBeqDiff, Int.reduceToNat, Int.reduceLE, Int.reduceLT, Int.reduceEq, Int.reduceNe, Int.reduceNeg, Int.reduceAdd, Int.reduceSub, ↓reduceIte, reduceCtorEq, c3, n1]
    refine loop_any (fun pre => [(5, .v (grQ (ckH A.objs [.map (mb (metL [] (namesS p)))] A.bufs s) pre).1), (18, .v (.d (.int .i64 (pre.length : Nat)))), (3, .v (.mapr (A.objs.length + 2))), (16, .v (.d (.slice ((T.map Pm.name).map sRow)))), (17, .v (.d (.int .i64 (T.length : Nat))))])
      (fun pre => (grQ (ckH A.objs [.map (mb (metL [] (namesS p)))] A.bufs s) pre).2) (fun _ _ => some (.d (.slice (T.map Pm.row)), A)) T (by simp; rfl) rfl rfl ?_
    intro pre suf hl ih
    have hb2 : pre.length < 9223372036854775807 := by rw [hl] at hlen; simp at hlen; omega
    cases suf with
    | nil =>
      rw [List.append_nil] at hl
      subst hl
      have fv := afin_vars (f := 24) rfl (A := A) (R := [.map (mb (metL [] (namesS p)))]) (s := s) (l := T)
      simp (maxSteps := 1000000) only [go_sem, acondK_bool, acB_merge, Nat.reduceLT, Nat.reduceLeDiff, Nat.reduceEqDiff, Nat.reduceAdd, Nat.reduceSub, Nat.reduceMul, Nat.reduceBEq, Nat.reduceBNe, Nat.reduceBneDiff, Nat.reduceBeqDiff, Int.reduceToNat, Int.reduceLE, Int.reduceLT, Int.reduceEq, Int.reduceNe, Int.reduceNeg, Int.reduceAdd, Int.reduceSub, ↓reduceIte, reduceCtorEq, fv]
    | cons x suf =>
      have hx := hall x (by rw [hl]; simp)
      have e2 := ih x suf rfl
      rw [List.length_append, List.length_cons, List.length_nil] at e2
      have e3 : ((T.map Pm.name).map sRow)[pre.length]? = some [.str x.name] := by rw [hl, List.map_map]; exact map_mid
      have e4 : decide ((pre.length : Int) < (T.length : Int)) = true := by rw [hl]; simp; omega
      have e5 := grQ_append (ckH A.objs [.map (mb (metL [] (namesS p)))] A.bufs s) pre x (by rw [hl] at hlen; simp at hlen; omega)
      have e6 : (grQ (ckH A.objs [.map (mb (metL [] (namesS p)))] A.bufs s) pre).2.objs[A.objs.length + 2]? = some (.map (mi s.all)) := by rw [growObjs]; exact ck_all
      have hf := afind_mi x.name s.all
      rw [hx, Option.map_some] at hf
      simp (maxSteps := 1000000) only [go_sem, acondK_bool, acB_merge, Nat.reduceLT, Nat.reduceLeDiff, Nat.reduceEqDiff, Nat.reduceAdd, Nat.reduceSub, Nat.reduceMul, Nat.reduceBEq, Nat.reduceBNe, Nat.reduceBneDiff, Nat.reduceBeqDiff, Int.reduceToNat, Int.reduceLE, Int.reduceLT, Int.reduceEq, Int.reduceNe, Int.reduceNeg, Int.reduceAdd, Int.reduceSub, ↓reduceIte, reduceCtorEq, e3, e4, e6, hf, e5, e2, wrap_nat hb2]
  · rw [if_neg (by simpa using hc)]
    unfold chkS at hc
    by_cases h0 : preErr p = 0
    · rw [if_pos (by simpa using h0)] at hc
      have d1 : decide ((ckB p).1 = 0) = false := by simp [hc]
      have fe := fun R s => afin_early (f := 24) (A := A) (R := R) (s := s) (v := .nilS) rfl rfl
      simp (maxSteps := 1000000) only [go_sem, acondK_bool, acB_merge, Nat.reduceLT, Nat.reduceLeDiff, Nat.reduceEqDiff, Nat.reduceAdd, Nat.reduceSub, Nat.reduceMul, Nat.reduceBEq, Nat.reduceBNe, Nat.reduceBneDiff, Nat.reduceBeqDiff, Int.reduceToNat, Int.reduceLE, Int.reduceLT, Int.reduceEq, Int.reduceNe, Int.reduceNeg, Int.reduceAdd, Int.reduceSub, ↓reduceIte, reduceCtorEq, c2 h0, d1]
      rw [fe]
      rfl
    · have d1 : decide (preErr p = 0) = false := by simp [h0]
      simp (maxSteps := 1000000) only [go_sem, acondK_bool, acB_merge, Nat.reduceLT, Nat.reduceLeDiff, Nat.reduceEqDiff, Nat.reduceAdd, Nat.reduceSub, Nat.reduceMul, Nat.reduceBEq, Nat.reduceBNe, Nat.reduceBneDiff, Nat.reduceBeqDiff, Int.reduceToNat, Int.reduceLE, Int.reduceLT, Int.reduceEq, Int.reduceNe, Int.reduceNeg, Int.reduceAdd, Int.reduceSub, ↓reduceIte, reduceCtorEq, c1 h0, d1]
def rvG (st : List Pm × Nat) : Vis → List Pm × Nat
  | .s x _ => if decide (x.op = 1) = true then (st.1 ++ [⟨x.name, (ofS x.a st.1).1⟩], st.1.length) else if decide (x.op = 6) = true then (st.1 ++ [⟨x.name, 1⟩], st.2) else st
  | .e _ _ => st
theorem rvG_fst (st : List Pm × Nat) (v : Vis) : (rvG st v).1 = rvF st.1 v := by
  cases v with
  | s x d =>
    simp only [rvG, rvF]
    split
    · rfl
    · split <;> rfl
  | e x r => rfl
theorem rvG_fold : ∀ (l : List Vis) (st : List Pm × Nat), (l.foldl rvG st).1 = l.foldl rvF st.1
  | [], st => rfl
  | v :: l, st => by rw [List.foldl_cons, List.foldl_cons, rvG_fold l, rvG_fst]
theorem rvG_inv (v : Vis) (st : List Pm × Nat) (h : st.1 = [] → st.2 = 0) : (rvG st v).1 = [] → (rvG st v).2 = 0 := by
  cases v with
  | s x d =>
    simp only [rvG]
    split
    · simp
    · split
      · simp
      · exact h
  | e x r => exact h
theorem rvG_invF : ∀ (l : List Vis) (st : List Pm × Nat), (st.1 = [] → st.2 = 0) → ((l.foldl rvG st).1 = [] → (l.foldl rvG st).2 = 0)
  | [], st, h => h
  | v :: l, st, h => by rw [List.foldl_cons]; exact rvG_invF l _ (rvG_inv v st h)
theorem rvG_len (v : Vis) (st : List Pm × Nat) : (rvG st v).1.length ≤ st.1.length + 1 := by
  cases v with
  | s x d =>
    simp only [rvG]
    split
    · simp
    · split
      · simp
      · omega
  | e x r => simp [rvG]
theorem rvG_lenF : ∀ (l : List Vis) (st : List Pm × Nat), (l.foldl rvG st).1.length ≤ st.1.length + l.length
  | [], st => by simp
  | v :: l, st => by
    have h1 := rvG_len v st
    have h2 := rvG_lenF l (rvG st v)
    rw [List.foldl_cons, List.length_cons]
    omega
noncomputable abbrev grG (A : AHeap) (st : List Pm × Nat) : AV × AHeap := grF A 44 2 (st.1.map Pm.row) st.2
theorem grG_append (A : AHeap) (st : List Pm × Nat) (x : Pm) (h : st.1.length ≤ 4194303) (hi : st.1 = [] → st.2 = 0) : aappend Tryz.prog 44 2 (grG A st).2 (grG A st).1 [[.str x.name, .int .i64 x.type]] = some (grG A (st.1 ++ [x], st.2)) := by
  have := grF_append (A := A) (e := 44) (sz := 2) (fr := st.2) (rows := st.1.map Pm.row) (src := [x.row]) room_44_2 (by rfl) (by simp; omega) (fun hr => hi (by simpa using hr))
  unfold grG
  rw [List.map_append]
  exact this
theorem grF_out {f : FuncId} (ho : C.own f = false) (A : AHeap) (e sz : Nat) (rows : List (List Dat)) (fr : Nat) : afinR C f A (grF A e sz rows fr).2 (some (grF A e sz rows fr).1) = some (.d (.slice rows), A) := by
  simp only [afinR, Option.map_some, afinish, ho, Bool.false_eq_true, if_false]
  unfold grF
  by_cases h1 : rows = []
  · subst h1
    simp only [if_true, acleanR, acleanV, aclean]
    rw [acut_same rfl]
  · simp only [if_neg h1, acleanR, acleanV, aclean, arows]
    simp only [List.getElem?_append_right (Nat.le_refl _), Nat.sub_self, List.getElem?_cons_zero, if_true]
    unfold acut
    simp [AHeap.freeze, AV.noptr, AV.noptr2, AV.noptr1]
    rw [List.take_modify_front]
end Go.Proofs.YtjmghomnbmbjnaaGreat
set_option linter.all false
namespace Go.Proofs.YtjmghomnbmbjnaaGreat
open Go.Abs
attribute [local congr] ite_congr
set_option maxRecDepth 10000
theorem visP_okP (p : Pr) (hp : p.Ok) : ∀ x d, Vis.s x d ∈ visP p → x.Ok := fun x d hm => visP_ok p hp _ hm
set_option maxHeartbeats 1000000 in
theorem varsR (p : Pr) (hp : p.Ok) (h40 : p.params.length ≤ 40) (A : AHeap) : acl C 15 [Pr.av p] A = some (.d (.slice ((varsS p).map Pm.row)), A) := by
  have c1 := checkR p hp h40
  rw [← chk_eq] at c1
  rw [k_call (c := C) (f := 15) rfl Tryz.func15 rfl (ok 15 (by kernel_rfl)) rfl Tryz.ntmps15 Tryz.results15 (by simp)]
  unfold varsS
  cases hc : decide (chkS p = 0) with
  | false => simp (maxSteps := 1000000) only [go_sem, acondK_bool, acB_merge, Nat.reduceLT, Nat.reduceLeDiff, Nat.reduceEqDiff, Nat.reduceAdd, Nat.reduceSub, Nat.reduceMul, Nat.reduceBEq, Nat.reduceBNe, Nat.reduceBneDiff, Nat.reduceBeqDiff, Int.reduceToNat, Int.reduceLE, Int.reduceLT, Int.reduceEq, Int.reduceNe, Int.reduceNeg, Int.reduceAdd, Int.reduceSub, ↓reduceIte, reduceCtorEq, c1, hc]
  | true =>
  obtain ⟨V, hb, hd, h0, hk⟩ := chk_zero (by simpa using hc : chkS p = 0)
  have a1 := grF_append (A := A) (e := 44) (sz := 2) (fr := 0) (rows := []) (src := p.params.map Pm.row) room_44_2 (grQ_all p.params) (by simp; omega) (fun _ => rfl)
  rw [grF_nil, List.nil_append] at a1
  have fo := fun rows fr => grF_out (f := 15) rfl A 44 2 rows fr
  have key : allV p = ((visP p).foldl rvG (p.params, 0)).1 := by rw [rvG_fold, V.vis]; rfl
  simp only [if_true]
  rw [key]
  simp (maxSteps := 1000000) only [go_sem, acondK_bool, acB_merge, Nat.reduceLT, Nat.reduceLeDiff, Nat.reduceEqDiff, Nat.reduceAdd, Nat.reduceSub, Nat.reduceMul, Nat.reduceBEq, Nat.reduceBNe, Nat.reduceBneDiff, Nat.reduceBeqDiff, Int.reduceToNat, Int.reduceLE, Int.reduceLT, Int.reduceEq, Int.reduceNe, Int.reduceNeg, Int.reduceAdd, Int.reduceSub, ↓reduceIte, reduceCtorEq, c1, hc, a1, walkR p hp]
  have hvl := visP_len p
  have hvo := visP_okP p hp
  generalize visP p = vs at *
  refine loop_any (fun pre => [(5, .v (.d (.int .i64 (pre.length : Nat)))), (4, .v (.d (.slice (vs.map Vis.row)))), (3, .v (grG A (pre.foldl rvG (p.params, 0))).1)])
    (fun pre => (grG A (pre.foldl rvG (p.params, 0))).2) (fun _ _ => some (.d (.slice ((vs.foldl rvG (p.params, 0)).1.map Pm.row)), A)) vs rfl rfl rfl ?_
  intro pre suf hl ih
  have hb2 : pre.length < 9223372036854775807 := by rw [hl] at hvl; simp at hvl; omega
  cases suf with
  | nil =>
    rw [List.append_nil] at hl
    subst hl
    simp (maxSteps := 1000000) only [go_sem, acondK_bool, acB_merge, Nat.reduceLT, Nat.reduceLeDiff, Nat.reduceEqDiff, Nat.reduceAdd, Nat.reduceSub, Nat.reduceMul, Nat.reduceBEq, Nat.reduceBNe, Nat.reduceBneDiff, Nat.reduceBeqDiff, Int.reduceToNat, Int.reduceLE, Int.reduceLT, Int.reduceEq, Int.reduceNe, Int.reduceNeg, Int.reduceAdd, Int.reduceSub, ↓reduceIte, reduceCtorEq, fo]
  | cons v suf =>
    have e2 := ih v suf rfl
    rw [List.length_append, List.length_cons, List.length_nil, List.foldl_append, List.foldl_cons, List.foldl_nil] at e2
    have e3 : (vs.map Vis.row)[pre.length]? = some (Vis.row v) := by rw [hl]; exact map_mid
    have e4 : decide ((pre.length : Int) < (vs.length : Int)) = true := by rw [hl]; simp; omega
    have hin := rvG_invF pre (p.params, 0) (fun _ => rfl)
    have hle := rvG_lenF pre (p.params, 0)
    simp only at hle
    have hpl : pre.length ≤ 401 := by rw [hl] at hvl; simp at hvl; omega
    have hxo : ∀ x d, v = .s x d → x.Ok := fun x d hv => hvo x d (by rw [hl, ← hv]; simp)
    generalize pre.foldl rvG (p.params, 0) = st at *
    match v with
    | .e y r =>
      simp only [Vis.row] at e3
      simp only [rvG] at e2
      simp (maxSteps := 1000000) only [go_sem, acondK_bool, acB_merge, Nat.reduceLT, Nat.reduceLeDiff, Nat.reduceEqDiff, Nat.reduceAdd, Nat.reduceSub, Nat.reduceMul, Nat.reduceBEq, Nat.reduceBNe, Nat.reduceBneDiff, Nat.reduceBeqDiff, Int.reduceToNat, Int.reduceLE, Int.reduceLT, Int.reduceEq, Int.reduceNe, Int.reduceNeg, Int.reduceAdd, Int.reduceSub, ↓reduceIte, reduceCtorEq, e3, e4, e2, wrap_nat hb2]
    | .s x d =>
      simp only [Vis.row] at e3
      have hx := hxo x d rfl
      cases h1 : decide (x.op = 1) with
      | true =>
        have h6 : decide (x.op = 6) = false := by simp at h1 ⊢; omega
        simp only [rvG, h1, if_true] at e2
        have k1 := grF_call (f := 40) rfl Tryz.func40 rfl (ok 40 (by kernel_rfl)) (by rw [Tryz.ntmps40]; decide) rfl A 44 2 (st.1.map Pm.row) st.2 (E.av x.a) (av_clean x.a)
        rw [typesOfR x.a (Stm.Ok.a hx) st.1 (by omega)] at k1
        have e5 := grG_append A (st.1, st.1.length) ⟨x.name, (ofS x.a st.1).1⟩ (by simp only; omega) (by simp only; intro h; rw [h]; rfl)
        simp only [List.length_map] at k1
        have e6 : (grG A (st.1, st.1.length)).1 = (grG A st).1 := grF_fst ..
        rw [e6] at e5
        simp (maxSteps := 1000000) only [go_sem, acondK_bool, acB_merge, Nat.reduceLT, Nat.reduceLeDiff, Nat.reduceEqDiff, Nat.reduceAdd, Nat.reduceSub, Nat.reduceMul, Nat.reduceBEq, Nat.reduceBNe, Nat.reduceBneDiff, Nat.reduceBeqDiff, Int.reduceToNat, Int.reduceLE, Int.reduceLT, Int.reduceEq, Int.reduceNe, Int.reduceNeg, Int.reduceAdd, Int.reduceSub, ↓reduceIte, reduceCtorEq, e3, e4, h1, h6, k1, e5, e2, wrap_nat hb2]
      | false =>
        cases h6 : decide (x.op = 6) with
        | true =>
          simp only [rvG, h1, h6, Bool.false_eq_true, if_false, if_true] at e2
          have e5 := grG_append A st ⟨x.name, 1⟩ (by omega) hin
          simp (maxSteps := 1000000) only [go_sem, acondK_bool, acB_merge, Nat.reduceLT, Nat.reduceLeDiff, Nat.reduceEqDiff, Nat.reduceAdd, Nat.reduceSub, Nat.reduceMul, Nat.reduceBEq, Nat.reduceBNe, Nat.reduceBneDiff, Nat.reduceBeqDiff, Int.reduceToNat, Int.reduceLE, Int.reduceLT, Int.reduceEq, Int.reduceNe, Int.reduceNeg, Int.reduceAdd, Int.reduceSub, ↓reduceIte, reduceCtorEq, e3, e4, h1, h6, e5, e2, wrap_nat hb2]
        | false =>
          simp only [rvG, h1, h6, Bool.false_eq_true, if_false] at e2
          simp (maxSteps := 1000000) only [go_sem, acondK_bool, acB_merge, Nat.reduceLT, Nat.reduceLeDiff, Nat.reduceEqDiff, Nat.reduceAdd, Nat.reduceSub, Nat.reduceMul, Nat.reduceBEq, Nat.reduceBNe, Nat.reduceBneDiff, Nat.reduceBeqDiff, Int.reduceToNat, Int.reduceLE, Int.reduceLT, Int.reduceEq, Int.reduceNe, Int.reduceNeg, Int.reduceAdd, Int.reduceSub, ↓reduceIte, reduceCtorEq, e3, e4, h1, h6, e2, wrap_nat hb2]
end Go.Proofs.YtjmghomnbmbjnaaGreat
