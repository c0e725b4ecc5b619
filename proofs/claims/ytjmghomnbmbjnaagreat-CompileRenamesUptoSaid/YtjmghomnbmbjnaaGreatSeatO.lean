/- The variables of a procedure with their types, on both sides: the law. -/
import Derived.Test.YtjmghomnbmbjnaaGreatSeatH
set_option linter.unusedVariables false
set_option linter.unusedSimpArgs false
set_option linter.all false
set_option linter.deprecated false
set_option linter.all false
namespace Go.Proofs.YtjmghomnbmbjnaaGreat
open Go.Abs
attribute [local congr] ite_congr
set_option maxRecDepth 10000
theorem getP_self : ∀ (l : List Pm), (l.map Pm.name).Nodup → ∀ x ∈ l, getP l x.name = some x.type
  | [], _, x, h => by simp at h
  | y :: l, hn, x, h => by
    rw [List.map_cons, List.nodup_cons] at hn
    simp only [getP]
    rcases List.mem_cons.1 h with rfl | h
    · simp
    · rw [if_neg]
      · exact getP_self l hn.2 x h
      · intro e
        have : y.name = x.name := by simpa using e
        exact hn.1 (this ▸ List.mem_map.2 ⟨x, h, rfl⟩)
def varsS (p : Pr) : List Pm := if decide (chkS p = 0) = true then allV p else []
theorem allV_names {p : Pr} (V : Vld p) : (allV p).map Pm.name = namesS p := by
  unfold allV namesS paramNames
  rw [rvF_names, V.vis]
theorem chk_zero {p : Pr} (h : chkS p = 0) : Vld p ∧ prmBool p.params = false ∧ dupR [] (namesS p) = false ∧ preErr p = 0 ∧ (ckB p).1 = 0 := by
  unfold chkS at h
  by_cases h0 : preErr p = 0
  · rw [if_pos (by simpa using h0)] at h
    have h1 := h0
    unfold preErr at h1
    by_cases hv : valS p = 0
    · rw [if_pos (by simpa using hv)] at h1
      split at h1
      · cases h1
      · rename_i hb
        split at h1
        · cases h1
        · rename_i hd
          have hdup : dupF [] (namesS p) = dupR [] (namesS p) := dup_eq (namesS p) []
          exact ⟨(valS_zero p).1 hv, by simpa using hb, by rw [← hdup]; simpa using hd, h0, h⟩
    · rw [if_neg (by simpa using hv)] at h1
      exact absurd h1 hv
  · rw [if_neg (by simpa using h0)] at h
    exact absurd h h0
theorem afin_vars {f : FuncId} (ho : C.own f = false) {A : AHeap} {R : List AObj} {s : CkS} {l : List Pm} : afinR C f A (grQ (ckH A.objs R A.bufs s) l).2 (some (grQ (ckH A.objs R A.bufs s) l).1) = some (.d (.slice (l.map Pm.row)), A) := by
  have h1 := afin_growY (f := f) ho A 44 2 (l.map Pm.row) (.map (mi s.vis) :: .map (mb s.loops) :: .map (mi s.all) :: .cells [.mapr A.objs.length, .mapr (A.objs.length + 1), .mapr (A.objs.length + 2)] :: R)
  have h2 : (grQ (ckH A.objs R A.bufs s) l).1 = (agrow A 44 2 (l.map Pm.row)).1 := grow_fst rfl
  have h3 : (grQ (ckH A.objs R A.bufs s) l).2 = ⟨A.objs ++ (.map (mi s.vis) :: .map (mb s.loops) :: .map (mi s.all) :: .cells [.mapr A.objs.length, .mapr (A.objs.length + 1), .mapr (A.objs.length + 2)] :: R), (agrow A 44 2 (l.map Pm.row)).2.bufs⟩ := (grow_heap (A := A)).symm
  rw [h2, h3]
  exact h1
set_option maxHeartbeats 1000000 in
theorem varsOf (p : Pr) (hp : p.Ok) (h40 : p.params.length ≤ 40) (A : AHeap) : acl C 24 [Pr.av p] A = some (.d (.slice ((varsS p).map Pm.row)), A) := by
  obtain ⟨c1, c2⟩ := check_all p hp h40 A
  rw [k_call (c := C) (f := 24) rfl Tryz.func24 rfl (ok 24 (by kernel_rfl)) rfl Tryz.ntmps24 Tryz.results24 (by simp)]
  unfold varsS
  by_cases hc : chkS p = 0
  · obtain ⟨V, hb, hd, h0, hk⟩ := chk_zero hc
    have L := (ck_link V hd).2 hk
    rw [if_pos (by simpa using hc)]
    have hnd : ((allV p).map Pm.name).Nodup := by rw [allV_names V]; exact ((dupR_false _ _).1 hd).1
    have n1 := names p hp (by omega)
    rw [← allV_names V] at n1
    have hlen : (allV p).length ≤ 441 := by
      have := namesS_len p h40
      rw [← allV_names V] at this
      simpa using this
    have c3 := c2 h0
    rw [hk] at c3
    have hall : ∀ x ∈ allV p, (ckB p).2.all.get x.name = some x.type := fun x hx => by rw [L.l4]; exact getP_self _ hnd x hx
    generalize allV p = T at *
    generalize (ckB p).2 = s at *
    simp (maxSteps := 1000000) only [go_sem, acondK_bool, acB_merge, Nat.reduceLT, Nat.reduceLeDiff, Nat.reduceEqDiff, Nat.reduceAdd, Nat.reduceSub, Nat.reduceMul, Nat.reduceBEq, Nat.reduceBNe, Nat.reduceBneDiff, Nat.reduceBeqDiff, Int.reduceToNat, Int.reduceLE, Int.reduceLT, Int.reduceEq, Int.reduceNe, Int.reduceNeg, Int.reduceAdd, Int.reduceSub, ↓reduceIte, reduceCtorEq, c3, n1]
    refine loop_any (fun pre => [(5, .v (grQ (ckH A.objs [.map (mb (metL [] (namesS p)))] A.bufs s) pre).1), (18, .v (.d (.int .i64 (pre.length : Nat)))), (3, .v (.mapr (A.objs.length + 2))), (16, .v (.d (.slice ((T.map Pm.name).map sRow)))), (17, .v (.d (.int .i64 (T.length : Nat))))])
      (fun pre => (grQ (ckH A.objs [.map (mb (metL [] (namesS p)))] A.bufs s) pre).2) (fun _ _ => some (.d (.slice (T.map Pm.row)), A)) T (by simp; rfl) rfl rfl ?_
    intro pre suf hl ih
    have hb2 : pre.length < 9223372036854775807 := by rw [hl] at hlen; simp at hlen; omega
    cases suf with
    | nil =>
      rw [List.append_nil] at hl
      subst hl
      have fv := afin_vars (f := 24) rfl (A := A) (R := [.map (mb (metL [] (namesS p)))]) (s := s) (l := T)
      simp (maxSteps := 1000000) only [go_sem, acondK_bool, acB_merge, Nat.reduceLT, Nat.reduceLeDiff, Nat.reduceEqDiff, Nat.reduceAdd, Nat.reduceSub, Nat.reduceMul, Nat.reduceBEq, Nat.reduceBNe, Nat.reduceBneDiff, Nat.reduceBeqDiff, Int.reduceToNat, Int.reduceLE, Int.reduceLT, Int.reduceEq, Int.reduceNe, Int.reduceNeg, Int.reduceAdd, Int.reduceSub, ↓reduceIte, reduceCtorEq, fv]
    | cons x suf =>
      have hx := hall x (by rw [hl]; simp)
      have e2 := ih x suf rfl
      rw [List.length_append, List.length_cons, List.length_nil] at e2
      have e3 : ((T.map Pm.name).map sRow)[pre.length]? = some [.str x.name] := by rw [hl, List.map_map]; exact map_mid
      have e4 : decide ((pre.length : Int) < (T.length : Int)) = true := by rw [hl]; simp; omega
      have e5 := grQ_append (ckH A.objs [.map (mb (metL [] (namesS p)))] A.bufs s) pre x (by rw [hl] at hlen; simp at hlen; omega)
      have e6 : (grQ (ckH A.objs [.map (mb (metL [] (namesS p)))] A.bufs s) pre).2.objs[A.objs.length + 2]? = some (.map (mi s.all)) := by rw [growObjs]; exact ck_all
      have hf := afind_mi x.name s.all
      rw [hx, Option.map_some] at hf
      simp (maxSteps := 1000000) only [go_sem, acondK_bool, acB_merge, Nat.reduceLT, Nat.reduceLeDiff, Nat.reduceEqDiff, Nat.reduceAdd, Nat.reduceSub, Nat.reduceMul, Nat.reduceBEq, Nat.reduceBNe, Nat.reduceBneDiff, Nat.reduceBeqDiff, Int.reduceToNat, Int.reduceLE, Int.reduceLT, Int.reduceEq, Int.reduceNe, Int.reduceNeg, Int.reduceAdd, Int.reduceSub, ↓reduceIte, reduceCtorEq, e3, e4, e6, hf, e5, e2, wrap_nat hb2]
  · rw [if_neg (by simpa using hc)]
    unfold chkS at hc
    by_cases h0 : preErr p = 0
    · rw [if_pos (by simpa using h0)] at hc
      have d1 : decide ((ckB p).1 = 0) = false := by simp [hc]
      have fe := fun R s => afin_early (f := 24) (A := A) (R := R) (s := s) (v := .nilS) rfl rfl
      simp (maxSteps := 1000000) only [go_sem, acondK_bool, acB_merge, Nat.reduceLT, Nat.reduceLeDiff, Nat.reduceEqDiff, Nat.reduceAdd, Nat.reduceSub, Nat.reduceMul, Nat.reduceBEq, Nat.reduceBNe, Nat.reduceBneDiff, Nat.reduceBeqDiff, Int.reduceToNat, Int.reduceLE, Int.reduceLT, Int.reduceEq, Int.reduceNe, Int.reduceNeg, Int.reduceAdd, Int.reduceSub, ↓reduceIte, reduceCtorEq, c2 h0, d1]
      rw [fe]
      rfl
    · have d1 : decide (preErr p = 0) = false := by simp [h0]
      simp (maxSteps := 1000000) only [go_sem, acondK_bool, acB_merge, Nat.reduceLT, Nat.reduceLeDiff, Nat.reduceEqDiff, Nat.reduceAdd, Nat.reduceSub, Nat.reduceMul, Nat.reduceBEq, Nat.reduceBNe, Nat.reduceBneDiff, Nat.reduceBeqDiff, Int.reduceToNat, Int.reduceLE, Int.reduceLT, Int.reduceEq, Int.reduceNe, Int.reduceNeg, Int.reduceAdd, Int.reduceSub, ↓reduceIte, reduceCtorEq, c1 h0, d1]
end Go.Proofs.YtjmghomnbmbjnaaGreat
set_option linter.all false
namespace Go.Proofs.YtjmghomnbmbjnaaGreat
open Go.Abs
attribute [local congr] ite_congr
set_option maxRecDepth 10000
end Go.Proofs.YtjmghomnbmbjnaaGreat
