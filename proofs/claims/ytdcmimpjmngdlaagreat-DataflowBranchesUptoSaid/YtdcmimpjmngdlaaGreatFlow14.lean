/- The law of chapter 14: Branches. -/
import Derived.Test.YtdcmimpjmngdlaaGreatFlow12
set_option linter.unusedVariables false
set_option linter.unusedSimpArgs false
set_option linter.all false
set_option linter.deprecated false
set_option linter.all false
namespace Go.Proofs.YtdcmimpjmngdlaaGreat
open Go.Abs
attribute [local congr] ite_congr
set_option maxRecDepth 10000
theorem visP_lenB (p : Pr) : (visP p).length ≤ 401 := by unfold visP; rw [List.length_take]; omega
theorem visP_okB (p : Pr) (hp : p.Ok) : ∀ v ∈ visP p, Vis.Ok v := by
  intro v hv
  unfold visP at hv
  exact visSs_ok p.body 1 hp.body v (List.mem_of_mem_take hv)
set_option maxHeartbeats 8000000 in
theorem keysR (p : Pr) (hp : p.Ok) (h40 : p.params.length ≤ 40) (A : AHeap) : acl C 7 [Pr.av p] A = some (.d (.bool (keyD p)), A) := by
  have k1 := checkR p hp h40 A
  rw [← chk_eq] at k1
  rw [k_call (c := C) (f := 7) rfl Tryz.func7 rfl (ok 7 (by kernel_rfl)) rfl Tryz.ntmps7 Tryz.results7 (by simp)]
  cases hc : decide (chkS p = 0) with
  | false =>
    have : keyD p = false := by unfold keyD; rw [hc]; rfl
    rw [this]
    simp (maxSteps := 1000000) only [go_sem, acondK_bool, acB_merge, Nat.reduceLT, Nat.reduceLeDiff, Nat.reduceEqDiff, Nat.reduceAdd, Nat.reduceSub, Nat.reduceMul, Nat.reduceBEq, Nat.reduceBNe, Nat.reduceBneDiff, Nat.reduceBeqDiff, Int.reduceToNat, Int.reduceLE, Int.reduceLT, Int.reduceEq, Int.reduceNe, Int.reduceNeg, Int.reduceAdd, Int.reduceSub, ↓reduceIte, reduceCtorEq, k_drawn_q, k1, hc]
  | true =>
  have hc' : chkS p = 0 := by simpa using hc
  have w1 := walkR p hp A
  have a1 := allR p hp hc' A
  have hwl := visP_lenB p
  have hkn := (key_visP hc' (all_sim hc').has).1
  have hchk := vchkP hc'
  have hok := visP_okB p hp
  have yk : keyD p = (visP p).any (kvV (allS p)) := by unfold keyD; rw [hc, hkn]; rfl
  have htl : (allS p).length ≤ 4194303 := by
    have := itV_len hc' (c0S p).length
    have := namesS_len p h40
    show (itV p (c0S p).length).length ≤ _
    omega
  rw [yk]
  simp (maxSteps := 1000000) only [go_sem, acondK_bool, acB_merge, Nat.reduceLT, Nat.reduceLeDiff, Nat.reduceEqDiff, Nat.reduceAdd, Nat.reduceSub, Nat.reduceMul, Nat.reduceBEq, Nat.reduceBNe, Nat.reduceBneDiff, Nat.reduceBeqDiff, Int.reduceToNat, Int.reduceLE, Int.reduceLT, Int.reduceEq, Int.reduceNe, Int.reduceNeg, Int.reduceAdd, Int.reduceSub, ↓reduceIte, reduceCtorEq, k_drawn_q, k1, hc, w1, a1]
  generalize allS p = T at *
  generalize visP p = L at *
  have tt := fun e he A => tnER T htl e he A
  refine loop_any (fun pre => [(5, .v (.d (.int .i64 (pre.length : Nat)))), (3, .v (.d (.slice (T.map sRow)))), (4, .v (.d (.slice (L.map Vis.row))))])
    (fun _ => A) (fun _ suf => some (.d (.bool (suf.any (kvV T))), A)) L rfl rfl rfl ?_
  intro pre suf hl ih
  have hb : pre.length < 9223372036854775807 := by rw [hl] at hwl; simp at hwl; omega
  cases suf with
  | nil =>
    rw [List.append_nil] at hl
    subst hl
    have e4 : decide ((L.length : Int) < (L.length : Int)) = false := by simp
    simp (maxSteps := 1000000) only [go_sem, acondK_bool, acB_merge, Nat.reduceLT, Nat.reduceLeDiff, Nat.reduceEqDiff, Nat.reduceAdd, Nat.reduceSub, Nat.reduceMul, Nat.reduceBEq, Nat.reduceBNe, Nat.reduceBneDiff, Nat.reduceBeqDiff, Int.reduceToNat, Int.reduceLE, Int.reduceLT, Int.reduceEq, Int.reduceNe, Int.reduceNeg, Int.reduceAdd, Int.reduceSub, ↓reduceIte, reduceCtorEq, e4, List.any_nil]
  | cons v suf =>
    have e2 := ih v suf rfl
    rw [List.length_append, List.length_cons, List.length_nil] at e2
    have e3 : (L.map Vis.row)[pre.length]? = some (Vis.row v) := by rw [hl]; exact map_mid
    have e4 : decide ((pre.length : Int) < (L.length : Int)) = true := by rw [hl]; simp; omega
    have hck := hchk v (by rw [hl]; simp)
    have hvo := hok v (by rw [hl]; simp)
    rw [List.any_cons]
    match v with
    | .s x d =>
      simp only [Vis.row] at e3
      have t1 := fun A => tt x.a (Stm.Ok.a (show x.Ok from hvo)) A
      have q0 : kvV T (.s x d) = ((decide (x.op = 3) || decide (x.op = 4)) && tnE T x.a) := rfl
      rw [q0]
      cases h3 : (decide (x.op = 3) || decide (x.op = 4)) with
      | false => simp (maxSteps := 1000000) only [go_sem, acondK_bool, acB_merge, Nat.reduceLT, Nat.reduceLeDiff, Nat.reduceEqDiff, Nat.reduceAdd, Nat.reduceSub, Nat.reduceMul, Nat.reduceBEq, Nat.reduceBNe, Nat.reduceBneDiff, Nat.reduceBeqDiff, Int.reduceToNat, Int.reduceLE, Int.reduceLT, Int.reduceEq, Int.reduceNe, Int.reduceNeg, Int.reduceAdd, Int.reduceSub, ↓reduceIte, reduceCtorEq, k_drawn_q, e3, e4, h3, e2, wrap_nat hb]
      | true => cases h5 : tnE T x.a <;> simp (maxSteps := 1000000) only [go_sem, acondK_bool, acB_merge, Nat.reduceLT, Nat.reduceLeDiff, Nat.reduceEqDiff, Nat.reduceAdd, Nat.reduceSub, Nat.reduceMul, Nat.reduceBEq, Nat.reduceBNe, Nat.reduceBneDiff, Nat.reduceBeqDiff, Int.reduceToNat, Int.reduceLE, Int.reduceLT, Int.reduceEq, Int.reduceNe, Int.reduceNeg, Int.reduceAdd, Int.reduceSub, ↓reduceIte, reduceCtorEq, k_drawn_q, e3, e4, h3, t1, h5, e2, wrap_nat hb]
    | .e y r =>
      simp only [Vis.row] at e3
      have q0 : kvV T (.e y r) = (acs y.op && headT T y.args) := rfl
      rw [q0]
      have ac := fun A => accR y.op A
      cases ha : acs y.op with
      | false => simp (maxSteps := 1000000) only [go_sem, acondK_bool, acB_merge, Nat.reduceLT, Nat.reduceLeDiff, Nat.reduceEqDiff, Nat.reduceAdd, Nat.reduceSub, Nat.reduceMul, Nat.reduceBEq, Nat.reduceBNe, Nat.reduceBneDiff, Nat.reduceBeqDiff, Int.reduceToNat, Int.reduceLE, Int.reduceLT, Int.reduceEq, Int.reduceNe, Int.reduceNeg, Int.reduceAdd, Int.reduceSub, ↓reduceIte, reduceCtorEq, k_drawn_q, e3, e4, ac, ha, e2, wrap_nat hb]
      | true =>
        obtain ⟨d, hck⟩ := hck
        obtain ⟨op, n, s, args⟩ := y
        obtain ⟨z, hz⟩ := acs_one hck ha
        subst hz
        have hyo : E.Ok (.mk op n s [z]) := hvo
        have t1 := fun A => tt z (hyo.arg z (by simp)) A
        have q1 : headT T (E.mk op n s [z]).args = tnE T z := rfl
        rw [q1]
        change ∀ A, acl C _ [.d (.int .i64 op)] A = _ at ac
        have e9 : ([z].map E.row)[0]? = some [.int .i64 z.op, .int .i64 z.n, .str z.s, .slice (z.args.map E.row)] := by rw [List.map_cons, E.row_eq]; rfl
        change (L.map Vis.row)[pre.length]? = some [.bool false, .int .i64 0, .str [], .int .i64 0, .int .i64 0, .int .i64 0, .str [], .slice [], .int .i64 0, .int .i64 0, .str [], .slice [], .slice [], .slice [], .int .i64 0,
          .int .i64 op, .int .i64 n, .str s, .slice ([z].map E.row), .bool r] at e3
        change acs op = true at ha
        generalize [z].map E.row = zr at *
        cases h5 : tnE T z <;> simp (maxSteps := 1000000) only [go_sem, acondK_bool, acB_merge, Nat.reduceLT, Nat.reduceLeDiff, Nat.reduceEqDiff, Nat.reduceAdd, Nat.reduceSub, Nat.reduceMul, Nat.reduceBEq, Nat.reduceBNe, Nat.reduceBneDiff, Nat.reduceBeqDiff, Int.reduceToNat, Int.reduceLE, Int.reduceLT, Int.reduceEq, Int.reduceNe, Int.reduceNeg, Int.reduceAdd, Int.reduceSub, ↓reduceIte, reduceCtorEq, k_drawn_q, e3, e4, ac, ha, e9, t1, h5, e2, wrap_nat hb]
set_option maxHeartbeats 8000000 in
theorem controlR (p : Pr) (hp : p.Ok) (h40 : p.params.length ≤ 40) (A : AHeap) : acl C 9 [Pr.av p] A = some (.d (.bool (brnD p)), A) := by
  have k1 := checkR p hp h40 A
  rw [← chk_eq] at k1
  rw [k_call (c := C) (f := 9) rfl Tryz.func9 rfl (ok 9 (by kernel_rfl)) rfl Tryz.ntmps9 Tryz.results9 (by simp)]
  cases hc : decide (chkS p = 0) with
  | false =>
    have : brnD p = false := by unfold brnD; rw [hc]; rfl
    rw [this]
    simp (maxSteps := 1000000) only [go_sem, acondK_bool, acB_merge, Nat.reduceLT, Nat.reduceLeDiff, Nat.reduceEqDiff, Nat.reduceAdd, Nat.reduceSub, Nat.reduceMul, Nat.reduceBEq, Nat.reduceBNe, Nat.reduceBneDiff, Nat.reduceBeqDiff, Int.reduceToNat, Int.reduceLE, Int.reduceLT, Int.reduceEq, Int.reduceNe, Int.reduceNeg, Int.reduceAdd, Int.reduceSub, ↓reduceIte, reduceCtorEq, k_drawn_q, k1, hc]
  | true =>
  have hc' : chkS p = 0 := by simpa using hc
  have w1 := walkR p hp A
  have a1 := allR p hp hc' A
  have hwl := visP_lenB p
  have hkn := (key_visP hc' (all_sim hc').has).2
  have hok := visP_okB p hp
  have yk : brnD p = (visP p).any (bvV (allS p)) := by unfold brnD; rw [hc, hkn]; rfl
  have htl : (allS p).length ≤ 4194303 := by
    have := itV_len hc' (c0S p).length
    have := namesS_len p h40
    show (itV p (c0S p).length).length ≤ _
    omega
  rw [yk]
  simp (maxSteps := 1000000) only [go_sem, acondK_bool, acB_merge, Nat.reduceLT, Nat.reduceLeDiff, Nat.reduceEqDiff, Nat.reduceAdd, Nat.reduceSub, Nat.reduceMul, Nat.reduceBEq, Nat.reduceBNe, Nat.reduceBneDiff, Nat.reduceBeqDiff, Int.reduceToNat, Int.reduceLE, Int.reduceLT, Int.reduceEq, Int.reduceNe, Int.reduceNeg, Int.reduceAdd, Int.reduceSub, ↓reduceIte, reduceCtorEq, k_drawn_q, k1, hc, w1, a1]
  generalize allS p = T at *
  generalize visP p = L at *
  have tt := fun e he A => tnER T htl e he A
  refine loop_any (fun pre => [(4, .v (.d (.slice (L.map Vis.row)))), (3, .v (.d (.slice (T.map sRow)))), (5, .v (.d (.int .i64 (pre.length : Nat))))])
    (fun _ => A) (fun _ suf => some (.d (.bool (suf.any (bvV T))), A)) L rfl rfl rfl ?_
  intro pre suf hl ih
  have hb : pre.length < 9223372036854775807 := by rw [hl] at hwl; simp at hwl; omega
  cases suf with
  | nil =>
    rw [List.append_nil] at hl
    subst hl
    have e4 : decide ((L.length : Int) < (L.length : Int)) = false := by simp
    simp (maxSteps := 1000000) only [go_sem, acondK_bool, acB_merge, Nat.reduceLT, Nat.reduceLeDiff, Nat.reduceEqDiff, Nat.reduceAdd, Nat.reduceSub, Nat.reduceMul, Nat.reduceBEq, Nat.reduceBNe, Nat.reduceBneDiff, Nat.reduceBeqDiff, Int.reduceToNat, Int.reduceLE, Int.reduceLT, Int.reduceEq, Int.reduceNe, Int.reduceNeg, Int.reduceAdd, Int.reduceSub, ↓reduceIte, reduceCtorEq, e4, List.any_nil]
  | cons v suf =>
    have e2 := ih v suf rfl
    rw [List.length_append, List.length_cons, List.length_nil] at e2
    have e3 : (L.map Vis.row)[pre.length]? = some (Vis.row v) := by rw [hl]; exact map_mid
    have e4 : decide ((pre.length : Int) < (L.length : Int)) = true := by rw [hl]; simp; omega
    have hvo := hok v (by rw [hl]; simp)
    rw [List.any_cons]
    match v with
    | .s x d =>
      simp only [Vis.row] at e3
      have t1 := fun A => tt x.a (Stm.Ok.a (show x.Ok from hvo)) A
      have t2 := fun A => tt x.b (Stm.Ok.b (show x.Ok from hvo)) A
      have q0 : bvV T (.s x d) = (((decide (x.op = 5) || decide (x.op = 6)) && tnE T x.a) || (decide (x.op = 6) && tnE T x.b)) := rfl
      cases h3 : bvV T (.s x d) with
      | false =>
        rw [h3] at q0
        simp (maxSteps := 1000000) only [go_sem, acondK_bool, acB_merge, Nat.reduceLT, Nat.reduceLeDiff, Nat.reduceEqDiff, Nat.reduceAdd, Nat.reduceSub, Nat.reduceMul, Nat.reduceBEq, Nat.reduceBNe, Nat.reduceBneDiff, Nat.reduceBeqDiff, Int.reduceToNat, Int.reduceLE, Int.reduceLT, Int.reduceEq, Int.reduceNe, Int.reduceNeg, Int.reduceAdd, Int.reduceSub, ↓reduceIte, reduceCtorEq, k_drawn_q, e3, e4, t1, t2, ← q0, e2, wrap_nat hb]
      | true =>
        rw [h3] at q0
        simp (maxSteps := 1000000) only [go_sem, acondK_bool, acB_merge, Nat.reduceLT, Nat.reduceLeDiff, Nat.reduceEqDiff, Nat.reduceAdd, Nat.reduceSub, Nat.reduceMul, Nat.reduceBEq, Nat.reduceBNe, Nat.reduceBneDiff, Nat.reduceBeqDiff, Int.reduceToNat, Int.reduceLE, Int.reduceLT, Int.reduceEq, Int.reduceNe, Int.reduceNeg, Int.reduceAdd, Int.reduceSub, ↓reduceIte, reduceCtorEq, k_drawn_q, e3, e4, t1, t2, ← q0, e2, wrap_nat hb]
    | .e y r =>
      simp only [Vis.row] at e3
      have q0 : bvV T (.e y r) = false := rfl
      rw [q0]
      simp (maxSteps := 1000000) only [go_sem, acondK_bool, acB_merge, Nat.reduceLT, Nat.reduceLeDiff, Nat.reduceEqDiff, Nat.reduceAdd, Nat.reduceSub, Nat.reduceMul, Nat.reduceBEq, Nat.reduceBNe, Nat.reduceBneDiff, Nat.reduceBeqDiff, Int.reduceToNat, Int.reduceLE, Int.reduceLT, Int.reduceEq, Int.reduceNe, Int.reduceNeg, Int.reduceAdd, Int.reduceSub, ↓reduceIte, reduceCtorEq, k_drawn_q, e3, e4, e2, wrap_nat hb]
theorem independentR (p : Pr) (hp : p.Ok) (h40 : p.params.length ≤ 40) (A : AHeap) : acl C 11 [Pr.av p] A = some (.d (.bool (indD p)), A) := by
  have k1 := checkR p hp h40 A
  rw [← chk_eq] at k1
  have y1 := keysR p hp h40 A
  rw [k_call (c := C) (f := 11) rfl Tryz.func11 rfl (ok 11 (by kernel_rfl)) rfl Tryz.ntmps11 Tryz.results11 (by simp)]
  have q : indD p = (decide (chkS p = 0) && !keyD p) := by
    unfold indD keyD
    cases decide (chkS p = 0) <;> rfl
  rw [q]
  cases hc : decide (chkS p = 0) with
  | false => simp (maxSteps := 1000000) only [go_sem, acondK_bool, acB_merge, Nat.reduceLT, Nat.reduceLeDiff, Nat.reduceEqDiff, Nat.reduceAdd, Nat.reduceSub, Nat.reduceMul, Nat.reduceBEq, Nat.reduceBNe, Nat.reduceBneDiff, Nat.reduceBeqDiff, Int.reduceToNat, Int.reduceLE, Int.reduceLT, Int.reduceEq, Int.reduceNe, Int.reduceNeg, Int.reduceAdd, Int.reduceSub, ↓reduceIte, reduceCtorEq, k_drawn_q, k1, hc]
  | true => cases hk : keyD p <;> simp (maxSteps := 1000000) only [go_sem, acondK_bool, acB_merge, Nat.reduceLT, Nat.reduceLeDiff, Nat.reduceEqDiff, Nat.reduceAdd, Nat.reduceSub, Nat.reduceMul, Nat.reduceBEq, Nat.reduceBNe, Nat.reduceBneDiff, Nat.reduceBeqDiff, Int.reduceToNat, Int.reduceLE, Int.reduceLT, Int.reduceEq, Int.reduceNe, Int.reduceNeg, Int.reduceAdd, Int.reduceSub, ↓reduceIte, reduceCtorEq, k_drawn_q, k1, hc, y1, hk]
theorem lawDataflowBranches (p : Pr) (hp : p.Ok) : acl C 3 [Pr.av p] A00 = some (.d (.bool true), A00) := by
  have sm := small p hp 600 A00
  rw [k_call (c := C) (f := 3) rfl Tryz.func3 rfl (ok 3 (by kernel_rfl)) rfl Tryz.ntmps3 Tryz.results3 (by simp)]
  cases hs : smallS p 600 with
  | false => simp (maxSteps := 1000000) only [go_sem, acondK_bool, acB_merge, Nat.reduceLT, Nat.reduceLeDiff, Nat.reduceEqDiff, Nat.reduceAdd, Nat.reduceSub, Nat.reduceMul, Nat.reduceBEq, Nat.reduceBNe, Nat.reduceBneDiff, Nat.reduceBeqDiff, Int.reduceToNat, Int.reduceLE, Int.reduceLT, Int.reduceEq, Int.reduceNe, Int.reduceNeg, Int.reduceAdd, Int.reduceSub, ↓reduceIte, reduceCtorEq, k_drawn_q, sm, works, hs]
  | true =>
  have h40 := small40 hs
  have a1 := keysD p hp h40 A00
  have a2 := keysR p hp h40 A00
  have b1 := controlD p hp h40 A00
  have b2 := controlR p hp h40 A00
  have c1 := independentD p hp h40 A00
  have c2 := independentR p hp h40 A00
  have q1 : (keyD p == keyD p) = true := by simp
  have q2 : (brnD p == brnD p) = true := by simp
  have q3 : (indD p == indD p) = true := by simp
  simp (maxSteps := 1000000) only [go_sem, acondK_bool, acB_merge, Nat.reduceLT, Nat.reduceLeDiff, Nat.reduceEqDiff, Nat.reduceAdd, Nat.reduceSub, Nat.reduceMul, Nat.reduceBEq, Nat.reduceBNe, Nat.reduceBneDiff, Nat.reduceBeqDiff, Int.reduceToNat, Int.reduceLE, Int.reduceLT, Int.reduceEq, Int.reduceNe, Int.reduceNeg, Int.reduceAdd, Int.reduceSub, ↓reduceIte, reduceCtorEq, k_drawn_q, sm, works, hs, a1, a2, b1, b2, c1, c2, q1, q2, q3]
end Go.Proofs.YtdcmimpjmngdlaaGreat
