/- The law of chapter 14: Params. -/
import Derived.Test.YtdcmimpjmngdlaaFlow12
set_option linter.unusedVariables false
set_option linter.unusedSimpArgs false
set_option linter.all false
set_option linter.deprecated false
set_option linter.all false
namespace Go.Proofs.Ytdcmimpjmngdlaa
open Go.Abs
attribute [local congr] ite_congr
set_option maxRecDepth 10000
theorem visP_len14 (p : Pr) : (visP p).length ≤ 401 := by unfold visP; rw [List.length_take]; omega
theorem cleanV_d14 (x : Dat) (A : AHeap) : acleanV A (.d x) = (.d x, A) := by rfl
theorem hasAsg (l : List Bytes) (hl : l.length ≤ 4194303) (fr : Nat) (w : Bytes) : acl C 23 [(grF A00 9 1 (l.map sRow) 0).1, .d (.str w)] (grF A00 9 1 (l.map sRow) fr).2 = some (.d (.bool (hv l w)), (grF A00 9 1 (l.map sRow) (l.map sRow).length).2) := by
  rw [grF_fst A00 _ _ _ 0 fr, ← hasL14 l hl w (grF A00 9 1 (l.map sRow) (l.map sRow).length).2]
  refine acl_clean rfl Try.func23 rfl (ok 23 (by kernel_rfl)) (by rw [Try.ntmps23]; simp) (by rw [Try.ntmps23]; simp) rfl ?_ rfl (by rw [grF_objs, grF_objs]) (grF_len ..)
  simp only [acleanVs, grF_clean, cleanV_d14]
set_option maxHeartbeats 8000000 in
theorem lawDataflowParams (p : Pr) (hp : p.Ok) : acl C 7 [Pr.av p] A00 = some (.d (.bool true), A00) := by
  have sm := small p hp 600 A00
  rw [k_call (c := C) (f := 7) rfl Try.func7 rfl (ok 7 (by kernel_rfl)) rfl Try.ntmps7 Try.results7 (by simp)]
  cases hs : smallS p 600 with
  | false => simp (maxSteps := 1000000) only [go_sem, acondK_bool, acB_merge, Nat.reduceLT, Nat.reduceLeDiff, Nat.reduceEqDiff, Nat.reduceAdd, Nat.reduceSub, Nat.reduceMul, Nat.reduceBEq, Nat.reduceBNe, Nat.reduceBneDiff, Nat.reduceBeqDiff, Int.reduceToNat, Int.reduceLE, Int.reduceLT, Int.reduceEq, Int.reduceNe, Int.reduceNeg, Int.reduceAdd, Int.reduceSub, ↓reduceIte, reduceCtorEq, k_drawn_q, sm, works, hs]
  | true =>
  have h40 := small40 hs
  have k1 := checkR p hp h40 A00
  rw [← chk_eq] at k1
  cases hc : decide (chkS p = 0) with
  | false => simp (maxSteps := 1000000) only [go_sem, acondK_bool, acB_merge, Nat.reduceLT, Nat.reduceLeDiff, Nat.reduceEqDiff, Nat.reduceAdd, Nat.reduceSub, Nat.reduceMul, Nat.reduceBEq, Nat.reduceBNe, Nat.reduceBneDiff, Nat.reduceBeqDiff, Int.reduceToNat, Int.reduceLE, Int.reduceLT, Int.reduceEq, Int.reduceNe, Int.reduceNeg, Int.reduceAdd, Int.reduceSub, ↓reduceIte, reduceCtorEq, k_drawn_q, sm, works, hs, k1, hc]
  | true =>
  have hc' : chkS p = 0 := by simpa using hc
  have w1 := walkR p hp A00
  have hwl := visP_len14 p
  have hkn := (key_visP hc' (tns_has hc')).1
  have hpl : (visP p).all (plV (tnsS p)) = true → (visP p).any (kvV (tnsS p)) = false := plain_clean hc'
  have hpc := fun x (hx : x ∈ p.params) => param_clean hc' hx
  have hchk := vchkP hc'
  have hal := asgV_len (visP p)
  have t1 := fun A => taintedD p hp h40 A
  have htl := tns_len p h40
  have y1 := fun A => keysD p hp h40 A
  have yk : keyD p = (visP p).any (kvV (tnsS p)) := by unfold keyD; rw [hc, hkn]; rfl
  rw [yk] at y1
  simp (maxSteps := 1000000) only [go_sem, acondK_bool, acB_merge, Nat.reduceLT, Nat.reduceLeDiff, Nat.reduceEqDiff, Nat.reduceAdd, Nat.reduceSub, Nat.reduceMul, Nat.reduceBEq, Nat.reduceBNe, Nat.reduceBneDiff, Nat.reduceBeqDiff, Int.reduceToNat, Int.reduceLE, Int.reduceLT, Int.reduceEq, Int.reduceNe, Int.reduceNeg, Int.reduceAdd, Int.reduceSub, ↓reduceIte, reduceCtorEq, k_drawn_q, sm, hs, k1, hc, w1]
  generalize tnsS p = T at *
  generalize hL : visP p = L at *
  have hasA := hasAsg (asgV L) (by omega)
  have hasT := fun w A => hasL14 T (by omega) w A
  have hgb := fun fr b => grF_bool (f := 7) rfl A00 9 1 ((asgV L).map sRow) fr b
  refine loop_any (fun pre => [(4, .v (grF A00 9 1 ((asgV pre).map sRow) 0).1), (6, .v (.d (.int .i64 (pre.length : Nat)))), (3, .v (.d (.slice (L.map Vis.row)))), (1, .box [.d (.str p.name), .d (.slice (p.params.map Pm.row)), .d (.slice (p.body.map Stm.row))]), (5, .v (.d (.bool true)))])
    (fun pre => (grF A00 9 1 ((asgV pre).map sRow) 0).2) (fun _ _ => some (.d (.bool true), A00)) L rfl rfl rfl ?_
  intro pre suf hl ih
  have hb : pre.length < 9223372036854775807 := by rw [hl] at hwl; simp at hwl; omega
  cases suf with
  | cons v suf =>
    have e2 := ih v suf rfl
    rw [List.length_append, List.length_cons, List.length_nil, asgV_append] at e2
    have e3 : (L.map Vis.row)[pre.length]? = some (Vis.row v) := by rw [hl]; exact map_mid
    have e4 : decide ((pre.length : Int) < (L.length : Int)) = true := by rw [hl]; simp; omega
    have hpre := asgV_len pre
    match v with
    | .s x d =>
      have e5 := grF_append (A := A00) (e := 9) (sz := 1) (fr := 0) (rows := (asgV pre).map sRow) (src := [[.str x.name]]) room_9_1 (by rfl) (by rw [hl] at hwl; simp at hwl ⊢; omega) (fun _ => rfl)
      have e6 : (asgV pre).map sRow ++ [[.str x.name]] = (asgV pre ++ [x.name]).map sRow := by simp [sRow]
      rw [e6] at e5
      simp only [Vis.row] at e3
      simp only [asgV] at e2
      cases h1 : decide (x.op = 2) with
      | false =>
        rw [h1, if_neg (by decide), List.append_nil] at e2
        simp (maxSteps := 1000000) only [go_sem, acondK_bool, acB_merge, Nat.reduceLT, Nat.reduceLeDiff, Nat.reduceEqDiff, Nat.reduceAdd, Nat.reduceSub, Nat.reduceMul, Nat.reduceBEq, Nat.reduceBNe, Nat.reduceBneDiff, Nat.reduceBeqDiff, Int.reduceToNat, Int.reduceLE, Int.reduceLT, Int.reduceEq, Int.reduceNe, Int.reduceNeg, Int.reduceAdd, Int.reduceSub, ↓reduceIte, reduceCtorEq, k_drawn_q, e3, e4, e2, h1, wrap_nat hb]
      | true =>
        rw [h1, if_pos rfl] at e2
        simp (maxSteps := 1000000) only [go_sem, acondK_bool, acB_merge, Nat.reduceLT, Nat.reduceLeDiff, Nat.reduceEqDiff, Nat.reduceAdd, Nat.reduceSub, Nat.reduceMul, Nat.reduceBEq, Nat.reduceBNe, Nat.reduceBneDiff, Nat.reduceBeqDiff, Int.reduceToNat, Int.reduceLE, Int.reduceLT, Int.reduceEq, Int.reduceNe, Int.reduceNeg, Int.reduceAdd, Int.reduceSub, ↓reduceIte, reduceCtorEq, k_drawn_q, e3, e4, e2, e5, h1, wrap_nat hb]
    | .e y r =>
      simp only [Vis.row] at e3
      simp only [asgV, List.append_nil] at e2
      simp (maxSteps := 1000000) only [go_sem, acondK_bool, acB_merge, Nat.reduceLT, Nat.reduceLeDiff, Nat.reduceEqDiff, Nat.reduceAdd, Nat.reduceSub, Nat.reduceMul, Nat.reduceBEq, Nat.reduceBNe, Nat.reduceBneDiff, Nat.reduceBeqDiff, Int.reduceToNat, Int.reduceLE, Int.reduceLT, Int.reduceEq, Int.reduceNe, Int.reduceNeg, Int.reduceAdd, Int.reduceSub, ↓reduceIte, reduceCtorEq, k_drawn_q, e3, e4, e2, wrap_nat hb]
  | nil =>
  rw [List.append_nil] at hl
  subst hl
  have e4 : decide ((L.length : Int) < (L.length : Int)) = false := by simp
  simp (maxSteps := 1000000) only [go_sem, acondK_bool, acB_merge, Nat.reduceLT, Nat.reduceLeDiff, Nat.reduceEqDiff, Nat.reduceAdd, Nat.reduceSub, Nat.reduceMul, Nat.reduceBEq, Nat.reduceBNe, Nat.reduceBneDiff, Nat.reduceBeqDiff, Int.reduceToNat, Int.reduceLE, Int.reduceLT, Int.reduceEq, Int.reduceNe, Int.reduceNeg, Int.reduceAdd, Int.reduceSub, ↓reduceIte, reduceCtorEq, e4, t1]
  refine loop_invH (fun j (fr : Nat) => [(3, .v (.d (.slice (L.map Vis.row)))), (5, .v (.d (.bool true))), (4, .v (grF A00 9 1 ((asgV L).map sRow) 0).1), (8, .v (.d (.slice (T.map sRow)))), (1, .box [.d (.str p.name), .d (.slice (p.params.map Pm.row)), .d (.slice (p.body.map Stm.row))]), (9, .v (.d (.int .i64 (j : Nat))))])
    (fun fr => (grF A00 9 1 ((asgV L).map sRow) fr).2) (fun _ _ _ => True) p.params 0 rfl rfl trivial ?_
  intro pre suf fr hl _ ih
  have hb : pre.length < 9223372036854775807 := by rw [hl] at h40; simp at h40; omega
  cases suf with
  | cons x suf =>
    have e2 := fun fr' => ih x suf fr' rfl trivial
    have e3 : (p.params.map Pm.row)[pre.length]? = some [.str x.name, .int .i64 x.type] := by rw [hl]; exact map_mid
    have e4 : decide ((pre.length : Int) < (p.params.length : Int)) = true := by rw [hl]; simp; omega
    have a1 := hasA fr x.name
    cases h1 : hv (asgV L) x.name with
    | true =>
      rw [h1] at a1
      simp (maxSteps := 1000000) only [go_sem, acondK_bool, acB_merge, Nat.reduceLT, Nat.reduceLeDiff, Nat.reduceEqDiff, Nat.reduceAdd, Nat.reduceSub, Nat.reduceMul, Nat.reduceBEq, Nat.reduceBNe, Nat.reduceBneDiff, Nat.reduceBeqDiff, Int.reduceToNat, Int.reduceLE, Int.reduceLT, Int.reduceEq, Int.reduceNe, Int.reduceNeg, Int.reduceAdd, Int.reduceSub, ↓reduceIte, reduceCtorEq, k_drawn_q, e3, e4, a1, e2, wrap_nat hb]
    | false =>
      rw [h1] at a1
      have a2 := hpc x (by rw [hl]; simp) h1
      simp (maxSteps := 1000000) only [go_sem, acondK_bool, acB_merge, Nat.reduceLT, Nat.reduceLeDiff, Nat.reduceEqDiff, Nat.reduceAdd, Nat.reduceSub, Nat.reduceMul, Nat.reduceBEq, Nat.reduceBNe, Nat.reduceBneDiff, Nat.reduceBeqDiff, Int.reduceToNat, Int.reduceLE, Int.reduceLT, Int.reduceEq, Int.reduceNe, Int.reduceNeg, Int.reduceAdd, Int.reduceSub, ↓reduceIte, reduceCtorEq, k_drawn_q, e3, e4, a1, hasT, a2, e2, wrap_nat hb]
  | nil =>
  rw [List.append_nil] at hl
  have e4 : decide ((pre.length : Int) < (p.params.length : Int)) = false := by rw [hl]; simp
  have hgb := hgb fr
  generalize (grF A00 9 1 ((asgV L).map sRow) fr).2 = H at *
  simp (maxSteps := 1000000) only [go_sem, acondK_bool, acB_merge, Nat.reduceLT, Nat.reduceLeDiff, Nat.reduceEqDiff, Nat.reduceAdd, Nat.reduceSub, Nat.reduceMul, Nat.reduceBEq, Nat.reduceBNe, Nat.reduceBneDiff, Nat.reduceBeqDiff, Int.reduceToNat, Int.reduceLE, Int.reduceLT, Int.reduceEq, Int.reduceNe, Int.reduceNeg, Int.reduceAdd, Int.reduceSub, ↓reduceIte, reduceCtorEq, e4]
  refine loop_any (fun pre => [(5, .v (.d (.bool (pre.all (plV T))))), (10, .v (.d (.int .i64 (pre.length : Nat)))), (8, .v (.d (.slice (T.map sRow)))), (3, .v (.d (.slice (L.map Vis.row)))), (1, .box [.d (.str p.name), .d (.slice (p.params.map Pm.row)), .d (.slice (p.body.map Stm.row))])])
    (fun _ => H) (fun _ _ => some (.d (.bool true), A00)) L rfl rfl rfl ?_
  intro pre suf hl ih
  have hb : pre.length < 9223372036854775807 := by rw [hl] at hwl; simp at hwl; omega
  cases suf with
  | nil =>
    rw [List.append_nil] at hl
    subst hl
    have e4 : decide ((L.length : Int) < (L.length : Int)) = false := by simp
    cases h1 : L.all (plV T) with
    | false => simp (maxSteps := 1000000) only [go_sem, acondK_bool, acB_merge, Nat.reduceLT, Nat.reduceLeDiff, Nat.reduceEqDiff, Nat.reduceAdd, Nat.reduceSub, Nat.reduceMul, Nat.reduceBEq, Nat.reduceBNe, Nat.reduceBneDiff, Nat.reduceBeqDiff, Int.reduceToNat, Int.reduceLE, Int.reduceLT, Int.reduceEq, Int.reduceNe, Int.reduceNeg, Int.reduceAdd, Int.reduceSub, ↓reduceIte, reduceCtorEq, k_drawn_q, e4, h1, works, hgb]
    | true =>
      have h2 := hpl h1
      simp (maxSteps := 1000000) only [go_sem, acondK_bool, acB_merge, Nat.reduceLT, Nat.reduceLeDiff, Nat.reduceEqDiff, Nat.reduceAdd, Nat.reduceSub, Nat.reduceMul, Nat.reduceBEq, Nat.reduceBNe, Nat.reduceBneDiff, Nat.reduceBeqDiff, Int.reduceToNat, Int.reduceLE, Int.reduceLT, Int.reduceEq, Int.reduceNe, Int.reduceNeg, Int.reduceAdd, Int.reduceSub, ↓reduceIte, reduceCtorEq, k_drawn_q, e4, h1, y1, h2, works, hgb]
  | cons v suf =>
    have e2 := ih v suf rfl
    rw [List.length_append, List.length_cons, List.length_nil, List.all_append, List.all_cons, List.all_nil, Bool.and_true] at e2
    have e3 : (L.map Vis.row)[pre.length]? = some (Vis.row v) := by rw [hl]; exact map_mid
    have e4 : decide ((pre.length : Int) < (L.length : Int)) = true := by rw [hl]; simp; omega
    have hck := hchk v (by rw [hl]; simp)
    generalize pre.all (plV T) = b at *
    match v with
    | .s x d =>
      simp only [Vis.row] at e3
      have q0 : plV T (.s x d) = if (decide (x.op = 3) || decide (x.op = 4)) = true then okK T x.a else true := rfl
      have q1 : (b && okK T x.a) = (b && (decide (x.a.op = 2) || (decide (x.a.op = 3) && !hv T x.a.s))) := rfl
      rw [q0] at e2
      cases h3 : decide (x.op = 3) with
      | true =>
        rw [h3, Bool.true_or, if_pos rfl] at e2
        simp (maxSteps := 1000000) only [go_sem, acondK_bool, acB_merge, Nat.reduceLT, Nat.reduceLeDiff, Nat.reduceEqDiff, Nat.reduceAdd, Nat.reduceSub, Nat.reduceMul, Nat.reduceBEq, Nat.reduceBNe, Nat.reduceBneDiff, Nat.reduceBeqDiff, Int.reduceToNat, Int.reduceLE, Int.reduceLT, Int.reduceEq, Int.reduceNe, Int.reduceNeg, Int.reduceAdd, Int.reduceSub, ↓reduceIte, reduceCtorEq, k_drawn_q, e3, e4, h3, hasT, ← q1, e2, wrap_nat hb]
      | false =>
        cases h4 : decide (x.op = 4) with
        | true =>
          rw [h3, h4, Bool.or_true, if_pos rfl] at e2
          simp (maxSteps := 1000000) only [go_sem, acondK_bool, acB_merge, Nat.reduceLT, Nat.reduceLeDiff, Nat.reduceEqDiff, Nat.reduceAdd, Nat.reduceSub, Nat.reduceMul, Nat.reduceBEq, Nat.reduceBNe, Nat.reduceBneDiff, Nat.reduceBeqDiff, Int.reduceToNat, Int.reduceLE, Int.reduceLT, Int.reduceEq, Int.reduceNe, Int.reduceNeg, Int.reduceAdd, Int.reduceSub, ↓reduceIte, reduceCtorEq, k_drawn_q, e3, e4, h3, h4, hasT, ← q1, e2, wrap_nat hb]
        | false =>
          rw [h3, h4, Bool.or_false, if_neg (by decide), Bool.and_true] at e2
          simp (maxSteps := 1000000) only [go_sem, acondK_bool, acB_merge, Nat.reduceLT, Nat.reduceLeDiff, Nat.reduceEqDiff, Nat.reduceAdd, Nat.reduceSub, Nat.reduceMul, Nat.reduceBEq, Nat.reduceBNe, Nat.reduceBneDiff, Nat.reduceBeqDiff, Int.reduceToNat, Int.reduceLE, Int.reduceLT, Int.reduceEq, Int.reduceNe, Int.reduceNeg, Int.reduceAdd, Int.reduceSub, ↓reduceIte, reduceCtorEq, k_drawn_q, e3, e4, h3, h4, e2, wrap_nat hb]
    | .e y r =>
      simp only [Vis.row] at e3
      have q0 : plV T (.e y r) = if acs y.op = true then headK T y.args else true := rfl
      rw [q0] at e2
      have ac := fun A => accR y.op A
      cases ha : acs y.op with
      | false =>
        rw [ha, if_neg (by decide), Bool.and_true] at e2
        simp (maxSteps := 1000000) only [go_sem, acondK_bool, acB_merge, Nat.reduceLT, Nat.reduceLeDiff, Nat.reduceEqDiff, Nat.reduceAdd, Nat.reduceSub, Nat.reduceMul, Nat.reduceBEq, Nat.reduceBNe, Nat.reduceBneDiff, Nat.reduceBeqDiff, Int.reduceToNat, Int.reduceLE, Int.reduceLT, Int.reduceEq, Int.reduceNe, Int.reduceNeg, Int.reduceAdd, Int.reduceSub, ↓reduceIte, reduceCtorEq, k_drawn_q, e3, e4, ac, ha, e2, wrap_nat hb]
      | true =>
        rw [ha, if_pos rfl] at e2
        obtain ⟨d, hck⟩ := hck
        obtain ⟨op, n, s, args⟩ := y
        obtain ⟨z, hz⟩ := acs_one hck ha
        subst hz
        change ∀ A, acl C _ [.d (.int .i64 op)] A = _ at ac
        have q1 : (b && headK T [z]) = (b && (decide (z.op = 2) || (decide (z.op = 3) && !hv T z.s))) := rfl
        change cloop _ _ _ [(5, .v (.d (.bool (b && headK T [z])))), _, _, _, _] _ = _ at e2
        have e9 : ([z].map E.row)[0]? = some [.int .i64 z.op, .int .i64 z.n, .str z.s, .slice (z.args.map E.row)] := by rw [List.map_cons, E.row_eq]; rfl
        change (L.map Vis.row)[pre.length]? = some [.bool false, .int .i64 0, .str [], .int .i64 0, .int .i64 0, .int .i64 0, .str [], .slice [], .int .i64 0, .int .i64 0, .str [], .slice [], .slice [], .slice [], .int .i64 0,
          .int .i64 op, .int .i64 n, .str s, .slice ([z].map E.row), .bool r] at e3
        change acs op = true at ha
        generalize [z].map E.row = zr at *
        simp (maxSteps := 1000000) only [go_sem, acondK_bool, acB_merge, Nat.reduceLT, Nat.reduceLeDiff, Nat.reduceEqDiff, Nat.reduceAdd, Nat.reduceSub, Nat.reduceMul, Nat.reduceBEq, Nat.reduceBNe, Nat.reduceBneDiff, Nat.reduceBeqDiff, Int.reduceToNat, Int.reduceLE, Int.reduceLT, Int.reduceEq, Int.reduceNe, Int.reduceNeg, Int.reduceAdd, Int.reduceSub, ↓reduceIte, reduceCtorEq, k_drawn_q, e3, e4, ac, ha, e9, hasT, ← q1, e2, wrap_nat hb]
end Go.Proofs.Ytdcmimpjmngdlaa
