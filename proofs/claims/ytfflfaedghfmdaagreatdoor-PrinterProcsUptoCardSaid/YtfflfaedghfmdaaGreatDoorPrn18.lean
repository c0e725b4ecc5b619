/- Proc and Program, by the reference; the law on them. -/
import Derived.Test.YtfflfaedghfmdaaGreatDoorSeatM
set_option linter.unusedVariables false
set_option linter.unusedSimpArgs false
set_option linter.all false
set_option linter.deprecated false
set_option linter.all false
namespace Go.Proofs.YtfflfaedghfmdaaGreatDoor
open Go.Abs
attribute [local congr] ite_congr
set_option maxRecDepth 100000
def StmR (x : Stm) (d : Nat) : Prop := ∀ A : AHeap, acl C 36 [Stm.av x, .d (.int .i64 (d : Nat))] A = some (.d (.str (stS x d)), A)
set_option maxHeartbeats 2000000 in
theorem blockR (l : List Stm) (d : Nat) (hlen : l.length ≤ 4194303) (hs : (ssS l d).length ≤ 4000000) (h : ∀ x ∈ l, StmR x d) : BlkR l d := by
  intro A
  rw [k_call (c := C) (f := 17) rfl Tryz.func17 rfl (ok 17 (by kernel_rfl)) rfl Tryz.ntmps17 Tryz.results17 (by simp)]
  simp (maxSteps := 1000000) only [go_sem, acondK_bool, acB_merge, Nat.reduceLT, Nat.reduceLeDiff, Nat.reduceEqDiff, Nat.reduceAdd, Nat.reduceSub, Nat.reduceMul, Nat.reduceBEq, Nat.reduceBNe, Nat.reduceBneDiff, Nat.reduceBeqDiff, Int.reduceToNat, Int.reduceLE, Int.reduceLT, Int.reduceEq, Int.reduceNe, Int.reduceNeg, Int.reduceAdd, Int.reduceSub, ↓reduceIte, reduceCtorEq]
  refine loop_any (fun pre => [(5, .v (.d (.str (ssS pre d)))), (6, .v (.d (.int .i64 (pre.length : Nat)))), (1, .v (.d (.int .i64 (d : Nat)))), (0, .v (.d (.slice (l.map Stm.row))))]) (fun _ => A) (fun _ _ => some (.d (.str (ssS l d)), A)) l (by rw [ssS]; rfl) rfl rfl ?_
  intro pre suf hl ih
  cases suf with
  | nil =>
    rw [List.append_nil] at hl
    subst hl
    have e1 : decide ((l.length : Int) < (l.length : Int)) = false := by simp
    simp (maxSteps := 1000000) only [go_sem, acondK_bool, acB_merge, Nat.reduceLT, Nat.reduceLeDiff, Nat.reduceEqDiff, Nat.reduceAdd, Nat.reduceSub, Nat.reduceMul, Nat.reduceBEq, Nat.reduceBNe, Nat.reduceBneDiff, Nat.reduceBeqDiff, Int.reduceToNat, Int.reduceLE, Int.reduceLT, Int.reduceEq, Int.reduceNe, Int.reduceNeg, Int.reduceAdd, Int.reduceSub, ↓reduceIte, reduceCtorEq, e1]
  | cons x suf =>
    have hx : x ∈ l := by rw [hl]; simp
    have f1 := h x hx A
    have hb : pre.length < 9223372036854775807 := by have : pre.length ≤ l.length := by rw [hl]; simp
                                                     omega
    have hsum : (ssS l d).length = (ssS pre d).length + ((stS x d).length + (ssS suf d).length) := by rw [hl, ssS_append, ssS]; simp
    have e1 : decide ((pre.length : Int) < (l.length : Int)) = true := by rw [hl]; simp; omega
    have e3 : (l.map Stm.row)[pre.length]? = some (Stm.row x) := by rw [hl]; exact map_mid
    rw [Stm.row_eq] at e3
    have ih' := ih x suf rfl
    have q1 : ssS (pre ++ [x]) d = ssS pre d ++ stS x d := by rw [ssS_append, ssS, ssS, List.append_nil]
    rw [q1, List.length_append, List.length_cons, List.length_nil] at ih'
    have c1 := sadd (a := ssS pre d) (b := stS x d) (by omega)
    generalize ssS pre d ++ stS x d = q3 at *
    generalize ssS pre d = q2 at *
    generalize stS x d = q4 at *
    simp (maxSteps := 1000000) only [go_sem, acondK_bool, acB_merge, Nat.reduceLT, Nat.reduceLeDiff, Nat.reduceEqDiff, Nat.reduceAdd, Nat.reduceSub, Nat.reduceMul, Nat.reduceBEq, Nat.reduceBNe, Nat.reduceBneDiff, Nat.reduceBeqDiff, Int.reduceToNat, Int.reduceLE, Int.reduceLT, Int.reduceEq, Int.reduceNe, Int.reduceNeg, Int.reduceAdd, Int.reduceSub, ↓reduceIte, reduceCtorEq, e1, e3, f1, c1, wrap_nat hb, ih']
theorem vis_mem_len {x : Stm} {d : Int} : ∀ {l : List Stm}, x ∈ l → (visS x d).length ≤ (visSs l d).length
  | [], h => by cases h
  | y :: l, h => by
    rw [visSs, List.length_append]
    rcases List.mem_cons.1 h with rfl | h
    · omega
    · have := vis_mem_len (d := d) h
      omega
theorem stmR : ∀ x : Stm, x.Ok → ∀ d : Nat, AllOk (visS x d) → (visS x d).length ≤ 400 → StmR x d := by
  intro x
  induction x using Stm.ind with
  | h op name max a b body els ih1 ih2 =>
    intro hx d hv hvl
    have hs := hv _ _ (vis_self _ _)
    obtain ⟨ho, hn, hnn, ha, hna, hb, hnb, hbo, hel, hd⟩ := hs
    simp only [Stm.op, Stm.name, Stm.a, Stm.b, Stm.body, Stm.els] at ho hn hnn ha hna hb hnb hbo hel
    have oa : a.Ok := Stm.Ok.a hx
    have ob : b.Ok := Stm.Ok.b hx
    have om : i64 max := stm_max hx
    have hw : IntKind.i64.wrap ((d : Int) + 1) = ((d + 1 : Nat) : Int) := by rw [wrap_in] <;> omega
    have hvb : AllOk (visSs body ((d + 1 : Nat) : Int)) := fun y k hy => hv y k (vis_body _ (by rw [hw]; exact hy))
    have hve : AllOk (visSs els ((d + 1 : Nat) : Int)) := fun y k hy => hv y k (vis_els _ (by rw [hw]; exact hy))
    rw [visS, hw] at hvl
    simp only [List.length_cons, List.length_append] at hvl
    have lb := ssS_len body (d + 1) (Stm.Ok.bodyOk hx) hvb
    have le := ssS_len els (d + 1) (Stm.Ok.elsOk hx) hve
    have B1 : BlkR body (d + 1) := blockR body (d + 1) (stm_fit1 hx) (by omega) fun y hy => ih1 y hy (Stm.Ok.bodyOk hx y hy) (d + 1) (fun z k hz => hvb z k (visSs_mem hy _ _ hz)) (by have := vis_mem_len (d := ((d + 1 : Nat) : Int)) hy; omega)
    have B2 : BlkR els (d + 1) := blockR els (d + 1) (stm_fit2 hx) (by omega) fun y hy => ih2 y hy (Stm.Ok.elsOk hx y hy) (d + 1) (fun z k hz => hve z k (visSs_mem hy _ _ hz)) (by have := vis_mem_len (d := ((d + 1 : Nat) : Int)) hy; omega)
    have hnl : name.length ≤ 1048576 := by
      cases hu : uN op with
      | true => have := name_len (hn hu); omega
      | false => rw [hnn hu]; simp
    have cases8 : op = 1 ∨ op = 2 ∨ op = 3 ∨ op = 4 ∨ op = 5 ∨ op = 6 ∨ op = 7 ∨ op = 8 := by omega
    intro A
    rcases cases8 with h | h | h | h | h | h | h | h
    · exact stmt1R op h name max a b body els d (by omega) hnl oa (ha (by rw [h]; rfl)) A
    · exact stmt2R op h name max a b body els d (by omega) hnl oa (ha (by rw [h]; rfl)) A
    · exact stmt3R op h name max a b body els d (by omega) oa (ha (by rw [h]; rfl)) ob (hb (by rw [h]; rfl)) A
    · exact stmt4R op h name max a b body els d (by omega) oa (ha (by rw [h]; rfl)) A
    · exact stmt5R op h name max a b body els d (by omega) oa (ha (by rw [h]; rfl)) B1 (by omega) B2 (by omega) A
    · exact stmt6R op h name max a b body els d (by omega) hnl oa (ha (by rw [h]; rfl)) ob (hb (by rw [h]; rfl)) om B1 (by omega) A
    · exact stmt7R op h name max a b body els d (by omega) oa (ha (by rw [h]; rfl)) A
    · exact stmt8R op h name max a b body els d (by omega) om A
theorem bodyR9 {p : Pr} (hp : p.Ok) (V : Vld p) : BlkR p.body 1 := by
  have h1 := body_len hp V
  refine blockR p.body 1 hp.bfit (by omega) fun x hx => stmR x (hp.body x hx) 1 (fun y k hy => stmtS_zero (V.stm y k (visSs_mem hx _ _ hy))) ?_
  have := vis_mem_len (d := ((1 : Nat) : Int)) hx
  have h2 := V.len
  change (visSs p.body ((1 : Nat) : Int)).length ≤ 400 at h2
  omega
theorem procT_eq (p : Pr) : [112, 114, 111, 99, 32] ++ p.name ++ [40] ++ joinB [44, 32] (p.params.map pmS) ++ [41, 32, 123, 10] ++ ssS p.body 1 ++ [125, 10] = procT p := by
  unfold procT lineS headS indS
  simp
set_option maxHeartbeats 4000000 in
theorem procR (p : Pr) (hp : p.Ok) (A : AHeap) : acl C 5 [Pr.av p] A = some (.d (.str (procS p)), A) := by
  have v1 := validateR p hp A
  unfold procS
  rw [k_call (c := C) (f := 5) rfl Tryz.func5 rfl (ok 5 (by kernel_rfl)) rfl Tryz.ntmps5 Tryz.results5 (by simp)]
  cases h1 : decide (valS p = 0) with
  | false =>
    rw [if_neg (by simpa using h1)]
    simp (maxSteps := 1000000) only [go_sem, acondK_bool, acB_merge, Nat.reduceLT, Nat.reduceLeDiff, Nat.reduceEqDiff, Nat.reduceAdd, Nat.reduceSub, Nat.reduceMul, Nat.reduceBEq, Nat.reduceBNe, Nat.reduceBneDiff, Nat.reduceBeqDiff, Int.reduceToNat, Int.reduceLE, Int.reduceLT, Int.reduceEq, Int.reduceNe, Int.reduceNeg, Int.reduceAdd, Int.reduceSub, ↓reduceIte, reduceCtorEq, v1, h1]
  | true =>
  have V := (valS_zero p).1 (by simpa using h1)
  rw [if_pos (by simpa using h1), ← procT_eq]
  have hnl := name_len V.name
  have n1 := sadd (a := [112, 114, 111, 99, 32]) (b := p.name) (by simp; omega)
  have n2 := sadd (a := [112, 114, 111, 99, 32] ++ p.name) (b := [40]) (by simp; omega)
  have hHl : ([112, 114, 111, 99, 32] ++ p.name ++ [40]).length ≤ 30 := by simp; omega
  generalize hH : [112, 114, 111, 99, 32] ++ p.name ++ [40] = H at *
  generalize [112, 114, 111, 99, 32] ++ p.name = H0 at *
  simp (maxSteps := 1000000) only [go_sem, acondK_bool, acB_merge, Nat.reduceLT, Nat.reduceLeDiff, Nat.reduceEqDiff, Nat.reduceAdd, Nat.reduceSub, Nat.reduceMul, Nat.reduceBEq, Nat.reduceBNe, Nat.reduceBneDiff, Nat.reduceBeqDiff, Int.reduceToNat, Int.reduceLE, Int.reduceLT, Int.reduceEq, Int.reduceNe, Int.reduceNeg, Int.reduceAdd, Int.reduceSub, ↓reduceIte, reduceCtorEq, v1, h1, n1, n2]
  obtain ⟨hpl, hpn⟩ := prms V
  refine loop_any (fun pre => [(3, .v (.d (.str (H ++ joinB [44, 32] (pre.map pmS))))), (4, .v (.d (.int .i64 (pre.length : Nat)))), (1, .box [.d (.str p.name), .d (.slice (p.params.map Pm.row)), .d (.slice (p.body.map Stm.row))])])
    (fun _ => A) (fun _ _ => some (.d (.str (H ++ joinB [44, 32] (p.params.map pmS) ++ [41, 32, 123, 10] ++ ssS p.body 1 ++ [125, 10])), A)) p.params (by simp [joinB]) rfl (by simp) ?_
  intro pre suf hl ih
  have hb : pre.length ≤ 6 := by rw [hl] at hpl; simp at hpl; omega
  cases suf with
  | nil =>
    rw [List.append_nil] at hl
    subst hl
    have e1 : decide ((p.params.length : Int) < (p.params.length : Int)) = false := by simp
    have hj := head_join V
    have hbl := body_len hp V
    have B := bodyR9 hp V A
    change acl C _ [_, .d (.int .i64 1)] _ = _ at B
    have c1 := sadd (a := H ++ joinB [44, 32] (p.params.map pmS)) (b := [41, 32, 123, 10]) (by simp; omega)
    have c2 := sadd (a := H ++ joinB [44, 32] (p.params.map pmS) ++ [41, 32, 123, 10]) (b := ssS p.body 1) (by simp; omega)
    have c3 := sadd (a := H ++ joinB [44, 32] (p.params.map pmS) ++ [41, 32, 123, 10] ++ ssS p.body 1) (b := [125, 10]) (by simp; omega)
    generalize H ++ joinB [44, 32] (p.params.map pmS) ++ [41, 32, 123, 10] ++ ssS p.body 1 ++ [125, 10] = q4 at *
    generalize H ++ joinB [44, 32] (p.params.map pmS) ++ [41, 32, 123, 10] ++ ssS p.body 1 = q3 at *
    generalize H ++ joinB [44, 32] (p.params.map pmS) ++ [41, 32, 123, 10] = q2 at *
    generalize H ++ joinB [44, 32] (p.params.map pmS) = q1 at *
    simp (maxSteps := 1000000) only [go_sem, acondK_bool, acB_merge, Nat.reduceLT, Nat.reduceLeDiff, Nat.reduceEqDiff, Nat.reduceAdd, Nat.reduceSub, Nat.reduceMul, Nat.reduceBEq, Nat.reduceBNe, Nat.reduceBneDiff, Nat.reduceBeqDiff, Int.reduceToNat, Int.reduceLE, Int.reduceLT, Int.reduceEq, Int.reduceNe, Int.reduceNeg, Int.reduceAdd, Int.reduceSub, ↓reduceIte, reduceCtorEq, e1, B, c1, c2, c3]
  | cons x suf =>
    have hx : x ∈ p.params := by rw [hl]; simp
    have hn := name_len (hpn x hx).1
    have e1 : decide ((pre.length : Int) < (p.params.length : Int)) = true := by rw [hl]; simp; omega
    have e3 : (p.params.map Pm.row)[pre.length]? = some [.str x.name, .int .i64 x.type] := by rw [hl]; exact map_mid
    have ih' := ih x suf rfl
    rw [List.map_append, List.map_cons, List.map_nil, List.length_append, List.length_cons, List.length_nil] at ih'
    have t1 := typeWordR x.type A
    have tl := tyWord_len x.type
    have w1 : IntKind.i64.wrap ((pre.length : Int) + 1) = ((pre.length + 1 : Nat) : Int) := wrap_nat (by omega)
    have hjl := joinB_len [44, 32] 22 (pre.map pmS) (fun z hz => by
      obtain ⟨y, hy, rfl⟩ := List.mem_map.1 hz
      exact pmS_len (hpn y (by rw [hl]; exact List.mem_append_left _ hy)).1)
    rw [List.length_map] at hjl
    have hjl2 : pre.length * (22 + ([44, 32] : Bytes).length) ≤ 6 * 24 := Nat.mul_le_mul hb (by decide)
    have hq : ∀ s : Bytes, s ++ x.name ++ [58, 32] ++ tyWord x.type = s ++ pmS x := fun s => by unfold pmS; simp
    by_cases hpe : pre = []
    · subst hpe
      have e5 : decide ((0 : Int) < ((([] : List Pm).length : Nat) : Int)) = false := by rfl
      have e6 : joinB [44, 32] (([] : List Pm).map pmS) = [] := rfl
      have e7 : joinB [44, 32] (([] : List Pm).map pmS ++ [pmS x]) = pmS x := rfl
      rw [e7, ← hq] at ih'
      rw [e6, List.append_nil]
      have c1 := sadd (a := H) (b := x.name) (by omega)
      have c2 := sadd (a := H ++ x.name) (b := [58, 32]) (by simp; omega)
      have c3 := sadd (a := H ++ x.name ++ [58, 32]) (b := tyWord x.type) (by simp; omega)
      generalize H ++ x.name ++ [58, 32] ++ tyWord x.type = q4 at *
      generalize H ++ x.name ++ [58, 32] = q3 at *
      generalize H ++ x.name = q2 at *
      generalize tyWord x.type = q5 at *
      generalize ([] : List Pm).length = n at *
      simp (maxSteps := 1000000) only [go_sem, acondK_bool, acB_merge, Nat.reduceLT, Nat.reduceLeDiff, Nat.reduceEqDiff, Nat.reduceAdd, Nat.reduceSub, Nat.reduceMul, Nat.reduceBEq, Nat.reduceBNe, Nat.reduceBneDiff, Nat.reduceBeqDiff, Int.reduceToNat, Int.reduceLE, Int.reduceLT, Int.reduceEq, Int.reduceNe, Int.reduceNeg, Int.reduceAdd, Int.reduceSub, ↓reduceIte, reduceCtorEq, e1, e5, e3, t1, c1, c2, c3, k_drawn_q, w1, ih']
    · have hpm : pre.map pmS ≠ [] := by simpa using hpe
      have e5 : decide ((0 : Int) < ((pre.length : Nat) : Int)) = true := by
        cases pre with
        | nil => exact absurd rfl hpe
        | cons _ _ => simp
      rw [joinB_snoc _ _ _ hpm] at ih'
      have hq2 : H ++ (joinB [44, 32] (pre.map pmS) ++ [44, 32] ++ pmS x) = H ++ joinB [44, 32] (pre.map pmS) ++ [44, 32] ++ x.name ++ [58, 32] ++ tyWord x.type := by
        rw [hq]; simp
      rw [hq2] at ih'
      have c0 := sadd (a := H ++ joinB [44, 32] (pre.map pmS)) (b := [44, 32]) (by simp at hjl hjl2 ⊢; omega)
      have c1 := sadd (a := H ++ joinB [44, 32] (pre.map pmS) ++ [44, 32]) (b := x.name) (by simp at hjl hjl2 ⊢; omega)
      have c2 := sadd (a := H ++ joinB [44, 32] (pre.map pmS) ++ [44, 32] ++ x.name) (b := [58, 32]) (by simp at hjl hjl2 ⊢; omega)
      have c3 := sadd (a := H ++ joinB [44, 32] (pre.map pmS) ++ [44, 32] ++ x.name ++ [58, 32]) (b := tyWord x.type) (by simp at hjl hjl2 ⊢; omega)
      generalize H ++ joinB [44, 32] (pre.map pmS) ++ [44, 32] ++ x.name ++ [58, 32] ++ tyWord x.type = q4 at *
      generalize H ++ joinB [44, 32] (pre.map pmS) ++ [44, 32] ++ x.name ++ [58, 32] = q3 at *
      generalize H ++ joinB [44, 32] (pre.map pmS) ++ [44, 32] ++ x.name = q2 at *
      generalize H ++ joinB [44, 32] (pre.map pmS) ++ [44, 32] = q1 at *
      generalize H ++ joinB [44, 32] (pre.map pmS) = q0 at *
      generalize tyWord x.type = q5 at *
      simp (maxSteps := 1000000) only [go_sem, acondK_bool, acB_merge, Nat.reduceLT, Nat.reduceLeDiff, Nat.reduceEqDiff, Nat.reduceAdd, Nat.reduceSub, Nat.reduceMul, Nat.reduceBEq, Nat.reduceBNe, Nat.reduceBneDiff, Nat.reduceBeqDiff, Int.reduceToNat, Int.reduceLE, Int.reduceLT, Int.reduceEq, Int.reduceNe, Int.reduceNeg, Int.reduceAdd, Int.reduceSub, ↓reduceIte, reduceCtorEq, e1, e5, e3, t1, c0, c1, c2, c3, k_drawn_q, w1, ih']
set_option maxHeartbeats 4000000 in
theorem programR (l : List Pr) (hl0 : l.length ≤ 1048576) (hok : ∀ p ∈ l, p.Ok) (A : AHeap) : acl C 7 [.d (.slice (l.map Pr.row))] A = some (.d (.str (progS l)), A) := by
  have hres : progS l = if l.all vldB = true then joinB [10] (l.map procS) else [] := rfl
  rw [hres]
  rw [k_call (c := C) (f := 7) rfl Tryz.func7 rfl (ok 7 (by kernel_rfl)) rfl Tryz.ntmps7 Tryz.results7 (by simp)]
  simp (maxSteps := 1000000) only [go_sem, acondK_bool, acB_merge, Nat.reduceLT, Nat.reduceLeDiff, Nat.reduceEqDiff, Nat.reduceAdd, Nat.reduceSub, Nat.reduceMul, Nat.reduceBEq, Nat.reduceBNe, Nat.reduceBneDiff, Nat.reduceBeqDiff, Int.reduceToNat, Int.reduceLE, Int.reduceLT, Int.reduceEq, Int.reduceNe, Int.reduceNeg, Int.reduceAdd, Int.reduceSub, ↓reduceIte, reduceCtorEq]
  refine loop_any (fun pre => [(0, .v (.d (.slice (l.map Pr.row)))), (4, .v (.d (.int .i64 (pre.length : Nat)))), (3, .v (.d (.str (joinB [10] (pre.map procS)))))])
    (fun _ => A) (fun _ suf => some (.d (.str (if suf.all vldB = true then joinB [10] (l.map procS) else [])), A)) l rfl rfl rfl ?_
  intro pre suf hl ih
  have hb : pre.length ≤ l.length := by rw [hl]; simp
  cases suf with
  | nil =>
    rw [List.append_nil] at hl
    subst hl
    have e1 : decide ((l.length : Int) < (l.length : Int)) = false := by simp
    rw [List.all_nil, if_pos rfl]
    generalize joinB [10] (l.map procS) = t at *
    simp (maxSteps := 1000000) only [go_sem, acondK_bool, acB_merge, Nat.reduceLT, Nat.reduceLeDiff, Nat.reduceEqDiff, Nat.reduceAdd, Nat.reduceSub, Nat.reduceMul, Nat.reduceBEq, Nat.reduceBNe, Nat.reduceBneDiff, Nat.reduceBeqDiff, Int.reduceToNat, Int.reduceLE, Int.reduceLT, Int.reduceEq, Int.reduceNe, Int.reduceNeg, Int.reduceAdd, Int.reduceSub, ↓reduceIte, reduceCtorEq, e1]
  | cons x suf =>
    have hx : x ∈ l := by rw [hl]; simp
    have e1 : decide ((pre.length : Int) < (l.length : Int)) = true := by rw [hl]; simp; omega
    have e3 : (l.map Pr.row)[pre.length]? = some [.str x.name, .slice (x.params.map Pm.row), .slice (x.body.map Stm.row)] := by rw [hl]; exact map_mid
    have ih' := ih x suf rfl
    rw [List.map_append, List.map_cons, List.map_nil, List.length_append, List.length_cons, List.length_nil] at ih'
    have p1 := procR x (hok x hx) A
    have n1 := procS_nil x
    have w1 : IntKind.i64.wrap ((pre.length : Int) + 1) = ((pre.length + 1 : Nat) : Int) := wrap_nat (by omega)
    have hj := join_small (l := pre) (by omega) (fun p hp => hok p (by rw [hl]; exact List.mem_append_left _ hp)) [10] (by simp)
    have hx2 := procS_len (hok x hx)
    rw [List.all_cons]
    cases hv : vldB x with
    | false =>
      rw [hv] at n1
      rw [Bool.false_and, if_neg (by decide)]
      generalize procS x = q3 at *
      generalize joinB [10] (pre.map procS) = q4 at *
      simp (maxSteps := 1000000) only [go_sem, acondK_bool, acB_merge, Nat.reduceLT, Nat.reduceLeDiff, Nat.reduceEqDiff, Nat.reduceAdd, Nat.reduceSub, Nat.reduceMul, Nat.reduceBEq, Nat.reduceBNe, Nat.reduceBneDiff, Nat.reduceBeqDiff, Int.reduceToNat, Int.reduceLE, Int.reduceLT, Int.reduceEq, Int.reduceNe, Int.reduceNeg, Int.reduceAdd, Int.reduceSub, ↓reduceIte, reduceCtorEq, e1, e3, p1, n1]
    | true =>
      rw [hv] at n1
      rw [Bool.true_and]
      generalize hT : (if suf.all vldB = true then joinB [10] (l.map procS) else [] : Bytes) = T at *
      by_cases hp : pre = []
      · subst hp
        have e5 : decide ((0 : Int) < ((([] : List Pr).length : Nat) : Int)) = false := by rfl
        have e6 : joinB [10] (([] : List Pr).map procS) = [] := rfl
        have e7 : joinB [10] (([] : List Pr).map procS ++ [procS x]) = procS x := rfl
        have c1 := sadd (a := []) (b := procS x) (by simp; omega)
        rw [List.nil_append] at c1
        rw [e7] at ih'
        rw [e6]
        generalize procS x = q at *
        generalize ([] : List Pr).length = n at *
        simp (maxSteps := 1000000) only [go_sem, acondK_bool, acB_merge, Nat.reduceLT, Nat.reduceLeDiff, Nat.reduceEqDiff, Nat.reduceAdd, Nat.reduceSub, Nat.reduceMul, Nat.reduceBEq, Nat.reduceBNe, Nat.reduceBneDiff, Nat.reduceBeqDiff, Int.reduceToNat, Int.reduceLE, Int.reduceLT, Int.reduceEq, Int.reduceNe, Int.reduceNeg, Int.reduceAdd, Int.reduceSub, ↓reduceIte, reduceCtorEq, e1, e5, e3, p1, n1, c1, w1, ih']
      · have hpm : pre.map procS ≠ [] := by simpa using hp
        have e5 : decide ((0 : Int) < ((pre.length : Nat) : Int)) = true := by
          cases pre with
          | nil => exact absurd rfl hp
          | cons _ _ => simp
        rw [joinB_snoc _ _ _ hpm] at ih'
        have c1 := sadd (a := joinB [10] (pre.map procS)) (b := [10]) (by simp; omega)
        have c2 := sadd (a := joinB [10] (pre.map procS) ++ [10]) (b := procS x) (by simp; omega)
        generalize joinB [10] (pre.map procS) ++ [10] ++ procS x = q3 at *
        generalize joinB [10] (pre.map procS) ++ [10] = q2 at *
        generalize joinB [10] (pre.map procS) = q1 at *
        generalize procS x = q at *
        simp (maxSteps := 1000000) only [go_sem, acondK_bool, acB_merge, Nat.reduceLT, Nat.reduceLeDiff, Nat.reduceEqDiff, Nat.reduceAdd, Nat.reduceSub, Nat.reduceMul, Nat.reduceBEq, Nat.reduceBNe, Nat.reduceBneDiff, Nat.reduceBeqDiff, Int.reduceToNat, Int.reduceLE, Int.reduceLT, Int.reduceEq, Int.reduceNe, Int.reduceNeg, Int.reduceAdd, Int.reduceSub, ↓reduceIte, reduceCtorEq, e1, e5, e3, p1, n1, c1, c2, w1, ih']
set_option maxHeartbeats 4000000 in
theorem lawPrinterProcs (l : List Pr) (hl0 : l.length ≤ 1048576) (hok : ∀ p ∈ l, p.Ok) (A : AHeap) : acl C 3 [.d (.slice (l.map Pr.row))] A = some (.d (.bool true), A) := by
  have pg := programP l hl0 hok A
  have pr := programR l hl0 hok A
  have wk := works A
  rw [k_call (c := C) (f := 3) rfl Tryz.func3 rfl (ok 3 (by kernel_rfl)) rfl Tryz.ntmps3 Tryz.results3 (by simp)]
  simp (maxSteps := 1000000) only [go_sem, acondK_bool, acB_merge, Nat.reduceLT, Nat.reduceLeDiff, Nat.reduceEqDiff, Nat.reduceAdd, Nat.reduceSub, Nat.reduceMul, Nat.reduceBEq, Nat.reduceBNe, Nat.reduceBneDiff, Nat.reduceBeqDiff, Int.reduceToNat, Int.reduceLE, Int.reduceLT, Int.reduceEq, Int.reduceNe, Int.reduceNeg, Int.reduceAdd, Int.reduceSub, ↓reduceIte, reduceCtorEq]
  refine loop_any (fun pre => [(0, .v (.d (.slice (l.map Pr.row)))), (3, .v (.d (.int .i64 (pre.length : Nat))))])
    (fun _ => A) (fun _ _ => some (.d (.bool true), A)) l rfl rfl rfl ?_
  intro pre suf hl ih
  have hb : pre.length ≤ l.length := by rw [hl]; simp
  cases suf with
  | nil =>
    rw [List.append_nil] at hl
    subst hl
    have e1 : decide ((l.length : Int) < (l.length : Int)) = false := by simp
    generalize progS l = q at *
    have e2 : (q == q) = true := beq_self_eq_true q
    simp (maxSteps := 1000000) only [go_sem, acondK_bool, acB_merge, Nat.reduceLT, Nat.reduceLeDiff, Nat.reduceEqDiff, Nat.reduceAdd, Nat.reduceSub, Nat.reduceMul, Nat.reduceBEq, Nat.reduceBNe, Nat.reduceBneDiff, Nat.reduceBeqDiff, Int.reduceToNat, Int.reduceLE, Int.reduceLT, Int.reduceEq, Int.reduceNe, Int.reduceNeg, Int.reduceAdd, Int.reduceSub, ↓reduceIte, reduceCtorEq, e1, pg, pr, wk, e2]
  | cons x suf =>
    have hx : x ∈ l := by rw [hl]; simp
    have e1 : decide ((pre.length : Int) < (l.length : Int)) = true := by rw [hl]; simp; omega
    have e3 : (l.map Pr.row)[pre.length]? = some [.str x.name, .slice (x.params.map Pm.row), .slice (x.body.map Stm.row)] := by rw [hl]; exact map_mid
    have ih' := ih x suf rfl
    rw [List.length_append, List.length_cons, List.length_nil] at ih'
    have p1 := procP x (hok x hx) A
    have p2 := procR x (hok x hx) A
    have w1 : IntKind.i64.wrap ((pre.length : Int) + 1) = ((pre.length + 1 : Nat) : Int) := wrap_nat (by omega)
    generalize procS x = q at *
    have e2 : (q == q) = true := beq_self_eq_true q
    simp (maxSteps := 1000000) only [go_sem, acondK_bool, acB_merge, Nat.reduceLT, Nat.reduceLeDiff, Nat.reduceEqDiff, Nat.reduceAdd, Nat.reduceSub, Nat.reduceMul, Nat.reduceBEq, Nat.reduceBNe, Nat.reduceBneDiff, Nat.reduceBeqDiff, Int.reduceToNat, Int.reduceLE, Int.reduceLT, Int.reduceEq, Int.reduceNe, Int.reduceNeg, Int.reduceAdd, Int.reduceSub, ↓reduceIte, reduceCtorEq, e1, e3, p1, p2, e2, k_drawn_q, w1, ih']
theorem lawPrinterProcsC (l : List Pr) (k : l.length ≤ 1048576 ∧ (∀ p ∈ l, p.Ok) ∧ wRows (l.map Pr.row) ≤ 1048576) : acl C 3 [.d (.slice (l.map Pr.row))] A00 = some (.d (.bool true), A00) := lawPrinterProcs l k.1 k.2.1 A00
end Go.Proofs.YtfflfaedghfmdaaGreatDoor
