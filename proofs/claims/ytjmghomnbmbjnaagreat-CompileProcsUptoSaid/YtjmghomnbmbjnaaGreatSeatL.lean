/- The operators of an expression, in the order of its nodes; what the reference finds out of them. -/
import Derived.Test.YtjmghomnbmbjnaaGreatSeatI
import Derived.Test.YtjmghomnbmbjnaaGreatSeatE
import Derived.Test.YtjmghomnbmbjnaaGreatSeatD
import Derived.Test.YtjmghomnbmbjnaaGreatSeatK
import Derived.Test.YtjmghomnbmbjnaaGreatSeatH
set_option linter.unusedVariables false
set_option linter.unusedSimpArgs false
set_option linter.all false
set_option linter.deprecated false
set_option linter.all false
namespace Go.Proofs.YtjmghomnbmbjnaaGreat
open Go.Abs
attribute [local congr] ite_congr
set_option maxRecDepth 10000
theorem opsEs_mem_len : ∀ (l : List E) (x : E), x ∈ l → (opsE x).length ≤ (opsEs l).length
  | y :: l, x, h => by
    simp only [opsEs, List.length_append]
    rcases List.mem_cons.1 h with rfl | h
    · omega
    · have := opsEs_mem_len l x h; omega
theorem iRow_all (l : List Int) : (l.map iRow).all (fun r => r.length == 1) = true := by
  rw [List.all_eq_true]
  intro r hr
  obtain ⟨x, _, rfl⟩ := List.mem_map.1 hr
  rfl
noncomputable def opSt (A : AHeap) (op : Int) : List E → AV × AHeap
  | [] => (.full [[.int .i64 op]], A)
  | x :: l => grI A (op :: opsEs (x :: l))
theorem opSt_snoc (A : AHeap) (op : Int) (pre : List E) (x : E) : opSt A op (pre ++ [x]) = grI A ((op :: opsEs pre) ++ opsE x) := by
  have h : opsEs (pre ++ [x]) = opsEs pre ++ opsE x := by rw [opsEs_append]; simp [opsEs]
  cases pre with
  | nil => show grI A (op :: opsEs [x]) = _; simp [opsEs]
  | cons y l => show grI A (op :: opsEs (y :: l ++ [x])) = _; rw [h]; rfl
theorem opSt_append (A : AHeap) (op : Int) (pre : List E) (x : E) (h : (opsEs pre).length + 1 + (opsE x).length ≤ 4194304) : aappend Tryz.prog 3 1 (opSt A op pre).2 (opSt A op pre).1 ((opsE x).map iRow) = some (opSt A op (pre ++ [x])) := by
  rw [opSt_snoc]
  have hx : (opsE x).map iRow ≠ [] := by cases x; simp [opsE]
  cases pre with
  | nil =>
    show aappend Tryz.prog 3 1 A (.full [[.int .i64 op]]) ((opsE x).map iRow) = _
    unfold aappend
    rw [if_pos ⟨room_3_1, iRow_all _⟩]
    simp only [if_neg hx]
    rw [if_pos ⟨by simp [opsEs] at h ⊢; omega, rfl⟩]
    unfold grI agrow
    rw [if_neg (by simp)]
    simp [opsEs, iRow, Nat.add_comm]
  | cons y l =>
    show aappend Tryz.prog 3 1 (grI A (op :: opsEs (y :: l))).2 (grI A (op :: opsEs (y :: l))).1 ((opsE x).map iRow) = _
    unfold grI
    rw [agrow_append room_3_1 (iRow_all _) (by simp only [List.length_map, List.length_cons]; omega), ← List.map_append]
theorem opSt_fin {f : FuncId} (ho : C.own f = false) (A : AHeap) (op : Int) (pre : List E) : afinR C f A (opSt A op pre).2 (some (opSt A op pre).1) = some (.d (.slice ((op :: opsEs pre).map iRow)), A) := by
  cases pre with
  | nil => exact afinR_still (v := .full [[.int .i64 op]]) ho rfl
  | cons y l => exact afin_grown ho
theorem opsR : ∀ e, E.Ok e → (opsE e).length ≤ 4194303 → ∀ (A : AHeap), acl C 116 [E.av e] A = some (.d (.slice ((opsE e).map iRow)), A) := by
  intro e
  induction e using E.ind with
  | h op n s args ih =>
    intro hok hb A
    have hlen := hok.fit
    rw [k_call (c := C) (f := 116) rfl Tryz.func116 rfl (ok 116 (by kernel_rfl)) rfl Tryz.ntmps116 Tryz.results116 (by simp)]
    simp (maxSteps := 1000000) only [go_sem, acondK_bool, acB_merge, Nat.reduceLT, Nat.reduceLeDiff, Nat.reduceEqDiff, Nat.reduceAdd, Nat.reduceSub, Nat.reduceMul, Nat.reduceBEq, Nat.reduceBNe, Nat.reduceBneDiff, Nat.reduceBeqDiff, Int.reduceToNat, Int.reduceLE, Int.reduceLT, Int.reduceEq, Int.reduceNe, Int.reduceNeg, Int.reduceAdd, Int.reduceSub, ↓reduceIte, reduceCtorEq]
    refine loop_any (fun pre => [(3, .v (opSt A op pre).1), (4, .v (.d (.int .i64 (pre.length : Nat)))), (1, .box [.d (.int .i64 op), .d (.int .i64 n), .d (.str s), .d (.slice (args.map E.row))])])
      (fun pre => (opSt A op pre).2) (fun pre suf => some (.d (.slice ((opsE (.mk op n s args)).map iRow)), A)) args rfl rfl rfl ?_
    intro pre suf hl ih2
    have hb2 : pre.length < 9223372036854775807 := by rw [hl] at hlen; simp at hlen; omega
    have hbs : (opsEs args).length + 1 ≤ 4194303 := by simpa [opsE] using hb
    cases suf with
    | cons x suf =>
      have hx : x ∈ args := by rw [hl]; simp
      have hbx := opsEs_mem_len args x hx
      have hbp : (opsEs pre).length + (opsE x).length ≤ (opsEs args).length := by rw [hl, opsEs_append]; simp [opsEs]
      have e1 := ih x hx (hok.arg x hx) (by omega) (opSt A op pre).2
      have e2 := ih2 x suf rfl
      rw [List.length_append, List.length_cons, List.length_nil] at e2
      have e3 : (args.map E.row)[pre.length]? = some (E.row x) := by rw [hl]; exact map_mid
      have e4 : decide ((pre.length : Int) < (args.length : Int)) = true := by rw [hl]; simp; omega
      have e5 := opSt_append A op pre x (by omega)
      rw [E.row_eq] at e3
      simp (maxSteps := 1000000) only [go_sem, acondK_bool, acB_merge, Nat.reduceLT, Nat.reduceLeDiff, Nat.reduceEqDiff, Nat.reduceAdd, Nat.reduceSub, Nat.reduceMul, Nat.reduceBEq, Nat.reduceBNe, Nat.reduceBneDiff, Nat.reduceBeqDiff, Int.reduceToNat, Int.reduceLE, Int.reduceLT, Int.reduceEq, Int.reduceNe, Int.reduceNeg, Int.reduceAdd, Int.reduceSub, ↓reduceIte, reduceCtorEq, e3, e4, e1, e5, e2, wrap_nat hb2]
    | nil =>
      rw [List.append_nil] at hl
      subst hl
      have e6 := opSt_fin (f := 116) rfl A op args
      have e4 : decide ((args.length : Int) < (args.length : Int)) = false := by simp
      have e7 : opsE (.mk op n s args) = op :: opsEs args := by rw [opsE]
      rw [e7]
      simp (maxSteps := 1000000) only [go_sem, acondK_bool, acB_merge, Nat.reduceLT, Nat.reduceLeDiff, Nat.reduceEqDiff, Nat.reduceAdd, Nat.reduceSub, Nat.reduceMul, Nat.reduceBEq, Nat.reduceBNe, Nat.reduceBneDiff, Nat.reduceBeqDiff, Int.reduceToNat, Int.reduceLE, Int.reduceLT, Int.reduceEq, Int.reduceNe, Int.reduceNeg, Int.reduceAdd, Int.reduceSub, ↓reduceIte, reduceCtorEq, e4, e6]
theorem ndR (op : Int) (A : AHeap) : acl C 117 [.d (.int .i64 op)] A = some (.d (.bool (ndS op)), A) := by
  rw [k_call (c := C) (f := 117) rfl Tryz.func117 rfl (ok 117 (by kernel_rfl)) rfl Tryz.ntmps117 Tryz.results117 (by simp)]
  simp (maxSteps := 1000000) +contextual only [go_sem, acondK_bool, acB_merge, Nat.reduceLT, Nat.reduceLeDiff, Nat.reduceEqDiff, Nat.reduceAdd, Nat.reduceSub, Nat.reduceMul, Nat.reduceBEq, Nat.reduceBNe, Nat.reduceBneDiff, Nat.reduceBeqDiff, Int.reduceToNat, Int.reduceLE, Int.reduceLT, Int.reduceEq, Int.reduceNe, Int.reduceNeg, Int.reduceAdd, Int.reduceSub, ↓reduceIte, reduceCtorEq]
  refine leafB ?_
  unfold ndS
  cases h1 : decide (op = 25) <;> cases h2 : decide (op = 26) <;> simp_all
end Go.Proofs.YtjmghomnbmbjnaaGreat
set_option linter.all false
namespace Go.Proofs.YtjmghomnbmbjnaaGreat
open Go.Abs
attribute [local congr] ite_congr
set_option maxRecDepth 10000
theorem opsE_vis : ∀ (e : E) (r : Bool), (opsE e).length = (visE e r).length
  | .mk op n s args, r => by
    have := opsEs_vis args
    simp only [opsE, visE, List.length_cons, this]
where opsEs_vis : ∀ (l : List E), (opsEs l).length = (visEs l).length
  | [] => rfl
  | x :: l => by
    simp only [opsEs, visEs, List.length_append, opsE_vis x false, opsEs_vis l]
theorem opsEs_le (n : Nat) : ∀ (l : List E), (∀ e ∈ l, (opsE e).length ≤ n) → (opsEs l).length ≤ n * l.length
  | [], _ => by simp [opsEs]
  | x :: l, h => by
    have h1 := h x (List.mem_cons_self ..)
    have h2 := opsEs_le n l (fun e he => h e (List.mem_cons_of_mem _ he))
    simp only [opsEs, List.length_append, List.length_cons, Nat.mul_add]
    omega
theorem few_ops (p : Pr) (h : valS p = 0) : (opsEs (exprsS p)).length ≤ 160400 := by
  have V := (valS_zero p).1 h
  have h1 := opsEs_le 400 (exprsS p) fun e he => by rw [opsE_vis e true]; exact (V.roots e he).2
  have h2 := exprsS_len p
  have := Nat.mul_le_mul_left 400 h2
  omega
theorem few_op (p : Pr) (h : valS p = 0) : ∀ e ∈ exprsS p, (opsE e).length ≤ 4194303 := fun e he => by
  have V := (valS_zero p).1 h
  rw [opsE_vis e true]
  have := (V.roots e he).2
  omega
theorem firstR (p : Pr) (hp : p.Ok) (A : AHeap) : acl C 86 [Pr.av p] A = some (.tuple [.d (.int .i64 (fstP p).1), .d (.int .i64 (fstP p).2.1), .d (.bool (fstP p).2.2)], A) := by
  have v1 := validateR p hp A
  rw [k_call (c := C) (f := 86) rfl Tryz.func86 rfl (ok 86 (by kernel_rfl)) rfl Tryz.ntmps86 Tryz.results86 (by simp)]
  cases hv : decide (valS p = 0) with
  | false =>
    have hf : fstP p = (0, 0, false) := by unfold fstP; rw [if_neg (by simpa using hv)]
    rw [hf]
    simp (maxSteps := 1000000) only [go_sem, acondK_bool, acB_merge, Nat.reduceLT, Nat.reduceLeDiff, Nat.reduceEqDiff, Nat.reduceAdd, Nat.reduceSub, Nat.reduceMul, Nat.reduceBEq, Nat.reduceBNe, Nat.reduceBneDiff, Nat.reduceBeqDiff, Int.reduceToNat, Int.reduceLE, Int.reduceLT, Int.reduceEq, Int.reduceNe, Int.reduceNeg, Int.reduceAdd, Int.reduceSub, ↓reduceIte, reduceCtorEq, v1, hv]
  | true =>
  have hv0 : valS p = 0 := by simpa using hv
  have x1 := exprsR p hp A
  have hf : fstP p = fstS (opsEs (exprsS p)) 0 := by unfold fstP; rw [if_pos hv0]
  rw [hf]
  have hok := exprsS_ok p hp
  have hb := few_ops p hv0
  have hb1 := few_op p hv0
  have hll := exprsS_len p
  simp (maxSteps := 1000000) only [go_sem, acondK_bool, acB_merge, Nat.reduceLT, Nat.reduceLeDiff, Nat.reduceEqDiff, Nat.reduceAdd, Nat.reduceSub, Nat.reduceMul, Nat.reduceBEq, Nat.reduceBNe, Nat.reduceBneDiff, Nat.reduceBeqDiff, Int.reduceToNat, Int.reduceLE, Int.reduceLT, Int.reduceEq, Int.reduceNe, Int.reduceNeg, Int.reduceAdd, Int.reduceSub, ↓reduceIte, reduceCtorEq, v1, hv, x1]
  generalize exprsS p = roots at *
  refine loop_any (fun pre => [(6, .v (.d (.int .i64 ((opsEs pre).length : Nat)))), (7, .v (.d (.int .i64 (pre.length : Nat)))), (5, .v (.d (.slice (roots.map E.row))))]) (fun _ => A)
    (fun pre suf => some (.tuple [.d (.int .i64 (fstS (opsEs suf) (opsEs pre).length).1), .d (.int .i64 (fstS (opsEs suf) (opsEs pre).length).2.1), .d (.bool (fstS (opsEs suf) (opsEs pre).length).2.2)], A)) roots rfl rfl rfl ?_
  intro pre suf hl ih
  have hb2 : pre.length < 9223372036854775807 := by rw [hl] at hll; simp at hll; omega
  cases suf with
  | nil =>
    rw [List.append_nil] at hl
    subst hl
    have e4 : decide ((roots.length : Int) < (roots.length : Int)) = false := by simp
    have e5 : fstS (opsEs []) (opsEs roots).length = (0, 0, false) := by simp [opsEs, fstS]
    rw [e5]
    simp (maxSteps := 1000000) only [go_sem, acondK_bool, acB_merge, Nat.reduceLT, Nat.reduceLeDiff, Nat.reduceEqDiff, Nat.reduceAdd, Nat.reduceSub, Nat.reduceMul, Nat.reduceBEq, Nat.reduceBNe, Nat.reduceBneDiff, Nat.reduceBeqDiff, Int.reduceToNat, Int.reduceLE, Int.reduceLT, Int.reduceEq, Int.reduceNe, Int.reduceNeg, Int.reduceAdd, Int.reduceSub, ↓reduceIte, reduceCtorEq, e4]
  | cons x suf =>
    have hx : x ∈ roots := by rw [hl]; simp
    have o1 := opsR x (hok x hx) (hb1 x hx) A
    have e2 := ih x suf rfl
    have g1 : (opsEs (pre ++ [x])).length = (opsEs pre).length + (opsE x).length := by rw [opsEs_append]; simp [opsEs]
    rw [List.length_append, List.length_cons, List.length_nil, g1] at e2
    have e3 : (roots.map E.row)[pre.length]? = some (E.row x) := by rw [hl]; exact map_mid
    have e4 : decide ((pre.length : Int) < (roots.length : Int)) = true := by rw [hl]; simp; omega
    have g2 : opsEs (x :: suf) = opsE x ++ opsEs suf := rfl
    have hbx : (opsEs pre).length + (opsE x).length ≤ 160400 := by rw [hl, opsEs_append] at hb; simp only [List.length_append, opsEs] at hb; omega
    rw [E.row_eq] at e3
    rw [g2]
    simp (maxSteps := 1000000) only [go_sem, acondK_bool, acB_merge, Nat.reduceLT, Nat.reduceLeDiff, Nat.reduceEqDiff, Nat.reduceAdd, Nat.reduceSub, Nat.reduceMul, Nat.reduceBEq, Nat.reduceBNe, Nat.reduceBneDiff, Nat.reduceBeqDiff, Int.reduceToNat, Int.reduceLE, Int.reduceLT, Int.reduceEq, Int.reduceNe, Int.reduceNeg, Int.reduceAdd, Int.reduceSub, ↓reduceIte, reduceCtorEq, e3, e4, o1]
    generalize opsE x = l at *
    refine loop_any (fun pre2 => [(5, .v (.d (.slice (roots.map E.row)))), (7, .v (.d (.int .i64 (pre.length : Nat)))), (8, .v (.d (.slice (l.map iRow)))), (9, .v (.d (.int .i64 (pre2.length : Nat)))), (6, .v (.d (.int .i64 (((opsEs pre).length + pre2.length : Nat) : Int))))]) (fun _ => A)
      (fun pre2 suf2 => some (.tuple [.d (.int .i64 (fstS (suf2 ++ opsEs suf) ((opsEs pre).length + pre2.length)).1), .d (.int .i64 (fstS (suf2 ++ opsEs suf) ((opsEs pre).length + pre2.length)).2.1), .d (.bool (fstS (suf2 ++ opsEs suf) ((opsEs pre).length + pre2.length)).2.2)], A)) l rfl rfl rfl ?_
    intro pre2 suf2 hl2 ih2
    cases suf2 with
    | nil =>
      rw [List.append_nil] at hl2
      subst hl2
      have e5 : decide ((l.length : Int) < (l.length : Int)) = false := by simp
      simp (maxSteps := 1000000) only [go_sem, acondK_bool, acB_merge, Nat.reduceLT, Nat.reduceLeDiff, Nat.reduceEqDiff, Nat.reduceAdd, Nat.reduceSub, Nat.reduceMul, Nat.reduceBEq, Nat.reduceBNe, Nat.reduceBneDiff, Nat.reduceBeqDiff, Int.reduceToNat, Int.reduceLE, Int.reduceLT, Int.reduceEq, Int.reduceNe, Int.reduceNeg, Int.reduceAdd, Int.reduceSub, ↓reduceIte, reduceCtorEq, e5, e2, wrap_nat hb2]
    | cons y suf2 =>
      have hb3 : pre2.length < 9223372036854775807 := by rw [hl2] at hbx; simp at hbx; omega
      have hb4 : (opsEs pre).length + pre2.length < 9223372036854775807 := by rw [hl2] at hbx; simp at hbx; omega
      have d2 := ih2 y suf2 rfl
      rw [List.length_append, List.length_cons, List.length_nil, Nat.zero_add, ← Nat.add_assoc (opsEs pre).length] at d2
      have d3 : (l.map iRow)[pre2.length]? = some [.int .i64 y] := by rw [hl2]; exact map_mid
      have d4 : decide ((pre2.length : Int) < (l.length : Int)) = true := by rw [hl2]; simp; omega
      have d5 : fstS (y :: suf2 ++ opsEs suf) ((opsEs pre).length + pre2.length) = if ndS y = true then (y, (((opsEs pre).length + pre2.length : Nat) : Int), true) else fstS (suf2 ++ opsEs suf) ((opsEs pre).length + pre2.length + 1) := rfl
      rw [d5]
      cases h1 : ndS y with
      | true => simp (maxSteps := 1000000) only [go_sem, acondK_bool, acB_merge, Nat.reduceLT, Nat.reduceLeDiff, Nat.reduceEqDiff, Nat.reduceAdd, Nat.reduceSub, Nat.reduceMul, Nat.reduceBEq, Nat.reduceBNe, Nat.reduceBneDiff, Nat.reduceBeqDiff, Int.reduceToNat, Int.reduceLE, Int.reduceLT, Int.reduceEq, Int.reduceNe, Int.reduceNeg, Int.reduceAdd, Int.reduceSub, ↓reduceIte, reduceCtorEq, d3, d4, ndR, h1]
      | false => simp (maxSteps := 1000000) only [go_sem, acondK_bool, acB_merge, Nat.reduceLT, Nat.reduceLeDiff, Nat.reduceEqDiff, Nat.reduceAdd, Nat.reduceSub, Nat.reduceMul, Nat.reduceBEq, Nat.reduceBNe, Nat.reduceBneDiff, Nat.reduceBeqDiff, Int.reduceToNat, Int.reduceLE, Int.reduceLT, Int.reduceEq, Int.reduceNe, Int.reduceNeg, Int.reduceAdd, Int.reduceSub, ↓reduceIte, reduceCtorEq, d3, d4, ndR, h1, d2, wrap_nat hb3, wrap_nat hb4]
theorem checkOfG (p : Pr) (hp : p.Ok) (A : AHeap) : acl C 22 [Pr.av p] A = some (.d (.int .i64 (chkS p)), A) := by
  by_cases h : valS p = 0
  · exact checkOf p hp (by have := ((prmS_zero3 _).1 ((valS_zero p).1 h).prm).1.2; omega) A
  · have v1 := validate p hp
    have h1 : decide (valS p = 0) = false := by simpa using h
    have f0 : ∀ n, afinR C 44 A A (some (.tuple [.nilM, .d (.int .i64 n)])) = some (.tuple [.nilM, .d (.int .i64 n)], A) :=
      fun n => afinR_still (c := C) (f := 44) (v := .tuple [.nilM, .d (.int .i64 n)]) rfl rfl
    have h2 : preErr p = valS p := by unfold preErr; rw [if_neg (by rw [h1]; decide)]
    have h3 : decide (preErr p = 0) = false := by rw [h2]; exact h1
    have c1 : acl C 44 [Pr.av p] A = some (.tuple [.nilM, .d (.int .i64 (preErr p))], A) := by
      rw [k_call (c := C) (f := 44) rfl Tryz.func44 rfl (ok 44 (by kernel_rfl)) rfl Tryz.ntmps44 Tryz.results44 (by simp)]
      rw [h2]
      simp (maxSteps := 1000000) only [go_sem, acondK_bool, acB_merge, Nat.reduceLT, Nat.reduceLeDiff, Nat.reduceEqDiff, Nat.reduceAdd, Nat.reduceSub, Nat.reduceMul, Nat.reduceBEq, Nat.reduceBNe, Nat.reduceBneDiff, Nat.reduceBeqDiff, Int.reduceToNat, Int.reduceLE, Int.reduceLT, Int.reduceEq, Int.reduceNe, Int.reduceNeg, Int.reduceAdd, Int.reduceSub, ↓reduceIte, reduceCtorEq, v1, h1, f0]
    rw [k_call (c := C) (f := 22) rfl Tryz.func22 rfl (ok 22 (by kernel_rfl)) rfl Tryz.ntmps22 Tryz.results22 (by simp)]
    unfold chkS
    rw [h3, if_neg (by decide)]
    simp (maxSteps := 1000000) only [go_sem, acondK_bool, acB_merge, Nat.reduceLT, Nat.reduceLeDiff, Nat.reduceEqDiff, Nat.reduceAdd, Nat.reduceSub, Nat.reduceMul, Nat.reduceBEq, Nat.reduceBNe, Nat.reduceBneDiff, Nat.reduceBeqDiff, Int.reduceToNat, Int.reduceLE, Int.reduceLT, Int.reduceEq, Int.reduceNe, Int.reduceNeg, Int.reduceAdd, Int.reduceSub, ↓reduceIte, reduceCtorEq, c1]
theorem checkRG (p : Pr) (hp : p.Ok) (A : AHeap) : acl C 26 [Pr.av p] A = some (.d (.int .i64 (chkT p)), A) := by
  by_cases h : valS p = 0
  · exact checkR p hp (by have := ((prmS_zero3 _).1 ((valS_zero p).1 h).prm).1.2; omega) A
  · have v1 := validateR p hp
    have h1 : decide (valS p = 0) = false := by simpa using h
    rw [k_call (c := C) (f := 26) rfl Tryz.func26 rfl (ok 26 (by kernel_rfl)) rfl Tryz.ntmps26 Tryz.results26 (by simp)]
    unfold chkT
    rw [h1]
    simp (maxSteps := 1000000) only [go_sem, acondK_bool, acB_merge, Nat.reduceLT, Nat.reduceLeDiff, Nat.reduceEqDiff, Nat.reduceAdd, Nat.reduceSub, Nat.reduceMul, Nat.reduceBEq, Nat.reduceBNe, Nat.reduceBneDiff, Nat.reduceBeqDiff, Int.reduceToNat, Int.reduceLE, Int.reduceLT, Int.reduceEq, Int.reduceNe, Int.reduceNeg, Int.reduceAdd, Int.reduceSub, ↓reduceIte, reduceCtorEq, v1, h1]
def detS (p : Pr) : Int := if decide (chkS p = 0) = true then (if (fstP p).2.2 = true then 12 else 0) else chkS p
theorem detR (p : Pr) (hp : p.Ok) (A : AHeap) : acl C 54 [Pr.av p] A = some (.d (.int .i64 (detS p)), A) := by
  have c1 := checkRG p hp A
  have f1 := firstR p hp A
  rw [← chk_eq] at c1
  rw [k_call (c := C) (f := 54) rfl Tryz.func54 rfl (ok 54 (by kernel_rfl)) rfl Tryz.ntmps54 Tryz.results54 (by simp)]
  unfold detS
  cases h1 : decide (chkS p = 0) with
  | false => simp (maxSteps := 1000000) only [go_sem, acondK_bool, acB_merge, Nat.reduceLT, Nat.reduceLeDiff, Nat.reduceEqDiff, Nat.reduceAdd, Nat.reduceSub, Nat.reduceMul, Nat.reduceBEq, Nat.reduceBNe, Nat.reduceBneDiff, Nat.reduceBeqDiff, Int.reduceToNat, Int.reduceLE, Int.reduceLT, Int.reduceEq, Int.reduceNe, Int.reduceNeg, Int.reduceAdd, Int.reduceSub, ↓reduceIte, reduceCtorEq, c1, h1]
  | true => cases h2 : (fstP p).2.2 <;> simp (maxSteps := 1000000) only [go_sem, acondK_bool, acB_merge, Nat.reduceLT, Nat.reduceLeDiff, Nat.reduceEqDiff, Nat.reduceAdd, Nat.reduceSub, Nat.reduceMul, Nat.reduceBEq, Nat.reduceBNe, Nat.reduceBneDiff, Nat.reduceBeqDiff, Int.reduceToNat, Int.reduceLE, Int.reduceLT, Int.reduceEq, Int.reduceNe, Int.reduceNeg, Int.reduceAdd, Int.reduceSub, ↓reduceIte, reduceCtorEq, c1, h1, f1, h2]
end Go.Proofs.YtjmghomnbmbjnaaGreat
