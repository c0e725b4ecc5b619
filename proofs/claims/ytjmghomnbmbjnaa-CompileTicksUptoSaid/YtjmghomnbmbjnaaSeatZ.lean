/- How often an opcode stands in the code: the plain part. -/
import Derived.Test.YtjmghomnbmbjnaaSeatU
import Derived.Test.YtjmghomnbmbjnaaSeatY
import Derived.Test.YtjmghomnbmbjnaaSeatK
set_option linter.unusedVariables false
set_option linter.unusedSimpArgs false
set_option linter.all false
set_option linter.deprecated false
set_option linter.all false
namespace Go.Proofs.Ytjmghomnbmbjnaa
open Go.Abs
set_option maxRecDepth 10000
def cnt : List In → Int → Nat
  | [], _ => 0
  | x :: l, o => (if decide (x.op = o) = true then 1 else 0) + cnt l o
theorem cnt_append : ∀ (l m : List In) (o : Int), cnt (l ++ m) o = cnt l o + cnt m o
  | [], m, o => by simp [cnt]
  | x :: l, m, o => by simp only [List.cons_append, cnt, cnt_append l m o]; omega
def vst : List Vis → Nat
  | [] => 0
  | .s _ _ :: l => 1 + vst l
  | .e _ _ :: l => vst l
def vlp : List Vis → Nat
  | [] => 0
  | .s x _ :: l => (if decide (x.op = 6) = true then 1 else 0) + vlp l
  | .e _ _ :: l => vlp l
theorem vst_append : ∀ l m : List Vis, vst (l ++ m) = vst l + vst m
  | [], m => by simp [vst]
  | .s x d :: l, m => by simp only [List.cons_append, vst, vst_append l m]; omega
  | .e x d :: l, m => by simp only [List.cons_append, vst, vst_append l m]
theorem vlp_append : ∀ l m : List Vis, vlp (l ++ m) = vlp l + vlp m
  | [], m => by simp [vlp]
  | .s x d :: l, m => by simp only [List.cons_append, vlp, vlp_append l m]; omega
  | .e x d :: l, m => by simp only [List.cons_append, vlp, vlp_append l m]
theorem vst_le : ∀ l : List Vis, vst l ≤ l.length
  | [] => Nat.le_refl _
  | .s x d :: l => by have := vst_le l; simp only [vst, List.length_cons]; omega
  | .e x d :: l => by have := vst_le l; simp only [vst, List.length_cons]; omega
theorem vlp_le : ∀ l : List Vis, vlp l ≤ l.length
  | [] => Nat.le_refl _
  | .s x d :: l => by have := vlp_le l; simp only [vlp, List.length_cons]; split <;> omega
  | .e x d :: l => by have := vlp_le l; simp only [vlp, List.length_cons]; omega
theorem vst_e : ∀ l : List Vis, (∀ v ∈ l, ∃ e r, v = Vis.e e r) → vst l = 0 ∧ vlp l = 0
  | [], _ => ⟨rfl, rfl⟩
  | .s x d :: l, h => by
    obtain ⟨e, r, he⟩ := h (.s x d) (by simp)
    cases he
  | .e x d :: l, h => vst_e l fun v hv => h v (List.mem_cons_of_mem _ hv)
mutual
theorem visE_e : ∀ (e : E) (r : Bool), ∀ v ∈ visE e r, ∃ e r, v = Vis.e e r
  | .mk op n s args, r, v, hv => by
    rw [visE] at hv
    rcases List.mem_cons.1 hv with h | h
    · exact ⟨_, _, h⟩
    · exact visEs_e args v h
theorem visEs_e : ∀ (l : List E), ∀ v ∈ visEs l, ∃ e r, v = Vis.e e r
  | [], v, hv => by rw [visEs] at hv; cases hv
  | x :: l, v, hv => by
    rw [visEs] at hv
    rcases List.mem_append.1 hv with h | h
    · exact visE_e x false v h
    · exact visEs_e l v h
end
mutual
theorem codeM_cnt (S : List Bytes) (o : Int) (h1 : o ≠ 1) (h2 : o ≠ 2) (h3 : o ≠ 3) (h5 : o ≠ 5) : ∀ e : E, cnt (codeM S e) o = 0
  | .mk op n s args => by
    have ih := codeMs_cnt S o h1 h2 h3 h5 args
    have q1 : decide ((1 : Int) = o) = false := by simp; omega
    have q2 : decide ((2 : Int) = o) = false := by simp; omega
    have q3 : decide ((3 : Int) = o) = false := by simp; omega
    have q5 : decide ((5 : Int) = o) = false := by simp; omega
    rw [codeM]
    by_cases c1 : decide (op = 1) = true
    · rw [if_pos c1, cnt, q1]; rfl
    rw [if_neg c1]
    by_cases c2 : decide (op = 2) = true
    · rw [if_pos c2, cnt, q2]; rfl
    rw [if_neg c2]
    by_cases c3 : decide (op = 3) = true
    · rw [if_pos c3, cnt, one, q3]; rfl
    rw [if_neg c3, cnt_append, ih, cnt, one, q5]
    rfl
theorem codeMs_cnt (S : List Bytes) (o : Int) (h1 : o ≠ 1) (h2 : o ≠ 2) (h3 : o ≠ 3) (h5 : o ≠ 5) : ∀ l : List E, cnt (codeMs S l) o = 0
  | [] => rfl
  | x :: l => by rw [codeMs, cnt_append, codeM_cnt S o h1 h2 h3 h5 x, codeMs_cnt S o h1 h2 h3 h5 l]
end
theorem visEx (e : E) : vst (if absE e = true then [] else visE e true) = 0 ∧ vlp (if absE e = true then [] else visE e true) = 0 := by
  by_cases h : absE e = true
  · rw [if_pos h]; exact ⟨rfl, rfl⟩
  · rw [if_neg h]; exact vst_e _ (visE_e e true)
def Cn (l : List In) (v : List Vis) : Prop := cnt l 14 = vst v + vlp v ∧ cnt l 12 = vlp v ∧ cnt l 13 = 0
mutual
theorem cdS_cnt (S : List Bytes) : ∀ (x : Stm) (d : Int) (k : Nat), (∀ y j, Vis.s y j ∈ visS x d → StmOk y j) → Cn (cdS S x k) (visS x d)
  | .mk op name max a b body els, d, k, hv => by
    have hs := hv _ d (vis_self _ d)
    have hop := hs.op
    have hbo := hs.nbody
    have hel := hs.nels
    simp only [Stm.op, Stm.body, Stm.els] at hop hbo hel
    have ib := fun k => cdL_cnt S body (IntKind.i64.wrap (d + 1)) k fun y j hy => hv y j (vis_body _ hy)
    have ie := fun k => cdL_cnt S els (IntKind.i64.wrap (d + 1)) k fun y j hy => hv y j (vis_els _ hy)
    obtain ⟨va1, va2⟩ := visEx a
    obtain ⟨vb1, vb2⟩ := visEx b
    have a14 := codeM_cnt S 14 (by decide) (by decide) (by decide) (by decide) a
    have a12 := codeM_cnt S 12 (by decide) (by decide) (by decide) (by decide) a
    have a13 := codeM_cnt S 13 (by decide) (by decide) (by decide) (by decide) a
    have b14 := codeM_cnt S 14 (by decide) (by decide) (by decide) (by decide) b
    have b12 := codeM_cnt S 12 (by decide) (by decide) (by decide) (by decide) b
    have b13 := codeM_cnt S 13 (by decide) (by decide) (by decide) (by decide) b
    have e0 : ∀ d, visSs [] d = [] := fun d => by rw [visSs]
    rw [visS, cdS_mk]
    unfold Cn
    simp only [vst, vlp, vst_append, vlp_append, va1, va2, vb1, vb2]
    have ho : op = 1 ∨ op = 2 ∨ op = 3 ∨ op = 4 ∨ op = 5 ∨ op = 6 ∨ op = 7 ∨ op = 8 := by omega
    rcases ho with rfl | rfl | rfl | rfl | rfl | rfl | rfl | rfl
    · rw [hbo rfl, hel rfl, e0]
      refine ⟨?_, ?_, ?_⟩
      · change cnt (one 14 0 :: (codeM S a ++ [one 4 (idxM S name)])) 14 = 1
        rw [cnt, cnt_append, a14]; rfl
      · change cnt (one 14 0 :: (codeM S a ++ [one 4 (idxM S name)])) 12 = 0
        rw [cnt, cnt_append, a12]; rfl
      · change cnt (one 14 0 :: (codeM S a ++ [one 4 (idxM S name)])) 13 = 0
        rw [cnt, cnt_append, a13]; rfl
    · rw [hbo rfl, hel rfl, e0]
      refine ⟨?_, ?_, ?_⟩
      · change cnt (one 14 0 :: (codeM S a ++ [one 4 (idxM S name)])) 14 = 1
        rw [cnt, cnt_append, a14]; rfl
      · change cnt (one 14 0 :: (codeM S a ++ [one 4 (idxM S name)])) 12 = 0
        rw [cnt, cnt_append, a12]; rfl
      · change cnt (one 14 0 :: (codeM S a ++ [one 4 (idxM S name)])) 13 = 0
        rw [cnt, cnt_append, a13]; rfl
    · rw [hbo rfl, hel rfl, e0]
      refine ⟨?_, ?_, ?_⟩
      · change cnt (one 14 0 :: (codeM S a ++ (codeM S b ++ [one 8 0]))) 14 = 1
        rw [cnt, cnt_append, cnt_append, a14, b14]; rfl
      · change cnt (one 14 0 :: (codeM S a ++ (codeM S b ++ [one 8 0]))) 12 = 0
        rw [cnt, cnt_append, cnt_append, a12, b12]; rfl
      · change cnt (one 14 0 :: (codeM S a ++ (codeM S b ++ [one 8 0]))) 13 = 0
        rw [cnt, cnt_append, cnt_append, a13, b13]; rfl
    · rw [hbo rfl, hel rfl, e0]
      refine ⟨?_, ?_, ?_⟩
      · change cnt (one 14 0 :: (codeM S a ++ [one 9 0])) 14 = 1
        rw [cnt, cnt_append, a14]; rfl
      · change cnt (one 14 0 :: (codeM S a ++ [one 9 0])) 12 = 0
        rw [cnt, cnt_append, a12]; rfl
      · change cnt (one 14 0 :: (codeM S a ++ [one 9 0])) 13 = 0
        rw [cnt, cnt_append, a13]; rfl
    · have hb := ib (k + 1 + (codeM S a).length + 1)
      have he := ie (k + 1 + (codeM S a).length + 2 + (cdL S body (k + 1 + (codeM S a).length + 1)).length)
      have key : ∀ o : Int, o ≠ 7 → o ≠ 6 → cnt (brM (fun j => cdL S body j) (fun j => cdL S els j) (decide ((els.length : Int) = 0)) (k + 1 + (codeM S a).length)) o =
          cnt (cdL S body (k + 1 + (codeM S a).length + 1)) o + cnt (cdL S els (k + 1 + (codeM S a).length + 2 + (cdL S body (k + 1 + (codeM S a).length + 1)).length)) o := by
        intro o h7 h6
        have q7 : decide ((7 : Int) = o) = false := by simp; omega
        have q6 : decide ((6 : Int) = o) = false := by simp; omega
        unfold brM
        dsimp only
        by_cases hc : decide ((els.length : Int) = 0) = true
        · have : els = [] := by cases els with
            | nil => rfl
            | cons _ _ => simp at hc; omega
          subst this
          rw [if_pos hc, cnt, one, q7, cdL, cnt]
          simp
        · rw [if_neg hc, cnt, one, q7, cnt_append, cnt, one, q6]
          simp
      generalize brM (fun j => cdL S body j) (fun j => cdL S els j) (decide ((els.length : Int) = 0)) (k + 1 + (codeM S a).length) = P at *
      generalize cdL S body (k + 1 + (codeM S a).length + 1) = B at *
      generalize cdL S els (k + 1 + (codeM S a).length + 2 + B.length) = L at *
      obtain ⟨hb1, hb2, hb3⟩ := hb
      obtain ⟨he1, he2, he3⟩ := he
      refine ⟨?_, ?_, ?_⟩
      · change cnt (one 14 0 :: (codeM S a ++ P)) 14 = _
        rw [cnt, cnt_append, a14, key 14 (by decide) (by decide), hb1, he1]
        simp [one, Stm.op]; omega
      · change cnt (one 14 0 :: (codeM S a ++ P)) 12 = _
        rw [cnt, cnt_append, a12, key 12 (by decide) (by decide), hb2, he2]
        simp [one, Stm.op]
      · change cnt (one 14 0 :: (codeM S a ++ P)) 13 = _
        rw [cnt, cnt_append, a13, key 13 (by decide) (by decide), hb3, he3]
        simp [one]
    · rw [hel rfl, e0]
      have hb := ib (k + 1 + (codeM S a).length + (codeM S b).length + 8)
      have key : ∀ o : Int, o ≠ 1 → o ≠ 3 → o ≠ 4 → o ≠ 5 → o ≠ 6 → o ≠ 7 → cnt (codeM S b) o = 0 → cnt (lpM (fun j => cdL S body j) (codeM S b) (idxM S name) max (k + 1 + (codeM S a).length)) o =
          (if decide ((12 : Int) = o) = true then 1 else 0) + (if decide ((14 : Int) = o) = true then 1 else 0) + cnt (cdL S body (k + 1 + (codeM S a).length + (codeM S b).length + 8)) o := by
        intro o h1 h3 h4 h5 h6 h7 hbo
        have q1 : decide ((1 : Int) = o) = false := by simp; omega
        have q3 : decide ((3 : Int) = o) = false := by simp; omega
        have q4 : decide ((4 : Int) = o) = false := by simp; omega
        have q5 : decide ((5 : Int) = o) = false := by simp; omega
        have q6 : decide ((6 : Int) = o) = false := by simp; omega
        have q7 : decide ((7 : Int) = o) = false := by simp; omega
        unfold lpM lpHead lpTest lpNext one
        dsimp only
        simp only [cnt_append, cnt, q1, q3, q4, q5, q6, q7, hbo, Bool.false_eq_true, if_false]
        omega
      generalize lpM (fun j => cdL S body j) (codeM S b) (idxM S name) max (k + 1 + (codeM S a).length) = P at *
      generalize cdL S body (k + 1 + (codeM S a).length + (codeM S b).length + 8) = B at *
      obtain ⟨hb1, hb2, hb3⟩ := hb
      refine ⟨?_, ?_, ?_⟩
      · change cnt (one 14 0 :: (codeM S a ++ P)) 14 = _
        rw [cnt, cnt_append, a14, key 14 (by decide) (by decide) (by decide) (by decide) (by decide) (by decide) b14, hb1]
        simp [one, vst, vlp, Stm.op]; omega
      · change cnt (one 14 0 :: (codeM S a ++ P)) 12 = _
        rw [cnt, cnt_append, a12, key 12 (by decide) (by decide) (by decide) (by decide) (by decide) (by decide) b12, hb2]
        simp [one, vst, vlp, Stm.op]
      · change cnt (one 14 0 :: (codeM S a ++ P)) 13 = _
        rw [cnt, cnt_append, a13, key 13 (by decide) (by decide) (by decide) (by decide) (by decide) (by decide) b13, hb3]
        simp [one, vst, vlp, Stm.op]
    · rw [hbo rfl, hel rfl, e0]
      refine ⟨?_, ?_, ?_⟩
      · change cnt (one 14 0 :: (codeM S a ++ [one 10 0])) 14 = 1
        rw [cnt, cnt_append, a14]; rfl
      · change cnt (one 14 0 :: (codeM S a ++ [one 10 0])) 12 = 0
        rw [cnt, cnt_append, a12]; rfl
      · change cnt (one 14 0 :: (codeM S a ++ [one 10 0])) 13 = 0
        rw [cnt, cnt_append, a13]; rfl
    · rw [hbo rfl, hel rfl, e0]
      exact ⟨rfl, rfl, rfl⟩
theorem cdL_cnt (S : List Bytes) : ∀ (l : List Stm) (d : Int) (k : Nat), (∀ y j, Vis.s y j ∈ visSs l d → StmOk y j) → Cn (cdL S l k) (visSs l d)
  | [], d, k, hv => by rw [cdL, visSs]; exact ⟨rfl, rfl, rfl⟩
  | x :: l, d, k, hv => by
    rw [visSs] at hv
    obtain ⟨g1, g2, g3⟩ := cdS_cnt S x d k fun y j hy => hv y j (List.mem_append_left _ hy)
    obtain ⟨g4, g5, g6⟩ := cdL_cnt S l d (k + (cdS S x k).length) fun y j hy => hv y j (List.mem_append_right _ hy)
    rw [cdL_cons, visSs]
    unfold Cn
    rw [vst_append, vlp_append, cnt_append, cnt_append, cnt_append, g1, g2, g3, g4, g5, g6]
    refine ⟨?_, rfl, rfl⟩
    omega
end
theorem slV_cnt : ∀ l : List Vis, (slV l).length = (namesV l).length + vlp l
  | [] => rfl
  | .e x r :: l => by simp only [slV, namesV, vlp]; exact slV_cnt l
  | .s x d :: l => by
    have ih := slV_cnt l
    simp only [slV, namesV, vlp]
    by_cases h1 : x.op = 1
    · simp [h1, ih]; omega
    · by_cases h6 : x.op = 6
      · simp [h6, ih]; omega
      · simp [h1, h6, ih]
theorem slots_cnt {p : Pr} (hc : chkS p = 0) : (slotsS p).length = (namesS p).length + vlp (visP p) := by
  unfold slotsS namesS
  rw [if_pos (by simpa using hc), List.length_append, List.length_append, slV_cnt]
  omega
end Go.Proofs.Ytjmghomnbmbjnaa
set_option linter.all false
namespace Go.Proofs.Ytjmghomnbmbjnaa
open Go.Abs
attribute [local congr] ite_congr
set_option maxRecDepth 10000
theorem cnt_le : ∀ (l : List In) (o : Int), cnt l o ≤ l.length
  | [], o => Nat.le_refl _
  | x :: l, o => by have := cnt_le l o; simp only [cnt, List.length_cons]; split <;> omega
theorem countsL (l : List In) (hl : l.length ≤ 4194303) (o : Int) (A : AHeap) : acl C 15 [.d (.slice (l.map In.row)), .d (.int .i64 o)] A = some (.d (.int .i64 (cnt l o : Nat)), A) := by
  rw [k_call (c := C) (f := 15) rfl Try.func15 rfl (ok 15 (by kernel_rfl)) rfl Try.ntmps15 Try.results15 (by simp)]
  simp (maxSteps := 1000000) only [go_sem, acondK_bool, acB_merge, Nat.reduceLT, Nat.reduceLeDiff, Nat.reduceEqDiff, Nat.reduceAdd, Nat.reduceSub, Nat.reduceMul, Nat.reduceBEq, Nat.reduceBNe, Nat.reduceBneDiff, Nat.reduceBeqDiff, Int.reduceToNat, Int.reduceLE, Int.reduceLT, Int.reduceEq, Int.reduceNe, Int.reduceNeg, Int.reduceAdd, Int.reduceSub, ↓reduceIte, reduceCtorEq]
  refine loop_any (fun pre => [(5, .v (.d (.int .i64 (cnt pre o : Nat)))), (6, .v (.d (.int .i64 (pre.length : Nat)))), (1, .v (.d (.int .i64 o))), (0, .v (.d (.slice (l.map In.row))))])
    (fun _ => A) (fun _ _ => some (.d (.int .i64 (cnt l o : Nat)), A)) l rfl rfl rfl ?_
  intro pre suf h ih
  have hb : pre.length < 9223372036854775807 := by rw [h] at hl; simp at hl; omega
  cases suf with
  | nil =>
    rw [List.append_nil] at h
    subst h
    have e4 : decide ((l.length : Int) < (l.length : Int)) = false := by simp
    simp (maxSteps := 1000000) only [go_sem, acondK_bool, acB_merge, Nat.reduceLT, Nat.reduceLeDiff, Nat.reduceEqDiff, Nat.reduceAdd, Nat.reduceSub, Nat.reduceMul, Nat.reduceBEq, Nat.reduceBNe, Nat.reduceBneDiff, Nat.reduceBeqDiff, Int.reduceToNat, Int.reduceLE, Int.reduceLT, Int.reduceEq, Int.reduceNe, Int.reduceNeg, Int.reduceAdd, Int.reduceSub, ↓reduceIte, reduceCtorEq, e4]
  | cons x suf =>
    have e2 := ih x suf rfl
    rw [List.length_append, List.length_cons, List.length_nil, cnt_append] at e2
    have e3 : (l.map In.row)[pre.length]? = some [.int .i64 x.op, .int .i64 x.a, .int .i64 x.b, .int .i64 x.n, .str x.s] := by rw [h]; exact map_mid
    have e4 : decide ((pre.length : Int) < (l.length : Int)) = true := by rw [h]; simp; omega
    have hc := cnt_le pre o
    have hc2 : cnt pre o < 9223372036854775807 := by omega
    generalize cnt pre o = n at *
    cases h5 : decide (x.op = o) with
    | true =>
      have : cnt [x] o = 1 := by simp only [cnt, h5]; rfl
      rw [this] at e2
      simp (maxSteps := 1000000) only [go_sem, acondK_bool, acB_merge, Nat.reduceLT, Nat.reduceLeDiff, Nat.reduceEqDiff, Nat.reduceAdd, Nat.reduceSub, Nat.reduceMul, Nat.reduceBEq, Nat.reduceBNe, Nat.reduceBneDiff, Nat.reduceBeqDiff, Int.reduceToNat, Int.reduceLE, Int.reduceLT, Int.reduceEq, Int.reduceNe, Int.reduceNeg, Int.reduceAdd, Int.reduceSub, ↓reduceIte, reduceCtorEq, e3, e4, h5, e2, wrap_nat hb, wrap_nat hc2]
    | false =>
      have : cnt [x] o = 0 := by simp only [cnt, h5]; rfl
      rw [this, Nat.add_zero] at e2
      simp (maxSteps := 1000000) only [go_sem, acondK_bool, acB_merge, Nat.reduceLT, Nat.reduceLeDiff, Nat.reduceEqDiff, Nat.reduceAdd, Nat.reduceSub, Nat.reduceMul, Nat.reduceBEq, Nat.reduceBNe, Nat.reduceBneDiff, Nat.reduceBeqDiff, Int.reduceToNat, Int.reduceLE, Int.reduceLT, Int.reduceEq, Int.reduceNe, Int.reduceNeg, Int.reduceAdd, Int.reduceSub, ↓reduceIte, reduceCtorEq, e3, e4, h5, e2, wrap_nat hb]
end Go.Proofs.Ytjmghomnbmbjnaa
set_option linter.all false
namespace Go.Proofs.Ytjmghomnbmbjnaa
open Go.Abs
-- CTX D
attribute [local congr] ite_congr
set_option maxRecDepth 10000
set_option maxHeartbeats 4000000 in
theorem lawCompileTicks (p : Pr) (hp : p.Ok) : acl D 4 [Pr.av p] A00 = some (.d (.bool true), A00) := by
  have sm := up (small p hp 1600 A00)
  have w := works
  rw [k_call (c := D) (f := 4) rfl Try.func4 rfl (ok 4 (by kernel_rfl)) rfl Try.ntmps4 Try.results4 (by simp)]
  cases hs : smallS p 1600 with
  | false => simp (maxSteps := 1000000) only [go_sem, acondK_bool, acB_merge, Nat.reduceLT, Nat.reduceLeDiff, Nat.reduceEqDiff, Nat.reduceAdd, Nat.reduceSub, Nat.reduceMul, Nat.reduceBEq, Nat.reduceBNe, Nat.reduceBneDiff, Nat.reduceBeqDiff, Int.reduceToNat, Int.reduceLE, Int.reduceLT, Int.reduceEq, Int.reduceNe, Int.reduceNeg, Int.reduceAdd, Int.reduceSub, ↓reduceIte, reduceCtorEq, k_drawn_q, sm, w, hs]
  | true =>
  have h40 := small40 hs
  have o1 := procOf p hp h40 A00
  unfold codeAv at o1
  by_cases hE : prE p = 0
  case neg =>
    have hE' : decide (prE p = 0) = false := by simpa using hE
    generalize prE p = k at *
    simp (maxSteps := 1000000) only [go_sem, acondK_bool, acB_merge, Nat.reduceLT, Nat.reduceLeDiff, Nat.reduceEqDiff, Nat.reduceAdd, Nat.reduceSub, Nat.reduceMul, Nat.reduceBEq, Nat.reduceBNe, Nat.reduceBneDiff, Nat.reduceBeqDiff, Int.reduceToNat, Int.reduceLE, Int.reduceLT, Int.reduceEq, Int.reduceNe, Int.reduceNeg, Int.reduceAdd, Int.reduceSub, ↓reduceIte, reduceCtorEq, k_drawn_q, sm, w, hs, o1, hE']
  have hE' : decide (prE p = 0) = true := by simpa using hE
  have hc : costC p = 0 := by
    apply Classical.byContradiction
    intro h
    unfold prE at hE
    rw [if_neg h] at hE
    exact h hE
  have h64 : ¬ (64 < ((slotsS p).length : Int)) := by
    intro h
    unfold prE at hE
    rw [if_pos hc, if_pos h] at hE
    cases hE
  have hk := det_chk (cost_det hc)
  obtain ⟨V, _⟩ := chk_zero hk
  have hT : prT p = p.params.map Pm.type := by unfold prT tyL; rw [if_pos hc, if_neg h64]
  have hN : prN p = ((slotsS p).length : Nat) := by unfold prN; rw [if_pos hc, if_neg h64]
  have hI : prI p = cdL (slotsS p) p.body 0 ++ [one 13 0] := by unfold prI cdP; rw [if_pos hc, if_neg h64]
  rw [hT, hN, hI, hE] at o1
  have hcl := cdL_len (slotsS p) p.body 0
  have hln := lnL_vld V
  obtain ⟨n14, n12, n13⟩ := cdL_cnt (slotsS p) p.body 1 0 (fun y j hy => stmtS_zero (V.stm y j hy))
  have hsl := slots_cnt hk
  rw [V.vis] at hsl
  have hvl := V.len
  have w1 := fun B => up (walkR p hp B)
  rw [V.vis] at w1
  have k1 := up (namesR p hp (by omega) A00)
  have hnl := namesS_len p h40
  have hst := vst_le (visSs p.body 1)
  have hlp := vlp_le (visSs p.body 1)
  generalize namesS p = N at *
  generalize slotsS p = S at *
  generalize hJ : cdL S p.body 0 = J at *
  generalize visSs p.body 1 = V at *
  have c13 := fun B => up (countsL (J ++ [one 13 0]) (by simp; omega) 13 B)
  have c14 := fun B => up (countsL (J ++ [one 13 0]) (by simp; omega) 14 B)
  have c12 := fun B => up (countsL (J ++ [one 13 0]) (by simp; omega) 12 B)
  have m13 : cnt (J ++ [one 13 0]) 13 = 1 := by rw [cnt_append, n13]; rfl
  have m14 : cnt (J ++ [one 13 0]) 14 = vst V + vlp V := by rw [cnt_append, n14]; rfl
  have m12 : cnt (J ++ [one 13 0]) 12 = vlp V := by rw [cnt_append, n12]; rfl
  rw [m13] at c13
  rw [m14] at c14
  rw [m12] at c12
  change ∀ B, acl D _ _ B = some (.d (.int .i64 1), B) at c13
  have li : (J ++ [one 13 0]).length = J.length + 1 := by simp
  have i0 : decide (((J.length + 1 : Nat) : Int) = 0) = false := by simp; omega
  have i1 : IntKind.i64.wrap (((J.length + 1 : Nat) : Int) - 1) = ((J.length : Nat) : Int) := by
    rw [show ((J.length + 1 : Nat) : Int) - 1 = ((J.length : Nat) : Int) by omega]
    exact wrap_in (by omega) (by omega)
  have i2 : ((J ++ [one 13 0]).map In.row)[J.length]? = some [.int .i64 13, .int .i64 0, .int .i64 0, .int .i64 0, .str []] := by
    rw [List.map_append, List.getElem?_append_right (by simp)]
    simp
    rfl
  have a1 : IntKind.i64.wrap (((vst V : Nat) : Int) + ((vlp V : Nat) : Int)) = ((vst V + vlp V : Nat) : Int) := by rw [wrap_in] <;> omega
  have a2 : IntKind.i64.wrap (((N.length : Nat) : Int) + ((vlp V : Nat) : Int)) = ((S.length : Nat) : Int) := by rw [hsl, wrap_in] <;> omega
  clear n14 n12 n13 m13 m14 m12
  simp (maxSteps := 1000000) only [go_sem, acondK_bool, acB_merge, Nat.reduceLT, Nat.reduceLeDiff, Nat.reduceEqDiff, Nat.reduceAdd, Nat.reduceSub, Nat.reduceMul, Nat.reduceBEq, Nat.reduceBNe, Nat.reduceBneDiff, Nat.reduceBeqDiff, Int.reduceToNat, Int.reduceLE, Int.reduceLT, Int.reduceEq, Int.reduceNe, Int.reduceNeg, Int.reduceAdd, Int.reduceSub, ↓reduceIte, reduceCtorEq, k_drawn_q, sm, w, hs, o1, hE', w1]
  generalize J ++ [one 13 0] = I at *
  refine loop_any (fun pre => [(6, .v (.d (.int .i64 (vst pre : Nat)))), (7, .v (.d (.int .i64 (vlp pre : Nat)))), (8, .v (.d (.int .i64 (pre.length : Nat)))), (5, .v (.d (.slice (V.map Vis.row)))), (1, .box [.d (.str p.name), .d (.slice (p.params.map Pm.row)), .d (.slice (p.body.map Stm.row))]), (3, .box [.d (.slice ((p.params.map Pm.type).map iRow)), .d (.int .i64 (S.length : Nat)), .d (.slice (I.map In.row))])])
    (fun _ => A00) (fun _ _ => some (.d (.bool true), A00)) V rfl rfl rfl ?_
  intro pre suf h ih
  have hb : pre.length < 9223372036854775807 := by rw [h] at hvl; simp at hvl; omega
  cases suf with
  | cons x suf =>
    have e2 := ih x suf rfl
    rw [List.length_append, List.length_cons, List.length_nil, vst_append, vlp_append] at e2
    have e3 : (V.map Vis.row)[pre.length]? = some (Vis.row x) := by rw [h]; exact map_mid
    have e4 : decide ((pre.length : Int) < (V.length : Int)) = true := by rw [h]; simp; omega
    have s1 := vst_le pre
    have s2 := vlp_le pre
    have hb1 : vst pre < 9223372036854775807 := by omega
    have hb2 : vlp pre < 9223372036854775807 := by omega
    generalize vst pre = ns at *
    generalize vlp pre = nl at *
    match x with
    | .e y r =>
      simp only [Vis.row] at e3
      change _ = _ at e2
      simp only [vst, vlp, Nat.add_zero] at e2
      simp (maxSteps := 1000000) only [go_sem, acondK_bool, acB_merge, Nat.reduceLT, Nat.reduceLeDiff, Nat.reduceEqDiff, Nat.reduceAdd, Nat.reduceSub, Nat.reduceMul, Nat.reduceBEq, Nat.reduceBNe, Nat.reduceBneDiff, Nat.reduceBeqDiff, Int.reduceToNat, Int.reduceLE, Int.reduceLT, Int.reduceEq, Int.reduceNe, Int.reduceNeg, Int.reduceAdd, Int.reduceSub, ↓reduceIte, reduceCtorEq, e3, e4, e2, wrap_nat hb]
    | .s x d =>
      simp only [Vis.row] at e3
      simp only [vst, vlp, Nat.add_zero] at e2
      cases h6 : decide (x.op = 6) with
      | true =>
        rw [h6, if_pos rfl] at e2
        simp (maxSteps := 1000000) only [go_sem, acondK_bool, acB_merge, Nat.reduceLT, Nat.reduceLeDiff, Nat.reduceEqDiff, Nat.reduceAdd, Nat.reduceSub, Nat.reduceMul, Nat.reduceBEq, Nat.reduceBNe, Nat.reduceBneDiff, Nat.reduceBeqDiff, Int.reduceToNat, Int.reduceLE, Int.reduceLT, Int.reduceEq, Int.reduceNe, Int.reduceNeg, Int.reduceAdd, Int.reduceSub, ↓reduceIte, reduceCtorEq, e3, e4, h6, e2, wrap_nat hb, wrap_nat hb1, wrap_nat hb2]
      | false =>
        simp only [h6, Bool.false_eq_true, if_false, Nat.add_zero] at e2
        simp (maxSteps := 1000000) only [go_sem, acondK_bool, acB_merge, Nat.reduceLT, Nat.reduceLeDiff, Nat.reduceEqDiff, Nat.reduceAdd, Nat.reduceSub, Nat.reduceMul, Nat.reduceBEq, Nat.reduceBNe, Nat.reduceBneDiff, Nat.reduceBeqDiff, Int.reduceToNat, Int.reduceLE, Int.reduceLT, Int.reduceEq, Int.reduceNe, Int.reduceNeg, Int.reduceAdd, Int.reduceSub, ↓reduceIte, reduceCtorEq, e3, e4, h6, e2, wrap_nat hb, wrap_nat hb1]
  | nil =>
    rw [List.append_nil] at h
    have e4 : decide ((pre.length : Int) < (V.length : Int)) = false := by rw [h]; simp
    subst h
    have q1 : decide (((vst V + vlp V : Nat) : Int) = ((vst V + vlp V : Nat) : Int)) = true := by simp
    have q2 : decide (((vlp V : Nat) : Int) = ((vlp V : Nat) : Int)) = true := by simp
    have q3 : decide (((S.length : Nat) : Int) = ((S.length : Nat) : Int)) = true := by simp
    have q4 : decide ((((p.params.map Pm.type).length : Nat) : Int) = ((p.params.length : Nat) : Int)) = true := by simp
    simp (maxSteps := 1000000) only [go_sem, acondK_bool, acB_merge, Nat.reduceLT, Nat.reduceLeDiff, Nat.reduceEqDiff, Nat.reduceAdd, Nat.reduceSub, Nat.reduceMul, Nat.reduceBEq, Nat.reduceBNe, Nat.reduceBneDiff, Nat.reduceBeqDiff, Int.reduceToNat, Int.reduceLE, Int.reduceLT, Int.reduceEq, Int.reduceNe, Int.reduceNeg, Int.reduceAdd, Int.reduceSub, ↓reduceIte, reduceCtorEq, e4, li, i0, i1, i2, c13, c14, c12, a1, q1, q2]
    simp (maxSteps := 1000000) only [go_sem, acondK_bool, acB_merge, Nat.reduceLT, Nat.reduceLeDiff, Nat.reduceEqDiff, Nat.reduceAdd, Nat.reduceSub, Nat.reduceMul, Nat.reduceBEq, Nat.reduceBNe, Nat.reduceBneDiff, Nat.reduceBeqDiff, Int.reduceToNat, Int.reduceLE, Int.reduceLT, Int.reduceEq, Int.reduceNe, Int.reduceNeg, Int.reduceAdd, Int.reduceSub, ↓reduceIte, reduceCtorEq, k_drawn_q, k1, a2, q3, q4]
    refine loop_any (fun pre => [(3, .box [.d (.slice ((p.params.map Pm.type).map iRow)), .d (.int .i64 (S.length : Nat)), .d (.slice (I.map In.row))]), (1, .box [.d (.str p.name), .d (.slice (p.params.map Pm.row)), .d (.slice (p.body.map Stm.row))]), (9, .v (.d (.int .i64 (pre.length : Nat))))])
      (fun _ => A00) (fun _ _ => some (.d (.bool true), A00)) p.params rfl rfl rfl ?_
    intro pre suf h ih
    have hb : pre.length < 9223372036854775807 := by rw [h] at h40; simp at h40; omega
    cases suf with
    | nil =>
      rw [List.append_nil] at h
      have e4 : decide (((pre.length : Nat) : Int) < ((p.params.length : Nat) : Int)) = false := by rw [h]; simp
      simp (maxSteps := 1000000) only [go_sem, acondK_bool, acB_merge, Nat.reduceLT, Nat.reduceLeDiff, Nat.reduceEqDiff, Nat.reduceAdd, Nat.reduceSub, Nat.reduceMul, Nat.reduceBEq, Nat.reduceBNe, Nat.reduceBneDiff, Nat.reduceBeqDiff, Int.reduceToNat, Int.reduceLE, Int.reduceLT, Int.reduceEq, Int.reduceNe, Int.reduceNeg, Int.reduceAdd, Int.reduceSub, ↓reduceIte, reduceCtorEq, e4, w]
    | cons x suf =>
      have e2 := ih x suf rfl
      rw [List.length_append, List.length_cons, List.length_nil] at e2
      have e3 : (p.params.map Pm.row)[pre.length]? = some [.str x.name, .int .i64 x.type] := by rw [h]; exact map_mid
      have e5 : ((p.params.map Pm.type).map iRow)[pre.length]? = some [.int .i64 x.type] := by rw [h]; simp [iRow]
      have e4 : decide (((pre.length : Nat) : Int) < ((p.params.length : Nat) : Int)) = true := by rw [h]; simp; omega
      have e7 : decide (x.type = x.type) = true := by simp
      simp (maxSteps := 1000000) only [go_sem, acondK_bool, acB_merge, Nat.reduceLT, Nat.reduceLeDiff, Nat.reduceEqDiff, Nat.reduceAdd, Nat.reduceSub, Nat.reduceMul, Nat.reduceBEq, Nat.reduceBNe, Nat.reduceBneDiff, Nat.reduceBeqDiff, Int.reduceToNat, Int.reduceLE, Int.reduceLT, Int.reduceEq, Int.reduceNe, Int.reduceNeg, Int.reduceAdd, Int.reduceSub, ↓reduceIte, reduceCtorEq, k_drawn_q, e3, e4, e5, e7, e2, wrap_nat hb]
end Go.Proofs.Ytjmghomnbmbjnaa
