/- The laws of the determinism chapter that look at one expression. -/
import Derived.Test.YtjmghomnbmbjnaaGreatSeatL
import Derived.Test.YtjmghomnbmbjnaaGreatSeatK
import Derived.Test.YtjmghomnbmbjnaaGreatGenD
set_option linter.unusedVariables false
set_option linter.unusedSimpArgs false
set_option linter.all false
set_option linter.deprecated false
set_option linter.all false
namespace Go.Proofs.YtjmghomnbmbjnaaGreat
open Go.Abs
-- CTX D
attribute [local congr] ite_congr
set_option maxRecDepth 10000
mutual
theorem ops_weight : ∀ (e : E), (opsE e).length ≤ wRow e.row
  | .mk op n s args => by
    have := opsEs_weight args
    rw [E.row_mk]
    simp only [opsE, List.length_cons, wRow, wD]
    omega
theorem opsEs_weight : ∀ (l : List E), (opsEs l).length ≤ wRows (l.map E.row)
  | [] => by simp [opsEs]
  | x :: l => by
    have h1 := ops_weight x
    have h2 := opsEs_weight l
    simp only [opsEs, List.length_append, List.map_cons, wRows]
    omega
end
end Go.Proofs.YtjmghomnbmbjnaaGreat
set_option linter.all false
namespace Go.Proofs.YtjmghomnbmbjnaaGreat
open Go.Abs
-- CTX D
attribute [local congr] ite_congr
set_option maxRecDepth 10000
theorem first_ops (p : Pr) (hp : p.Ok) (A : AHeap) : acl D 81 [Pr.av p] A = some (.tuple [.d (.int .i64 (fstP p).1), .d (.int .i64 (fstP p).2.1), .d (.bool (fstP p).2.2)], A) :=
  firstD p hp (fun h => by have := few_ops p h; omega) A
theorem detD (p : Pr) (hp : p.Ok) (A : AHeap) : acl D 50 [Pr.av p] A = some (.d (.int .i64 (detS p)), A) := by
  have c1 := up (checkOfG p hp A)
  have f1 := first_ops p hp A
  rw [k_call (c := D) (f := 50) rfl Tryz.func50 rfl (ok 50 (by kernel_rfl)) rfl Tryz.ntmps50 Tryz.results50 (by simp)]
  unfold detS
  cases h1 : decide (chkS p = 0) with
  | false => simp (maxSteps := 1000000) only [go_sem, acondK_bool, acB_merge, Nat.reduceLT, Nat.reduceLeDiff, Nat.reduceEqDiff, Nat.reduceAdd, Nat.reduceSub, Nat.reduceMul, Nat.reduceBEq, Nat.reduceBNe, Nat.reduceBneDiff, Nat.reduceBeqDiff, Int.reduceToNat, Int.reduceLE, Int.reduceLT, Int.reduceEq, Int.reduceNe, Int.reduceNeg, Int.reduceAdd, Int.reduceSub, ↓reduceIte, reduceCtorEq, k_drawn_q, c1, h1]
  | true => cases h2 : (fstP p).2.2 <;> simp (maxSteps := 1000000) only [go_sem, acondK_bool, acB_merge, Nat.reduceLT, Nat.reduceLeDiff, Nat.reduceEqDiff, Nat.reduceAdd, Nat.reduceSub, Nat.reduceMul, Nat.reduceBEq, Nat.reduceBNe, Nat.reduceBneDiff, Nat.reduceBeqDiff, Int.reduceToNat, Int.reduceLE, Int.reduceLT, Int.reduceEq, Int.reduceNe, Int.reduceNeg, Int.reduceAdd, Int.reduceSub, ↓reduceIte, reduceCtorEq, k_drawn_q, c1, h1, f1, h2]
def cleanS (e : E) : Bool := !((opsE e).any ndS)
mutual
def cleanX : Stm → Bool
  | .mk op name max a b body els => cleanS a && (cleanS b && (cleanXs body && cleanXs els))
def cleanXs : List Stm → Bool
  | [] => true
  | x :: l => cleanX x && cleanXs l
end
theorem absent_clean (e : E) (h : absE e = true) : cleanS e = true := by
  obtain ⟨op, n, s, args⟩ := e
  simp [absentS] at h
  obtain ⟨⟨⟨rfl, rfl⟩, rfl⟩, rfl⟩ := h
  rfl
theorem roots_none : ∀ l : List Vis, (∀ v ∈ l, ∃ x, v = Vis.e x false) → rootsV l = []
  | [], _ => rfl
  | v :: l, h => by
    obtain ⟨x, rfl⟩ := h v (List.mem_cons_self ..)
    exact roots_none l fun v hv => h v (List.mem_cons_of_mem _ hv)
theorem roots_visE (e : E) : rootsV (visE e true) = [e] := by
  cases e
  rw [visE]
  show _ :: rootsV (visEs _) = _
  rw [roots_none _ (visEs_falseA _)]
theorem clean_e (e : E) : cleanS e = !((opsEs (rootsV (if absE e = true then [] else visE e true))).any ndS) := by
  by_cases h : absE e = true
  · rw [if_pos h, absent_clean e h]; rfl
  · rw [if_neg h, roots_visE]
    simp [opsEs, cleanS]
mutual
theorem clean_vis : ∀ (x : Stm) (d : Int), cleanX x = !((opsEs (rootsV (visS x d))).any ndS)
  | .mk op name max a b body els, d => by
    rw [visS, cleanX]
    show _ = !((opsEs (rootsV (_ ++ (_ ++ (_ ++ _))))).any ndS)
    rw [rootsV_append, rootsV_append, rootsV_append, opsEs_append, opsEs_append, opsEs_append, List.any_append, List.any_append, List.any_append, Bool.not_or, Bool.not_or, Bool.not_or,
      ← clean_e a, ← clean_e b, ← clean_vis_s body, ← clean_vis_s els]
theorem clean_vis_s : ∀ (l : List Stm) (d : Int), cleanXs l = !((opsEs (rootsV (visSs l d))).any ndS)
  | [], d => rfl
  | x :: l, d => by
    rw [visSs, cleanXs, rootsV_append, opsEs_append, List.any_append, Bool.not_or, ← clean_vis x d, ← clean_vis_s l d]
end
theorem chk_val {p : Pr} (h : chkS p = 0) : valS p = 0 := by
  unfold chkS at h
  by_cases h1 : decide (preErr p = 0) = true
  · have h2 : preErr p = 0 := by simpa using h1
    unfold preErr at h2
    by_cases h3 : valS p = 0
    · exact h3
    · rw [if_neg (by simpa using h3)] at h2; exact h2
  · rw [if_neg h1] at h
    rw [h] at h1
    exact absurd rfl h1
end Go.Proofs.YtjmghomnbmbjnaaGreat
