/- The laws of the determinism chapter that look at one expression. -/
import Derived.Test.YtjmghomnbmbjnaaSeatL
import Derived.Test.YtjmghomnbmbjnaaSeatK
import Derived.Test.YtjmghomnbmbjnaaGenD
set_option linter.unusedVariables false
set_option linter.unusedSimpArgs false
set_option linter.all false
set_option linter.deprecated false
set_option linter.all false
namespace Go.Proofs.Ytjmghomnbmbjnaa
open Go.Abs
-- CTX D
attribute [local congr] ite_congr
set_option maxRecDepth 10000
mutual
theorem ops_weight : ∀ (e : E), (opsE e).length ≤ wRow e.row
  | .mk op n s args => by
    have := opsEs_weight args
    rw [E.row_mk]
    simp only [opsE, List.length_cons, wRow, wD]
    omega
theorem opsEs_weight : ∀ (l : List E), (opsEs l).length ≤ wRows (l.map E.row)
  | [] => by simp [opsEs]
  | x :: l => by
    have h1 := ops_weight x
    have h2 := opsEs_weight l
    simp only [opsEs, List.length_append, List.map_cons, wRows]
    omega
end
theorem pur_mk (op n : Int) (s : Bytes) (args : List E) : purS (.mk op n s args) = (!(ndS op || rdS op) && args.all purS) := by
  unfold purS
  rw [opsE, List.any_cons]
  have : ∀ l : List E, (!((opsEs l).any fun o => ndS o || rdS o)) = l.all fun x => !((opsE x).any fun o => ndS o || rdS o) := by
    intro l
    induction l with
    | nil => rfl
    | cons x l ih => rw [opsEs, List.any_append, Bool.not_or, ih, List.all_cons]
  rw [Bool.not_or, this]
theorem rds_mk (op n : Int) (s : Bytes) (args : List E) : rdsS (.mk op n s args) = (rdS op || args.any rdsS) := by
  unfold rdsS
  rw [opsE, List.any_cons]
  have : ∀ l : List E, (opsEs l).any rdS = l.any fun x => (opsE x).any rdS := by
    intro l
    induction l with
    | nil => rfl
    | cons x l ih => rw [opsEs, List.any_append, ih, List.any_cons]
  rw [this]
end Go.Proofs.Ytjmghomnbmbjnaa
set_option linter.all false
namespace Go.Proofs.Ytjmghomnbmbjnaa
open Go.Abs
-- CTX D
attribute [local congr] ite_congr
set_option maxRecDepth 10000
/-- a call takes its arguments cleaned -/
theorem acl_cleanD {f : FuncId} {fn : Func} {code : Code} {args args' : List AV} {A A' : AHeap} (hg : D.ext f = none) (hf : D.P.funcs[f]? = some fn) (hb : fn.body = some code) (hk : fnOk D.P f = true) (hn : args.length ≤ fn.ntmps) (hn' : args'.length ≤ fn.ntmps)
    (ho : D.own f = false) (key : acleanVs A args = (args', A')) (key' : acleanVs A' args' = (args', A')) (h1 : A.objs = A'.objs) (h2 : A.bufs.length = A'.bufs.length) : acl D f args A = acl D f args' A' := by
  rw [acl_eq hg hf hb hk hn, acl_eq hg hf hb hk hn']
  simp only [ho, Bool.false_eq_true, if_false, key, key']
  congr 1
  funext x
  have : ∀ v, afinish D f A v x.2.2 = afinish D f A' v x.2.2 := by
    intro v
    unfold afinish
    simp only [ho, Bool.false_eq_true, if_false]
    exact acut_congr h1 h2 _ _
  simp only [this]
theorem first_ops (p : Pr) (hp : p.Ok) (A : AHeap) : acl D 54 [Pr.av p] A = some (.tuple [.d (.int .i64 (fstP p).1), .d (.int .i64 (fstP p).2.1), .d (.bool (fstP p).2.2)], A) :=
  firstD p hp (fun h => by have := few_ops p h; omega) A
theorem detD (p : Pr) (hp : p.Ok) (A : AHeap) : acl D 44 [Pr.av p] A = some (.d (.int .i64 (detS p)), A) := by
  have c1 := up (checkOfG p hp A)
  have f1 := first_ops p hp A
  rw [k_call (c := D) (f := 44) rfl Try.func44 rfl (ok 44 (by kernel_rfl)) rfl Try.ntmps44 Try.results44 (by simp)]
  unfold detS
  cases h1 : decide (chkS p = 0) with
  | false => simp (maxSteps := 1000000) only [go_sem, acondK_bool, acB_merge, Nat.reduceLT, Nat.reduceLeDiff, Nat.reduceEqDiff, Nat.reduceAdd, Nat.reduceSub, Nat.reduceMul, Nat.reduceBEq, Nat.reduceBNe, Nat.reduceBneDiff, Nat.reduceBeqDiff, Int.reduceToNat, Int.reduceLE, Int.reduceLT, Int.reduceEq, Int.reduceNe, Int.reduceNeg, Int.reduceAdd, Int.reduceSub, ↓reduceIte, reduceCtorEq, k_drawn_q, c1, h1]
  | true => cases h2 : (fstP p).2.2 <;> simp (maxSteps := 1000000) only [go_sem, acondK_bool, acB_merge, Nat.reduceLT, Nat.reduceLeDiff, Nat.reduceEqDiff, Nat.reduceAdd, Nat.reduceSub, Nat.reduceMul, Nat.reduceBEq, Nat.reduceBNe, Nat.reduceBneDiff, Nat.reduceBeqDiff, Int.reduceToNat, Int.reduceLE, Int.reduceLT, Int.reduceEq, Int.reduceNe, Int.reduceNeg, Int.reduceAdd, Int.reduceSub, ↓reduceIte, reduceCtorEq, k_drawn_q, c1, h1, f1, h2]
def cleanS (e : E) : Bool := !((opsE e).any ndS)
theorem clean_mk (op n : Int) (s : Bytes) (args : List E) : cleanS (.mk op n s args) = (!(ndS op) && args.all cleanS) := by
  unfold cleanS
  rw [opsE, List.any_cons]
  have : ∀ l : List E, (!((opsEs l).any ndS)) = l.all fun x => !((opsE x).any ndS) := by
    intro l
    induction l with
    | nil => rfl
    | cons x l ih => rw [opsEs, List.any_append, Bool.not_or, ih, List.all_cons]
  rw [Bool.not_or, this]
mutual
def cleanX : Stm → Bool
  | .mk op name max a b body els => cleanS a && (cleanS b && (cleanXs body && cleanXs els))
def cleanXs : List Stm → Bool
  | [] => true
  | x :: l => cleanX x && cleanXs l
end
theorem absent_clean (e : E) (h : absE e = true) : cleanS e = true := by
  obtain ⟨op, n, s, args⟩ := e
  simp [absentS] at h
  obtain ⟨⟨⟨rfl, rfl⟩, rfl⟩, rfl⟩ := h
  rfl
theorem roots_none : ∀ l : List Vis, (∀ v ∈ l, ∃ x, v = Vis.e x false) → rootsV l = []
  | [], _ => rfl
  | v :: l, h => by
    obtain ⟨x, rfl⟩ := h v (List.mem_cons_self ..)
    exact roots_none l fun v hv => h v (List.mem_cons_of_mem _ hv)
theorem roots_visE (e : E) : rootsV (visE e true) = [e] := by
  cases e
  rw [visE]
  show _ :: rootsV (visEs _) = _
  rw [roots_none _ (visEs_falseA _)]
theorem clean_e (e : E) : cleanS e = !((opsEs (rootsV (if absE e = true then [] else visE e true))).any ndS) := by
  by_cases h : absE e = true
  · rw [if_pos h, absent_clean e h]; rfl
  · rw [if_neg h, roots_visE]
    simp [opsEs, cleanS]
mutual
theorem clean_vis : ∀ (x : Stm) (d : Int), cleanX x = !((opsEs (rootsV (visS x d))).any ndS)
  | .mk op name max a b body els, d => by
    rw [visS, cleanX]
    show _ = !((opsEs (rootsV (_ ++ (_ ++ (_ ++ _))))).any ndS)
    rw [rootsV_append, rootsV_append, rootsV_append, opsEs_append, opsEs_append, opsEs_append, List.any_append, List.any_append, List.any_append, Bool.not_or, Bool.not_or, Bool.not_or,
      ← clean_e a, ← clean_e b, ← clean_vis_s body, ← clean_vis_s els]
theorem clean_vis_s : ∀ (l : List Stm) (d : Int), cleanXs l = !((opsEs (rootsV (visSs l d))).any ndS)
  | [], d => rfl
  | x :: l, d => by
    rw [visSs, cleanXs, rootsV_append, opsEs_append, List.any_append, Bool.not_or, ← clean_vis x d, ← clean_vis_s l d]
end
theorem fst_found : ∀ (l : List Int) (n : Nat), (fstS l n).2.2 = l.any ndS
  | [], n => rfl
  | x :: l, n => by
    rw [fstS, List.any_cons]
    cases h : ndS x with
    | true => rfl
    | false => simp only [Bool.false_eq_true, if_false, Bool.false_or]; exact fst_found l (n + 1)
theorem found_clean (p : Pr) (h : valS p = 0) : (fstP p).2.2 = !cleanXs p.body := by
  unfold fstP
  rw [if_pos h, fst_found]
  unfold exprsS
  rw [((valS_zero p).1 h).vis, clean_vis_s p.body 1, Bool.not_not]
theorem chk_val {p : Pr} (h : chkS p = 0) : valS p = 0 := by
  unfold chkS at h
  by_cases h1 : decide (preErr p = 0) = true
  · have h2 : preErr p = 0 := by simpa using h1
    unfold preErr at h2
    by_cases h3 : valS p = 0
    · exact h3
    · rw [if_neg (by simpa using h3)] at h2; exact h2
  · rw [if_neg h1] at h
    rw [h] at h1
    exact absurd rfl h1
end Go.Proofs.Ytjmghomnbmbjnaa
