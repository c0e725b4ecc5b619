/- Renaming a variable does not change the code: the plain part. -/
import Derived.Test.YtjmghomnbmbjnaaGreatSeatU
import Derived.Test.YtjmghomnbmbjnaaGreatSeatPA
import Derived.Test.YtjmghomnbmbjnaaGreatSeatZ
import Derived.Test.YtjmghomnbmbjnaaGreatSeatWA
set_option linter.unusedVariables false
set_option linter.unusedSimpArgs false
set_option linter.all false
set_option linter.deprecated false
set_option linter.all false
namespace Go.Proofs.YtjmghomnbmbjnaaGreat
open Go.Abs
set_option maxRecDepth 10000
theorem slV_ren {a b : Bytes} (ha : isName a = true) : ∀ l : List Vis, slV (l.map (renV a b)) = (slV l).map (renN a b)
  | [] => rfl
  | .e x r :: l => by
    show slV (l.map (renV a b)) = _
    rw [slV_ren ha l]
    rfl
  | .s x d :: l => by
    have h0 : renN a b [] = [] := by
      unfold renN
      have : ([] : Bytes) ≠ a := by rintro rfl; simp [Go.Proofs.YtjmghomnbmbjnaaGreat.isName] at ha
      rw [if_neg (by simpa using this)]
    show slV (Vis.s (renS a b x) d :: l.map (renV a b)) = _
    rw [slV, slV, slV_ren ha l]
    obtain ⟨op, name, max, u, v, body, els⟩ := x
    rw [renS]
    simp only [Stm.op, Stm.name]
    by_cases h1 : decide (op = 1) = true
    · rw [if_pos h1, if_pos h1]; simp
    · rw [if_neg h1, if_neg h1]
      by_cases h6 : decide (op = 6) = true
      · rw [if_pos h6, if_pos h6]; simp [h0]
      · rw [if_neg h6, if_neg h6]; simp
section
variable {a b : Bytes} (ha : isName a = true) (hb : isName b = true)
include ha hb
theorem idxF_ren {w : Bytes} (hw : w ≠ b) : ∀ (S : List Bytes) (k : Nat), (∀ s ∈ S, s ≠ b) → idxF (fun s => renN a b w == s) (S.map (renN a b)) k = idxF (fun s => w == s) S k
  | [], k, _ => rfl
  | x :: S, k, h => by
    have ih := idxF_ren hw S (k + 1) fun s hs => h s (List.mem_cons_of_mem _ hs)
    rw [List.map_cons, idxF, idxF, ih, renN_beq ha hb hw (h x (by simp))]
theorem idxM_ren {S : List Bytes} (hS : ∀ s ∈ S, s ≠ b) {w : Bytes} (hw : w ≠ b) : idxM (S.map (renN a b)) (renN a b w) = idxM S w := by
  unfold idxM slotN
  rw [renN_nilI ha hb, idxF_ren ha hb hw S 0 hS]
mutual
theorem codeM_ren {S : List Bytes} (hS : ∀ s ∈ S, s ≠ b) : ∀ e : E, menE b e = false → codeM (S.map (renN a b)) (renE a b e) = codeM S e
  | .mk op n s args, h => by
    rw [menE, Bool.or_eq_false_iff] at h
    rw [renE, codeM, codeM]
    by_cases c1 : decide (op = 1) = true
    · rw [if_pos c1, if_pos c1]
    rw [if_neg c1, if_neg c1]
    by_cases c2 : decide (op = 2) = true
    · have : decide (op = 3) = false := by simp at c2 ⊢; omega
      rw [if_pos c2, if_pos c2, this, if_neg (by decide)]
    rw [if_neg c2, if_neg c2]
    by_cases c3 : decide (op = 3) = true
    · have hs : s ≠ b := by
        have := h.1
        rw [c3, Bool.true_and] at this
        simpa using this
      rw [if_pos c3, if_pos c3, if_pos c3, idxM_ren ha hb hS hs]
    · rw [if_neg c3, if_neg c3, codeMs_ren hS args h.2]
theorem codeMs_ren {S : List Bytes} (hS : ∀ s ∈ S, s ≠ b) : ∀ l : List E, menE.menEs b l = false → codeMs (S.map (renN a b)) (renEs a b l) = codeMs S l
  | [], _ => rfl
  | x :: l, h => by
    rw [menE.menEs, Bool.or_eq_false_iff] at h
    rw [renEs, codeMs, codeMs, codeM_ren hS x h.1, codeMs_ren hS l h.2]
end
mutual
theorem cdS_ren {S : List Bytes} (hS : ∀ s ∈ S, s ≠ b) : ∀ (x : Stm) (d : Int) (k : Nat), (visS x d).any (visHas b) = false → cdS (S.map (renN a b)) (renS a b x) k = cdS S x k
  | .mk op name max x y body els, d, k, h => by
    obtain ⟨h1, h2, h3, h4, h5⟩ := free_S h
    have e1 := codeM_ren ha hb hS x h2
    have e2 := codeM_ren ha hb hS y h3
    have e3 := idxM_ren ha hb hS h1
    have f1 : (fun j => cdL (S.map (renN a b)) (renSs a b body) j) = (fun j => cdL S body j) := funext fun j => cdL_ren hS body _ j h4
    have f2 : (fun j => cdL (S.map (renN a b)) (renSs a b els) j) = (fun j => cdL S els j) := funext fun j => cdL_ren hS els _ j h5
    rw [renS, cdS_mk, cdS_mk, e1, e2, e3, f1, f2, renSs_len]
theorem cdL_ren {S : List Bytes} (hS : ∀ s ∈ S, s ≠ b) : ∀ (l : List Stm) (d : Int) (k : Nat), (visSs l d).any (visHas b) = false → cdL (S.map (renN a b)) (renSs a b l) k = cdL S l k
  | [], d, k, h => by rw [renSs, cdL, cdL]
  | x :: l, d, k, h => by
    rw [visSs, List.any_append, Bool.or_eq_false_iff] at h
    rw [renSs, cdL_cons, cdL_cons, cdS_ren hS x d k h.1, cdL_ren hS l d _ h.2]
end
theorem slotsS_ren {p : Pr} (V : Vld p) (ho : occT p b = false) : slotsS (renP a b p) = (slotsS p).map (renN a b) := by
  obtain ⟨e1, -⟩ := chkS_ren ha hb V ho
  unfold slotsS
  rw [e1]
  split
  · rw [visP_ren, slV_ren ha, List.map_append]
    congr 1
    unfold paramNames renP
    simp only [List.map_map]
    rfl
  · rfl
theorem slots_free {p : Pr} (V : Vld p) (ho : occT p b = false) : ∀ s ∈ slotsS p, s ≠ b := by
  have hv : (visSs p.body 1).any (visHas b) = false := by
    unfold occT at ho
    rw [Bool.or_eq_false_iff, V.vis] at ho
    exact ho.2
  have hf := prm_free ha hb ho
  have hn : ([] : Bytes) ≠ b := by rintro rfl; simp [Go.Proofs.YtjmghomnbmbjnaaGreat.isName] at hb
  have hsl : ∀ l : List Vis, ∀ s ∈ slV l, s ∈ namesV l ∨ s = [] := by
    intro l
    induction l with
    | nil => intro s hs; cases hs
    | cons v l ih =>
      intro s hs
      match v with
      | .e x r => exact ih s hs
      | .s x d =>
        simp only [slV] at hs
        simp only [namesV]
        rcases List.mem_append.1 hs with hs | hs
        · by_cases h1 : decide (x.op = 1) = true
          · rw [if_pos h1, List.mem_singleton] at hs
            rw [if_pos (by rw [h1]; rfl)]
            exact .inl (by rw [hs]; simp)
          · rw [if_neg h1] at hs
            by_cases h6 : decide (x.op = 6) = true
            · rw [if_pos h6] at hs
              rw [if_pos (by rw [h6, Bool.or_true])]
              simp at hs
              rcases hs with hs | hs
              · exact .inl (by rw [hs]; simp)
              · exact .inr hs
            · rw [if_neg h6] at hs
              cases hs
        · rcases ih s hs with h | h
          · refine .inl ?_
            split
            · exact List.mem_cons_of_mem _ h
            · exact h
          · exact .inr h
  intro s hs
  unfold slotsS at hs
  split at hs
  · rcases List.mem_append.1 hs with hs | hs
    · obtain ⟨x, hx, rfl⟩ := List.mem_map.1 hs
      exact hf x hx
    · rcases hsl _ s hs with h | h
      · rw [V.vis] at h
        exact namesV_has _ hv s h
      · rw [h]; exact hn
  · cases hs
theorem cd_ren {p : Pr} (V : Vld p) (ho : occT p b = false) (k : Nat) : cdL (slotsS (renP a b p)) (renP a b p).body k = cdL (slotsS p) p.body k := by
  have hv : (visSs p.body 1).any (visHas b) = false := by
    unfold occT at ho
    rw [Bool.or_eq_false_iff, V.vis] at ho
    exact ho.2
  rw [slotsS_ren ha hb V ho]
  exact cdL_ren ha hb (slots_free ha hb V ho) p.body 1 k hv
end
end Go.Proofs.YtjmghomnbmbjnaaGreat
set_option linter.all false
namespace Go.Proofs.YtjmghomnbmbjnaaGreat
open Go.Abs
-- CTX D
attribute [local congr] ite_congr
set_option maxRecDepth 10000
theorem lawCompileRenames (p : Pr) (a b : Bytes) (hp : p.Ok) (ha : a.length ≤ 1048576) (hb : b.length ≤ 1048576) : acl D 5 [Pr.av p, .d (.str a), .d (.str b)] A00 = some (.d (.bool true), A00) := by
  have sm := up (small p hp 600 A00)
  have w := works
  rw [k_call (c := D) (f := 5) rfl Tryz.func5 rfl (ok 5 (by kernel_rfl)) rfl Tryz.ntmps5 Tryz.results5 (by simp)]
  cases hs : smallS p 600 with
  | false => simp (maxSteps := 1000000) only [go_sem, acondK_bool, acB_merge, Nat.reduceLT, Nat.reduceLeDiff, Nat.reduceEqDiff, Nat.reduceAdd, Nat.reduceSub, Nat.reduceMul, Nat.reduceBEq, Nat.reduceBNe, Nat.reduceBneDiff, Nat.reduceBeqDiff, Int.reduceToNat, Int.reduceLE, Int.reduceLT, Int.reduceEq, Int.reduceNe, Int.reduceNeg, Int.reduceAdd, Int.reduceSub, ↓reduceIte, reduceCtorEq, k_drawn_q, sm, w, hs]
  | true =>
  cases h4 : decide (200 < (a.length : Int)) with
  | true => simp (maxSteps := 1000000) only [go_sem, acondK_bool, acB_merge, Nat.reduceLT, Nat.reduceLeDiff, Nat.reduceEqDiff, Nat.reduceAdd, Nat.reduceSub, Nat.reduceMul, Nat.reduceBEq, Nat.reduceBNe, Nat.reduceBneDiff, Nat.reduceBeqDiff, Int.reduceToNat, Int.reduceLE, Int.reduceLT, Int.reduceEq, Int.reduceNe, Int.reduceNeg, Int.reduceAdd, Int.reduceSub, ↓reduceIte, reduceCtorEq, k_drawn_q, sm, w, hs, h4]
  | false =>
  cases h5 : decide (200 < (b.length : Int)) with
  | true => simp (maxSteps := 1000000) only [go_sem, acondK_bool, acB_merge, Nat.reduceLT, Nat.reduceLeDiff, Nat.reduceEqDiff, Nat.reduceAdd, Nat.reduceSub, Nat.reduceMul, Nat.reduceBEq, Nat.reduceBNe, Nat.reduceBneDiff, Nat.reduceBeqDiff, Int.reduceToNat, Int.reduceLE, Int.reduceLT, Int.reduceEq, Int.reduceNe, Int.reduceNeg, Int.reduceAdd, Int.reduceSub, ↓reduceIte, reduceCtorEq, k_drawn_q, sm, w, hs, h4, h5]
  | false =>
  have h40 := small40 hs
  have r1 := up (renameR p hp h40 a b (by omega) A00)
  rw [← rnm_eq] at r1
  rcases rnm_cases p a b with ⟨k1, k2⟩ | ⟨k1, V, hbn, han, hoc⟩
  · have d1 : decide ((rnmS p a b).2 = 0) = false := by simpa using k2
    simp (maxSteps := 1000000) only [go_sem, acondK_bool, acB_merge, Nat.reduceLT, Nat.reduceLeDiff, Nat.reduceEqDiff, Nat.reduceAdd, Nat.reduceSub, Nat.reduceMul, Nat.reduceBEq, Nat.reduceBNe, Nat.reduceBneDiff, Nat.reduceBeqDiff, Int.reduceToNat, Int.reduceLE, Int.reduceLT, Int.reduceEq, Int.reduceNe, Int.reduceNeg, Int.reduceAdd, Int.reduceSub, ↓reduceIte, reduceCtorEq, k_drawn_q, sm, w, hs, h4, h5, r1, d1]
  · rw [k1] at r1
    rw [occ_eq V (isName_ne hbn)] at hoc
    have han' := V.isName han
    have e1 := detS_ren han' hbn V hoc
    have hq : (renP a b p).Ok := renP_ok (by omega) p hp
    have h40' : (renP a b p).params.length ≤ 40 := by show (p.params.map (renPm a b)).length ≤ 40; simpa using h40
    have o1 := procOf p hp h40 A00
    have o2 := procOf _ hq h40' A00
    have q2 : costC (renP a b p) = costC p := by
      unfold costC
      rw [e1]
      show (if _ then limS (tSs (renSs a b p.body)).cut else _) = _
      rw [tSs_ren]
    have q3 : (slotsS (renP a b p)).length = (slotsS p).length := by rw [slotsS_ren han' hbn V hoc]; simp
    have q4 : cdP (renP a b p) = cdP p := by unfold cdP; rw [cd_ren han' hbn V hoc]
    have q5 : tyL (renP a b p) = tyL p := by
      unfold tyL
      show (p.params.map (renPm a b)).map Pm.type = _
      rw [List.map_map]
      rfl
    have t1 : prT (renP a b p) = prT p := by unfold prT; rw [q2, q3, q5]
    have t2 : prN (renP a b p) = prN p := by unfold prN; rw [q2, q3]
    have t3 : prI (renP a b p) = prI p := by unfold prI; rw [q2, q3, q4]
    have t4 : prE (renP a b p) = prE p := by unfold prE; rw [q2, q3]
    rw [t1, t2, t3, t4] at o2
    have o3 := up (sameCode (prT p) (prN p) (prI p) (tyL_len h40) (by have := prI_len (p := p); omega) A00)
    have e5 : decide (prE p = prE p) = true := by simp
    unfold codeAv at o1 o2 o3
    generalize prT p = T at *
    generalize prI p = I at *
    simp (maxSteps := 1000000) only [go_sem, acondK_bool, acB_merge, Nat.reduceLT, Nat.reduceLeDiff, Nat.reduceEqDiff, Nat.reduceAdd, Nat.reduceSub, Nat.reduceMul, Nat.reduceBEq, Nat.reduceBNe, Nat.reduceBneDiff, Nat.reduceBeqDiff, Int.reduceToNat, Int.reduceLE, Int.reduceLT, Int.reduceEq, Int.reduceNe, Int.reduceNeg, Int.reduceAdd, Int.reduceSub, ↓reduceIte, reduceCtorEq, k_drawn_q, sm, w, hs, h4, h5, r1, o1, o2, o3, e5]
end Go.Proofs.YtjmghomnbmbjnaaGreat
