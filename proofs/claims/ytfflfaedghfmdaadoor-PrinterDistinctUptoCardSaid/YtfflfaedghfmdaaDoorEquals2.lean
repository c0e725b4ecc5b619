/- Equality of procedures: the law. -/
import Derived.Test.YtfflfaedghfmdaaDoorEquals1
set_option linter.unusedVariables false
set_option linter.unusedSimpArgs false
set_option linter.all false
set_option linter.deprecated false
set_option linter.all false
namespace Go.Proofs.YtfflfaedghfmdaaDoor
open Go.Abs
attribute [local congr] ite_congr
set_option maxRecDepth 10000
set_option maxHeartbeats 2000000 in
theorem equalBody_of (b : List Stm) (hlen : b.length ≤ 1099511627776) (hok : ∀ x ∈ b, x.Ok)
    (ih : ∀ x ∈ b, ∀ (l : List Stm), l = x.body ∨ l = x.els → ∀ (m : List Stm), (∀ y ∈ m, y.Ok) → ∀ (A : AHeap), acl C 28 [.d (.slice (l.map Stm.row)), .d (.slice (m.map Stm.row))] A = some (.d (.bool (decide ((l.length : Int) = (m.length : Int)) && eqSs l m)), A))
    (m : List Stm) (hm : ∀ y ∈ m, y.Ok) (A : AHeap) : acl C 28 [.d (.slice (b.map Stm.row)), .d (.slice (m.map Stm.row))] A = some (.d (.bool (decide ((b.length : Int) = (m.length : Int)) && eqSs b m)), A) := by
  rw [k_call (c := C) (f := 28) rfl Tryd.func28 rfl (ok 28 (by kernel_rfl)) rfl Tryd.ntmps28 Tryd.results28 (by simp)]
  cases h1 : decide ((b.length : Int) = (m.length : Int)) with
  | false => simp (maxSteps := 1000000) +contextual only [go_sem, acondK_bool, acB_merge, Nat.reduceLT, Nat.reduceLeDiff, Nat.reduceEqDiff, Nat.reduceAdd, Nat.reduceSub, Nat.reduceMul, Nat.reduceBEq, Nat.reduceBNe, Nat.reduceBneDiff, Nat.reduceBeqDiff, Int.reduceToNat, Int.reduceLE, Int.reduceLT, Int.reduceEq, Int.reduceNe, Int.reduceNeg, Int.reduceAdd, Int.reduceSub, ↓reduceIte, reduceCtorEq, h1]
  | true =>
  simp (maxSteps := 1000000) +contextual only [go_sem, acondK_bool, acB_merge, Nat.reduceLT, Nat.reduceLeDiff, Nat.reduceEqDiff, Nat.reduceAdd, Nat.reduceSub, Nat.reduceMul, Nat.reduceBEq, Nat.reduceBNe, Nat.reduceBneDiff, Nat.reduceBeqDiff, Int.reduceToNat, Int.reduceLE, Int.reduceLT, Int.reduceEq, Int.reduceNe, Int.reduceNeg, Int.reduceAdd, Int.reduceSub, ↓reduceIte, reduceCtorEq, h1]
  refine loop_any (fun pre => [(0, .v (.d (.slice (b.map Stm.row)))), (1, .v (.d (.slice (m.map Stm.row)))), (5, .v (.d (.int .i64 (pre.length : Nat))))])
    (fun _ => A) (fun pre suf => some (.d (.bool (eqSs suf (m.drop pre.length))), A)) b rfl rfl rfl ?_
  intro pre suf h ih2
  have hb : pre.length < 9223372036854775807 := by rw [h] at hlen; simp at hlen; omega
  cases suf with
  | nil => rw [List.append_nil] at h; subst h; simp (maxSteps := 1000000) +contextual only [go_sem, acondK_bool, acB_merge, Nat.reduceLT, Nat.reduceLeDiff, Nat.reduceEqDiff, Nat.reduceAdd, Nat.reduceSub, Nat.reduceMul, Nat.reduceBEq, Nat.reduceBNe, Nat.reduceBneDiff, Nat.reduceBeqDiff, Int.reduceToNat, Int.reduceLE, Int.reduceLT, Int.reduceEq, Int.reduceNe, Int.reduceNeg, Int.reduceAdd, Int.reduceSub, ↓reduceIte, reduceCtorEq, eqSs]
  | cons x suf =>
    have hx : x ∈ b := by rw [h]; simp
    obtain ⟨xa, xb, xl1, xl2, xo1, xo2⟩ := stmParts (hok x hx)
    have hml : pre.length < m.length := by simp at h1; rw [h] at h1; simp at h1; omega
    have hd : m.drop pre.length = m[pre.length] :: m.drop (pre.length + 1) := List.drop_eq_getElem_cons hml
    have f3 : (m.map Stm.row)[pre.length]? = some (Stm.row m[pre.length]) := by rw [List.getElem?_map, List.getElem?_eq_getElem hml]; rfl
    have hz := hm _ (List.getElem_mem hml)
    generalize m[pre.length] = z at *
    obtain ⟨za, zb, zl1, zl2, zo1, zo2⟩ := stmParts hz
    have f1 := equalExprR x.a xa z.a za A
    have f2 := equalExprR x.b xb z.b zb A
    have f4 := ih x hx x.body (.inl rfl) z.body zo1 A
    have f5 := ih x hx x.els (.inr rfl) z.els zo2 A
    have e2 := ih2 x suf rfl
    rw [List.length_append, List.length_cons, List.length_nil] at e2
    have e3 : (b.map Stm.row)[pre.length]? = some (Stm.row x) := by rw [h]; exact map_mid
    have e4 : decide ((pre.length : Int) < (b.length : Int)) = true := by rw [h]; simp; omega
    rw [Stm.row_eq] at e3 f3
    rw [hd]
    have f6 : eqS x z = eqS (.mk x.op x.name x.max x.a x.b x.body x.els) z := by rw [Stm.eta]
    rw [eqSs, f6]
    simp only [eqS]
    simp (maxSteps := 1000000) only [go_sem, acondK_bool, acB_merge, Nat.reduceLT, Nat.reduceLeDiff, Nat.reduceEqDiff, Nat.reduceAdd, Nat.reduceSub, Nat.reduceMul, Nat.reduceBEq, Nat.reduceBNe, Nat.reduceBneDiff, Nat.reduceBeqDiff, Int.reduceToNat, Int.reduceLE, Int.reduceLT, Int.reduceEq, Int.reduceNe, Int.reduceNeg, Int.reduceAdd, Int.reduceSub, ↓reduceIte, reduceCtorEq, e3, e4, f3, k_drawn_t]
    refine Eq.trans (ctE_ok (by repeat (first | exact MLe.nil | apply MLe.qq | apply MLe.o | apply MLe.b | apply MLe.l)) (by kernel_rfl)) ?_
    cases h1 : decide (x.op = z.op) with
    | false => simp (maxSteps := 1000000) only [go_sem, acondK_bool, acB_merge, Nat.reduceLT, Nat.reduceLeDiff, Nat.reduceEqDiff, Nat.reduceAdd, Nat.reduceSub, Nat.reduceMul, Nat.reduceBEq, Nat.reduceBNe, Nat.reduceBneDiff, Nat.reduceBeqDiff, Int.reduceToNat, Int.reduceLE, Int.reduceLT, Int.reduceEq, Int.reduceNe, Int.reduceNeg, Int.reduceAdd, Int.reduceSub, ↓reduceIte, reduceCtorEq, h1]
    | true =>
    cases h2 : (x.name == z.name) with
    | false => simp (maxSteps := 1000000) only [go_sem, acondK_bool, acB_merge, Nat.reduceLT, Nat.reduceLeDiff, Nat.reduceEqDiff, Nat.reduceAdd, Nat.reduceSub, Nat.reduceMul, Nat.reduceBEq, Nat.reduceBNe, Nat.reduceBneDiff, Nat.reduceBeqDiff, Int.reduceToNat, Int.reduceLE, Int.reduceLT, Int.reduceEq, Int.reduceNe, Int.reduceNeg, Int.reduceAdd, Int.reduceSub, ↓reduceIte, reduceCtorEq, h1, h2]
    | true =>
    cases h3 : decide (x.max = z.max) with
    | false => simp (maxSteps := 1000000) only [go_sem, acondK_bool, acB_merge, Nat.reduceLT, Nat.reduceLeDiff, Nat.reduceEqDiff, Nat.reduceAdd, Nat.reduceSub, Nat.reduceMul, Nat.reduceBEq, Nat.reduceBNe, Nat.reduceBneDiff, Nat.reduceBeqDiff, Int.reduceToNat, Int.reduceLE, Int.reduceLT, Int.reduceEq, Int.reduceNe, Int.reduceNeg, Int.reduceAdd, Int.reduceSub, ↓reduceIte, reduceCtorEq, h1, h2, h3]
    | true =>
    cases h4 : eqE x.a z.a with
    | false => simp (maxSteps := 1000000) only [go_sem, acondK_bool, acB_merge, Nat.reduceLT, Nat.reduceLeDiff, Nat.reduceEqDiff, Nat.reduceAdd, Nat.reduceSub, Nat.reduceMul, Nat.reduceBEq, Nat.reduceBNe, Nat.reduceBneDiff, Nat.reduceBeqDiff, Int.reduceToNat, Int.reduceLE, Int.reduceLT, Int.reduceEq, Int.reduceNe, Int.reduceNeg, Int.reduceAdd, Int.reduceSub, ↓reduceIte, reduceCtorEq, h1, h2, h3, h4, f1]
    | true =>
    cases h5 : eqE x.b z.b with
    | false => simp (maxSteps := 1000000) only [go_sem, acondK_bool, acB_merge, Nat.reduceLT, Nat.reduceLeDiff, Nat.reduceEqDiff, Nat.reduceAdd, Nat.reduceSub, Nat.reduceMul, Nat.reduceBEq, Nat.reduceBNe, Nat.reduceBneDiff, Nat.reduceBeqDiff, Int.reduceToNat, Int.reduceLE, Int.reduceLT, Int.reduceEq, Int.reduceNe, Int.reduceNeg, Int.reduceAdd, Int.reduceSub, ↓reduceIte, reduceCtorEq, h1, h2, h3, h4, h5, f1, f2]
    | true =>
    cases h6 : (decide ((x.body.length : Int) = (z.body.length : Int)) && eqSs x.body z.body) with
    | false => simp (maxSteps := 1000000) only [go_sem, acondK_bool, acB_merge, Nat.reduceLT, Nat.reduceLeDiff, Nat.reduceEqDiff, Nat.reduceAdd, Nat.reduceSub, Nat.reduceMul, Nat.reduceBEq, Nat.reduceBNe, Nat.reduceBneDiff, Nat.reduceBeqDiff, Int.reduceToNat, Int.reduceLE, Int.reduceLT, Int.reduceEq, Int.reduceNe, Int.reduceNeg, Int.reduceAdd, Int.reduceSub, ↓reduceIte, reduceCtorEq, h1, h2, h3, h4, h5, h6, f1, f2, f4]
    | true =>
    cases h7 : (decide ((x.els.length : Int) = (z.els.length : Int)) && eqSs x.els z.els) with
    | false => simp (maxSteps := 1000000) only [go_sem, acondK_bool, acB_merge, Nat.reduceLT, Nat.reduceLeDiff, Nat.reduceEqDiff, Nat.reduceAdd, Nat.reduceSub, Nat.reduceMul, Nat.reduceBEq, Nat.reduceBNe, Nat.reduceBneDiff, Nat.reduceBeqDiff, Int.reduceToNat, Int.reduceLE, Int.reduceLT, Int.reduceEq, Int.reduceNe, Int.reduceNeg, Int.reduceAdd, Int.reduceSub, ↓reduceIte, reduceCtorEq, h1, h2, h3, h4, h5, h6, h7, f1, f2, f4, f5]
    | true => simp (maxSteps := 1000000) only [go_sem, acondK_bool, acB_merge, Nat.reduceLT, Nat.reduceLeDiff, Nat.reduceEqDiff, Nat.reduceAdd, Nat.reduceSub, Nat.reduceMul, Nat.reduceBEq, Nat.reduceBNe, Nat.reduceBneDiff, Nat.reduceBeqDiff, Int.reduceToNat, Int.reduceLE, Int.reduceLT, Int.reduceEq, Int.reduceNe, Int.reduceNeg, Int.reduceAdd, Int.reduceSub, ↓reduceIte, reduceCtorEq, h1, h2, h3, h4, h5, h6, h7, f1, f2, f4, f5, e2, wrap_nat hb]
theorem equalBody_in : ∀ x : Stm, x.Ok → ∀ (l : List Stm), l = x.body ∨ l = x.els → ∀ (m : List Stm), (∀ y ∈ m, y.Ok) → ∀ (A : AHeap), acl C 28 [.d (.slice (l.map Stm.row)), .d (.slice (m.map Stm.row))] A = some (.d (.bool (decide ((l.length : Int) = (m.length : Int)) && eqSs l m)), A) := by
  intro x
  induction x using Stm.ind with
  | h op name max a b body els ihb ihe =>
    intro hok l hm m hmo A
    rcases hm with rfl | rfl
    · exact equalBody_of _ (Stm.Ok.bodyLen hok) (Stm.Ok.bodyOk hok) (fun y hy => ihb y hy (Stm.Ok.bodyOk hok y hy)) m hmo A
    · exact equalBody_of _ (Stm.Ok.elsLen hok) (Stm.Ok.elsOk hok) (fun y hy => ihe y hy (Stm.Ok.elsOk hok y hy)) m hmo A
/-- two procedures are equal, field by field -/
def eqP (p q : Pr) : Bool := p.name == q.name && (decide ((p.params.length : Int) = (q.params.length : Int)) && eqL eqPm p.params q.params) && (decide ((p.body.length : Int) = (q.body.length : Int)) && eqSs p.body q.body)
theorem equalR (p q : Pr) (hp : p.Ok) (hq : q.Ok) (A : AHeap) : acl C 10 [Pr.av p, Pr.av q] A = some (.d (.bool (eqP p q)), A) := by
  have e1 := equalBody_of p.body hp.blen hp.body (fun x hx => equalBody_in x (hp.body x hx)) q.body hq.body A
  rw [k_call (c := C) (f := 10) rfl Tryd.func10 rfl (ok 10 (by kernel_rfl)) rfl Tryd.ntmps10 Tryd.results10 (by simp)]
  cases h1 : (p.name == q.name) with
  | false => simp (maxSteps := 1000000) only [go_sem, acondK_bool, acB_merge, Nat.reduceLT, Nat.reduceLeDiff, Nat.reduceEqDiff, Nat.reduceAdd, Nat.reduceSub, Nat.reduceMul, Nat.reduceBEq, Nat.reduceBNe, Nat.reduceBneDiff, Nat.reduceBeqDiff, Int.reduceToNat, Int.reduceLE, Int.reduceLT, Int.reduceEq, Int.reduceNe, Int.reduceNeg, Int.reduceAdd, Int.reduceSub, ↓reduceIte, reduceCtorEq, eqP, h1]
  | true =>
  cases h2 : decide ((p.params.length : Int) = (q.params.length : Int)) with
  | false => simp (maxSteps := 1000000) only [go_sem, acondK_bool, acB_merge, Nat.reduceLT, Nat.reduceLeDiff, Nat.reduceEqDiff, Nat.reduceAdd, Nat.reduceSub, Nat.reduceMul, Nat.reduceBEq, Nat.reduceBNe, Nat.reduceBneDiff, Nat.reduceBeqDiff, Int.reduceToNat, Int.reduceLE, Int.reduceLT, Int.reduceEq, Int.reduceNe, Int.reduceNeg, Int.reduceAdd, Int.reduceSub, ↓reduceIte, reduceCtorEq, eqP, h1, h2]
  | true =>
  simp (maxSteps := 1000000) only [go_sem, acondK_bool, acB_merge, Nat.reduceLT, Nat.reduceLeDiff, Nat.reduceEqDiff, Nat.reduceAdd, Nat.reduceSub, Nat.reduceMul, Nat.reduceBEq, Nat.reduceBNe, Nat.reduceBneDiff, Nat.reduceBeqDiff, Int.reduceToNat, Int.reduceLE, Int.reduceLT, Int.reduceEq, Int.reduceNe, Int.reduceNeg, Int.reduceAdd, Int.reduceSub, ↓reduceIte, reduceCtorEq, eqP, h1, h2]
  refine loop_any (fun pre => [(2, .box [.d (.str p.name), .d (.slice (p.params.map Pm.row)), .d (.slice (p.body.map Stm.row))]), (3, .box [.d (.str q.name), .d (.slice (q.params.map Pm.row)), .d (.slice (q.body.map Stm.row))]), (5, .v (.d (.int .i64 (pre.length : Nat))))])
    (fun _ => A) (fun pre suf => some (.d (.bool (eqL eqPm suf (q.params.drop pre.length) && (decide ((p.body.length : Int) = (q.body.length : Int)) && eqSs p.body q.body))), A)) p.params rfl rfl rfl ?_
  intro pre suf h ih2
  have hl := hp.plen
  have hb : pre.length < 9223372036854775807 := by rw [h] at hl; simp at hl; omega
  cases suf with
  | nil => rw [List.append_nil] at h; subst h; simp (maxSteps := 1000000) only [go_sem, acondK_bool, acB_merge, Nat.reduceLT, Nat.reduceLeDiff, Nat.reduceEqDiff, Nat.reduceAdd, Nat.reduceSub, Nat.reduceMul, Nat.reduceBEq, Nat.reduceBNe, Nat.reduceBneDiff, Nat.reduceBeqDiff, Int.reduceToNat, Int.reduceLE, Int.reduceLT, Int.reduceEq, Int.reduceNe, Int.reduceNeg, Int.reduceAdd, Int.reduceSub, ↓reduceIte, reduceCtorEq, eqL, e1]
  | cons x suf =>
    have hlen : pre.length < q.params.length := by simp at h2; rw [h] at h2; simp at h2; omega
    have hd : q.params.drop pre.length = q.params[pre.length] :: q.params.drop (pre.length + 1) := List.drop_eq_getElem_cons hlen
    have f3 : (q.params.map Pm.row)[pre.length]? = some (Pm.row q.params[pre.length]) := by rw [List.getElem?_map, List.getElem?_eq_getElem hlen]; rfl
    generalize q.params[pre.length] = z at *
    have e2 := ih2 x suf rfl
    rw [List.length_append, List.length_cons, List.length_nil] at e2
    have e3 : (p.params.map Pm.row)[pre.length]? = some [.str x.name, .int .i64 x.type] := by rw [h]; exact map_mid
    have e4 : decide ((pre.length : Int) < (p.params.length : Int)) = true := by rw [h]; simp; omega
    simp only [Pm.row] at f3
    rw [hd]
    cases h5 : (x.name == z.name && decide (x.type = z.type)) with
    | false => simp (maxSteps := 1000000) only [go_sem, acondK_bool, acB_merge, Nat.reduceLT, Nat.reduceLeDiff, Nat.reduceEqDiff, Nat.reduceAdd, Nat.reduceSub, Nat.reduceMul, Nat.reduceBEq, Nat.reduceBNe, Nat.reduceBneDiff, Nat.reduceBeqDiff, Int.reduceToNat, Int.reduceLE, Int.reduceLT, Int.reduceEq, Int.reduceNe, Int.reduceNeg, Int.reduceAdd, Int.reduceSub, ↓reduceIte, reduceCtorEq, e3, e4, f3, h5, k_drawn_q, wrap_nat hb, eqL, eqPm]
    | true => simp (maxSteps := 1000000) only [go_sem, acondK_bool, acB_merge, Nat.reduceLT, Nat.reduceLeDiff, Nat.reduceEqDiff, Nat.reduceAdd, Nat.reduceSub, Nat.reduceMul, Nat.reduceBEq, Nat.reduceBNe, Nat.reduceBneDiff, Nat.reduceBeqDiff, Int.reduceToNat, Int.reduceLE, Int.reduceLT, Int.reduceEq, Int.reduceNe, Int.reduceNeg, Int.reduceAdd, Int.reduceSub, ↓reduceIte, reduceCtorEq, e3, e4, f3, e2, h5, k_drawn_q, wrap_nat hb, eqL, eqPm]
mutual
theorem eqE_iff : ∀ x y, eqE x y = true ↔ x = y
  | .mk op n s args, .mk op' n' s' args' => by
    simp only [eqE, Bool.and_eq_true, decide_eq_true_eq, beq_iff_eq, E.mk.injEq]
    constructor
    · rintro ⟨⟨⟨⟨h1, h2⟩, h3⟩, h4⟩, h5⟩
      exact ⟨h1, h2, h3, (eqEs_iff args args' (Int.ofNat_inj.1 h4)).1 h5⟩
    · rintro ⟨rfl, rfl, rfl, rfl⟩
      exact ⟨⟨⟨⟨rfl, rfl⟩, rfl⟩, rfl⟩, (eqEs_iff args args rfl).2 rfl⟩
theorem eqEs_iff : ∀ (l m : List E), l.length = m.length → (eqEs l m = true ↔ l = m)
  | [], [], _ => by simp [eqEs]
  | [], _ :: _, h => by simp at h
  | _ :: _, [], h => by simp at h
  | x :: l, y :: m, h => by
    simp only [eqEs, Bool.and_eq_true, List.cons.injEq]
    rw [eqE_iff x y, eqEs_iff l m (by simpa using h)]
end
mutual
theorem eqS_iff : ∀ x y, eqS x y = true ↔ x = y
  | .mk op name max a b body els, .mk op' name' max' a' b' body' els' => by
    simp only [eqS, Bool.and_eq_true, decide_eq_true_eq, beq_iff_eq, Stm.mk.injEq, eqE_iff]
    constructor
    · rintro ⟨⟨⟨⟨⟨⟨h1, h2⟩, h3⟩, h4⟩, h5⟩, h6, h7⟩, h8, h9⟩
      exact ⟨h1, h2, h3, h4, h5, (eqSs_iff body body' (Int.ofNat_inj.1 h6)).1 h7, (eqSs_iff els els' (Int.ofNat_inj.1 h8)).1 h9⟩
    · rintro ⟨rfl, rfl, rfl, rfl, rfl, rfl, rfl⟩
      exact ⟨⟨⟨⟨⟨⟨rfl, rfl⟩, rfl⟩, rfl⟩, rfl⟩, rfl, (eqSs_iff body body rfl).2 rfl⟩, rfl, (eqSs_iff els els rfl).2 rfl⟩
theorem eqSs_iff : ∀ (l m : List Stm), l.length = m.length → (eqSs l m = true ↔ l = m)
  | [], [], _ => by simp [eqSs]
  | [], _ :: _, h => by simp at h
  | _ :: _, [], h => by simp at h
  | x :: l, y :: m, h => by
    simp only [eqSs, Bool.and_eq_true, List.cons.injEq]
    rw [eqS_iff x y, eqSs_iff l m (by simpa using h)]
end
theorem eqPm_iff (x y : Pm) : eqPm x y = true ↔ x = y := by
  cases x; cases y
  simp [eqPm]
theorem eqL_iff {α : Type} {q : α → α → Bool} (hq : ∀ x y, q x y = true ↔ x = y) : ∀ (l m : List α), l.length = m.length → (eqL q l m = true ↔ l = m)
  | [], [], _ => by simp [eqL]
  | [], _ :: _, h => by simp at h
  | _ :: _, [], h => by simp at h
  | x :: l, y :: m, h => by
    simp only [eqL, Bool.and_eq_true, List.cons.injEq]
    rw [hq x y, eqL_iff hq l m (by simpa using h)]
theorem eqP_iff (p q : Pr) : eqP p q = true ↔ p = q := by
  obtain ⟨n, ps, b⟩ := p
  obtain ⟨n', ps', b'⟩ := q
  simp only [eqP, Bool.and_eq_true, decide_eq_true_eq, beq_iff_eq, Pr.mk.injEq]
  constructor
  · rintro ⟨⟨h1, h2, h3⟩, h4, h5⟩
    exact ⟨h1, (eqL_iff eqPm_iff ps ps' (by omega)).1 h3, (eqSs_iff b b' (by omega)).1 h5⟩
  · rintro ⟨rfl, rfl, rfl⟩
    exact ⟨⟨rfl, rfl, (eqL_iff eqPm_iff ps ps rfl).2 rfl⟩, rfl, (eqSs_iff b b rfl).2 rfl⟩
theorem eqP_refl (p : Pr) : eqP p p = true := (eqP_iff p p).2 rfl
theorem eqP_symm (p q : Pr) : eqP q p = eqP p q := by
  rw [Bool.eq_iff_iff, eqP_iff, eqP_iff]
  exact eq_comm
end Go.Proofs.YtfflfaedghfmdaaDoor
