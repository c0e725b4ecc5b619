/- Renaming: what it keeps, and how it is undone. -/
import Derived.Test.YtfoibmfocmjmdaaSeatH
set_option linter.unusedVariables false
set_option linter.unusedSimpArgs false
set_option linter.all false
set_option linter.deprecated false
set_option linter.all false
namespace Go.Proofs.Ytfoibmfocmjmdaa
open Go.Abs
/-! parameters -/
theorem prmF_zero : ∀ (l pre : List Pm), prmF pre l = 0 → (∀ x ∈ l, isName x.name = true ∧ 1 ≤ x.type ∧ x.type ≤ 3) ∧ (∀ x ∈ l, ∀ y ∈ pre, y.name ≠ x.name) ∧ (l.map Pm.name).Nodup
  | [], pre, _ => by simp
  | x :: l, pre, h => by
    unfold prmF at h
    split at h
    · cases h
    rename_i h1
    split at h
    · cases h
    rename_i h2
    split at h
    · cases h
    rename_i h3
    obtain ⟨k1, k2, k3⟩ := prmF_zero l (pre ++ [x]) h
    simp at h1 h2 h3
    refine ⟨fun y hy => ?_, fun y hy z hz => ?_, ?_⟩
    · rcases List.mem_cons.1 hy with rfl | hy
      · exact ⟨h1, by omega, by omega⟩
      · exact k1 y hy
    · rcases List.mem_cons.1 hy with rfl | hy
      · exact h3 z hz
      · exact k2 y hy z (List.mem_append_left _ hz)
    · rw [List.map_cons, List.nodup_cons]
      refine ⟨fun hm => ?_, k3⟩
      obtain ⟨y, hy, he⟩ := List.mem_map.1 hm
      exact k2 y hy x (List.mem_append_right _ (List.mem_cons_self ..)) he.symm
theorem prmF_of : ∀ (l pre : List Pm), (∀ x ∈ l, isName x.name = true ∧ 1 ≤ x.type ∧ x.type ≤ 3) → (∀ x ∈ l, ∀ y ∈ pre, y.name ≠ x.name) → (l.map Pm.name).Nodup → prmF pre l = 0
  | [], pre, _, _, _ => rfl
  | x :: l, pre, h1, h2, h3 => by
    unfold prmF
    obtain ⟨a1, a2, a3⟩ := h1 x (List.mem_cons_self ..)
    rw [if_neg (by simp [a1]), if_neg (by simp; omega), if_neg (by simp; exact h2 x (List.mem_cons_self ..))]
    rw [List.map_cons, List.nodup_cons] at h3
    refine prmF_of l (pre ++ [x]) (fun y hy => h1 y (List.mem_cons_of_mem _ hy)) (fun y hy z hz => ?_) h3.2
    rcases List.mem_append.1 hz with hz | hz
    · exact h2 y (List.mem_cons_of_mem _ hy) z hz
    · rw [List.mem_singleton] at hz
      subst hz
      intro e
      exact h3.1 (List.mem_map.2 ⟨y, hy, e.symm⟩)
theorem prmS_zero (l : List Pm) : prmS l = 0 ↔ l.length ≤ 6 ∧ (∀ x ∈ l, isName x.name = true ∧ 1 ≤ x.type ∧ x.type ≤ 3) ∧ (l.map Pm.name).Nodup := by
  unfold prmS
  by_cases h : l.length ≤ 6
  · rw [if_neg (by simp; omega)]
    constructor
    · intro h'
      obtain ⟨k1, _, k3⟩ := prmF_zero l [] h'
      exact ⟨h, k1, k3⟩
    · rintro ⟨_, k1, k3⟩
      exact prmF_of l [] k1 (by simp) k3
  · rw [if_pos (by simp; omega)]
    exact ⟨fun h' => (by cases h'), fun h' => absurd h'.1 h⟩
/-! occurrence -/
mutual
theorem any_visE (w : Bytes) : ∀ (e : E) (r : Bool), (visE e r).any (visHas w) = menE w e
  | .mk op n s args, r => by
    simp only [visE, List.any_cons, visHas, menE]
    rw [any_visEs w args]
theorem any_visEs (w : Bytes) : ∀ (l : List E), (visEs l).any (visHas w) = menE.menEs w l
  | [] => by simp [visEs, menE.menEs]
  | x :: l => by simp only [visEs, List.any_append, menE.menEs]; rw [any_visE w x false, any_visEs w l]
end
/-- what the program asks of a visit -/
def visQ (w : Bytes) : Vis → Bool
  | .s x _ => x.name == w
  | .e x true => menE w x
  | .e _ false => false
theorem anyQ_no (w : Bytes) : ∀ (l : List Vis), (∀ v ∈ l, ∃ x, v = .e x false) → l.any (visQ w) = false
  | [], _ => rfl
  | v :: l, h => by
    obtain ⟨x, rfl⟩ := h v (List.mem_cons_self ..)
    rw [List.any_cons, anyQ_no w l fun v hv => h v (List.mem_cons_of_mem _ hv)]
    rfl
mutual
theorem visE_false : ∀ (e : E), ∀ v ∈ visE e false, ∃ x, v = Vis.e x false
  | .mk op n s args, v, h => by
    simp only [visE, List.mem_cons] at h
    rcases h with h | h
    · exact ⟨_, h⟩
    · exact visEs_false args v h
theorem visEs_false : ∀ (l : List E), ∀ v ∈ visEs l, ∃ x, v = Vis.e x false
  | [], v, h => by simp [visEs] at h
  | x :: l, v, h => by
    simp only [visEs, List.mem_append] at h
    rcases h with h | h
    · exact visE_false x v h
    · exact visEs_false l v h
end
theorem anyQ_visE (w : Bytes) (e : E) : (visE e true).any (visQ w) = menE w e := by
  cases e with
  | mk op n s args =>
    simp only [visE, List.any_cons, visQ]
    rw [anyQ_no w _ (visEs_false args), Bool.or_false]
mutual
theorem anyQ_S (w : Bytes) : ∀ (x : Stm) (d : Int), (visS x d).any (visHas w) = (visS x d).any (visQ w)
  | .mk op name max a b body els, d => by
    simp only [visS, List.any_cons, List.any_append]
    rw [anyQ_Ss w body, anyQ_Ss w els]
    congr 1
    congr 1
    · split
      · rfl
      · rw [any_visE, anyQ_visE]
    · congr 1
      split
      · rfl
      · rw [any_visE, anyQ_visE]
theorem anyQ_Ss (w : Bytes) : ∀ (l : List Stm) (d : Int), (visSs l d).any (visHas w) = (visSs l d).any (visQ w)
  | [], _ => by simp [visSs]
  | x :: l, d => by simp only [visSs, List.any_append]; rw [anyQ_S w x d, anyQ_Ss w l d]
end
def visO (w : Bytes) : Vis → Bool
  | .s x _ => decide (x.op = 2) && (x.name == w)
  | .e x true => menE w x
  | .e _ false => false
theorem occ_fold (w : Bytes) : ∀ (l : List Vis) (t : Bool), l.foldl (fun t v => step1 (occF w) (occR w) v t) t = (t || l.any (visO w))
  | [], t => by simp
  | .s x d :: l, t => by rw [List.foldl_cons]; refine (occ_fold w l _).trans ?_; simp only [step1, occF, List.any_cons, visO, Bool.or_assoc]
  | .e x true :: l, t => by rw [List.foldl_cons]; refine (occ_fold w l _).trans ?_; simp only [step1, occR, List.any_cons, visO, Bool.or_assoc]
  | .e x false :: l, t => by rw [List.foldl_cons]; refine (occ_fold w l _).trans ?_; simp only [step1, List.any_cons, visO, Bool.false_or]
theorem hasN_append (l m : List Bytes) (w : Bytes) : hasN (l ++ m) w = (hasN l w || hasN m w) := by simp [hasN]
theorem hasN_params (w : Bytes) : ∀ l : List Pm, hasN (l.map Pm.name) w = l.any fun x => x.name == w
  | [] => rfl
  | x :: l => by
    have := hasN_params w l
    unfold hasN at this ⊢
    rw [List.map_cons, List.any_cons, List.any_cons, this, Bool.beq_comm]
theorem uN_iff (op : Int) : uN op = true ↔ op = 1 ∨ op = 2 ∨ op = 6 := by simp [uN, or_assoc]
theorem any_names (w : Bytes) (hw : w ≠ []) : ∀ (l : List Vis), (∀ x d, Vis.s x d ∈ l → StmOk x d) → (hasN (namesV l) w || l.any (visO w)) = l.any (visQ w)
  | [], _ => by simp [namesV, hasN]
  | .e x true :: l, h => by
    have ih := any_names w hw l fun x d hm => h x d (List.mem_cons_of_mem _ hm)
    simp only [namesV, List.any_cons, visO, visQ]
    rw [← ih]
    cases hasN (namesV l) w <;> cases menE w x <;> simp
  | .e x false :: l, h => by
    have ih := any_names w hw l fun x d hm => h x d (List.mem_cons_of_mem _ hm)
    simp only [namesV, List.any_cons, visO, visQ]
    rw [← ih]
    simp
  | .s x d :: l, h => by
    have ih := any_names w hw l fun x d hm => h x d (List.mem_cons_of_mem _ hm)
    have hs := h x d (List.mem_cons_self ..)
    simp only [namesV, List.any_cons, visO, visQ]
    rw [← ih]
    by_cases hu : uN x.op = true
    · rw [uN_iff] at hu
      rcases hu with hu | hu | hu
      · rw [hu]
        simp only [decide_true, Bool.true_or, if_true]
        have : hasN (x.name :: namesV l) w = ((x.name == w) || hasN (namesV l) w) := by simp [hasN, Bool.beq_comm]
        rw [this]
        cases (x.name == w) <;> cases hasN (namesV l) w <;> simp
      · rw [hu]
        simp
        cases (x.name == w) <;> cases hasN (namesV l) w <;> simp
      · rw [hu]
        simp only [decide_true, Bool.or_true, if_true]
        have : hasN (x.name :: namesV l) w = ((x.name == w) || hasN (namesV l) w) := by simp [hasN, Bool.beq_comm]
        rw [this]
        cases (x.name == w) <;> cases hasN (namesV l) w <;> simp
    · have hu' : uN x.op = false := by simpa using hu
      have h0 := hs.nname hu'
      have h1 : (x.name == w) = false := by
        rw [h0]
        simp
        exact fun e => hw e
      have h2 : ¬ (decide (x.op = 1) || decide (x.op = 6)) = true := by
        intro hh
        apply hu
        rw [uN_iff]
        simp at hh
        omega
      rw [if_neg h2, h1]
      simp
theorem Vld.stmOk {p : Pr} (h : Vld p) : ∀ x d, Vis.s x d ∈ visSs p.body 1 → StmOk x d := fun x d hm => stmtS_zero (h.stm x d hm)
theorem occ_eq {p : Pr} (h : Vld p) {w : Bytes} (hw : w ≠ []) : occS p w = occT p w := by
  unfold occS occT
  rw [occ_fold, h.vis]
  unfold namesS paramNames
  rw [hasN_append, hasN_params, Bool.or_assoc, h.vis, any_names w hw _ h.stmOk, ← anyQ_Ss]
theorem namesV_ok : ∀ (l : List Vis), (∀ x d, Vis.s x d ∈ l → StmOk x d) → ∀ s ∈ namesV l, isName s = true
  | [], _, s, hs => by simp [namesV] at hs
  | .e x r :: l, h, s, hs => namesV_ok l (fun x d hm => h x d (List.mem_cons_of_mem _ hm)) s hs
  | .s x d :: l, h, s, hs => by
    have ih := namesV_ok l fun x d hm => h x d (List.mem_cons_of_mem _ hm)
    simp only [namesV] at hs
    split at hs
    · rename_i ho
      rcases List.mem_cons.1 hs with rfl | hs
      · exact (h x d (List.mem_cons_self ..)).name (by rw [uN_iff]; simp at ho; omega)
      · exact ih s hs
    · exact ih s hs
theorem Vld.names {p : Pr} (h : Vld p) : ∀ s ∈ namesS p, isName s = true := by
  intro s hs
  unfold namesS paramNames at hs
  rcases List.mem_append.1 hs with hs | hs
  · obtain ⟨x, hx, rfl⟩ := List.mem_map.1 hs
    exact (((prmS_zero _).1 h.prm).2.1 x hx).1
  · rw [h.vis] at hs
    exact namesV_ok _ h.stmOk s hs
theorem hasN_mem {l : List Bytes} {w : Bytes} : hasN l w = true ↔ w ∈ l := by
  unfold hasN
  rw [List.any_eq_true]
  constructor
  · rintro ⟨x, hx, h⟩
    rw [beq_iff_eq] at h
    rw [h]; exact hx
  · intro h
    exact ⟨w, h, by simp⟩
theorem Vld.isName {p : Pr} (h : Vld p) {a : Bytes} (ha : hasN (namesS p) a = true) : isName a = true := h.names a (hasN_mem.1 ha)
theorem isName_ne {s : Bytes} (h : isName s = true) : s ≠ [] := by rintro rfl; simp [Go.Proofs.Ytfoibmfocmjmdaa.isName] at h
theorem rename_ne (p : Pr) (a : Bytes) : valS p = 0 → hasN (namesS p) a = true → a ≠ [] := fun hv ha => isName_ne (((valS_zero p).1 hv).isName ha)
theorem rnm_eq (p : Pr) (a b : Bytes) : rnmS p a b = rnmT p a b := by
  unfold rnmS rnmT
  split
  · rename_i hv
    split
    · rename_i hb
      rw [occ_eq ((valS_zero p).1 hv) (isName_ne hb)]
    · rfl
  · rfl
end Go.Proofs.Ytfoibmfocmjmdaa
set_option linter.all false
namespace Go.Proofs.Ytfoibmfocmjmdaa
open Go.Abs
attribute [local congr] ite_congr
set_option maxRecDepth 10000
theorem renN_len {a b s : Bytes} {N : Nat} (hb : b.length ≤ N) (hs : s.length ≤ N) : (renN a b s).length ≤ N := by
  unfold renN; split <;> assumption
theorem renE_ok {a b : Bytes} (hb : b.length ≤ 1099511627776) : ∀ e : E, E.Ok e → E.Ok (renE a b e) := by
  intro e
  induction e using E.ind with
  | h op n s args ih =>
    intro h
    rw [renE, renEs_map]
    refine .mk _ _ _ _ h.op h.n ?_ (by simpa using h.len) (by simpa using h.fit) ?_
    · split
      · exact renN_len hb h.s
      · exact h.s
    · intro x hx
      obtain ⟨y, hy, rfl⟩ := List.mem_map.1 hx
      exact ih y hy (h.arg y hy)
theorem renS_ok {a b : Bytes} (hb : b.length ≤ 1099511627776) : ∀ x : Stm, x.Ok → (renS a b x).Ok := by
  intro x
  induction x using Stm.ind with
  | h op name max u v body els ihb ihe =>
    intro h
    rw [renS, renSs_map, renSs_map]
    cases h with
    | mk _ _ _ _ _ _ _ ho hm hn ha hb' h1 h2 h5 h6 h3 h4 =>
    refine .mk _ _ _ _ _ _ _ ho hm (renN_len hb hn) (renE_ok hb _ ha) (renE_ok hb _ hb') (by simpa using h1) (by simpa using h2) (by simpa using h5) (by simpa using h6) ?_ ?_
    · intro x hx
      obtain ⟨y, hy, rfl⟩ := List.mem_map.1 hx
      exact ihb y hy (h3 y hy)
    · intro x hx
      obtain ⟨y, hy, rfl⟩ := List.mem_map.1 hx
      exact ihe y hy (h4 y hy)
theorem renP_ok {a b : Bytes} (hb : b.length ≤ 1099511627776) (p : Pr) (h : p.Ok) : (renP a b p).Ok where
  name := h.name
  plen := by simpa [renP] using h.plen
  params := by
    intro x hx
    obtain ⟨y, hy, rfl⟩ := List.mem_map.1 hx
    exact ⟨renN_len hb (h.params y hy).name, (h.params y hy).type⟩
  blen := by simpa [renP, renSs_map] using h.blen
  body := by
    intro x hx
    simp only [renP, renSs_map] at hx
    obtain ⟨y, hy, rfl⟩ := List.mem_map.1 hx
    exact renS_ok hb y (h.body y hy)
  pfit := by simpa [renP] using h.pfit
  bfit := by simpa [renP, renSs_map] using h.bfit
theorem zP_ok : zP.Ok := ⟨by decide, by decide, by simp [zP], by decide, by simp [zP], by decide, by decide⟩
theorem rnm_ok {a b : Bytes} (hb : b.length ≤ 1099511627776) (p : Pr) (h : p.Ok) : (rnmS p a b).1.Ok := by
  unfold rnmS
  split
  · split
    · split
      · split
        · exact zP_ok
        · exact renP_ok hb p h
      · exact zP_ok
    · exact zP_ok
  · exact zP_ok
theorem lawRenamed (p : Pr) (a b : Bytes) (hp : p.Ok) (ha : a.length ≤ 1048576) (hb : b.length ≤ 1048576) : acl C 8 [Pr.av p, .d (.str a), .d (.str b)] A00 = some (.d (.bool true), A00) := by
  rw [k_call (c := C) (f := 8) rfl Try.func8 rfl (ok 8 (by kernel_rfl)) rfl Try.ntmps8 Try.results8 (by simp)]
  cases hs : smallS p 600 with
  | false => simp (maxSteps := 1000000) +contextual only [go_sem, acondK_bool, acB_merge, Nat.reduceLT, Nat.reduceLeDiff, Nat.reduceEqDiff, Nat.reduceAdd, Nat.reduceSub, Nat.reduceMul, Nat.reduceBEq, Nat.reduceBNe, Nat.reduceBneDiff, Nat.reduceBeqDiff, Int.reduceToNat, Int.reduceLE, Int.reduceLT, Int.reduceEq, Int.reduceNe, Int.reduceNeg, Int.reduceAdd, Int.reduceSub, ↓reduceIte, reduceCtorEq, List.getElem?_toArray, List.getElem?_cons_zero, List.getElem?_cons_succ, List.length_cons, List.length_nil, List.take_succ_cons, List.take_zero, List.drop_succ_cons, List.drop_zero, List.drop_nil, List.take_nil, List.nil_append, List.cons_append, List.append_nil, List.contains_cons, List.contains_nil, Bool.or_false, Bool.false_or, Bool.or_true, Bool.true_or, Bool.and_true, Bool.true_and, Bool.and_false, Bool.false_and, Bool.not_true, Bool.not_false, Bool.not_not, Option.isSome_some, Option.isSome_none, List.map_cons, List.map_nil, ite_not, not_true_eq_false, not_false_eq_true, Nat.zero_add, Nat.add_zero, small p hp, works, hs]
  | true =>
  cases h1 : decide (200 < (a.length : Int)) with
  | true => simp (maxSteps := 1000000) +contextual only [go_sem, acondK_bool, acB_merge, Nat.reduceLT, Nat.reduceLeDiff, Nat.reduceEqDiff, Nat.reduceAdd, Nat.reduceSub, Nat.reduceMul, Nat.reduceBEq, Nat.reduceBNe, Nat.reduceBneDiff, Nat.reduceBeqDiff, Int.reduceToNat, Int.reduceLE, Int.reduceLT, Int.reduceEq, Int.reduceNe, Int.reduceNeg, Int.reduceAdd, Int.reduceSub, ↓reduceIte, reduceCtorEq, List.getElem?_toArray, List.getElem?_cons_zero, List.getElem?_cons_succ, List.length_cons, List.length_nil, List.take_succ_cons, List.take_zero, List.drop_succ_cons, List.drop_zero, List.drop_nil, List.take_nil, List.nil_append, List.cons_append, List.append_nil, List.contains_cons, List.contains_nil, Bool.or_false, Bool.false_or, Bool.or_true, Bool.true_or, Bool.and_true, Bool.true_and, Bool.and_false, Bool.false_and, Bool.not_true, Bool.not_false, Bool.not_not, Option.isSome_some, Option.isSome_none, List.map_cons, List.map_nil, ite_not, not_true_eq_false, not_false_eq_true, Nat.zero_add, Nat.add_zero, small p hp, works, hs, h1]
  | false =>
  cases h2 : decide (200 < (b.length : Int)) with
  | true => simp (maxSteps := 1000000) +contextual only [go_sem, acondK_bool, acB_merge, Nat.reduceLT, Nat.reduceLeDiff, Nat.reduceEqDiff, Nat.reduceAdd, Nat.reduceSub, Nat.reduceMul, Nat.reduceBEq, Nat.reduceBNe, Nat.reduceBneDiff, Nat.reduceBeqDiff, Int.reduceToNat, Int.reduceLE, Int.reduceLT, Int.reduceEq, Int.reduceNe, Int.reduceNeg, Int.reduceAdd, Int.reduceSub, ↓reduceIte, reduceCtorEq, List.getElem?_toArray, List.getElem?_cons_zero, List.getElem?_cons_succ, List.length_cons, List.length_nil, List.take_succ_cons, List.take_zero, List.drop_succ_cons, List.drop_zero, List.drop_nil, List.take_nil, List.nil_append, List.cons_append, List.append_nil, List.contains_cons, List.contains_nil, Bool.or_false, Bool.false_or, Bool.or_true, Bool.true_or, Bool.and_true, Bool.true_and, Bool.and_false, Bool.false_and, Bool.not_true, Bool.not_false, Bool.not_not, Option.isSome_some, Option.isSome_none, List.map_cons, List.map_nil, ite_not, not_true_eq_false, not_false_eq_true, Nat.zero_add, Nat.add_zero, small p hp, works, hs, h1, h2]
  | false =>
  have h40 := small40 hs
  have r1 := rename p hp h40 a b (by omega) (rename_ne p a)
  have r2 := renameR p hp h40 a b (by omega)
  rw [← rnm_eq] at r2
  have hq := rnm_ok (a := a) (b := b) (by omega) p hp
  generalize rnmS p a b = r at *
  have e1 := equalR r.1 r.1 hq hq
  rw [eqP_refl] at e1
  simp (maxSteps := 1000000) +contextual only [go_sem, acondK_bool, acB_merge, Nat.reduceLT, Nat.reduceLeDiff, Nat.reduceEqDiff, Nat.reduceAdd, Nat.reduceSub, Nat.reduceMul, Nat.reduceBEq, Nat.reduceBNe, Nat.reduceBneDiff, Nat.reduceBeqDiff, Int.reduceToNat, Int.reduceLE, Int.reduceLT, Int.reduceEq, Int.reduceNe, Int.reduceNeg, Int.reduceAdd, Int.reduceSub, ↓reduceIte, reduceCtorEq, List.getElem?_toArray, List.getElem?_cons_zero, List.getElem?_cons_succ, List.length_cons, List.length_nil, List.take_succ_cons, List.take_zero, List.drop_succ_cons, List.drop_zero, List.drop_nil, List.take_nil, List.nil_append, List.cons_append, List.append_nil, List.contains_cons, List.contains_nil, Bool.or_false, Bool.false_or, Bool.or_true, Bool.true_or, Bool.and_true, Bool.true_and, Bool.and_false, Bool.false_and, Bool.not_true, Bool.not_false, Bool.not_not, Option.isSome_some, Option.isSome_none, List.map_cons, List.map_nil, ite_not, not_true_eq_false, not_false_eq_true, Nat.zero_add, Nat.add_zero, small p hp, works, hs, h1, h2, r1, r2, e1]
end Go.Proofs.Ytfoibmfocmjmdaa
