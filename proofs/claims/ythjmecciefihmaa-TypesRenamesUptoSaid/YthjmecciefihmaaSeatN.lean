/- Renaming a variable to a fresh name commutes with the check: the plain part. -/
import Derived.Test.YthjmecciefihmaaSeatM
import Derived.Test.YthjmecciefihmaaSeatI
set_option linter.unusedVariables false
set_option linter.unusedSimpArgs false
set_option linter.all false
set_option linter.deprecated false
set_option linter.all false
namespace Go.Proofs.Ythjmecciefihmaa
open Go.Abs
theorem menE_abs {w : Bytes} {e : E} (h : absE e = true) : menE w e = false := by
  cases e with
  | mk op n s args =>
    simp only [absE, absentS, Bool.and_eq_true, decide_eq_true_eq] at h
    obtain ⟨⟨⟨h1, _⟩, _⟩, h4⟩ := h
    have : args = [] := by cases args with | nil => rfl | cons _ _ => simp at h4; omega
    subst this
    simp [menE, menE.menEs, h1]
theorem menE_vis {w : Bytes} {e : E} (h : (if absE e = true then [] else visE e true).any (visHas w) = false) : menE w e = false := by
  by_cases ha : absE e = true
  · exact menE_abs ha
  · rw [if_neg ha, any_visE] at h
    exact h
theorem free_S {w : Bytes} {op : Int} {name : Bytes} {max : Int} {x y : E} {body els : List Stm} {d : Int} (h : (visS (.mk op name max x y body els) d).any (visHas w) = false) :
    name ≠ w ∧ menE w x = false ∧ menE w y = false ∧ (visSs body (IntKind.i64.wrap (d + 1))).any (visHas w) = false ∧ (visSs els (IntKind.i64.wrap (d + 1))).any (visHas w) = false := by
  simp only [visS, List.any_cons, List.any_append, Bool.or_eq_false_iff] at h
  obtain ⟨h1, h2, h3, h4, h5⟩ := h
  refine ⟨?_, menE_vis h2, menE_vis h3, h4, h5⟩
  intro e
  simp [visHas, Stm.name, e] at h1
section
variable {a b : Bytes} (ha : isName a = true) (hb : isName b = true)
include ha hb
theorem renN_beq {s t : Bytes} (hs : s ≠ b) (ht : t ≠ b) : (renN a b s == renN a b t) = (s == t) := by
  by_cases h : s = t
  · subst h; simp
  · have h1 : (s == t) = false := by simpa using h
    rw [h1]
    have : renN a b s ≠ renN a b t := fun e => h (renN_inj ha hb hs ht e)
    simpa using this
theorem getP_ren : ∀ (l : List Pm) (k : Bytes), (∀ x ∈ l, x.name ≠ b) → k ≠ b → getP (l.map (renPm a b)) (renN a b k) = getP l k
  | [], k, _, _ => rfl
  | x :: l, k, hl, hk => by
    simp only [List.map_cons, getP, renPm]
    rw [renN_beq ha hb (hl x (List.mem_cons_self ..)) hk, getP_ren l k (fun y hy => hl y (List.mem_cons_of_mem _ hy)) hk]
mutual
theorem ofE_ren {l : List Pm} (hl : ∀ x ∈ l, x.name ≠ b) : ∀ e : E, menE b e = false → ofE (getP (l.map (renPm a b))) (renE a b e) = ofE (getP l) e
  | .mk op n s args, h => by
    simp only [menE, Bool.or_eq_false_iff] at h
    simp only [renE, ofE]
    by_cases h3 : op = 3
    · subst h3
      have hs : s ≠ b := by simpa using h.1
      simp only [decide_true, if_true]
      rw [getP_ren ha hb l s hl hs]
    · rw [if_neg (by simpa using h3), if_neg (by simpa using h3)]
      exact ofL_ren hl op [] args h.2
theorem ofL_ren {l : List Pm} (hl : ∀ x ∈ l, x.name ≠ b) (op : Int) : ∀ (ts : List Int) (m : List E), menE.menEs b m = false → ofL (getP (l.map (renPm a b))) op ts (renEs a b m) = ofL (getP l) op ts m
  | ts, [], h => rfl
  | ts, x :: m, h => by
    simp only [menE.menEs, Bool.or_eq_false_iff] at h
    simp only [renEs, ofL]
    rw [ofE_ren hl x h.1]
    split
    · exact ofL_ren hl op _ m h.2
    · rfl
end
theorem ofS_ren {l : List Pm} (hl : ∀ x ∈ l, x.name ≠ b) (e : E) (h : menE b e = false) : ofS (renE a b e) (l.map (renPm a b)) = ofS e l := by
  unfold ofS
  rw [chkE_ren ha hb, ofE_ren ha hb hl e h]
theorem opsS_ren {l : List Pm} (hl : ∀ x ∈ l, x.name ≠ b) (x : Stm) (h1 : menE b x.a = false) (h2 : menE b x.b = false) : opsS (getP (l.map (renPm a b))) (renS a b x) = opsS (getP l) x := by
  cases x with
  | mk op name max u v body els =>
    simp only [Stm.a, Stm.b] at h1 h2
    show opsS _ (.mk op (renN a b name) max (renE a b u) (renE a b v) (renSs a b body) (renSs a b els)) = _
    unfold opsS
    simp only [Stm.a, Stm.b]
    rw [ofE_ren ha hb hl u h1, ofE_ren ha hb hl v h2]
theorem any_ren {w : Bytes} (hw : w ≠ b) : ∀ (l : List Bytes), (∀ k ∈ l, k ≠ b) → (l.map (renN a b)).any (fun j => j == renN a b w) = l.any (fun j => j == w)
  | [], _ => rfl
  | x :: l, h => by
    simp only [List.map_cons, List.any_cons]
    rw [renN_beq ha hb (h x (List.mem_cons_self ..)) hw, any_ren hw l (fun k hk => h k (List.mem_cons_of_mem _ hk))]
theorem asgS_ren {vars : List Pm} {loops : List Bytes} (hl : ∀ x ∈ vars, x.name ≠ b) (hk : ∀ k ∈ loops, k ≠ b) {w : Bytes} (hw : w ≠ b) (t : Int) : asgS (vars.map (renPm a b)) (loops.map (renN a b)) (renN a b w) t = asgS vars loops w t := by
  unfold asgS
  rw [getP_ren ha hb vars w hl hw, any_ren ha hb hw loops hk]
mutual
theorem stR_ren : ∀ (x : Stm) (d : Int) (vars : List Pm) (loops : List Bytes), (∀ y ∈ vars, y.name ≠ b) → (∀ k ∈ loops, k ≠ b) → (visS x d).any (visHas b) = false → stR (vars.map (renPm a b)) (loops.map (renN a b)) (renS a b x) = stR vars loops x
  | .mk op name max x y body els, d, vars, loops, hl, hk, h => by
    obtain ⟨h1, h2, h3, h4, h5⟩ := free_S h
    have o := opsS_ren ha hb hl (.mk op name max x y body els) h2 h3
    have g := fun t => asgS_ren ha hb hl hk h1 t
    have b1 := bdR_ren body _ vars loops hl hk h4
    have b2 := bdR_ren els _ vars loops hl hk h5
    have b3 := bdR_ren body _ (vars ++ [⟨name, 1⟩]) (loops ++ [name]) (by
      intro z hz
      rcases List.mem_append.1 hz with hz | hz
      · exact hl z hz
      · simp at hz; subst hz; exact h1) (by
      intro z hz
      rcases List.mem_append.1 hz with hz | hz
      · exact hk z hz
      · simp at hz; subst hz; exact h1) h4
    rw [List.map_append, List.map_append, List.map_cons, List.map_cons, List.map_nil, List.map_nil] at b3
    simp only [renS] at o ⊢
    rw [stR, stR, o, g]
    have e1 : renPm a b ⟨name, 1⟩ = ⟨renN a b name, 1⟩ := rfl
    rw [e1] at b3
    rw [b1, b2, b3]
theorem bdR_ren : ∀ (l : List Stm) (d : Int) (vars : List Pm) (loops : List Bytes), (∀ y ∈ vars, y.name ≠ b) → (∀ k ∈ loops, k ≠ b) → (visSs l d).any (visHas b) = false → bdR (vars.map (renPm a b)) (loops.map (renN a b)) (renSs a b l) = bdR vars loops l
  | [], d, vars, loops, hl, hk, h => by simp only [renSs]; rw [bdR_nil, bdR_nil]
  | x :: l, d, vars, loops, hl, hk, h => by
    simp only [visSs, List.any_append, Bool.or_eq_false_iff] at h
    simp only [renSs]
    rw [bdR_cons, bdR_cons, stR_ren x d vars loops hl hk h.1]
    cases x with
    | mk op name max u v body els =>
    obtain ⟨h1, h2, h3, h4, h5⟩ := free_S h.1
    have o := opsS_ren ha hb hl (.mk op name max u v body els) h2 h3
    rw [o]
    have key : (if decide ((renS a b (.mk op name max u v body els)).op = 1) = true then vars.map (renPm a b) ++ [⟨(renS a b (.mk op name max u v body els)).name, (opsS (getP vars) (.mk op name max u v body els)).1⟩] else vars.map (renPm a b)) =
        (if decide ((Stm.mk op name max u v body els).op = 1) = true then vars ++ [⟨(Stm.mk op name max u v body els).name, (opsS (getP vars) (.mk op name max u v body els)).1⟩] else vars).map (renPm a b) := by
      show (if decide (op = 1) = true then vars.map (renPm a b) ++ [⟨renN a b name, (opsS (getP vars) (.mk op name max u v body els)).1⟩] else vars.map (renPm a b)) = (if decide (op = 1) = true then vars ++ [⟨name, (opsS (getP vars) (.mk op name max u v body els)).1⟩] else vars).map (renPm a b)
      split
      · rw [List.map_append]; rfl
      · rfl
    rw [key]
    rw [bdR_ren l d _ loops (by
      intro z hz
      split at hz
      · rcases List.mem_append.1 hz with hz | hz
        · exact hl z hz
        · simp only [List.mem_singleton] at hz
          subst hz
          exact h1
      · exact hl z hz) hk h.2]
end
theorem rvF_ren {T : List Pm} (hT : ∀ x ∈ T, x.name ≠ b) (v : Vis) (hv : (∀ x d, v = .s x d → menE b x.a = false)) : rvF (T.map (renPm a b)) (renV a b v) = (rvF T v).map (renPm a b) := by
  cases v with
  | e x r => rfl
  | s x d =>
    have h := hv x d rfl
    cases x with
    | mk op name max u w body els =>
      simp only [Stm.a] at h
      simp only [renV, rvF, renS, Stm.op, Stm.name, Stm.a]
      rw [ofS_ren ha hb hT u h]
      split
      · rw [List.map_append]; rfl
      · split
        · rw [List.map_append]; rfl
        · rfl
theorem rvF_free {T : List Pm} (hT : ∀ x ∈ T, x.name ≠ b) (v : Vis) (hv : visHas b v = false) : ∀ x ∈ rvF T v, x.name ≠ b := by
  cases v with
  | e x r => exact hT
  | s x d =>
    have hn : x.name ≠ b := by intro e; simp [visHas, e] at hv
    intro y hy
    simp only [rvF] at hy
    split at hy
    · rcases List.mem_append.1 hy with hy | hy
      · exact hT y hy
      · simp at hy; subst hy; exact hn
    · split at hy
      · rcases List.mem_append.1 hy with hy | hy
        · exact hT y hy
        · simp at hy; subst hy; exact hn
      · exact hT y hy
theorem fold_ren : ∀ (l : List Vis) (T : List Pm), (∀ x ∈ T, x.name ≠ b) → l.any (visHas b) = false → (∀ x d, Vis.s x d ∈ l → menE b x.a = false) → (l.map (renV a b)).foldl rvF (T.map (renPm a b)) = (l.foldl rvF T).map (renPm a b)
  | [], T, _, _, _ => rfl
  | v :: l, T, hT, hl, hm => by
    rw [List.any_cons, Bool.or_eq_false_iff] at hl
    rw [List.map_cons, List.foldl_cons, List.foldl_cons, rvF_ren ha hb hT v (fun x d hv => hm x d (by rw [hv]; exact List.mem_cons_self ..))]
    exact fold_ren l _ (rvF_free ha hb hT v hl.1) hl.2 (fun x d hv => hm x d (List.mem_cons_of_mem _ hv))
theorem dupR_ren : ∀ (l pre : List Bytes), (∀ k ∈ l, k ≠ b) → (∀ k ∈ pre, k ≠ b) → dupR (pre.map (renN a b)) (l.map (renN a b)) = dupR pre l
  | [], pre, _, _ => rfl
  | x :: l, pre, hl, hp => by
    have hx := hl x (List.mem_cons_self ..)
    rw [List.map_cons, dupR, dupR, any_ren ha hb hx pre hp]
    have := dupR_ren l (pre ++ [x]) (fun k hk => hl k (List.mem_cons_of_mem _ hk)) (by
      intro k hk
      rcases List.mem_append.1 hk with hk | hk
      · exact hp k hk
      · simp at hk; subst hk; exact hx)
    rw [List.map_append, List.map_cons, List.map_nil] at this
    rw [this]
theorem prm_free {p : Pr} (ho : occT p b = false) : ∀ x ∈ p.params, x.name ≠ b := by
  unfold occT at ho
  rw [Bool.or_eq_false_iff] at ho
  intro x hx e
  have := List.any_eq_false.1 ho.1 x hx
  simp [e] at this
omit ha hb in
theorem namesV_has {w : Bytes} : ∀ (l : List Vis), l.any (visHas w) = false → ∀ k ∈ namesV l, k ≠ w
  | [], _, k, hk => by simp [namesV] at hk
  | .e x r :: l, h, k, hk => by
    rw [List.any_cons, Bool.or_eq_false_iff] at h
    exact namesV_has l h.2 k (by simpa [namesV] using hk)
  | .s x d :: l, h, k, hk => by
    rw [List.any_cons, Bool.or_eq_false_iff] at h
    simp only [namesV] at hk
    split at hk
    · rcases List.mem_cons.1 hk with rfl | hk
      · intro e; simp [visHas, e] at h
      · exact namesV_has l h.2 k hk
    · exact namesV_has l h.2 k hk
omit ha hb in
mutual
theorem free_in {w : Bytes} : ∀ (x : Stm) (d : Int), (visS x d).any (visHas w) = false → ∀ y k, Vis.s y k ∈ visS x d → menE w y.a = false ∧ menE w y.b = false ∧ y.name ≠ w
  | .mk op name max u v body els, d, h, y, k, hy => by
    obtain ⟨h1, h2, h3, h4, h5⟩ := free_S h
    simp only [visS, List.mem_cons, List.mem_append] at hy
    rcases hy with hy | hy | hy | hy | hy
    · simp only [Vis.s.injEq] at hy
      obtain ⟨rfl, _⟩ := hy
      exact ⟨h2, h3, h1⟩
    · obtain ⟨z, r, hz⟩ := visA_all u _ hy
      cases hz
    · obtain ⟨z, r, hz⟩ := visA_all v _ hy
      cases hz
    · exact free_ins body _ h4 y k hy
    · exact free_ins els _ h5 y k hy
theorem free_ins {w : Bytes} : ∀ (l : List Stm) (d : Int), (visSs l d).any (visHas w) = false → ∀ y k, Vis.s y k ∈ visSs l d → menE w y.a = false ∧ menE w y.b = false ∧ y.name ≠ w
  | [], d, h, y, k, hy => by simp [visSs] at hy
  | x :: l, d, h, y, k, hy => by
    simp only [visSs, List.any_append, Bool.or_eq_false_iff] at h
    simp only [visSs, List.mem_append] at hy
    rcases hy with hy | hy
    · exact free_in x d h.1 y k hy
    · exact free_ins l d h.2 y k hy
end
theorem chkS_ren {p : Pr} (V : Vld p) (ho : occT p b = false) : chkS (renP a b p) = chkS p ∧ allV (renP a b p) = (allV p).map (renPm a b) := by
  have hf := prm_free ha hb ho
  have hv : (visSs p.body 1).any (visHas b) = false := by
    unfold occT at ho
    rw [Bool.or_eq_false_iff, V.vis] at ho
    exact ho.2
  have V' := vld_ren ha hb V ho
  have v0 : valS p = 0 := (valS_zero p).2 V
  have v1 : valS (renP a b p) = 0 := (valS_zero _).2 V'
  have hb2 : prmBool (renP a b p).params = prmBool p.params := by
    unfold prmBool renP
    simp only [List.any_map]
    rfl
  have hnm : ∀ k ∈ namesS p, k ≠ b := by
    unfold namesS paramNames
    rw [V.vis]
    intro k hk
    rcases List.mem_append.1 hk with hk | hk
    · obtain ⟨x, hx, rfl⟩ := List.mem_map.1 hk
      exact hf x hx
    · exact namesV_has _ hv k hk
  have hd := dupR_ren ha hb (namesS p) [] hnm (by simp)
  rw [← namesS_ren] at hd
  have hbd := bdR_ren ha hb p.body 1 p.params [] hf (by simp) hv
  refine ⟨?_, ?_⟩
  · rw [chk_eq, chk_eq]
    unfold chkT
    rw [v0, v1, hb2]
    have hd' : dupR [] (namesS (renP a b p)) = dupR [] (namesS p) := hd
    rw [hd']
    have hbd' : bdR (renP a b p).params [] (renP a b p).body = bdR p.params [] p.body := hbd
    rw [hbd']
  · unfold allV
    show (visSs (renSs a b p.body) 1).foldl rvF (p.params.map (renPm a b)) = _
    rw [visSs_ren]
    exact fold_ren ha hb _ _ hf hv (fun x d hx => (free_ins p.body 1 hv x d hx).1)
theorem varsS_ren {p : Pr} (V : Vld p) (ho : occT p b = false) : varsS (renP a b p) = (varsS p).map (renPm a b) := by
  obtain ⟨h1, h2⟩ := chkS_ren ha hb V ho
  unfold varsS
  rw [h1]
  split
  · exact h2
  · rfl
end
end Go.Proofs.Ythjmecciefihmaa
set_option linter.all false
namespace Go.Proofs.Ythjmecciefihmaa
open Go.Abs
attribute [local congr] ite_congr
set_option maxRecDepth 10000
theorem renPm_row (a b : Bytes) (x : Pm) : (renPm a b x).row = [.str (renN a b x.name), .int .i64 x.type] := rfl
set_option maxHeartbeats 2000000 in
theorem lawTypesRenames (p : Pr) (a b : Bytes) (hp : p.Ok) (ha : a.length ≤ 1048576) (hb : b.length ≤ 1048576) : acl C 8 [Pr.av p, .d (.str a), .d (.str b)] A00 = some (.d (.bool true), A00) := by
  rw [k_call (c := C) (f := 8) rfl Try.func8 rfl (ok 8 (by kernel_rfl)) rfl Try.ntmps8 Try.results8 (by simp)]
  cases hs : smallS p 600 with
  | false => simp (maxSteps := 1000000) only [go_sem, acondK_bool, acB_merge, Nat.reduceLT, Nat.reduceLeDiff, Nat.reduceEqDiff, Nat.reduceAdd, Nat.reduceSub, Nat.reduceMul, Nat.reduceBEq, Nat.reduceBNe, Nat.reduceBneDiff, Nat.reduceBeqDiff, Int.reduceToNat, Int.reduceLE, Int.reduceLT, Int.reduceEq, Int.reduceNe, Int.reduceNeg, Int.reduceAdd, Int.reduceSub, ↓reduceIte, reduceCtorEq, List.getElem?_toArray, List.getElem?_cons_zero, List.getElem?_cons_succ, List.length_cons, List.length_nil, List.take_succ_cons, List.take_zero, List.drop_succ_cons, List.drop_zero, List.drop_nil, List.take_nil, List.nil_append, List.cons_append, List.append_nil, List.contains_cons, List.contains_nil, Bool.or_false, Bool.false_or, Bool.or_true, Bool.true_or, Bool.and_true, Bool.true_and, Bool.and_false, Bool.false_and, Bool.not_true, Bool.not_false, Bool.not_not, Option.isSome_some, Option.isSome_none, List.map_cons, List.map_nil, ite_not, not_true_eq_false, not_false_eq_true, Nat.zero_add, Nat.add_zero, small p hp, works, hs]
  | true =>
  cases h4 : decide (200 < (a.length : Int)) with
  | true => simp (maxSteps := 1000000) only [go_sem, acondK_bool, acB_merge, Nat.reduceLT, Nat.reduceLeDiff, Nat.reduceEqDiff, Nat.reduceAdd, Nat.reduceSub, Nat.reduceMul, Nat.reduceBEq, Nat.reduceBNe, Nat.reduceBneDiff, Nat.reduceBeqDiff, Int.reduceToNat, Int.reduceLE, Int.reduceLT, Int.reduceEq, Int.reduceNe, Int.reduceNeg, Int.reduceAdd, Int.reduceSub, ↓reduceIte, reduceCtorEq, List.getElem?_toArray, List.getElem?_cons_zero, List.getElem?_cons_succ, List.length_cons, List.length_nil, List.take_succ_cons, List.take_zero, List.drop_succ_cons, List.drop_zero, List.drop_nil, List.take_nil, List.nil_append, List.cons_append, List.append_nil, List.contains_cons, List.contains_nil, Bool.or_false, Bool.false_or, Bool.or_true, Bool.true_or, Bool.and_true, Bool.true_and, Bool.and_false, Bool.false_and, Bool.not_true, Bool.not_false, Bool.not_not, Option.isSome_some, Option.isSome_none, List.map_cons, List.map_nil, ite_not, not_true_eq_false, not_false_eq_true, Nat.zero_add, Nat.add_zero, small p hp, works, hs, h4]
  | false =>
  cases h5 : decide (200 < (b.length : Int)) with
  | true => simp (maxSteps := 1000000) only [go_sem, acondK_bool, acB_merge, Nat.reduceLT, Nat.reduceLeDiff, Nat.reduceEqDiff, Nat.reduceAdd, Nat.reduceSub, Nat.reduceMul, Nat.reduceBEq, Nat.reduceBNe, Nat.reduceBneDiff, Nat.reduceBeqDiff, Int.reduceToNat, Int.reduceLE, Int.reduceLT, Int.reduceEq, Int.reduceNe, Int.reduceNeg, Int.reduceAdd, Int.reduceSub, ↓reduceIte, reduceCtorEq, List.getElem?_toArray, List.getElem?_cons_zero, List.getElem?_cons_succ, List.length_cons, List.length_nil, List.take_succ_cons, List.take_zero, List.drop_succ_cons, List.drop_zero, List.drop_nil, List.take_nil, List.nil_append, List.cons_append, List.append_nil, List.contains_cons, List.contains_nil, Bool.or_false, Bool.false_or, Bool.or_true, Bool.true_or, Bool.and_true, Bool.true_and, Bool.and_false, Bool.false_and, Bool.not_true, Bool.not_false, Bool.not_not, Option.isSome_some, Option.isSome_none, List.map_cons, List.map_nil, ite_not, not_true_eq_false, not_false_eq_true, Nat.zero_add, Nat.add_zero, small p hp, works, hs, h4, h5]
  | false =>
  have h40 := small40 hs
  have r1 := renameR p hp h40 a b (by omega)
  rw [← rnm_eq] at r1
  rcases rnm_cases p a b with ⟨k1, k2⟩ | ⟨k1, V, hbn, han, hoc⟩
  · have d1 : decide ((rnmS p a b).2 = 0) = false := by simpa using k2
    simp (maxSteps := 1000000) only [go_sem, acondK_bool, acB_merge, Nat.reduceLT, Nat.reduceLeDiff, Nat.reduceEqDiff, Nat.reduceAdd, Nat.reduceSub, Nat.reduceMul, Nat.reduceBEq, Nat.reduceBNe, Nat.reduceBneDiff, Nat.reduceBeqDiff, Int.reduceToNat, Int.reduceLE, Int.reduceLT, Int.reduceEq, Int.reduceNe, Int.reduceNeg, Int.reduceAdd, Int.reduceSub, ↓reduceIte, reduceCtorEq, List.getElem?_toArray, List.getElem?_cons_zero, List.getElem?_cons_succ, List.length_cons, List.length_nil, List.take_succ_cons, List.take_zero, List.drop_succ_cons, List.drop_zero, List.drop_nil, List.take_nil, List.nil_append, List.cons_append, List.append_nil, List.contains_cons, List.contains_nil, Bool.or_false, Bool.false_or, Bool.or_true, Bool.true_or, Bool.and_true, Bool.true_and, Bool.and_false, Bool.false_and, Bool.not_true, Bool.not_false, Bool.not_not, Option.isSome_some, Option.isSome_none, List.map_cons, List.map_nil, ite_not, not_true_eq_false, not_false_eq_true, Nat.zero_add, Nat.add_zero, small p hp, works, hs, h4, h5, r1, d1]
  · rw [k1] at r1
    rw [occ_eq V (isName_ne hbn)] at hoc
    have han' := V.isName han
    obtain ⟨e1, -⟩ := chkS_ren han' hbn V hoc
    have e2 := varsS_ren han' hbn V hoc
    have hq : (renP a b p).Ok := renP_ok (by omega) p hp
    have hq40 : (renP a b p).params.length ≤ 40 := by simpa [renP] using h40
    have c1 := checkOf p hp h40
    have c2 := checkOf _ hq hq40
    rw [e1] at c2
    have v1 := varsOf p hp h40
    have v2 := varsOf _ hq hq40
    rw [e2] at v2
    have n1 := fun A => namesR p hp (by omega) A
    have hvl := varsS_len p h40
    have hlen : decide (((varsS p).length : Int) = ((namesS p).length : Int)) = decide (chkS p = 0) := by
      by_cases hc : chkS p = 0
      · have : (varsS p).length = (namesS p).length := by
          unfold varsS
          rw [if_pos (by simpa using hc), ← allV_names V, List.length_map]
        rw [this]
        simp [hc]
      · have : varsS p = [] := by
          unfold varsS
          rw [if_neg (by simpa using hc)]
        rw [this]
        have hne : namesS p ≠ [] := by
          intro e
          rw [e] at han
          simp [hasN] at han
        have : (namesS p).length ≠ 0 := by simpa using hne
        have d1 : decide (chkS p = 0) = false := by simpa using hc
        rw [d1]
        simp
        omega
    have hl2 : ((varsS p).map (renPm a b)).length = (varsS p).length := by simp
    generalize chkS p = ck at *
    generalize hvs : varsS p = vs at *
    generalize hns : (namesS p).length = nn at *
    cases hck : decide (ck = 0) with
    | _ =>
    rw [hck] at hlen
    simp (maxSteps := 1000000) only [go_sem, acondK_bool, acB_merge, Nat.reduceLT, Nat.reduceLeDiff, Nat.reduceEqDiff, Nat.reduceAdd, Nat.reduceSub, Nat.reduceMul, Nat.reduceBEq, Nat.reduceBNe, Nat.reduceBneDiff, Nat.reduceBeqDiff, Int.reduceToNat, Int.reduceLE, Int.reduceLT, Int.reduceEq, Int.reduceNe, Int.reduceNeg, Int.reduceAdd, Int.reduceSub, ↓reduceIte, reduceCtorEq, List.getElem?_toArray, List.getElem?_cons_zero, List.getElem?_cons_succ, List.length_cons, List.length_nil, List.take_succ_cons, List.take_zero, List.drop_succ_cons, List.drop_zero, List.drop_nil, List.take_nil, List.nil_append, List.cons_append, List.append_nil, List.contains_cons, List.contains_nil, Bool.or_false, Bool.false_or, Bool.or_true, Bool.true_or, Bool.and_true, Bool.true_and, Bool.and_false, Bool.false_and, Bool.not_true, Bool.not_false, Bool.not_not, Option.isSome_some, Option.isSome_none, List.map_cons, List.map_nil, ite_not, not_true_eq_false, not_false_eq_true, Nat.zero_add, Nat.add_zero, small p hp, works, hs, h4, h5, r1, v1, v2, c1, c2, n1, hns, hl2, hlen, hck, k_drawn_q]
    refine loop_any (fun pre => [(1, .v (.d (.str a))), (2, .v (.d (.str b))), (10, .v (.d (.slice ((vs.map (renPm a b)).map Pm.row)))), (9, .v (.d (.slice (vs.map Pm.row)))), (11, .v (.d (.int .i64 (pre.length : Nat))))])
      (fun _ => A00) (fun _ _ => some (.d (.bool true), A00)) vs rfl rfl rfl ?_
    intro pre suf h ih
    have hb : pre.length < 9223372036854775807 := by rw [h] at hvl; simp at hvl; omega
    cases suf with
    | nil =>
      have e4 : decide ((pre.length : Int) < (vs.length : Int)) = false := by rw [h]; simp
      simp (maxSteps := 1000000) only [go_sem, acondK_bool, acB_merge, Nat.reduceLT, Nat.reduceLeDiff, Nat.reduceEqDiff, Nat.reduceAdd, Nat.reduceSub, Nat.reduceMul, Nat.reduceBEq, Nat.reduceBNe, Nat.reduceBneDiff, Nat.reduceBeqDiff, Int.reduceToNat, Int.reduceLE, Int.reduceLT, Int.reduceEq, Int.reduceNe, Int.reduceNeg, Int.reduceAdd, Int.reduceSub, ↓reduceIte, reduceCtorEq, List.getElem?_toArray, List.getElem?_cons_zero, List.getElem?_cons_succ, List.length_cons, List.length_nil, List.take_succ_cons, List.take_zero, List.drop_succ_cons, List.drop_zero, List.drop_nil, List.take_nil, List.nil_append, List.cons_append, List.append_nil, List.contains_cons, List.contains_nil, Bool.or_false, Bool.false_or, Bool.or_true, Bool.true_or, Bool.and_true, Bool.true_and, Bool.and_false, Bool.false_and, Bool.not_true, Bool.not_false, Bool.not_not, Option.isSome_some, Option.isSome_none, List.map_cons, List.map_nil, ite_not, not_true_eq_false, not_false_eq_true, Nat.zero_add, Nat.add_zero, e4, works]
    | cons x suf =>
      have e2 := ih x suf rfl
      rw [List.length_append, List.length_cons, List.length_nil] at e2
      have e3 : (vs.map Pm.row)[pre.length]? = some [.str x.name, .int .i64 x.type] := by rw [h]; exact map_mid
      have e5 : ((vs.map (renPm a b)).map Pm.row)[pre.length]? = some [.str (renN a b x.name), .int .i64 x.type] := by rw [List.map_map, h]; exact map_mid
      have e4 : decide ((pre.length : Int) < (vs.length : Int)) = true := by rw [h]; simp; omega
      cases hx : (x.name == a) with
      | true =>
        have hr : renN a b x.name = b := by unfold renN; rw [if_pos hx]
        rw [hr] at e5
        simp (maxSteps := 1000000) only [go_sem, acondK_bool, acB_merge, Nat.reduceLT, Nat.reduceLeDiff, Nat.reduceEqDiff, Nat.reduceAdd, Nat.reduceSub, Nat.reduceMul, Nat.reduceBEq, Nat.reduceBNe, Nat.reduceBneDiff, Nat.reduceBeqDiff, Int.reduceToNat, Int.reduceLE, Int.reduceLT, Int.reduceEq, Int.reduceNe, Int.reduceNeg, Int.reduceAdd, Int.reduceSub, ↓reduceIte, reduceCtorEq, List.getElem?_toArray, List.getElem?_cons_zero, List.getElem?_cons_succ, List.length_cons, List.length_nil, List.take_succ_cons, List.take_zero, List.drop_succ_cons, List.drop_zero, List.drop_nil, List.take_nil, List.nil_append, List.cons_append, List.append_nil, List.contains_cons, List.contains_nil, Bool.or_false, Bool.false_or, Bool.or_true, Bool.true_or, Bool.and_true, Bool.true_and, Bool.and_false, Bool.false_and, Bool.not_true, Bool.not_false, Bool.not_not, Option.isSome_some, Option.isSome_none, List.map_cons, List.map_nil, ite_not, not_true_eq_false, not_false_eq_true, Nat.zero_add, Nat.add_zero, e3, e4, e5, e2, hx, k_drawn_q, beq_self_eq_true, wrap_nat hb]
      | false =>
        have hr : renN a b x.name = x.name := by unfold renN; rw [if_neg (by simp [hx])]
        rw [hr] at e5
        simp (maxSteps := 1000000) only [go_sem, acondK_bool, acB_merge, Nat.reduceLT, Nat.reduceLeDiff, Nat.reduceEqDiff, Nat.reduceAdd, Nat.reduceSub, Nat.reduceMul, Nat.reduceBEq, Nat.reduceBNe, Nat.reduceBneDiff, Nat.reduceBeqDiff, Int.reduceToNat, Int.reduceLE, Int.reduceLT, Int.reduceEq, Int.reduceNe, Int.reduceNeg, Int.reduceAdd, Int.reduceSub, ↓reduceIte, reduceCtorEq, List.getElem?_toArray, List.getElem?_cons_zero, List.getElem?_cons_succ, List.length_cons, List.length_nil, List.take_succ_cons, List.take_zero, List.drop_succ_cons, List.drop_zero, List.drop_nil, List.take_nil, List.nil_append, List.cons_append, List.append_nil, List.contains_cons, List.contains_nil, Bool.or_false, Bool.false_or, Bool.or_true, Bool.true_or, Bool.and_true, Bool.true_and, Bool.and_false, Bool.false_and, Bool.not_true, Bool.not_false, Bool.not_not, Option.isSome_some, Option.isSome_none, List.map_cons, List.map_nil, ite_not, not_true_eq_false, not_false_eq_true, Nat.zero_add, Nat.add_zero, e3, e4, e5, e2, hx, k_drawn_q, beq_self_eq_true, wrap_nat hb]
end Go.Proofs.Ythjmecciefihmaa
