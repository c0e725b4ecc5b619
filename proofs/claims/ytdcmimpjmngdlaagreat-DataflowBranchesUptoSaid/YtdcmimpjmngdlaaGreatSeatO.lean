/- The variables of a procedure with their types, on both sides: the law. -/
import Derived.Test.YtdcmimpjmngdlaaGreatSeatH
set_option linter.unusedVariables false
set_option linter.unusedSimpArgs false
set_option linter.all false
set_option linter.deprecated false
set_option linter.all false
namespace Go.Proofs.YtdcmimpjmngdlaaGreat
open Go.Abs
attribute [local congr] ite_congr
set_option maxRecDepth 10000
theorem getP_self : ∀ (l : List Pm), (l.map Pm.name).Nodup → ∀ x ∈ l, getP l x.name = some x.type
  | [], _, x, h => by simp at h
  | y :: l, hn, x, h => by
    rw [List.map_cons, List.nodup_cons] at hn
    simp only [getP]
    rcases List.mem_cons.1 h with rfl | h
    · simp
    · rw [if_neg]
      · exact getP_self l hn.2 x h
      · intro e
        have : y.name = x.name := by simpa using e
        exact hn.1 (this ▸ List.mem_map.2 ⟨x, h, rfl⟩)
def varsS (p : Pr) : List Pm := if decide (chkS p = 0) = true then allV p else []
theorem allV_names {p : Pr} (V : Vld p) : (allV p).map Pm.name = namesS p := by
  unfold allV namesS paramNames
  rw [rvF_names, V.vis]
theorem chk_zero {p : Pr} (h : chkS p = 0) : Vld p ∧ prmBool p.params = false ∧ dupR [] (namesS p) = false ∧ preErr p = 0 ∧ (ckB p).1 = 0 := by
  unfold chkS at h
  by_cases h0 : preErr p = 0
  · rw [if_pos (by simpa using h0)] at h
    have h1 := h0
    unfold preErr at h1
    by_cases hv : valS p = 0
    · rw [if_pos (by simpa using hv)] at h1
      split at h1
      · cases h1
      · rename_i hb
        split at h1
        · cases h1
        · rename_i hd
          have hdup : dupF [] (namesS p) = dupR [] (namesS p) := dup_eq (namesS p) []
          exact ⟨(valS_zero p).1 hv, by simpa using hb, by rw [← hdup]; simpa using hd, h0, h⟩
    · rw [if_neg (by simpa using hv)] at h1
      exact absurd h1 hv
  · rw [if_neg (by simpa using h0)] at h
    exact absurd h h0
theorem afin_vars {f : FuncId} (ho : C.own f = false) {A : AHeap} {R : List AObj} {s : CkS} {l : List Pm} : afinR C f A (grQ (ckH A.objs R A.bufs s) l).2 (some (grQ (ckH A.objs R A.bufs s) l).1) = some (.d (.slice (l.map Pm.row)), A) := by
  have h1 := afin_growY (f := f) ho A 30 2 (l.map Pm.row) (.map (mi s.vis) :: .map (mb s.loops) :: .map (mi s.all) :: .cells [.mapr A.objs.length, .mapr (A.objs.length + 1), .mapr (A.objs.length + 2)] :: R)
  have h2 : (grQ (ckH A.objs R A.bufs s) l).1 = (agrow A 30 2 (l.map Pm.row)).1 := grow_fst rfl
  have h3 : (grQ (ckH A.objs R A.bufs s) l).2 = ⟨A.objs ++ (.map (mi s.vis) :: .map (mb s.loops) :: .map (mi s.all) :: .cells [.mapr A.objs.length, .mapr (A.objs.length + 1), .mapr (A.objs.length + 2)] :: R), (agrow A 30 2 (l.map Pm.row)).2.bufs⟩ := (grow_heap (A := A)).symm
  rw [h2, h3]
  exact h1
/-! the reference -/
/-- all variables, and how many had been handed on -/
def rvG (st : List Pm × Nat) : Vis → List Pm × Nat
  | .s x _ => if decide (x.op = 1) = true then (st.1 ++ [⟨x.name, (ofS x.a st.1).1⟩], st.1.length) else if decide (x.op = 6) = true then (st.1 ++ [⟨x.name, 1⟩], st.2) else st
  | .e _ _ => st
theorem rvG_fst (st : List Pm × Nat) (v : Vis) : (rvG st v).1 = rvF st.1 v := by
  cases v with
  | s x d =>
    simp only [rvG, rvF]
    split
    · rfl
    · split <;> rfl
  | e x r => rfl
theorem rvG_fold : ∀ (l : List Vis) (st : List Pm × Nat), (l.foldl rvG st).1 = l.foldl rvF st.1
  | [], st => rfl
  | v :: l, st => by rw [List.foldl_cons, List.foldl_cons, rvG_fold l, rvG_fst]
theorem rvG_inv (v : Vis) (st : List Pm × Nat) (h : st.1 = [] → st.2 = 0) : (rvG st v).1 = [] → (rvG st v).2 = 0 := by
  cases v with
  | s x d =>
    simp only [rvG]
    split
    · simp
    · split
      · simp
      · exact h
  | e x r => exact h
theorem rvG_invF : ∀ (l : List Vis) (st : List Pm × Nat), (st.1 = [] → st.2 = 0) → ((l.foldl rvG st).1 = [] → (l.foldl rvG st).2 = 0)
  | [], st, h => h
  | v :: l, st, h => by rw [List.foldl_cons]; exact rvG_invF l _ (rvG_inv v st h)
theorem rvG_len (v : Vis) (st : List Pm × Nat) : (rvG st v).1.length ≤ st.1.length + 1 := by
  cases v with
  | s x d =>
    simp only [rvG]
    split
    · simp
    · split
      · simp
      · omega
  | e x r => simp [rvG]
theorem rvG_lenF : ∀ (l : List Vis) (st : List Pm × Nat), (l.foldl rvG st).1.length ≤ st.1.length + l.length
  | [], st => by simp
  | v :: l, st => by
    have h1 := rvG_len v st
    have h2 := rvG_lenF l (rvG st v)
    rw [List.foldl_cons, List.length_cons]
    omega
noncomputable abbrev grG (A : AHeap) (st : List Pm × Nat) : AV × AHeap := grF A 30 2 (st.1.map Pm.row) st.2
theorem grG_append (A : AHeap) (st : List Pm × Nat) (x : Pm) (h : st.1.length ≤ 4194303) (hi : st.1 = [] → st.2 = 0) : aappend Tryz.prog 30 2 (grG A st).2 (grG A st).1 [[.str x.name, .int .i64 x.type]] = some (grG A (st.1 ++ [x], st.2)) := by
  have := grF_append (A := A) (e := 30) (sz := 2) (fr := st.2) (rows := st.1.map Pm.row) (src := [x.row]) room_30_2 (by rfl) (by simp; omega) (fun hr => hi (by simpa using hr))
  unfold grG
  rw [List.map_append]
  exact this
theorem grF_out {f : FuncId} (ho : C.own f = false) (A : AHeap) (e sz : Nat) (rows : List (List Dat)) (fr : Nat) : afinR C f A (grF A e sz rows fr).2 (some (grF A e sz rows fr).1) = some (.d (.slice rows), A) := by
  simp only [afinR, Option.map_some, afinish, ho, Bool.false_eq_true, if_false]
  unfold grF
  by_cases h1 : rows = []
  · subst h1
    simp only [if_true, acleanR, acleanV, aclean]
    rw [acut_same rfl]
  · simp only [if_neg h1, acleanR, acleanV, aclean, arows]
    simp only [List.getElem?_append_right (Nat.le_refl _), Nat.sub_self, List.getElem?_cons_zero, if_true]
    unfold acut
    simp [AHeap.freeze, AV.noptr, AV.noptr2, AV.noptr1]
    rw [List.take_modify_front]
end Go.Proofs.YtdcmimpjmngdlaaGreat
set_option linter.all false
namespace Go.Proofs.YtdcmimpjmngdlaaGreat
open Go.Abs
attribute [local congr] ite_congr
set_option maxRecDepth 10000
theorem visP_okP (p : Pr) (hp : p.Ok) : ∀ x d, Vis.s x d ∈ visP p → x.Ok := fun x d hm => visP_ok p hp _ hm
theorem allV_len (p : Pr) (V : Vld p) (h : p.params.length ≤ 40) : (allV p).length ≤ 441 := by
  have h1 := namesS_len p h
  rw [← allV_names V] at h1
  simpa using h1
theorem varsS_len (p : Pr) (h : p.params.length ≤ 40) : (varsS p).length ≤ 441 := by
  unfold varsS
  by_cases hc : chkS p = 0
  · rw [if_pos (by simpa using hc)]
    exact allV_len p (chk_zero hc).1 h
  · rw [if_neg (by simpa using hc)]
    simp
end Go.Proofs.YtdcmimpjmngdlaaGreat
set_option linter.all false
namespace Go.Proofs.YtdcmimpjmngdlaaGreat
open Go.Abs
attribute [local congr] ite_congr
set_option maxRecDepth 10000
def hasS (l : List Bytes) (w : Bytes) : Bool := l.any fun s => s == w
mutual
def knE (l : List Bytes) : E → Bool
  | .mk op n s args => if (decide (op = 3) && !hasS l s) = true then false else knL l args
def knL (l : List Bytes) : List E → Bool
  | [] => true
  | x :: m => knE l x && knL l m
end
/-! plain -/
theorem has_get {l : List Pm} {k : Bytes} {t : Int} (h : getP l k = some t) : hasS (l.map Pm.name) k = true := by
  induction l with
  | nil => simp [getP] at h
  | cons x l ih =>
    simp only [getP] at h
    simp only [hasS, List.map_cons, List.any_cons]
    by_cases hx : (x.name == k) = true
    · rw [hx]; rfl
    · rw [if_neg hx] at h
      rw [Bool.or_eq_true]
      exact .inr (ih h)
theorem knE_abs {l : List Bytes} {e : E} (h : absE e = true) : knE l e = true := by
  cases e with
  | mk op n s args =>
    simp only [absE, absentS, Bool.and_eq_true, decide_eq_true_eq] at h
    obtain ⟨⟨⟨h1, _⟩, _⟩, h4⟩ := h
    have : args = [] := by cases args with | nil => rfl | cons _ _ => simp at h4; omega
    subst this
    rw [knE, if_neg (by simp [h1]), knL]
theorem ofL_cons {lk : Bytes → Option Int} {op : Int} {ts : List Int} {x : E} {m : List E} (h : (ofL lk op ts (x :: m)).2 = 0) : (ofE lk x).2 = 0 ∧ (ofL lk op (ts ++ [(ofE lk x).1]) m).2 = 0 := by
  rw [ofL] at h
  by_cases h1 : (ofE lk x).2 = 0
  · rw [if_pos (by simpa using h1)] at h
    exact ⟨h1, h⟩
  · rw [if_neg (by simpa using h1)] at h
    exact absurd h h1
mutual
theorem knE_of (l : List Pm) : ∀ (e : E) (d : Int), chkE e d = 0 → (ofE (getP l) e).2 = 0 → knE (l.map Pm.name) e = true
  | .mk op n s args, d, hc, h => by
    rw [chkE] at hc
    by_cases hn : nodeS op n s args.length d = 0
    · rw [if_pos hn] at hc
      rw [ofE] at h
      rw [knE]
      by_cases h3 : op = 3
      · subst h3
        rw [if_pos (by decide)] at h
        obtain ⟨_, _, h5⟩ := varS_ok h
        have h6 := has_get h5
        rw [if_neg (by simp [h6])]
        have : args = [] := by
          have hl : ((args.length : Int)) = 0 := by
            unfold nodeS at hn
            split at hn
            · cases hn
            · split at hn
              · cases hn
              · split at hn
                · cases hn
                · rename_i h9
                  simp [ar] at h9
                  simpa using h9
          cases args with
          | nil => rfl
          | cons _ _ => simp at hl; omega
        subst this
        rw [knL]
      · rw [if_neg (by simpa using h3)] at h
        rw [if_neg (by simp [h3])]
        exact knL_of l op args _ [] hc h
    · rw [if_neg hn] at hc
      exact absurd hc hn
theorem knL_of (l : List Pm) (op : Int) : ∀ (m : List E) (d : Int) (ts : List Int), chkL m d = 0 → (ofL (getP l) op ts m).2 = 0 → knL (l.map Pm.name) m = true
  | [], d, ts, hc, h => by rw [knL]
  | x :: m, d, ts, hc, h => by
    rw [chkL] at hc
    obtain ⟨h1, h2⟩ := ofL_cons h
    by_cases hx : chkE x d = 0
    · rw [if_pos hx] at hc
      rw [knL, knE_of l x d hx h1, knL_of l op m d _ hc h2]
      rfl
    · rw [if_neg hx] at hc
      exact absurd hc hx
end
/-- what the check of one statement shows -/
theorem stR_facts {vars : List Pm} {loops : List Bytes} {x : Stm} {d : Int} (hs : StmOk x d) (h : stR vars loops x = 0) :
    knE (vars.map Pm.name) x.a = true ∧ knE (vars.map Pm.name) x.b = true ∧ (x.op = 2 → hasS (vars.map Pm.name) x.name = true ∧ hasS loops x.name = false) ∧
      bdR (if x.op = 6 then vars ++ [⟨x.name, 1⟩] else vars) (if x.op = 6 then loops ++ [x.name] else loops) x.body = 0 ∧ bdR vars loops x.els = 0 := by
  cases x with
  | mk op name max a b body els =>
  rw [stR] at h
  simp only [Stm.op, Stm.name, Stm.body, Stm.els, Stm.a, Stm.b]
  have hop := hs.op
  have ha := hs.a
  have hna := hs.na
  have hb := hs.b
  have hnb := hs.nb
  have hbo := hs.nbody
  have hel := hs.nels
  simp only [Stm.op, Stm.name, Stm.body, Stm.els, Stm.a, Stm.b] at hop ha hna hb hnb hbo hel
  have h3 : (opsS (getP vars) (.mk op name max a b body els)).2.2 = 0 := by
    apply Classical.byContradiction
    intro h0
    have d0 : decide ((opsS (getP vars) (.mk op name max a b body els)).2.2 = 0) = false := by simpa using h0
    simp only [d0, Bool.false_and, Bool.false_eq_true, if_false] at h
    exact h0 h
  have ka : knE (vars.map Pm.name) a = true := by
    by_cases ua : uA op = true
    · have h8 : op ≠ 8 := by intro e; subst e; simp [uA] at ua
      have := h3
      unfold opsS at this
      rw [if_neg (by simpa using h8)] at this
      refine knE_of vars a 1 (ha ua) ?_
      split at this
      · rename_i hc
        simp only [Bool.and_eq_true, decide_eq_true_eq] at hc
        exact hc.1
      · exact this
    · exact knE_abs (hna (by simpa using ua))
  have kb : knE (vars.map Pm.name) b = true := by
    by_cases ub : uB op = true
    · have ho : op = 3 ∨ op = 6 := by simpa [uB] using ub
      have h8 : op ≠ 8 := by omega
      have := h3
      unfold opsS at this
      rw [if_neg (by simpa using h8)] at this
      refine knE_of vars b 1 (hb ub) ?_
      split at this
      · exact this
      · rename_i hc
        exfalso
        apply hc
        have e1 : (ofE (getP vars) a).2 = 0 := this
        simp only [Stm.a, Stm.op, Bool.and_eq_true, Bool.or_eq_true, decide_eq_true_eq]
        exact ⟨e1, ho⟩
    · exact knE_abs (hnb (by simpa using ub))
  refine ⟨ka, kb, ?_⟩
  generalize opsS (getP vars) (.mk op name max a b body els) = r at *
  obtain ⟨r1, r2, r3⟩ := r
  simp only at h3
  subst h3
  simp only [decide_true, Bool.true_and] at h
  have ho : op = 1 ∨ op = 2 ∨ op = 3 ∨ op = 4 ∨ op = 5 ∨ op = 6 ∨ op = 7 ∨ op = 8 := by omega
  by_cases h5 : op = 5
  · subst h5
    have w5 : wrgS 5 r1 r2 = false := by
      cases hw : wrgS 5 r1 r2 with
      | false => rfl
      | true => simp [hw] at h
    simp only [w5] at h
    simp at h
    by_cases hb0 : bdR vars loops body = 0
    · simp [hb0] at h ⊢
      exact h
    · simp [hb0] at h
  · have he : els = [] := hel (by simpa [uO] using h5)
    subst he
    by_cases h6 : op = 6
    · subst h6
      have w6 : wrgS 6 r1 r2 = false := by
        cases hw : wrgS 6 r1 r2 with
        | false => rfl
        | true => simp [hw] at h
      simp only [w6] at h
      simp at h
      simp [bdR_nil]
      exact h
    · have hbn : body = [] := hbo (by simp [uBo]; omega)
      subst hbn
      rw [if_neg h6, if_neg h6, bdR_nil]
      refine ⟨fun h2 => ?_, rfl, rfl⟩
      subst h2
      simp [wrgS] at h
      unfold asgS at h
      by_cases hv : (varS (getP vars name)).2 = 0
      · rw [if_pos (by simpa using hv)] at h
        obtain ⟨_, _, h9⟩ := varS_ok hv
        refine ⟨has_get h9, ?_⟩
        cases hh : (loops.any fun j => j == name) with
        | true => rw [hh] at h; simp at h
        | false => exact hh
      · rw [if_neg (by simpa using hv)] at h
        exact absurd h hv
theorem bdR_app {vars : List Pm} {loops : List Bytes} : ∀ (pre suf : List Stm) (vars : List Pm), bdR vars loops (pre ++ suf) = 0 → bdR (vsAfter vars pre) loops suf = 0
  | [], suf, vars, h => h
  | x :: pre, suf, vars, h => by
    rw [List.cons_append, bdR_cons] at h
    by_cases hx : stR vars loops x = 0
    · rw [if_pos (by simpa using hx)] at h
      exact bdR_app (vars := vars) pre suf _ h
    · rw [if_neg (by simpa using hx)] at h
      exact absurd h hx
end Go.Proofs.YtdcmimpjmngdlaaGreat
set_option linter.all false
namespace Go.Proofs.YtdcmimpjmngdlaaGreat
open Go.Abs
def Sub (vars T : List Pm) : Prop := ∀ k t, getP vars k = some t → getP T k = some t
theorem Sub.trans {a b c : List Pm} (h1 : Sub a b) (h2 : Sub b c) : Sub a c := fun k t h => h2 k t (h1 k t h)
theorem Sub.app {a b : List Pm} (m : List Pm) (h : Sub a b) : Sub a (b ++ m) := fun k t hk => getP_append (h k t hk)
theorem Sub.snoc {a b : List Pm} (h : Sub a b) {n : Bytes} {t : Int} (hn : n ∉ b.map Pm.name) : Sub (a ++ [⟨n, t⟩]) (b ++ [⟨n, t⟩]) := by
  intro k u hk
  rw [getP_snoc] at hk ⊢
  cases ha : getP a k with
  | some v =>
    rw [ha] at hk
    rw [h k v ha]
    exact hk
  | none =>
    rw [ha] at hk
    simp only at hk
    by_cases he : (n == k) = true
    · have : n = k := by simpa using he
      subst this
      rw [getP_none hn]
      exact hk
    · rw [if_neg he] at hk
      cases hk
theorem rvF_ext : ∀ (l : List Vis) (T : List Pm), ∃ M, l.foldl rvF T = T ++ M
  | [], T => ⟨[], by simp⟩
  | v :: l, T => by
    obtain ⟨M, hM⟩ := rvF_ext l (rvF T v)
    have h1 : ∃ N, rvF T v = T ++ N := by
      cases v with
      | e x r => exact ⟨[], by simp [rvF]⟩
      | s x d =>
        simp only [rvF]
        split
        · exact ⟨_, rfl⟩
        · split
          · exact ⟨_, rfl⟩
          · exact ⟨[], by simp⟩
    obtain ⟨N, hN⟩ := h1
    exact ⟨N ++ M, by rw [List.foldl_cons, hM, hN, List.append_assoc]⟩
theorem Sub.fold {a T : List Pm} (l : List Vis) (h : Sub a T) : Sub a (l.foldl rvF T) := by
  obtain ⟨M, hM⟩ := rvF_ext l T
  rw [hM]
  exact h.app M
theorem Sub.refl (a : List Pm) : Sub a a := fun _ _ h => h
/-- the types of a statement's expressions -/
structure StmTy (T : List Pm) (x : Stm) : Prop where
  set : x.op = 1 ∨ x.op = 2 → ∃ t, 1 ≤ t ∧ t ≤ 3 ∧ getP T x.name = some t ∧ ofE (getP T) x.a = (t, 0)
  put : x.op = 3 → ofE (getP T) x.a = (2, 0) ∧ (ofE (getP T) x.b).2 = 0 ∧ ((ofE (getP T) x.b).1 = 1 ∨ (ofE (getP T) x.b).1 = 2)
  del : x.op = 4 → ofE (getP T) x.a = (2, 0)
  br : x.op = 5 → ofE (getP T) x.a = (3, 0)
  loop : x.op = 6 → ofE (getP T) x.a = (1, 0) ∧ ofE (getP T) x.b = (1, 0) ∧ getP T x.name = some 1
  emit : x.op = 7 → (ofE (getP T) x.a).2 = 0 ∧ ((ofE (getP T) x.a).1 = 1 ∨ (ofE (getP T) x.a).1 = 2)
theorem opsS_zero {lk : Bytes → Option Int} {x : Stm} (h : (opsS lk x).2.2 = 0) (h8 : x.op ≠ 8) : (ofE lk x.a).2 = 0 ∧ (opsS lk x).1 = (ofE lk x.a).1 ∧ (x.op = 3 ∨ x.op = 6 → (ofE lk x.b).2 = 0 ∧ (opsS lk x).2.1 = (ofE lk x.b).1) := by
  unfold opsS at h ⊢
  rw [if_neg (by simpa using h8)] at h ⊢
  by_cases hc : (decide ((ofE lk x.a).2 = 0) && (decide (x.op = 3) || decide (x.op = 6))) = true
  · rw [if_pos hc] at h ⊢
    simp only [Bool.and_eq_true, decide_eq_true_eq] at hc
    exact ⟨hc.1, rfl, fun _ => ⟨h, rfl⟩⟩
  · rw [if_neg hc] at h ⊢
    refine ⟨h, rfl, fun ho => ?_⟩
    exfalso
    apply hc
    have h' : (ofE lk x.a).2 = 0 := h
    rcases ho with ho | ho <;> simp [h', ho]
theorem pair_eq {p : Int × Int} {a b : Int} (h1 : p.1 = a) (h2 : p.2 = b) : p = (a, b) := by rw [← h1, ← h2]
mutual
theorem tyS : ∀ (x : Stm) (d : Int) (vars : List Pm) (loops : List Bytes) (T F : List Pm), (∀ y k, Vis.s y k ∈ visS x d → StmOk y k) → Sub vars T → (namesV (visS x d)).Nodup → (∀ n ∈ namesV (visS x d), n ∉ T.map Pm.name) → stR vars loops x = 0 →
    Sub ((visS x d).foldl rvF T) F → (∀ y k, Vis.s y k ∈ visS x d → StmTy F y) ∧ Sub (if decide (x.op = 1) = true then vars ++ [⟨x.name, (opsS (getP vars) x).1⟩] else vars) ((visS x d).foldl rvF T)
  | .mk op name max a b body els, d, vars, loops, T, F, hv, L, hnd, hdis, h, HF => by
    have hs := hv _ d (vis_self _ d)
    have vb : ∀ y k, Vis.s y k ∈ visSs body (IntKind.i64.wrap (d + 1)) → StmOk y k := fun y k hy => hv y k (vis_body _ hy)
    have ve : ∀ y k, Vis.s y k ∈ visSs els (IntKind.i64.wrap (d + 1)) → StmOk y k := fun y k hy => hv y k (vis_els _ hy)
    have IB := fun vars loops T F L h1 h2 => tyB body (IntKind.i64.wrap (d + 1)) vars loops T F vb L h1 h2
    have IE := fun vars loops T F L h1 h2 => tyB els (IntKind.i64.wrap (d + 1)) vars loops T F ve L h1 h2
    rw [names_visS] at hnd hdis
    rw [fold_visS] at HF ⊢
    have hlet := fun h1 h => rvF_let (vars := vars) (T := T) hs h1 L h
    have hTF : Sub (rvF T (.s (.mk op name max a b body els) d)) F := (Sub.fold _ (Sub.fold _ (Sub.refl _))).trans HF
    have hTF0 : Sub T F := by
      refine Sub.trans ?_ hTF
      obtain ⟨M, hM⟩ := rvF_ext [.s (.mk op name max a b body els) d] T
      simp only [List.foldl_cons, List.foldl_nil] at hM
      rw [hM]
      exact (Sub.refl T).app M
    have hVF : Sub vars F := L.trans hTF0
    have hself : ∀ (P : Prop), (∀ y k, Vis.s y k ∈ visSs body (IntKind.i64.wrap (d + 1)) → StmTy F y) → (∀ y k, Vis.s y k ∈ visSs els (IntKind.i64.wrap (d + 1)) → StmTy F y) → StmTy F (.mk op name max a b body els) → ∀ y k, Vis.s y k ∈ visS (.mk op name max a b body els) d → StmTy F y := by
      intro _ hB hE h0 y k hy
      simp only [visS, List.mem_cons, List.mem_append] at hy
      rcases hy with hy | hy | hy | hy | hy
      · simp only [Vis.s.injEq] at hy
        obtain ⟨rfl, _⟩ := hy
        exact h0
      · obtain ⟨z, r, hz⟩ := visA_all a _ hy
        cases hz
      · obtain ⟨z, r, hz⟩ := visA_all b _ hy
        cases hz
      · exact hB y k hy
      · exact hE y k hy
    have hop := hs.op
    have nb := hs.nbody
    have ne := hs.nels
    rw [stR] at h
    have hz := fun h => opsS_zero (lk := getP vars) (x := .mk op name max a b body els) h
    simp only [Stm.op, Stm.name, Stm.body, Stm.els, Stm.a, Stm.b] at hop nb ne hlet hz ⊢
    have h3 : (opsS (getP vars) (.mk op name max a b body els)).2.2 = 0 := by
      apply Classical.byContradiction
      intro h0
      have d0 : decide ((opsS (getP vars) (.mk op name max a b body els)).2.2 = 0) = false := by simpa using h0
      simp only [d0, Bool.false_and, Bool.false_eq_true, if_false] at h
      exact h0 h
    have ho : op = 1 ∨ op = 2 ∨ op = 3 ∨ op = 4 ∨ op = 5 ∨ op = 6 ∨ op = 7 ∨ op = 8 := by omega
    have mono := fun e h => ofE_mono (lk := getP vars) (lk' := getP F) hVF e h
    generalize opsS (getP vars) (.mk op name max a b body els) = r at *
    obtain ⟨r1, r2, r3⟩ := r
    simp only at h3 hz
    subst h3
    simp only [decide_true, Bool.true_and] at h
    have zb : body = [] → (∀ y k, Vis.s y k ∈ visSs body (IntKind.i64.wrap (d + 1)) → StmTy F y) := by rintro rfl y k hy; simp [visSs] at hy
    have ze : els = [] → (∀ y k, Vis.s y k ∈ visSs els (IntKind.i64.wrap (d + 1)) → StmTy F y) := by rintro rfl y k hy; simp [visSs] at hy
    by_cases h8 : op = 8
    · subst h8
      have hb : body = [] := nb rfl
      have he : els = [] := ne rfl
      refine ⟨hself True (zb hb) (ze he) ⟨by simp [Stm.op], by simp [Stm.op], by simp [Stm.op], by simp [Stm.op], by simp [Stm.op], by simp [Stm.op]⟩, ?_⟩
      subst hb; subst he
      exact L
    obtain ⟨a0, a1, ab⟩ := hz rfl h8
    subst a1
    have ea := mono a a0
    have tya := ofE_ok _ a a0
    by_cases h1 : op = 1
    · subst h1
      have hb : body = [] := nb rfl
      have he : els = [] := ne rfl
      obtain ⟨g1, g2⟩ := hlet rfl rfl
      have hn : name ∉ T.map Pm.name := hdis name (by simp)
      rw [g1] at hTF ⊢
      have hN : getP F name = some (ofE (getP vars) a).1 := by
        apply hTF
        rw [getP_snoc, getP_none hn]
        simp
      refine ⟨hself True (zb hb) (ze he) ⟨fun _ => ⟨_, tya.1, tya.2, hN, by simp only [Stm.a]; rw [ea]; exact pair_eq rfl a0⟩, by simp [Stm.op], by simp [Stm.op], by simp [Stm.op], by simp [Stm.op], by simp [Stm.op]⟩, ?_⟩
      subst hb; subst he
      exact Sub.snoc L hn
    by_cases h2 : op = 2
    · subst h2
      have hb : body = [] := nb rfl
      have he : els = [] := ne rfl
      have hT : rvF T (.s (.mk 2 name max a b body els) d) = T := by rfl
      rw [hT]
      have hN : getP F name = some (ofE (getP vars) a).1 := by
        simp [wrgS] at h
        unfold asgS at h
        by_cases hv : (varS (getP vars name)).2 = 0
        · rw [if_pos (by simpa using hv)] at h
          obtain ⟨_, _, h9⟩ := varS_ok hv
          split at h
          · cases h
          · split at h
            · rename_i _ hq
              simp only [decide_eq_true_eq] at hq
              apply hVF
              rw [h9, ← hq]
            · cases h
        · rw [if_neg (by simpa using hv)] at h
          exact absurd h hv
      refine ⟨hself True (zb hb) (ze he) ⟨fun _ => ⟨_, tya.1, tya.2, hN, by simp only [Stm.a]; rw [ea]; exact pair_eq rfl a0⟩, by simp [Stm.op], by simp [Stm.op], by simp [Stm.op], by simp [Stm.op], by simp [Stm.op]⟩, ?_⟩
      subst hb; subst he
      exact L
    have n1 : decide (op = 1) = false := by simpa using h1
    have n2 : decide (op = 2) = false := by simpa using h2
    simp only [n1, n2, Bool.false_eq_true, if_false, decide_true, Bool.true_and] at h ⊢
    have wr : wrgS op (ofE (getP vars) a).1 r2 = false := by
      cases hw : wrgS op (ofE (getP vars) a).1 r2 with
      | false => rfl
      | true => simp [hw] at h
    simp only [wr, Bool.false_eq_true, if_false, decide_true, Bool.true_and] at h
    by_cases h6 : op = 6
    · subst h6
      have he : els = [] := ne rfl
      obtain ⟨b0, rfl⟩ := ab (.inr rfl)
      have eb := mono b b0
      have hT : rvF T (.s (.mk 6 name max a b body els) d) = T ++ [⟨name, 1⟩] := by rfl
      rw [hT] at hTF HF ⊢
      have hn : name ∉ T.map Pm.name := hdis name (by simp)
      subst he
      have hn6 : (name :: namesV (visSs body (IntKind.i64.wrap (d + 1)))).Nodup := by simpa [visSs, namesV] using hnd
      rw [List.nodup_cons] at hn6
      have hN : getP F name = some 1 := by
        apply hTF
        rw [getP_snoc, getP_none hn]
        simp
      simp at h
      simp [wrgS] at wr
      have KB := IB (vars ++ [⟨name, 1⟩]) (loops ++ [name]) (T ++ [⟨name, 1⟩]) F (Sub.snoc L hn) hn6.2 (by
        intro n hm
        rw [List.map_append, List.mem_append]
        rintro (h | h)
        · exact hdis n (by simp [hm]) h
        · simp at h; subst h; exact hn6.1 hm) h (by simpa [visSs] using HF)
      refine ⟨hself True KB.1 (ze rfl) ⟨by simp [Stm.op], by simp [Stm.op], by simp [Stm.op], by simp [Stm.op], fun _ => ⟨by simp only [Stm.a]; rw [ea]; exact pair_eq wr.1 a0, by simp only [Stm.b]; rw [eb]; exact pair_eq wr.2 b0, hN⟩, by simp [Stm.op]⟩, ?_⟩
      exact Sub.fold _ (Sub.fold _ (L.app _))
    by_cases h5 : op = 5
    · subst h5
      have hT : rvF T (.s (.mk 5 name max a b body els) d) = T := by rfl
      rw [hT] at HF ⊢
      simp at h
      simp [wrgS] at wr
      have hn5 : (namesV (visSs body (IntKind.i64.wrap (d + 1))) ++ namesV (visSs els (IntKind.i64.wrap (d + 1)))).Nodup := by simpa using hnd
      rw [List.nodup_append] at hn5
      have hb0 : bdR vars loops body = 0 := by
        apply Classical.byContradiction
        intro hc
        rw [if_neg hc] at h
        exact hc h
      rw [if_pos hb0] at h
      have KB := IB vars loops T F L hn5.1 (fun n hn => hdis n (by simp [hn])) hb0 ((Sub.fold _ (Sub.refl _)).trans HF)
      have KE := IE vars loops ((visSs body (IntKind.i64.wrap (d + 1))).foldl rvF T) F (Sub.fold _ L) hn5.2.1 (by
        intro n hn
        rw [rvF_names, List.mem_append]
        rintro (hm | hm)
        · exact hdis n (by simp [hn]) hm
        · exact hn5.2.2 n hm n hn rfl) h HF
      refine ⟨hself True KB.1 KE.1 ⟨by simp [Stm.op], by simp [Stm.op], by simp [Stm.op], fun _ => by simp only [Stm.a]; rw [ea]; exact pair_eq wr a0, by simp [Stm.op], by simp [Stm.op]⟩, ?_⟩
      exact Sub.fold _ (Sub.fold _ L)
    have hb : body = [] := nb (by simp [uBo]; omega)
    have he : els = [] := ne (by simpa [uO] using h5)
    have hT : rvF T (.s (.mk op name max a b body els) d) = T := by simp [rvF, h1, h6]
    rw [hT]
    refine ⟨hself True (zb hb) (ze he) ?_, ?_⟩
    · refine ⟨fun h => by simp only [Stm.op] at h; omega, fun h => ?_, fun h => ?_, fun h => by simp only [Stm.op] at h; omega, fun h => by simp only [Stm.op] at h; omega, fun h => ?_⟩ <;> simp only [Stm.op] at h <;> subst h <;> simp [wrgS] at wr
      · obtain ⟨b0, rfl⟩ := ab (.inl rfl)
        have eb := mono b b0
        have tyb := ofE_ok _ b b0
        simp only [Stm.a, Stm.b]
        rw [ea, eb]
        exact ⟨pair_eq wr.1 a0, b0, by omega⟩
      · simp only [Stm.a]
        rw [ea]
        exact pair_eq wr a0
      · simp only [Stm.a]
        rw [ea]
        exact ⟨a0, by omega⟩
    · subst hb; subst he
      exact L
theorem tyB : ∀ (l : List Stm) (d : Int) (vars : List Pm) (loops : List Bytes) (T F : List Pm), (∀ y k, Vis.s y k ∈ visSs l d → StmOk y k) → Sub vars T → (namesV (visSs l d)).Nodup → (∀ n ∈ namesV (visSs l d), n ∉ T.map Pm.name) → bdR vars loops l = 0 →
    Sub ((visSs l d).foldl rvF T) F → (∀ y k, Vis.s y k ∈ visSs l d → StmTy F y) ∧ Sub (vsAfter vars l) ((visSs l d).foldl rvF T)
  | [], d, vars, loops, T, F, hv, L, hnd, hdis, h, HF => ⟨fun y k hy => by simp [visSs] at hy, L⟩
  | x :: l, d, vars, loops, T, F, hv, L, hnd, hdis, h, HF => by
    simp only [visSs, namesV_append] at hnd hdis
    simp only [visSs, List.foldl_append] at HF ⊢
    rw [List.nodup_append] at hnd
    rw [bdR_cons] at h
    have hx : stR vars loops x = 0 := by
      apply Classical.byContradiction
      intro hc
      rw [if_neg (by simpa using hc)] at h
      exact hc h
    rw [if_pos (by simpa using hx)] at h
    have H := tyS x d vars loops T F (fun y k hy => hv y k (by simp only [visSs, List.mem_append]; exact .inl hy)) L hnd.1 (fun n hn => hdis n (List.mem_append_left _ hn)) hx ((Sub.fold _ (Sub.refl _)).trans HF)
    have K := tyB l d _ loops ((visS x d).foldl rvF T) F (fun y k hy => hv y k (by simp only [visSs, List.mem_append]; exact .inr hy)) H.2 hnd.2.1 (fun n hn => by
      rw [rvF_names, List.mem_append]
      rintro (hm | hm)
      · exact hdis n (List.mem_append_right _ hn) hm
      · exact hnd.2.2 n hm n hn rfl) h HF
    refine ⟨fun y k hy => ?_, K.2⟩
    rcases List.mem_append.1 hy with hy | hy
    · exact H.1 y k hy
    · exact K.1 y k hy
end
theorem chk_ty {p : Pr} (hc : chkS p = 0) : ∀ y k, Vis.s y k ∈ visSs p.body 1 → StmTy (allV p) y := by
  obtain ⟨V, hbl, hd, h0, hk⟩ := chk_zero hc
  have hbr : bdR p.params [] p.body = 0 := by rw [← (ck_link V hd).1]; exact hk
  have hn := ((dupR_false _ _).1 hd).1
  unfold namesS paramNames at hn
  rw [V.vis] at hn
  rw [List.nodup_append] at hn
  exact (tyB p.body 1 p.params [] p.params (allV p) V.stmOk3 (Sub.refl _) hn.2.1 (fun n hn' hm => hn.2.2 n hm n hn' rfl) hbr (Sub.refl _)).1
end Go.Proofs.YtdcmimpjmngdlaaGreat
